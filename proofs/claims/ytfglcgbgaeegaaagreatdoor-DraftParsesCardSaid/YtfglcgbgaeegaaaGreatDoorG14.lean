/-
 Gathered texts of this proof: Rp4,Rp5,Rp6,Rd9,Rd10,Lw10,Fin1,Fin2,Fin3,Fin4.
-/
import Derived.Test.YtfglcgbgaeegaaaGreatDoorG13
import Derived.Test.YtfglcgbgaeegaaaGreatDoorG03
import Derived.Test.YtfglcgbgaeegaaaGreatDoorRows
import Derived.ProofKit
import Derived.LaidMore
import Derived.OpenShut
import Derived.Stop.Joined
import Derived.Below
import Derived.ChangeSame
import Derived.Carry
import Derived.WideKeyArgs
import Derived.SevenTiedAt
import Derived.Test.YtfglcgbgaeegaaaGreatDoorG08
import Derived.ChangeSlices
import Derived.ChangeMaps5
import Derived.MakeChecks
import Derived.Stop.LaidErr
import Derived.Lib.SmallJoins
import Derived.Test.YtfglcgbgaeegaaaGreatDoorG11
import Derived.Deep.Strs
import Derived.DataReads
set_option maxRecDepth 100000

namespace Go.Proofs.YtfglcgbgaeegaaaGreatDoor
open Go Go.Vcg Go.RowKit Go.Sort
attribute [local irreducible] Br
theorem KO.app {h0 h3:Heap} {g:Nat} {A:Option Addr} {k c:Nat} {es:List Ex} (ko:KO h0 h3 g A k c es) {vs:List Value} (hvl:vs.length=6) (hv1 : ∀ y∈vs,Go.Vcg.one y=true) {g6:Nat} (hg6:h3 g6=none) (hg:h3 g≠none) (hle:Le (hole h0 g) (hole h3 g)) (hk:k<=8) {K:Option Addr->Nat->Heap->Prop}
  (hK : ∀ A' c' h', A' ≠ none->Le (hole h0 g) (hole h' g)->h' g=h3 g->(∀ x,IsE (cutA (hole h3 g) A) x vs->Szs x->KO h0 h' g A' (k+1) c' (es++[x]))->K A' c' h') :
  ∃ xs:List Value,RdS (h3.put g6 ⟨vs,39,(0,0)⟩) (some ⟨g6,0,none⟩) (1*6) xs/\(∀ y∈xs,Go.Vcg.one y=true)/\
   (k+1<=c-> ∃ (ad:Addr) (b:Blk),A=some ad/\ad.spot=none/\(h3.put g6 ⟨vs,39,(0,0)⟩) ad.block=some b/\b.fz=(0,0)/\ad.off+k*6+1*6<=b.cells.length/\
    ∀ h' : Heap,h' = Heap.put (h3.put g6 ⟨vs,39,(0,0)⟩) ad.block { b with cells:=setSeg b.cells (ad.off+k*6) xs }->K A c h')/\
   (c<k+1-> ∃ olds:List Value,RdS (h3.put g6 ⟨vs,39,(0,0)⟩) A (k*6) olds/\(k+1)*104<=140737488355328/\
    ∀ (g1 cap:Nat) (h' : Heap),(h3.put g6 ⟨vs,39,(0,0)⟩) g1=none->k+1<=cap->h' = Heap.put (h3.put g6 ⟨vs,39,(0,0)⟩) g1 ⟨olds++xs++repV zE (cap-(k+1)),39,(0,0)⟩->K (some ⟨g1,0,none⟩) cap h'):=by
 obtain ⟨a1,a2,a3⟩:=ko
 have hgg:g6≠g:=fun e=>by rw [e] at hg6;exact hg hg6
 have hn6:hole h3 g g6=none:=by rw [hole_ne _ hgg];exact hg6
 refine ⟨vs,⟨by rw [hvl],fun _=>⟨_,rfl,rfl,_,Heap.put_same _ _ _,by simp [List.take_of_length_le]⟩⟩,hv1, ?_, ?_⟩
 ·intro hcap
  rcases a3 with ⟨_,_,rfl⟩ | ⟨gk,cs,b0', b1,rfl,b3,b4,b5,b6⟩
  ·omega
  ·have hg6k:g6≠gk:=fun e=>by rw [e,b3] at hg6;cases hg6
   refine ⟨_,_,rfl,rfl,by rw [Heap.put_ne _ _ (fun e=>hg6k e.symm)];exact b3,rfl,by simp only;omega, ?_⟩
   rintro _ rfl
   have hx1 : ∀ B6 B7:Blk,hole ((h3.put g6 B6).put gk B7) g=((hole h3 g).put g6 B6).put gk B7:=fun B6 B7=>by
    rw [hole_put_ne _ _ b1,hole_put_ne _ _ hgg]
   refine hK _ _ _ (by simp) ?_ ?_ (fun x ux zx=>⟨by rw [List.length_append];simp;omega,SzsL.snoc a2 zx,Or.inr ⟨gk,setSeg cs (0+k*6) vs,b0', b1,rfl,Heap.put_same _ _ _, ?_,hcap, ?_⟩⟩)
   ·rw [hx1]
    refine Le.put ?_ (by rw [hole_ne _ b1];exact b0') _
    exact hle.trans (Le.new hn6 _)
   ·rw [Heap.put_ne _ _ (fun e=>b1 e.symm),Heap.put_ne _ _ (fun e=>hgg e.symm)]
   ·unfold setSeg
    rw [List.length_append,List.length_append,List.length_take,List.length_drop,hvl]
    omega
   ·refine IsEs.mono (h:=(hole (hole h3 g) gk).put g6 ⟨vs,39,(0,0)⟩) ?_ _ _ ?_
    ·rw [hx1,hole_put,hole_put_ne _ _ hg6k]
     exact Le.refl _
    ·have hn7:hole (hole h3 g) gk g6=none:=by rw [hole_ne _ hg6k];exact hn6
     have l7:=Le.new hn7 ⟨vs,39,(0,0)⟩
     have:=IsEs.snoc (rest:=cs.drop (0+k*6+vs.length)) (IsEs.mono l7 _ _ b6) (by omega) (IsE.mono l7 _ _ ux)
     unfold setSeg
     rw [show 0+k*6=6*es.length by omega] at this ⊢
     exact this
 ·intro hcap
  have hk6:k*6=6*es.length:=by omega
  have holds : ∃ olds:List Value,RdS (h3.put g6 ⟨vs,39,(0,0)⟩) A (k*6) olds/\IsEs (hole h3 g) es olds/\olds.length=6*es.length:=by
   rcases a3 with ⟨rfl,rfl,rfl⟩ | ⟨gk,cs,b0', b1,rfl,b3,b4,b5,b6⟩
   ·have:es=[]:=List.length_eq_zero_iff.1 a1
    subst this
    exact ⟨[],⟨rfl,fun q=>absurd q (by decide)⟩,by unfold IsEs;trivial,rfl⟩
   ·have hg6k:g6≠gk:=fun e=>by rw [e,b3] at hg6;cases hg6
    refine ⟨cs.take (6*es.length),⟨by rw [List.length_take];omega,fun _=>⟨_,rfl,rfl,_,by rw [Heap.put_ne _ _ (fun e=>hg6k e.symm)];exact b3, ?_⟩⟩, ?_,by rw [List.length_take];omega⟩
    ·simp only [List.drop_zero,List.length_take]
     congr 1
     omega
    ·exact IsEs.take (IsEs.mono (hole_le _ _) _ _ b6)
  obtain ⟨olds,hrd,hes,hol⟩:=holds
  refine ⟨olds,hrd,by omega, ?_⟩
  rintro g7 cap _ hg7 hcap7 rfl
  have hg76:g7≠g6:=fun e=>by rw [e,Heap.put_same] at hg7;cases hg7
  rw [Heap.put_ne _ _ hg76] at hg7
  have hgg7:g7≠g:=fun e=>by rw [e] at hg7;exact hg hg7
  have h07:h0 g7=none:=by
   cases hh:h0 g7 with
   | none=>rfl
   | some bb=>
    have:=hle g7 bb (by rw [hole_ne _ hgg7];exact hh)
    rw [hole_ne _ hgg7,hg7] at this
    cases this
  have hx1 : ∀ B6 B7:Blk,hole ((h3.put g6 B6).put g7 B7) g=((hole h3 g).put g6 B6).put g7 B7:=fun B6 B7=>by
   rw [hole_put_ne _ _ hgg7,hole_put_ne _ _ hgg]
  refine hK _ _ _ (by simp) ?_ ?_ (fun x ux zx=>⟨by rw [List.length_append];simp;omega,SzsL.snoc a2 zx,Or.inr ⟨g7,_,h07,hgg7,rfl,Heap.put_same _ _ _, ?_,hcap7, ?_⟩⟩)
  ·rw [hx1]
   refine Le.put ?_ (by rw [hole_ne _ hgg7];exact h07) _
   exact hle.trans (Le.new hn6 _)
  ·rw [Heap.put_ne _ _ (fun e=>hgg7 e.symm),Heap.put_ne _ _ (fun e=>hgg e.symm)]
  ·rw [List.length_append,List.length_append,hol,hvl,repV_six]
   omega
  ·rw [hx1,hole_put,hole_none (by rw [Heap.put_ne _ _ hg76,hole_ne _ hgg7];exact hg7)]
   have l7:=Le.new hn6 ⟨vs,39,(0,0)⟩
   have:=IsEs.snoc (rest:=repV zE (cap-(k+1))) (IsEs.mono l7 _ _ hes) (by omega) (IsE.mono (cutA_le _ _) _ _ ux |> IsE.mono l7 _ _)
   rw [List.take_of_length_le (by omega)] at this
   exact this
theorem Rdr.ne {S:Option Addr×Nat} {h:Heap} {g:Nat} {T:List (List UInt8)} {a:Nat} {e:Int} (u:Rdr S h g T a e):h g≠none:=by
 obtain ⟨ty,_,hb⟩:=u
 rw [hb];simp
theorem Rdr.keep {S:Option Addr×Nat} {h0 h h' : Heap} {g:Nat} {T:List (List UInt8)} {a a0:Nat} {e e0:Int} (u:Rdr S h g T a e) (u0:Rdr S h0 g T a0 e0) (hle:Le (hole h0 g) (hole h' g)) (hb:h' g=h g):Rdr S h' g T a e:=by
 obtain ⟨ty,_,hb1⟩:=u
 obtain ⟨_,hs0,_⟩:=u0
 exact ⟨ty,hs0.mono hle,by rw [hb];exact hb1⟩
theorem Shp.ones {k:Int} {s:Bool} {A:Option Addr} {n c:Nat} {B:Option Addr} {m d:Nat} {nm:List UInt8} {K:Option Addr} {kn kc:Nat} : ∀ y∈cellsE k s A n c B m d nm K kn kc,Go.Vcg.one y=true:=by
 intro y hy
 simp only [cellsE,List.mem_cons,List.not_mem_nil,or_false] at hy
 rcases hy with rfl | rfl | rfl | rfl | rfl | rfl<;>rfl
theorem rKid_c {n:Nat} (ih:ROk 169 ptr (qSum n)) {S:Option Addr×Nat} {h0 h:Heap} {g:Nat} {T:List (List UInt8)} {a a0:Nat} {e0:Int} {A:Option Addr} {k c:Nat} {es:List Ex} (u:Rdr S h g T a 0) (u0:Rdr S h0 g T a0 e0) (hle0:Le (hole h0 g) (hole h g)) (ha:a<=T.length) (hT:T.length<=400) (hTl : ∀ t∈T,t≠[]/\t.length<=400) (hne:qSum n (T.drop a) ≠ .error 99) (ko:KO h0 h g A k c es) :
  CallsU Tryz.prog 169 (ptr g) h fun v h' => Le (hole h g) (hole h' g)/\KO h0 h' g A k c es/\match qSum n (T.drop a) with
   | .error er=>er≠0/\Shp v/\ ∃ a' : Nat,Rdr S h' g T a' er/\a' + 2*a<=3*T.length+2
   | .ok (x,ts)=> ∃ (vs:List Value) (a' : Nat),v = .agg vs.toArray/\IsE (cutA (hole h' g) A) x vs/\Szs x/\Rdr S h' g T a' 0/\a<=a' /\ a' <= T.length/\T.drop a' = ts:=by
 obtain ⟨k1,k2,k3⟩:=ko
 rcases k3 with ⟨rfl,rfl,rfl⟩ | ⟨gk,cs,hg0,hgk,rfl,hb,hcl,hkc,hes⟩
 ·refine (ih u ha hT hTl hne).mono ?_
  rintro v h' ⟨hle,hm⟩
  refine ⟨hle,⟨k1,k2,Or.inl ⟨rfl,rfl,rfl⟩⟩, ?_⟩
  cases ho:qSum n (T.drop a) with
  | error e=>rw [ho] at hm;exact hm
  | ok p=>rw [ho] at hm;exact hm
 ·have hleK:Le (hole h0 g) (hole (hole h gk) g):=fun j b hj=>by
   have hjk:j≠gk:=fun e=>by
    rw [e,hole_ne _ hgk,hg0] at hj;cases hj
   have:=hle0 j b hj
   by_cases e2:j=g
   ·subst e2;rw [hole_at] at hj;cases hj
   ·rw [hole_ne _ e2] at this ⊢
    rw [hole_ne _ hjk];exact this
  have u1:Rdr S (hole h gk) g T a 0:=by
   obtain ⟨ty,_,e2⟩:=u
   obtain ⟨_,hs0,_⟩:=u0
   exact ⟨ty,hs0.mono hleK,by rw [hole_ne _ (fun e=>hgk e.symm)];exact e2⟩
  have fr:=(ih u1 ha hT hTl hne).frame (g:=gk) (b:=⟨cs,39,(0,0)⟩) (hole_at h gk)
  rw [put_hole hb] at fr
  refine fr.mono ?_
  rintro v _ ⟨h1,⟨hle,hm⟩,h1k,rfl⟩
  have hx:hole (h1.put gk ⟨cs,39,(0,0)⟩) g=(hole h1 g).put gk ⟨cs,39,(0,0)⟩:=hole_put_ne _ _ hgk
  have h1n:hole h1 g gk=none:=by rw [hole_ne _ hgk];exact h1k
  have hcut:hole ((hole h1 g).put gk ⟨cs,39,(0,0)⟩) gk=hole h1 g:=by rw [hole_put,hole_none h1n]
  have hleR:Le (hole h g) (hole (h1.put gk ⟨cs,39,(0,0)⟩) g):=by
   rw [hx]
   intro j b hj
   by_cases e:j=gk
   ·subst e
    rw [hole_ne _ hgk,hb] at hj
    cases hj
    rw [Heap.put_same]
   ·rw [Heap.put_ne _ _ e]
    apply hle
    by_cases e2:j=g
    ·subst e2;rw [hole_at] at hj;cases hj
    ·rw [hole_ne _ e2] at hj ⊢
     rw [hole_ne _ e];exact hj
  have keep : ∀ {a' : Nat} {e' : Int},Rdr S h1 g T a' e' -> Rdr S (h1.put gk ⟨cs,39,(0,0)⟩) g T a' e' := fun u=>by
   obtain ⟨ty,hs,hb'⟩:=u
   exact ⟨ty,by rw [hx];exact hs.mono (Le.new h1n _),by rw [Heap.put_ne _ _ (fun e=>hgk e.symm)];exact hb'⟩
  refine ⟨hleR,⟨k1,k2,Or.inr ⟨gk,cs,hg0,hgk,rfl,Heap.put_same _ _ _,hcl,hkc, ?_⟩⟩, ?_⟩
  ·rw [hx,hcut]
   refine IsEs.mono ?_ _ _ hes
   rw [hole_comm];exact hle
  ·cases ho:qSum n (T.drop a) with
   | error e=>
    rw [ho] at hm
    obtain ⟨h1', h2', a', u', hb'⟩:=hm
    exact ⟨h1', h2', a', keep u', hb'⟩
   | ok p=>
    obtain ⟨x,r'⟩:=p
    rw [ho] at hm
    obtain ⟨vs,a', hv,ux,zx,u', q1,q2,q3⟩:=hm
    refine ⟨vs,a', hv, ?_,zx,keep u', q1,q2,q3⟩
    show IsE (hole (hole (h1.put gk _) g) gk) x vs
    rw [hx,hcut];exact ux
def qAft (m:Nat) (k:Int) (es:List Ex) (ts:List (List UInt8)):RT:=
 if hdT ts=[41] then .ok (.mk k 0 0 0 [] es,ts.tail) else if hdT ts=[] then .error 4 else if hdT ts≠[44] then .error 2 else if es.length=8 then .error 2 else qCallL m k es ts.tail
theorem qCallL_aft (n:Nat) (k:Int) (es:List Ex) (ts:List (List UInt8)):qCallL (n+1) k es ts=match qSum n ts with | .error e=> .error e | .ok (x,ts')=>qAft n k (es++[x]) ts' := by
 rw [qCallL]
 cases qSum n ts with
 | error e=>rfl
 | ok p=>
  obtain ⟨x,ts'⟩:=p
  simp only [qAft,List.length_append,List.length_singleton]
theorem wrg_exp {T:List (List UInt8)} (hTl : ∀ t∈T,t≠[]/\t.length<=400) {a:Nat}:wrgV T a 0=if hdT (T.drop a)=[] then 4 else 2:=by
 unfold wrgV
 rw [if_pos rfl]
 by_cases h:T.length<=a
 ·rw [if_pos h,List.drop_eq_nil_of_le h];rfl
 ·rw [if_neg h,if_neg]
  have hlt:a<T.length:=by omega
  rw [List.drop_eq_getElem_cons hlt]
  exact (hTl _ (List.getElem_mem hlt)).1
theorem rTakeE_c {S:Option Addr×Nat} {h:Heap} {g:Nat} {T:List (List UInt8)} {a:Nat} (u:Rdr S h g T a 0) (ha:a<=1000000) (hTl : ∀ t∈T,t≠[]/\t.length<=400) (s:List UInt8) :
  CallsU Tryz.prog 280 [.pointer (some ⟨g,0,none⟩),sv s] h fun v h' => v = .tuple #[]/\Rdr S h' g T (a+1) (expT s (T.drop a))/\hole h' g=hole h g:=by
 refine (rTake_c u ha s).mono ?_
 rintro _ h1 ⟨rfl,u1,ho⟩
 refine ⟨rfl, ?_,ho⟩
 rw [nxt_ok,wrg_exp hTl] at u1
 exact u1
theorem rCall_step {n:Nat} {kd:Int} {nm:List UInt8} (hnm:(kd=8/\nm=[109,105,110])\/(kd=9/\nm=[109,97,120])) (ihE:RErr 169 ptr) (ih : ∀ k,k<=n->ROk 169 ptr (qSum k)):ROk 281 (fun g=>[.pointer (some ⟨g,0,none⟩),sv nm]) (qCall (n+1) kd):=by
 intro S h g T a u ha hT hTl hne
 rw [qCall] at hne ⊢
 apply garment_ref17_reader_call_ok
 unfold garment_ref17_reader_call_vc
 simp only [and_true,and_self]
 have bx:(⟨#[109,97,120]⟩:ByteArray).toList=[109,97,120]:=bytes_toList _
 have b44:(⟨#[44]⟩:ByteArray).toList=[44]:=bytes_toList _
 have c40:(⟨#[40]⟩:ByteArray)=⟨([40]:List UInt8).toArray⟩:=rfl
 have c41:(⟨#[41]⟩:ByteArray)=⟨([41]:List UInt8).toArray⟩:=rfl
 have hbn:(⟨nm.toArray⟩:ByteArray).toList=nm:=bytes_toList nm
 rw [hbn,bx]
 generalize hX:(if expT [40] (T.drop a)=0 then qCallL n kd [] (T.drop a).tail else .error (expT [40] (T.drop a)):RT)=X at hne ⊢
 refine ⟨fun e0 e1 e2A e2n e2c e3A e3n e3c e4 e5A e5n e5c h' => h=h' /\ kd=e0/\e1=false/\e2A=none/\e2n=0/\e2c=0/\e3A=none/\e3n=0/\e3c=0/\e4=ByteArray.empty/\e5A=none/\e5n=0/\e5c=0, ?_, ?_⟩
 ·rintro _ _ _ _ _ _ _ _ _ _ _ _ _ ⟨rfl,rfl,rfl,rfl,rfl,rfl,rfl,rfl,rfl,rfl,rfl,rfl,rfl⟩
  rw [c40]
  refine (rTakeE_c u (by omega) hTl [40]).mono ?_
  rintro _ h1 ⟨rfl,u1,ho1⟩
  have hle1:Le (hole h g) (hole h1 g):=by rw [ho1];exact Le.refl _
  refine ⟨rfl, ?_⟩
  have first:CallsU Tryz.prog 169 (ptr g) h1 fun v h3=> ∃ (k:Int) (s:Bool) (A:Option Addr) (nn c:Nat) (B:Option Addr) (mm d:Nat) (nm:List UInt8) (K:Option Addr) (kn kc:Nat),v = .agg (cellsE k s A nn c B mm d nm K kn kc).toArray/\Le (hole h g) (hole h3 g)/\
    ((∃ er a', X = .error er/\er≠0/\Rdr S h3 g T a' er/\a' + 1+2*a<=3*T.length+2)\/ ∃ x a' n', n' <= n/\IsE (hole h3 g) x (cellsE k s A nn c B mm d nm K kn kc)/\Szs x/\Rdr S h3 g T a' 0/\a<=a' /\ a' <= T.length/\qAft n' kd [x] (T.drop a')=X):=by
   by_cases h40:expT [40] (T.drop a)=0
   ·rw [if_pos h40] at hX
    rw [h40] at u1
    have hhd:hdT (T.drop a)=[40]:=by
     unfold expT at h40
     split at h40
     ·assumption
     ·split at h40<;>cases h40
    have hlt:a<T.length:=hd_lt (by rw [hhd];simp)
    cases n with
    | zero=>rw [qCallL] at hX;exact absurd hX.symm hne
    | succ n=>
     rw [qCallL_aft,<- drop_tail] at hX
     refine ((ih n (by omega)) u1 (by omega) hT hTl (fun q=>by rw [q] at hX;exact hne hX.symm)).mono ?_
     rintro _ h3 ⟨hle3,hG3⟩
     have hle13:=hle1.trans hle3
     cases ho:qSum n (T.drop (a+1)) with
     | error er=>
      rw [ho] at hG3 hX
      obtain ⟨he,⟨k,s,A,nn,c,B,mm,d,nm', K,kn,kc,rfl⟩,a3,u3,hb3⟩:=hG3
      exact ⟨k,s,A,nn,c,B,mm,d,nm', K,kn,kc,rfl,hle13,Or.inl ⟨er,a3,hX.symm,he,u3,by omega⟩⟩
     | ok p=>
      obtain ⟨x,ts⟩:=p
      rw [ho] at hG3 hX
      obtain ⟨vs,a3,rfl,ux,zx,u3,q1,q2,q3⟩:=hG3
      have ux' := ux
      obtain ⟨s,A,c,B,d,K,kc,rfl,_⟩:=ux'.open
      exact ⟨_,_,_,_,_,_,_,_,_,_,_,_,rfl,hle13,Or.inr ⟨x,a3,n,by omega,ux,zx,u3,by omega,q2,by rw [q3];exact hX⟩⟩
   ·rw [if_neg h40] at hX
    refine (ihE u1 h40).mono ?_
    rintro _ h3 ⟨⟨k,s,A,nn,c,B,mm,d,nm', K,kn,kc,rfl⟩,u3,ho3⟩
    exact ⟨k,s,A,nn,c,B,mm,d,nm', K,kn,kc,rfl,by rw [ho3];exact hle1,Or.inl ⟨_,a+1,hX.symm,h40,u3,by omega⟩⟩
  have bad : ∀ {h5:Heap} {A:Option Addr} {k c:Nat} {er:Int} {a' : Nat},Le (hole h g) (hole h5 g)->X = .error er->er≠0->Rdr S h5 g T a' er->a' + 1+2*a<=3*T.length+2->CallsU Tryz.prog 280 [.pointer (some ⟨g,0,none⟩),sv [41]] h5 fun v h' => v=Value.tuple #[]/\GR S X T g a h (Value.agg #[Value.int .i64 kd,Value.bool false,Value.slice none 0 0,Value.slice none 0 0,Value.string ByteArray.empty,Value.slice A k c]) h' := fun {h5 A k c er a'} hle5 hXe he u5 hb=>by
   refine (rTake_c u5 (by omega) [41]).mono ?_
   rintro _ h6 ⟨rfl,u6,ho6⟩
   rw [nxt_err _ _ he,wrg_err _ _ he,if_neg (by decide)] at u6
   rw [hXe]
   exact ⟨rfl,by rw [ho6];exact hle5,he,⟨kd,false,none,0,0,none,0,0,[],A,k,c,rfl⟩,a' + 1,u6,hb⟩
  have good : ∀ {h5:Heap} {A:Option Addr} {k c m a' : Nat} {es:List Ex},Le (hole h g) (hole h5 g)->KO h h5 g A k c es->1<=k->k<=8->A≠none->Rdr S h5 g T a' 0->a<=a' -> a' <= T.length->qAft m kd es (T.drop a')=X-> ¬ (k<8/\hdT (T.drop a')=[44])->
    CallsU Tryz.prog 280 [.pointer (some ⟨g,0,none⟩),sv [41]] h5 fun v h' => v=Value.tuple #[]/\GR S X T g a h (Value.agg #[Value.int .i64 kd,Value.bool false,Value.slice none 0 0,Value.slice none 0 0,Value.string ByteArray.empty,Value.slice A k c]) h' := fun {h5 A k c m a' es} hle5 ko hk1 hk8 hA u5 ha1 ha2 hq hno' => by
   have hkl:=ko.1
   refine (rTakeE_c u5 (by omega) hTl [41]).mono ?_
   rintro _ h6 ⟨rfl,u6,ho6⟩
   refine ⟨rfl, ?_⟩
   have hle6:Le (hole h g) (hole h6 g):=by rw [ho6];exact hle5
   have shp:Shp (Value.agg #[Value.int .i64 kd,Value.bool false,Value.slice none 0 0,Value.slice none 0 0,Value.string ByteArray.empty,Value.slice A k c]):=⟨kd,false,none,0,0,none,0,0,[],A,k,c,rfl⟩
   unfold qAft at hq
   unfold expT at u6
   by_cases q1:hdT (T.drop a')=[41]
   ·rw [if_pos q1] at hq u6
    rw [<- hq]
    obtain ⟨a1,a2,a3⟩:=ko
    rcases a3 with ⟨a3,_⟩ | ⟨gk,cs,b0', b1,b2,b3,b4,b5,b6⟩
    ·exact absurd a3 hA
    ·subst b2
     have hlt:a' < T.length:=hd_lt (by rw [q1];simp)
     refine ⟨hle6,_,a' + 1,rfl, ?_, ?_,u6,by omega,by omega,drop_tail⟩
     ·have e1:=IsE_op (h:=hole h5 g) (k:=kd) (es:=es) (gk:=gk) (c:=c) (ty:=39) (cs:=cs) (by rw [hole_ne _ b1];exact b3) (by omega) (by omega) (IsEs.mono (hole_le _ _) _ _ b6)
      rw [a1] at e1
      rw [ho6]
      exact e1
     ·unfold Szs
      exact ⟨by omega,by omega,by simp,by omega,a2⟩
   ·rw [if_neg q1] at hq u6
    by_cases q2:hdT (T.drop a')=[]
    ·rw [if_pos q2] at hq u6
     rw [<- hq]
     exact ⟨hle6,by decide,shp,a' + 1,u6,by omega⟩
    ·rw [if_neg q2] at hq u6
     have hq2:X = .error 2:=by
      by_cases q3:hdT (T.drop a')=[44]
      ·have hk:k=8:=by
        by_cases q:k<8
        ·exact absurd ⟨q,q3⟩ hno'
        ·omega
       rw [if_neg (fun q=>q q3),if_pos (by omega)] at hq
       exact hq.symm
      ·rw [if_pos q3] at hq
       exact hq.symm
     rw [hq2]
     exact ⟨hle6,by decide,shp,a' + 1,u6,by omega⟩
  refine first.mono ?_
  rintro _ h3 ⟨k0,s0,A0,n0,c0,B0,m0,d0,nm0,K0,kn0,kc0,rfl,hle3,hc3⟩
  refine ⟨_,_,_,_,_,_,_,_,_,_,_,_,rfl, ?_⟩
  rintro gk _ hgk rfl
  refine ⟨fun m e0 e1 e2A e2n e2c e3A e3n e3c e4 A k c h' => kd=e0/\e1=false/\e2A=none/\e2n=0/\e2c=0/\e3A=none/\e3n=0/\e3c=0/\e4=ByteArray.empty/\Le (hole h g) (hole h' g)/\
   ((∃ er a', X = .error er/\er≠0/\Rdr S h' g T a' er/\a' + 1+2*a<=3*T.length+2)\/(m<=n/\ ∃ es a', KO h h' g A k c es/\1<=k/\k<=8/\A≠none/\Rdr S h' g T a' 0/\a<=a' /\ a' <= T.length/\qAft m kd es (T.drop a')=X)), ?_, ?_⟩
  ·rcases hc3 with ⟨er,a', hXe,he,u3,hb⟩ | ⟨x,a', n', hn', ux,zx,u3,h31,h32,hq⟩
   ·obtain ⟨u4,hgg,hn4,ho4⟩:=u3.put hgk ⟨[Value.int .i64 k0,Value.bool s0,Value.slice A0 n0 c0,Value.slice B0 m0 d0,sv nm0,Value.slice K0 kn0 kc0],39,(0,0)⟩
    exact ⟨0,rfl,rfl,rfl,rfl,rfl,rfl,rfl,rfl,rfl,by rw [ho4];exact hle3.trans (Le.new hn4 _),Or.inl ⟨er,a', hXe,he,u4,hb⟩⟩
   ·obtain ⟨u4,hgg,hn4,ho4⟩:=u3.put hgk ⟨[Value.int .i64 k0,Value.bool s0,Value.slice A0 n0 c0,Value.slice B0 m0 d0,sv nm0,Value.slice K0 kn0 kc0],39,(0,0)⟩
    refine ⟨n', rfl,rfl,rfl,rfl,rfl,rfl,rfl,rfl,rfl,by rw [ho4];exact hle3.trans (Le.new hn4 _),Or.inr ⟨hn', [x],a', ⟨rfl, ?_,Or.inr ⟨gk,cellsE k0 s0 A0 n0 c0 B0 m0 d0 nm0 K0 kn0 kc0, ?_,hgg,rfl,Heap.put_same _ _ _,rfl,Nat.le_refl _, ?_⟩⟩,by omega,by omega,by simp,u4,h31,h32,hq⟩⟩
    ·unfold SzsL
     exact ⟨zx,by unfold SzsL;trivial⟩
    ·cases hh:h gk with
     | none=>rfl
     | some bb=>
      have:=hle3 gk bb (by rw [hole_ne _ hgg];exact hh)
      rw [hn4] at this
      cases this
    ·rw [ho4,hole_put,hole_none hn4]
     unfold IsEs
     exact ⟨ux,by unfold IsEs;trivial⟩
  ·rintro m _ _ _ _ _ _ _ _ _ A k c h5 ⟨rfl,rfl,rfl,rfl,rfl,rfl,rfl,rfl,rfl,hle5,hj⟩
   rw [c41]
   rcases hj with ⟨er,a', hXe,he,u5,hb⟩ | ⟨hm,es,a', ko,hk1,hk8,hA,u5,ha1,ha2,hq⟩
   ·refine ⟨fun t h' => t=false/\h5=h', ?_,Br.mk (fun _=>(rNext_c u5).mono ?_) (fun _=>⟨rfl,rfl⟩)⟩
    ·rintro _ _ ⟨rfl,rfl⟩
     exact Br.mk (fun q=>by cases q) (fun _=>bad hle5 hXe he u5 hb)
    ·rintro _ _ ⟨rfl,rfl⟩
     refine ⟨_,rfl, ?_,rfl⟩
     rw [nxt_err _ _ he,bytes_toList,b44]
     decide
   ·have hkl:=ko.1
    refine ⟨fun t h' => h5=h' /\ t=decide (k<8/\hdT (T.drop a')=[44]), ?_,Br.mk (fun q=>(rNext_c u5).mono ?_) (fun q=>⟨rfl, ?_⟩)⟩
    ·rintro _ _ ⟨rfl,rfl⟩
     refine Br.mk (fun q=> ?_) (fun q=>good hle5 ko hk1 hk8 hA u5 ha1 ha2 hq (of_decide_eq_false q))
     obtain ⟨hk,hhd⟩:=of_decide_eq_true q
     have hlt:a' < T.length:=hd_lt (by rw [hhd];simp)
     have hq' : qCallL m kd es (T.drop (a' + 1))=X:=by
      unfold qAft at hq
      have d1:([44]:List UInt8)≠[41]:=by decide
      have d2:([44]:List UInt8)≠[]:=by decide
      rw [if_neg (by rw [hhd];exact d1),if_neg (by rw [hhd];exact d2),if_neg (fun q=>q hhd),if_neg (by omega),<- drop_tail] at hq
      exact hq
     cases m with
     | zero=>rw [qCallL] at hq';exact absurd hq'.symm hne
     | succ m=>
      rw [qCallL_aft] at hq'
      refine u5.step (by omega) fun h6 u6 ho6=> ?_
      have hle6:Le (hole h g) (hole h6 g):=by rw [ho6];exact hle5
      have ko6:KO h h6 g A k c es:=by
       obtain ⟨a1,a2,a3⟩:=ko
       refine ⟨a1,a2, ?_⟩
       rcases a3 with a3 | ⟨gk,cs,b0', b1,b2,b3,b4,b5,b6⟩
       ·exact Or.inl a3
       ·refine Or.inr ⟨gk,cs,b0', b1,b2, ?_,b4,b5,by rw [ho6];exact b6⟩
        have:=congrFun ho6 gk
        rw [hole_ne _ b1,hole_ne _ b1] at this
        rw [this];exact b3
      refine (rKid_c (ih m (by omega)) u6 u hle6 (by omega) hT hTl (fun q=>by rw [q] at hq';exact hne hq'.symm) ko6).mono ?_
      rintro _ h7 ⟨hle7,ko7,hG7⟩
      have hle67:=hle6.trans hle7
      cases ho:qSum m (T.drop (a' + 1)) with
      | error er=>
       rw [ho] at hG7 hq'
       obtain ⟨he,⟨k7,s7,A7,n7,c7,B7,m7,d7,nm7,K7,kn7,kc7,rfl⟩,a7,u7,hb7⟩:=hG7
       refine ⟨_,_,_,_,_,_,_,_,_,_,_,_,rfl, ?_⟩
       rintro g8 _ hg8 rfl
       refine ko7.app (K:=fun A' c' h' => ∃ m_1,m_1<m+1/\(kd=kd/\false=false/\(none:Option Addr)=none/\0=0/\0=0/\(none:Option Addr)=none/\0=0/\0=0/\ByteArray.empty=ByteArray.empty/\Le (hole h g) (hole h' g)/\((∃ er a', X = .error er/\er≠0/\Rdr S h' g T a' er/\a' + 1+2*a<=3*T.length+2)\/(m_1<=n/\ ∃ es a', KO h h' g A' (k+1) c' es/\1<=k+1/\k+1<=8/\A' ≠ none/\Rdr S h' g T a' 0/\a<=a' /\ a' <= T.length/\qAft m_1 kd es (T.drop a')=X)))) rfl Shp.ones hg8 u7.ne hle67 (by omega) (fun A' c' h9 hA' hle9 hb9 _=> ?_)
       exact ⟨m,by omega,rfl,rfl,rfl,rfl,rfl,rfl,rfl,rfl,rfl,hle9,Or.inl ⟨er,a7,hq'.symm,he,u7.keep u hle9 hb9,by omega⟩⟩
      | ok p=>
       obtain ⟨x,ts⟩:=p
       rw [ho] at hG7 hq'
       obtain ⟨vs,a7,rfl,ux,zx,u7,q1,q2,q3⟩:=hG7
       have ux' := ux
       obtain ⟨s7,A7,c7,B7,d7,K7,kc7,rfl,_⟩:=ux'.open
       refine ⟨_,_,_,_,_,_,_,_,_,_,_,_,rfl, ?_⟩
       rintro g8 _ hg8 rfl
       refine ko7.app (K:=fun A' c' h' => ∃ m_1,m_1<m+1/\(kd=kd/\false=false/\(none:Option Addr)=none/\0=0/\0=0/\(none:Option Addr)=none/\0=0/\0=0/\ByteArray.empty=ByteArray.empty/\Le (hole h g) (hole h' g)/\((∃ er a', X = .error er/\er≠0/\Rdr S h' g T a' er/\a' + 1+2*a<=3*T.length+2)\/(m_1<=n/\ ∃ es a', KO h h' g A' (k+1) c' es/\1<=k+1/\k+1<=8/\A' ≠ none/\Rdr S h' g T a' 0/\a<=a' /\ a' <= T.length/\qAft m_1 kd es (T.drop a')=X)))) rfl Shp.ones hg8 u7.ne hle67 (by omega) (fun A' c' h9 hA' hle9 hb9 hko9=> ?_)
       exact ⟨m,by omega,rfl,rfl,rfl,rfl,rfl,rfl,rfl,rfl,rfl,hle9,Or.inr ⟨by omega,es++[x],a7,hko9 x ux zx,by omega,by omega,hA', u7.keep u hle9 hb9,by omega,q2,by rw [q3];exact hq'⟩⟩
    ·rintro _ _ ⟨rfl,rfl⟩
     refine ⟨_,rfl,rfl, ?_⟩
     rw [nxt_ok,bytes_toList,b44,Bool.eq_iff_iff,beq_iff_eq,decide_eq_true_eq]
     have hk:k<8:=by have:=of_decide_eq_true q;omega
     exact ⟨fun h=>⟨hk,h⟩,fun h=>h.2⟩
    ·have hk : ¬ k<8:=by have:=of_decide_eq_false q;omega
     rw [decide_eq_false (fun h=>hk h.1)]
 ·rcases hnm with ⟨rfl,rfl⟩ | ⟨rfl,rfl⟩
  ·exact Br.mk (fun q=>by exact absurd q (by decide)) (fun _=>⟨rfl,rfl,rfl,rfl,rfl,rfl,rfl,rfl,rfl,rfl,rfl,rfl,rfl⟩)
  ·exact Br.mk (fun _=>⟨rfl,rfl,rfl,rfl,rfl,rfl,rfl,rfl,rfl,rfl,rfl,rfl,rfl⟩) (fun q=>by exact absurd q (by decide))
theorem refNum_le {w:List UInt8} {v:Nat} (h:refNum w=some v):v<=9999999999999:=by
 unfold refNum at h
 simp only at h
 have halldg:(w.takeWhile isDg).all isDg=true:=List.all_takeWhile
 have fin : ∀ l:List UInt8,l.all isDg=true->l.length<=13->dgV l<=9999999999999:=fun l h1 h2=>by
  have:=dgV_bound h1 h2
  omega
 split at h
 ·rename_i hc
  split at h
  ·split at h
   ·rename_i hr
    cases h
    refine fin _ ?_ ?_
    ·rw [take4 hr.2.2.1,List.all_append,List.all_append,halldg,hr.2.2.2]
     simp [List.all_replicate,isDg]
    ·rw [take4 hr.2.2.1,List.length_append,List.length_append,List.length_replicate]
     have:=hr.2.2.1
     omega
   ·cases h
  ·cases h
   refine fin _ ?_ ?_
   ·rw [List.all_append,halldg];decide
   ·rw [List.length_append];simp;omega
 ·cases h
theorem rFactor_err:RErr 257 ptr:=by
 intro S h g T a e u he
 apply garment_ref17_reader_factor_ok
 refine (rNext_c u).mono ?_
 rintro _ _ ⟨rfl,rfl⟩
 have b1:(⟨#[45]⟩:ByteArray).toList=[45]:=bytes_toList _
 have b2:(⟨#[40]⟩:ByteArray).toList=[40]:=bytes_toList _
 have b3:(⟨#[109,105,110]⟩:ByteArray).toList=[109,105,110]:=bytes_toList _
 have b4:(⟨#[109,97,120]⟩:ByteArray).toList=[109,97,120]:=bytes_toList _
 refine ⟨_,rfl, ?_⟩
 rw [nxt_err _ _ he,bytes_toList,b1,b2,b3,b4]
 refine Br.mk (fun q=>by exact absurd q (by decide)) (fun _=>Br.mk (fun q=>by exact absurd q (by decide)) (fun _=> ?_))
 refine ⟨fun t h' => t=false/\h=h', ?_,Br.mk (fun q=>by exact absurd q (by decide)) (fun _=>⟨by decide,rfl⟩)⟩
 rintro _ _ ⟨rfl,rfl⟩
 refine Br.mk (fun q=>by cases q) (fun _=>(rNumber17_c [] (by simp) h).mono ?_)
 rintro _ _ ⟨rfl,rfl⟩
 refine ⟨_,_,rfl,Br.mk (fun q=>by exact absurd q (by decide)) (fun _=>(rName_c [] h).mono ?_)⟩
 rintro _ _ ⟨rfl,rfl⟩
 refine ⟨_,rfl,Br.mk (fun _=>(rWrong_c u).mono ?_) (fun q=>by exact absurd q (by decide))⟩
 rintro _ h1 ⟨rfl,u1,ho1⟩
 rw [wrg_err _ _ he] at u1
 exact ⟨rfl,⟨0,false,none,0,0,none,0,0,[],none,0,0,rfl⟩,u1,ho1⟩
theorem rFactor_step {n:Nat} (ihF:ROk 257 ptr (qFac n)) (ihS:ROk 169 ptr (qSum n)) (ihC : ∀ (kd:Int) (nm:List UInt8),((kd=8/\nm=[109,105,110])\/(kd=9/\nm=[109,97,120]))->ROk 281 (fun g=>[.pointer (some ⟨g,0,none⟩),sv nm]) (qCall n kd)):ROk 257 ptr (qFac (n+1)):=by
 intro S h g T a u ha hT hTl hne
 rw [qFac] at hne ⊢
 apply garment_ref17_reader_factor_ok
 refine (rNext_c u).mono ?_
 rintro _ _ ⟨rfl,rfl⟩
 have b1:(⟨#[45]⟩:ByteArray).toList=[45]:=bytes_toList _
 have b2:(⟨#[40]⟩:ByteArray).toList=[40]:=bytes_toList _
 have b3:(⟨#[109,105,110]⟩:ByteArray).toList=[109,105,110]:=bytes_toList _
 have b4:(⟨#[109,97,120]⟩:ByteArray).toList=[109,97,120]:=bytes_toList _
 refine ⟨_,rfl, ?_⟩
 rw [nxt_ok,bytes_toList,b1,b2,b3,b4]
 have hwr:=wrg_exp hTl (a:=a)
 have htl:T.drop (a+1)=(T.drop a).tail:=drop_tail
 have hmem:hdT (T.drop a)≠[]->hdT (T.drop a)∈T/\a<T.length:=fun hh=>by
  have hlt:=hd_lt hh
  refine ⟨?_,hlt⟩
  rw [List.drop_eq_getElem_cons hlt]
  exact List.getElem_mem hlt
 generalize hts:T.drop a=ts at *
 have shZ:Shp (Value.agg #[Value.int .i64 0,Value.bool false,Value.slice none 0 0,Value.slice none 0 0,Value.string ByteArray.empty,Value.slice none 0 0]):=⟨0,false,none,0,0,none,0,0,[],none,0,0,rfl⟩
 refine Br.mk (fun q1=> ?_) (fun q1=> ?_)
 ·
  have e1:=beq_iff_eq.1 q1
  have d0:([45]:List UInt8)≠[]:=by decide
  obtain ⟨_,hlt⟩:=hmem (by rw [e1];exact d0)
  rw [e1,if_neg d0,if_pos rfl] at hne ⊢
  refine u.step (by omega) fun h1 u1 ho1=> ?_
  have hs:=ihF u1 (by omega) hT hTl (fun q=>by rw [htl] at q;rw [q] at hne;exact hne rfl)
  rw [htl] at hs
  refine hs.mono ?_
  rintro _ h2 ⟨hle2,hG⟩
  rw [ho1] at hle2
  cases ho:qFac n ts.tail with
  | error er=>
   rw [ho] at hG
   obtain ⟨he,⟨k,s,A,nn,c,B,mm,d,nm', K,kn,kc,rfl⟩,a2,u2,hb2⟩:=hG
   refine ⟨_,_,_,_,_,_,_,_,_,_,_,_,rfl, ?_⟩
   rintro gk _ hgk rfl
   obtain ⟨u3,hgg,hn3,ho3⟩:=u2.put hgk ⟨[Value.int .i64 k,Value.bool s,Value.slice A nn c,Value.slice B mm d,sv nm', Value.slice K kn kc],39,(0,0)⟩
   exact ⟨by rw [ho3];exact hle2.trans (Le.new hn3 _),he,⟨7,false,none,0,0,none,0,0,[],some ⟨gk,0,none⟩,1,1,rfl⟩,a2,u3,by omega⟩
  | ok p=>
   obtain ⟨x,r'⟩:=p
   rw [ho] at hG
   obtain ⟨vs,a2,rfl,ux,zx,u2,q3,q4,q5⟩:=hG
   have ux' := ux
   obtain ⟨s,A,c,B,d,K,kc,rfl,_⟩:=ux'.open
   refine ⟨_,_,_,_,_,_,_,_,_,_,_,_,rfl, ?_⟩
   rintro gk _ hgk rfl
   obtain ⟨u3,hgg,hn3,ho3⟩:=u2.put hgk ⟨[Value.int .i64 x.kind,Value.bool s,Value.slice A x.ln c,Value.slice B x.lm d,sv x.name,Value.slice K x.kids.length kc],39,(0,0)⟩
   refine ⟨by rw [ho3];exact hle2.trans (Le.new hn3 _),_,a2,rfl, ?_, ?_,u3,by omega,q4,q5⟩
   ·rw [ho3]
    refine IsE_op (k:=7) (es:=[x]) (gk:=gk) (c:=1) (ty:=39) (Heap.put_same _ _ _) (by simp) (by simp) ?_
    unfold IsEs
    exact ⟨IsE.mono (Le.new hn3 _) _ _ ux,by unfold IsEs;trivial⟩
   ·unfold Szs
    exact ⟨by omega,by omega,by simp,by simp,by unfold SzsL;exact ⟨zx,by unfold SzsL;trivial⟩⟩
 have n1:=beq_eq_false_iff_ne.1 q1
 refine Br.mk (fun q2=> ?_) (fun q2=> ?_)
 ·
  have e1:=beq_iff_eq.1 q2
  have d0:([40]:List UInt8)≠[]:=by decide
  have d1:([40]:List UInt8)≠[45]:=by decide
  obtain ⟨_,hlt⟩:=hmem (by rw [e1];exact d0)
  rw [e1,if_neg d0,if_neg d1,if_pos rfl] at hne ⊢
  refine u.step (by omega) fun h1 u1 ho1=> ?_
  have hs:=ihS u1 (by omega) hT hTl (fun q=>by rw [htl] at q;rw [q] at hne;exact hne rfl)
  rw [htl] at hs
  refine hs.mono ?_
  rintro _ h2 ⟨hle2,hG⟩
  rw [ho1] at hle2
  have c41:(⟨#[41]⟩:ByteArray)=⟨([41]:List UInt8).toArray⟩:=rfl
  rw [c41]
  cases ho:qSum n ts.tail with
  | error er=>
   rw [ho] at hG
   obtain ⟨he,⟨k,s,A,nn,c,B,mm,d,nm', K,kn,kc,rfl⟩,a2,u2,hb2⟩:=hG
   refine ⟨_,_,_,_,_,_,_,_,_,_,_,_,rfl,(rTake_c u2 (by omega) [41]).mono ?_⟩
   rintro _ h3 ⟨rfl,u3,ho3⟩
   rw [nxt_err _ _ he,wrg_err _ _ he,if_neg (by decide)] at u3
   exact ⟨rfl,by rw [ho3];exact hle2,he,⟨k,s,A,nn,c,B,mm,d,nm', K,kn,kc,rfl⟩,a2+1,u3,by omega⟩
  | ok p=>
   obtain ⟨x,r'⟩:=p
   rw [ho] at hG
   obtain ⟨vs,a2,rfl,ux,zx,u2,q3,q4,q5⟩:=hG
   have ux' := ux
   obtain ⟨s,A,c,B,d,K,kc,rfl,_⟩:=ux'.open
   refine ⟨_,_,_,_,_,_,_,_,_,_,_,_,rfl,(rTakeE_c u2 (by omega) hTl [41]).mono ?_⟩
   rintro _ h3 ⟨rfl,u3,ho3⟩
   rw [q5] at u3
   dsimp only
   by_cases hx:expT [41] r' = 0
   ·rw [if_pos hx]
    rw [hx] at u3
    have hlt2:a2<T.length:=hd_lt (by
     rw [q5]
     unfold expT at hx
     split at hx
     ·rename_i e;rw [e];simp
     ·split at hx<;>cases hx)
    exact ⟨rfl,by rw [ho3];exact hle2,_,a2+1,rfl,by rw [ho3];exact ux,zx,u3,by omega,by omega,by rw [drop_tail,q5]⟩
   ·rw [if_neg hx]
    exact ⟨rfl,by rw [ho3];exact hle2,hx,Shp.of ux,a2+1,u3,by omega⟩
 have n2:=beq_eq_false_iff_ne.1 q2
 have call : ∀ (kd:Int) (nm:List UInt8),((kd=8/\nm=[109,105,110])\/(kd=9/\nm=[109,97,120]))->hdT ts=nm->qCall n kd ts.tail ≠ .error 99-> ∃ t45:Int,LdN h (Addr.add ⟨g,0,none⟩ 1) [Value.int .i64 t45]/\ ∀ t46:Int,t46=IntKind.i64.wrap (t45+1)->
   ∃ b_2:Blk,h (Addr.block (Addr.add ⟨g,0,none⟩ 1))=some b_2/\b_2.fz=(0,0)/\Addr.spot (Addr.add ⟨g,0,none⟩ 1)=none/\Addr.off (Addr.add ⟨g,0,none⟩ 1)+1<=b_2.cells.length/\
   ∀ h_9:Heap,h_9=Heap.put h (Addr.block (Addr.add ⟨g,0,none⟩ 1)) { b_2 with cells:=setSeg b_2.cells (Addr.off (Addr.add ⟨g,0,none⟩ 1)) [Value.int .i64 t46] }->
   CallsU Tryz.prog 281 [Value.pointer (some ⟨g,0,none⟩),sv nm] h_9 fun v_4 h_10=>
   ∃ t51_0:Int,∃ t51_1:Bool,∃ t51_2A:Option Addr,∃ t51_2n t51_2c:Nat,∃ t51_3A:Option Addr,∃ t51_3n t51_3c:Nat,∃ t51_4:ByteArray,∃ t51_5A:Option Addr,∃ t51_5n t51_5c:Nat,v_4=Value.agg #[Value.int .i64 t51_0,Value.bool t51_1,Value.slice t51_2A t51_2n t51_2c,Value.slice t51_3A t51_3n t51_3c,Value.string t51_4,Value.slice t51_5A t51_5n t51_5c]/\
   GR S (qCall n kd ts.tail) T g a h (Value.agg #[Value.int .i64 t51_0,Value.bool t51_1,Value.slice t51_2A t51_2n t51_2c,Value.slice t51_3A t51_3n t51_3c,Value.string t51_4,Value.slice t51_5A t51_5n t51_5c]) h_10:=fun kd nm hor hnm hq=>by
  obtain ⟨_,hlt⟩:=hmem (by rw [hnm];rcases hor with ⟨_,rfl⟩ | ⟨_,rfl⟩<;>simp)
  refine u.step (by omega) fun h1 u1 ho1=> ?_
  have hs:=ihC kd nm hor u1 (by omega) hT hTl (by rw [htl];exact hq)
  rw [htl] at hs
  refine hs.mono ?_
  rintro _ h2 ⟨hle2,hG⟩
  rw [ho1] at hle2
  cases ho:qCall n kd ts.tail with
  | error er=>
   rw [ho] at hG
   obtain ⟨he,⟨k,s,A,nn,c,B,mm,d,nm', K,kn,kc,rfl⟩,a2,u2,hb2⟩:=hG
   exact ⟨_,_,_,_,_,_,_,_,_,_,_,_,rfl,hle2,he,⟨k,s,A,nn,c,B,mm,d,nm', K,kn,kc,rfl⟩,a2,u2,by omega⟩
  | ok p=>
   obtain ⟨x,r'⟩:=p
   rw [ho] at hG
   obtain ⟨vs,a2,rfl,ux,zx,u2,q3,q4,q5⟩:=hG
   have ux' := ux
   obtain ⟨s,A,c,B,d,K,kc,rfl,_⟩:=ux'.open
   exact ⟨_,_,_,_,_,_,_,_,_,_,_,_,rfl,hle2,_,a2,rfl,ux,zx,u2,by omega,q4,q5⟩
 refine ⟨fun t h' => h=h' /\ t=decide (hdT ts=[109,105,110]\/hdT ts=[109,97,120]), ?_,Br.mk (fun q=>⟨rfl, ?_⟩) (fun q=>⟨rfl, ?_⟩)⟩
 ·rintro _ _ ⟨rfl,rfl⟩
  refine Br.mk (fun q=> ?_) (fun q=> ?_)
  ·have hor:=of_decide_eq_true q
   rcases hor with e | e
   ·have d0:([109,105,110]:List UInt8)≠[]:=by decide
    have d1:([109,105,110]:List UInt8)≠[45]:=by decide
    have d2:([109,105,110]:List UInt8)≠[40]:=by decide
    rw [e,if_neg d0,if_neg d1,if_neg d2,if_pos rfl] at hne ⊢
    exact call 8 [109,105,110] (Or.inl ⟨rfl,rfl⟩) e hne
   ·have d0:([109,97,120]:List UInt8)≠[]:=by decide
    have d1:([109,97,120]:List UInt8)≠[45]:=by decide
    have d2:([109,97,120]:List UInt8)≠[40]:=by decide
    have d3:([109,97,120]:List UInt8)≠[109,105,110]:=by decide
    rw [e,if_neg d0,if_neg d1,if_neg d2,if_neg d3,if_pos rfl] at hne ⊢
    exact call 9 [109,97,120] (Or.inr ⟨rfl,rfl⟩) e hne
  ·have hnor:=of_decide_eq_false q
   have n3:hdT ts≠[109,105,110]:=fun e=>hnor (Or.inl e)
   have n4:hdT ts≠[109,97,120]:=fun e=>hnor (Or.inr e)
   have htlen:(hdT ts).length<=1000000:=by
    by_cases h0:hdT ts=[]
    ·rw [h0];simp
    ·have:=(hTl _ (hmem h0).1).2;omega
   refine (rNumber17_c (hdT ts) htlen h).mono ?_
   rintro _ _ ⟨rfl,rfl⟩
   refine ⟨_,_,rfl, ?_⟩
   have hnum:=refNum_eq (hdT ts)
   cases hr:refNum (hdT ts) with
   | some v=>
    rw [hr] at hnum
    simp only [Option.map_some] at hnum
    have h0:hdT ts≠[]:=fun e=>by rw [e] at hr;cases hr
    obtain ⟨_,hlt⟩:=hmem h0
    rw [if_neg h0,if_neg n1,if_neg n2,if_neg n3,if_neg n4,hnum] at hne ⊢
    refine Br.mk (fun _=> ?_) (fun q=>by cases q)
    refine u.step (by omega) fun h1 u1 ho1=> ?_
    have hvb:v<=9999999999999:=refNum_le hr
    simp only [Option.getD_some]
    have u1' := u1
    obtain ⟨ty1,hs1,hb1⟩:=u1'
    have fr:=(r3of_c (v:Int) 10000 (by omega) (by omega) (by omega) (by omega) (by omega) (hole h1 g)).frame (g:=g) (b:=⟨[.slice S.1 T.length S.2,.int .i64 ((a+1:Nat):Int),.int .i64 0],ty1,(0,0)⟩) (hole_at h1 g)
    rw [put_hole hb1] at fr
    refine fr.mono ?_
    rintro _ _ ⟨H2,⟨s2,A2,n2', c2,B2,m2,d2,rfl,N2,a2,b2', hl2⟩,hg2,rfl⟩
    refine ⟨_,_,_,_,_,_,_,_,rfl,((r3norm_c N2.is (by omega) (by omega)).frame hg2).mono ?_⟩
    rintro _ _ ⟨H3,⟨s3,A3,n3', c3,B3,m3,d3,rfl,N3,a3,b3', hl3⟩,hg3,rfl⟩
    have ev:((v:Int):Rat)/((10000:Int):Rat)=(v:Rat)/10000:=by
     rw [Rat.intCast_natCast]
     rfl
    rw [ev] at N3
    have ho3:hole (H3.put g ⟨[.slice S.1 T.length S.2,.int .i64 ((a+1:Nat):Int),.int .i64 0],ty1,(0,0)⟩) g=H3:=by rw [hole_put,hole_none hg3]
    have e1:=N3.1.1.lmb (by omega)
    have e2:=N3.2.lmb (by omega)
    refine ⟨_,_,_,_,_,_,_,rfl, ?_⟩
    have hleH:Le (hole h g) H3:=by rw [<- ho1];exact hl2.trans hl3
    refine ⟨by rw [ho3];exact hleH,_,a+1,rfl, ?_, ?_,⟨ty1,by rw [ho3];exact hs1.mono (hl2.trans hl3),Heap.put_same _ _ _⟩,by omega,by omega,htl⟩
    ·rw [ho3,e1,e2]
     rw [e1,e2] at N3
     unfold IsE
     exact ⟨s3,A3,c3,B3,d3,none,0,rfl,N3.is,Nat.le_refl _,fun q=>absurd rfl q⟩
    ·unfold Szs SzsL
     have h1:=lmb_le ((v:Rat)/10000).num.natAbs
     have h2:=lmb_le ((v:Rat)/10000).den
     exact ⟨by omega,by omega,by simp,by simp,trivial⟩
   | none=>
    rw [hr] at hnum
    simp only [Option.map_none] at hnum
    refine Br.mk (fun q=>by cases q) (fun _=>(rName_c (hdT ts) h).mono ?_)
    rintro _ _ ⟨rfl,rfl⟩
    refine ⟨_,rfl,Br.mk (fun q5=>(rWrong_c u).mono ?_) (fun q5=> ?_)⟩
    ·have hnn:isNameV (hdT ts)=false:=by simpa using q5
     rintro _ h1 ⟨rfl,u1,ho1⟩
     refine ⟨rfl, ?_⟩
     rw [hwr] at u1
     by_cases h0:hdT ts=[]
     ·rw [if_pos h0] at u1 ⊢
      exact ⟨by rw [ho1];exact Le.refl _,by decide,shZ,a,u1,by omega⟩
     ·rw [if_neg h0] at u1
      rw [if_neg h0,if_neg n1,if_neg n2,if_neg n3,if_neg n4,hnum]
      simp only [hnn]
      exact ⟨by rw [ho1];exact Le.refl _,by decide,shZ,a,u1,by omega⟩
    ·have hnn:isNameV (hdT ts)=true:=by simpa using q5
     have h0:hdT ts≠[]:=(isName_nd hnn).1
     obtain ⟨hin,hlt⟩:=hmem h0
     rw [if_neg h0,if_neg n1,if_neg n2,if_neg n3,if_neg n4,hnum]
     simp only [hnn,if_true]
     refine u.step (by omega) fun h1 u1 ho1=> ?_
     refine ⟨by rw [ho1];exact Le.refl _,_,a+1,rfl, ?_, ?_,u1,by omega,by omega,htl⟩
     ·unfold IsE
      exact ⟨false,none,0,none,0,none,0,rfl,IsQ.nul _,Nat.le_refl _,fun q=>absurd rfl q⟩
     ·unfold Szs SzsL
      have:=(hTl _ hin).2
      exact ⟨by omega,by omega,by omega,by simp,trivial⟩
 ·have e:=beq_iff_eq.1 q
  rw [e];decide
 ·have e:=beq_eq_false_iff_ne.1 q
  rw [Bool.eq_iff_iff,beq_iff_eq,decide_eq_true_eq]
  exact ⟨Or.inr,fun h=>h.resolve_left e⟩
theorem rSumE:RErr 169 ptr:=rsum_err (rproduct_err rFactor_err)
theorem rAll : ∀ n:Nat,∀ k,k<=n->ROk 169 ptr (qSum k)/\ROk 226 ptr (qProd k)/\ROk 257 ptr (qFac k)/\ ∀ (kd:Int) (nm:List UInt8),((kd=8/\nm=[109,105,110])\/(kd=9/\nm=[109,97,120]))->ROk 281 (fun g=>[.pointer (some ⟨g,0,none⟩),sv nm]) (qCall k kd)
 | 0,k,hk=>by
  have:k=0:=by omega
  subst this
  refine ⟨?_, ?_, ?_,fun kd nm _=> ?_⟩<;>intro S h g T a _ _ _ _ hne
  ·rw [qSum] at hne;exact absurd rfl hne
  ·rw [qProd] at hne;exact absurd rfl hne
  ·rw [qFac] at hne;exact absurd rfl hne
  ·rw [qCall] at hne;exact absurd rfl hne
 | n+1,k,hk=>by
  have ih:=rAll n
  rcases Nat.lt_or_ge k (n+1) with q | q
  ·exact ih k (by omega)
  ·have:k=n+1:=by omega
   subst this
   exact ⟨rsum_step (rproduct_err rFactor_err) fun k hk=>(ih k hk).2.1,rproduct_step rFactor_err fun k hk=>(ih k hk).2.2.1,rFactor_step (ih n (Nat.le_refl _)).2.2.1 (ih n (Nat.le_refl _)).1 (ih n (Nat.le_refl _)).2.2.2,fun kd nm hnm=>rCall_step hnm rSumE fun k hk=>(ih k hk).1⟩
mutual
def lvE:Ex->Nat
 | .mk _ _ _ _ _ kids=>lvL kids+1
def lvL:List Ex->Nat
 | []=>0
 | e::es=>max (lvE e) (lvL es)
end
theorem lvL_take : ∀ {es:List Ex} {j:Nat} {e:Ex},es[j]?=some e->lvL (es.take (j+1))=max (lvL (es.take j)) (lvE e)
 | [],j,e,h=>by simp at h
 | x::es,0,e,h=>by simp at h;subst h;simp [lvL]
 | x::es,j+1,e,h=>by
  simp only [List.take_succ_cons,lvL]
  rw [lvL_take (by simpa using h)]
  omega
def LvOk (e:Ex):Prop:= ∀ {h:Heap} {vs:List Value},IsE h e vs->Szs e->lvE e<=1000000000->
 CallsU Tryz.prog 171 [.agg vs.toArray] h fun r h' => r = .int .i64 (lvE e:Int)/\h=h'
theorem lvL_ge : ∀ {es:List Ex} {i:Nat} {e:Ex},es[i]?=some e->lvE e<=lvL es
 | [],i,e,h=>by simp at h
 | x::es,0,e,h=>by simp at h;subst h;rw [lvL];omega
 | x::es,i+1,e,h=>by
  have:=lvL_ge (es:=es) (i:=i) (e:=e) (by simpa using h)
  rw [lvL];omega
theorem lvL_le (es:List Ex) (j:Nat):lvL (es.take j)<=lvL es:=by
 induction es generalizing j with
 | nil=>simp [lvL]
 | cons x es ih=>
  cases j with
  | zero=>simp [lvL]
  | succ j=>
   have:=ih j
   simp only [List.take_succ_cons,lvL]
   omega
theorem rLevels_node {k:Int} {q0:Rat} {n m:Nat} {nm:List UInt8} {kids:List Ex} (ih:evAll LvOk kids):LvOk (.mk k q0 n m nm kids):=by
 intro h vs u z hlv
 obtain ⟨s,A,c,B,d,K,kc,rfl,uq,hc,hk⟩:=u.open
 obtain ⟨z1,z2,z3,z4,z5⟩:=z.open
 simp only [Ex.kids,Ex.ln,Ex.lm,Ex.val,Ex.name] at uq hc hk z1 z2 z3 z4 z5
 rw [lvE] at hlv ⊢
 apply ref17_levels_ok
 unfold ref17_levels_vc
 have hl1:(Ex.mk k q0 n m nm kids).kids.length=kids.length:=rfl
 rw [hl1]
 refine ⟨fun mm v i h' => ∃ j,j<=kids.length/\mm=kids.length-j/\i=(j:Int)/\v=(lvL (kids.take j):Int)/\h=h', ⟨kids.length,0,by omega,by omega,rfl,by simp [lvL],rfl⟩, ?_⟩
 rintro mm _ _ _ ⟨j,hj,rfl,rfl,rfl,rfl⟩
 have hle:=lvL_le kids j
 refine Br.mk (fun q1=> ?_) (fun q1=> ?_)
 ·have hlt:j<kids.length:=by have:=of_decide_eq_true q1;omega
  obtain ⟨x,hx⟩ : ∃ x,kids[j]?=some x:=⟨_,List.getElem?_eq_getElem hlt⟩
  obtain ⟨ad,vs', eA,hld,ux⟩:=kid_ld (e:= .mk k q0 n m nm kids) hk hx
  have ux' := ux
  obtain ⟨sx,Ax,cx,Bx,dx,Kx,kcx,rfl,_,_,_⟩:=ux'.open
  have hge:=lvL_ge hx
  refine ⟨ad,eA,by omega,by omega,_,_,_,_,_,_,_,_,_,_,_,_,by rw [Int.toNat_natCast];exact hld, ?_⟩
  refine ((ih.get hx) ux (SzsL.get z5 hx) (by omega)).mono ?_
  rintro _ _ ⟨rfl,rfl⟩
  refine ⟨_,rfl, ?_⟩
  rintro _ rfl
  refine ⟨kids.length-(j+1),by omega,j+1,by omega,rfl,wi (by omega) (by omega), ?_,rfl⟩
  rw [lvL_take hx]
  by_cases q:(lvE x:Int)>(lvL (kids.take j):Int)
  ·rw [if_pos (decide_eq_true q)];omega
  ·rw [if_neg (by rw [decide_eq_false q];decide)];omega
 ·have hj' : j=kids.length:=by have:=of_decide_eq_false q1;omega
  subst hj'
  rw [List.take_length]
  rintro _ rfl
  refine ⟨?_,rfl⟩
  rw [show ((lvL kids:Nat):Int)+1=((lvL kids+1:Nat):Int) by omega]
  rw [wrap_i64 (by omega) (by omega)]
mutual
theorem rLevels_all : ∀ e:Ex,LvOk e
 | .mk _ _ _ _ _ kids=>rLevels_node (rLevels_allL kids)
theorem rLevels_allL : ∀ es:List Ex,evAll LvOk es
 | []=>trivial
 | e::es=>⟨rLevels_all e,rLevels_allL es⟩
end
mutual
theorem chk_lv : ∀ {e:Ex} {lv:Int},okE e->chkV e lv=if (lvE e:Int)+lv<=13 then 0 else 5
 | .mk k q n m nm kids,lv,h=>by
  rw [okE] at h
  rw [chkV,h.1,lvE]
  by_cases h12:12<lv
  ·rw [if_pos h12,if_neg (by omega)]
  ·rw [if_neg h12,if_pos rfl,chkL_lv h.2]
   by_cases hk:kids=[]
   ·subst hk
    rw [if_pos rfl,if_pos (by rw [lvL];omega)]
   ·rw [if_neg hk]
    by_cases h13:(lvL kids:Int)+(lv+1)<=13
    ·rw [if_pos h13,if_pos (by omega)]
    ·rw [if_neg h13,if_neg (by omega)]
theorem chkL_lv : ∀ {es:List Ex} {lv:Int},okL es->chkL es lv=if es=[] then 0 else if (lvL es:Int)+lv<=13 then 0 else 5
 | [],lv,_=>by rw [chkL,if_pos rfl]
 | e::es,lv,h=>by
  rw [okL] at h
  rw [chkL,chk_lv h.1,chkL_lv h.2,lvL,if_neg (show ¬ e::es=[] by simp)]
  by_cases h1:(lvE e:Int)+lv<=13
  ·rw [if_pos h1,if_pos rfl]
   by_cases he:es=[]
   ·subst he
    rw [if_pos rfl,lvL,if_pos (by omega)]
   ·rw [if_neg he]
    by_cases h2:(lvL es:Int)+lv<=13
    ·rw [if_pos h2,if_pos (by omega)]
    ·rw [if_neg h2,if_neg (by omega)]
  ·rw [if_neg h1,if_neg (show ¬ (5:Int)=0 by decide),if_neg (by omega)]
end
theorem shV_of {v:Nat} (h:v<=9999999999999):(shV ((v:Rat)/10000)).isSome=true:=by
 have e:(v:Rat)/10000*10000=(v:Rat):=by grind
 unfold shV
 rw [e,if_pos]
 ·rfl
 ·have h1:((v:Nat):Rat).den=1:=rfl
  have h2:((v:Nat):Rat).num=(v:Int):=rfl
  rw [h1,h2]
  exact ⟨rfl,by omega,by omega⟩
theorem num_ok {w:List UInt8} {q:Rat} (h:numberV w=some q):(shV q).isSome=true:=by
 rw [refNum_eq] at h
 cases hr:refNum w with
 | none=>rw [hr] at h;cases h
 | some v=>
  rw [hr] at h
  cases h
  exact shV_of (refNum_le hr)
theorem ok_op2 {k:Int} {x y:Ex} (hk:k=3\/k=4\/k=5\/k=6) (hx:okE x) (hy:okE y):okE (op2 k x y):=by
 unfold op2
 rw [okE,okL,okL,okL]
 refine ⟨?_,hx,hy,trivial⟩
 unfold rightV
 rcases hk with rfl | rfl | rfl | rfl<;>simp [Ex.kind,Ex.kids,Ex.name,Ex.val,foOps]
theorem ok_name {w:List UInt8} (hn:isNameV w=true):okE (.mk 2 0 0 0 w []):=by
 rw [okE,okL]
 refine ⟨?_,trivial⟩
 unfold rightV
 simp [Ex.kind,Ex.kids,Ex.name,Ex.val,foOps,hn]
theorem ok_num {q:Rat} {n m:Nat} (hq:(shV q).isSome=true):okE (.mk 1 q n m [] []):=by
 rw [okE,okL]
 refine ⟨?_,trivial⟩
 unfold rightV
 simp [Ex.kind,Ex.kids,Ex.name,Ex.val,foOps,hq]
theorem ok_call {k:Int} {es:List Ex} (hk:k=8\/k=9) (h1:1<=es.length) (h8:es.length<=8) (h:okL es):okE (.mk k 0 0 0 [] es):=by
 rw [okE]
 refine ⟨?_,h⟩
 unfold rightV
 rcases hk with rfl | rfl
 ·simp [Ex.kind,Ex.kids,Ex.name,Ex.val,foOps]
  omega
 ·simp [Ex.kind,Ex.kids,Ex.name,Ex.val,foOps]
  omega
theorem okL_snoc : ∀ {es:List Ex} {x:Ex},okL es->okE x->okL (es++[x])
 | [],x,_,hx=>by rw [List.nil_append,okL,okL];exact ⟨hx,trivial⟩
 | e::es,x,h,hx=>by rw [okL] at h;rw [List.cons_append,okL];exact ⟨h.1,okL_snoc h.2 hx⟩
theorem q_ok : ∀ n:Nat,(∀ r x r', qSum n r = .ok (x,r')->okE x)/\(∀ y r x r', okE y->qSumL n y r = .ok (x,r')->okE x)/\(∀ r x r', qProd n r = .ok (x,r')->okE x)/\(∀ y r x r', okE y->qProdL n y r = .ok (x,r')->okE x)/\(∀ r x r', qFac n r = .ok (x,r')->okE x)/\(∀ k r x r', (k=8\/k=9)->qCall n k r = .ok (x,r')->okE x)/\(∀ k es r x r', (k=8\/k=9)->es.length<=7->okL es->qCallL n k es r = .ok (x,r')->okE x)
 | 0=>by
  refine ⟨?_, ?_, ?_, ?_, ?_, ?_, ?_⟩<;>intros<;>rename_i h<;>first | (rw [qSum] at h;cases h) | (rw [qSumL] at h;cases h) | (rw [qProd] at h;cases h) | (rw [qProdL] at h;cases h) | (rw [qFac] at h;cases h) | (rw [qCall] at h;cases h) | (rw [qCallL] at h;cases h)
 | n+1=>by
  obtain ⟨iS,iSL,iP,iPL,iF,iC,iCL⟩:=q_ok n
  refine ⟨?_, ?_, ?_, ?_, ?_, ?_, ?_⟩
  ·intro r x r' h
   rw [qSum] at h
   split at h
   ·cases h
   ·rename_i y r1 h1
    exact iSL _ _ _ _ (iP _ _ _ h1) h
  ·intro y r x r' hy h
   rw [qSumL] at h
   split at h
   ·split at h
    ·cases h
    ·rename_i z r1 h1
     exact iSL _ _ _ _ (ok_op2 (by omega) hy (iP _ _ _ h1)) h
   ·split at h
    ·split at h
     ·cases h
     ·rename_i z r1 h1
      exact iSL _ _ _ _ (ok_op2 (by omega) hy (iP _ _ _ h1)) h
    ·cases h;exact hy
  ·intro r x r' h
   rw [qProd] at h
   split at h
   ·cases h
   ·rename_i y r1 h1
    exact iPL _ _ _ _ (iF _ _ _ h1) h
  ·intro y r x r' hy h
   rw [qProdL] at h
   split at h
   ·split at h
    ·cases h
    ·rename_i z r1 h1
     exact iPL _ _ _ _ (ok_op2 (by omega) hy (iF _ _ _ h1)) h
   ·split at h
    ·split at h
     ·cases h
     ·rename_i z r1 h1
      exact iPL _ _ _ _ (ok_op2 (by omega) hy (iF _ _ _ h1)) h
    ·cases h;exact hy
  ·intro r x r' h
   rw [qFac] at h
   split at h
   ·cases h
   split at h
   ·split at h
    ·cases h
    ·rename_i z r1 h1
     cases h
     rw [okE,okL,okL]
     refine ⟨?_,iF _ _ _ h1,trivial⟩
     unfold rightV
     simp [Ex.kind,Ex.kids,Ex.name,Ex.val,foOps]
   split at h
   ·split at h
    ·cases h
    ·rename_i z r1 h1
     split at h
     ·cases h
      exact iS _ _ _ h1
     ·cases h
   split at h
   ·exact iC _ _ _ _ (Or.inl rfl) h
   split at h
   ·exact iC _ _ _ _ (Or.inr rfl) h
   split at h
   ·rename_i q hq
    cases h
    exact ok_num (num_ok hq)
   ·split at h
    ·rename_i hn
     cases h
     exact ok_name hn
    ·cases h
  ·intro k r x r' hk h
   rw [qCall] at h
   split at h
   ·exact iCL _ _ _ _ _ hk (by simp) (by rw [okL];trivial) h
   ·cases h
  ·intro k es r x r' hk hl hes h
   rw [qCallL] at h
   split at h
   ·cases h
   ·rename_i z r1 h1
    have hz:=okL_snoc hes (iS _ _ _ h1)
    have hlen:(es++[z]).length=es.length+1:=by simp
    split at h
    ·cases h
     exact ok_call hk (by omega) (by omega) hz
    split at h
    ·cases h
    split at h
    ·cases h
    split at h
    ·cases h
    ·rename_i h8
     exact iCL _ _ _ _ _ hk (by rw [hlen];omega) hz h
theorem lvL_snoc : ∀ (es:List Ex) (x:Ex),lvL (es++[x])=max (lvL es) (lvE x)
 | [],x=>by simp [lvL]
 | e::es,x=>by rw [List.cons_append,lvL,lvL,lvL_snoc es x];omega
theorem lv_op2 (k:Int) (x y:Ex):lvE (op2 k x y)=max (lvE x) (lvE y)+1:=by
 unfold op2
 rw [lvE,lvL,lvL,lvL]
 omega
theorem sq_succ (n:Nat):(n+1)*(n+1)=n*n+2*n+1:=by
 rw [Nat.add_mul,Nat.mul_add];omega
theorem q_lv : ∀ n:Nat,(∀ r x r', qSum n r = .ok (x,r')->lvE x<=n*n)/\(∀ y r x r', qSumL n y r = .ok (x,r')->lvE x<=max (lvE y) (n*n)+n)/\(∀ r x r', qProd n r = .ok (x,r')->lvE x<=n*n)/\(∀ y r x r', qProdL n y r = .ok (x,r')->lvE x<=max (lvE y) (n*n)+n)/\(∀ r x r', qFac n r = .ok (x,r')->lvE x<=n*n)/\(∀ k r x r', qCall n k r = .ok (x,r')->lvE x<=n*n)/\(∀ k es r x r', qCallL n k es r = .ok (x,r')->lvE x<=max (lvL es) (n*n)+1)
 | 0=>by
  refine ⟨?_, ?_, ?_, ?_, ?_, ?_, ?_⟩<;>intros<;>rename_i h<;>first | (rw [qSum] at h;cases h) | (rw [qSumL] at h;cases h) | (rw [qProd] at h;cases h) | (rw [qProdL] at h;cases h) | (rw [qFac] at h;cases h) | (rw [qCall] at h;cases h) | (rw [qCallL] at h;cases h)
 | n+1=>by
  obtain ⟨iS,iSL,iP,iPL,iF,iC,iCL⟩:=q_lv n
  rw [sq_succ]
  generalize hN:n*n=N at *
  refine ⟨?_, ?_, ?_, ?_, ?_, ?_, ?_⟩
  ·intro r x r' h
   rw [qSum] at h
   split at h
   ·cases h
   ·rename_i y r1 h1
    have a:=iP _ _ _ h1
    have b:=iSL _ _ _ _ h
    omega
  ·intro y r x r' h
   rw [qSumL] at h
   split at h
   ·split at h
    ·cases h
    ·rename_i z r1 h1
     have a:=iP _ _ _ h1
     have b:=iSL _ _ _ _ h
     rw [lv_op2] at b
     omega
   ·split at h
    ·split at h
     ·cases h
     ·rename_i z r1 h1
      have a:=iP _ _ _ h1
      have b:=iSL _ _ _ _ h
      rw [lv_op2] at b
      omega
    ·cases h;omega
  ·intro r x r' h
   rw [qProd] at h
   split at h
   ·cases h
   ·rename_i y r1 h1
    have a:=iF _ _ _ h1
    have b:=iPL _ _ _ _ h
    omega
  ·intro y r x r' h
   rw [qProdL] at h
   split at h
   ·split at h
    ·cases h
    ·rename_i z r1 h1
     have a:=iF _ _ _ h1
     have b:=iPL _ _ _ _ h
     rw [lv_op2] at b
     omega
   ·split at h
    ·split at h
     ·cases h
     ·rename_i z r1 h1
      have a:=iF _ _ _ h1
      have b:=iPL _ _ _ _ h
      rw [lv_op2] at b
      omega
    ·cases h;omega
  ·intro r x r' h
   rw [qFac] at h
   split at h
   ·cases h
   split at h
   ·split at h
    ·cases h
    ·rename_i z r1 h1
     cases h
     have a:=iF _ _ _ h1
     rw [lvE,lvL,lvL]
     omega
   split at h
   ·split at h
    ·cases h
    ·rename_i z r1 h1
     split at h
     ·cases h
      have a:=iS _ _ _ h1
      omega
     ·cases h
   split at h
   ·have a:=iC _ _ _ _ h;omega
   split at h
   ·have a:=iC _ _ _ _ h;omega
   split at h
   ·cases h
    rw [lvE,lvL];omega
   ·split at h
    ·cases h
     rw [lvE,lvL];omega
    ·cases h
  ·intro k r x r' h
   rw [qCall] at h
   split at h
   ·have a:=iCL _ _ _ _ _ h
    rw [lvL] at a
    omega
   ·cases h
  ·intro k es r x r' h
   rw [qCallL] at h
   split at h
   ·cases h
   ·rename_i z r1 h1
    have a:=iS _ _ _ h1
    split at h
    ·cases h
     rw [lvE,lvL_snoc]
     omega
    split at h
    ·cases h
    split at h
    ·cases h
    split at h
    ·cases h
    ·have b:=iCL _ _ _ _ _ h
     rw [lvL_snoc] at b
     omega
theorem tks_len : ∀ (n:Nat) (r:List UInt8),r.length<=n->(tks r).length<=r.length/\ ∀ t∈tks r,t≠[]/\t.length<=r.length
 | n,r,hn=>by
  by_cases h:tk r=[]
  ·rw [tks_nil h]
   exact ⟨by simp,fun t ht=>by simp at ht⟩
  ·have hlt:=aft_lt h
   have hsp:=congrArg List.length (tk_split r)
   have hsk:=skip_le r
   rw [List.length_append] at hsp
   cases n with
   | zero=>omega
   | succ n=>
    obtain ⟨h1,h2⟩:=tks_len n (aft r) (by omega)
    rw [tks_cons h]
    refine ⟨by rw [List.length_cons];omega,fun t ht=> ?_⟩
    rcases List.mem_cons.1 ht with e | e
    ·subst e;exact ⟨h,by omega⟩
    ·have:=h2 t e
     exact ⟨this.1,by omega⟩
theorem rParse_c (s:List UInt8) (h:Heap):CallsU Tryz.prog 99 [sv s] h (FpR (foParseV s) h):=by
 apply ref17_Parse_ok
 unfold ref17_Parse_vc
 simp only [and_true,and_self]
 rw [ba_size]
 refine Br.mk (fun q=> ?_) (fun q=> ?_)
 ·unfold foParseV
  rw [if_pos (by have:=of_decide_eq_true q;omega)]
  exact ⟨Le.refl _,by decide,rfl⟩
 have hl:s.length<=400:=by have:=of_decide_eq_false q;omega
 obtain ⟨hT,hTl⟩:=tks_len s.length s (Nat.le_refl _)
 have hfu:=fuel400 hl
 have htok:=(p_tok 4000).1 s
 have hq99:qSum 4000 (tks s) ≠ .error 99:=by
  rw [htok]
  cases ho:pSum 4000 s with
  | error e=>intro q;cases q;exact hfu ho
  | ok p=>intro q;cases q
 refine (rSplit_c s (by omega) h).mono ?_
 rintro _ h1 ⟨A,n,c,rfl,own,hl1⟩
 refine ⟨_,_,_,rfl, ?_⟩
 rintro g _ hg rfl
 have hn:n=(tks s).length:=own.1
 subst hn
 have hh:hole (h1.put g ⟨[.slice A (tks s).length c,.int .i64 0,.int .i64 0],197,(0,0)⟩) g=h1:=by rw [hole_put,hole_none hg]
 have u:Rdr (A,c) (h1.put g ⟨[.slice A (tks s).length c,.int .i64 0,.int .i64 0],197,(0,0)⟩) g (tks s) 0 0:=⟨197,by rw [hh];exact own.sl,Heap.put_same _ _ _⟩
 have hs:=(rAll 4000 4000 (Nat.le_refl _)).1 u (by omega) (by omega) (fun t ht=>by have:=hTl t ht;exact ⟨this.1,by omega⟩) (by rw [List.drop_zero];exact hq99)
 rw [List.drop_zero] at hs
 refine hs.mono ?_
 rintro v h3 ⟨hle3,hG⟩
 rw [hh] at hle3
 have hlh : ∀ {h' : Heap},Le h1 (hole h' g)->Le h h' := fun l=>(hl1.trans l).trans (hole_le _ _)
 unfold foParseV
 rw [if_neg (by omega)]
 cases ho:pSum 4000 s with
 | error er=>
  have hqe:qSum 4000 (tks s) = .error er:=by rw [htok,ho];rfl
  rw [hqe] at hG
  obtain ⟨he,⟨k,ss,A2,n2,c2,B2,m2,d2,nm2,K2,kn2,kc2,rfl⟩,a', u3,_⟩:=hG
  have u3' := u3
  obtain ⟨ty3,_,hb3⟩:=u3'
  refine ⟨_,_,_,_,_,_,_,_,_,_,_,_,rfl,fun h' => ∃ a2,Rdr (A,c) h' g (tks s) a2 er/\hole h' g=hole h3 g, ?_,_,cell1 hb3,_,_,_,cell0 hb3,Br.mk (fun _=>(rWrong_c u3).mono ?_) (fun _=>⟨a', u3,rfl⟩)⟩
  ·rintro h4 ⟨a2,u4,ho4⟩
   have u4' := u4
   obtain ⟨ty4,_,hb4⟩:=u4'
   refine ⟨_,cell2 hb4,Br.mk (fun _=>⟨_,cell2 hb4, ?_⟩) (fun q2=>by rw [bne_eq_false_iff_eq] at q2;exact absurd q2 he)⟩
   exact ⟨hlh (by rw [ho4];exact hle3),he,rfl⟩
  ·rintro _ h4 ⟨rfl,u4,ho4⟩
   rw [wrg_err _ _ he] at u4
   exact ⟨rfl,a', u4,ho4⟩
 | ok p=>
  obtain ⟨x,r⟩:=p
  have hqo:qSum 4000 (tks s) = .ok (x,tks r):=by rw [htok,ho];rfl
  rw [hqo] at hG
  obtain ⟨vs,a', rfl,ux,zx,u3,_,ha', hdr⟩:=hG
  have ux' := ux
  obtain ⟨s3,A3,c3,B3,d3,K3,kc3,rfl,_,_,_⟩:=ux'.open
  have u3' := u3
  obtain ⟨ty3,_,hb3⟩:=u3'
  have hokx:=(q_ok 4000).1 _ _ _ hqo
  have hlvx:=(q_lv 4000).1 _ _ _ hqo
  refine ⟨_,_,_,_,_,_,_,_,_,_,_,_,rfl,fun h' => ∃ e2,Rdr (A,c) h' g (tks s) a' e2/\hole h' g=hole h3 g/\e2=if tk r=[] then 0 else 2, ?_,_,cell1 hb3,_,_,_,cell0 hb3,Br.mk (fun q2=>(rWrong_c u3).mono ?_) (fun q2=>⟨0,u3,rfl, ?_⟩)⟩
  ·rintro h4 ⟨e2,u4,ho4,he2⟩
   have u4' := u4
   obtain ⟨ty4,_,hb4⟩:=u4'
   have hle4:Le h1 (hole h4 g):=by rw [ho4];exact hle3
   refine ⟨_,cell2 hb4, ?_⟩
   by_cases ht:tk r=[]
   ·rw [if_pos ht] at he2
    subst he2
    refine Br.mk (fun q=>by exact absurd q (by decide)) (fun _=> ?_)
    have ux4:IsE h4 x _:=IsE.mono (hole_le _ g) _ _ (by rw [ho4];exact ux)
    refine ((rLevels_all x) ux4 zx (by omega)).mono ?_
    rintro _ _ ⟨rfl,rfl⟩
    have hc:=chk_lv (lv:=1) hokx
    refine ⟨_,rfl,Br.mk (fun q3=> ?_) (fun q3=> ?_)⟩
    ·have h12:=of_decide_eq_true q3
     rw [if_neg (by omega)] at hc
     simp only [ht,if_true]
     rw [if_neg (by rw [hc];decide),hc]
     exact ⟨hlh hle4,by decide,rfl⟩
    ·have h12:=of_decide_eq_false q3
     rw [if_pos (by omega)] at hc
     simp only [ht,if_true]
     rw [if_pos hc]
     exact ⟨hlh hle4,_,rfl,ux4,zx,hc⟩
   ·rw [if_neg ht] at he2
    subst he2
    refine Br.mk (fun _=>⟨_,cell2 hb4, ?_⟩) (fun q=>by exact absurd q (by decide))
    simp only [ht,if_false]
    exact ⟨hlh hle4,by decide,rfl⟩
  ·have hlt:a' < (tks s).length:=by have:=of_decide_eq_true q2;omega
   rintro _ h4 ⟨rfl,u4,ho4⟩
   refine ⟨rfl,2, ?_,ho4, ?_⟩
   ·have:wrgV (tks s) a' 0=2:=by unfold wrgV;rw [if_pos rfl,if_neg (by omega)]
    rw [this] at u4
    exact u4
   ·have htr:tks r≠[]:=fun e=>by
     rw [e] at hdr
     have:=congrArg List.length hdr
     rw [List.length_drop,List.length_nil] at this
     omega
    rw [if_neg (fun e=>htr (tks_nil e))]
  ·have hge:(tks s).length<=a' := by have:=of_decide_eq_false q2;omega
   rw [List.drop_eq_nil_of_le hge] at hdr
   rw [if_pos]
   rw [<- hd_tks,<- hdr]
   rfl
theorem wordV_len {s p r:List UInt8} (h:wordV s=some (p,r)):p.length<=s.length/\r.length<=s.length:=by
 unfold wordV at h
 split at h
 ·injection h with h
  injection h with h1 h2
  rw [<- h1,<- h2]
  have h3:=(List.takeWhile_sublist (fun x:UInt8=>x != 32) (l:=s)).length_le
  have h4:=(List.dropWhile_sublist (fun x:UInt8=>x != 32) (l:=s)).length_le
  rw [List.length_drop]
  exact ⟨h3,by omega⟩
 ·cases h
theorem pointsV_len : ∀ {n:Nat} {s r:List UInt8} {gs:List (List UInt8)},pointsV s n=some (gs,r)->r.length<=s.length
 | 0,s,r,gs,h=>by rw [pointsV] at h;cases h;exact Nat.le_refl _
 | n+1,s,r,gs,h=>by
  rw [pointsV] at h
  cases hw:wordV s with
  | none=>rw [hw] at h;cases h
  | some x=>
   obtain ⟨p,q⟩:=x
   rw [hw] at h
   simp only at h
   split at h
   ·rw [Option.map_eq_some_iff] at h
    obtain ⟨y,h1,h2⟩:=h
    obtain ⟨y1,y2⟩:=y
    cases h2
    have:=pointsV_len h1
    have:=(wordV_len hw).2
    show y2.length<=s.length
    omega
   ·cases h
theorem afterV_len {s b r:List UInt8} (h:afterV s b=some r):r.length<=s.length:=by
 unfold afterV at h
 split at h
 ·cases h;rw [List.length_drop];omega
 ·cases h
theorem points_one {s r:List UInt8} {gs:List (List UInt8)} (h:pointsV s 1=some (gs,r)) : ∃ p,gs=[p]:=by
 rw [pointsV] at h
 split at h
 ·split at h
  ·rw [pointsV] at h
   cases h
   exact ⟨_,rfl⟩
  ·cases h
 ·cases h
theorem PnR.shape {o:Option (List (List UInt8)×List UInt8)} {r:Value} {h' : Heap} (u:PnR o r h') : ∃ A n c rest,r = .tuple #[.slice A n c,sv rest,.bool o.isSome]/\(o=none->rest=[])/\ ∀ gs t,o=some (gs,t)->rest=t/\Sl sv h' A n c gs:=by
 cases o with
 | none=>exact ⟨_,_,_,[],u,fun _=>rfl,fun _ _ e=>by cases e⟩
 | some x=>
  obtain ⟨gs,t⟩:=x
  obtain ⟨A,n,c,e,w⟩:=u
  exact ⟨A,n,c,t,e,fun e=>(by cases e),fun _ _ e=>by cases e;exact ⟨rfl,w⟩⟩
theorem AfR.shape (o:Option (List UInt8)):AfR o = .tuple #[sv (o.getD []),.bool o.isSome]:=by cases o<;>rfl
theorem WdR.shape (s:List UInt8) (o:Option (List UInt8×List UInt8)):WdR s o = .tuple #[sv (o.getD (s,[])).1,sv (o.getD (s,[])).2,.bool o.isSome]:=by
 rcases o with _ | ⟨p,r⟩<;>rfl
theorem PairR.shape (o:Option (List UInt8×List UInt8)):PairR o = .tuple #[sv (o.getD ([],[])).1,sv (o.getD ([],[])).2,.bool o.isSome]:=by
 rcases o with _ | ⟨p,r⟩<;>rfl
def txA (o:Option (List (List UInt8)×List UInt8)):Option (List (List UInt8)×List (List UInt8)):=match o with
 | some (l,r)=>if r=[] then some (l,[]) else none
 | none=>none
def txB (k:Int) (o:Option (List (List UInt8)×List UInt8)):Option (List (List UInt8)×List (List UInt8)):=match o with
 | none=>none
 | some (l,r)=>if k=3 then (afterV r [97,116,32]).map fun t=>(l,[t])
  else if k=2 then match afterV r [98,121,32] with
   | none=>none
   | some t=>(pairV t).map fun x=>(l,[x.1,x.2])
  else (pairV r).map fun x=>(l,[x.1,x.2])
theorem textsV_eq (k:Int) (s:List UInt8):textsV k s=if k=4\/k=5\/k=6 then txA (pointsV (s++[32]) (frN k).toNat) else txB k (pointsV s (frN k).toNat):=by
 unfold textsV
 by_cases h:k=4\/k=5\/k=6
 ·rw [if_pos h,if_pos h]
  rcases pointsV (s++[32]) (frN k).toNat with _ | ⟨l,r⟩<;>rfl
 ·rw [if_neg h,if_neg h]
  rcases pointsV s (frN k).toNat with _ | ⟨l,r⟩
  ·rfl
  ·simp only [txB]
   split
   ·rfl
   ·split
    ·cases afterV r [98,121,32]<;>rfl
    ·rfl
def TxR (o:Option (List (List UInt8)×List (List UInt8))) (r:Value) (h' : Heap):Prop:= ∃ A n c B m d,r = .tuple #[.slice A n c,.slice B m d,.bool o.isSome]/\ ∀ gs ts,o=some (gs,ts)->Sl sv h' A n c gs/\Sl sv h' B m d ts
theorem rtexts_c {k:Int} (h1:1<=k) (h6:k<=6) (s:List UInt8) (hl:s.length<=900000) (h:Heap) :
  CallsU Tryz.prog 98 [.int .i64 k,sv s] h fun r h' => TxR (textsV k s) r h' /\ Le h h' := by
 apply ref19_texts_ok
 unfold ref19_texts_vc
 have hfr:rfrN k=(((frN k).toNat:Nat):Int):=by
  unfold rfrN
  rw [if_pos ⟨h1,h6⟩]
  have:k=1\/k=2\/k=3\/k=4\/k=5\/k=6:=by omega
  rcases this with rfl | rfl | rfl | rfl | rfl | rfl<;>rfl
 have hfl:(frN k).toNat<=1000:=by
  have:k=1\/k=2\/k=3\/k=4\/k=5\/k=6:=by omega
  rcases this with rfl | rfl | rfl | rfl | rfl | rfl<;>decide
 refine ⟨fun b h' => b=decide (k=4\/k=5\/k=6)/\h=h', ?_, ?_⟩
 ·rintro _ _ ⟨rfl,rfl⟩
  refine Br.mk (fun q=> ?_) (fun q=> ?_)
  ·have h456:=of_decide_eq_true q
   refine ⟨by rw [ba_size];change ((s.length+1:Nat):Int)<=_;omega,(rfroms_c k h).mono ?_⟩
   rintro _ _ ⟨rfl,rfl⟩
   rw [show (⟨s.toArray⟩:ByteArray)++(⟨#[32]⟩:ByteArray)=⟨(s++[32]).toArray⟩ from ba_append s [32]]
   refine ⟨_,rfl, ?_⟩
   rw [hfr]
   refine (rpoints_c (s++[32]) (by rw [List.length_append];simp;omega) _ hfl h).mono ?_
   rintro _ h' ⟨hP,l⟩
   have etx:textsV k s=txA (pointsV (s++[32]) (frN k).toNat):=by rw [textsV_eq,if_pos h456]
   rw [etx]
   obtain ⟨A,n,c,rest,rfl,hr0,hsl⟩:=hP.shape
   refine ⟨_,_,_,_,_,rfl,fun A' n' c' B' m' d' b h2=>A=A' /\ n=n' /\ c=c' /\ B' = none/\m' = 0/\d' = 0/\h' = h2/\b=((pointsV (s++[32]) (frN k).toNat).isSome&&decide (rest=[])), ?_, ?_⟩
   ·rintro _ _ _ _ _ _ _ _ ⟨rfl,rfl,rfl,rfl,rfl,rfl,rfl,rfl⟩
    refine ⟨?_,l⟩
    cases hp:pointsV (s++[32]) (frN k).toNat with
    | none=>exact ⟨_,_,_,_,_,_,rfl,fun _ _ e=>by cases e⟩
    | some x=>
     obtain ⟨gs,t⟩:=x
     obtain ⟨rfl,w⟩:=hsl gs t hp
     simp only [txA]
     by_cases ht:rest=[]
     ·rw [if_pos ht,decide_eq_true ht]
      exact ⟨_,_,_,_,_,_,rfl,fun _ _ e=>by cases e;exact ⟨w,Sl.nil _ _ _⟩⟩
     ·rw [if_neg ht,decide_eq_false ht]
      exact ⟨_,_,_,_,_,_,rfl,fun _ _ e=>by cases e⟩
   ·refine Br.mk (fun q2=> ?_) (fun q2=> ?_)
    ·refine ⟨rfl,rfl,rfl,rfl,rfl,rfl,rfl, ?_⟩
     rw [q2,Bool.true_and,bytes_toList,show (⟨#[]⟩:ByteArray).toList=[] from bytes_toList [],Bool.eq_iff_iff,beq_iff_eq,decide_eq_true_iff]
    ·exact ⟨rfl,rfl,rfl,rfl,rfl,rfl,rfl,by rw [q2,Bool.false_and]⟩
  ·have h456:=of_decide_eq_false q
   refine (rfroms_c k h).mono ?_
   rintro _ _ ⟨rfl,rfl⟩
   refine ⟨_,rfl, ?_⟩
   rw [hfr]
   refine (rpoints_c s (by omega) _ hfl h).mono ?_
   rintro _ h' ⟨hP,l⟩
   have etx:textsV k s=txB k (pointsV s (frN k).toNat):=by rw [textsV_eq,if_neg h456]
   rw [etx]
   obtain ⟨A,n,c,rest,rfl,hr0,hsl⟩:=hP.shape
   have hrl:rest.length<=1000000:=by
    cases hp:pointsV s (frN k).toNat with
    | none=>rw [hr0 hp];simp
    | some x=>
     obtain ⟨gs,t⟩:=x
     obtain ⟨rfl,_⟩:=hsl gs t hp
     have:=pointsV_len hp
     omega
   refine ⟨_,_,_,_,_,rfl,Br.mk (fun q2=> ?_) (fun q2=> ?_)⟩
   ·have hk3:k=3:=beq_iff_eq.1 q2
    refine (rafter_c rest [97,116,32] h').mono ?_
    rintro _ _ ⟨rfl,rfl⟩
    rw [AfR.shape]
    refine ⟨_,_,rfl,fun A' n' c' B' m' d' b h2=>A=A' /\ n=n' /\ c=c' /\ Sl sv h2 B' m' d' [(afterV rest [97,116,32]).getD []]/\Le h' h2/\b=((pointsV s (frN k).toNat).isSome&&(afterV rest [97,116,32]).isSome), ?_, ?_⟩
    ·rintro _ _ _ B m d _ h2 ⟨rfl,rfl,rfl,wB,l2,rfl⟩
     refine ⟨?_,l.trans l2⟩
     cases hp:pointsV s (frN k).toNat with
     | none=>exact ⟨_,_,_,_,_,_,rfl,fun _ _ e=>by cases e⟩
     | some x=>
      obtain ⟨gs,t⟩:=x
      obtain ⟨rfl,w⟩:=hsl gs t hp
      simp only [txB]
      rw [if_pos hk3]
      cases ha:afterV rest [97,116,32] with
      | none=>exact ⟨_,_,_,_,_,_,rfl,fun _ _ e=>by cases e⟩
      | some t=>
       rw [ha] at wB
       exact ⟨_,_,_,_,_,_,rfl,fun _ _ e=>by cases e;exact ⟨w.mono l2,wB⟩⟩
    ·rintro g _ hg rfl
     have wB:Sl sv (h'.put g ⟨[sv ((afterV rest [97,116,32]).getD [])],9,(0,0)⟩) (some ⟨g,0,none⟩) 1 1 [(afterV rest [97,116,32]).getD []]:=Sl.of_blk (ys:=[(afterV rest [97,116,32]).getD []]) (m:=1) (k:=1) (Heap.put_same _ _ _) (Nat.le_refl _) (Nat.le_refl _)
     refine Br.mk (fun q3=>⟨rfl,rfl,rfl,wB,Le.new hg _,by rw [q3,Bool.true_and]⟩) (fun q3=>⟨rfl,rfl,rfl,wB,Le.new hg _,by rw [q3,Bool.false_and]⟩)
   ·have hk3:k≠3:=beq_eq_false_iff_ne.1 q2
    refine ⟨fun b0 b h2=> ∃ t,b0=⟨t.toArray⟩/\t.length<=1000000/\h' = h2/\(b=false->txB k (pointsV s (frN k).toNat)=none)/\(b=true-> ∃ gs,Sl sv h' A n c gs/\txB k (pointsV s (frN k).toNat)=(pairV t).map fun x=>(gs,[x.1,x.2])), ?_, ?_⟩
    ·generalize txB k (pointsV s (frN k).toNat)=o
     rintro _ b _ ⟨t,rfl,htl,rfl,hno,hyes⟩
     refine (rpair_c t htl h').mono ?_
     rintro _ _ ⟨rfl,rfl⟩
     rw [PairR.shape]
     refine ⟨_,_,_,rfl, ?_⟩
     rintro g _ hg rfl
     refine Br.mk (fun q3=> ?_) (fun q3=> ?_)
     ·obtain ⟨gs,w,e⟩:=hyes q3
      rw [e]
      refine ⟨?_,l.trans (Le.new hg _)⟩
      cases hp:pairV t with
      | none=>exact ⟨_,_,_,_,_,_,rfl,fun _ _ e=>by cases e⟩
      | some x=>
       obtain ⟨x1,x2⟩:=x
       exact ⟨_,_,_,_,_,_,rfl,fun _ _ e=>by cases e;exact ⟨w.mono (Le.new hg _),Sl.of_blk (ys:=[x1,x2]) (m:=2) (k:=2) (Heap.put_same _ _ _) (Nat.le_refl _) (Nat.le_refl _)⟩⟩
     ·rw [hno q3]
      exact ⟨⟨_,_,_,_,_,_,rfl,fun _ _ e=>by cases e⟩,l.trans (Le.new hg _)⟩
    ·refine Br.mk (fun q3=> ?_) (fun q3=> ?_)
     ·have hk2:k=2:=beq_iff_eq.1 q3
      refine (rafter_c rest [98,121,32] h').mono ?_
      rintro _ _ ⟨rfl,rfl⟩
      rw [AfR.shape]
      have htl:((afterV rest [98,121,32]).getD []).length<=1000000:=by
       cases ha:afterV rest [98,121,32] with
       | none=>simp
       | some t=>have:=afterV_len ha;simp only [Option.getD_some];omega
      refine ⟨_,_,rfl,Br.mk (fun q4=>⟨_,rfl,htl,rfl, ?_, ?_⟩) (fun q4=>⟨_,rfl,htl,rfl, ?_, ?_⟩)⟩
      ·intro q5
       cases hp:pointsV s (frN k).toNat with
       | none=>rfl
       | some x=>
        obtain ⟨gs,t⟩:=x
        obtain ⟨rfl,w⟩:=hsl gs t hp
        simp only [txB]
        rw [if_neg hk3,if_pos hk2]
        cases ha:afterV rest [98,121,32] with
        | none=>rfl
        | some t=>rw [ha] at q5;cases q5
      ·intro q5
       cases hp:pointsV s (frN k).toNat with
       | none=>rw [hp] at q4;cases q4
       | some x=>
        obtain ⟨gs,t⟩:=x
        obtain ⟨rfl,w⟩:=hsl gs t hp
        refine ⟨gs,w, ?_⟩
        simp only [txB]
        rw [if_neg hk3,if_pos hk2]
        cases ha:afterV rest [98,121,32] with
        | none=>rw [ha] at q5;cases q5
        | some t=>rfl
      ·intro _
       cases hp:pointsV s (frN k).toNat with
       | none=>rfl
       | some x=>rw [hp] at q4;cases q4
      ·intro q5;cases q5
     ·have hk2:k≠2:=beq_eq_false_iff_ne.1 q3
      refine ⟨rest,rfl,hrl,rfl, ?_, ?_⟩
      ·intro q5
       cases hp:pointsV s (frN k).toNat with
       | none=>rfl
       | some x=>rw [hp] at q5;cases q5
      ·intro q5
       cases hp:pointsV s (frN k).toNat with
       | none=>rw [hp] at q5;cases q5
       | some x=>
        obtain ⟨gs,t⟩:=x
        obtain ⟨rfl,w⟩:=hsl gs t hp
        refine ⟨gs,w, ?_⟩
        simp only [txB]
        rw [if_neg hk3,if_neg hk2]
 ·refine Br.mk (fun q=> ?_) (fun q=>Br.mk (fun q2=> ?_) (fun q2=> ?_))
  ·exact ⟨(decide_eq_true (Or.inl (beq_iff_eq.1 q))).symm,rfl⟩
  ·exact ⟨(decide_eq_true (Or.inr (Or.inl (beq_iff_eq.1 q2)))).symm,rfl⟩
  ·refine ⟨?_,rfl⟩
   have a4:=beq_eq_false_iff_ne.1 q
   have a5:=beq_eq_false_iff_ne.1 q2
   rw [Bool.eq_iff_iff,beq_iff_eq,decide_eq_true_iff]
   omega
theorem knrParse_c (s:List UInt8) {h0 h:Heap} {A:Option Addr} {n c:Nat} {es:List Ex} (u:KN h0 h A n c es) :
  CallsU Tryz.prog 99 [sv s] h fun v h' => Le h h' /\ match foParseV s with
   | .error e=>e≠0/\v = .tuple #[.agg zE.toArray,.int .i64 e]
   | .ok x=> ∃ vs:List Value,v = .tuple #[.agg vs.toArray,.int .i64 0]/\IsE (cutA h' A) x vs/\Szs x/\chkV x 1=0/\KN h0 h' A n c es:=by
 obtain ⟨a1,a2,a3⟩:=u
 rcases a3 with ⟨rfl,rfl,rfl⟩ | ⟨gk,cs,b1,rfl,b3,b4,b5,b6⟩
 ·refine (rParse_c s h).mono ?_
  rintro v h' ⟨l,hm⟩
  refine ⟨l, ?_⟩
  cases ho:foParseV s with
  | error e=>rw [ho] at hm;exact hm
  | ok x=>
   rw [ho] at hm
   obtain ⟨vs,hv,ux,zx,hc⟩:=hm
   exact ⟨vs,hv,ux,zx,hc,a1,a2,Or.inl ⟨rfl,rfl,rfl⟩⟩
 ·have fr:=(rParse_c s (hole h gk)).frame (g:=gk) (b:=⟨cs,39,(0,0)⟩) (hole_at h gk)
  rw [put_hole b3] at fr
  refine fr.mono ?_
  rintro v _ ⟨h1,⟨hle,hm⟩,h1k,rfl⟩
  have hcut:hole (h1.put gk ⟨cs,39,(0,0)⟩) gk=h1:=by rw [hole_put,hole_none h1k]
  refine ⟨?_, ?_⟩
  ·intro j b hj
   by_cases e:j=gk
   ·subst e
    rw [b3] at hj
    cases hj
    rw [Heap.put_same]
   ·rw [Heap.put_ne _ _ e]
    apply hle
    rw [hole_ne _ e];exact hj
  ·cases ho:foParseV s with
   | error e=>rw [ho] at hm;exact hm
   | ok x=>
    rw [ho] at hm
    obtain ⟨vs,hv,ux,zx,hc⟩:=hm
    refine ⟨vs,hv, ?_,zx,hc,a1,a2,Or.inr ⟨gk,cs,b1,rfl,Heap.put_same _ _ _,b4,b5, ?_⟩⟩
    ·show IsE (hole (h1.put gk _) gk) x vs
     rw [hcut];exact ux
    ·rw [hcut]
     exact IsEs.mono hle _ _ b6
theorem rstep_c {line:List UInt8} (hl:line.length<=100000) (h:Heap) :
  CallsU Tryz.prog 51 [sv line] h fun r h' => PlR (parseLV line) r h' /\ Le h h' := by
 apply ref19_step_ok
 unfold ref19_step_vc
 refine (rpoints_c line (by omega) 1 (by omega) h).mono ?_
 rintro _ ha ⟨hP,la⟩
 obtain ⟨B,bn,bc,rest,rfl,hr0,hsl⟩:=hP.shape
 have hrl:rest.length<=100000:=by
  cases hp:pointsV line 1 with
  | none=>rw [hr0 hp];simp
  | some x=>
   obtain ⟨gs,t⟩:=x
   obtain ⟨rfl,_⟩:=hsl gs t hp
   have:=pointsV_len hp
   omega
 refine ⟨_,_,_,_,_,rfl,(rafter_c rest [61,32] ha).mono ?_⟩
 rintro _ _ ⟨rfl,rfl⟩
 rw [AfR.shape]
 have hal:((afterV rest [61,32]).getD []).length<=100000:=by
  cases e:afterV rest [61,32] with
  | none=>simp
  | some t=>have:=afterV_len e;simp only [Option.getD_some];omega
 refine ⟨_,_,rfl,(rword_c _ (by omega) ha).mono ?_⟩
 rintro _ _ ⟨rfl,rfl⟩
 rw [WdR.shape]
 refine ⟨_,_,_,rfl,(rkeyword_c _ ha).mono ?_⟩
 rintro _ hb ⟨rfl,lb⟩
 have lab:=la.trans lb
 refine ⟨_,rfl,fun b h' => hb=h' /\ (b=true->rdivV line=none)/\(b=false-> ∃ nm r2 key bh,pointsV line 1=some ([nm],rest)/\afterV rest [61,32]=some r2/\wordV r2=some (key,bh)/\kindV key<=6), ?_, ?_⟩
 ·rintro b _ ⟨rfl,hbad,hgood⟩
  refine Br.mk (fun q=> ?_) (fun q=> ?_)
  ·unfold parseLV
   rw [<- rdiv_eq,hbad q]
   exact ⟨⟨by decide,rfl⟩,lab⟩
  obtain ⟨nm,r2,key,bh,hp,haf,hwd,hk6⟩:=hgood q
  have hk1:=kindV_ge key
  rw [haf]
  simp only [Option.getD_some]
  rw [hwd]
  simp only [Option.getD_some]
  have hrk:rkeyV key=kindV key:=by unfold rkeyV;rw [if_pos hk6]
  rw [hrk]
  have hbl:bh.length<=100000:=by have:=(wordV_len hwd).2;have:=afterV_len haf;omega
  have hdiv:rdivV line=(textsV (kindV key) bh).map fun x=>(nm,kindV key,x.1,x.2):=by
   unfold rdivV
   rw [hp]
   simp only
   rw [haf]
   simp only
   rw [hwd]
   simp only
   rw [if_pos hk6]
   rfl
  refine (rtexts_c hk1 hk6 bh (by omega) hb).mono ?_
  rintro _ h1 ⟨⟨F,fn,fc,A,n,c,rfl,htx⟩,lc⟩
  have l1:=lab.trans lc
  unfold parseLV
  cases htt:textsV (kindV key) bh with
  | none=>
   rw [htt] at hdiv
   rw [<- rdiv_eq,hdiv]
   exact ⟨_,_,_,_,_,_,_,rfl,Br.mk (fun _=>⟨⟨by decide,rfl⟩,l1⟩) (fun q2=>by exact absurd q2 (by decide))⟩
  | some x=>
   obtain ⟨fr,ts⟩:=x
   obtain ⟨uf,ut⟩:=htx fr ts htt
   rw [htt] at hdiv
   simp only [Option.map_some] at hdiv
   have hts:ts.length<=2:=divLV_len (line:=line) (by rw [<- rdiv_eq];exact hdiv)
   rw [<- rdiv_eq,hdiv]
   generalize kindV key=k at hdiv
   have htn:=ut.len
   have hfn:=uf.len
   subst hfn
   simp only
   obtain ⟨_,ub⟩:=hsl _ _ hp
   obtain ⟨adB,eB,hB⟩:=(ub.mono (lb.trans lc)).get (i:=0) rfl
   have hbn:=ub.len
   refine ⟨_,_,_,_,_,_,_,rfl,Br.mk (fun q=>by simp at q) (fun _=> ?_)⟩
   refine ⟨adB,eB,by omega,by simp at hbn;omega,_,hB, ?_⟩
   refine ⟨fun m i _ _ _ _ _ _ _ _ s0 s1 F' fn' fc' K kn kc h' => ∃ j es,j<=ts.length/\m=ts.length-j/\i=(j:Int)/\s0=⟨nm.toArray⟩/\k=s1/\F=F' /\ fr.length=fn' /\ fc=fc' /\ KN h1 h' K kn kc es/\kn=j/\Le h1 h' /\ numsQ es (ts.drop j)=numsP ts/\ ∀ x∈es,chkV x 1=0,⟨_,0,[],by omega,rfl,rfl,rfl,rfl,rfl,rfl,rfl,⟨rfl,by unfold SzsL;trivial,Or.inl ⟨rfl,rfl,rfl⟩⟩,rfl,Le.refl _,numsQ_nil _,by simp⟩, ?_⟩
   rintro m _ a0 a1 a2 a3 a4 a5 a6 a7 _ _ _ _ _ K kn kc h2 ⟨j,es,hj,rfl,rfl,rfl,rfl,rfl,rfl,rfl,kn0,hkn,l2,heq,hck⟩
   refine Br.mk (fun q=> ?_) (fun q=> ?_)
   ·have hlt:j<ts.length:=by have:=of_decide_eq_true q;omega
    obtain ⟨x,hx⟩ : ∃ x,ts[j]?=some x:=⟨_,List.getElem?_eq_getElem hlt⟩
    have hdr:=drop_at hx
    obtain ⟨ad,ea,hld⟩:=(ut.mono l2).get hx
    rw [hdr] at heq
    unfold numsQ at heq
    rw [numsP] at heq
    refine ⟨ad,ea,by omega,by omega,_,by rw [Int.toNat_natCast];exact hld, ?_⟩
    refine (knrParse_c x kn0).mono ?_
    rintro _ h3 ⟨l3,hm⟩
    cases ho:foParseV x with
    | error e=>
     rw [ho] at hm heq
     obtain ⟨he,rfl⟩:=hm
     refine ⟨_,_,_,_,_,_,_,_,_,_,_,_,_,rfl,Br.mk (fun _=> ?_) (fun q=>by rw [bne_eq_false_iff_eq] at q;exact absurd q he)⟩
     simp only at heq
     rw [<- heq]
     exact ⟨⟨he,rfl⟩,(l1.trans l2).trans l3⟩
    | ok y=>
     rw [ho] at hm heq
     obtain ⟨vs,rfl,ux,zx,hc,kn3⟩:=hm
     obtain ⟨s3,A3,c3,B3,d3,K3,kc3,hvs,_,_,_⟩:=ux.open
     subst hvs
     refine ⟨_,_,_,_,_,_,_,_,_,_,_,_,_,rfl,Br.mk (fun q=>by exact absurd q (by decide)) (fun _=> ?_)⟩
     rintro g6 _ hg6 rfl
     refine kn3.app (l2.trans l3) ux zx hg6 (by omega) (K:=fun A' c' h' => ∀ t41:Int,t41=IntKind.i64.wrap ((j:Int)+1)-> ∃ m_1,m_1<ts.length-j/\ ∃ j' es', j' <= ts.length/\m_1=ts.length-j' /\ t41=(j' : Int)/\(⟨nm.toArray⟩:ByteArray)=⟨nm.toArray⟩/\k=k/\F=F/\fr.length=fr.length/\fc=fc/\KN h1 h' A' (kn+1) c' es' /\ kn+1=j' /\ Le h1 h' /\ numsQ es' (ts.drop j')=numsP ts/\ ∀ x∈es', chkV x 1=0) (fun A' c' h' kn' l' => ?_)
     rintro _ rfl
     refine ⟨ts.length-(j+1),by omega,j+1,es++[y],by omega,rfl,wi (by omega) (by omega),rfl,rfl,rfl,rfl,rfl,kn', by omega,l', ?_, ?_⟩
     ·rw [<- heq]
      unfold numsQ
      cases numsP (ts.drop (j+1)) with
      | error e=>rfl
      | ok xs=>simp
     ·intro z hz
      rcases List.mem_append.1 hz with q2 | q2
      ·exact hck z q2
      ·simp at q2;rw [q2];exact hc
   ·have hje:j=ts.length:=by have:=of_decide_eq_false q;omega
    rw [hje,List.drop_length] at heq
    unfold numsQ at heq
    rw [numsP] at heq
    simp only [List.append_nil] at heq
    rw [<- heq]
    refine ⟨⟨[sv nm,.int .i64 k,.slice F fr.length fc,.slice K kn kc],rfl,⟨F,fc,K,kc, ?_,uf.mono l2, ?_⟩,kn0.2.1,hck⟩,l1.trans l2⟩
    ·simp only;rw [kn0.1]
    ·simp only;rw [kn0.1];exact kn0.k
 ·
  cases hp:pointsV line 1 with
  | none=>
   refine Br.mk (fun _=>⟨by trivial,fun _=> ?_,fun e=>by cases e⟩) (fun q=>by simp at q)
   unfold rdivV;rw [hp]
  | some x=>
   obtain ⟨gs,t⟩:=x
   obtain ⟨rfl,_⟩:=hsl gs t hp
   obtain ⟨nm,rfl⟩:=points_one hp
   refine Br.mk (fun q=>by simp at q) (fun _=> ?_)
   cases haf:afterV rest [61,32] with
   | none=>
    refine Br.mk (fun _=>⟨by trivial,fun _=> ?_,fun e=>by cases e⟩) (fun q=>by simp at q)
    unfold rdivV;rw [hp];simp only;rw [haf]
   | some r2=>
    refine Br.mk (fun q=>by simp at q) (fun _=> ?_)
    simp only [Option.getD_some]
    cases hwd:wordV r2 with
    | none=>
     refine Br.mk (fun _=>⟨by trivial,fun _=> ?_,fun e=>by cases e⟩) (fun q=>by simp at q)
     unfold rdivV;rw [hp];simp only;rw [haf];simp only;rw [hwd]
    | some y=>
     obtain ⟨key,bh⟩:=y
     refine Br.mk (fun q=>by simp at q) (fun _=>⟨by trivial,fun q=> ?_,fun q=>⟨nm,r2,key,bh,rfl,rfl,hwd, ?_⟩⟩)
     ·simp only [Option.getD_some] at q
      unfold rdivV;rw [hp];simp only;rw [haf];simp only;rw [hwd];simp only
      rw [if_neg]
      intro h6
      unfold rkeyV at q
      rw [if_pos h6] at q
      have:=kindV_ge key
      have:=beq_iff_eq.1 q
      omega
     ·simp only [Option.getD_some] at q
      unfold rkeyV at q
      by_cases h6:kindV key<=6
      ·exact h6
      ·rw [if_neg h6] at q
       exact absurd q (by decide)
theorem snStep_c {line:List UInt8} (hl:line.length<=100000) {h0 h:Heap} {A:Option Addr} {n c:Nat} {ss:List Stp} (u:SN h0 h A n c ss) :
  CallsU Tryz.prog 51 [sv line] h fun v h' => PlR (parseLV line) v (cutA h' A)/\Le h h' /\ SN h0 h' A n c ss:=by
 obtain ⟨a1,a3⟩:=u
 rcases a3 with ⟨rfl,rfl,rfl⟩ | ⟨gk,cs,b1,rfl,b3,b4,b5,b6⟩
 ·refine (rstep_c hl h).mono ?_
  rintro v h' ⟨hm,l⟩
  exact ⟨hm,l,a1,Or.inl ⟨rfl,rfl,rfl⟩⟩
 ·have fr:=(rstep_c hl (hole h gk)).frame (g:=gk) (b:=⟨cs,42,(0,0)⟩) (hole_at h gk)
  rw [put_hole b3] at fr
  refine fr.mono ?_
  rintro v _ ⟨h1,⟨hm,hle⟩,h1k,rfl⟩
  have hcut:hole (h1.put gk ⟨cs,42,(0,0)⟩) gk=h1:=by rw [hole_put,hole_none h1k]
  refine ⟨?_, ?_,a1,Or.inr ⟨gk,cs,b1,rfl,Heap.put_same _ _ _,b4,b5, ?_⟩⟩
  ·show PlR _ _ (hole (h1.put gk _) gk)
   rw [hcut];exact hm
  ·intro j b hj
   by_cases e:j=gk
   ·subst e
    rw [b3] at hj
    cases hj
    rw [Heap.put_same]
   ·rw [Heap.put_ne _ _ e]
    apply hle
    rw [hole_ne _ e];exact hj
  ·rw [hcut]
   exact fun i s hs=>(b6 i s hs).mono hle
theorem rParseS_c (s:List UInt8) (h:Heap) :
  CallsU Tryz.prog 25 [sv s] h fun r h' => DpR (drParseV s) r h' /\ Le h h' := by
 apply ref19_Parse_ok
 unfold ref19_Parse_vc drParseV
 rw [ba_size]
 refine Br.mk (fun q=> ?_) (fun q=> ?_)
 ·rw [if_pos (by have:=of_decide_eq_true q;omega)]
  exact ⟨⟨by decide,rfl⟩,Le.refl _⟩
 have hl:s.length<=20000:=by have:=of_decide_eq_false q;omega
 rw [if_neg (by omega)]
 refine (rLines_c s (by omega) h).mono ?_
 rintro _ h1 ⟨⟨B,bn,bc,rfl,uw⟩,l1⟩
 have htot:=totL_split 10 s
 generalize splitV 10 s=ws at htot uw
 have hbn:=uw.len
 have hlen:=totL_len ws
 refine ⟨_,_,_,rfl, ?_⟩
 refine ⟨fun m A n c i h' => ∃ j ss,j<=ws.length/\m=ws.length-j/\i=(j:Int)/\SN h1 h' A n c ss/\n<=64/\Le h1 h' /\ FmOk ss/\parFr (ws.drop j) j ss=parFr ws 0 [],⟨_,0,[],by omega,rfl,rfl,⟨rfl,Or.inl ⟨rfl,rfl,rfl⟩⟩,by omega,Le.refl _,fun s hs=>by simp at hs,rfl⟩, ?_⟩
 rintro m A n c _ h2 ⟨j,ss,hj,rfl,rfl,sn,hn,l2,hfm,heq⟩
 refine Br.mk (fun q=> ?_) (fun q=> ?_)
 ·have hlt:j<ws.length:=by have:=of_decide_eq_true q;omega
  obtain ⟨x,hx⟩ : ∃ x,ws[j]?=some x:=⟨_,List.getElem?_eq_getElem hlt⟩
  have hdr:ws.drop j=x::ws.drop (j+1):=by
   rw [List.drop_eq_getElem_cons hlt]
   rw [List.getElem?_eq_getElem hlt] at hx
   cases hx
   rfl
  have hxl:x.length<=100000:=by have:=totL_mem (List.mem_of_getElem? hx);omega
  obtain ⟨ad,ea,hld⟩:=(uw.mono l2).get hx
  rw [hdr,parFr] at heq
  refine ⟨fun b h' => h2=h' /\ b=skipV x, ?_,ad,ea,by omega,by omega,_,by rw [Int.toNat_natCast];exact hld, ?_⟩
  ·rintro _ _ ⟨rfl,rfl⟩
   refine Br.mk (fun q2=> ?_) (fun q2=> ?_)
   ·rintro _ rfl
    rw [if_pos q2] at heq
    exact ⟨ws.length-(j+1),by omega,j+1,ss,by omega,rfl,wi (by omega) (by omega),sn,hn,l2,hfm,heq⟩
   rw [if_neg (by rw [q2];decide)] at heq
   have e1:IntKind.i64.wrap ((j:Int)+1)=((j+1:Nat):Int):=wi (by omega) (by omega)
   refine ⟨ad,ea,by omega,by omega,_,by rw [Int.toNat_natCast];exact hld,(snStep_c hxl sn).mono ?_⟩
   rintro _ h3 ⟨hR,l3,sn3⟩
   have l13:=(l1.trans l2).trans l3
   cases hp:parseLV x with
   | error e=>
    rw [hp] at hR heq
    obtain ⟨he,rfl⟩:=hR
    simp only at heq
    refine ⟨_,_,_,_,_,_,_,_,_,rfl,fun e' h' => e=e' /\ h3=h', ?_,Br.mk (fun q3=>absurd (beq_iff_eq.1 q3) he) (fun _=>⟨rfl,rfl⟩)⟩
    rintro _ _ ⟨rfl,rfl⟩
    refine ⟨fun e'' h' => e=e'' /\ h3=h', ?_,Br.mk (fun q3=>absurd (beq_iff_eq.1 q3) he) (fun _=>⟨rfl,rfl⟩)⟩
    rintro _ _ ⟨rfl,rfl⟩
    refine Br.mk (fun _=> ?_) (fun q3=>by rw [bne_eq_false_iff_eq] at q3;exact absurd q3 he)
    rintro _ rfl
    rw [e1,<- heq]
    exact ⟨⟨he,rfl⟩,l13⟩
   | ok st=>
    rw [hp] at hR heq
    obtain ⟨vs,rfl,us,zs,hck⟩:=hR
    have us' := us
    obtain ⟨F,fc,K,kc,rfl,uf,uk⟩:=us'
    simp only at heq
    refine ⟨_,_,_,_,_,_,_,_,_,rfl,fun e' h' => h3=h' /\ e' = (if ss.length=64 then 5 else 0), ?_,Br.mk (fun _=>Br.mk (fun q4=> ?_) (fun q4=> ?_)) (fun q3=>by exact absurd q3 (by decide))⟩
    ·rintro _ _ ⟨rfl,rfl⟩
     refine ⟨fun e' h' => h3=h' /\ e' = (if ss.length=64 then 5 else chkNm ss st), ?_,Br.mk (fun q4=> ?_) (fun q4=> ?_)⟩
     ·rintro _ _ ⟨rfl,rfl⟩
      by_cases h64:ss.length=64
      ·rw [if_pos h64] at heq ⊢
       refine Br.mk (fun _=> ?_) (fun q4=>by exact absurd q4 (by decide))
       rintro _ rfl
       rw [e1,<- heq]
       exact ⟨⟨by decide,rfl⟩,l13⟩
      ·rw [if_neg h64] at heq ⊢
       refine Br.mk (fun q4=> ?_) (fun q4=> ?_)
       ·have hne:chkNm ss st≠0:=by simpa using q4
        rw [if_neg hne] at heq
        rintro _ rfl
        rw [e1,<- heq]
        exact ⟨⟨hne,rfl⟩,l13⟩
       ·have hz:chkNm ss st=0:=by simpa using q4
        rw [if_pos hz] at heq
        rintro g6 _ hg6 rfl
        refine sn3.app (l2.trans l3) us hg6 (by omega) (K:=fun A' c' h' => ∀ t54:Int,t54=IntKind.i64.wrap ((j:Int)+1)-> ∃ m_1,m_1<ws.length-j/\ ∃ j' ss', j' <= ws.length/\m_1=ws.length-j' /\ t54=(j' : Int)/\SN h1 h' A' (n+1) c' ss' /\ n+1<=64/\Le h1 h' /\ FmOk ss' /\ parFr (ws.drop j') j' ss' = parFr ws 0 []) (fun A' c' h' sn' l' => ?_)
        rintro _ rfl
        have hnn:=sn.1
        exact ⟨ws.length-(j+1),by omega,j+1,ss++[st],by omega,rfl,e1,sn', by omega,l', fun x hx=>by rcases List.mem_append.1 hx with q | q;(exact hfm x q);(simp at q;subst q;exact ⟨zs,hck⟩),heq⟩
     ·have h64:ss.length≠64:=fun e=>by rw [if_pos e] at q4;exact absurd q4 (by decide)
      have hfl:=parseLV_frm hp
      refine (rKnown_c (s:=st) sn3.s (by omega) (uf.mono (cutA_le _ _)) (by omega)).mono ?_
      rintro _ _ ⟨rfl,rfl⟩
      exact ⟨_,rfl,rfl,by rw [if_neg h64]⟩
     ·have h64:ss.length=64:=by
       rcases Decidable.em (ss.length=64) with q | q
       ·exact q
       ·rw [if_neg q] at q4;exact absurd q4 (by decide)
      exact ⟨rfl,by rw [if_pos h64,if_pos h64]⟩
    ·have hnn:=sn.1
     exact ⟨rfl,by rw [if_pos (by have:=beq_iff_eq.1 q4;omega)]⟩
    ·have hnn:=sn.1
     refine ⟨rfl, ?_⟩
     rw [if_neg]
     intro e
     have:((n:Nat):Int)=64:=by omega
     rw [this] at q4
     exact absurd q4 (by decide)
  ·rw [bytes_toList,show (⟨#[]⟩:ByteArray).toList=[] from bytes_toList []]
   refine Br.mk (fun q2=> ?_) (fun q2=> ?_)
   ·rw [beq_iff_eq.1 q2]
    exact ⟨rfl,rfl⟩
   ·cases x with
    | nil=>exact absurd q2 (by decide)
    | cons y ys=>
     refine ⟨ad,ea,by omega,by omega,_,by rw [Int.toNat_natCast];exact hld,y,by omega,by rw [ba_get];rfl,rfl, ?_⟩
     rw [skipV,Bool.eq_iff_iff,beq_iff_eq,beq_iff_eq]
     constructor
     ·intro e;exact UInt8.toNat_inj.1 (by change y.toNat=35;omega)
     ·intro e;rw [e];rfl
 ·have hje:j=ws.length:=by have:=of_decide_eq_false q;omega
  rw [hje,List.drop_length,parFr] at heq
  rw [<- heq]
  exact ⟨⟨_,_,_,rfl,sn.s,hfm⟩,l1.trans l2⟩
theorem drParse_long {s:List UInt8} (hs:20000<s.length) (h:Heap) :
  CallsU Tryz.prog 24 [sv s] h fun r h' => DpR (drParseV s) r h' /\ Le h h' := by
 apply draft_Parse_ok
 unfold draft_Parse_vc drParseV
 rw [ba_size]
 refine Br.mk (fun _=> ?_) (fun q=>by have:=of_decide_eq_false q;omega)
 rw [if_pos hs]
 exact ⟨⟨by decide,rfl⟩,Le.refl _⟩
theorem drParseA_c (s:List UInt8) {h:Heap} (t:Frms h) :
  CallsU Tryz.prog 24 [sv s] h fun r h' => DpR (drParseV s) r h' /\ Le h h' := by
 rcases Nat.lt_or_ge 20000 s.length with q | q
 ·exact drParse_long q h
 ·exact drParse_c s (by omega) t
theorem SameSs.refl (l:List Stp):SameSs l l:=⟨rfl,fun i a b ha hb=>by rw [ha] at hb;cases hb;exact ⟨rfl,rfl,rfl,SameL.refl _⟩⟩
theorem dparses_law {W:Heap} (s:List UInt8) (t:Frms W) (tb:Tab W) :
  CallsU Tryz.prog 6 [sv s] W fun v h' => v = .bool true/\Le W h' := by
 apply law19_DraftParses_ok
 unfold law19_DraftParses_vc
 rw [ba_size]
 refine ⟨fun h' => W=h', ?_,Br.mk (fun _=>Br.mk (fun _=>lv_c t tb (Le.refl _) fun _ l=>⟨rfl,l⟩) (fun _=>rfl)) (fun _=>rfl)⟩
 rintro _ rfl
 refine (drParseA_c s t).mono ?_
 rintro _ h1 ⟨hD,l1⟩
 obtain ⟨A,n,c,er,ix,rfl,ho⟩:=hD.shape
 refine ⟨_,_,_,_,_,rfl,(rParseS_c s h1).mono ?_⟩
 rintro _ h2 ⟨hD2,l2⟩
 obtain ⟨B,m,d,er2,ix2,rfl,ho2⟩:=hD2.shape
 have l12:=l1.trans l2
 have fin : ∀ {l:List Stp},StpS h2 A n c l->StpS h2 B m d l->SzSs l->l.length<=64->er=er2->ix=ix2->CallsU Tryz.prog 26 [.slice A n c,.slice B m d] h2 fun v w=> ∃ nn:Bool,v=Value.bool nn/\Br nn (Br (er==er2) (Br (ix==ix2) (CallsU Tryz.prog 14 [] w fun y z=> ∃ o:Bool,y=Value.bool o/\(Value.bool o = .bool true/\Le W z)) (Value.bool false = .bool true/\Le W w)) (Value.bool false = .bool true/\Le W w)) (Value.bool false = .bool true/\Le W w):=by
  intro l ua ub z hl e1 e2
  have hlen:=ua.len
  refine (rSameS_c ua ub (SameSs.refl l) z z (by omega)).mono ?_
  rintro _ h3 ⟨rfl,l3⟩
  subst e1 e2
  exact ⟨_,rfl,Br.mk (fun _=>Br.mk (fun _=>Br.mk (fun _=>lv_c t tb (l12.trans l3) fun _ l=>⟨rfl,l⟩) (fun q=>by simp at q)) (fun q=>by simp at q)) (fun q=>by cases q)⟩
 refine ⟨_,_,_,_,_,rfl, ?_⟩
 rcases ho with ⟨l,hok,rfl,rfl,ua,hf⟩ | ⟨e,i,hne,he,rfl,rfl,rfl⟩
 ·rcases ho2 with ⟨l', hok2,rfl,rfl,ub,_⟩ | ⟨e,i,hne2,_⟩
  ·rw [hok] at hok2
   cases hok2
   exact fin (ua.mono l2) ub (parse_sz hok fun x hx=>(hf x hx).1) (parse_ok hok).1 rfl rfl
  ·rw [hok] at hne2
   cases hne2
 ·rcases ho2 with ⟨l', hok2,_⟩ | ⟨e', i', hne2,_,rfl,rfl,rfl⟩
  ·rw [hne] at hok2
   cases hok2
  ·rw [hne] at hne2
   cases hne2
   exact fin (l:=[]) ⟨rfl,Nat.zero_le _,fun q=>absurd rfl q⟩ ⟨rfl,Nat.zero_le _,fun q=>absurd rfl q⟩ (fun s hs=>by simp at hs) (by simp) rfl rfl
end Go.Proofs.YtfglcgbgaeegaaaGreatDoor

namespace Go.Proofs.YtfglcgbgaeegaaaGreatDoor
open Go Go.Vcg Go.RowKit Go.WideShapes Go.ChangeShapes
def full (W:World):Heap:=fun k=>
 match W.heap[k]? with
 | some (.cells cs ty fz)=>bif plainB ⟨cs.toList,ty,fz⟩ then some ⟨cs.toList,ty,fz⟩ else none
 | _=>none
theorem full_sat (W:World):Sat (full W) W:=by
 intro k b hb
 unfold full at hb
 split at hb
 ·rename_i cs ty fz e
  cases hp:plainB ⟨cs.toList,ty,fz⟩ with
  | false=>rw [hp] at hb;cases hb
  | true=>
   rw [hp] at hb
   cases hb
   exact .mk' hp (by rw [e])
 ·cases hb
theorem calls_full {P:Program} {f:FuncId} {args:List Value} {W:World} (c:CallsU P f args (full W) fun v h' => v = .bool true/\Le (full W) h') :
  Calls P f args.toArray W fun e W' => e = .returned (.bool true)/\Below W.heap.size W W' := by
 refine (c.2 W (full_sat W)).mono ?_
 rintro e W' ⟨v,h', rfl,⟨rfl,hl⟩,hs,fr⟩
 refine ⟨rfl,⟨fr.os,fr.tape,fr.output,fr.size,fun k hk=> ?_⟩⟩
 cases e:full W k with
 | none=>exact (fr.keep k hk e).2
 | some b=>
  have hp:plainB b=true:=by
   unfold full at e
   split at e
   ·rename_i cs ty fz _
    cases hp:plainB ⟨cs.toList,ty,fz⟩ with
    | false=>rw [hp] at e;cases e
    | true=>rw [hp] at e;cases e;exact hp
   ·cases e
  rw [(hs k b (hl k b e)).cells hp,(full_sat W k b e).cells hp]
section
variable {H:Type} {enc:TypeId×Value->H} {P:Program}
theorem trodAll_below (hl:laidOutB P=true) {W W' : World} (hb:Below W.heap.size W W') {sp:Nat->Bool} :
  ∀ {ts:List TypeId} {vs:List Value} {ds:List (DataW H)} {ps:List MemPlace},(ts.all fun t=>P.readableRec t&&decide (t<P.types.size))=true->
   DataW.TrodAll enc P W 0 (fun _=>true) true ts vs ds ps->(∀ p∈ps,sp p.block=true)->DataW.TrodAll enc P W' 0 sp true ts vs ds ps
 | [],[],[],_,_,h,_=>h
 | [],[],_::_,_,_,h,_=>h.elim
 | [],_::_,_,_,_,h,_=>h.elim
 | _::_,[],_,_,_,h,_=>h.elim
 | _::_,_::_,[],_,_,h,_=>h.elim
 | t::ts,v::vs,d::ds,ps,hr,h,hsp=>by
  have hlt:=h.lt
  obtain ⟨p,q,h1,h2,rfl⟩:=h
  simp only [List.all_cons,Bool.and_eq_true,decide_eq_true_eq] at hr
  exact ⟨p,q,WideElems.Trod_stays hl hr.1.1 hr.1.2 h1 (fun x hx=>hb.same (hlt x (by simp [hx]))) (fun x hx=>hsp x (by simp [hx])),
   trodAll_below hl hb (by simpa using hr.2) h2 fun x hx=>hsp x (by simp [hx]),rfl⟩
theorem law_post {fn:Func} {s:ChangeSpec} {apart fresh handsOn:Bool} {W W' : World} {args:Array Value} {ds:List (DataW H)} {before:List MemPlace} {tb:TypeId} (hl:laidOutB P=true) (hv:s.vars=[])
  (hW:DataW.Whole enc P fn.params.toList s.vars apart W args.toList ds [] before) (hr:fn.resultTypes = #[tb]) (htb:P.underlying tb=some .bool)
  (hread:(fn.params.toList.all fun t=>P.readableRec t&&decide (t<P.types.size))=true)
  (hspec:s.fn H ds={ results:=[.lit (.bool true)],args:=ds }) (hb:Below W.heap.size W W') :
  s.post enc P fn apart fresh handsOn false W args (.bool true) W' := by
 have hlt : ∀ p∈before,p.block<W.heap.size:=fun p hp=>hW.lt p hp
 have hW' := hW
 obtain ⟨p,q,hA,hV,e,_,_⟩:=hW
 rw [hv] at hV
 have eq:q=[]:=hV
 subst eq
 rw [List.append_nil] at e
 subst e
 refine ⟨ds,[],before,[],before,[],hW', ?_, ?_, ?_,World.keptBut_mono (fun p hp=>⟨hp,Or.inr (Or.inl hp)⟩) (hb.frame (· ∈ before)),fun h=>by cases h⟩
 ·rw [List.append_nil,hspec,hr]
  exact trodAll_mk1 (shut_bool htb true)
 ·rw [List.append_nil,hspec]
  exact trodAll_below hl hb hread hA fun x hx=>by simpa using hlt x hx
 ·rw [List.append_nil,hspec,hv]
  rfl
end
theorem own:ownKnob Tryz.prog.godebug=none:=by kernel_rfl
theorem laidOut:laidOutB Tryz.prog=true:=by kernel_rfl
section
variable {H:Type} {enc:TypeId×Value->H}
theorem trodAll_len {P:Program} {w:World} {b:Nat} {sp:Nat->Bool} {hd:Bool} : ∀ {ts:List TypeId} {vs:List Value} {ds:List (DataW H)} {ps:List MemPlace},DataW.TrodAll enc P w b sp hd ts vs ds ps->ds.length=ts.length
 | [],[],[],_,_=>rfl
 | [],[],_::_,_,h=>h.elim
 | [],_::_,_,_,h=>h.elim
 | _::_,[],_,_,h=>h.elim
 | _::_,_::_,[],_,h=>h.elim
 | _::_,_::_,_::_,_,h=>by
  obtain ⟨p,q,_,h2,_⟩:=h
  simp [trodAll_len h2]
theorem lifted_of {f:FuncId} {fn:Func} {s:ChangeSpec} {laid:List (String×DataW Unit)} {tb:TypeId} {os:Os} (started:os.Started) (noInit:Tryz.prog.inits.idxOf? f=none) (hfn:Tryz.prog.funcs[f]?=some fn)
  (witness : ∃ (w:World) (tape:Tape) (i:Input),w.os=os/\(w.forCall tape i).Shaped Tryz.checked.prog/\i.vars=[]/\Input.okWide Tryz.checked.prog (w.forCall tape i) .any w.heap.size f i/\
   ((s.pre enc Tryz.checked.prog fn [] false (w.forCall tape i).memory i.args/\laidMetH Tryz.prog laid (w.forCall tape i).memory)/\sizedMet enc Tryz.checked.prog fn (OpenSpec.ofChange s) false (w.forCall tape i).memory i.args)/\({}:Assume).holds Tryz.checked.prog (lone (Frame.enter Tryz.checked.prog f i.args .normal) [] (w.forCall tape i)))
  (hv:s.vars=[]) (hr:fn.resultTypes = #[tb]) (htb:Tryz.prog.underlying tb=some .bool)
  (hread:(fn.params.toList.all fun t=>Tryz.prog.readableRec t&&decide (t<Tryz.prog.types.size))=true)
  (hspec : ∀ ds:List (DataW H),ds.length=fn.params.toList.length->s.fn H ds={ results:=[.lit (.bool true)],args:=ds })
  (hcall : ∀ (W:World) (base:Nat) (args:Array Value) (ds:List (DataW H)) (p:List MemPlace),(∀ (j:Nat) t v,fn.params[j]?=some t->args[j]?=some v->Value.okWide Tryz.prog W .any base t v)->
   DataW.TrodAll enc Tryz.prog W 0 (fun _=>true) true fn.params.toList args.toList ds p->(DataW.weightsEach Tryz.prog fn.params.toList ds).all (· <= reachBytes)=true->laidMetH Tryz.prog laid W->
   CallsU Tryz.prog f args.toList (full W) fun v h' => v = .bool true/\Le (full W) h') :
  ReturnsInHanded {} Tryz.checked os f .any (fun w args=>(s.pre enc Tryz.prog fn [] false w args/\laidMetH Tryz.prog laid w)/\sizedMet enc Tryz.prog fn (OpenSpec.ofChange s) false w args)
   (s.post enc Tryz.prog fn false true false false):=by
 refine returnsInHanded_of_change_and (C:=Tryz.checked) (X:=fun w _=>laidMetH Tryz.prog laid w) (fun _ _ _ hh h=>h.of_heap hh) own started noInit hfn witness ?_
 intro W base args ds gs before hval hW _ hsz hL _
 have hW' := hW
 obtain ⟨p,q,hA,hV,e,_,_⟩:=hW
 rw [hv] at hV
 have hgs:gs=[]:=by
  cases gs with
  | nil=>rfl
  | cons g r=>exact hV.elim
 subst hgs
 have hvt:s.plain.varTypes Tryz.checked.prog=[]:=by
  unfold DataSpec.varTypes
  show List.filterMap _ s.vars=[]
  rw [hv]
  rfl
 rw [hvt,List.append_nil,List.append_nil] at hsz
 have hc:=calls_full (hcall W base args ds p hval hA hsz hL)
 rw [Array.toArray_toList] at hc
 refine hc.mono ?_
 rintro e W' ⟨rfl,hb⟩
 exact ⟨_,rfl,law_post laidOut hv hW' hr htb hread (hspec ds (trodAll_len hA)) hb⟩
end
end Go.Proofs.YtfglcgbgaeegaaaGreatDoor

namespace Go.Proofs.YtfglcgbgaeegaaaGreatDoor
open Go Go.Vcg Go.RowKit Go.WideShapes Go.ChangeShapes Go.Joins Go.MakeChecks
theorem full_of {W:World} {k:Nat} {cs:Array Value} {ty:TypeId} {fz:Nat×Nat} (h:W.heap[k]?=some (.cells cs ty fz)) (hp:0<cs.size):full W k=some ⟨cs.toList,ty,fz⟩:=by
 unfold full
 rw [h]
 have:plainB ⟨cs.toList,ty,fz⟩=true:=by
  unfold plainB
  have:cs.toList.isEmpty=false:=by
   cases hc:cs.toList with
   | nil=>rw [<- Array.length_toList,hc] at hp;simp at hp
   | cons=>rfl
  rw [this];rfl
 simp only [this,cond_true]
theorem tab_laid {x y:String×DataW Unit} {rest:List (String×DataW Unit)} {W:World} (hp:((x::y::("internal/strconv.uint64pow10", Lib.tabData .u64 Lib.pow10Tab)::rest).all fun x=>x.2.handleName?.isNone)=true)
  (h:laidMetH Tryz.prog (x::y::("internal/strconv.uint64pow10", Lib.tabData .u64 Lib.pow10Tab)::rest) W):Tab (full W):=by
 rw [laidMetH_plain _ _ _ hp] at h
 have ht:Lib.TabIs Tryz.prog W "internal/strconv.uint64pow10" .u64 Lib.pow10Tab:=
  Lib.tabIs_of_head (g:=2) (t:=252) (e:=156) (n:=20) (by kernel_rfl) (by kernel_rfl) (by kernel_rfl) (by kernel_rfl) (by kernel_rfl) (by kernel_rfl) h.tail.tail
 unfold Lib.TabIs World.var? at ht
 have hg:Tryz.prog.globalNamed "internal/strconv.uint64pow10" = some 2:=by kernel_rfl
 rw [hg,Option.bind_some] at ht
 split at ht
 ·rename_i cs ty fz e
  have hc:=Option.some.inj ht
  refine ⟨_,full_of e (by rw [hc];decide), ?_⟩
  rw [hc]
 ·cases ht
section
variable {H:Type} {enc:TypeId×Value->H} {W:World} {base fuel:Nat} {sp:Nat->Bool} {held:Bool}
theorem str_arg {r:Reach} {b0:Nat} {v:Value} {d:DataW H} {p:List MemPlace} (hval:Value.okWide Tryz.prog W r b0 9 v) (h:DataW.Trod enc Tryz.prog W base sp held 9 v d p) : ∃ l:List UInt8,v=sv l:=by
 obtain ⟨s,rfl,_⟩:=Go.ChangeMaps.open_string Tryz.underlying9 hval h
 exact ⟨s.data.toList,by cases s;rfl⟩
end
section
variable {H:Type} {enc:TypeId×Value->H} {W:World} {base:Nat} {sp:Nat->Bool} {held:Bool}
theorem list4 {α:Type} {l:List α} (h:l.length=4) : ∃ a b c d,l=[a,b,c,d]:=by
 match l,h with
 | [a,b,c,d],_=>exact ⟨a,b,c,d,rfl⟩
instance:Inhabited Ex:=⟨.mk 0 0 0 0 [] []⟩
instance:Inhabited Meas:=⟨⟨[],0,0,0⟩⟩
end
section
variable {H:Type} {enc:TypeId×Value->H} {W:World} {base:Nat} {sp:Nat->Bool} {held:Bool}
theorem form_cells {fuel:Nat} {cs:List Value} {a b:List UInt8} {m n:Int} {p:List MemPlace} (h:DataW.trod enc Tryz.prog W base sp held fuel 148 cs=some (.agg [.lit (.string a),.lit (.int .i64 m),.lit (.string b),.lit (.int .i64 n)],p)) :
  cs=[sv a,.int .i64 m,sv b,.int .i64 n]:=by
 obtain ⟨xs,k,rfl,hx,hl,_,hf⟩:=DataW.trod_struct Tryz.underlying148 h
 obtain ⟨c0,c1,c2,c3,rfl⟩:=list4 (hl.trans (by kernel_rfl))
 have k0:Tryz.prog.cellsOf 3=1:=by kernel_rfl
 have k1:Tryz.prog.cellsOf 9=1:=by kernel_rfl
 have hxl:xs.length=4:=by assumption
 obtain ⟨x0,x1,x2,x3,rfl⟩:=list4 hxl
 have f0:=hf 0 _ rfl
 have f1:=hf 1 _ rfl
 have f2:=hf 2 _ rfl
 have f3:=hf 3 _ rfl
 simp only [List.getElem?_cons_zero,List.getElem?_cons_succ] at f0 f1 f2 f3
 have hx1:=congrArg Prod.fst hx
 simp only [List.map_cons,List.map_nil,DataW.agg.injEq,List.cons.injEq,and_true] at hx1
 obtain ⟨e0,e1,e2,e3⟩:=hx1
 obtain ⟨s0,hc0,rfl,_⟩:=DataW.trod_string Tryz.underlying9 f0
 obtain ⟨z1,hc1,rfl,_⟩:=DataW.trod_int Tryz.underlying3 f1
 obtain ⟨s2,hc2,rfl,_⟩:=DataW.trod_string Tryz.underlying9 f2
 obtain ⟨z3,hc3,rfl,_⟩:=DataW.trod_int Tryz.underlying3 f3
 simp only [DataW.lit.injEq,Lit.string.injEq,Lit.int.injEq,true_and] at e0 e1 e2 e3
 cases hc0
 cases hc1
 cases hc2
 cases hc3
 subst e0 e1 e2 e3
 rfl
theorem blocks4 : ∀ (n:Nat) (cs:List Value),cs.length=4*n->cs=(List.range n).flatMap fun i=>(cs.drop (i*4)).take 4
 | 0,cs,h=>by rw [List.length_eq_zero_iff.1 h];rfl
 | n+1,cs,h=>by
  rw [List.range_succ_eq_map,List.flatMap_cons,List.flatMap_map]
  have ih:=blocks4 n (cs.drop 4) (by rw [List.length_drop];omega)
  rw [Nat.zero_mul,List.drop_zero]
  conv=>lhs;rw [<- List.take_append_drop 4 cs,ih]
  have e:(fun i=>((cs.drop 4).drop (i*4)).take 4)=fun i=>(cs.drop ((i+1)*4)).take 4:=funext fun i=>by rw [List.drop_drop,show 4+i*4=(i+1)*4 by omega]
  rw [e]
theorem forms_cells {fuel:Nat} {cs:List Value} {p:List MemPlace} (h:DataW.trod enc Tryz.prog W base sp held fuel 149 cs=some (Rows.laid_garment_draft_forms,p)):cs=frCells:=by
 have ht:Tryz.prog.underlying 149=some (.array 7 148):=by kernel_rfl
 have hce:Tryz.prog.cellsOf 148=4:=by kernel_rfl
 have hct:Tryz.prog.cellsOf 149=28:=by kernel_rfl
 cases fuel with
 | zero=>simp [DataW.trod] at h
 | succ fuel=>
  simp only [DataW.trod,ht,hce,hct] at h
  split at h
  ·rename_i hl
   obtain ⟨xs,hm,hx⟩:=Option.map_eq_some_iff.1 h
   have hx1:=congrArg Prod.fst hx
   have hxl:xs.length=7:=by simpa using Lib.mapM_length hm
   have hxs:xs.map (·.1)=_:=DataW.agg.inj hx1
   have row : ∀ i a m b n,(xs.map (·.1))[i]?=some (.agg [.lit (.string a),.lit (.int .i64 m),.lit (.string b),.lit (.int .i64 n)])->i<7->(cs.drop (i*4)).take 4=[sv a,.int .i64 m,sv b,.int .i64 n]:=fun i a m b n hi h7=>by
    obtain ⟨y,hy,hf⟩:=Lib.mapM_at hm i i (by simp [h7])
    rw [List.getElem?_map,hy] at hi
    obtain ⟨y1,y2⟩:=y
    cases hi
    exact form_cells hf
   rw [hxs] at row
   have hl' : cs.length=28:=by simpa using hl
   rw [blocks4 7 cs hl']
   have r0:=row 0 _ _ _ _ rfl (by omega)
   have r1:=row 1 _ _ _ _ rfl (by omega)
   have r2:=row 2 _ _ _ _ rfl (by omega)
   have r3:=row 3 _ _ _ _ rfl (by omega)
   have r4:=row 4 _ _ _ _ rfl (by omega)
   have r5:=row 5 _ _ _ _ rfl (by omega)
   have r6:=row 6 _ _ _ _ rfl (by omega)
   have e:((List.range 7).flatMap fun i=>(cs.drop (i*4)).take 4)=(cs.drop (0*4)).take 4++((cs.drop (1*4)).take 4++((cs.drop (2*4)).take 4++((cs.drop (3*4)).take 4++((cs.drop (4*4)).take 4++((cs.drop (5*4)).take 4++((cs.drop (6*4)).take 4++[])))))):=rfl
   rw [e,r0,r1,r2,r3,r4,r5,r6]
   rfl
  ·cases h
end
theorem frms_laid {x0 x1 x2 x3 x4 x5:String×DataW Unit} {rest:List (String×DataW Unit)} {W:World} (hp:((x0::x1::x2::x3::x4::x5::("garment/draft.forms", Rows.laid_garment_draft_forms)::rest).all fun x=>x.2.handleName?.isNone)=true)
  (h:laidMetH Tryz.prog (x0::x1::x2::x3::x4::x5::("garment/draft.forms", Rows.laid_garment_draft_forms)::rest) W):Frms (full W):=by
 rw [laidMetH_plain _ _ _ hp] at h
 obtain ⟨ps,⟨g', t', cs,fuel,p,q,hg', ht', hvar,hd,_,_⟩,_⟩:=h.tail.tail.tail.tail.tail.tail
 have hg:Tryz.prog.globalNamed "garment/draft.forms" = some 0:=by kernel_rfl
 have hty:(Tryz.prog.globals[(0:Nat)]?).map (·.type)=some 149:=by kernel_rfl
 obtain rfl:=Option.some.inj (hg.symm.trans hg')
 obtain rfl:=Option.some.inj (hty.symm.trans ht')
 have hc:=forms_cells hd
 unfold World.var? at hvar
 rw [hg,Option.bind_some] at hvar
 split at hvar
 ·rename_i cs' ty fz e
  have hcs:=Option.some.inj hvar
  subst hcs
  refine ⟨_,full_of e ?_,hc⟩
  rw [<- Array.length_toList,hc]
  decide
 ·cases hvar
section
variable {H:Type} {enc:TypeId×Value->H} {W:World} {base:Nat} {sp:Nat->Bool} {held:Bool}
end
end Go.Proofs.YtfglcgbgaeegaaaGreatDoor
