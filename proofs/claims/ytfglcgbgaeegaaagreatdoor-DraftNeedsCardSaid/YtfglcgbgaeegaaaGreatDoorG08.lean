/-
 Gathered texts of this proof: Bd3,Bd4,Me1,Me2,Me3,Me4,Me5,Me6,Fo1,Cn18,Fo2,Fo3,Fu1,Fu2,Pl4,Pl5,Fo5,Fo6,VcK,Fo7.
-/
import Derived.Test.YtfglcgbgaeegaaaGreatDoorG07
import Derived.Test.YtfglcgbgaeegaaaGreatDoorG06
import Derived.Lib.AtoiErrMem
import Derived.Lib.LastIndexByte
import Derived.Laws.Strings
import Derived.Lib.ItoaMem
import Derived.Lib.AppendIntMem
import Derived.Lib.LaidTab
import Derived.Lib.TrimByte
import Derived.Test.YtfglcgbgaeegaaaGreatDoorG03
import Derived.Test.YtfglcgbgaeegaaaGreatDoorChecked
set_option maxRecDepth 100000

namespace Go.Proofs.YtfglcgbgaeegaaaGreatDoor
open Go Go.Vcg
attribute [local irreducible] Br
def adQ (q:Option Nat):Option Addr:=q.map fun g=>⟨g,0,none⟩
def bdB (p:Option Addr) (q:Option Nat) (n c:Nat):Blk:=⟨[.pointer p,.slice (adQ q) n c],97,(0,0)⟩
structure IsB (h:Heap) (b:Nat) (q:Option Nat) (gs:List UInt8):Prop where
 blk : ∃ p c,h b=some (bdB p q gs.length c)/\(p=none\/p=some ⟨b,0,none⟩)/\(q=none->gs=[]/\c=0)/\ ∀ g,q=some g-> ∃ zs,h g=some ⟨(gs++zs).map bv,5,(0,0)⟩/\c=(gs++zs).length
def Rest (h h' : Heap) (b:Nat) (q q' : Option Nat):Prop:=(∀ k x,h k=some x->k≠b->q≠some k->h' k=some x)/\(∀ g,q' = some g->q=some g\/h g=none)
theorem bcheck_c {h:Heap} {b:Nat} {p:Option Addr} {q:Option Nat} {n c:Nat} (hb:h b=some (bdB p q n c)) (hp:p=none\/p=some ⟨b,0,none⟩) :
  CallsU Tryz.prog 104 [.pointer (some ⟨b,0,none⟩)] h fun r h' => r = .tuple #[]/\h' = h.put b (bdB (some ⟨b,0,none⟩) q n c):=by
 refine ⟨⟨_,Tryz.func104,by kernel_rfl,by kernel_rfl⟩,fun w s=> ?_⟩
 have sb:=(s b _ hb).cells (plain_fz rfl)
 have hlt:=(s b _ hb).lt
 rcases hp with rfl | rfl
 ·refine (check_fresh_w b w (by simp [World.cell?,sb,bdB]) (by simp [World.shape?,sb,bdB]) (by simp [World.frozen?,sb,bdB])).mono ?_
  rintro _ _ ⟨rfl,rfl⟩
  have hg:(w.setCell ⟨b,0,none⟩ (.pointer (some ⟨b,0,none⟩))).heap[b]?=some (.cells (bdB (some ⟨b,0,none⟩) q n c).cells.toArray 97 (0,0)):=by
   simp only [World.setCell]
   rw [Array.getElem?_modify,if_pos rfl,sb]
   simp [bdB]
  have hne : ∀ k,k≠b->(w.setCell ⟨b,0,none⟩ (.pointer (some ⟨b,0,none⟩))).heap[k]?=w.heap[k]?:=fun k hk=>by
   simp only [World.setCell]
   rw [Array.getElem?_modify,if_neg (fun e=>hk e.symm)]
  refine ⟨_,_,rfl,⟨rfl,rfl⟩,fun k x hk=> ?_,⟨by simp [World.setCell],rfl,rfl,rfl,fun k hk h0=> ?_⟩⟩
  ·by_cases e:k=b
   ·subst e
    rw [Heap.put_same] at hk
    cases hk
    exact .mk' (plain_fz rfl) hg
   ·rw [Heap.put_ne _ _ e] at hk
    exact (s k x hk).same (hne k e)
  ·have e:k≠b:=fun e=>by rw [e,hb] at h0;cases h0
   exact ⟨by rw [Heap.put_ne _ _ e];exact h0,hne k e⟩
 ·refine (check_used_w b w (by simp [World.cell?,sb,bdB])).mono ?_
  rintro _ _ ⟨rfl,rfl⟩
  have e:h.put b (bdB (some ⟨b,0,none⟩) q n c)=h:=by
   funext k
   by_cases e:k=b
   ·subst e;rw [Heap.put_same,hb]
   ·rw [Heap.put_ne _ _ e]
  rw [e]
  exact ⟨_,_,rfl,⟨rfl,rfl⟩,s,Frm.refl _ _⟩
def baseB (h:Heap) (b:Nat) (q:Option Nat):Heap:=fun k=>if k=b\/q=some k then none else h k
theorem baseB_le (h:Heap) (b:Nat) (q:Option Nat):Le (baseB h b q) h:=fun k x hk=>by
 unfold baseB at hk
 split at hk
 ·cases hk
 ·exact hk
theorem IsB.own {h:Heap} {b c:Nat} {q:Option Nat} {gs:List UInt8} (h1:q=none->gs=[]/\c=0) (h2 : ∀ g,q=some g-> ∃ zs,h g=some ⟨(gs++zs).map bv,5,(0,0)⟩/\c=(gs++zs).length) :
  OwnE bv 5 (baseB h b q) h (adQ q) gs.length c gs:=by
 refine ⟨rfl, ?_⟩
 cases q with
 | none=>
  obtain ⟨rfl,rfl⟩:=h1 rfl
  exact .inl ⟨rfl,rfl,rfl⟩
 | some g=>
  obtain ⟨zs,e1,e2⟩:=h2 g rfl
  exact .inr ⟨g,zs,rfl,by simp [baseB],e1,e2⟩
theorem own_q {h0 h:Heap} {A:Option Addr} {n c:Nat} {gs:List UInt8} (o:OwnE bv 5 h0 h A n c gs) : ∃ q,A=adQ q/\n=gs.length/\(q=none->gs=[]/\c=0)/\(∀ g,q=some g->h0 g=none/\ ∃ zs,h g=some ⟨(gs++zs).map bv,5,(0,0)⟩/\c=(gs++zs).length):=by
 obtain ⟨e,o⟩:=o
 rcases o with ⟨e1,e2,e3⟩ | ⟨g,zs,e1,e2,e3,e4⟩
 ·exact ⟨none,e1,e,fun _=>⟨List.length_eq_zero_iff.1 (by omega),e3⟩,fun g q=>by cases q⟩
 ·exact ⟨some g,e1,e,(fun q=>by cases q),fun g' q=>by cases q;exact ⟨e2,zs,e3,e4⟩⟩
theorem not_bd {h:Heap} {b:Nat} {p:Option Addr} {q:Option Nat} {n c g:Nat} {zs:List UInt8} (hb:h b=some (bdB p q n c)) (hg:h g=some ⟨zs.map bv,5,(0,0)⟩):g≠b:=fun e=>by
 subst e
 rw [hb] at hg
 simp only [Option.some.injEq,bdB,Blk.mk.injEq] at hg
 exact absurd hg.2.1 (by decide)
theorem IsB.back {h h2:Heap} {b n' c' : Nat} {q:Option Nat} {A' : Option Addr} {gs ys:List UInt8} {p' : Option Addr} {cc:Nat} (hb:h b=some (bdB p' q gs.length cc)) (h1:q=none->gs=[]/\cc=0)
  (hq : ∀ g,q=some g-> ∃ zs,h g=some ⟨(gs++zs).map bv,5,(0,0)⟩/\cc=(gs++zs).length) (hp:p' = some ⟨b,0,none⟩) (o:OwnE bv 5 (baseB h b q) h2 A' n' c' (gs++ys)) (l:Le (baseB h b q) h2) (hs:Stays h h2 (adQ q)) :
  h2 b=some (bdB p' q gs.length cc)/\ ∃ q', A' = adQ q' /\ n' = (gs++ys).length/\IsB (h2.put b (bdB p' q' n' c')) b q' (gs++ys)/\Rest h (h2.put b (bdB p' q' n' c')) b q q' := by
 have hb2:h2 b=some (bdB p' q gs.length cc):=by
  rw [hs b (by rw [hb];simp) (fun ad e=> ?_),hb]
  cases q with
  | none=>cases e
  | some g=>
   cases e
   obtain ⟨zs,e1,_⟩:=hq g rfl
   exact (not_bd hb e1).symm
 obtain ⟨q', eA,en,e1,e2⟩:=own_q o
 have hgb : ∀ g,q' = some g->g≠b:=fun g e=>by
  obtain ⟨_,zs,e3,_⟩:=e2 g e
  exact not_bd hb2 e3
 refine ⟨hb2,q', eA,en,⟨p', c', by rw [Heap.put_same,en],.inr hp,e1,fun g e=> ?_⟩,fun k x hk kb kq=> ?_,fun g e=> ?_⟩
 ·obtain ⟨_,zs,e3,e4⟩:=e2 g e
  exact ⟨zs,by rw [Heap.put_ne _ _ (hgb g e)];exact e3,e4⟩
 ·rw [Heap.put_ne _ _ kb]
  refine l k x ?_
  unfold baseB
  rw [if_neg (by intro e;rcases e with e | e;exact kb e;exact kq e)]
  exact hk
 ·obtain ⟨e0,_⟩:=e2 g e
  unfold baseB at e0
  split at e0
  ·rename_i e3
   rcases e3 with e3 | e3
   ·exact absurd e3 (hgb g e)
   ·exact .inl e3
  ·exact .inr e0
section
variable {h:Heap} {b:Nat} {q:Option Nat} {gs:List UInt8}
theorem bd_ld {h1:Heap} {p:Option Addr} {n c:Nat} (hb:h1 b=some (bdB p q n c)):LdN h1 (Addr.add ⟨b,0,none⟩ 1) [.slice (adQ q) n c]:=ld_of (ad:=⟨b,0,none⟩) (i:=1) rfl hb rfl
theorem bd_st {h1:Heap} {p:Option Addr} {n c n' c' : Nat} {q' : Option Nat} {K:Heap->Prop} (hb:h1 b=some (bdB p q n c)) (hk:K (h1.put b (bdB p q' n' c'))) :
  ∃ b_1:Blk,h1 (Addr.block (Addr.add ⟨b,0,none⟩ 1))=some b_1/\b_1.fz=(0,0)/\Addr.spot (Addr.add ⟨b,0,none⟩ 1)=none/\Addr.off (Addr.add ⟨b,0,none⟩ 1)+1<=b_1.cells.length/\
   ∀ h_3:Heap,h_3=Heap.put h1 (Addr.block (Addr.add ⟨b,0,none⟩ 1)) { b_1 with cells:=setSeg b_1.cells (Addr.off (Addr.add ⟨b,0,none⟩ 1)) [Value.slice (adQ q') n' c'] }->K h_3:=by
 rw [addr_block,addr_off,addr_spot _ _ rfl]
 refine ⟨_,hb,rfl,rfl,by simp [bdB], ?_⟩
 rintro _ rfl
 exact hk
theorem IsB.checked {p:Option Addr} {c:Nat} (hb:h b=some (bdB p q gs.length c)) (h2 : ∀ g,q=some g-> ∃ zs,h g=some ⟨(gs++zs).map bv,5,(0,0)⟩/\c=(gs++zs).length) :
  ∀ g,q=some g-> ∃ zs,(h.put b (bdB (some ⟨b,0,none⟩) q gs.length c)) g=some ⟨(gs++zs).map bv,5,(0,0)⟩/\c=(gs++zs).length:=fun g e=>by
 obtain ⟨zs,e1,e2⟩:=h2 g e
 exact ⟨zs,by rw [Heap.put_ne _ _ (not_bd hb e1)];exact e1,e2⟩
theorem Rest.checked {h3:Heap} {x y:Blk} {q' : Option Nat} (hb:h b=some y) (r:Rest (h.put b x) h3 b q q'):Rest h h3 b q q' := by
 refine ⟨fun k z hk kb kq=>r.1 k z (by rw [Heap.put_ne _ _ kb];exact hk) kb kq,fun g e=> ?_⟩
 rcases r.2 g e with e | e
 ·exact .inl e
 ·by_cases gb:g=b
  ·subst gb;rw [Heap.put_same] at e;cases e
  ·rw [Heap.put_ne _ _ gb] at e;exact .inr e
theorem bstring_c (u:IsB h b q gs) (hq:q=none\/gs≠[]) (hn:gs.length<=140737488355328) :
  CallsU Tryz.prog 58 [.pointer (some ⟨b,0,none⟩)] h fun v h' => v = .string ⟨gs.toArray⟩/\ ∀ k x,h k=some x->q≠some k->h' k=some x:=by
 obtain ⟨p,c,hb,hp,h1,h2⟩:=u.blk
 refine ⟨⟨_,Tryz.func58,by kernel_rfl,by kernel_rfl⟩,fun w s=> ?_⟩
 have sb:=(s b _ hb).cells (plain_fz rfl)
 cases q with
 | none=>
  obtain ⟨rfl,rfl⟩:=h1 rfl
  refine (str_nil_w b (.pointer p) w sb).mono ?_
  rintro _ _ ⟨rfl,rfl⟩
  exact ⟨_,h,rfl,⟨rfl,fun _ _ q _=>q⟩,fun k x hk=>(s k x hk).same rfl,⟨Nat.le_refl _,rfl,rfl,rfl,fun _ _ q=>⟨q,rfl⟩⟩⟩
 | some g=>
  have hne:gs≠[]:=hq.resolve_left (by simp)
  obtain ⟨zs,hg,hc⟩:=h2 g rfl
  have sg:=(s g _ hg).cells (plain_fz rfl)
  have hlt:=(s g _ hg).lt
  refine (str_w b g c (.pointer p) gs _ (0,0) w sb sg hne (by simp) (by rw [hc];simp) hn (fun j x hx=> ?_)).mono ?_
  ·have hj:j<gs.length:=(List.getElem?_eq_some_iff.1 hx).1
   simp only [List.getElem?_toArray,List.getElem?_map]
   rw [List.getElem?_append_left hj,hx]
   rfl
  rintro _ _ ⟨rfl,rfl⟩
  have hl0:gs.length≠0:=by simpa using hne
  have hh:(w.drew.freeze ⟨g,0,none⟩ gs.length).heap[g]?=some (.cells ((gs++zs).map bv).toArray 5 (0,0+gs.length)):=by
   simp only [World.freeze,if_neg hl0]
   rw [Array.getElem?_modify,if_pos rfl]
   have sg' : w.drew.heap[g]?=_:=sg
   rw [sg']
   rfl
  have hk : ∀ k,k≠g->(w.drew.freeze ⟨g,0,none⟩ gs.length).heap[k]?=w.heap[k]?:=fun k hk=>by
   simp only [World.freeze,if_neg hl0]
   rw [Array.getElem?_modify,if_neg (fun e=>hk e.symm)]
   rfl
  have hpl:plainB ⟨(gs++zs).map bv,5,(0,0+gs.length)⟩=true:=by
   unfold plainB
   cases gs with
   | nil=>exact absurd rfl hne
   | cons _ _=>rfl
  refine ⟨_,h.put g ⟨(gs++zs).map bv,5,(0,0+gs.length)⟩,rfl,⟨rfl,fun k x q e=> ?_⟩,fun k x q=> ?_,⟨by simp [World.freeze,hl0], ?_, ?_, ?_,fun k hk' q=> ?_⟩⟩
  ·rw [Heap.put_ne _ _ (fun e' => e (by rw [e'])),q]
  ·by_cases e:k=g
   ·subst e
    rw [Heap.put_same] at q
    cases q
    exact .mk' hpl hh
   ·rw [Heap.put_ne _ _ e] at q
    exact (s k x q).same (hk k e)
  ·simp only [World.freeze,if_neg hl0];rfl
  ·simp only [World.freeze,if_neg hl0];rfl
  ·simp only [World.freeze,if_neg hl0];rfl
  ·have e:k≠g:=fun e=>by rw [e,hg] at q;cases q
   exact ⟨by rw [Heap.put_ne _ _ e];exact q,hk k e⟩
end
structure ScI (h0 h:Heap) (g g1:Nat) (s:ByteArray) (i:Nat) (t:Sc) (A:Option Addr) (n c:Nat) (q:Option Nat):Prop where
 it:h g1=some (itB s i)
 n1:h0 g1=none
 n0:h0 g=none
 ne:g≠g1
 bd:IsB h g q t.form
 qn : ∀ k,q=some k->h0 k=none
 qe:q=none\/t.form≠[]
 ow:OwnE sv 9 h0 h A n c t.runs
 le:Le h0 h
section
variable {h0 h:Heap} {g g1:Nat} {s:ByteArray} {i:Nat} {t:Sc} {A:Option Addr} {n c:Nat} {q:Option Nat}
end
end Go.Proofs.YtfglcgbgaeegaaaGreatDoor

namespace Go.Proofs.YtfglcgbgaeegaaaGreatDoor
open Go Go.Vcg Go.RowKit
attribute [local irreducible] Br
def dgV (l:List UInt8):Nat:=l.foldl (fun a x=>a*10+(x.toNat-48)) 0
theorem dgV_from (l:List UInt8) : ∀ a:Nat,l.foldl (fun a x=>a*10+(x.toNat-48)) a=a*10^l.length+dgV l:=by
 unfold dgV
 induction l with
 | nil=>intro a;simp
 | cons x r ih=>
  intro a
  simp only [List.foldl_cons,List.length_cons]
  rw [ih,ih (0*10+(x.toNat-48)),Nat.pow_succ]
  have:(a*10+(x.toNat-48))*10^r.length=a*(10^r.length*10)+(0*10+(x.toNat-48))*10^r.length:=by
   rw [Nat.add_mul,Nat.zero_mul,Nat.zero_add,Nat.mul_assoc,Nat.mul_comm 10]
  omega
theorem dgV_append (a b:List UInt8):dgV (a++b)=dgV a*10^b.length+dgV b:=by
 rw [dgV,List.foldl_append,dgV_from]
 rfl
theorem isDg_iff {x:UInt8}:isDg x=true↔48<=x.toNat/\x.toNat<=57:=by unfold isDg;exact decide_eq_true_iff
theorem dgV_lt (l:List UInt8) (h : ∀ x∈l,isDg x=true):dgV l<10^l.length:=by
 induction l with
 | nil=>simp [dgV]
 | cons x r ih=>
  have h1:=ih fun y hy=>h y (by simp [hy])
  have h2:=isDg_iff.1 (h x (by simp))
  have e:dgV (x::r)=(x.toNat-48)*10^r.length+dgV r:=by
   have:=dgV_append [x] r
   simp only [List.singleton_append] at this
   rw [this]
   simp [dgV]
  rw [e,List.length_cons,Nat.pow_succ]
  have:(x.toNat-48)*10^r.length<=9*10^r.length:=Nat.mul_le_mul_right _ (by omega)
  omega
theorem parse_dg (l:List UInt8) (h : ∀ x∈l,isDg x=true) : ∀ acc:Nat,(acc+1)*10^l.length<=1000000000000000000->Lib.parseUint10 acc l = .ok (l.foldl (fun a x=>a*10+(x.toNat-48)) acc):=by
 induction l with
 | nil=>intro acc _;rfl
 | cons x r ih=>
  intro acc ha
  have h2:=isDg_iff.1 (h x (by simp))
  rw [List.length_cons,Nat.pow_succ] at ha
  have hp:1<=10^r.length:=Nat.pow_pos (by decide)
  have hm:(acc+1)*10*10^r.length<=1000000000000000000:=by rw [Nat.mul_assoc,Nat.mul_comm 10];exact ha
  have hs:(acc+1)*10<=1000000000000000000:=Nat.le_trans (Nat.le_mul_of_pos_right _ hp) hm
  simp only [Lib.parseUint10,List.foldl_cons]
  rw [if_pos h2,if_neg (by omega),if_neg (by omega)]
  refine ih (fun y hy=>h y (by simp [hy])) _ (Nat.le_trans (Nat.mul_le_mul_right _ (by omega)) hm)
theorem atoi_dg {l:List UInt8} (h : ∀ x∈l,isDg x=true) (hne:l≠[]) (hl:l.length<=18):Lib.atoiAll l = .ok (dgV l:Int):=by
 obtain ⟨x,r,rfl⟩:=List.exists_cons_of_ne_nil hne
 have h2:=isDg_iff.1 (h x (by simp))
 have hp:(10:Nat)^(x::r).length<=10^18:=Nat.pow_le_pow_right (by decide) hl
 have hlt:=dgV_lt _ h
 have h3:=parse_dg (x::r) h 0 (by simpa using hp)
 unfold Lib.atoiAll
 simp only
 rw [if_neg (by omega)]
 unfold Lib.parseMag
 rw [if_neg (by simp),h3]
 simp only
 rw [if_neg (by unfold dgV at hlt;omega),if_neg (by omega),if_neg (by omega)]
 rfl
theorem atoi_c {l:List UInt8} (hd : ∀ x∈l,isDg x=true) (hne:l≠[]) (hl:l.length<=18) (h:Heap) :
  CallsU Tryz.prog 295 [sv l] h fun r h' => r = .tuple #[.int .i64 (dgV l),.nilIface]/\h=h' := by
 refine callsU_below ⟨_,Tryz.func295,by kernel_rfl,by kernel_rfl⟩ fun w _=> ?_
 refine (Tryz.strconv_Atoi_ok ⟨l.toArray⟩ (by rw [ba_size];omega) (dgV l) (by simpa using atoi_dg hd hne hl) w).mono ?_
 rintro _ _ ⟨rfl,hw⟩
 refine ⟨rfl, ?_⟩
 rcases hw with rfl | ⟨t,rfl⟩
 ·exact Below.refl _ _
 ·exact Lib.bytesWorld_below _ _ _
end Go.Proofs.YtfglcgbgaeegaaaGreatDoor

namespace Go.Proofs.YtfglcgbgaeegaaaGreatDoor
open Go Go.Vcg
attribute [local irreducible] Br
def Dgs (l:List UInt8):Prop:=l≠[]/\ ∀ y∈l,isDg y=true
def wholeV (l:List UInt8):Option Nat:=if l.length<=7/\ ¬ (1<l.length/\l[0]?=some 48) then some (dgV l) else none
theorem ba_get (l:List UInt8) (i:Nat):(⟨l.toArray⟩:ByteArray)[i]?=l[i]?:=by
 rcases Nat.lt_or_ge i l.length with h | h
 ·have h' : i<(⟨l.toArray⟩:ByteArray).size:=by rw [ba_size];exact h
  rw [List.getElem?_eq_getElem h]
  exact (getElem?_pos (⟨l.toArray⟩:ByteArray) i h').trans rfl
 ·have h' : ¬ i<(⟨l.toArray⟩:ByteArray).size:=by rw [ba_size];omega
  rw [List.getElem?_eq_none h]
  exact getElem?_neg (⟨l.toArray⟩:ByteArray) i h'
def fracV (a b:List UInt8):Option Rat:=
 match wholeV a,wholeV b with
 | some x,some y=>if 1<=y/\y<=999 then some ((x:Rat)/(y:Rat)) else none
 | _,_=>none
theorem bytes_toList (l:List UInt8):(⟨l.toArray⟩:ByteArray).toList=l:=by
 rw [ByteArray.toList_eq]
def decV (a b:List UInt8):Option Rat:=
 match wholeV a with
 | some n=>if b.length<=4 then some (((n*10^b.length+dgV b:Nat):Rat)/((10^b.length:Nat):Rat)) else none
 | none=>none
def foOps (k:Int):Int×Int:=if k=1\/k=2 then (0,0) else if k=3\/k=4\/k=5\/k=6 then (2,2) else if k=7 then (1,1) else if k=8\/k=9 then (1,8) else (0,-1)
theorem foOps_c (k:Int) (h:Heap):CallsU Tryz.prog 269 [.int .i64 k] h fun r h' => r = .tuple #[.int .i64 (foOps k).1,.int .i64 (foOps k).2]/\h=h' := by
 apply formula_operands_ok
 unfold foOps
 refine ⟨fun t h' => h=h' /\ (t=true↔k=1\/k=2), ?_, ?_⟩
 ·rintro t _ ⟨rfl,ht⟩
  refine Br.mk (fun q=> ?_) (fun q=> ?_)
  ·rw [if_pos (ht.1 q)]
   exact ⟨rfl,rfl⟩
  ·rw [if_neg (fun q2=>by rw [ht.2 q2] at q;cases q)]
   refine ⟨fun t h' => h=h' /\ (t=true↔k=3\/k=4\/k=5\/k=6), ?_, ?_⟩
   ·rintro t _ ⟨rfl,ht⟩
    refine Br.mk (fun q=> ?_) (fun q=> ?_)
    ·rw [if_pos (ht.1 q)]
     exact ⟨rfl,rfl⟩
    ·rw [if_neg (fun q2=>by rw [ht.2 q2] at q;cases q)]
     refine Br.mk (fun q3=> ?_) (fun q3=>Br.mk (fun q4=>Br.mk (fun _=> ?_) (fun q5=> ?_)) (fun q4=>Br.mk (fun q5=> ?_) (fun q5=> ?_)))
     ·rw [if_pos (beq_iff_eq.1 q3)];exact ⟨rfl,rfl⟩
     ·rw [if_neg (beq_eq_false_iff_ne.1 q3),if_pos (Or.inl (beq_iff_eq.1 q4))];exact ⟨rfl,rfl⟩
     ·rw [q4] at q5;cases q5
     ·rw [if_neg (beq_eq_false_iff_ne.1 q3),if_pos (Or.inr (beq_iff_eq.1 q5))];exact ⟨rfl,rfl⟩
     ·have a:=beq_eq_false_iff_ne.1 q4
      have b:=beq_eq_false_iff_ne.1 q5
      rw [if_neg (beq_eq_false_iff_ne.1 q3),if_neg (by omega)];exact ⟨rfl,rfl⟩
   ·refine Br.mk (fun q=>⟨rfl, ?_⟩) (fun q=>Br.mk (fun q2=>⟨rfl, ?_⟩) (fun q2=>Br.mk (fun q3=>⟨rfl, ?_⟩) (fun q3=>⟨rfl, ?_⟩)))
    ·have:=beq_iff_eq.1 q;simp [this]
    ·have:=beq_iff_eq.1 q2;simp [this]
    ·have:=beq_iff_eq.1 q3;simp [this]
    ·have a:=beq_eq_false_iff_ne.1 q
     have b:=beq_eq_false_iff_ne.1 q2
     have c:=beq_eq_false_iff_ne.1 q3
     simp [a,b,c]
 ·refine Br.mk (fun q=>⟨rfl, ?_⟩) (fun q=>⟨rfl, ?_⟩)
  ·have:=beq_iff_eq.1 q;simp [this]
  ·have a:=beq_eq_false_iff_ne.1 q;simp [a]
theorem foDigit_c (x:UInt8) (h:Heap):CallsU Tryz.prog 290 [.int .u8 x.toNat] h fun r h' => r = .bool (isDg x)/\h=h' := by
 apply formula_isDigit_ok
 unfold isDg
 refine Br.mk (fun q=>⟨?_,rfl⟩) (fun q=>⟨?_,rfl⟩)
 ·have:=of_decide_eq_true q
  congr 1
  rw [Bool.eq_iff_iff,decide_eq_true_eq,decide_eq_true_eq]
  omega
 ·have:=of_decide_eq_false q
  rw [decide_eq_false (by omega)]
def isLow (x:UInt8):Bool:=decide (97<=x.toNat/\x.toNat<=122)
def nameCh (i:Nat) (x:UInt8):Bool:=isLow x||(decide (i≠0)&&(decide (x.toNat=95)||isDg x))
def isNameV (l:List UInt8):Bool:=decide (l≠[]/\l.length<=24/\l≠[109,105,110]/\l≠[109,97,120])&&(l.zipIdx.all fun p=>nameCh p.2 p.1)
theorem nameAll {l:List UInt8}:(l.zipIdx.all fun p=>nameCh p.2 p.1)=true ↔ ∀ i x,l[i]?=some x->nameCh i x=true:=by
 rw [List.all_eq_true]
 constructor
 ·intro h i x hx
  exact h (x,i) (List.mem_zipIdx_iff_getElem?.2 hx)
 ·rintro h ⟨x,i⟩ hx
  exact h i x (List.mem_zipIdx_iff_getElem?.1 hx)
theorem foName_c (l:List UInt8) (h:Heap):CallsU Tryz.prog 270 [sv l] h fun r h' => r = .bool (isNameV l)/\h=h' := by
 apply formula_isName_ok
 unfold formula_isName_vc
 have e1:(⟨#[109,105,110]⟩:ByteArray).toList=[109,105,110]:=bytes_toList _
 have e2:(⟨#[109,97,120]⟩:ByteArray).toList=[109,97,120]:=bytes_toList _
 rw [ba_size,bytes_toList,e1,e2]
 refine ⟨fun t h' => h=h' /\ (t=true->isNameV l=false)/\(t=false->l≠[]/\l.length<=24/\l≠[109,105,110]/\l≠[109,97,120]), ?_, ?_⟩
 ·rintro t _ ⟨rfl,ht,hf⟩
  refine Br.mk (fun q=> ?_) (fun q=> ?_)
  ·rw [ht q];exact ⟨rfl,rfl⟩
  ·have hb:=hf q
   have bad : ∀ i x,l[i]?=some x->nameCh i x=false->isNameV l=false:=fun i x hx hn=>by
    unfold isNameV
    rw [Bool.and_eq_false_iff]
    refine Or.inr ?_
    cases hh:(l.zipIdx.all fun p=>nameCh p.2 p.1) with
    | false=>rfl
    | true=>rw [nameAll.1 hh i x hx] at hn;cases hn
   refine ⟨fun m i h' => ∃ k,k<=l.length/\m=l.length-k/\i=(k:Int)/\h=h' /\ ∀ j x,j<k->l[j]?=some x->nameCh j x=true,⟨l.length,0,by omega,by omega,rfl,rfl,fun j x hj=>by omega⟩, ?_⟩
   rintro m _ _ ⟨k,hk,rfl,rfl,rfl,hall⟩
   refine Br.mk (fun q2=> ?_) (fun q2=> ?_)
   ·have hlt:k<l.length:=by have:=of_decide_eq_true q2;omega
    obtain ⟨x,hx⟩ : ∃ x,l[k]?=some x:=⟨_,List.getElem?_eq_getElem hlt⟩
    have go:nameCh k x=true-> ∃ m_1,m_1<l.length-k/\ ∃ k', k' <= l.length/\m_1=l.length-k' /\ IntKind.i64.wrap ((k:Int)+1)=(k' : Int)/\h=h/\ ∀ j x,j<k' -> l[j]?=some x->nameCh j x=true:=fun hn=>by
     refine ⟨l.length-(k+1),by omega,k+1,by omega,rfl,wi (by omega) (by omega),rfl,fun j y hj hy=> ?_⟩
     rcases Nat.lt_succ_iff_lt_or_eq.1 hj with q | q
     ·exact hall j y q hy
     ·subst q
      rw [hx] at hy
      cases hy
      exact hn
    refine ⟨x,by omega,by rw [Int.toNat_natCast,ba_get];exact hx,fun t h' => h=h' /\ t=isLow x, ?_, ?_⟩
    ·rintro t _ ⟨rfl,rfl⟩
     refine Br.mk (fun q3=>Br.mk (fun q4=> ?_) (fun q4=>Br.mk (fun q5=> ?_) (fun q5=> ?_))) (fun q3=> ?_)
     ·have hl:isLow x=false:=by simpa using q3
      have hk0:k=0:=by have:=beq_iff_eq.1 q4;omega
      rw [bad k x hx (by unfold nameCh;rw [hl,hk0];rfl)]
      exact ⟨rfl,rfl⟩
     ·have hl:isLow x=false:=by simpa using q3
      have hk0:k≠0:=by have:=beq_eq_false_iff_ne.1 q4;omega
      have h95:x.toNat≠95:=by simp only [bne_iff_ne,ne_eq] at q5;omega
      refine (foDigit_c x h).mono ?_
      rintro _ _ ⟨rfl,rfl⟩
      refine ⟨_,rfl,Br.mk (fun q6=> ?_) (fun q6=> ?_)⟩
      ·have hd:isDg x=false:=by simpa using q6
       rw [bad k x hx (by unfold nameCh;rw [hl,hd];simp [h95])]
       exact ⟨rfl,rfl⟩
      ·have hd:isDg x=true:=by simpa using q6
       rintro _ rfl
       exact go (by unfold nameCh;rw [hl,hd];simp [hk0])
     ·have hk0:k≠0:=by have:=beq_eq_false_iff_ne.1 q4;omega
      have h95:x.toNat=95:=by
       have:(((x.toNat:Int):Int) != 95)=false:=q5
       simp only [bne_eq_false_iff_eq] at this
       omega
      rintro _ rfl
      exact go (by unfold nameCh;simp [h95,hk0])
     ·have hl:isLow x=true:=by simpa using q3
      rintro _ rfl
      exact go (by unfold nameCh;rw [hl];rfl)
    ·unfold isLow
     refine Br.mk (fun q3=>⟨rfl, ?_⟩) (fun q3=>⟨rfl, ?_⟩)
     ·have:=of_decide_eq_true q3
      rw [Bool.eq_iff_iff,decide_eq_true_eq,decide_eq_true_eq]
      omega
     ·have:=of_decide_eq_false q3
      rw [decide_eq_false (by omega)]
   ·have hk' : k=l.length:=by have:=of_decide_eq_false q2;omega
    subst hk'
    have:isNameV l=true:=by
     unfold isNameV
     rw [Bool.and_eq_true]
     exact ⟨decide_eq_true hb,nameAll.2 fun i x hx=>hall i x (List.getElem?_eq_some_iff.1 hx).1 hx⟩
    rw [this]
    exact ⟨rfl,rfl⟩
 ·have bad : ¬ (l≠[]/\l.length<=24/\l≠[109,105,110]/\l≠[109,97,120])->isNameV l=false:=fun hn=>by
   unfold isNameV
   rw [decide_eq_false hn];rfl
  refine Br.mk (fun q=>⟨rfl,fun _=>bad ?_,fun q=>by cases q⟩) (fun q=>Br.mk (fun q2=>⟨rfl,fun _=>bad ?_,fun q=>by cases q⟩) (fun q2=>Br.mk (fun q3=>⟨rfl,fun _=>bad ?_,fun q=>by cases q⟩) (fun q3=>⟨rfl,fun q4=>bad ?_,fun q4=>⟨?_, ?_, ?_, ?_⟩⟩)))
  ·have:=beq_iff_eq.1 q
   intro hn
   exact hn.1 (List.length_eq_zero_iff.1 (by omega))
  ·have:=of_decide_eq_true q2
   intro hn;omega
  ·have:=beq_iff_eq.1 q3
   intro hn;exact hn.2.2.1 this
  ·have:=beq_iff_eq.1 q4
   intro hn;exact hn.2.2.2 this
  ·have:=beq_eq_false_iff_ne.1 q
   intro e;rw [e] at this;exact this rfl
  ·have:=of_decide_eq_false q2;omega
  ·exact beq_eq_false_iff_ne.1 q3
  ·exact beq_eq_false_iff_ne.1 q4
def shV (q:Rat):Option Nat:=if (q*10000).den=1/\0<=(q*10000).num/\(q*10000).num<=9999999999999 then some (q*10000).num.toNat else none
theorem foShares_c {h:Heap} {s:Bool} {A B:Option Addr} {n c m d:Nat} {q:Rat} (u:IsQ h s A n c B m d q) (hn:n<=1000000) (hm:m<=1000000) :
  CallsU Tryz.prog 258 [.agg #[.bool s,.slice A n c,.slice B m d]] h fun r h' => r = .tuple #[.int .i64 ((shV q).getD 0:Nat),.bool (shV q).isSome]/\Le h h' := by
 apply formula_inShares_ok
 refine (rof_c 10000 1 (by omega) (by omega) (by omega) (by omega) (by omega) h).mono ?_
 rintro _ h1 ⟨s1,A1,n1,c1,B1,m1,d1,rfl,hN1,a1,b1,hl1⟩
 have e1:(((10000:Int):Rat)/((1:Int):Rat))=10000:=by decide +kernel
 rw [e1] at hN1
 refine ⟨_,_,_,_,_,_,_,_,rfl,(rmul_c (u.mono hl1) hN1.is (by omega) (by omega) (by omega) (by omega)).mono ?_⟩
 rintro _ h2 ⟨s2,A2,n2,c2,B2,m2,d2,rfl,hN2,a2,b2,hl2⟩
 refine ⟨_,_,_,_,_,_,_,rfl,(of_c 1 (by omega) h2).mono ?_⟩
 rintro _ h3 ⟨A3,n3,c3,rfl,a3,hN3,hl3⟩
 refine ⟨_,_,_,rfl,hl3,(cmp_c (hN2.2.mono hl3).is hN3.is (by omega) (by omega)).mono ?_⟩
 rintro _ _ ⟨rfl,rfl⟩
 have l03:=(hl1.trans hl2).trans hl3
 unfold shV
 generalize q*10000=v at *
 refine ⟨_,rfl,Br.mk (fun q1=> ?_) (fun q1=> ?_)⟩
 ·have:v.den≠1:=fun e=>by rw [e] at q1;exact absurd q1 (by decide)
  rw [if_neg (fun q=>this q.1)]
  exact ⟨rfl,l03⟩
 ·have hden:v.den=1:=by
   unfold cmpI at q1
   split at q1
   ·cases q1
   ·split at q1
    ·cases q1
    ·omega
  refine (small_c (hN2.1.mono hl3).is (by omega)).mono ?_
  rintro _ h4 ⟨rfl,hl4⟩
  have l04:=l03.trans hl4
  refine ⟨_,_,rfl, ?_⟩
  cases hf:fitsZ v.num with
  | false=>
   have : ¬ (v.den=1/\0<=v.num/\v.num<=9999999999999):=fun q=>by have:=of_decide_eq_false hf;omega
   rw [if_neg this]
   exact Br.mk (fun _=>⟨rfl,l04⟩) (fun q=>by cases q)
  | true=>
   simp only [if_true]
   refine Br.mk (fun q=>by cases q) (fun _=>Br.mk (fun q2=> ?_) (fun q2=>Br.mk (fun q3=> ?_) (fun q3=> ?_)))
   ·have:=of_decide_eq_true q2
    rw [if_neg (by omega)]
    exact ⟨rfl,l04⟩
   ·have:=of_decide_eq_true q3
    rw [if_neg (by omega)]
    exact ⟨rfl,l04⟩
   ·have a:=of_decide_eq_false q2
    have b:=of_decide_eq_false q3
    rw [if_pos ⟨hden,by omega,by omega⟩]
    simp only [Option.getD_some,Option.isSome_some]
    rw [Int.toNat_of_nonneg (by omega)]
    exact ⟨rfl,l04⟩
def rightV (e:Ex):Bool:=
 decide ((foOps e.kind).1<=e.kids.length/\(e.kids.length:Int)<=(foOps e.kind).2)&&(if e.kind=2 then isNameV e.name else decide (e.name=[]))&&(if e.kind=1 then (shV e.val).isSome else decide (e.val=0))
theorem foRight_c {h:Heap} {e:Ex} {vs:List Value} (u:IsE h e vs) (z:Szs e):CallsU Tryz.prog 239 [.agg vs.toArray] h fun r h' => r = .bool (rightV e)/\Le h h' := by
 obtain ⟨s,A,c,B,d,K,kc,rfl,uq,hc,hk⟩:=u.open
 obtain ⟨z1,z2,z3,z4,z5⟩:=z.open
 apply formula_right_ok
 unfold formula_right_vc
 have e0:(⟨#[]⟩:ByteArray).toList=[]:=bytes_toList []
 rw [bytes_toList,e0]
 refine (foOps_c e.kind h).mono ?_
 rintro _ _ ⟨rfl,rfl⟩
 unfold rightV
 refine ⟨_,_,rfl,fun t h' => h=h' /\ t = !decide ((foOps e.kind).1<=e.kids.length/\(e.kids.length:Int)<=(foOps e.kind).2), ?_, ?_⟩
 ·rintro t _ ⟨rfl,rfl⟩
  refine Br.mk (fun q=> ?_) (fun q=> ?_)
  ·have:decide ((foOps e.kind).1<=e.kids.length/\(e.kids.length:Int)<=(foOps e.kind).2)=false:=by rw [Bool.not_eq_true'] at q;exact q
   rw [this]
   exact ⟨rfl,Le.refl _⟩
  ·have:decide ((foOps e.kind).1<=e.kids.length/\(e.kids.length:Int)<=(foOps e.kind).2)=true:=by simpa using q
   rw [this,Bool.true_and]
   refine ⟨fun h' => h=h' /\ (if e.kind=2 then isNameV e.name else decide (e.name=[]))=true, ?_, ?_⟩
   ·rintro _ ⟨rfl,hnm⟩
    rw [hnm,Bool.true_and]
    refine Br.mk (fun q2=> ?_) (fun q2=> ?_)
    ·rw [if_pos (beq_iff_eq.1 q2)]
     refine (foShares_c uq (by omega) (by omega)).mono ?_
     rintro _ h1 ⟨rfl,hl1⟩
     exact ⟨_,_,rfl,rfl,hl1⟩
    ·rw [if_neg (beq_eq_false_iff_ne.1 q2)]
     refine (rcmp_c uq (w:=⟨0,0,IsI.pos (NmN.nil h none 0).is,(NmN.nil h none 0).is,by simp⟩) (p:=0) (by omega) (by omega) (by omega) (by omega)).mono ?_
     rintro _ h1 ⟨rfl,hl1⟩
     refine ⟨_,rfl, ?_,hl1⟩
     congr 1
     unfold cmpQ
     by_cases hv:e.val=0
     ·rw [hv];decide +kernel
     ·rw [decide_eq_false hv]
      split
      ·rfl
      ·split
       ·rfl
       ·exfalso;grind
   ·refine Br.mk (fun q2=> ?_) (fun q2=> ?_)
    ·rw [if_pos (beq_iff_eq.1 q2)]
     refine (foName_c e.name h).mono ?_
     rintro _ _ ⟨rfl,rfl⟩
     refine ⟨_,rfl,Br.mk (fun q3=> ?_) (fun q3=> ?_)⟩
     ·have:isNameV e.name=false:=by simpa using q3
      rw [this]
      exact ⟨rfl,Le.refl _⟩
     ·exact ⟨rfl,by simpa using q3⟩
    ·rw [if_neg (beq_eq_false_iff_ne.1 q2)]
     refine Br.mk (fun q3=> ?_) (fun q3=> ?_)
     ·have:e.name≠[]:=by simpa using q3
      rw [decide_eq_false this]
      exact ⟨rfl,Le.refl _⟩
     ·have:e.name=[]:=by simpa using q3
      exact ⟨rfl,decide_eq_true this⟩
 ·refine Br.mk (fun q=>⟨rfl, ?_⟩) (fun q=>⟨rfl, ?_⟩)
  ·have:=of_decide_eq_true q
   rw [decide_eq_false (by omega)];rfl
  ·have:=of_decide_eq_false q
   rw [Bool.eq_iff_iff,decide_eq_true_eq,Bool.not_eq_true', decide_eq_false_iff_not]
   omega
mutual
def chkV:Ex->Int->Int
 | .mk k q n m nm kids,lv=>if 12<lv then 5 else if rightV (.mk k q n m nm kids) then chkL kids (lv+1) else 1
def chkL:List Ex->Int->Int
 | [],_=>0
 | e::es,lv=>if chkV e lv=0 then chkL es lv else chkV e lv
end
theorem chkL_get : ∀ (es:List Ex) (lv:Int) (k:Nat),(∀ j e,j<k->es[j]?=some e->chkV e lv=0)->chkL es lv=chkL (es.drop k) lv
 | [],lv,k,_=>by simp
 | e::es,lv,0,_=>by simp
 | e::es,lv,k+1,h=>by
  have h0:=h 0 e (by omega) rfl
  rw [chkL,if_pos h0,chkL_get es lv k fun j e' hj he=>h (j+1) e' (by omega) (by simpa using he)]
  simp
mutual
theorem foCheck_c : ∀ (e:Ex) {h:Heap} {vs:List Value} (lv:Int),IsE h e vs->Szs e->0<=lv->lv<=1000->
  CallsU Tryz.prog 187 [.agg vs.toArray,.int .i64 lv] h fun r h' => r = .int .i64 (chkV e lv)/\Le h h'
 | .mk k q n m nm kids,h,vs,lv,u,z,hlv,hlv2=>by
  have uo:=u.open
  obtain ⟨s,A,c,B,d,K,kc,rfl,uq,hc,hk⟩:=uo
  obtain ⟨z1,z2,z3,z4,z5⟩:=z.open
  apply formula_check_ok
  unfold formula_check_vc
  rw [chkV]
  refine Br.mk (fun q1=> ?_) (fun q1=> ?_)
  ·rw [if_pos (of_decide_eq_true q1)]
   exact ⟨rfl,Le.refl _⟩
  ·rw [if_neg (of_decide_eq_false q1)]
   refine (foRight_c u z).mono ?_
   rintro _ h1 ⟨rfl,hl1⟩
   refine ⟨_,rfl,Br.mk (fun q2=> ?_) (fun q2=> ?_)⟩
   ·have:rightV (.mk k q n m nm kids)=false:=by simpa using q2
    rw [this,if_neg (by decide)]
    exact ⟨rfl,hl1⟩
   ·have:rightV (.mk k q n m nm kids)=true:=by simpa using q2
    rw [this,if_pos rfl]
    refine ⟨fun m i h' => ∃ j,j<=kids.length/\m=kids.length-j/\i=(j:Int)/\Le h h' /\ ∀ i' e', i' < j->kids[i']?=some e' -> chkV e' (lv+1)=0,⟨kids.length,0,by omega,by omega,rfl,hl1,fun i' e' hi=>by omega⟩, ?_⟩
    rintro mm _ h2 ⟨j,hj,rfl,rfl,hl2,hall⟩
    refine Br.mk (fun q3=> ?_) (fun q3=> ?_)
    ·have hlt:j<kids.length:=by have:=of_decide_eq_true q3;exact Int.ofNat_lt.1 this
     obtain ⟨x,hx⟩ : ∃ x,kids[j]?=some x:=⟨_,List.getElem?_eq_getElem hlt⟩
     have hk2:kids≠[]-> ∃ (ad:Addr) (b:Blk),K=some ad/\ad.spot=none/\h2 ad.block=some b/\ad.off+6*kids.length<=b.cells.length/\IsEs h2 kids (b.cells.drop ad.off):=fun hne=>
      let ⟨ad,b,a1,a2,a3,a4,a5⟩:=hk hne
      ⟨ad,b,a1,a2,hl2 _ _ a3,a4,IsEs.mono hl2 _ _ a5⟩
     obtain ⟨ad,vs', eA,hld,ux⟩:=kid_ld (e:= .mk k q n m nm kids) hk2 hx
     have ux' := ux
     obtain ⟨s', A', c', B', d', K', kc', rfl,_,_,_⟩:=ux'.open
     refine ⟨ad,eA,by omega,Int.ofNat_lt.2 hlt,_,_,_,_,_,_,_,_,_,_,_,_,by rw [Int.toNat_natCast];exact hld, ?_⟩
     rintro _ rfl
     have h12:=of_decide_eq_false q1
     rw [wrap_i64 (by omega) (by omega)]
     refine (foCheckL_c kids (lv+1) hx ux (SzsL.get z5 hx) (by omega) (by omega)).mono ?_
     rintro _ h3 ⟨rfl,hl3⟩
     refine ⟨_,rfl,Br.mk (fun q4=> ?_) (fun q4=> ?_)⟩
     ·have hne:chkV x (lv+1)≠0:=by simpa using q4
      have e1:=chkL_get kids (lv+1) j hall
      rw [e1,List.drop_eq_getElem_cons hlt,chkL]
      have ex:kids[j]=x:=by rw [List.getElem?_eq_getElem hlt] at hx;exact Option.some.inj hx
      rw [ex,if_neg hne]
      exact ⟨rfl,hl2.trans hl3⟩
     ·have h0:chkV x (lv+1)=0:=by simpa using q4
      rintro _ rfl
      have z4' : kids.length<=1000000:=z4
      refine ⟨kids.length-(j+1),by omega,j+1,by omega,rfl,wi (by omega) (by omega),hl2.trans hl3,fun i' e' hi he=> ?_⟩
      rcases Nat.lt_succ_iff_lt_or_eq.1 hi with q | q
      ·exact hall i' e' q he
      ·subst q
       rw [hx] at he
       cases he
       exact h0
    ·have hj' : j=kids.length:=by
      have:=of_decide_eq_false q3
      have:=Int.not_lt.1 this
      have h5:kids.length<=j:=Int.ofNat_le.1 this
      omega
     subst hj'
     have e1:=chkL_get kids (lv+1) kids.length hall
     rw [List.drop_length,chkL] at e1
     rw [e1]
     exact ⟨rfl,hl2⟩
theorem foCheckL_c : ∀ (es:List Ex) {h:Heap} {i:Nat} {e:Ex} {vs:List Value} (lv:Int),es[i]?=some e->IsE h e vs->Szs e->0<=lv->lv<=1000->
  CallsU Tryz.prog 187 [.agg vs.toArray,.int .i64 lv] h fun r h' => r = .int .i64 (chkV e lv)/\Le h h'
 | [],_,i,e,_,_,he,_,_,_,_=>by simp at he
 | x::es,h,0,e,vs,lv,he,u,z,h1,h2=>by
  simp at he
  subst he
  exact foCheck_c x lv u z h1 h2
 | x::es,h,i+1,e,vs,lv,he,u,z,h1,h2=>foCheckL_c es lv (by simpa using he) u z h1 h2
end
theorem foChk_c {e:Ex} {h:Heap} {vs:List Value} (u:IsE h e vs) (z:Szs e):CallsU Tryz.prog 115 [.agg vs.toArray] h fun r h' => r = .int .i64 (chkV e 1)/\Le h h' := by
 have u' := u
 obtain ⟨s,A,c,B,d,K,kc,rfl,_⟩:=u'.open
 apply formula_Check_ok
 refine (foCheck_c e 1 u z (by omega) (by omega)).mono ?_
 rintro _ h1 ⟨rfl,hl1⟩
 exact ⟨_,rfl,rfl,hl1⟩
theorem div_val {z y:Int} {v t:Nat} (hv:v≠0) (ht:t≠0) (hy:y≠0) (a b:Bool) (x w:Nat) (ez:z=if a then -(x:Int) else x) (ey:y=if b then -(w:Int) else w) :
  mkRat (if !(a==b) then -((x*t:Nat):Int) else ((x*t:Nat):Int)) (v*w)=mkRat z v/mkRat y t:=by
 have hw:w≠0:=by rintro rfl;apply hy;rw [ey];cases b<;>rfl
 have hv' : ((v:Nat):Rat)≠0:=fun e=>hv (Rat.natCast_eq_zero_iff.1 e)
 have ht' : ((t:Nat):Rat)≠0:=fun e=>ht (Rat.natCast_eq_zero_iff.1 e)
 have hw' : ((w:Nat):Rat)≠0:=fun e=>hw (Rat.natCast_eq_zero_iff.1 e)
 rw [Rat.mkRat_eq_div,Rat.mkRat_eq_div,Rat.mkRat_eq_div,Rat.natCast_mul]
 have e1:((z:Int):Rat)=if a then -((x:Nat):Rat) else ((x:Nat):Rat):=by
  rw [ez];cases a
  ·simp only [Bool.false_eq_true,if_false];exact Rat.intCast_natCast x
  ·simp only [if_true];rw [Rat.intCast_neg,Rat.intCast_natCast]
 have e2:((y:Int):Rat)=if b then -((w:Nat):Rat) else ((w:Nat):Rat):=by
  rw [ey];cases b
  ·simp only [Bool.false_eq_true,if_false];exact Rat.intCast_natCast w
  ·simp only [if_true];rw [Rat.intCast_neg,Rat.intCast_natCast]
 have e3:(((if !(a==b) then -((x*t:Nat):Int) else ((x*t:Nat):Int)):Int):Rat)=if !(a==b) then -(((x:Nat):Rat)*((t:Nat):Rat)) else ((x:Nat):Rat)*((t:Nat):Rat):=by
  split
  ·rw [Rat.intCast_neg,Rat.intCast_natCast,Rat.natCast_mul]
  ·rw [Rat.intCast_natCast,Rat.natCast_mul]
 rw [e1,e2,e3]
 generalize ((x:Nat):Rat)=X at *
 generalize ((t:Nat):Rat)=T at *
 generalize ((v:Nat):Rat)=V at *
 generalize ((w:Nat):Rat)=W at *
 cases a<;>cases b<;>simp<;>grind
theorem rdiv_c {h:Heap} {s s2:Bool} {A B C D:Option Addr} {n c m d n2 c2 m2 d2:Nat} {q p:Rat} (u:IsQ h s A n c B m d q) (w:IsQ h s2 C n2 c2 D m2 d2 p) (hn:n<=134217728) (hm:m<=134217728) (hn2:n2<=134217728) (hm2:m2<=134217728) :
  CallsU Tryz.prog 129 [.agg #[.bool s,.slice A n c,.slice B m d],.agg #[.bool s2,.slice C n2 c2,.slice D m2 d2]] h fun r h' =>
   ((p=0/\r = .tuple #[.agg #[.bool false,.slice none 0 0,.slice none 0 0],.bool false])\/(p≠0/\ ∃ s' A' n' c' B' m' d', r = .tuple #[.agg #[.bool s', .slice A' n' c', .slice B' m' d'],.bool true]/\NmQ h' s' A' n' c' B' m' d' (q/p)/\n' <= n+max m2 2/\m' <= max m 2+n2))/\Le h h' := by
 apply ratio_Div_ok
 refine (rvalue_c u (by omega)).mono ?_
 rintro _ h1 ⟨s1,A1,n1,c1,B1,m1,d1,rfl,⟨z,v,hv,uz,uv,rfl⟩,hn1,hm1,hl1⟩
 refine ⟨_,_,_,_,_,_,_,rfl,hl1,(rvalue_c (w.mono hl1) (by omega)).mono ?_⟩
 rintro _ h2 ⟨s3,A3,n3,c3,B3,m3,d3,rfl,⟨y,t,ht,uy,ut,rfl⟩,hn3,hm3,hl2⟩
 obtain ⟨xw,iw,ey⟩:=uy
 obtain ⟨xz,iz,ez⟩:=uz
 refine ⟨_,_,_,_,_,_,_,rfl,(rzero_c iw (by omega)).mono ?_⟩
 rintro _ _ ⟨rfl,rfl⟩
 have hy0:mkRat y t=0↔xw=0:=by
  rw [Rat.mkRat_eq_zero ht,ey]
  cases s3<;>simp
 have hl12:=hl1.trans hl2
 refine ⟨_,rfl,Br.mk (fun q=> ?_) (fun q=> ?_)⟩
 ·exact ⟨Or.inl ⟨hy0.2 (of_decide_eq_true q),rfl⟩,hl12⟩
 ·have hw0:xw≠0:=of_decide_eq_false q
  refine (mul_c (iz.mono hl2) ut (by omega) (by omega)).mono ?_
  rintro _ h4 ⟨A4,k4,c4,rfl,hN4,hl4⟩
  have hk4:=NmN.le_of hN4 (iz.sz.mul ut.sz)
  refine ⟨_,_,_,rfl,hl4,(mul_c ((uv.mono hl2).mono hl4) (iw.mono hl4) (by omega) (by omega)).mono ?_⟩
  rintro _ h5 ⟨A5,k5,c5,rfl,hN5,hl5⟩
  have hk5:=NmN.le_of hN5 (uv.sz.mul iw.sz)
  refine ⟨_,_,_,rfl,hl5,(reduce_c (s:= !(s1==s3)) ⟨_,(hN4.mono hl5).is,rfl⟩ hN5.is (Nat.mul_ne_zero hv hw0) (by omega) (by omega)).mono ?_⟩
  rintro _ h6 ⟨s6,A6,n6,c6,B6,m6,d6,rfl,hN6,a6,b6,hl6⟩
  rw [div_val hv ht (fun e=>hw0 (hy0.1 (by rw [e];simp))) s1 s3 xz xw ez ey] at hN6
  exact ⟨_,_,_,_,_,_,_,rfl,Or.inr ⟨fun e=>hw0 (hy0.1 e),_,_,_,_,_,_,_,rfl,hN6,by omega,by omega⟩,((hl12.trans hl4).trans hl5).trans hl6⟩
structure Meas where
 name:List UInt8
 val:Rat
 ln:Nat
 lm:Nat
def IsMs (h:Heap):List Meas->List Value->Prop
 | [],_=>True
 | x::xs,cs=>(∃ s A c B d,cs.take 4=[sv x.name,.bool s,.slice A x.ln c,.slice B x.lm d]/\IsQ h s A x.ln c B x.lm d x.val)/\IsMs h xs (cs.drop 4)
theorem IsMs.mono {h h' : Heap} (l:Le h h') : ∀ {xs:List Meas} {cs:List Value},IsMs h xs cs->IsMs h' xs cs
 | [],_,_=>trivial
 | _::_,_,⟨⟨s,A,c,B,d,e,u⟩,r⟩=>⟨⟨s,A,c,B,d,e,u.mono l⟩,IsMs.mono l r⟩
theorem IsMs.get {h:Heap} : ∀ {xs:List Meas} {cs:List Value} {i:Nat} {x:Meas},IsMs h xs cs->xs[i]?=some x-> ∃ s A c B d,(cs.drop (i*4)).take 4=[sv x.name,.bool s,.slice A x.ln c,.slice B x.lm d]/\IsQ h s A x.ln c B x.lm d x.val
 | [],_,i,x,_,he=>by simp at he
 | y::xs,cs,0,x,u,he=>by
  simp at he
  subst he
  simpa using u.1
 | y::xs,cs,i+1,x,u,he=>by
  have:=IsMs.get u.2 (i:=i) (by simpa using he)
  rw [List.drop_drop] at this
  rw [show (i+1)*4=4+i*4 by omega]
  exact this
structure EnvS (h:Heap) (A:Option Addr) (n c:Nat) (ms:List Meas):Prop where
 len:n=ms.length
 cap:n<=c
 big:ms.length<=1000000
 sz : ∀ x∈ms,x.ln<=64/\x.lm<=64
 mem:ms≠[]-> ∃ (ad:Addr) (b:Blk),A=some ad/\ad.spot=none/\h ad.block=some b/\IsMs h ms (b.cells.drop ad.off)
theorem EnvS.mono {h h' : Heap} {A:Option Addr} {n c:Nat} {ms:List Meas} (u:EnvS h A n c ms) (l:Le h h'):EnvS h' A n c ms:=
 ⟨u.len,u.cap,u.big,u.sz,fun hn=>let ⟨ad,b,a1,a2,a3,a4⟩:=u.mem hn;⟨ad,b,a1,a2,l _ _ a3,IsMs.mono l a4⟩⟩
theorem EnvS.get {h:Heap} {A:Option Addr} {n c:Nat} {ms:List Meas} (u:EnvS h A n c ms) {i:Nat} {x:Meas} (hx:ms[i]?=some x) :
  ∃ ad s A' c' B d,A=some ad/\LdN h (ad.add (i*4)) [sv x.name,.bool s,.slice A' x.ln c', .slice B x.lm d]/\IsQ h s A' x.ln c' B x.lm d x.val:=by
 obtain ⟨ad,b,a1,a2,a3,a4⟩:=u.mem (fun q=>by rw [q] at hx;simp at hx)
 obtain ⟨s,A', c', B,d,e,uq⟩:=a4.get hx
 rw [List.drop_drop] at e
 exact ⟨ad,s,A', c', B,d,a1,LdN_of a2 a3 rfl e,uq⟩
def EvR (o:Except Int Rat) (k:Nat) (v:Value) (h' : Heap):Prop:=
 match o with
 | .ok q=> ∃ s A n c B m d,v = .tuple #[.agg #[.bool s,.slice A n c,.slice B m d],.int .i64 0]/\NmQ h' s A n c B m d q/\n<=k/\m<=k
 | .error e=>v = .tuple #[.agg #[.bool false,.slice none 0 0,.slice none 0 0],.int .i64 e]
def lookV (ms:List Meas) (nm:List UInt8):Except Int Rat:=
 match ms.find? fun x=>x.name==nm with
 | some x=> .ok x.val
 | none=> .error 6
theorem look_drop (ms:List Meas) (nm:List UInt8) (k:Nat) (h : ∀ j x,j<k->ms[j]?=some x->x.name≠nm):lookV ms nm=lookV (ms.drop k) nm:=by
 induction k generalizing ms with
 | zero=>rfl
 | succ k ih=>
  cases ms with
  | nil=>rfl
  | cons y r=>
   have h0:=h 0 y (by omega) rfl
   have:lookV (y::r) nm=lookV r nm:=by unfold lookV;rw [List.find?_cons_of_neg (by simpa using h0)]
   rw [this,ih r fun j x hj hx=>h (j+1) x (by omega) (by simpa using hx)]
   rfl
theorem foLook_c {h:Heap} {A:Option Addr} {n c:Nat} {ms:List Meas} (u:EnvS h A n c ms) (nm:List UInt8) :
  CallsU Tryz.prog 197 [.slice A n c,sv nm] h fun r h' => EvR (lookV ms nm) 64 r h' /\ Le h h' := by
 apply formula_lookUp_ok
 have hlen:=u.len
 have hbig:=u.big
 refine ⟨fun m i _ _ _ _ _ _ _ h' => ∃ k,k<=ms.length/\m=ms.length-k/\i=(k:Int)/\h=h' /\ ∀ j x,j<k->ms[j]?=some x->x.name≠nm,⟨ms.length,0,by omega,by omega,rfl,rfl,fun j x hj=>by omega⟩, ?_⟩
 rintro m _ _ _ _ _ _ _ _ _ ⟨k,hk,rfl,rfl,rfl,hall⟩
 refine Br.mk (fun q=> ?_) (fun q=> ?_)
 ·have hlt:k<ms.length:=by have:=of_decide_eq_true q;omega
  obtain ⟨x,hx⟩ : ∃ x,ms[k]?=some x:=⟨_,List.getElem?_eq_getElem hlt⟩
  obtain ⟨ad,s,A', c', B,d,eA,hld,uq⟩:=u.get hx
  have hz:=u.sz x (List.mem_of_getElem? hx)
  refine ⟨ad,eA,by omega,by omega,_,_,_,_,_,_,_,_,by rw [Int.toNat_natCast];exact hld, ?_⟩
  rw [bytes_toList,bytes_toList]
  refine Br.mk (fun q2=> ?_) (fun q2=> ?_)
  ·have e:=beq_iff_eq.1 q2
   refine (rnorm_c uq (by omega) (by omega)).mono ?_
   rintro _ h1 ⟨s1,A1,n1,c1,B1,m1,d1,rfl,hN1,a1,b1,hl1⟩
   have el:lookV ms nm = .ok x.val:=by
    rw [look_drop ms nm k hall,List.drop_eq_getElem_cons hlt]
    have ex:ms[k]=x:=by rw [List.getElem?_eq_getElem hlt] at hx;exact Option.some.inj hx
    rw [ex]
    unfold lookV
    rw [List.find?_cons_of_pos (by simpa using e)]
   rw [el]
   exact ⟨_,_,_,_,_,_,_,rfl,⟨_,_,_,_,_,_,_,rfl,hN1,by omega,by omega⟩,hl1⟩
  ·have hne:=beq_eq_false_iff_ne.1 q2
   rintro _ rfl
   refine ⟨ms.length-(k+1),by omega,k+1,by omega,rfl,wi (by omega) (by omega),rfl,fun j y hj hy=> ?_⟩
   rcases Nat.lt_succ_iff_lt_or_eq.1 hj with q | q
   ·exact hall j y q hy
   ·subst q
    rw [hx] at hy
    cases hy
    exact hne
 ·have hk' : k=ms.length:=by have:=of_decide_eq_false q;omega
  subst hk'
  have el:lookV ms nm = .error 6:=by
   rw [look_drop ms nm ms.length hall,List.drop_length]
   rfl
  rw [el]
  exact ⟨rfl,Le.refl _⟩
def RatsAt (h:Heap) (k:Nat) (cs:List Value) (qs:List Rat):Prop:= ∀ i q,qs[i]?=some q-> ∃ s A n c B m d,(cs.drop (i*3)).take 3=[.bool s,.slice A n c,.slice B m d]/\NmQ h s A n c B m d q/\n<=k/\m<=k
theorem RatsAt.mono {h h' : Heap} {k:Nat} {cs:List Value} {qs:List Rat} (u:RatsAt h k cs qs) (l:Le h h'):RatsAt h' k cs qs:=fun i q hq=>
 let ⟨s,A,n,c,B,m,d,e,a,b⟩:=u i q hq
 ⟨s,A,n,c,B,m,d,e,a.mono l,b⟩
theorem RatsAt.ld {h:Heap} {g k ty:Nat} {cs:List Value} {qs:List Rat} (u:RatsAt h k cs qs) {i:Nat} {q:Rat} (hq:qs[i]?=some q) :
  ∃ s A n c B m d,LdN (h.put g ⟨cs,ty,(0,0)⟩) (Addr.add ⟨g,0,none⟩ (i*3)) [.bool s,.slice A n c,.slice B m d]/\NmQ h s A n c B m d q/\n<=k/\m<=k:=by
 obtain ⟨s,A,n,c,B,m,d,e,a,b⟩:=u i q hq
 exact ⟨s,A,n,c,B,m,d,LdN_of rfl (Heap.put_same _ _ _) rfl (by simpa using e),a,b⟩
def exV (sg:Int) (best:Rat):List Rat->Rat
 | []=>best
 | v::vs=>exV sg (if cmpQ v best=sg then v else best) vs
theorem foExtreme_c {H:Heap} {g k ty:Nat} {cs:List Value} {q0:Rat} {qs:List Rat} (hg:H g=none) (u:RatsAt H k cs (q0::qs)) (hk:k<=100000000) (hl:qs.length<=1000000) (sg:Int) :
  CallsU Tryz.prog 201 [.slice (some ⟨g,0,none⟩) (qs.length+1) (qs.length+1),.int .i64 sg] (H.put g ⟨cs,ty,(0,0)⟩) fun r h' => ∃ H' s A n c B m d,r = .agg #[.bool s,.slice A n c,.slice B m d]/\NmQ H' s A n c B m d (exV sg q0 qs)/\n<=k/\m<=k/\Le H H' /\ H' g=none/\h' = H'.put g ⟨cs,ty,(0,0)⟩:=by
 apply formula_extreme_ok
 obtain ⟨s0,A0,n0,c0,B0,m0,d0,hld0,hN0,a0,b0⟩:=u.ld (g:=g) (ty:=ty) (i:=0) rfl
 refine ⟨_,rfl,by omega,by omega,_,_,_,_,_,_,_,hld0,by omega,by omega, ?_⟩
 refine ⟨fun mm i s A n c B m d h' => ∃ j H' best,j<=qs.length/\mm=qs.length-j/\i=(j:Int)/\NmQ H' s A n c B m d best/\n<=k/\m<=k/\Le H H' /\ H' g=none/\h' = H'.put g ⟨cs,ty,(0,0)⟩/\exV sg best (qs.drop j)=exV sg q0 qs,⟨qs.length,0,H,q0,by omega,by omega,rfl,hN0,a0,b0,Le.refl _,hg,rfl,rfl⟩, ?_⟩
 rintro mm _ s A n c B m d _ ⟨j,H', best,hj,rfl,rfl,hN,a,b,hle,hg', rfl,he⟩
 refine Br.mk (fun q=> ?_) (fun q=> ?_)
 ·have hlt:j<qs.length:=by have:=of_decide_eq_true q;omega
  have hc1 : ¬ (qs.length+1=1):=by omega
  obtain ⟨v,hv⟩ : ∃ v,qs[j]?=some v:=⟨_,List.getElem?_eq_getElem hlt⟩
  obtain ⟨s1,A1,n1,c1,B1,m1,d1,hld1,hN1,a1,b1⟩:=(u.mono hle).ld (g:=g) (ty:=ty) (i:=j+1) (q:=v) (by simpa using hv)
  rw [if_neg hc1]
  refine ⟨Addr.add ⟨g,0,none⟩ (1*3),rfl,by omega,by omega,s1,A1,n1,c1,B1,m1,d1, ?_, ?_⟩
  ·rw [Int.toNat_natCast]
   have e:Addr.add (Addr.add ⟨g,0,none⟩ (1*3)) (j*3)=Addr.add ⟨g,0,none⟩ ((j+1)*3):=by
    unfold Addr.add
    by_cases h0:j*3=0
    ·have:j=0:=by omega
     subst this
     simp
    ·rw [if_neg h0,if_neg (by omega)]
     simp
     omega
   rw [e]
   exact hld1
  ·refine (CallsU.frame (rcmp_c (h:=H') hN1.is hN.is (by omega) (by omega) (by omega) (by omega)) hg').mono ?_
   rintro _ _ ⟨H2,⟨rfl,hl2⟩,hg2,rfl⟩
   have ed:qs.drop j=v::qs.drop (j+1):=by
    rw [List.drop_eq_getElem_cons hlt]
    congr 1
    rw [List.getElem?_eq_getElem hlt] at hv
    exact Option.some.inj hv
   rw [ed,exV] at he
   refine ⟨_,rfl,Br.mk (fun q2=> ?_) (fun q2=> ?_)⟩
   ·rintro _ rfl
    rw [if_pos (beq_iff_eq.1 q2)] at he
    exact ⟨qs.length-(j+1),by omega,j+1,H2,v,by omega,rfl,wi (by omega) (by omega),hN1.mono hl2,a1,b1,hle.trans hl2,hg2,rfl,he⟩
   ·rintro _ rfl
    rw [if_neg (beq_eq_false_iff_ne.1 q2)] at he
    exact ⟨qs.length-(j+1),by omega,j+1,H2,best,by omega,rfl,wi (by omega) (by omega),hN.mono hl2,a,b,hle.trans hl2,hg2,rfl,he⟩
 ·have hj' : j=qs.length:=by have:=of_decide_eq_false q;omega
  subst hj'
  rw [List.drop_length,exV] at he
  rw [<- he]
  exact ⟨H', _,_,_,_,_,_,_,rfl,hN,a,b,hle,hg', rfl⟩
def apV (ms:List Meas) (k:Int) (q:Rat) (nm:List UInt8) (vs:List Rat):Except Int Rat:=
 if k=1 then .ok q else if k=2 then lookV ms nm else if k=3 then .ok (vs.getD 0 0+vs.getD 1 0) else if k=4 then .ok (vs.getD 0 0-vs.getD 1 0) else if k=5 then .ok (vs.getD 0 0*vs.getD 1 0)
 else if k=6 then (if vs.getD 1 0=0 then .error 10 else .ok (vs.getD 0 0/vs.getD 1 0)) else if k=7 then .ok (-vs.getD 0 0) else .ok (exV (if k=8 then -1 else 1) (vs.getD 0 0) (vs.drop 1))
mutual
def evV (ms:List Meas):Ex->Except Int Rat
 | .mk k q _ _ nm kids=>match evL ms kids with
  | .error e=> .error e
  | .ok vs=>apV ms k q nm vs
def evL (ms:List Meas):List Ex->Except Int (List Rat)
 | []=> .ok []
 | e::es=>match evV ms e with
  | .error x=> .error x
  | .ok v=>match evL ms es with
   | .error x=> .error x
   | .ok vs=> .ok (v::vs)
end
def catR (qs:List Rat):Except Int (List Rat)->Except Int (List Rat)
 | .error x=> .error x
 | .ok vs=> .ok (qs++vs)
theorem LdN.mono {h h' : Heap} {p:Addr} {vs:List Value} (u:LdN h p vs) (l:Le h h'):LdN h' p vs:=let ⟨a,b,c,d⟩:=u;⟨a,b,l _ _ c,d⟩
theorem seg_same {cs xs:List Value} {o k:Nat} (hx:xs.length=k) (hl:o+k<=cs.length):((setSeg cs o xs).drop o).take k=xs:=by
 unfold setSeg
 rw [List.append_assoc,List.drop_append_of_le_length (by simp;omega)]
 have:(cs.take o).drop o=[]:=List.drop_eq_nil_of_le (by simp;omega)
 rw [this,List.nil_append,List.take_append_of_le_length (by omega),List.take_of_length_le (by omega)]
theorem seg_other {cs xs:List Value} {o i k:Nat} (hl:o<=cs.length) (hi:i+k<=o):((setSeg cs o xs).drop i).take k=(cs.drop i).take k:=by
 unfold setSeg
 rw [List.append_assoc,List.drop_append_of_le_length (by simp;omega),List.take_append_of_le_length (by simp;omega)]
 rw [List.drop_take,List.take_take,Nat.min_eq_left (by omega)]
theorem setSeg_len {cs xs:List Value} {o:Nat} (hl:o+xs.length<=cs.length):(setSeg cs o xs).length=cs.length:=by
 unfold setSeg
 simp
 omega
theorem repV_len (vs:List Value) (n:Nat):(repV vs n).length=n*vs.length:=by
 induction n with
 | zero=>simp [repV]
 | succ n ih=>simp only [repV,List.length_append,ih];rw [Nat.add_mul];omega
def bnd (lv:Nat):Nat:=130*2^(13-lv)-1
theorem bnd_ok {lv:Nat} (h:lv<=12):bnd lv=2*bnd (lv+1)+1/\129<=bnd (lv+1)/\bnd (lv+1)<=1000000:=by
 unfold bnd
 have e:13-lv=(13-(lv+1))+1:=by omega
 have hp:1<=2^(13-(lv+1)):=Nat.pow_pos (by decide)
 have hq:2^(13-(lv+1))<=2^12:=Nat.pow_le_pow_right (by decide) (by omega)
 rw [e,Nat.pow_succ]
 generalize 2^(13-(lv+1))=P at *
 omega
theorem chk_ok {e:Ex} {lv:Nat} (h:chkV e (lv:Int)=0):lv<=12/\rightV e=true/\chkL e.kids ((lv+1:Nat):Int)=0:=by
 cases e
 rw [chkV] at h
 split at h
 ·cases h
 ·rename_i q
  split at h
  ·rename_i r
   exact ⟨by omega,r,by rw [Int.natCast_add];exact h⟩
  ·cases h
theorem chkL_at : ∀ {es:List Ex} {lv:Int} {i:Nat} {e:Ex},chkL es lv=0->es[i]?=some e->chkV e lv=0
 | [],_,i,e,_,he=>by simp at he
 | x::es,lv,0,e,h,he=>by
  simp at he
  subst he
  rw [chkL] at h
  split at h
  ·assumption
  ·assumption
 | x::es,lv,i+1,e,h,he=>by
  rw [chkL] at h
  split at h
  ·exact chkL_at h (by simpa using he)
  ·rename_i q;exact absurd h q
theorem evL_drop (ms:List Meas) {es:List Ex} {j:Nat} {e:Ex} (he:es[j]?=some e):evL ms (es.drop j)=match evV ms e with
  | .error x=> .error x
  | .ok v=>catR [v] (evL ms (es.drop (j+1))):=by
 have hlt:j<es.length:=(List.getElem?_eq_some_iff.1 he).1
 have ex:es[j]=e:=by rw [List.getElem?_eq_getElem hlt] at he;exact Option.some.inj he
 rw [List.drop_eq_getElem_cons hlt,ex,evL]
 cases evV ms e with
 | error x=>rfl
 | ok v=>cases evL ms (es.drop (j+1))<;>rfl
theorem cat_cat (qs rs:List Rat) (o:Except Int (List Rat)):catR qs (catR rs o)=catR (qs++rs) o:=by cases o<;>simp [catR]
theorem right_len {e:Ex} (h:rightV e=true):(foOps e.kind).1<=e.kids.length/\(e.kids.length:Int)<=(foOps e.kind).2:=by
 unfold rightV at h
 simp only [Bool.and_eq_true,decide_eq_true_eq] at h
 exact h.1.1
def evAll (f:Ex->Prop):List Ex->Prop
 | []=>True
 | e::es=>f e/\evAll f es
theorem evAll.get {f:Ex->Prop} : ∀ {es:List Ex} {i:Nat} {e:Ex},evAll f es->es[i]?=some e->f e
 | [],i,e,_,he=>by simp at he
 | x::es,0,e,h,he=>by simp at he;subst he;exact h.1
 | x::es,i+1,e,h,he=>evAll.get h.2 (by simpa using he)
theorem apV_err {ms:List Meas} {k:Int} {q:Rat} {nm:List UInt8} {vs:List Rat} {er:Int} (h:apV ms k q nm vs = .error er):er≠0:=by
 unfold apV lookV at h
 repeat' split at h
 all_goals first | (cases h;done) | (cases h;decide)
mutual
theorem evV_err {ms:List Meas} : ∀ {e:Ex} {er:Int},evV ms e = .error er->er≠0
 | .mk k q _ _ nm kids,er,h=>by
  rw [evV] at h
  split at h
  ·rename_i x hx
   cases h
   exact evL_err hx
  ·exact apV_err h
theorem evL_err {ms:List Meas} : ∀ {es:List Ex} {er:Int},evL ms es = .error er->er≠0
 | [],er,h=>by rw [evL] at h;cases h
 | e::es,er,h=>by
  rw [evL] at h
  split at h
  ·rename_i x hx
   cases h
   exact evV_err hx
  ·split at h
   ·rename_i x hx
    cases h
    exact evL_err hx
   ·cases h
end
def EvOk (e:Ex):Prop:= ∀ {h:Heap} {vs:List Value} {A:Option Addr} {n c:Nat} {ms:List Meas} (lv:Nat),IsE h e vs->Szs e->chkV e (lv:Int)=0->EnvS h A n c ms->
 CallsU Tryz.prog 126 [.agg vs.toArray,.slice A n c] h fun r h' => EvR (evV ms e) (bnd lv) r h' /\ Le h h'
theorem foEval_node {k:Int} {q:Rat} {n m:Nat} {nm:List UInt8} {kids:List Ex} (ih:evAll EvOk kids):EvOk (.mk k q n m nm kids):=by
 intro h vs eA en ec ms lv u z hchk env
 have uo:=u.open
 obtain ⟨s,A,c,B,d,K,kc,rfl,uq,hc,hk⟩:=uo
 obtain ⟨z1,z2,z3,z4,z5⟩:=z.open
 obtain ⟨hlv,hright,hckids⟩:=chk_ok hchk
 obtain ⟨hb1,hb2,hb3⟩:=bnd_ok hlv
 have hops:=right_len hright
 simp only [Ex.kind,Ex.kids,Ex.ln,Ex.lm,Ex.val,Ex.name] at uq hc hk z1 z2 z3 z4 z5 hckids hops
 apply formula_eval_ok
 unfold formula_eval_vc
 simp only [Int.toNat_natCast]
 have hlen:(Ex.mk k q n m nm kids).kids.length=kids.length:=rfl
 rw [hlen]
 refine ⟨by omega,by omega,by omega,by omega, ?_⟩
 rintro g _ hg rfl
 refine ⟨fun mm i _ _ _ _ _ _ _ h' => ∃ j H cs qs,j<=kids.length/\mm=kids.length-j/\i=(j:Int)/\H g=none/\Le h H/\h' = H.put g ⟨cs,36,(0,0)⟩/\cs.length=kids.length*3/\qs.length=j/\RatsAt H (bnd (lv+1)) cs qs/\evL ms kids=catR qs (evL ms (kids.drop j)),
  ⟨kids.length,0,h,repV [Value.bool false,Value.slice none 0 0,Value.slice none 0 0] kids.length,[],by omega,by omega,rfl,hg,Le.refl _,rfl,by rw [repV_len];rfl,rfl,fun i q hq=>by simp at hq,by rw [List.drop_zero];cases evL ms kids<;>rfl⟩, ?_⟩
 rintro mm _ _ _ _ _ _ _ _ _ ⟨j,H,cs,qs,hj,rfl,rfl,hgH,hle,rfl,hcs,hql,hrats,hev⟩
 have hput : ∀ (H' : Heap) (b:Blk),Le h H' -> H' g=none->Le h (H'.put g b):=fun H' b hl hn=>hl.put (hl.free hn) _
 have envH:=env.mono hle
 refine Br.mk (fun q1=> ?_) (fun q1=> ?_)
 ·have hlt:j<kids.length:=by have:=of_decide_eq_true q1;omega
  obtain ⟨x,hx⟩ : ∃ x,kids[j]?=some x:=⟨_,List.getElem?_eq_getElem hlt⟩
  have hkH:kids≠[]-> ∃ (ad:Addr) (b:Blk),K=some ad/\ad.spot=none/\H ad.block=some b/\ad.off+6*kids.length<=b.cells.length/\IsEs H kids (b.cells.drop ad.off):=fun hne=>
   let ⟨ad,b,a1,a2,a3,a4,a5⟩:=hk hne
   ⟨ad,b,a1,a2,hle _ _ a3,a4,IsEs.mono hle _ _ a5⟩
  obtain ⟨ad,vs', eA', hld,ux⟩:=kid_ld (e:= .mk k q n m nm kids) hkH hx
  have ux' := ux
  obtain ⟨s', A', c', B', d', K', kc', rfl,_,_,_⟩:=ux'.open
  have hckid:=chkL_at hckids hx
  refine ⟨ad,eA', by omega,by omega,_,_,_,_,_,_,_,_,_,_,_,_,LdN.mono hld (Le.new hgH _), ?_⟩
  refine (CallsU.frame ((ih.get hx) (lv+1) ux (SzsL.get z5 hx) hckid envH) hgH).mono ?_
  rintro _ _ ⟨H2,⟨hr,hl2⟩,hg2,rfl⟩
  have hdrop:=evL_drop ms hx
  cases hv:evV ms x with
  | error er=>
   rw [hv] at hr hdrop
   have hr' : _=Value.tuple #[.agg #[.bool false,.slice none 0 0,.slice none 0 0],.int .i64 er]:=hr
   subst hr'
   refine ⟨_,_,_,_,_,_,_,_,rfl, ?_⟩
   have hevV:evV ms (.mk k q n m nm kids) = .error er:=by rw [evV,hev,hdrop];rfl
   rw [hevV]
   refine Br.mk (fun _=>⟨rfl,hput _ _ (hle.trans hl2) hg2⟩) (fun q2=> ?_)
   have:=evV_err hv
   simp at q2
   exact absurd q2 this
  | ok v=>
   rw [hv] at hr hdrop
   obtain ⟨s2,A2,n2,c2,B2,m2,d2,rfl,hN2,a2,b2⟩:=hr
   refine ⟨_,_,_,_,_,_,_,_,rfl,Br.mk (fun q2=>by cases q2) (fun _=> ?_)⟩
   refine ⟨_,rfl,by omega,by omega,⟨cs,36,(0,0)⟩, ?_⟩
   rw [addr_block,addr_off,addr_spot _ _ rfl]
   refine ⟨Heap.put_same _ _ _,rfl,rfl,by simp;omega, ?_⟩
   rintro _ rfl _ rfl
   simp only [Nat.zero_add]
   refine ⟨kids.length-(j+1),by omega,j+1,H2,setSeg cs (j*3) [.bool s2,.slice A2 n2 c2,.slice B2 m2 d2],qs++[v],by omega,rfl,wi (by omega) (by omega),hg2,hle.trans hl2, ?_, ?_,by simp [hql], ?_, ?_⟩
   ·funext y
    by_cases hy:y=g
    ·subst hy
     rw [Heap.put_same,Heap.put_same]
     simp
    ·rw [Heap.put_ne _ _ hy,Heap.put_ne _ _ hy,Heap.put_ne _ _ hy]
   ·rw [setSeg_len (by simp;omega),hcs]
   ·intro i p hp
    rcases Nat.lt_or_ge i j with hij | hij
    ·rw [List.getElem?_append_left (by omega)] at hp
     obtain ⟨s3,A3,n3,c3,B3,m3,d3,e3,hN3,r3⟩:=hrats i p hp
     refine ⟨s3,A3,n3,c3,B3,m3,d3, ?_,hN3.mono hl2,r3⟩
     rw [seg_other (by omega) (by omega)]
     exact e3
    ·have hi:i=j:=by
      have:=(List.getElem?_eq_some_iff.1 hp).1
      simp at this
      omega
     subst hi
     rw [List.getElem?_append_right (by omega)] at hp
     simp [hql] at hp
     subst hp
     exact ⟨_,_,_,_,_,_,_,seg_same rfl (by omega),hN2,a2,b2⟩
   ·rw [hev,hdrop]
    exact cat_cat qs [v] _
 ·have hj' : j=kids.length:=by have:=of_decide_eq_false q1;omega
  subst hj'
  rw [List.drop_length] at hev
  have hev' : evL ms kids = .ok qs:=by rw [hev,evL];simp [catR]
  have hevV:evV ms (.mk k q n m nm kids)=apV ms k q nm qs:=by rw [evV,hev']
  rw [hevV]
  have qH:=uq.mono hle
  have fin : ∀ {H' : Heap} {s' : Bool} {A' : Option Addr} {n' c' : Nat} {B' : Option Addr} {m' d' : Nat} {p:Rat},H' g=none->Le H H' -> NmQ H' s' A' n' c' B' m' d' p->n' <= bnd lv->m' <= bnd lv->apV ms k q nm qs = .ok p->
    EvR (apV ms k q nm qs) (bnd lv) (.tuple #[.agg #[.bool s', .slice A' n' c', .slice B' m' d'],.int .i64 0]) (H'.put g ⟨cs,36,(0,0)⟩)/\Le h (H'.put g ⟨cs,36,(0,0)⟩):=by
   intro H' s' A' n' c' B' m' d' p hg' hl' hN' a' b' e'
   rw [e']
   exact ⟨⟨_,_,_,_,_,_,_,rfl,hN'.mono (Le.new hg' _),a', b'⟩,hput _ _ (hle.trans hl') hg'⟩
  unfold apV at fin ⊢
  unfold foOps at hops
  refine Br.mk (fun k1=> ?_) (fun k1=>Br.mk (fun k2=> ?_) (fun k2=> ?_))
  ·have e1:k=1:=beq_iff_eq.1 k1
   rw [if_pos e1] at fin ⊢
   refine (CallsU.frame (rnorm_c (h:=H) qH (by omega) (by omega)) hgH).mono ?_
   rintro _ _ ⟨H2,⟨s2,A2,n2,c2,B2,m2,d2,rfl,hN2,a2,b2,hl2⟩,hg2,rfl⟩
   exact ⟨_,_,_,_,_,_,_,rfl,fin hg2 hl2 hN2 (by omega) (by omega) rfl⟩
  ·have e1:k≠1:=beq_eq_false_iff_ne.1 k1
   have e2:k=2:=beq_iff_eq.1 k2
   rw [if_neg e1,if_pos e2] at fin ⊢
   refine (CallsU.frame (foLook_c (h:=H) envH nm) hgH).mono ?_
   rintro _ _ ⟨H2,⟨hr,hl2⟩,hg2,rfl⟩
   cases hlk:lookV ms nm with
   | error er=>
    rw [hlk] at hr
    have hr' : _=Value.tuple #[.agg #[.bool false,.slice none 0 0,.slice none 0 0],.int .i64 er]:=hr
    subst hr'
    exact ⟨_,_,_,_,_,_,_,_,rfl,rfl,hput _ _ (hle.trans hl2) hg2⟩
   | ok p=>
    rw [hlk] at hr
    obtain ⟨s2,A2,n2,c2,B2,m2,d2,rfl,hN2,a2,b2⟩:=hr
    refine ⟨_,_,_,_,_,_,_,_,rfl, ?_⟩
    rw [hlk] at fin
    exact fin hg2 hl2 hN2 (by omega) (by omega) rfl
  ·have e1:k≠1:=beq_eq_false_iff_ne.1 k1
   have e2:k≠2:=beq_eq_false_iff_ne.1 k2
   rw [if_neg e1,if_neg e2] at fin ⊢
   rw [if_neg (by omega)] at hops
   have bin:(k=3\/k=4\/k=5\/k=6)-> ∃ v0 v1,qs=[v0,v1]:=fun hk4=>by
    rw [if_pos hk4] at hops
    simp only at hops
    have:qs.length=2:=by omega
    match qs,this with
    | [v0,v1],_=>exact ⟨v0,v1,rfl⟩
   refine Br.mk (fun k3=> ?_) (fun k3=>Br.mk (fun k4=> ?_) (fun k4=>Br.mk (fun k5=> ?_) (fun k5=>Br.mk (fun k6=> ?_) (fun k6=>Br.mk (fun k7=> ?_) (fun k7=> ?_)))))
   ·have e3:k=3:=beq_iff_eq.1 k3
    obtain ⟨v0,v1,rfl⟩:=bin (by omega)
    have hl2:kids.length=2:=by rw [<- hql];rfl
    obtain ⟨s0,A0,n0,c0,B0,m0,d0,ld0,hN0,a0,b0⟩:=hrats.ld (g:=g) (ty:=36) (i:=0) rfl
    obtain ⟨s1,A1,n1,c1,B1,m1,d1,ld1,hN1,a1,b1⟩:=hrats.ld (g:=g) (ty:=36) (i:=1) rfl
    rw [if_pos e3] at fin ⊢
    refine ⟨_,rfl,by omega,by omega,_,_,_,_,_,_,_,ld0,_,rfl,by omega,by omega,_,_,_,_,_,_,_,ld1, ?_⟩
    refine (CallsU.frame (radd_b (h:=H) hN0.is hN1.is (by omega) (by omega) (by omega) (by omega)) hgH).mono ?_
    rintro _ _ ⟨H2,⟨s2,A2,n2,c2,B2,m2,d2,rfl,hN2,a2,b2,hl3⟩,hg2,rfl⟩
    exact ⟨_,_,_,_,_,_,_,rfl,fin hg2 hl3 hN2 (by omega) (by omega) rfl⟩
   ·have e3:k≠3:=beq_eq_false_iff_ne.1 k3
    have e4:k=4:=beq_iff_eq.1 k4
    obtain ⟨v0,v1,rfl⟩:=bin (by omega)
    have hl2:kids.length=2:=by rw [<- hql];rfl
    obtain ⟨s0,A0,n0,c0,B0,m0,d0,ld0,hN0,a0,b0⟩:=hrats.ld (g:=g) (ty:=36) (i:=0) rfl
    obtain ⟨s1,A1,n1,c1,B1,m1,d1,ld1,hN1,a1,b1⟩:=hrats.ld (g:=g) (ty:=36) (i:=1) rfl
    rw [if_neg e3,if_pos e4] at fin ⊢
    refine ⟨_,rfl,by omega,by omega,_,_,_,_,_,_,_,ld0,_,rfl,by omega,by omega,_,_,_,_,_,_,_,ld1, ?_⟩
    refine (CallsU.frame (rsub_c (h:=H) hN0.is hN1.is (by omega) (by omega) (by omega) (by omega)) hgH).mono ?_
    rintro _ _ ⟨H2,⟨s2,A2,n2,c2,B2,m2,d2,rfl,hN2,a2,b2,hl3⟩,hg2,rfl⟩
    exact ⟨_,_,_,_,_,_,_,rfl,fin hg2 hl3 hN2 (by omega) (by omega) rfl⟩
   ·have e3:k≠3:=beq_eq_false_iff_ne.1 k3
    have e4:k≠4:=beq_eq_false_iff_ne.1 k4
    have e5:k=5:=beq_iff_eq.1 k5
    obtain ⟨v0,v1,rfl⟩:=bin (by omega)
    have hl2:kids.length=2:=by rw [<- hql];rfl
    obtain ⟨s0,A0,n0,c0,B0,m0,d0,ld0,hN0,a0,b0⟩:=hrats.ld (g:=g) (ty:=36) (i:=0) rfl
    obtain ⟨s1,A1,n1,c1,B1,m1,d1,ld1,hN1,a1,b1⟩:=hrats.ld (g:=g) (ty:=36) (i:=1) rfl
    rw [if_neg e3,if_neg e4,if_pos e5] at fin ⊢
    refine ⟨_,rfl,by omega,by omega,_,_,_,_,_,_,_,ld0,_,rfl,by omega,by omega,_,_,_,_,_,_,_,ld1, ?_⟩
    refine (CallsU.frame (rmul_c (h:=H) hN0.is hN1.is (by omega) (by omega) (by omega) (by omega)) hgH).mono ?_
    rintro _ _ ⟨H2,⟨s2,A2,n2,c2,B2,m2,d2,rfl,hN2,a2,b2,hl3⟩,hg2,rfl⟩
    exact ⟨_,_,_,_,_,_,_,rfl,fin hg2 hl3 hN2 (by omega) (by omega) rfl⟩
   ·have e3:k≠3:=beq_eq_false_iff_ne.1 k3
    have e4:k≠4:=beq_eq_false_iff_ne.1 k4
    have e5:k≠5:=beq_eq_false_iff_ne.1 k5
    have e6:k=6:=beq_iff_eq.1 k6
    obtain ⟨v0,v1,rfl⟩:=bin (by omega)
    have hl2:kids.length=2:=by rw [<- hql];rfl
    obtain ⟨s0,A0,n0,c0,B0,m0,d0,ld0,hN0,a0,b0⟩:=hrats.ld (g:=g) (ty:=36) (i:=0) rfl
    obtain ⟨s1,A1,n1,c1,B1,m1,d1,ld1,hN1,a1,b1⟩:=hrats.ld (g:=g) (ty:=36) (i:=1) rfl
    rw [if_neg e3,if_neg e4,if_neg e5,if_pos e6] at fin ⊢
    refine ⟨_,rfl,by omega,by omega,_,_,_,_,_,_,_,ld0,_,rfl,by omega,by omega,_,_,_,_,_,_,_,ld1, ?_⟩
    refine (CallsU.frame (rdiv_c (h:=H) hN0.is hN1.is (by omega) (by omega) (by omega) (by omega)) hgH).mono ?_
    rintro _ _ ⟨H2,⟨⟨hp0,rfl⟩ | ⟨hp0,s2,A2,n2,c2,B2,m2,d2,rfl,hN2,a2,b2⟩,hl3⟩,hg2,rfl⟩
    ·have hp0' : ([v0,v1]:List Rat).getD 1 0=0:=hp0
     rw [if_pos hp0']
     exact ⟨_,_,_,_,_,_,_,_,rfl,Br.mk (fun _=>⟨rfl,hput _ _ (hle.trans hl3) hg2⟩) (fun q=>by cases q)⟩
    ·have hp0' : ¬ ([v0,v1]:List Rat).getD 1 0=0:=hp0
     rw [if_neg hp0'] at fin ⊢
     exact ⟨_,_,_,_,_,_,_,_,rfl,Br.mk (fun q=>by cases q) (fun _=>fin hg2 hl3 hN2 (by omega) (by omega) rfl)⟩
   ·have e3:k≠3:=beq_eq_false_iff_ne.1 k3
    have e4:k≠4:=beq_eq_false_iff_ne.1 k4
    have e5:k≠5:=beq_eq_false_iff_ne.1 k5
    have e6:k≠6:=beq_eq_false_iff_ne.1 k6
    have e7:k=7:=beq_iff_eq.1 k7
    rw [if_neg (by omega),if_pos e7] at hops
    simp only at hops
    obtain ⟨v0,rfl⟩ : ∃ v0,qs=[v0]:=by
     have:qs.length=1:=by omega
     match qs,this with
     | [v0],_=>exact ⟨v0,rfl⟩
    obtain ⟨s0,A0,n0,c0,B0,m0,d0,ld0,hN0,a0,b0⟩:=hrats.ld (g:=g) (ty:=36) (i:=0) rfl
    rw [if_neg e3,if_neg e4,if_neg e5,if_neg e6,if_pos e7] at fin ⊢
    refine ⟨_,rfl,by omega,by omega,_,_,_,_,_,_,_,ld0, ?_⟩
    refine (CallsU.frame (rneg_c (h:=H) hN0.is (by omega) (by omega)) hgH).mono ?_
    rintro _ _ ⟨H2,⟨s2,A2,n2,c2,B2,m2,d2,rfl,hN2,a2,b2,hl3⟩,hg2,rfl⟩
    exact ⟨_,_,_,_,_,_,_,rfl,fin hg2 hl3 hN2 (by omega) (by omega) rfl⟩
   ·have e3:k≠3:=beq_eq_false_iff_ne.1 k3
    have e4:k≠4:=beq_eq_false_iff_ne.1 k4
    have e5:k≠5:=beq_eq_false_iff_ne.1 k5
    have e6:k≠6:=beq_eq_false_iff_ne.1 k6
    have e7:k≠7:=beq_eq_false_iff_ne.1 k7
    rw [if_neg (by omega),if_neg e7] at hops
    have h89:k=8\/k=9:=by
     by_cases h:k=8\/k=9
     ·exact h
     ·rw [if_neg h] at hops
      simp only at hops
      omega
    rw [if_pos h89] at hops
    simp only at hops
    obtain ⟨v0,vr,rfl⟩ : ∃ v0 vr,qs=v0::vr:=by
     cases qs with
     | nil=>simp at hql;omega
     | cons v0 vr=>exact ⟨v0,vr,rfl⟩
    have hlr:kids.length=vr.length+1:=by rw [<- hql];rfl
    rw [if_neg e3,if_neg e4,if_neg e5,if_neg e6,if_neg e7] at fin ⊢
    rw [hlr]
    refine Br.mk (fun k8=> ?_) (fun k8=> ?_)
    ·have e8:k=8:=beq_iff_eq.1 k8
     rw [if_pos e8] at fin ⊢
     refine (foExtreme_c hgH hrats (by omega) (by omega) (-1)).mono ?_
     rintro _ _ ⟨H2,s2,A2,n2,c2,B2,m2,d2,rfl,hN2,a2,b2,hl3,hg2,rfl⟩
     exact ⟨_,_,_,_,_,_,_,rfl,fin hg2 hl3 hN2 (by omega) (by omega) rfl⟩
    ·have e8:k≠8:=beq_eq_false_iff_ne.1 k8
     rw [if_neg e8] at fin ⊢
     refine (foExtreme_c hgH hrats (by omega) (by omega) 1).mono ?_
     rintro _ _ ⟨H2,s2,A2,n2,c2,B2,m2,d2,rfl,hN2,a2,b2,hl3,hg2,rfl⟩
     exact ⟨_,_,_,_,_,_,_,rfl,fin hg2 hl3 hN2 (by omega) (by omega) rfl⟩
mutual
theorem foEval_all : ∀ e:Ex,EvOk e
 | .mk _ _ _ _ _ kids=>foEval_node (foEval_allL kids)
theorem foEval_allL : ∀ es:List Ex,evAll EvOk es
 | []=>trivial
 | e::es=>⟨foEval_all e,foEval_allL es⟩
end
def evalV (ms:List Meas) (e:Ex):Except Int Rat:=if chkV e 1=0 then evV ms e else .error (chkV e 1)
theorem foEval_c {e:Ex} {h:Heap} {vs:List Value} {A:Option Addr} {n c:Nat} {ms:List Meas} (u:IsE h e vs) (z:Szs e) (env:EnvS h A n c ms) :
  CallsU Tryz.prog 71 [.agg vs.toArray,.slice A n c] h fun r h' => EvR (evalV ms e) 1000000 r h' /\ Le h h' := by
 have u' := u
 obtain ⟨s,A0,c0,B,d,K,kc,rfl,_⟩:=u'.open
 apply formula_Eval_ok
 refine (foChk_c u z).mono ?_
 rintro _ h1 ⟨rfl,hl1⟩
 unfold evalV
 refine ⟨_,rfl,Br.mk (fun q=> ?_) (fun q=> ?_)⟩
 ·have hne:chkV e 1≠0:=by simpa using q
  rw [if_neg hne]
  exact ⟨rfl,hl1⟩
 ·have h0:chkV e 1=0:=by simpa using q
  rw [if_pos h0]
  refine ((foEval_all e) 1 (IsE.mono hl1 _ _ u) z h0 (env.mono hl1)).mono ?_
  rintro _ h2 ⟨hr,hl2⟩
  cases hv:evV ms e with
  | error er=>
   rw [hv] at hr
   have hr' : _=Value.tuple #[.agg #[.bool false,.slice none 0 0,.slice none 0 0],.int .i64 er]:=hr
   subst hr'
   exact ⟨_,_,_,_,_,_,_,_,rfl,rfl,hl1.trans hl2⟩
  | ok p=>
   rw [hv] at hr
   obtain ⟨s2,A2,n2,c2,B2,m2,d2,rfl,hN2,a2,b2⟩:=hr
   have hb:bnd 1<=1000000:=by decide
   exact ⟨_,_,_,_,_,_,_,_,rfl,⟨_,_,_,_,_,_,_,rfl,hN2,by omega,by omega⟩,hl1.trans hl2⟩
end Go.Proofs.YtfglcgbgaeegaaaGreatDoor

namespace Go.Proofs
open Go.RowKit Go.Lib Go.Sort
set_option maxHeartbeats 6400000 in
theorem Tryz.isFormatUint_big (u:Nat) (hu:100<=u) (hu64:u<18446744073709551616) (w:World) (htab:Lib.TabIs Tryz.prog w "internal/strconv.uint64pow10" .u64 Lib.pow10Tab) :
  Calls Tryz.prog 202 #[.int .u64 u,.int .i64 10] w fun e w' => e = .returned (.string ⟨(Lib.decDigits u).toArray⟩)/\ ∃ k os,w' = grow (w.drewN k) os:=by
 have hu1:1<=u:=by omega
 have hnd20:Lib.nDigits u<=20:=by have:=Lib.numDigits_eq u hu1 hu64;split at this<;>omega
 have hal:Tryz.prog.arrayLen 233=24:=by kernel_rfl
 have hsl : ∀ W,(Instr.sliceAt 233 (.pointer (some ⟨w.heap.size,0,none⟩)) none (some (.int .i64 (Lib.nDigits u:Int))) none).run Tryz.prog W = .ok (.slice (some ⟨w.heap.size,0,none⟩) (Lib.nDigits u) 24) W:=fun W=>by
  rw [run_sliceAt_array_h W 233 ⟨w.heap.size,0,none⟩ (by kernel_rfl) .i64 (Lib.nDigits u:Int) (by omega) (by rw [hal];omega)]
  go_simp
 have hH0:=Lib.holds_zero0 w 233 (Lib.nDigits u) (by omega)
 have hfmt:=Tryz.internal_strconv_formatBase10 w.heap.size 0 24 u (Array.replicate (Lib.nDigits u) 0) (w.alloc (.cells Lib.zeros24 233)) hH0 (by rw [Array.size_replicate];exact Lib.lt_pow_nDigits u) hu64 (by rw [Array.size_replicate];omega)
 rw [Array.size_replicate] at hfmt
 have HH0:=Lib.hid hH0
 have iu:(100:Int)<=(u:Int):=by omega
 clear hH0 hal
 go_enter Tryz.func202,Tryz.ntmps202
 go_wp2_with (go_at_call 242;refine (Tryz.internal_strconv_numDigits u hu1 hu64 _ (Lib.tabIs_alloc htab _)).mono ?_;rintro e w' ⟨rfl,rfl⟩)
 go_at_call 243
 refine hfmt.mono ?_
 rintro e w' ⟨rfl,k,v', dk,rfl,hF⟩
 have hcv:(convert 95 9 (.slice (some ⟨w.heap.size,0,none⟩) (Lib.nDigits u) 24)).run Tryz.prog ((putRow (fun (b:UInt8)=>Value.int .u8 (b.toNat:Int)) (w.alloc (.cells Lib.zeros24 233)) w.heap.size 0 dk).drewN k) = .ok (.string ⟨(Lib.decDigits u).toArray⟩) ((putRow (fun (b:UInt8)=>Value.int .u8 (b.toNat:Int)) (w.alloc (.cells Lib.zeros24 233)) w.heap.size 0 dk).drewN k):=by
  have h:=run_convert_bytes_back (P:=Tryz.prog) ((putRow (fun (b:UInt8)=>Value.int .u8 (b.toNat:Int)) (w.alloc (.cells Lib.zeros24 233)) w.heap.size 0 dk).drewN k) 95 9 5 ⟨w.heap.size,0,none⟩ 24 (Lib.decDigits u) (by kernel_rfl) (by kernel_rfl) (by kernel_rfl) (fun j hj=>by
   rw [Lib.row_is_numeral hF j hj,Lib.add_plain,World.cell?_drewN]
   exact cell?_putRow (fun (b:UInt8)=>Value.int .u8 (b.toNat:Int)) _ w.heap.size 0 _ dk HH0.out (by rw [hF.size,Array.size_replicate]) j (by rw [hF.size];rw [Lib.decDigits_length] at hj;exact hj))
  rw [Lib.decDigits_length] at h
  exact h
 go_wp2
 go_ret
 obtain ⟨os,eo⟩:=Lib.fin_at w (.cells Lib.zeros24 233) dk k 0
 exact ⟨rfl,k,os,eo⟩
end Go.Proofs

namespace Go.Proofs.YtfglcgbgaeegaaaGreatDoor
open Go Go.Vcg Go.RowKit Go.Sort
attribute [local irreducible] Br
def Tab (h:Heap):Prop:= ∃ b:Blk,h 2=some b/\b.cells=Lib.pow10Tab.map fun z=>Value.int .u64 z
theorem Tab.mono {h h' : Heap} (t:Tab h) (l:Le h h'):Tab h' := let ⟨b,a,c⟩:=t;⟨b,l _ _ a,c⟩
theorem Tab.is {h:Heap} {w:World} (t:Tab h) (s:Sat h w):Lib.TabIs Tryz.prog w "internal/strconv.uint64pow10" .u64 Lib.pow10Tab:=by
 obtain ⟨b,hb,hc⟩:=t
 have hp:plainB b=true:=by unfold plainB;rw [hc];rfl
 have h1:=(s _ _ hb).cells hp
 unfold Lib.TabIs World.var?
 have hg:Tryz.prog.globalNamed "internal/strconv.uint64pow10" = some 2:=by kernel_rfl
 rw [hg,Option.bind_some]
 simp only [h1,hc]
theorem fmt_c {h:Heap} (t:Tab h) (r:Nat) (hr:r<18446744073709551616):CallsU Tryz.prog 134 [.int .u64 r,.int .i64 10] h fun s h' => s=sv (Lib.decDigits r)/\h=h' := by
 rcases Nat.lt_or_ge r 100 with q | q
 ·exact fmt_small_c r q h
 ·apply strconv_FormatUint_ok
  have:CallsU Tryz.prog 202 [.int .u64 r,.int .i64 10] h fun s h' => s=sv (Lib.decDigits r)/\h=h' := by
   refine callsU_below ⟨_,Tryz.func202,by kernel_rfl,by kernel_rfl⟩ fun w s=> ?_
   refine (Tryz.isFormatUint_big r q hr w (t.is s)).mono ?_
   rintro _ _ ⟨rfl,k,os,rfl⟩
   exact ⟨rfl,Lib.below_grow _ w (Nat.le_refl _) k os⟩
  refine this.mono ?_
  rintro _ _ ⟨rfl,rfl⟩
  exact ⟨_,rfl,rfl,rfl⟩
theorem textT_c {h:Heap} {A:Option Addr} {n c v:Nat} (u:IsN h A n c v) (hn:n<=4294967296) (t:Tab h) :
  CallsU Tryz.prog 77 [.slice A n c] h fun r h' => r=sv (Lib.decDigits v)/\Le h h' :=
 text_c u hn fun r _ _ hr l=>fmt_c (t.mono l) r (by omega)
theorem trimRight_c (l:List UInt8) (hl:l.length<=1000000) (h:Heap) :
  CallsU Tryz.prog 260 [sv l,sv [48]] h fun r h' => r=sv (Lib.trimRightB l 48)/\h=h' :=
 callsU_same ⟨_,Tryz.func260,by kernel_rfl,by kernel_rfl⟩ fun w _=>by simpa using Tryz.strings_TrimRight_one ⟨l.toArray⟩ 48 (by decide) w (by rw [ba_size];omega)
end Go.Proofs.YtfglcgbgaeegaaaGreatDoor

namespace Go.Proofs.YtfglcgbgaeegaaaGreatDoor
open Go Go.Vcg
inductive Num:List UInt8->Rat->Prop
 | whole {a:List UInt8} {n:Nat}:Dgs a->wholeV a=some n->Num a (n:Rat)
 | dec {a b:List UInt8} {q:Rat}:Dgs a->Dgs b->decV a b=some q->Num (a++46::b) q
 | frac {a b:List UInt8} {q:Rat}:Dgs a->Dgs b->fracV a b=some q->Num (a++47::b) q
 | mixed {a b c:List UInt8} {n:Nat} {q:Rat}:Dgs a->Dgs b->Dgs c->wholeV a=some n->fracV b c=some q->Num (a++32::(b++47::c)) ((n:Rat)+q)
def fill:List UInt8->List (List UInt8)->List UInt8
 | [],_=>[]
 | x::f,rs=>if x=48 then rs.headD []++fill f rs.tail else x::fill f rs
structure ScOk (t:Sc) (p:List UInt8):Prop where
 cnt:t.form.count 48=t.runs.length
 fil:fill t.form t.runs=p
 last:t.inRun=true-> ∃ f rs r,t.form=f++[48]/\t.runs=rs++[r]/\f.count 48=rs.length
 dgs : ∀ r∈t.runs,Dgs r
theorem dg_ofNat {k:Nat} (h:k<10):isDg (UInt8.ofNat (48+k))=true/\(UInt8.ofNat (48+k)).toNat=48+k:=by
 have e:(UInt8.ofNat (48+k)).toNat=48+k:=by simp;omega
 exact ⟨isDg_iff.2 (by omega),e⟩
theorem dgV_snoc (l:List UInt8) (x:UInt8):dgV (l++[x])=dgV l*10+(x.toNat-48):=by
 rw [dgV_append]
 simp [dgV]
theorem dec_ok (n:Nat):Dgs (Lib.decDigits n)/\dgV (Lib.decDigits n)=n/\(0<n->(Lib.decDigits n)[0]?≠some 48):=by
 induction n using Nat.strongRecOn with
 | _ n ih=>
  by_cases h:n<10
  ·rw [dec_lt h]
   obtain ⟨a,b⟩:=dg_ofNat h
   refine ⟨⟨by simp,fun y hy=>by rw [List.mem_singleton.1 hy];exact a⟩, ?_,fun h0 e=> ?_⟩
   ·simp [dgV];omega
   ·simp only [List.getElem?_cons_zero,Option.some.injEq] at e
    rw [e] at b
    have:(48:UInt8).toNat=48:=rfl
    omega
  ·rw [dec_ge h]
   obtain ⟨⟨a1,a2⟩,b,c⟩:=ih (n/10) (by omega)
   obtain ⟨d,e⟩:=dg_ofNat (Nat.mod_lt n (show 0<10 by decide))
   refine ⟨⟨by simp,fun y hy=> ?_⟩, ?_,fun _ e=> ?_⟩
   ·rcases List.mem_append.1 hy with q | q
    ·exact a2 y q
    ·rw [List.mem_singleton.1 q];exact d
   ·rw [dgV_snoc,b,e];omega
   ·refine c (by omega) ?_
    rwa [List.getElem?_append_left (by cases hh:Lib.decDigits (n/10) with | nil=>exact absurd hh a1 | cons=>simp)] at e
theorem dec_len {n k:Nat} (h:n<10^k) (hk:1<=k):(Lib.decDigits n).length<=k:=by rw [dec_length];exact (padK_dec k n h hk).2
theorem padK_ok : ∀ (k r:Nat),r<10^k->(padK k r).length=k/\(∀ y∈padK k r,isDg y=true)/\dgV (padK k r)=r
 | 0,r,h=>by simp at h;subst h;simp [padK,dgV]
 | k+1,r,h=>by
  obtain ⟨a,b,c⟩:=padK_ok k (r/10) (by rw [Nat.pow_succ] at h;omega)
  obtain ⟨d,e⟩:=dg_ofNat (Nat.mod_lt r (show 0<10 by decide))
  refine ⟨by simp [padK,a],fun y hy=> ?_, ?_⟩
  ·rcases List.mem_append.1 hy with q | q
   ·exact b y q
   ·rw [List.mem_singleton.1 q];exact d
  ·rw [padK,dgV_snoc,c,e];omega
theorem trimR_split (l:List UInt8) : ∃ k,l=Lib.trimRightB l 48++List.replicate k 48:=by
 unfold Lib.trimRightB
 have h:=(List.takeWhile_append_dropWhile (p:=(· == (48:UInt8))) (l:=l.reverse)).symm
 have hr:l=((l.reverse.dropWhile (· == 48)).reverse)++((l.reverse.takeWhile (· == 48)).reverse):=by
  rw [<- List.reverse_append,<- h,List.reverse_reverse]
 refine ⟨(l.reverse.takeWhile (· == (48:UInt8))).length, ?_⟩
 have e:(l.reverse.takeWhile (· == (48:UInt8))).reverse=List.replicate (l.reverse.takeWhile (· == (48:UInt8))).length 48:=by
  rw [List.eq_replicate_iff]
  refine ⟨by simp,fun b hb=> ?_⟩
  have:=List.all_takeWhile (p:=(· == (48:UInt8))) (l:=l.reverse)
  rw [List.all_eq_true] at this
  simpa using this b (by simpa using hb)
 rw [<- e]
 exact hr
theorem dgV_zeros (k:Nat):dgV (List.replicate k 48)=0:=by
 induction k with
 | zero=>rfl
 | succ k ih=>rw [List.replicate_succ', dgV_snoc,ih];rfl
theorem rat_cross {a b c d:Nat} (hb:b≠0) (hd:d≠0) (h:a*d=c*b):(a:Rat)/(b:Rat)=(c:Rat)/(d:Rat):=by
 have hb' : (b:Rat)≠0:=fun e=>hb (Rat.natCast_eq_zero_iff.1 e)
 have hd' : (d:Rat)≠0:=fun e=>hd (Rat.natCast_eq_zero_iff.1 e)
 have h' : (a:Rat)*(d:Rat)=(c:Rat)*(b:Rat):=by rw [<- Rat.natCast_mul,<- Rat.natCast_mul,h]
 grind
theorem drop_one (d:Nat) (hd:d<10000):(Lib.decDigits (10000+d)).drop 1=padK 4 d:=by
 rw [dec_split 4 (10000+d) (by omega)]
 have e1:(10000+d)/10^4=1:=by omega
 have e2:(10000+d)%10^4=d:=by omega
 rw [e1,e2,dec_lt (by decide)]
 rfl
end Go.Proofs.YtfglcgbgaeegaaaGreatDoor

namespace Go.Proofs.YtfglcgbgaeegaaaGreatDoor
open Go Go.Vcg Go.RowKit Go.Sort
attribute [local irreducible] Br
theorem itoa_c {h:Heap} (t:Tab h) (r:Nat) (hr:r<9223372036854775808):CallsU Tryz.prog 259 [.int .i64 r] h fun s h' => s=sv (Lib.decDigits r)/\h=h' := by
 refine callsU_below ⟨_,Tryz.func259,by kernel_rfl,by kernel_rfl⟩ fun w s=> ?_
 refine (Tryz.strconv_Itoa r (by omega) (by omega) w (t.is s)).mono ?_
 rintro _ _ ⟨rfl,k,os,rfl⟩
 rw [Lib.itoa_nonneg]
 exact ⟨rfl,Lib.below_grow _ w (Nat.le_refl _) k os⟩
theorem joinS_c {h:Heap} {g c ty:Nat} {zs rest:List (List UInt8)} (sep:List UInt8) (hb:h g=some ⟨(zs++rest).map sv,ty,(0,0)⟩) {n:Nat} (hn:n=zs.length) (hc:n<=c) (hsz:n<=140737488355328) (hlen:(Lib.join zs sep).length<=140737488355328) :
  CallsU Tryz.prog 103 [.slice (some ⟨g,0,none⟩) n c,sv sep] h fun r h' => r=sv (Lib.join zs sep)/\h=h' := by
 subst hn
 refine callsU_below ⟨_,Tryz.func103,by kernel_rfl,by kernel_rfl⟩ fun w s=> ?_
 have sg:=(s g _ hb).cells (plain_fz rfl)
 have hlt:g<w.heap.size:=(Array.getElem?_eq_some_iff.1 sg).1
 have e:(zs.map fun x=>(⟨x.toArray⟩:ByteArray)).map (fun x=>x.data.toList)=zs:=by
  rw [List.map_map]
  conv=>rhs;rw [<- List.map_id zs]
  apply List.map_congr_left
  intro x _
  rfl
 have:=Tryz.strings_Join g 0 c (zs.map fun x=>⟨x.toArray⟩) ⟨sep.toArray⟩ w (fun j x hj=>by
  unfold World.cell?
  simp only [sg,Option.isSome_none,Bool.false_eq_true,if_false,List.getElem?_toArray,Nat.zero_add]
  rw [List.getElem?_map] at hj ⊢
  have hjl:j<zs.length:=by
   rcases Nat.lt_or_ge j zs.length with q | q
   ·exact q
   ·rw [List.getElem?_eq_none q] at hj;cases hj
  rw [List.getElem?_append_left hjl]
  rw [List.getElem?_eq_getElem hjl] at hj ⊢
  simp only [Option.map_some,Option.some.injEq] at hj ⊢
  rw [<- hj]) hlt (by simpa using hsz) (by simpa using hc) (by rw [e];exact hlen)
 rw [e,List.length_map] at this
 exact this
def numTx (n:Nat):List UInt8:=Lib.decDigits (n/10000)++(if n%10000=0 then [] else 46::Lib.trimRightB ((Lib.decDigits (10000+n%10000)).drop 1) 48)
theorem numTx_len {n:Nat} (h:n<=9999999999999):(numTx n).length<=14:=by
 unfold numTx
 have l1:=dec_len (n:=n/10000) (k:=9) (by omega) (by decide)
 have l2:=dec_len (n:=10000+n%10000) (k:=5) (by omega) (by decide)
 obtain ⟨k,hk⟩:=trimR_split ((Lib.decDigits (10000+n%10000)).drop 1)
 have l3:=congrArg List.length hk
 rw [List.length_append,List.length_drop] at l3
 rw [List.length_append]
 split
 ·simp;omega
 ·simp only [List.length_cons];omega
theorem shV_le {q:Rat} {n:Nat} (h:shV q=some n):n<=9999999999999:=by
 unfold shV at h
 split at h
 ·cases h;omega
 ·cases h
theorem foNumText_c {h:Heap} {s:Bool} {A B:Option Addr} {n c m d:Nat} {q:Rat} (u:IsQ h s A n c B m d q) (hn:n<=1000000) (hm:m<=1000000) (tb:Tab h) :
  CallsU Tryz.prog 229 [.agg #[.bool s,.slice A n c,.slice B m d]] h fun r h' => r=sv (numTx ((shV q).getD 0))/\Le h h' := by
 apply formula_numberText_ok
 refine (foShares_c u hn hm).mono ?_
 rintro _ h1 ⟨rfl,hl1⟩
 have hle:(shV q).getD 0<=9999999999999:=by
  cases hs:shV q with
  | none=>simp
  | some x=>exact shV_le hs
 generalize (shV q).getD 0=x at *
 refine ⟨_,_,rfl, ?_⟩
 rintro _ rfl
 have w1:IntKind.i64.wrap (Int.tdiv (x:Int) 10000)=((x/10000:Nat):Int):=by
  rw [show Int.tdiv (x:Int) 10000=((x/10000:Nat):Int) from tdivN rfl rfl]
  exact wi rfl (by omega)
 have w2:Int.tmod (x:Int) 10000=((x%10000:Nat):Int):=tmodN rfl rfl
 rw [w1]
 refine (itoa_c (tb.mono hl1) (x/10000) (by omega)).mono ?_
 rintro _ _ ⟨rfl,rfl⟩
 refine ⟨_,rfl, ?_⟩
 rintro _ rfl
 rw [w2]
 unfold numTx
 have l1:=dec_len (n:=x/10000) (k:=9) (by omega) (by decide)
 refine Br.mk (fun q1=> ?_) (fun q1=> ?_)
 ·have:x%10000=0:=by have:=beq_iff_eq.1 q1;omega
  rw [if_pos this,List.append_nil]
  exact ⟨rfl,hl1⟩
 ·have h0:x%10000≠0:=by have:=beq_eq_false_iff_ne.1 q1;omega
  rw [if_neg h0]
  rintro _ rfl _ rfl
  have w3:IntKind.i64.wrap (10000+((x%10000:Nat):Int))=((10000+x%10000:Nat):Int):=wi (by omega) (by omega)
  rw [w3]
  refine (itoa_c (tb.mono hl1) (10000+x%10000) (by omega)).mono ?_
  rintro _ _ ⟨rfl,rfl⟩
  have l2:=dec_len (n:=10000+x%10000) (k:=5) (by omega) (by decide)
  have hpos:1<=(Lib.decDigits (10000+x%10000)).length:=by
   have:=dec_ne (10000+x%10000)
   cases hh:Lib.decDigits (10000+x%10000) with
   | nil=>exact absurd hh this
   | cons=>simp
  have c46' : (⟨#[46]⟩:ByteArray)=⟨([46]:List UInt8).toArray⟩:=rfl
  refine ⟨_,rfl,by omega,by rw [ba_size];omega,by rw [c46', ba_size,ba_size];simp;omega, ?_⟩
  have hd:=Lib.extract_from ⟨(Lib.decDigits (10000+x%10000)).toArray⟩ 1
  rw [hd]
  refine (trimRight_c ((Lib.decDigits (10000+x%10000)).drop 1) (by simp;omega) h1).mono ?_
  rintro _ _ ⟨rfl,rfl⟩
  obtain ⟨k,hk⟩:=trimR_split ((Lib.decDigits (10000+x%10000)).drop 1)
  have l3:=congrArg List.length hk
  rw [List.length_append,List.length_drop] at l3
  refine ⟨_,rfl, ?_⟩
  generalize Lib.trimRightB ((Lib.decDigits (10000+x%10000)).drop 1) 48=tz at *
  rw [c46', ba_append,ba_append,ba_size,ba_size]
  refine ⟨by simp;omega, ?_,hl1⟩
  simp
def clo (k:Int):Int:=if k=3\/k=4 then 0 else if k=5\/k=6 then 1 else 2
theorem foClose_c (k:Int) (h:Heap):CallsU Tryz.prog 261 [.int .i64 k] h fun r h' => r = .int .i64 (clo k)/\h=h' := by
 apply formula_closeness_ok
 have e3:k=3->clo k=0:=fun e=>if_pos (Or.inl e)
 have e4:k=4->clo k=0:=fun e=>if_pos (Or.inr e)
 have e5:k≠3->k≠4->k=5->clo k=1:=fun a b e=>by unfold clo;rw [if_neg (by omega),if_pos (Or.inl e)]
 have e6:k≠3->k≠4->k=6->clo k=1:=fun a b e=>by unfold clo;rw [if_neg (by omega),if_pos (Or.inr e)]
 have e7:k≠3->k≠4->k≠5->k≠6->clo k=2:=fun a b c d=>by unfold clo;rw [if_neg (by omega),if_neg (by omega)]
 refine Br.mk (fun q=>Br.mk (fun _=> ?_) (fun q2=>by rw [q] at q2;cases q2)) (fun q=>Br.mk (fun q2=> ?_) (fun q2=>Br.mk (fun q3=>Br.mk (fun _=> ?_) (fun q4=>by rw [q3] at q4;cases q4)) (fun q3=>Br.mk (fun q4=> ?_) (fun q4=> ?_))))
 ·rw [e3 (beq_iff_eq.1 q)];exact ⟨rfl,rfl⟩
 ·rw [e4 (beq_iff_eq.1 q2)];exact ⟨rfl,rfl⟩
 ·rw [e5 (beq_eq_false_iff_ne.1 q) (beq_eq_false_iff_ne.1 q2) (beq_iff_eq.1 q3)];exact ⟨rfl,rfl⟩
 ·rw [e6 (beq_eq_false_iff_ne.1 q) (beq_eq_false_iff_ne.1 q2) (beq_iff_eq.1 q4)];exact ⟨rfl,rfl⟩
 ·rw [e7 (beq_eq_false_iff_ne.1 q) (beq_eq_false_iff_ne.1 q2) (beq_eq_false_iff_ne.1 q3) (beq_eq_false_iff_ne.1 q4)];exact ⟨rfl,rfl⟩
def parV (k:Int) (req:Int) (t:List UInt8):List UInt8:=if clo k<req then 40::(t++[41]) else t
mutual
def txV:Ex->List UInt8
 | .mk k q _ _ nm kids=>if k=1 then numTx ((shV q).getD 0) else if k=2 then nm
  else if k=3 then (txO 0 0 kids)++[32,43,32]++(txO 1 1 kids)
  else if k=4 then (txO 0 0 kids)++[32,45,32]++(txO 1 1 kids)
  else if k=5 then (txO 0 1 kids)++[32,42,32]++(txO 1 2 kids)
  else if k=6 then (txO 0 1 kids)++[32,47,32]++(txO 1 2 kids)
  else if k=7 then 45::(txO 0 2 kids)
  else (if k=9 then [109,97,120,40] else [109,105,110,40])++Lib.join (txL kids) [44,32]++[41]
def txO (i:Nat) (req:Int):List Ex->List UInt8
 | []=>[]
 | .mk k q n m nm kids::es=>match i with
  | 0=>parV k req (txV (.mk k q n m nm kids))
  | i+1=>txO i req es
def txL:List Ex->List (List UInt8)
 | []=>[]
 | e::es=>txV e::txL es
end
theorem txO_get : ∀ {es:List Ex} {i:Nat} {e:Ex} {req:Int},es[i]?=some e->txO i req es=parV e.kind req (txV e)
 | [],i,e,req,he=>by simp at he
 | .mk k q n m nm kids::es,0,e,req,he=>by simp at he;subst he;rw [txO];rfl
 | .mk k q n m nm kids::es,i+1,e,req,he=>by rw [txO];exact txO_get (by simpa using he)
theorem txL_len : ∀ es:List Ex,(txL es).length=es.length
 | []=>by rw [txL];rfl
 | e::es=>by rw [txL,List.length_cons,txL_len es,List.length_cons]
theorem txL_get : ∀ {es:List Ex} {i:Nat} {e:Ex},es[i]?=some e->(txL es)[i]?=some (txV e)
 | [],i,e,he=>by simp at he
 | x::es,0,e,he=>by simp at he;subst he;rw [txL];rfl
 | x::es,i+1,e,he=>by rw [txL];simpa using txL_get (es:=es) (i:=i) (by simpa using he)
def tbd (lv:Nat):Nat:=32*8^(13-lv)-8
theorem tbd_ok {lv:Nat} (h:lv<=12):tbd lv=8*tbd (lv+1)+56/\24<=tbd (lv+1)/\tbd (lv+1)<=3000000000000:=by
 unfold tbd
 have e:13-lv=(13-(lv+1))+1:=by omega
 have hp:1<=8^(13-(lv+1)):=Nat.pow_pos (by decide)
 have hq:8^(13-(lv+1))<=8^12:=Nat.pow_le_pow_right (by decide) (by omega)
 rw [e,Nat.pow_succ]
 generalize 8^(13-(lv+1))=P at *
 omega
theorem par_len (k req:Int) (t:List UInt8):(parV k req t).length<=t.length+2:=by
 unfold parV
 split
 ·simp
 ·omega
theorem join_len : ∀ (zs:List (List UInt8)) (b:Nat),(∀ z∈zs,z.length<=b)->(Lib.join zs [44,32]).length<=zs.length*(b+2)
 | [],b,_=>by simp [Lib.join_nil]
 | z::zs,b,h=>by
  rw [Lib.join_cons,List.length_append]
  have h1:=h z (by simp)
  have h2:(Lib.joinTail [44,32] zs).length<=zs.length*(b+2):=by
   unfold Lib.joinTail
   have hz : ∀ y∈zs,y.length<=b:=fun y hy=>h y (by simp [hy])
   clear h h1
   induction zs with
   | nil=>simp
   | cons y r ih=>
    simp only [List.map_cons,List.flatten_cons,List.length_append,List.length_cons,List.length_nil]
    have a:=hz y (by simp)
    have b:=ih fun x hx=>hz x (by simp [hx])
    rw [Nat.add_mul]
    omega
  rw [List.length_cons,Nat.add_mul]
  omega
theorem right_name {e:Ex} (h:rightV e=true) (hk:e.kind=2):e.name.length<=24:=by
 unfold rightV at h
 simp only [Bool.and_eq_true] at h
 have h1:=h.1.2
 rw [if_pos hk] at h1
 unfold isNameV at h1
 simp only [Bool.and_eq_true,decide_eq_true_eq] at h1
 exact h1.1.2.1
def TxOk (e:Ex):Prop:=(∀ lv:Nat,chkV e (lv:Int)=0->(txV e).length<=tbd lv)/\ ∀ {h:Heap} {vs:List Value} (lv:Nat),IsE h e vs->Szs e->chkV e (lv:Int)=0->Tab h->
 CallsU Tryz.prog 173 [.agg vs.toArray] h fun r h' => r=sv (txV e)/\Le h h'
theorem foOperand_c {e:Ex} (ok:TxOk e) {h:Heap} {vs:List Value} {lv:Nat} (u:IsE h e vs) (z:Szs e) (hc:chkV e (lv:Int)=0) (tb:Tab h) (req:Int) :
  CallsU Tryz.prog 230 [.agg vs.toArray,.int .i64 req] h fun r h' => r=sv (parV e.kind req (txV e))/\Le h h' := by
 have hlen:=ok.1 lv hc
 obtain ⟨hb1,hb2,hb3⟩:=tbd_ok (chk_ok hc).1
 have u' := u
 obtain ⟨s,A0,c0,B,d,K,kc,rfl,_⟩:=u'.open
 apply formula_operand_ok
 refine (ok.2 lv u z hc tb).mono ?_
 rintro _ h1 ⟨rfl,hl1⟩
 refine ⟨_,rfl,(foClose_c e.kind h1).mono ?_⟩
 rintro _ _ ⟨rfl,rfl⟩
 refine ⟨_,rfl, ?_⟩
 have c40:(⟨#[40]⟩:ByteArray)=⟨([40]:List UInt8).toArray⟩:=rfl
 have c41:(⟨#[41]⟩:ByteArray)=⟨([41]:List UInt8).toArray⟩:=rfl
 rw [c40,c41,ba_append,ba_append,ba_size,ba_size,ba_size,ba_size]
 unfold parV
 refine Br.mk (fun q=>⟨by simp;omega,by simp;omega, ?_,hl1⟩) (fun q=>⟨?_,hl1⟩)
 ·rw [if_pos (of_decide_eq_true q)]
  simp
 ·rw [if_neg (of_decide_eq_false q)]
theorem txO_len {es:List Ex} {i:Nat} {e:Ex} {req:Int} {b:Nat} (he:es[i]?=some e) (h:(txV e).length<=b):(txO i req es).length<=b+2:=by
 rw [txO_get he]
 have:=par_len e.kind req (txV e)
 omega
end Go.Proofs.YtfglcgbgaeegaaaGreatDoor

namespace Go.Proofs.YtfglcgbgaeegaaaGreatDoor
open Go Go.Vcg
attribute [local irreducible] Br
theorem kids_two {k:Int} {kids:List Ex} (hops:(foOps k).1<=kids.length/\(kids.length:Int)<=(foOps k).2) (hk:k=3\/k=4\/k=5\/k=6) : ∃ x y,kids=[x,y]:=by
 unfold foOps at hops
 rw [if_neg (by omega),if_pos hk] at hops
 simp only at hops
 have:kids.length=2:=by omega
 match kids,this with
 | [x,y],_=>exact ⟨x,y,rfl⟩
theorem kids_one {k:Int} {kids:List Ex} (hops:(foOps k).1<=kids.length/\(kids.length:Int)<=(foOps k).2) (hk:k=7) : ∃ x,kids=[x]:=by
 unfold foOps at hops
 rw [if_neg (by omega),if_neg (by omega),if_pos hk] at hops
 simp only at hops
 have:kids.length=1:=by omega
 match kids,this with
 | [x],_=>exact ⟨x,rfl⟩
theorem kids_many {k:Int} {kids:List Ex} (hops:(foOps k).1<=kids.length/\(kids.length:Int)<=(foOps k).2) (h1 : ¬ (k=1\/k=2)) (h2 : ¬ (k=3\/k=4\/k=5\/k=6)) (h3:k≠7):(k=8\/k=9)/\1<=kids.length/\kids.length<=8:=by
 unfold foOps at hops
 rw [if_neg h1,if_neg h2,if_neg h3] at hops
 by_cases h:k=8\/k=9
 ·rw [if_pos h] at hops
  simp only at hops
  exact ⟨h,by omega,by omega⟩
 ·rw [if_neg h] at hops
  simp only at hops
  omega
theorem tx_len {k:Int} {q:Rat} {n m:Nat} {nm:List UInt8} {kids:List Ex} (ih:evAll TxOk kids) (lv:Nat) (hchk:chkV (.mk k q n m nm kids) (lv:Int)=0):(txV (.mk k q n m nm kids)).length<=tbd lv:=by
 obtain ⟨hlv,hright,hckids⟩:=chk_ok hchk
 have hops:=right_len hright
 simp only [Ex.kind,Ex.kids] at hckids hops
 obtain ⟨hb1,hb2,hb3⟩:=tbd_ok hlv
 have kid : ∀ {i:Nat} {e:Ex},kids[i]?=some e->(txV e).length<=tbd (lv+1):=fun hx=>(ih.get hx).1 (lv+1) (chkL_at hckids hx)
 rw [txV]
 by_cases k1:k=1
 ·rw [if_pos k1]
  have hle:(shV q).getD 0<=9999999999999:=by
   cases hs:shV q with
   | none=>simp
   | some x=>exact shV_le hs
  have:=numTx_len hle
  omega
 ·rw [if_neg k1]
  by_cases k2:k=2
  ·rw [if_pos k2]
   have:nm.length<=24:=right_name hright k2
   omega
  ·rw [if_neg k2]
   have bin:(k=3\/k=4\/k=5\/k=6)-> ∀ (a b:Int) (op:List UInt8),op.length=3->(txO 0 a kids++op++txO 1 b kids).length<=tbd lv:=fun hk a b op hop=>by
    obtain ⟨x,y,rfl⟩:=kids_two hops hk
    have h1:=txO_len (req:=a) (i:=0) (es:=[x,y]) rfl (kid (i:=0) rfl)
    have h2:=txO_len (req:=b) (i:=1) (es:=[x,y]) rfl (kid (i:=1) rfl)
    rw [List.length_append,List.length_append]
    omega
   by_cases k3:k=3
   ·rw [if_pos k3];exact bin (by omega) _ _ _ rfl
   ·rw [if_neg k3]
    by_cases k4:k=4
    ·rw [if_pos k4];exact bin (by omega) _ _ _ rfl
    ·rw [if_neg k4]
     by_cases k5:k=5
     ·rw [if_pos k5];exact bin (by omega) _ _ _ rfl
     ·rw [if_neg k5]
      by_cases k6:k=6
      ·rw [if_pos k6];exact bin (by omega) _ _ _ rfl
      ·rw [if_neg k6]
       by_cases k7:k=7
       ·rw [if_pos k7]
        obtain ⟨x,rfl⟩:=kids_one hops k7
        have h1:=txO_len (req:=2) (i:=0) (es:=[x]) rfl (kid (i:=0) rfl)
        rw [List.length_cons]
        omega
       ·rw [if_neg k7]
        obtain ⟨h89,hl1,hl8⟩:=kids_many hops (by omega) (by omega) k7
        have hj:=join_len (txL kids) (tbd (lv+1)) (fun z hz=>by
         obtain ⟨i,hi⟩:=List.getElem?_of_mem hz
         have hil:i<kids.length:=by rw [<- txL_len];exact (List.getElem?_eq_some_iff.1 hi).1
         obtain ⟨x,hx⟩ : ∃ x,kids[i]?=some x:=⟨_,List.getElem?_eq_getElem hil⟩
         rw [txL_get hx] at hi
         rw [<- Option.some.inj hi]
         exact kid hx)
        rw [txL_len] at hj
        have hm:kids.length*(tbd (lv+1)+2)<=8*(tbd (lv+1)+2):=Nat.mul_le_mul_right _ hl8
        have hw:(if k=9 then ([109,97,120,40]:List UInt8) else [109,105,110,40]).length=4:=by split<;>rfl
        rw [List.length_append,List.length_append,hw]
        simp only [List.length_cons,List.length_nil]
        omega
theorem txL_take {es:List Ex} {j:Nat} {e:Ex} (he:es[j]?=some e):txL (es.take (j+1))=txL (es.take j)++[txV e]:=by
 induction es generalizing j with
 | nil=>simp at he
 | cons x es ih=>
  cases j with
  | zero=>simp at he;subst he;simp [txL]
  | succ j=>
   simp only [List.take_succ_cons,txL]
   rw [ih (by simpa using he)]
   rfl
theorem foText_node {k:Int} {q:Rat} {n m:Nat} {nm:List UInt8} {kids:List Ex} (ih:evAll TxOk kids):TxOk (.mk k q n m nm kids):=by
 refine ⟨fun lv hc=>tx_len ih lv hc, ?_⟩
 intro h vs lv u z hchk tb
 have hlenT:=tx_len ih lv hchk
 have uo:=u.open
 obtain ⟨s,A,c,B,d,K,kc,rfl,uq,hc,hk⟩:=uo
 obtain ⟨z1,z2,z3,z4,z5⟩:=z.open
 obtain ⟨hlv,hright,hckids⟩:=chk_ok hchk
 have hops:=right_len hright
 obtain ⟨hb1,hb2,hb3⟩:=tbd_ok hlv
 simp only [Ex.kind,Ex.kids,Ex.ln,Ex.lm,Ex.val,Ex.name] at uq hc hk z1 z2 z3 z4 z5 hckids hops
 have kidl : ∀ {i:Nat} {e:Ex},kids[i]?=some e->(txV e).length<=tbd (lv+1):=fun hx=>(ih.get hx).1 (lv+1) (chkL_at hckids hx)
 apply formula_text_ok
 unfold formula_text_vc
 have hlen:(Ex.mk k q n m nm kids).kids.length=kids.length:=rfl
 rw [hlen]
 have c3 : ∀ a b c:UInt8,(⟨#[a,b,c]⟩:ByteArray)=⟨([a,b,c]:List UInt8).toArray⟩:=fun _ _ _=>rfl
 have c45' : (⟨#[45]⟩:ByteArray)=⟨([45]:List UInt8).toArray⟩:=rfl
 have c41' : (⟨#[41]⟩:ByteArray)=⟨([41]:List UInt8).toArray⟩:=rfl
 have cmx:(⟨#[109,97,120,40]⟩:ByteArray)=⟨([109,97,120,40]:List UInt8).toArray⟩:=rfl
 have cmn:(⟨#[109,105,110,40]⟩:ByteArray)=⟨([109,105,110,40]:List UInt8).toArray⟩:=rfl
 rw [txV] at hlenT ⊢
 refine Br.mk (fun k1=> ?_) (fun k1=>Br.mk (fun k2=> ?_) (fun k2=> ?_))
 ·have e1:k=1:=beq_iff_eq.1 k1
  rw [if_pos e1]
  refine (foNumText_c uq (by omega) (by omega) tb).mono ?_
  rintro _ h1 ⟨rfl,hl1⟩
  exact ⟨_,rfl,rfl,hl1⟩
 ·have e1:k≠1:=beq_eq_false_iff_ne.1 k1
  have e2:k=2:=beq_iff_eq.1 k2
  rw [if_neg e1,if_pos e2]
  exact ⟨rfl,Le.refl _⟩
 ·have e1:k≠1:=beq_eq_false_iff_ne.1 k1
  have e2:k≠2:=beq_eq_false_iff_ne.1 k2
  rw [if_neg e1,if_neg e2] at hlenT ⊢
  have bin:(k=3\/k=4\/k=5\/k=6)-> ∀ (ra rb:Int) (o1 o2 o3:UInt8) (T:List UInt8),T=txO 0 ra kids++[o1,o2,o3]++txO 1 rb kids->
    ∃ ad:Addr,K=some ad/\0<=(0:Int)/\(0:Int)<((kids.length:Nat):Int)/\
    ∃ t23_0:Int,∃ t23_1:Bool,∃ t23_2A:Option Addr,∃ t23_2n t23_2c:Nat,∃ t23_3A:Option Addr,∃ t23_3n t23_3c:Nat,∃ t23_4:ByteArray,∃ t23_5A:Option Addr,∃ t23_5n t23_5c:Nat,LdN h (Addr.add ad (0*6)) [Value.int .i64 t23_0,Value.bool t23_1,Value.slice t23_2A t23_2n t23_2c,Value.slice t23_3A t23_3n t23_3c,Value.string t23_4,Value.slice t23_5A t23_5n t23_5c]/\
    ∃ ad_1:Addr,K=some ad_1/\0<=(1:Int)/\(1:Int)<((kids.length:Nat):Int)/\
    ∃ t29_0:Int,∃ t29_1:Bool,∃ t29_2A:Option Addr,∃ t29_2n t29_2c:Nat,∃ t29_3A:Option Addr,∃ t29_3n t29_3c:Nat,∃ t29_4:ByteArray,∃ t29_5A:Option Addr,∃ t29_5n t29_5c:Nat,LdN h (Addr.add ad_1 (1*6)) [Value.int .i64 t29_0,Value.bool t29_1,Value.slice t29_2A t29_2n t29_2c,Value.slice t29_3A t29_3n t29_3c,Value.string t29_4,Value.slice t29_5A t29_5n t29_5c]/\
    CallsU Tryz.prog 230 [Value.agg #[Value.int .i64 t23_0,Value.bool t23_1,Value.slice t23_2A t23_2n t23_2c,Value.slice t23_3A t23_3n t23_3c,Value.string t23_4,Value.slice t23_5A t23_5n t23_5c],Value.int .i64 ra] h fun v_1 h_2=>
    ∃ t24:ByteArray,v_1=Value.string t24/\LeH h h_2/\
    ((t24.size+(⟨#[o1,o2,o3]⟩:ByteArray).size:Nat):Int)<=9223372036854775807/\
    CallsU Tryz.prog 230 [Value.agg #[Value.int .i64 t29_0,Value.bool t29_1,Value.slice t29_2A t29_2n t29_2c,Value.slice t29_3A t29_3n t29_3c,Value.string t29_4,Value.slice t29_5A t29_5n t29_5c],Value.int .i64 rb] h_2 fun v_2 h_3=>
    ∃ t30:ByteArray,v_2=Value.string t30/\
    (((t24++(⟨#[o1,o2,o3]⟩:ByteArray)).size+t30.size:Nat):Int)<=9223372036854775807/\
    (Value.string ((t24++(⟨#[o1,o2,o3]⟩:ByteArray))++t30)=sv T/\Le h h_3):=by
   intro hk4 ra rb o1 o2 o3 T hT
   obtain ⟨x,y,hxy⟩:=kids_two hops hk4
   have hx:kids[0]?=some x:=by rw [hxy];rfl
   have hy:kids[1]?=some y:=by rw [hxy];rfl
   have hl2:kids.length=2:=by rw [hxy];rfl
   obtain ⟨ad,vs0,eA0,hld0,ux⟩:=kid_ld (e:= .mk k q n m nm kids) hk hx
   obtain ⟨ad1,vs1,eA1,hld1,uy⟩:=kid_ld (e:= .mk k q n m nm kids) hk hy
   have ux' := ux
   have uy' := uy
   obtain ⟨sx,Ax,cx,Bx,dx,Kx,kcx,rfl,_,_,_⟩:=ux'.open
   obtain ⟨sy,Ay,cy,By,dy,Ky,kcy,rfl,_,_,_⟩:=uy'.open
   have l0:=par_len x.kind ra (txV x)
   have l1:=par_len y.kind rb (txV y)
   have m0:=kidl hx
   have m1:=kidl hy
   refine ⟨ad,eA0,by omega,by omega,_,_,_,_,_,_,_,_,_,_,_,_,hld0,ad1,eA1,by omega,by omega,_,_,_,_,_,_,_,_,_,_,_,_,hld1, ?_⟩
   refine (foOperand_c (ih.get hx) ux (SzsL.get z5 hx) (chkL_at hckids hx) tb ra).mono ?_
   rintro _ h2 ⟨rfl,hl2'⟩
   refine ⟨_,rfl,hl2', by rw [c3,ba_size,ba_size];simp;omega, ?_⟩
   refine (foOperand_c (ih.get hy) (IsE.mono hl2' _ _ uy) (SzsL.get z5 hy) (chkL_at hckids hy) (tb.mono hl2') rb).mono ?_
   rintro _ h3 ⟨rfl,hl3⟩
   refine ⟨_,rfl, ?_⟩
   rw [c3,ba_append,ba_append,ba_size,ba_size]
   refine ⟨by simp;omega, ?_,hl2'.trans hl3⟩
   rw [hT,txO_get hx,txO_get hy]
  refine Br.mk (fun k3=> ?_) (fun k3=>Br.mk (fun k4=> ?_) (fun k4=>Br.mk (fun k5=> ?_) (fun k5=>Br.mk (fun k6=> ?_) (fun k6=>Br.mk (fun k7=> ?_) (fun k7=> ?_)))))
  ·have e3:k=3:=beq_iff_eq.1 k3
   rw [if_pos e3]
   exact bin (by omega) 0 1 32 43 32 _ rfl
  ·have e3:k≠3:=beq_eq_false_iff_ne.1 k3
   have e4:k=4:=beq_iff_eq.1 k4
   rw [if_neg e3,if_pos e4]
   exact bin (by omega) 0 1 32 45 32 _ rfl
  ·have e3:k≠3:=beq_eq_false_iff_ne.1 k3
   have e4:k≠4:=beq_eq_false_iff_ne.1 k4
   have e5:k=5:=beq_iff_eq.1 k5
   rw [if_neg e3,if_neg e4,if_pos e5]
   exact bin (by omega) 1 2 32 42 32 _ rfl
  ·have e3:k≠3:=beq_eq_false_iff_ne.1 k3
   have e4:k≠4:=beq_eq_false_iff_ne.1 k4
   have e5:k≠5:=beq_eq_false_iff_ne.1 k5
   have e6:k=6:=beq_iff_eq.1 k6
   rw [if_neg e3,if_neg e4,if_neg e5,if_pos e6]
   exact bin (by omega) 1 2 32 47 32 _ rfl
  ·have e3:k≠3:=beq_eq_false_iff_ne.1 k3
   have e4:k≠4:=beq_eq_false_iff_ne.1 k4
   have e5:k≠5:=beq_eq_false_iff_ne.1 k5
   have e6:k≠6:=beq_eq_false_iff_ne.1 k6
   have e7:k=7:=beq_iff_eq.1 k7
   rw [if_neg e3,if_neg e4,if_neg e5,if_neg e6,if_pos e7]
   obtain ⟨x,hxk⟩:=kids_one hops e7
   have hx:kids[0]?=some x:=by rw [hxk];rfl
   have hl1:kids.length=1:=by rw [hxk];rfl
   obtain ⟨ad,vs0,eA0,hld0,ux⟩:=kid_ld (e:= .mk k q n m nm kids) hk hx
   have ux' := ux
   obtain ⟨sx,Ax,cx,Bx,dx,Kx,kcx,rfl,_,_,_⟩:=ux'.open
   have l0:=par_len x.kind 2 (txV x)
   have m0:=kidl hx
   refine ⟨ad,eA0,by omega,by omega,_,_,_,_,_,_,_,_,_,_,_,_,hld0, ?_⟩
   refine (foOperand_c (ih.get hx) ux (SzsL.get z5 hx) (chkL_at hckids hx) tb 2).mono ?_
   rintro _ h2 ⟨rfl,hl2'⟩
   refine ⟨_,rfl, ?_⟩
   rw [c45', ba_append,ba_size,ba_size]
   refine ⟨by simp;omega, ?_,hl2'⟩
   rw [txO_get hx]
   rfl
  ·have e3:k≠3:=beq_eq_false_iff_ne.1 k3
   have e4:k≠4:=beq_eq_false_iff_ne.1 k4
   have e5:k≠5:=beq_eq_false_iff_ne.1 k5
   have e6:k≠6:=beq_eq_false_iff_ne.1 k6
   have e7:k≠7:=beq_eq_false_iff_ne.1 k7
   rw [if_neg e3,if_neg e4,if_neg e5,if_neg e6,if_neg e7] at hlenT ⊢
   obtain ⟨h89,hl1,hl8⟩:=kids_many hops (by omega) (by omega) e7
   rw [List.length_append,List.length_append] at hlenT
   have sep2:sv [44,32]=Value.string (⟨#[44,32]⟩:ByteArray):=rfl
   refine ⟨fun mm A' n' c' i h' => ∃ j,j<=kids.length/\mm=kids.length-j/\i=(j:Int)/\OwnE sv 9 h h' A' n' c' (txL (kids.take j))/\Le h h', ⟨kids.length,0,by omega,by omega,rfl,by simpa [txL] using OwnE.start,Le.refl _⟩, ?_⟩
   rintro mm A2 n2 c2 _ h2 ⟨j,hj,rfl,rfl,own2,hl2⟩
   have hn2:=own2.1
   rw [txL_len,List.length_take,Nat.min_eq_left hj] at hn2
   refine Br.mk (fun q1=> ?_) (fun q1=> ?_)
   ·have hlt:j<kids.length:=by have:=of_decide_eq_true q1;omega
    obtain ⟨x,hx⟩ : ∃ x,kids[j]?=some x:=⟨_,List.getElem?_eq_getElem hlt⟩
    obtain ⟨ad,vs', eA', hld,ux⟩:=kid_ld (e:= .mk k q n m nm kids) hk hx
    have ux' := ux
    obtain ⟨s', A', c', B', d', K', kc', rfl,_,_,_⟩:=ux'.open
    refine ⟨ad,eA', by omega,by omega,_,_,_,_,_,_,_,_,_,_,_,_,by rw [Int.toNat_natCast];exact LdN.mono hld hl2, ?_⟩
    refine ((ih.get hx).2 (lv+1) (IsE.mono hl2 _ _ ux) (SzsL.get z5 hx) (chkL_at hckids hx) (tb.mono hl2)).mono ?_
    rintro _ h3 ⟨rfl,hl3⟩
    refine ⟨_,rfl, ?_⟩
    rintro g _ hg rfl
    have go : ∀ A' c' h', OwnE sv 9 h h' A' (n2+1) c' (txL (kids.take j)++[txV x])->Le h h' -> ∀ t94:Int,t94=IntKind.i64.wrap ((j:Int)+1)-> ∃ m_1,m_1<kids.length-j/\ ∃ j', j' <= kids.length/\m_1=kids.length-j' /\ t94=(j' : Int)/\OwnE sv 9 h h' A' (n2+1) c' (txL (kids.take j'))/\Le h h' := by
     rintro A' c' h' o l _ rfl
     exact ⟨kids.length-(j+1),by omega,j+1,by omega,rfl,wi (by omega) (by omega),by rw [txL_take hx];exact o,l⟩
    exact OwnE.app (x:=txV x) (z:=[]) (K:=fun A' c' h' => ∀ t94:Int,t94=IntKind.i64.wrap ((j:Int)+1)-> ∃ m_1,m_1<kids.length-j/\ ∃ j', j' <= kids.length/\m_1=kids.length-j' /\ t94=(j' : Int)/\OwnE sv 9 h h' A' (n2+1) c' (txL (kids.take j'))/\Le h h') (own2.le hl3) (hl2.trans hl3) (fun _=>rfl) rfl rfl hg (by omega) (fun A' c' h' o l _=>go A' c' h' o l)
   ·have hj' : j=kids.length:=by have:=of_decide_eq_false q1;omega
    subst hj'
    rw [List.take_length] at own2
    obtain ⟨_,hA⟩:=own2
    rcases hA with ⟨_,h0,_⟩ | ⟨g,zs,rfl,hg,hb,hc2⟩
    ·omega
    ·have hjl:(Lib.join (txL kids) [44,32]).length<=140737488355328:=by omega
     have jc:=joinS_c (c:=c2) [44,32] hb (n:=n2) (by rw [txL_len];omega) (by rw [hc2,List.length_append,txL_len];omega) (by omega) hjl
     refine Br.mk (fun k9=> ?_) (fun k9=> ?_)
     ·have e9:k=9:=beq_iff_eq.1 k9
      rw [if_pos e9]
      refine jc.mono ?_
      rintro _ _ ⟨rfl,rfl⟩
      refine ⟨_,rfl, ?_⟩
      rw [cmx,c41', ba_append,ba_append,ba_size,ba_size,ba_size,ba_size]
      refine ⟨by simp;omega,by simp;omega,rfl,hl2⟩
     ·have e9:k≠9:=beq_eq_false_iff_ne.1 k9
      rw [if_neg e9]
      refine jc.mono ?_
      rintro _ _ ⟨rfl,rfl⟩
      refine ⟨_,rfl, ?_⟩
      rw [cmn,c41', ba_append,ba_append,ba_size,ba_size,ba_size,ba_size]
      refine ⟨by simp;omega,by simp;omega,rfl,hl2⟩
mutual
theorem foText_all : ∀ e:Ex,TxOk e
 | .mk _ _ _ _ _ kids=>foText_node (foText_allL kids)
theorem foText_allL : ∀ es:List Ex,evAll TxOk es
 | []=>trivial
 | e::es=>⟨foText_all e,foText_allL es⟩
end
def prV (e:Ex):Except Int (List UInt8):=if chkV e 1=0 then (if (txV e).length<=400 then .ok (txV e) else .error 5) else .error (chkV e 1)
def PrR (o:Except Int (List UInt8)):Value:=
 match o with
 | .ok t=> .tuple #[sv t,.int .i64 0]
 | .error e=> .tuple #[sv [],.int .i64 e]
theorem foPrint_c {e:Ex} {h:Heap} {vs:List Value} (u:IsE h e vs) (z:Szs e) (tb:Tab h) :
  CallsU Tryz.prog 102 [.agg vs.toArray] h fun r h' => r=PrR (prV e)/\Le h h' := by
 have u' := u
 obtain ⟨s,A0,c0,B,d,K,kc,rfl,_⟩:=u'.open
 apply formula_Print_ok
 refine (foChk_c u z).mono ?_
 rintro _ h1 ⟨rfl,hl1⟩
 unfold prV
 refine ⟨_,rfl,Br.mk (fun q=> ?_) (fun q=> ?_)⟩
 ·have hne:chkV e 1≠0:=by simpa using q
  rw [if_neg hne]
  exact ⟨rfl,hl1⟩
 ·have h0:chkV e 1=0:=by simpa using q
  rw [if_pos h0]
  refine ((foText_all e).2 1 (IsE.mono hl1 _ _ u) z h0 (tb.mono hl1)).mono ?_
  rintro _ h2 ⟨rfl,hl2⟩
  refine ⟨_,rfl, ?_⟩
  rw [ba_size]
  refine Br.mk (fun q2=> ?_) (fun q2=> ?_)
  ·have:=of_decide_eq_true q2
   rw [if_neg (by omega)]
   exact ⟨rfl,hl1.trans hl2⟩
  ·have:=of_decide_eq_false q2
   rw [if_pos (by omega)]
   exact ⟨rfl,hl1.trans hl2⟩
end Go.Proofs.YtfglcgbgaeegaaaGreatDoor

namespace Go.Proofs.YtfglcgbgaeegaaaGreatDoor
open Go Go.Vcg
def strings_Cut_vc (a:ByteArray) (b:ByteArray) (h:Heap) (R:Value->Heap->Prop):Prop:=
 CallsU Tryz.prog 301 [.string a,.string b] h fun f g=>
 ∃ c d e,f = .tuple #[.string c,.string d,.bool e]/\
 R (.tuple #[.string c,.string d,.bool e]) g
theorem strings_Cut_ok {a:ByteArray} {b:ByteArray} {h:Heap} {R:Value->Heap->Prop} (hv:strings_Cut_vc a b h R):CallsU Tryz.prog 293 [.string a,.string b] h R:=
 fn_ok Tryz.func293 (fun _=>false) .nil hv
def internal_stringslite_Cut_vc (a:ByteArray) (b:ByteArray) (h:Heap) (R:Value->Heap->Prop):Prop:=
 CallsU Tryz.prog 221 [.string a,.string b] h fun e f=>
 ∃ c,e = .int .i64 c/\
 Br (decide (c>=0))
 (((0:Nat):Int)<=c/\c<=(a.size:Int)/\
 ∀ d:Int,d=IntKind.i64.wrap (c+(b.size:Int))->
 ((0:Nat):Int)<=d/\d<=(a.size:Int)/\
 R (.tuple #[.string (ByteArray.extract a 0 (Int.toNat c)),.string (ByteArray.extract a (Int.toNat d) a.size),.bool true]) f)
 (R (.tuple #[.string a,.string (⟨#[]⟩:ByteArray),.bool false]) f)
theorem internal_stringslite_Cut_ok {a:ByteArray} {b:ByteArray} {h:Heap} {R:Value->Heap->Prop} (hv:internal_stringslite_Cut_vc a b h R):CallsU Tryz.prog 301 [.string a,.string b] h R:=
 fn_ok Tryz.func301 (fun _=>false) (.two .nil (.two (.two .nil (.two .nil (.two (.two (.ord [0,1,2,3,4,5,6,7,8,9,10,11]) .nil) .nil))) .nil)) hv
def internal_stringslite_Index_vc (a:ByteArray) (b:ByteArray) (h:Heap) (R:Value->Heap->Prop):Prop:=
 ∃ c:Heap->Prop,(∀  (b4:Heap),c b4->
 ∃ d:UInt8,0<=(0:Int)/\b[(0:Nat)]?=some d/\
 ∃ e:UInt8,0<=(1:Int)/\b[(1:Nat)]?=some e/\
 ∀ a1:Int,a1=IntKind.i64.wrap ((a.size:Int)-(b.size:Int))->
 ∀ a2:Int,a2=IntKind.i64.wrap (a1+1)->
 ∃ f:Nat->Int->Int->Heap->Prop,(∃ g,f g 0 0 b4)/\
 ∀ (g:Nat) (b5:Int) (b6:Int) (b7:Heap),f g b5 b6 b7->
 Br (decide (b5<a2))
 (∃ i:Int->Heap->Prop,(∀ (b8:Int) (b9:Heap),i b8 b9->
 ∃ j:Heap->Prop,(∀  (c0:Heap),j c0->
 ∀ a3:Int,a3=IntKind.i64.wrap (b8+1)->
 ∀ a4:Int,a4=IntKind.i64.wrap (b6+1)->
 ∃ k:Bool->Heap->Prop,(∀ (c1:Bool) (c2:Heap),k c1 c2->
 Br (c1)
 (((0:Nat):Int)<=a3/\a3<=(a.size:Int)/\
 CallsU Tryz.prog 253 [.string (ByteArray.extract a (Int.toNat a3) a.size),.string b] c2 fun c7 c8=>
 ∃ l,c7 = .int .i64 l/\
 Br (decide (l>=0))
 (∀ a5:Int,a5=IntKind.i64.wrap (l+a3)->
 R (.int .i64 a5) c8)
 (R (.int .i64 (-1)) c8))
 (∃ m:Bool->Heap->Prop,(∀ (c3:Bool) (c4:Heap),m c3 c4->
 Br (c3)
 (((0:Nat):Int)<=a3/\a3<=(a.size:Int)/\
 CallsU Tryz.prog 255 [.string (ByteArray.extract a (Int.toNat a3) a.size),.string b] c4 fun c9 d0=>
 ∃ n,c9 = .int .i64 n/\
 Br (decide (n<0))
 (R (.int .i64 (-1)) d0)
 (∀ a6:Int,a6=IntKind.i64.wrap (a3+n)->
 R (.int .i64 a6) d0))
 (∃ o,o<g/\f o a3 a4 c4))/\
 ∃ p,LdN c2 (⟨1,0,none⟩) [.int .i64 p]/\
 Br (decide ((b.size:Int)>p))
 (∀ a7:Int,a7=(Int.fdiv a3 (2^(4:Nat)))->
 ∀ a8:Int,a8=IntKind.i64.wrap (4+a7)->
 Br (decide (a4>=a8))
 (m (decide (a3<a2)) c2)
 (m false c2))
 (m false c2)))/\
 ∃ q,LdN c0 (⟨1,0,none⟩) [.int .i64 q]/\
 Br (decide ((b.size:Int)<=q))
 (CallsU Tryz.prog 254 [.int .i64 a3] c0 fun d1 d2=>
 ∃ r,d1 = .int .i64 r/\
 k (decide (a4>r)) d2)
 (k false c0))/\
 ∀ a9:Int,a9=IntKind.i64.wrap (b8+1)->
 ∃ s:UInt8,0<=a9/\a[(Int.toNat a9:Nat)]?=some s/\
 Br ((s.toNat:Int)==(e.toNat:Int))
 (∀ b0:Int,b0=IntKind.i64.wrap (b8+(b.size:Int))->
 ((0:Nat):Int)<=b0/\b0<=(a.size:Int)/\
 ((0:Nat):Int)<=b8/\b8<=(((Int.toNat b0):Nat):Int)/\
 Br ((ByteArray.extract a (Int.toNat b8) (Int.toNat b0)).toList==b.toList)
 (R (.int .i64 b8) b9)
 (j b9))
 (j b9))/\
 ∃ t:UInt8,0<=b5/\a[(Int.toNat b5:Nat)]?=some t/\
 Br ((t.toNat:Int) != (d.toNat:Int))
 (∀ b1:Int,b1=IntKind.i64.wrap (b5+1)->
 ((0:Nat):Int)<=a2/\a2<=(a.size:Int)/\
 ((0:Nat):Int)<=b1/\b1<=(((Int.toNat a2):Nat):Int)/\
 CallsU Tryz.prog 252 [.string (ByteArray.extract a (Int.toNat b1) (Int.toNat a2)),.int .u8 (d.toNat:Int)] b7 fun d3 d4=>
 ∃ u,d3 = .int .i64 u/\
 Br (decide (u<0))
 (R (.int .i64 (-1)) d4)
 (∀ b2:Int,b2=IntKind.i64.wrap (u+1)->
 ∀ b3:Int,b3=IntKind.i64.wrap (b5+b2)->
 i b3 d4))
 (i b5 b7))
 (R (.int .i64 (-1)) b7))/\
 ∃ v:Bool->Heap->Prop,(∀ (c5:Bool) (c6:Heap),v c5 c6->
 Br (c5)
 (R (.int .i64 0) c6)
 (Br ((b.size:Int)==1)
 (∃ w:UInt8,0<=(0:Int)/\b[(0:Nat)]?=some w/\
 CallsU Tryz.prog 252 [.string a,.int .u8 (w.toNat:Int)] c6 fun d5 d6=>
 ∃ y,d5 = .int .i64 y/\
 R (.int .i64 y) d6)
 (Br (decide ((b.size:Int)>=(a.size:Int)))
 (R (.int .i64 (-1)) c6)
 (∃ z,LdN c6 (⟨1,0,none⟩) [.int .i64 z]/\
 Br (decide ((b.size:Int)<=z))
 (Br (decide ((a.size:Int)<=64))
 (CallsU Tryz.prog 253 [.string a,.string b] c6 fun d7 d8=>
 ∃ a0,d7 = .int .i64 a0/\
 R (.int .i64 a0) d8)
 (c c6))
 (c c6)))))/\
 Br ((b.size:Int)==0)
 (v true h)
 (v (b.toList==a.toList) h)
theorem internal_stringslite_Index_ok {a:ByteArray} {b:ByteArray} {h:Heap} {R:Value->Heap->Prop} (hv:internal_stringslite_Index_vc a b h R):CallsU Tryz.prog 221 [.string a,.string b] h R:=
 fn_ok Tryz.func221 (fun _=>false) (.two .nil (.two .nil (.cut ⟨[],[]⟩ (.one (.cut ⟨[(16,Sh.bool)],[]⟩ .nil .nil)) (.two .nil (.two .nil (.two .nil (.two .nil (.two .nil (.two (.one (.loop ⟨[(8,Sh.int .i64),(10,Sh.int .i64)],[]⟩ (.two .nil (.one (.cut ⟨[(8,Sh.int .i64)],[]⟩ .nil (.cut ⟨[],[]⟩ .nil (.two .nil (.two .nil (.cut ⟨[(107,Sh.bool)],[]⟩ .nil (.two .nil (.cut ⟨[(132,Sh.bool)],[]⟩ .nil .nil))))))))))) .nil))))))))) hv
end Go.Proofs.YtfglcgbgaeegaaaGreatDoor

namespace Go.Proofs.YtfglcgbgaeegaaaGreatDoor
open Go Go.Vcg Go.RowKit Go.Sort
attribute [local irreducible] Br
theorem idx_spec (l:List UInt8) (c:UInt8):Lib.indexByte l c=if c∈l then ((l.takeWhile (· != c)).length:Int) else -1:=by
 induction l with
 | nil=>rfl
 | cons b l ih=>
  unfold Lib.indexByte
  rw [ih]
  by_cases hb:b=c
  ·subst hb
   simp
  ·have h1:(b==c)=false:=by simpa using hb
   have h2:(b != c)=true:=by simpa using hb
   have h3:(c∈b::l)↔c∈l:=by
    rw [List.mem_cons]
    exact ⟨fun h=>h.resolve_left (fun e=>hb e.symm),Or.inr⟩
   rw [h1,List.takeWhile_cons,h2]
   simp only [Bool.false_eq_true,if_false,if_true,h3]
   by_cases hm:c∈l
   ·rw [if_pos hm,if_neg,if_pos hm]
    ·simp
    ·simp only [beq_iff_eq];omega
   ·rw [if_neg hm,if_pos (by rfl)]
    simp [hm]
theorem ba_ext (l:List UInt8) (i j:Nat):(⟨l.toArray⟩:ByteArray).extract i j=⟨((l.take j).drop i).toArray⟩:=by
 have : ∀ a b:ByteArray,a.data=b.data->a=b:=fun a b e=>by cases a;cases b;simp_all
 apply this
 apply Array.ext'
 rw [ByteArray.data_extract]
 simp [List.drop_take]
theorem tw_take (l:List UInt8) (p:UInt8->Bool):l.take (l.takeWhile p).length=l.takeWhile p:=by
 induction l with
 | nil=>rfl
 | cons x l ih=>
  rw [List.takeWhile_cons]
  split
  ·rw [List.length_cons,List.take_succ_cons,ih]
  ·rfl
theorem tw_drop (l:List UInt8) (p:UInt8->Bool):l.drop (l.takeWhile p).length=l.dropWhile p:=by
 induction l with
 | nil=>rfl
 | cons x l ih=>
  rw [List.takeWhile_cons,List.dropWhile_cons]
  split
  ·rw [List.length_cons,List.drop_succ_cons,ih]
  ·rfl
theorem tw_self {l:List UInt8} {p:UInt8->Bool} (h : ∀ a∈l,p a=true):l.takeWhile p=l:=by
 induction l with
 | nil=>rfl
 | cons x l ih=>
  rw [List.takeWhile_cons,if_pos (h x (by simp)),ih fun a ha=>h a (List.mem_cons_of_mem _ ha)]
theorem tw_le (l:List UInt8) (p:UInt8->Bool):(l.takeWhile p).length<=l.length:=by
 have:=congrArg List.length (List.takeWhile_append_dropWhile (p:=p) (l:=l))
 rw [List.length_append] at this
 omega
theorem tw_lt {l:List UInt8} {c:UInt8} (h:c∈l):(l.takeWhile (· != c)).length<l.length:=by
 have h2:=congrArg List.length (List.takeWhile_append_dropWhile (p:=(· != c)) (l:=l))
 rw [List.length_append] at h2
 rcases Nat.lt_or_ge (l.takeWhile (· != c)).length l.length with q | q
 ·exact q
 ·exfalso
  have h0:l.takeWhile (· != c)=l:=by
   rw [<- tw_take,List.take_of_length_le q]
  rw [<- h0] at h
  have : ∀ (m:List UInt8),c∉m.takeWhile (· != c):=fun m=>by
   induction m with
   | nil=>simp
   | cons x m ih=>
    rw [List.takeWhile_cons]
    split
    ·rename_i hx
     intro hc
     rcases List.mem_cons.1 hc with e | e
     ·subst e;simp at hx
     ·exact ih e
    ·simp
  exact this l h
theorem slIndex1_c {l:List UInt8} (b:UInt8) (h:Heap) :
  CallsU Tryz.prog 221 [sv l,sv [b]] h fun r h' => r = .int .i64 (Lib.indexByte l b)/\h=h' := by
 apply internal_stringslite_Index_ok
 unfold internal_stringslite_Index_vc
 have hs:(⟨[b].toArray⟩:ByteArray).size=1:=rfl
 rw [hs,bytes_toList,bytes_toList]
 refine ⟨fun _=>False,fun _ q=>q.elim,fun t h' => t=([b]==l)/\h=h', ?_, ?_⟩
 ·rintro t _ ⟨rfl,rfl⟩
  refine Br.mk (fun q=> ?_) (fun q=>Br.mk (fun _=>⟨b,by omega,by rw [ba_get];rfl, ?_⟩) (fun q=>by exact absurd q (by decide)))
  ·have e:[b]=l:=eq_of_beq q
   subst e
   refine ⟨?_,rfl⟩
   rw [idx_spec]
   simp
  ·have:=callsU_same (h:=h) (v:= .int .i64 (Lib.indexByte l b)) (P:=Tryz.prog) (f:=252) (args:=[sv l,.int .u8 (b.toNat:Int)]) ⟨_,Tryz.func252,by kernel_rfl,by kernel_rfl⟩ fun w _=>by
    have h1:=Tryz.stringslite_IndexByte ⟨l.toArray⟩ (b.toNat:Int) w
    rw [Int.toNat_natCast] at h1
    have h2:b.toNat.toUInt8=b:=by simp
    rw [h2] at h1
    exact h1
   refine this.mono ?_
   rintro _ _ ⟨rfl,rfl⟩
   exact ⟨_,rfl,rfl,rfl⟩
 ·refine Br.mk (fun q=>by exact absurd q (by decide)) (fun _=>⟨rfl,rfl⟩)
theorem cut1_c {l:List UInt8} (b:UInt8) (hl:l.length<=1000000) (h:Heap) :
  CallsU Tryz.prog 293 [sv l,sv [b]] h fun r h' => r = .tuple #[sv (l.takeWhile (· != b)),sv ((l.dropWhile (· != b)).drop 1),.bool (decide (b∈l))]/\h=h' := by
 apply strings_Cut_ok
 have key:CallsU Tryz.prog 301 [sv l,sv [b]] h fun r h' => r = .tuple #[sv (l.takeWhile (· != b)),sv ((l.dropWhile (· != b)).drop 1),.bool (decide (b∈l))]/\h=h' := by
  apply internal_stringslite_Cut_ok
  refine (slIndex1_c b h).mono ?_
  rintro _ _ ⟨rfl,rfl⟩
  have hs:(⟨[b].toArray⟩:ByteArray).size=1:=rfl
  rw [hs,idx_spec]
  refine ⟨_,rfl, ?_⟩
  by_cases hb:b∈l
  ·have hlt:=tw_lt hb
   rw [if_pos hb,decide_eq_true hb,ba_size]
   refine Br.mk (fun _=>⟨by omega,by omega, ?_⟩) (fun q=>by have:=of_decide_eq_false q;omega)
   rintro _ rfl
   have e1:IntKind.i64.wrap (((l.takeWhile (· != b)).length:Int)+((1:Nat):Int))=(((l.takeWhile (· != b)).length+1:Nat):Int):=wi (by omega) (by omega)
   rw [e1]
   refine ⟨by omega,by omega, ?_,rfl⟩
   rw [Int.toNat_natCast,Int.toNat_natCast,ba_ext,ba_ext,List.drop_zero,tw_take,List.take_length,<- List.drop_drop,tw_drop]
  ·rw [if_neg hb,decide_eq_false hb]
   refine Br.mk (fun q=>by have:=of_decide_eq_true q;omega) (fun _=>⟨?_,rfl⟩)
   have e1:l.takeWhile (· != b)=l:=by
    apply tw_self
    intro a ha
    simp only [bne_iff_ne,ne_eq]
    intro e
    exact hb (e ▸ ha)
   have e2:l.dropWhile (· != b)=[]:=by
    have:=List.takeWhile_append_dropWhile (p:=(· != b)) (l:=l)
    rw [e1] at this
    simpa using this
   rw [e1,e2]
   rfl
 refine key.mono ?_
 rintro _ _ ⟨rfl,rfl⟩
 exact ⟨_,_,_,rfl,rfl,rfl⟩
def dgsB (s:List UInt8) (most:Nat):Bool:=s.all isDg&&decide (1<=s.length/\s.length<=most)
theorem foDigits_c {l:List UInt8} (most:Nat) (hl:l.length<=1000000) (h:Heap) :
  CallsU Tryz.prog 294 [sv l,.int .i64 (most:Int)] h fun r h' => r = .bool (dgsB l most)/\h=h' := by
 apply formula_digits_ok
 unfold formula_digits_vc dgsB
 rw [ba_size]
 refine ⟨fun m i h' => ∃ k,k<=l.length/\m=l.length-k/\i=(k:Int)/\h=h' /\ (l.take k).all isDg=true,⟨l.length,0,by omega,by omega,rfl,rfl,by simp⟩, ?_⟩
 rintro m _ _ ⟨k,hk,rfl,rfl,rfl,hall⟩
 refine Br.mk (fun q=> ?_) (fun q=> ?_)
 ·have hlt:k<l.length:=by have:=of_decide_eq_true q;omega
  obtain ⟨x,hx⟩ : ∃ x,l[k]?=some x:=⟨_,List.getElem?_eq_getElem hlt⟩
  refine ⟨x,by omega,by rw [Int.toNat_natCast,ba_get];exact hx,(foDigit_c x h).mono ?_⟩
  rintro _ _ ⟨rfl,rfl⟩
  refine ⟨_,rfl,Br.mk (fun q2=> ?_) (fun q2=> ?_)⟩
  ·have hd:isDg x=false:=by simpa using q2
   have:l.all isDg=false:=by
    rw [List.all_eq_false]
    exact ⟨x,List.mem_of_getElem? hx,by rw [hd];decide⟩
   rw [this]
   exact ⟨rfl,rfl⟩
  ·have hd:isDg x=true:=by simpa using q2
   rintro _ rfl
   refine ⟨l.length-(k+1),by omega,k+1,by omega,rfl,wi (by omega) (by omega),rfl, ?_⟩
   rw [List.take_add_one,hx,List.all_append,hall]
   simp [hd]
 ·have hk' : k=l.length:=by have:=of_decide_eq_false q;omega
  subst hk'
  rw [List.take_length] at hall
  rw [hall,Bool.true_and]
  refine Br.mk (fun q2=>⟨?_,rfl⟩) (fun q2=>⟨?_,rfl⟩)
  ·have:=of_decide_eq_true q2
   congr 1
   rw [Bool.eq_iff_iff,decide_eq_true_eq,decide_eq_true_eq]
   omega
  ·have:=of_decide_eq_false q2
   rw [decide_eq_false (by omega)]
def lmb (v:Nat):Nat:=if v=0 then 0 else if v<4294967296 then 1 else 2
theorem NmN.lmb {h:Heap} {A:Option Addr} {n c v:Nat} (u:NmN h A n c v) (hn:n<=2):n=lmb v:=by
 obtain ⟨xs,u1,rfl,hN⟩:=u
 have hlen:xs.length=n:=u1.1
 subst hlen
 match xs,hN,u1,hn with
 | [],_,_,_=>rfl
 | [x],hN,u1,_=>
  have hx:x<4294967296:=u1.getD_lt 0
  have:=nrm_val_pos hN (by simp)
  have e:val [x]=x:=by simp [val]
  simp only [List.length_cons,List.length_nil,Nat.zero_add,Nat.sub_self,Nat.pow_zero] at this
  unfold Go.Proofs.YtfglcgbgaeegaaaGreatDoor.lmb
  rw [e] at this ⊢
  rw [if_neg (by omega),if_pos hx]
  rfl
 | [x,y],hN,u1,_=>
  have:=nrm_val_pos hN (by simp)
  have hB:B32=4294967296:=rfl
  simp only [List.length_cons,List.length_nil,Nat.zero_add,Nat.reduceAdd,Nat.reduceSub,Nat.pow_one,hB] at this
  unfold Go.Proofs.YtfglcgbgaeegaaaGreatDoor.lmb
  rw [if_neg (by omega),if_neg (by omega)]
  rfl
def numberV (w:List UInt8):Option Rat:=
 let a:=w.takeWhile (· != 46)
 let b:=(w.dropWhile (· != 46)).drop 1
 if dgsB a 9 && !(decide (1<a.length)&&a.head?==some 48)&&(!decide (46∈w)||dgsB b 4) then some ((dgV (a++b):Int)/((10^b.length:Nat):Int):Rat) else none
def NumR (o:Option Rat) (v:Value) (h' : Heap):Prop:=
 match o with
 | none=>v = .tuple #[.agg #[.bool false,.slice none 0 0,.slice none 0 0],.bool false]
 | some q=> ∃ s A c B d,v = .tuple #[.agg #[.bool s,.slice A (lmb q.num.natAbs) c,.slice B (lmb q.den) d],.bool true]/\NmQ h' s A (lmb q.num.natAbs) c B (lmb q.den) d q
theorem foNumber_c {w:List UInt8} (hw:w.length<=1000000) (h:Heap) :
  CallsU Tryz.prog 279 [sv w] h fun r h' => NumR (numberV w) r h' /\ Le h h' := by
 apply formula_number_ok
 refine (cut1_c (l:=w) 46 hw h).mono ?_
 rintro _ _ ⟨rfl,rfl⟩
 unfold numberV
 simp only
 have hla:=tw_le w (· != 46)
 have hb0:46∉w->(w.dropWhile (· != 46)).drop 1=[]:=fun hn=>by
  have:w.dropWhile (· != 46)=[]:=by
   have h1:w.takeWhile (· != 46)=w:=by
    apply tw_self
    intro a ha
    simp only [bne_iff_ne,ne_eq]
    intro e
    exact hn (e ▸ ha)
   have:=List.takeWhile_append_dropWhile (p:=(· != 46)) (l:=w)
   rw [h1] at this
   simpa using this
  rw [this];rfl
 have hlb:((w.dropWhile (· != 46)).drop 1).length<=w.length:=by
  have:=congrArg List.length (List.takeWhile_append_dropWhile (p:=(· != 46)) (l:=w))
  rw [List.length_append] at this
  rw [List.length_drop]
  omega
 generalize w.takeWhile (· != 46)=a at *
 generalize (w.dropWhile (· != 46)).drop 1=b at *
 refine ⟨_,_,_,rfl,fun _ _ _ _ _ _ _ h' => h=h' /\ dgsB a 9=true/\(decide (1<a.length)&&a.head?==some 48)=false, ?_, ?_⟩
 ·rintro _ _ _ _ _ _ _ _ ⟨rfl,ha,hz⟩
  rw [ha,hz]
  refine ⟨fun _ _ _ _ _ _ _ h' => h=h' /\ (!decide (46∈w)||dgsB b 4)=true, ?_, ?_⟩
  ·rintro _ _ _ _ _ _ _ _ ⟨rfl,hb⟩
   rw [hb]
   unfold dgsB at ha
   rw [Bool.and_eq_true,decide_eq_true_eq] at ha
   have hbl:b.length<=4/\b.all isDg=true:=by
    by_cases hm:46∈w
    ·rw [decide_eq_true hm] at hb
     unfold dgsB at hb
     simp only [Bool.not_true,Bool.false_or,Bool.and_eq_true,decide_eq_true_eq] at hb
     exact ⟨hb.2.2,hb.1⟩
    ·rw [hb0 hm];exact ⟨by simp,rfl⟩
   rw [ba_size,ba_size,ba_append]
   have had : ∀ x∈a++b,isDg x=true:=fun x hx=>by
    rcases List.mem_append.1 hx with q | q
    ·exact List.all_eq_true.1 ha.1 x q
    ·exact List.all_eq_true.1 hbl.2 x q
   have hlt:=dgV_lt _ had
   have hp:(10:Nat)^(a++b).length<=10^13:=Nat.pow_le_pow_right (by decide) (by rw [List.length_append];omega)
   refine ⟨by omega,(atoi_c (l:=a++b) had (fun e=>by have:=congrArg List.length e;rw [List.length_append,List.length_nil] at this;omega) (by rw [List.length_append];omega) h).mono ?_⟩
   rintro _ _ ⟨rfl,rfl⟩
   refine ⟨_,_,rfl,rfl,Br.mk (fun q=>by exact absurd q (by decide)) (fun _=> ?_)⟩
   have hpk : ∀ k,k<=4->(10:Nat)^k<=10000:=fun k hk=>Nat.pow_le_pow_right (i:=k) (j:=4) (by decide) hk
   refine ⟨fun m den i h' => ∃ k,k<=b.length/\m=b.length-k/\i=(k:Int)/\den=((10^k:Nat):Int)/\h=h', ⟨b.length,0,by omega,by omega,rfl,rfl,rfl⟩, ?_⟩
   rintro m _ _ _ ⟨k,hk,rfl,rfl,rfl,rfl⟩
   refine Br.mk (fun q=> ?_) (fun q=> ?_)
   ·have hlt:k<b.length:=by have:=of_decide_eq_true q;omega
    have:=hpk k (by omega)
    rintro _ rfl _ rfl
    refine ⟨b.length-(k+1),by omega,k+1,by omega,rfl,wi (by omega) (by omega), ?_,rfl⟩
    rw [Nat.pow_succ]
    refine wi ?_ ?_
    ·push_cast;rfl
    ·omega
   ·have hk' : k=b.length:=by have:=of_decide_eq_false q;omega
    subst hk'
    have h10:=hpk b.length hbl.1
    have h1:0<10^b.length:=Nat.pow_pos (by decide)
    refine (rof_c (dgV (a++b):Int) ((10^b.length:Nat):Int) (by omega) (by omega) (by omega) (by omega) (by omega) h).mono ?_
    rintro _ h1 ⟨s1,A1,n1,c1,B1,m1,d1,rfl,hN1,a1,b1,hl1⟩
    have e1:=hN1.1.1.lmb a1
    have e2:=hN1.2.lmb b1
    refine ⟨_,_,_,_,_,_,_,_,rfl, ?_,hl1⟩
    simp only [Bool.not_false,Bool.and_true,if_true]
    subst e1 e2
    exact ⟨_,_,_,_,_,rfl,hN1⟩
  ·by_cases hm:46∈w
   ·rw [decide_eq_true hm]
    refine Br.mk (fun _=>(foDigits_c (l:=b) 4 (by omega) h).mono ?_) (fun q=>by exact absurd q (by decide))
    rintro _ _ ⟨rfl,rfl⟩
    refine ⟨_,rfl,Br.mk (fun q2=> ?_) (fun q2=>⟨rfl,by simpa using q2⟩)⟩
    have:dgsB b 4=false:=by simpa using q2
    rw [this]
    exact ⟨rfl,Le.refl _⟩
   ·rw [decide_eq_false hm]
    exact Br.mk (fun q=>by exact absurd q (by decide)) (fun _=>⟨rfl,rfl⟩)
 ·refine (foDigits_c (l:=a) 9 (by omega) h).mono ?_
  rintro _ _ ⟨rfl,rfl⟩
  refine ⟨_,rfl,Br.mk (fun q2=> ?_) (fun q2=> ?_)⟩
  ·have:dgsB a 9=false:=by simpa using q2
   rw [this]
   exact ⟨rfl,Le.refl _⟩
  ·have had:dgsB a 9=true:=by simpa using q2
   rw [ba_size]
   refine Br.mk (fun q3=> ?_) (fun q3=> ?_)
   ·have h1:1<a.length:=by have:=of_decide_eq_true q3;omega
    obtain ⟨x,r,rfl⟩ : ∃ x r,a=x::r:=by
     cases a with
     | nil=>simp at h1
     | cons x r=>exact ⟨x,r,rfl⟩
    refine ⟨x,by omega,by rw [ba_get];rfl, ?_⟩
    rw [decide_eq_true h1,Bool.true_and,List.head?_cons]
    have hx:((x.toNat:Int)==48)=(some x==some 48):=by
     rw [Bool.eq_iff_iff,beq_iff_eq,beq_iff_eq]
     constructor
     ·intro e
      congr 1
      apply UInt8.toNat_inj.1
      have:(48:UInt8).toNat=48:=rfl
      omega
     ·intro e
      cases e
      rfl
    rw [hx]
    refine Br.mk (fun q4=> ?_) (fun q4=>⟨rfl,had,q4⟩)
    rw [q4]
    simp only [Bool.not_true,Bool.and_false,Bool.false_and,Bool.false_eq_true,if_false]
    exact ⟨rfl,Le.refl _⟩
   ·have h1 : ¬ 1<a.length:=by have:=of_decide_eq_false q3;omega
    exact ⟨rfl,had,by rw [decide_eq_false h1];rfl⟩
end Go.Proofs.YtfglcgbgaeegaaaGreatDoor
