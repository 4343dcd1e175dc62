/-
 Gathered texts of this proof: Dr4,VcJ,Dr5,Dr6,Dr7,Dr8,Dr9,Dr10,Dr11,Dl1.
-/
import Derived.Test.YtfglcgbgaeegaaaGreatDoorG11
import Derived.Test.YtfglcgbgaeegaaaGreatDoorG03
import Derived.Test.YtfglcgbgaeegaaaGreatDoorChecked
import Derived.Test.YtfglcgbgaeegaaaGreatDoorG10
set_option maxRecDepth 100000

namespace Go.Proofs.YtfglcgbgaeegaaaGreatDoor
open Go Go.Vcg Go.RowKit Go.Sort
attribute [local irreducible] Br
def noU (cs:List Value):Prop:= ∀ v∈cs,∀ n:Int,v ≠ .int .u32 n
theorem NmN.hole {h:Heap} {g:Nat} {A:Option Addr} {n c v:Nat} (u:NmN h A n c v) {b:Blk} (hb:h g=some b) (hno:noU b.cells):NmN (Go.Proofs.YtfglcgbgaeegaaaGreatDoor.hole h g) A n c v:=by
 obtain ⟨xs,u1,e,hN⟩:=u
 refine ⟨xs,⟨u1.len,u1.cap,u1.lt,fun hn=> ?_⟩,e,hN⟩
 obtain ⟨ad,b', e1,sp,hb', hc⟩:=u1.mem hn
 refine ⟨ad,b', e1,sp, ?_,hc⟩
 rw [hole_ne _ (fun q=> ?_)]
 ·exact hb'
 ·rw [q,hb] at hb'
  cases hb'
  have hl:=u1.len
  cases xs with
  | nil=>simp at hl;omega
  | cons x xs=>
   have hm:lv x∈(b.cells.drop ad.off).take n:=by rw [hc];simp
   exact hno _ (List.mem_of_mem_drop (List.mem_of_mem_take hm)) _ rfl
theorem QB.hole {h:Heap} {g k:Nat} {q:Rat} {x:QC} (u:QB h k q x) {b:Blk} (hb:h g=some b) (hno:noU b.cells):QB (Go.Proofs.YtfglcgbgaeegaaaGreatDoor.hole h g) k q x:=
 ⟨⟨⟨u.1.1.1.hole hb hno,u.1.1.2⟩,u.1.2.hole hb hno⟩,u.2⟩
theorem PB.hole {h:Heap} {g k:Nat} {p:Rat×Rat} {x y:QC} (u:PB h k p x y) {b:Blk} (hb:h g=some b) (hno:noU b.cells):PB (Go.Proofs.YtfglcgbgaeegaaaGreatDoor.hole h g) k p x y:=⟨u.1.hole hb hno,u.2.hole hb hno⟩
theorem noU_np (nm:List UInt8) (x y:QC):noU (npL nm x y):=by
 intro v hv n
 simp only [List.mem_cons,List.not_mem_nil,or_false] at hv
 rcases hv with rfl | rfl | rfl | rfl | rfl | rfl | rfl<;>intro e<;>cases e
abbrev zN:List Value:=[.string ByteArray.empty,.bool false,.slice none 0 0,.slice none 0 0,.bool false,.slice none 0 0,.slice none 0 0]
theorem noU_z : ∀ k:Nat,noU (repV zN k)/\(repV zN k).length=7*k
 | 0=>⟨fun v hv=>by simp [repV] at hv,rfl⟩
 | k+1=>by
  obtain ⟨h1,h2⟩:=noU_z k
  rw [repV]
  refine ⟨fun v hv n=> ?_,by rw [List.length_append,h2];simp;omega⟩
  rcases List.mem_append.1 hv with q | q
  ·simp only [List.mem_cons,List.not_mem_nil,or_false] at q
   rcases q with rfl | rfl | rfl | rfl | rfl | rfl | rfl<;>intro e<;>cases e
  ·exact h1 v q n
def NP (h0 h:Heap) (A:Option Addr) (n c:Nat) (ps:List Nmd):Prop:=
 ps.length=n/\((A=none/\n=0/\c=0)\/ ∃ gp cs,h0 gp=none/\A=some ⟨gp,0,none⟩/\h gp=some ⟨cs,53,(0,0)⟩/\cs.length=7*c/\n<=c/\noU cs/\NCs (hole h gp) ps cs)
theorem NP.mono {h0 h h' : Heap} {A:Option Addr} {n c:Nat} {ps:List Nmd} (u:NP h0 h A n c ps) (l:Le h h'):NP h0 h' A n c ps:=by
 obtain ⟨a,b⟩:=u
 refine ⟨a,b.imp id ?_⟩
 rintro ⟨gp,cs,b1,b2,b3,b4,b5,b6,b7⟩
 exact ⟨gp,cs,b1,b2,l _ _ b3,b4,b5,b6,b7.mono (Le.hole l gp)⟩
theorem NP.s {h0 h:Heap} {A:Option Addr} {n c:Nat} {ps:List Nmd} (u:NP h0 h A n c ps):NPs h A n c ps:=by
 obtain ⟨a,b⟩:=u
 refine ⟨a.symm, ?_,fun hn=> ?_⟩
 ·rcases b with ⟨_,e,e2⟩ | ⟨gp,cs,b1,b2,b3,b4,b5,b6,b7⟩
  ·omega
  ·exact b5
 ·rcases b with ⟨_,e,_⟩ | ⟨gp,cs,b1,b2,b3,b4,b5,b6,b7⟩
  ·exact absurd (List.length_eq_zero_iff.1 (by omega)) hn
  ·exact ⟨_,_,b2,rfl,b3,by simpa using b7.mono (hole_le _ _)⟩
theorem NCs.snoc {h:Heap} {ps:List Nmd} {cs rest:List Value} {p:Nmd} {x y:QC} (u:NCs h ps cs) (hl:7*ps.length<=cs.length) (w:PB h 25 p.pos x y):NCs h (ps++[p]) (cs.take (7*ps.length)++npL p.name x y++rest):=by
 intro i q hq
 have htl:(cs.take (7*ps.length)).length=7*ps.length:=by rw [List.length_take];omega
 rcases Nat.lt_or_ge i ps.length with hi | hi
 ·rw [List.getElem?_append_left hi] at hq
  obtain ⟨x', y', e,w'⟩:=u i q hq
  refine ⟨x', y', ?_,w'⟩
  rw [<- e,List.append_assoc,List.drop_append_of_le_length (by omega),List.take_append_of_le_length (by rw [List.length_drop];omega),List.drop_take,List.take_take,Nat.min_eq_left (by omega)]
 ·have hi' : i=ps.length:=by
   have:=(List.getElem?_eq_some_iff.1 hq).1
   simp at this
   omega
  subst hi'
  rw [List.getElem?_append_right (Nat.le_refl _),Nat.sub_self] at hq
  simp at hq
  subst hq
  refine ⟨x,y, ?_,w⟩
  rw [List.append_assoc,List.drop_append_of_le_length (by omega),List.drop_of_length_le (by omega),List.nil_append,List.take_append_of_le_length (by simp),List.take_of_length_le (by simp)]
theorem NP.app {h0 h:Heap} {A:Option Addr} {n c:Nat} {ps:List Nmd} (u:NP h0 h A n c ps) (hle:Le h0 h) {p:Nmd} {x y:QC} (w:PB h 25 p.pos x y) {vs:List Value} (hv:vs=npL p.name x y) {g6:Nat} (hg6:h g6=none) (hn:n<=1000000) {K:Option Addr->Nat->Heap->Prop}
  (hK : ∀ A' c' h', NP h0 h' A' (n+1) c' (ps++[p])->Le h0 h' -> K A' c' h') :
  ∃ xs:List Value,RdS (h.put g6 ⟨vs,53,(0,0)⟩) (some ⟨g6,0,none⟩) (1*7) xs/\(∀ y∈xs,Go.Vcg.one y=true)/\
   (n+1<=c-> ∃ (ad:Addr) (b:Blk),A=some ad/\ad.spot=none/\(h.put g6 ⟨vs,53,(0,0)⟩) ad.block=some b/\b.fz=(0,0)/\ad.off+n*7+1*7<=b.cells.length/\
    ∀ h' : Heap,h' = Heap.put (h.put g6 ⟨vs,53,(0,0)⟩) ad.block { b with cells:=setSeg b.cells (ad.off+n*7) xs }->K A c h')/\
   (c<n+1-> ∃ olds:List Value,RdS (h.put g6 ⟨vs,53,(0,0)⟩) A (n*7) olds/\(n+1)*128<=140737488355328/\
    ∀ (g1 cap:Nat) (h' : Heap),(h.put g6 ⟨vs,53,(0,0)⟩) g1=none->n+1<=cap->h' = Heap.put (h.put g6 ⟨vs,53,(0,0)⟩) g1 ⟨olds++xs++repV zN (cap-(n+1)),53,(0,0)⟩->K (some ⟨g1,0,none⟩) cap h'):=by
 subst hv
 obtain ⟨a1,a3⟩:=u
 have l6:=Le.new hg6 (⟨npL p.name x y,53,(0,0)⟩:Blk)
 refine ⟨npL p.name x y,⟨rfl,fun _=>⟨_,rfl,rfl,_,Heap.put_same _ _ _,rfl⟩⟩, ?_, ?_, ?_⟩
 ·intro v hv
  simp only [List.mem_cons,List.not_mem_nil,or_false] at hv
  rcases hv with rfl | rfl | rfl | rfl | rfl | rfl | rfl<;>rfl
 ·intro hcap
  rcases a3 with ⟨_,_,rfl⟩ | ⟨gp,cs,b0,rfl,b3,b4,b5,b6,b7⟩
  ·omega
  ·have hg6p:g6≠gp:=fun e=>by rw [e,b3] at hg6;cases hg6
   refine ⟨_,_,rfl,rfl,by rw [Heap.put_ne _ _ (fun e=>hg6p e.symm)];exact b3,rfl,by simp only;omega, ?_⟩
   rintro _ rfl
   have hcs:setSeg cs (0+n*7) (npL p.name x y)=cs.take (7*ps.length)++npL p.name x y++cs.drop (0+n*7+7):=by
    unfold setSeg
    rw [show 0+n*7=7*ps.length by omega]
    rfl
   refine hK _ _ _ ⟨by rw [List.length_append];simp;omega,Or.inr ⟨gp,_,b0,rfl,Heap.put_same _ _ _, ?_,hcap, ?_, ?_⟩⟩ ?_
   ·simp only
    rw [hcs,List.length_append,List.length_append,List.length_take,List.length_drop]
    simp
    omega
   ·simp only
    rw [hcs]
    intro v hv nn
    rcases List.mem_append.1 hv with q | q
    ·rcases List.mem_append.1 q with q | q
     ·exact b6 v (List.mem_of_mem_take q) nn
     ·exact noU_np _ _ _ v q nn
    ·exact b6 v (List.mem_of_mem_drop q) nn
   ·simp only
    rw [hcs,hole_put]
    have hn7:hole h gp g6=none:=by rw [hole_ne _ hg6p];exact hg6
    have l7:=Le.new hn7 (⟨npL p.name x y,53,(0,0)⟩:Blk)
    rw [hole_put_ne _ _ hg6p]
    exact NCs.snoc (b7.mono l7) (by omega) ((w.hole b3 b6).mono l7)
   ·exact (hle.put (hle.free hg6) _).put b0 _
 ·intro hcap
  have holds : ∃ olds:List Value,RdS (h.put g6 ⟨npL p.name x y,53,(0,0)⟩) A (n*7) olds/\NCs h ps olds/\olds.length=7*ps.length/\noU olds:=by
   rcases a3 with ⟨rfl,rfl,rfl⟩ | ⟨gp,cs,b0,rfl,b3,b4,b5,b6,b7⟩
   ·have:ps=[]:=List.length_eq_zero_iff.1 a1
    subst this
    exact ⟨[],⟨rfl,fun q=>absurd q (by decide)⟩,fun i q hq=>by simp at hq,rfl,fun v hv=>by simp at hv⟩
   ·have hg6p:g6≠gp:=fun e=>by rw [e,b3] at hg6;cases hg6
    refine ⟨cs.take (7*ps.length),⟨by rw [List.length_take];omega,fun _=>⟨_,rfl,rfl,_,by rw [Heap.put_ne _ _ (fun e=>hg6p e.symm)];exact b3, ?_⟩⟩, ?_,by rw [List.length_take];omega,fun v hv=>b6 v (List.mem_of_mem_take hv)⟩
    ·simp only [List.drop_zero,List.length_take]
     congr 1
     omega
    ·intro i q hq
     obtain ⟨x', y', e,w'⟩:=b7 i q hq
     have hi:=(List.getElem?_eq_some_iff.1 hq).1
     refine ⟨x', y', ?_,w'.mono (hole_le _ _)⟩
     rw [<- e,List.drop_take,List.take_take,Nat.min_eq_left (by omega)]
  obtain ⟨olds,hrd,hes,hol,hno⟩:=holds
  refine ⟨olds,hrd,by omega, ?_⟩
  rintro g7 cap _ hg7 hcap7 rfl
  have hg76:g7≠g6:=fun e=>by rw [e,Heap.put_same] at hg7;cases hg7
  have hg7' : h g7=none:=by rw [Heap.put_ne _ _ hg76] at hg7;exact hg7
  obtain ⟨z1,z2⟩:=noU_z (cap-(n+1))
  refine hK _ _ _ ⟨by rw [List.length_append];simp;omega,Or.inr ⟨g7,_,hle.free hg7', rfl,Heap.put_same _ _ _, ?_,hcap7, ?_, ?_⟩⟩ ?_
  ·rw [List.length_append,List.length_append,hol,z2]
   simp
   omega
  ·intro v hv nn
   rcases List.mem_append.1 hv with q | q
   ·rcases List.mem_append.1 q with q | q
    ·exact hno v q nn
    ·exact noU_np _ _ _ v q nn
   ·exact z1 v q nn
  ·rw [hole_put,hole_none hg7]
   have:=NCs.snoc (rest:=repV zN (cap-(n+1))) (hes.mono l6) (by omega) (w.mono l6)
   rw [List.take_of_length_le (by omega)] at this
   exact this
  ·exact (hle.put (hle.free hg6) _).put (hle.free hg7') _
def runFr (ms:List Meas) (l:List Stp):Nat->Nat->List Nmd->Except (Int×Nat) (List Nmd)
 | 0,_,ps=> .ok ps
 | f+1,i,ps=>match l[i]? with
  | none=> .ok ps
  | some s=>match consV ms ps s with
   | .error e=> .error (e,i)
   | .ok p=>if tlV p.1||tlV p.2 then .error (5,i) else runFr ms l f (i+1) (ps++[⟨s.name,p⟩])
def runV (ms:List Meas) (l:List Stp):Except (Int×Nat) (List Nmd):=if (checkV l).1=0 then runFr ms l l.length 0 [] else .error (checkV l)
def RunR (o:Except (Int×Nat) (List Nmd)) (r:Value) (h' : Heap):Prop:=
 match o with
 | .ok ps=> ∃ A n c,r = .tuple #[.slice A n c,.int .i64 0,.int .i64 0]/\NPs h' A n c ps
 | .error (e,i)=>e≠0/\r = .tuple #[.slice none 0 0,.int .i64 e,.int .i64 (i:Int)]
theorem chkFr_all {l:List Stp} : ∀ {f i:Nat},(chkFr l f i).1=0-> ∀ j s,i<=j->j<i+f->l[j]?=some s->chkFm s=0/\chkNm (l.take j) s=0
 | 0,i,_,j,s,h1,h2,_=>by omega
 | f+1,i,h,j,s,h1,h2,hs=>by
  rw [chkFr] at h
  cases hi:l[i]? with
  | none=>
   have:=List.getElem?_eq_none_iff.1 hi
   have:=(List.getElem?_eq_some_iff.1 hs).1
   omega
  | some t=>
   rw [hi] at h
   simp only at h
   by_cases h3:chkFm t=0
   ·rw [if_pos h3] at h
    by_cases h4:chkNm (l.take i) t=0
    ·rw [if_pos h4] at h
     rcases Nat.lt_or_ge i j with q | q
     ·exact chkFr_all h j s (by omega) (by omega) hs
     ·have:i=j:=by omega
      subst this
      rw [hi] at hs
      cases hs
      exact ⟨h3,h4⟩
    ·rw [if_neg h4] at h
     exact absurd h h4
   ·rw [if_neg h3] at h
    exact absurd h h3
theorem checkV_all {l:List Stp} (h:(checkV l).1=0):l.length<=64/\ ∀ j s,l[j]?=some s->chkFm s=0/\chkNm (l.take j) s=0:=by
 unfold checkV at h
 split at h
 ·cases h
 ·exact ⟨by omega,fun j s hs=>chkFr_all h j s (by omega) (by have:=(List.getElem?_eq_some_iff.1 hs).1;omega) hs⟩
theorem chkNm_ok {l:List Stp} {s:Stp} (h:chkNm l s=0):defV l s.name=false/\ ∀ x∈s.frm,defV l x=true:=by
 unfold chkNm at h
 split at h
 ·cases h
 ·rename_i h1
  split at h
  ·rename_i h2
   exact ⟨by simpa using h1,fun x hx=>List.all_eq_true.1 h2 x hx⟩
  ·cases h
theorem pos_def {l:List Stp} {ps:List Nmd} {nm:List UInt8} (hn:ps.map (·.name)=l.map (·.name)) (h:defV l nm=true):(posV ps nm).isSome=true:=by
 unfold defV at h
 rw [List.any_eq_true] at h
 obtain ⟨s,hs,he⟩:=h
 have hm:s.name∈ps.map (·.name):=by rw [hn];exact List.mem_map_of_mem hs
 obtain ⟨p,hp,hpn⟩:=List.mem_map.1 hm
 unfold posV
 rw [Option.isSome_map,List.find?_isSome]
 exact ⟨p,hp,by rw [hpn];exact he⟩
theorem ptMeet_err {a b c d:Rat×Rat} {e:Int} (h:ptMeet a b c d = .error e):e=10:=by
 unfold ptMeet at h
 split at h
 ·cases h;rfl
 ·cases h
theorem ptFoot_err {a b c:Rat×Rat} {e:Int} (h:ptFoot a b c = .error e):e=10:=by
 unfold ptFoot at h
 split at h
 ·cases h;rfl
 ·cases h
theorem ptMirror_err {a b c:Rat×Rat} {e:Int} (h:ptMirror a b c = .error e):e=10:=by
 unfold ptMirror at h
 split at h
 ·rename_i e2 he;cases h;exact ptFoot_err he
 ·cases h
theorem consV_err {ms:List Meas} {ps:List Nmd} {s:Stp} {e:Int} (h:consV ms ps s = .error e):e≠0:=by
 unfold consV at h
 split at h
 ·rename_i e2 he;cases h;exact numsV_err he
 ·unfold placeV at h
  simp only at h
  split at h
  ·cases h
  split at h
  ·cases h
  split at h
  ·cases h
  split at h
  ·rw [ptMeet_err h];decide
  split at h
  ·rw [ptFoot_err h];decide
  ·rw [ptMirror_err h];decide
theorem drRun_c {h:Heap} {A:Option Addr} {n c:Nat} {l:List Stp} {eA:Option Addr} {en ec:Nat} {ms:List Meas} (u:StpS h A n c l) (hn:n<=1000000) (z:n<=64->SzSs l) (t:Frms h) (tb:Tab h) (env:EnvS h eA en ec ms) :
  CallsU Tryz.prog 16 [.slice A n c,.slice eA en ec] h fun r h' => RunR (runV ms l) r h' /\ Le h h' := by
 apply draft_Run_ok
 refine (drCheck_c u hn z t).mono ?_
 rintro _ h1 ⟨rfl,l1⟩
 unfold runV
 have hlen:=u.len
 refine ⟨_,_,rfl,Br.mk (fun q=> ?_) (fun q=> ?_)⟩
 ·have h0:(checkV l).1≠0:=by simpa using q
  rw [if_neg h0]
  exact ⟨⟨h0,rfl⟩,l1⟩
 have h0:(checkV l).1=0:=by simpa using q
 obtain ⟨h64,hall⟩:=checkV_all h0
 rw [if_pos h0]
 have zl:=z (by omega)
 refine ⟨fun m pA pn pc i h' => ∃ k ps,k<=l.length/\m=l.length-k/\i=(k:Int)/\NP h h' pA pn pc ps/\Le h h' /\ ps.map (·.name)=(l.take k).map (·.name)/\runFr ms l l.length 0 []=runFr ms l (l.length-k) k ps,⟨l.length,0,[],by omega,by omega,rfl,⟨rfl,Or.inl ⟨rfl,rfl,rfl⟩⟩,l1,by simp,by simp⟩, ?_⟩
 rintro m pA pn pc _ h2 ⟨k,ps,hk,rfl,rfl,np,l2,hnm,heq⟩
 have hpl:ps.length=k:=by
  have:=congrArg List.length hnm
  rw [List.length_map,List.length_map,List.length_take] at this
  omega
 have hpn:pn=k:=by rw [<- np.1];exact hpl
 refine Br.mk (fun q1=> ?_) (fun q1=> ?_)
 ·have hlt:k<l.length:=by have:=of_decide_eq_true q1;omega
  obtain ⟨s,hs⟩ : ∃ s,l[k]?=some s:=⟨_,List.getElem?_eq_getElem hlt⟩
  obtain ⟨ad,F,fc,K,kc,eAd,hld,uf,uk⟩:=(u.mono l2).get hs
  obtain ⟨hfm,hnmk⟩:=hall k s hs
  have zs:=zl s (List.mem_of_getElem? hs)
  have ek:l.length-k=(l.length-(k+1))+1:=by omega
  rw [ek,runFr,hs] at heq
  simp only at heq
  refine ⟨ad,eAd,by omega,by omega,_,_,_,_,_,_,_,_,by rw [Int.toNat_natCast];exact hld, ?_⟩
  refine (drCons_c uf uk zs hfm np.s (by omega) (fun nm hn=>pos_def hnm ((chkNm_ok hnmk).2 nm hn)) (env.mono l2)).mono ?_
  rintro _ h3 ⟨hR,l3⟩
  have l13:=l2.trans l3
  cases hc:consV ms ps s with
  | error e=>
   rw [hc] at hR heq
   have he:=consV_err hc
   have hR' : _=Value.tuple #[zP,.int .i64 e]:=hR
   subst hR'
   simp only at heq
   refine ⟨_,_,_,_,_,_,_,_,_,_,_,_,_,_,_,rfl,fun e' h' => e' = e/\h' = h3, ?_,Br.mk (fun q=>absurd (beq_iff_eq.1 q) he) (fun _=>⟨rfl,rfl⟩)⟩
   rintro _ _ ⟨rfl,rfl⟩
   refine Br.mk (fun _=> ?_) (fun q=>by rw [bne_eq_false_iff_eq] at q;exact absurd q he)
   rw [heq]
   exact ⟨⟨he,rfl⟩,l13⟩
  | ok p=>
   rw [hc] at hR heq
   obtain ⟨x,y,rfl,w⟩:=hR
   simp only at heq
   refine ⟨_,_,_,_,_,_,_,_,_,_,_,_,_,_,_,rfl,fun e' h' => e' = (if tlV p.1||tlV p.2 then 5 else 0)/\Le h3 h', ?_,Br.mk (fun _=> ?_) (fun q=>by exact absurd q (by decide))⟩
   ·rintro _ h4 ⟨rfl,l4⟩
    have l14:=l13.trans l4
    by_cases htl:(tlV p.1||tlV p.2)=true
    ·rw [if_pos htl] at heq ⊢
     refine Br.mk (fun _=> ?_) (fun q=>by exact absurd q (by decide))
     rw [heq]
     exact ⟨⟨by decide,rfl⟩,l14⟩
    ·have htl' : (tlV p.1||tlV p.2)=false:=by simpa using htl
     rw [if_neg htl] at heq ⊢
     rw [Bool.or_eq_false_iff] at htl'
     refine Br.mk (fun q=>by exact absurd q (by decide)) (fun _=> ?_)
     rintro g6 _ hg6 rfl
     have w25:PB h4 25 p x y:=⟨(w.1.mono l4).short htl'.1,(w.2.mono l4).short htl'.2⟩
     refine (np.mono (l3.trans l4)).app (p:=⟨s.name,p⟩) l14 w25 rfl hg6 (by omega) (K:=fun A' c' h' => ∀ t60:Int,t60=IntKind.i64.wrap ((k:Int)+1)-> ∃ m_1,m_1<l.length-k/\ ∃ k' ps', k' <= l.length/\m_1=l.length-k' /\ t60=(k' : Int)/\NP h h' A' (pn+1) c' ps' /\ Le h h' /\ ps'.map (·.name)=(l.take k').map (·.name)/\runFr ms l l.length 0 []=runFr ms l (l.length-k') k' ps') (fun A' c' h' np' l' => ?_)
     rintro _ rfl
     refine ⟨l.length-(k+1),by omega,k+1,ps++[⟨s.name,p⟩],by omega,rfl,wi (by omega) (by omega),np', l', ?_,heq⟩
     rw [List.map_append,hnm,List.take_add_one,hs,List.map_append]
     rfl
   ·refine (drLong_c w.1 (by omega) (tb.mono l13)).mono ?_
    rintro _ h4 ⟨rfl,l4⟩
    refine ⟨_,rfl,Br.mk (fun q=> ?_) (fun q=> ?_)⟩
    ·rw [q]
     exact ⟨rfl,l4⟩
    ·rw [q,Bool.false_or]
     refine (drLong_c (w.2.mono l4) (by omega) (tb.mono (l13.trans l4))).mono ?_
     rintro _ h5 ⟨rfl,l5⟩
     refine ⟨_,rfl,Br.mk (fun q2=> ?_) (fun q2=> ?_)⟩
     ·rw [q2];exact ⟨rfl,l4.trans l5⟩
     ·rw [q2];exact ⟨rfl,l4.trans l5⟩
 ·have hk' : k=l.length:=by have:=of_decide_eq_false q1;omega
  rw [hk', Nat.sub_self,runFr] at heq
  rw [heq]
  exact ⟨⟨_,_,_,rfl,np.s⟩,l2⟩
end Go.Proofs.YtfglcgbgaeegaaaGreatDoor

namespace Go.Proofs.YtfglcgbgaeegaaaGreatDoor
open Go Go.Vcg
def strings_Split_vc (a:ByteArray) (b:ByteArray) (h:Heap) (R:Value->Heap->Prop):Prop:=
 CallsU Tryz.prog 90 [.string a,.string b,.int .i64 0,.int .i64 (-1)] h fun f g=>
 ∃ c d e,f = .slice c d e/\
 R (.slice c d e) g
theorem strings_Split_ok {a:ByteArray} {b:ByteArray} {h:Heap} {R:Value->Heap->Prop} (hv:strings_Split_vc a b h R):CallsU Tryz.prog 47 [.string a,.string b] h R:=
 fn_ok Tryz.func47 (fun _=>false) .nil hv
def strings_genSplit_vc (a:ByteArray) (b:ByteArray) (c:Int) (n:Int) (h:Heap) (R:Value->Heap->Prop):Prop:=
 Br ((n:Int)==0)
 (R (.slice none 0 0) h)
 (Br (b.toList==(⟨#[]⟩:ByteArray).toList)
 (CallsU Tryz.prog 160 [.string a,.int .i64 n] h fun b3 b4=>
 ∃ d e f,b3 = .slice d e f/\
 R (.slice d e f) b4)
 (∃ g:Int->Heap->Prop,(∀ (a6:Int) (a7:Heap),g a6 a7->
 ∀ u:Int,u=IntKind.i64.wrap ((a.size:Int)+1)->
 0<=(if decide (u<a6) then u else a6)/\(if decide (u<a6) then u else a6)<=(if decide (u<a6) then u else a6)/\(if decide (u<a6) then u else a6)*16<=140737488355328/\(if decide (u<a6) then u else a6)<=9223372036854775807/\
 ∀ (a8:Nat) (a9:Heap),a7 a8=none->a9=Heap.put a7 a8 ⟨repV [.string ByteArray.empty] (Int.toNat (if decide (u<a6) then u else a6)),9,(0,0)⟩->
 ∀ v:Int,v=IntKind.i64.wrap ((if decide (u<a6) then u else a6)-1)->
 ∃ i:Nat->ByteArray->Int->Heap->Prop,(∃ j,i j a 0 a9)/\
 ∀ (j:Nat) (b0:ByteArray) (b1:Int) (b2:Heap),i j b0 b1 b2->
 Br (decide (b1<v))
 (CallsU Tryz.prog 162 [.string b0,.string b] b2 fun b5 b6=>
 ∃ k,b5 = .int .i64 k/\
 Br (decide (k<0))
 (∃ l:Addr,some ⟨a8,0,none⟩=some l/\0<=b1/\b1<(((Int.toNat (if decide (u<a6) then u else a6)):Nat):Int)/\
 ∃ m:Blk,b6 (Addr.block (Addr.add l (Int.toNat b1*1)))=some m/\m.fz=(0,0)/\Addr.spot (Addr.add l (Int.toNat b1*1))=none/\Addr.off (Addr.add l (Int.toNat b1*1))+1<=m.cells.length/\
 ∀ w:Heap,w=Heap.put b6 (Addr.block (Addr.add l (Int.toNat b1*1))) { m with cells:=setSeg m.cells (Addr.off (Addr.add l (Int.toNat b1*1))) [.string b0] }->
 ∀ y:Int,y=IntKind.i64.wrap (b1+1)->
 ((0:Nat):Int)<=y/\y<=(((Int.toNat (if decide (u<a6) then u else a6)):Nat):Int)/\
 R (.slice (some ⟨a8,0,none⟩) (Int.toNat y) (Int.toNat (if decide (u<a6) then u else a6))) w)
 (∀ z:Int,z=IntKind.i64.wrap (k+c)->
 ((0:Nat):Int)<=z/\z<=(b0.size:Int)/\
 ∃ o:Addr,some ⟨a8,0,none⟩=some o/\0<=b1/\b1<(((Int.toNat (if decide (u<a6) then u else a6)):Nat):Int)/\
 ∃ p:Blk,b6 (Addr.block (Addr.add o (Int.toNat b1*1)))=some p/\p.fz=(0,0)/\Addr.spot (Addr.add o (Int.toNat b1*1))=none/\Addr.off (Addr.add o (Int.toNat b1*1))+1<=p.cells.length/\
 ∀ a0:Heap,a0=Heap.put b6 (Addr.block (Addr.add o (Int.toNat b1*1))) { p with cells:=setSeg p.cells (Addr.off (Addr.add o (Int.toNat b1*1))) [.string (ByteArray.extract b0 0 (Int.toNat z))] }->
 ∀ a1:Int,a1=IntKind.i64.wrap (k+(b.size:Int))->
 ((0:Nat):Int)<=a1/\a1<=(b0.size:Int)/\
 ∀ a2:Int,a2=IntKind.i64.wrap (b1+1)->
 ∃ q,q<j/\i q (ByteArray.extract b0 (Int.toNat a1) b0.size) a2 a0))
 (∃ r:Addr,some ⟨a8,0,none⟩=some r/\0<=b1/\b1<(((Int.toNat (if decide (u<a6) then u else a6)):Nat):Int)/\
 ∃ s:Blk,b2 (Addr.block (Addr.add r (Int.toNat b1*1)))=some s/\s.fz=(0,0)/\Addr.spot (Addr.add r (Int.toNat b1*1))=none/\Addr.off (Addr.add r (Int.toNat b1*1))+1<=s.cells.length/\
 ∀ a3:Heap,a3=Heap.put b2 (Addr.block (Addr.add r (Int.toNat b1*1))) { s with cells:=setSeg s.cells (Addr.off (Addr.add r (Int.toNat b1*1))) [.string b0] }->
 ∀ a4:Int,a4=IntKind.i64.wrap (b1+1)->
 ((0:Nat):Int)<=a4/\a4<=(((Int.toNat (if decide (u<a6) then u else a6)):Nat):Int)/\
 R (.slice (some ⟨a8,0,none⟩) (Int.toNat a4) (Int.toNat (if decide (u<a6) then u else a6))) a3))/\
 Br (decide (n<0))
 (CallsU Tryz.prog 161 [.string a,.string b] h fun b7 b8=>
 ∃ t,b7 = .int .i64 t/\
 ∀ a5:Int,a5=IntKind.i64.wrap (t+1)->
 g a5 b8)
 (g n h)))
theorem strings_genSplit_ok {a:ByteArray} {b:ByteArray} {c:Int} {n:Int} {h:Heap} {R:Value->Heap->Prop} (hv:strings_genSplit_vc a b c n h R):CallsU Tryz.prog 90 [.string a,.string b,.int .i64 c,.int .i64 n] h R:=
 fn_ok Tryz.func90 (fun _=>false) (.two .nil (.two .nil (.two .nil (.cut ⟨[(3,Sh.int .i64)],[]⟩ .nil (.two .nil (.two .nil (.two .nil (.two .nil (.two (.one (.loop ⟨[(0,Sh.str),(10,Sh.int .i64)],[]⟩ .nil)) .nil))))))))) hv
def strings_Index_vc (a:ByteArray) (b:ByteArray) (h:Heap) (R:Value->Heap->Prop):Prop:=
 CallsU Tryz.prog 221 [.string a,.string b] h fun d e=>
 ∃ c,d = .int .i64 c/\
 R (.int .i64 c) e
theorem strings_Index_ok {a:ByteArray} {b:ByteArray} {h:Heap} {R:Value->Heap->Prop} (hv:strings_Index_vc a b h R):CallsU Tryz.prog 162 [.string a,.string b] h R:=
 fn_ok Tryz.func162 (fun _=>false) .nil hv
end Go.Proofs.YtfglcgbgaeegaaaGreatDoor

namespace Go.Proofs.YtfglcgbgaeegaaaGreatDoor
open Go Go.Vcg Go.RowKit Go.Sort
attribute [local irreducible] Br
def splGo (b:UInt8):Nat->List UInt8->List (List UInt8)
 | 0,l=>[l]
 | n+1,l=>l.takeWhile (· != b)::splGo b n ((l.dropWhile (· != b)).drop 1)
def splitV (b:UInt8) (l:List UInt8):List (List UInt8):=splGo b (l.count b) l
theorem splGo_len (b:UInt8) : ∀ (n:Nat) (l:List UInt8),(splGo b n l).length=n+1
 | 0,_=>rfl
 | n+1,l=>by rw [splGo,List.length_cons,splGo_len b n]
theorem count_dw {b:UInt8} {l:List UInt8} (h:b∈l):((l.dropWhile (· != b)).drop 1).count b+1=l.count b:=by
 induction l with
 | nil=>cases h
 | cons x l ih=>
  rw [List.dropWhile_cons]
  by_cases hx:x=b
  ·subst hx
   simp
  ·have:(x != b)=true:=by simpa using hx
   rw [if_pos this,List.count_cons_of_ne hx]
   exact ih ((List.mem_cons.1 h).resolve_left fun e=>hx e.symm)
theorem strIndex1_c {l:List UInt8} (b:UInt8) (h:Heap) :
  CallsU Tryz.prog 162 [sv l,sv [b]] h fun r h' => r = .int .i64 (Lib.indexByte l b)/\h=h' := by
 apply strings_Index_ok
 refine (slIndex1_c b h).mono ?_
 rintro _ _ ⟨rfl,rfl⟩
 exact ⟨_,rfl,rfl,rfl⟩
theorem strCount1_c {l:List UInt8} (b:UInt8) (h:Heap) :
  CallsU Tryz.prog 161 [sv l,sv [b]] h fun r h' => r = .int .i64 (l.count b:Int)/\h=h' :=
 callsU_same ⟨_,Tryz.func161,by kernel_rfl,by kernel_rfl⟩ fun w _=>by
  have h1:=Tryz.strings_Count_one ⟨l.toArray⟩ b w
  simpa [Lib.countByte] using h1
theorem setSeg_sv {done:List (List UInt8)} {x z:List UInt8} {rest:List (List UInt8)} {k:Nat} (hk:k=done.length):setSeg ((done++z::rest).map sv) k [sv x]=((done++[x])++rest).map sv:=by
 subst hk
 unfold setSeg
 rw [List.map_append,List.take_append_of_le_length (by simp),List.take_of_length_le (by simp)]
 simp [List.drop_append]
theorem genSplit1_c {l:List UInt8} (b:UInt8) (hl:l.length<=1000000) (h:Heap) :
  CallsU Tryz.prog 90 [sv l,sv [b],.int .i64 0,.int .i64 (-1)] h fun r h' => ∃ g,h g=none/\r = .slice (some ⟨g,0,none⟩) (splitV b l).length (splitV b l).length/\h' = h.put g ⟨(splitV b l).map sv,9,(0,0)⟩:=by
 apply strings_genSplit_ok
 unfold strings_genSplit_vc
 have hs:(⟨[b].toArray⟩:ByteArray).size=1:=rfl
 have hcl:l.count b<=l.length:=List.count_le_length
 rw [hs,bytes_toList,ba_size]
 refine Br.mk (fun q=>by exact absurd q (by decide)) (fun _=>Br.mk (fun q=>by have e:=eq_of_beq q;rw [show (⟨#[]⟩:ByteArray).toList=[] from bytes_toList []] at e;cases e) (fun _=> ?_))
 refine ⟨fun n h' => n=((l.count b+1:Nat):Int)/\h=h', ?_,Br.mk (fun _=> ?_) (fun q=>by exact absurd q (by decide))⟩
 ·rintro _ _ ⟨rfl,rfl⟩ _ rfl
  have e1:IntKind.i64.wrap ((l.length:Int)+1)=((l.length+1:Nat):Int):=wi (by omega) (by omega)
  have e2:(if decide (((l.length+1:Nat):Int)<((l.count b+1:Nat):Int))=true then ((l.length+1:Nat):Int) else ((l.count b+1:Nat):Int))=((l.count b+1:Nat):Int):=by
   rw [decide_eq_false (by omega)]
   rfl
  rw [e1,e2,Int.toNat_natCast]
  refine ⟨by omega,by omega,by omega,by omega, ?_⟩
  rintro g _ hg rfl _ rfl
  have e3:IntKind.i64.wrap (((l.count b+1:Nat):Int)-1)=((l.count b:Nat):Int):=wi (by omega) (by omega)
  rw [e3,repV_sv]
  refine ⟨fun m s i h' => ∃ k l' done,k<=l.count b/\m=l.count b-k/\i=(k:Int)/\s=⟨l'.toArray⟩/\l'.count b=l.count b-k/\l'.length<=1000000/\done.length=k/\h' = h.put g ⟨(done++List.replicate (l.count b+1-k) []).map sv,9,(0,0)⟩/\splitV b l=done++splGo b (l.count b-k) l', ⟨_,0,l,[],by omega,rfl,rfl,rfl,by omega,hl,rfl,rfl,rfl⟩, ?_⟩
  rintro m _ _ _ ⟨k,l', done,hk,rfl,rfl,rfl,hc,hl', hd,rfl,heq⟩
  have er:l.count b+1-k=(l.count b-k)+1:=by omega
  rw [er,List.replicate_succ]
  have hput : ∀ x:List UInt8,setSeg ((done++[]::List.replicate (l.count b-k) []).map sv) k [sv x]=((done++[x])++List.replicate (l.count b-k) []).map sv:=fun x=>setSeg_sv hd.symm
  have hadd:(⟨g,0,none⟩:Addr).add (Int.toNat (k:Int)*1)=⟨g,k,none⟩:=by
   rw [Int.toNat_natCast]
   rw [Nat.mul_one]
   unfold Addr.add
   simp only [Nat.zero_add]
   split
   ·rename_i h0;rw [h0]
   ·rfl
  refine Br.mk (fun q=> ?_) (fun q=> ?_)
  ·have hlt:k<l.count b:=by have:=of_decide_eq_true q;omega
   refine (strIndex1_c b _).mono ?_
   rintro _ _ ⟨rfl,rfl⟩
   have hb:b∈l' := List.count_pos_iff.1 (by omega)
   have hlt' := tw_lt hb
   rw [idx_spec,if_pos hb]
   refine ⟨_,rfl,Br.mk (fun q=>by have:=of_decide_eq_true q;omega) (fun _=> ?_)⟩
   rintro _ rfl
   have e4:IntKind.i64.wrap (((l'.takeWhile (· != b)).length:Int)+0)=(((l'.takeWhile (· != b)).length:Nat):Int):=wi (by omega) (by omega)
   have e5:IntKind.i64.wrap (((l'.takeWhile (· != b)).length:Int)+((1:Nat):Int))=(((l'.takeWhile (· != b)).length+1:Nat):Int):=wi (by omega) (by omega)
   rw [e4,ba_size]
   refine ⟨by omega,by omega,_,rfl,by omega,by omega, ?_⟩
   rw [hadd]
   refine ⟨_,Heap.put_same _ _ _,rfl,rfl,by simp;omega, ?_⟩
   rintro _ rfl _ rfl
   rw [e5]
   refine ⟨by omega,by omega, ?_⟩
   rintro _ rfl
   refine ⟨l.count b-(k+1),by omega,k+1,(l'.dropWhile (· != b)).drop 1,done++[l'.takeWhile (· != b)],by omega,rfl,wi (by omega) (by omega), ?_, ?_, ?_,by simp;omega, ?_, ?_⟩
   ·rw [Int.toNat_natCast,ba_ext,List.take_length,<- List.drop_drop,tw_drop]
   ·have:=count_dw hb
    omega
   ·rw [<- tw_drop,List.drop_drop,List.length_drop]
    omega
   ·rw [Int.toNat_natCast,ba_ext,List.drop_zero,tw_take,Heap.put_put]
    simp only
    rw [hput,show l.count b+1-(k+1)=l.count b-k by omega]
   ·rw [heq,show l.count b-k=(l.count b-(k+1))+1 by omega,splGo]
    simp
  ·have hke:k=l.count b:=by have:=of_decide_eq_false q;omega
   refine ⟨_,rfl,by omega,by omega, ?_⟩
   rw [hadd]
   refine ⟨_,Heap.put_same _ _ _,rfl,rfl,by simp;omega, ?_⟩
   rintro _ rfl _ rfl
   have e6:IntKind.i64.wrap ((k:Int)+1)=((l.count b+1:Nat):Int):=wi (by omega) (by omega)
   rw [e6]
   refine ⟨by omega,by omega,g,hg, ?_, ?_⟩
   ·rw [Int.toNat_natCast]
    unfold splitV
    rw [splGo_len]
   ·rw [Heap.put_put]
    simp only
    rw [hput,heq,hke,Nat.sub_self,splGo]
    simp
 ·refine (strCount1_c b h).mono ?_
  rintro _ _ ⟨rfl,rfl⟩
  refine ⟨_,rfl, ?_⟩
  rintro _ rfl
  exact ⟨wi (by omega) (by omega),rfl⟩
theorem split1_c {l:List UInt8} (b:UInt8) (hl:l.length<=1000000) (h:Heap) :
  CallsU Tryz.prog 47 [sv l,sv [b]] h fun r h' => ∃ g,h g=none/\r = .slice (some ⟨g,0,none⟩) (splitV b l).length (splitV b l).length/\h' = h.put g ⟨(splitV b l).map sv,9,(0,0)⟩:=by
 apply strings_Split_ok
 refine (genSplit1_c b hl h).mono ?_
 rintro _ _ ⟨g,h1,rfl,rfl⟩
 exact ⟨_,_,_,rfl,g,h1,rfl,rfl⟩
theorem callsU_own {P:Program} {f:FuncId} {args:List Value} {h:Heap} {ty n:Nat} {xs:List Value} (hc:Callable P f)
  (hw : ∀ w,Sat h w->Calls P f args.toArray w fun e w' => ∃ v', e = .returned v' /\ w'.ownsRow w.heap.size ty 1 v' n xs/\v' ≠ .slice none 0 0/\Below w.heap.size w w') :
  CallsU P f args h fun r h' => ∃ g cap cells,h g=none/\r = .slice (some ⟨g,0,none⟩) n cap/\n<=cap/\cells.take n=xs/\h' = h.put g ⟨cells,ty,(0,0)⟩:=by
 refine ⟨hc,fun w s=>(hw w s).mono fun e w' ⟨v,he,⟨hl,ho⟩,hne,b⟩=> ?_⟩
 rcases ho with ⟨e0,_⟩ | ⟨g,cap,cur,ev,hg,hcur,hcap,_,hsz,htk⟩
 ·exact absurd e0 hne
 ·have hgn:h g=none:=by
   cases q:h g with
   | none=>rfl
   | some x=>have:=(s g x q).lt;omega
  refine ⟨v,h.put g ⟨cur.toList,ty,(0,0)⟩,he,⟨g,cap,cur.toList,hgn,ev,hcap,by simpa using htk,rfl⟩,fun k x hk=> ?_,⟨b.size,b.os,b.tape,b.output,fun k hk h0=>⟨?_,b.block k hk⟩⟩⟩
  ·by_cases hkg:k=g
   ·subst hkg
    rw [Heap.put_same] at hk
    cases hk
    exact SatB.mk' (plain_fz rfl) (by simpa using hcur)
   ·rw [Heap.put_ne _ _ hkg] at hk
    have:=s k x hk
    exact this.same (b.block k this.lt)
  ·rw [Heap.put_ne _ _ (by omega)]
   exact h0
theorem cloneS_c {h:Heap} {g c ty:Nat} {pre zs rest:List (List UInt8)} (hb:h g=some ⟨(pre++zs++rest).map sv,ty,(0,0)⟩) (hsz:zs.length<=1000000) {n:Nat} (hn:n=zs.length) :
  CallsU Tryz.prog 163 [.slice (some ⟨g,pre.length,none⟩) n c] h fun r h' => ∃ g' cap,r = .slice (some ⟨g', 0,none⟩) n cap/\Sl sv h' (some ⟨g', 0,none⟩) n cap zs/\Le h h' := by
 subst hn
 have key:=callsU_own (h:=h) (P:=Tryz.prog) (f:=163) (args:=[.slice (some ⟨g,pre.length,none⟩) zs.length c]) (ty:=9) (n:=zs.length) (xs:=zs.map sv) ⟨_,Tryz.func163,by kernel_rfl,by kernel_rfl⟩ fun w s=>by
  have sg:=(s g _ hb).cells (plain_fz rfl)
  have:=Tryz.slices_Clone_string g pre.length zs.length c (zs.map fun x=>⟨x.toArray⟩) w (by simp) (by omega) (fun j hj=>by
   rw [List.length_map] at hj
   unfold World.cell?
   simp only [sg,Option.isSome_none,Bool.false_eq_true,if_false,List.getElem?_toArray]
   rw [List.getElem?_map,List.append_assoc,List.getElem?_append_right (by omega),Nat.add_sub_cancel_left,List.getElem?_append_left hj,List.getElem?_eq_getElem hj]
   simp [List.getD,hj])
  rw [show ((zs.map fun x=>(⟨x.toArray⟩:ByteArray)).take zs.length).map Value.string=zs.map sv by rw [List.take_of_length_le (by simp),List.map_map];rfl] at this
  exact this
 refine key.mono ?_
 rintro _ _ ⟨g', cap,cells,hg,rfl,hcap,htk,rfl⟩
 exact ⟨g', cap,rfl,⟨rfl,hcap,fun _=>⟨_,_,rfl,rfl,Heap.put_same _ _ _,by simpa using htk⟩⟩,Le.new hg _⟩
theorem joinO_c {h:Heap} {g c ty:Nat} {pre zs:List (List UInt8)} (sep:List UInt8) (hb:h g=some ⟨(pre++zs).map sv,ty,(0,0)⟩) {n:Nat} (hn:n=zs.length) (hc:n<=c) (hsz:n<=140737488355328) (hlen:(Lib.join zs sep).length<=140737488355328) :
  CallsU Tryz.prog 103 [.slice (some ⟨g,pre.length,none⟩) n c,sv sep] h fun r h' => r=sv (Lib.join zs sep)/\h=h' := by
 subst hn
 refine callsU_below ⟨_,Tryz.func103,by kernel_rfl,by kernel_rfl⟩ fun w s=> ?_
 have sg:=(s g _ hb).cells (plain_fz rfl)
 have hlt:g<w.heap.size:=(Array.getElem?_eq_some_iff.1 sg).1
 have e:(zs.map fun x=>(⟨x.toArray⟩:ByteArray)).map (fun x=>x.data.toList)=zs:=by
  rw [List.map_map]
  conv=>rhs;rw [<- List.map_id zs]
  apply List.map_congr_left
  intro x _
  rfl
 have:=Tryz.strings_Join g pre.length c (zs.map fun x=>⟨x.toArray⟩) ⟨sep.toArray⟩ w (fun j x hj=>by
  unfold World.cell?
  simp only [sg,Option.isSome_none,Bool.false_eq_true,if_false,List.getElem?_toArray]
  rw [List.getElem?_map] at hj ⊢
  rw [List.getElem?_append_right (by omega),Nat.add_sub_cancel_left]
  cases hz:zs[j]? with
  | none=>rw [hz] at hj;cases hj
  | some z=>
   rw [hz] at hj
   simp only [Option.map_some,Option.some.injEq] at hj ⊢
   rw [<- hj]) hlt (by simpa using hsz) (by simpa using hc) (by rw [e];exact hlen)
 rw [e,List.length_map] at this
 exact this
theorem hasPrefix_c (l p:List UInt8) (h:Heap) :
  CallsU Tryz.prog 204 [sv l,sv p] h fun r h' => r = .bool (Lib.hasPrefix l p)/\h=h' :=
 callsU_same ⟨_,Tryz.func204,by kernel_rfl,by kernel_rfl⟩ fun w _=>by simpa using Tryz.strings_HasPrefix ⟨l.toArray⟩ ⟨p.toArray⟩ w
def opN (op:Int) (c:UInt8):Int:=if c=40 then op+1 else if c=41 then op-1 else op
def commaAt (op:Int):List UInt8->Option Nat
 | []=>none
 | c::r=>if op=0/\Lib.hasPrefix (c::r) [32,44,32]=true then some 0 else (commaAt (opN op c) r).map (· + 1)
def divFV (ws:List (List UInt8)) (nums:Nat):Option (List (List UInt8)):=
 if nums=0\/ws=[] then (if nums=0/\ws=[] then some [] else none)
 else if nums=1 then some [Lib.join ws [32]]
 else (commaAt 0 (Lib.join ws [32])).map fun i=>[(Lib.join ws [32]).take i,(Lib.join ws [32]).drop (i+3)]
def DvR (o:Option (List (List UInt8))) (r:Value) (h' : Heap):Prop:=
 match o with
 | some ts=> ∃ A n c,r = .tuple #[.slice A n c,.bool true]/\Sl sv h' A n c ts
 | none=>r = .tuple #[.slice none 0 0,.bool false]
theorem drDivF_c {h:Heap} {A:Option Addr} {n c ty:Nat} {ws:List (List UInt8)} (nums:Nat) (hn:n=ws.length) (hc:n<=c) (hsz:n<=1000000) (hmem:ws≠[]-> ∃ g pre,A=some ⟨g,List.length pre,none⟩/\h g=some ⟨(pre++ws).map sv,ty,(0,0)⟩) (hlen:(Lib.join ws [32]).length<=1000000) :
  CallsU Tryz.prog 164 [.slice A n c,.int .i64 (nums:Int)] h fun r h' => DvR (divFV ws nums) r h' /\ Le h h' := by
 apply draft_divideFormulas_ok
 unfold draft_divideFormulas_vc divFV
 have hw0:ws=[]↔n=0:=by rw [hn,List.length_eq_zero_iff]
 refine ⟨fun t h' => h=h' /\ t=decide (nums=0\/ws=[]), ?_,Br.mk (fun q=> ?_) (fun q=> ?_)⟩
 ·rintro _ _ ⟨rfl,rfl⟩
  refine Br.mk (fun q=> ?_) (fun q=> ?_)
  ·have h0:=of_decide_eq_true q
   rw [if_pos h0]
   refine ⟨fun A' n' c' t h' => A' = none/\n' = 0/\c' = 0/\h=h' /\ t=decide (nums=0/\ws=[]), ?_,Br.mk (fun q=> ?_) (fun q=> ?_)⟩
   ·rintro _ _ _ _ _ ⟨rfl,rfl,rfl,rfl,rfl⟩
    by_cases h1:nums=0/\ws=[]
    ·rw [if_pos h1,decide_eq_true h1]
     exact ⟨⟨_,_,_,rfl,Sl.nil _ _ _⟩,Le.refl _⟩
    ·rw [if_neg h1,decide_eq_false h1]
     exact ⟨rfl,Le.refl _⟩
   ·have h1:nums=0:=by have:=beq_iff_eq.1 q;omega
    refine ⟨rfl,rfl,rfl,rfl, ?_⟩
    rw [Bool.eq_iff_iff,beq_iff_eq,decide_eq_true_iff,hw0]
    omega
   ·have h1:nums≠0:=fun e=>by rw [e] at q;exact absurd q (by decide)
    exact ⟨rfl,rfl,rfl,rfl,(decide_eq_false fun q=>h1 q.1).symm⟩
  ·have h0:=of_decide_eq_false q
   rw [if_neg h0]
   obtain ⟨h1,h2⟩:=not_or.1 h0
   obtain ⟨g,pre,rfl,hb⟩:=hmem h2
   refine (joinO_c [32] hb hn hc (by omega) (by omega)).mono ?_
   rintro _ _ ⟨rfl,rfl⟩
   generalize Lib.join ws [32]=t at hlen
   refine ⟨_,rfl,Br.mk (fun q=> ?_) (fun q=> ?_)⟩
   ·rw [if_pos (by have:=beq_iff_eq.1 q;omega)]
    rintro g1 _ hg1 rfl
    exact ⟨⟨_,_,_,rfl,Sl.of_blk (ys:=[t]) (Heap.put_same _ _ _) (Nat.le_refl _) (Nat.le_refl _)⟩,Le.new hg1 _⟩
   ·have h3:nums≠1:=fun e=>by rw [e] at q;exact absurd q (by decide)
    rw [if_neg h3,ba_size]
    refine ⟨fun m op i h' => ∃ k,k<=t.length/\m=t.length-k/\i=(k:Int)/\h=h' /\ (-(k:Int)<=op/\op<=k)/\commaAt 0 t=(commaAt op (t.drop k)).map (· + k),⟨_,0,by omega,rfl,rfl,rfl,by omega,by simp⟩, ?_⟩
    rintro m op _ _ ⟨k,hk,rfl,rfl,rfl,hop,heq⟩
    refine Br.mk (fun q=> ?_) (fun q=> ?_)
    ·have hlt:k<t.length:=by have:=of_decide_eq_true q;omega
     obtain ⟨x,hx⟩ : ∃ x,t[k]?=some x:=⟨_,List.getElem?_eq_getElem hlt⟩
     have hdr:t.drop k=x::t.drop (k+1):=by
      rw [List.drop_eq_getElem_cons hlt]
      rw [List.getElem?_eq_getElem hlt] at hx
      cases hx
      rfl
     have go : ∀ op', op' = opN op x-> ¬ (op=0/\Lib.hasPrefix (t.drop k) [32,44,32]=true)-> ∀ t61:Int,t61=IntKind.i64.wrap ((k:Int)+1)-> ∃ m_1,m_1<t.length-k/\ ∃ k', k' <= t.length/\m_1=t.length-k' /\ t61=(k' : Int)/\h=h/\(-(k' : Int)<=op' /\ op' <= k')/\commaAt 0 t=(commaAt op' (t.drop k')).map (· + k'):=by
      rintro op' rfl hno _ rfl
      refine ⟨t.length-(k+1),by omega,k+1,by omega,rfl,wi (by omega) (by omega),rfl, ?_, ?_⟩
      ·unfold opN
       split
       ·omega
       ·split<;>omega
      ·rw [hdr] at hno heq
       rw [heq,commaAt,if_neg hno,Option.map_map]
       congr 1
       funext i
       simp only [Function.comp]
       omega
     refine ⟨fun h' => h=h' /\ ¬ (op=0/\Lib.hasPrefix (t.drop k) [32,44,32]=true), ?_,Br.mk (fun q2=> ?_) (fun q2=> ?_)⟩
     ·rintro _ ⟨rfl,hno⟩
      refine ⟨x,by omega,by rw [Int.toNat_natCast,ba_get];exact hx,Br.mk (fun q3=> ?_) (fun q3=>Br.mk (fun q4=> ?_) (fun q4=> ?_))⟩
      ·have h40:x=40:=by have:=beq_iff_eq.1 q3;exact UInt8.toNat_inj.1 (by change x.toNat=40;omega)
       rintro _ rfl
       exact go _ (by rw [show IntKind.i64.wrap (op+1)=op+1 by rw [IntKind.wrap_i64];omega];unfold opN;rw [if_pos h40]) hno
      ·have h40:x≠40:=fun e=>by rw [e] at q3;exact absurd q3 (by decide)
       have h41:x=41:=by have:=beq_iff_eq.1 q4;exact UInt8.toNat_inj.1 (by change x.toNat=41;omega)
       rintro _ rfl
       exact go _ (by rw [show IntKind.i64.wrap (op-1)=op-1 by rw [IntKind.wrap_i64];omega];unfold opN;rw [if_neg h40,if_pos h41]) hno
      ·have h40:x≠40:=fun e=>by rw [e] at q3;exact absurd q3 (by decide)
       have h41:x≠41:=fun e=>by rw [e] at q4;exact absurd q4 (by decide)
       exact go _ (by unfold opN;rw [if_neg h40,if_neg h41]) hno
     ·have hop0:op=0:=beq_iff_eq.1 q2
      subst hop0
      rw [Int.toNat_natCast,ba_ext,List.take_length]
      refine ⟨by omega,by omega, ?_⟩
      refine (hasPrefix_c _ _ _).mono ?_
      rintro _ _ ⟨rfl,rfl⟩
      refine ⟨_,rfl,Br.mk (fun q3=> ?_) (fun q3=> ?_)⟩
      ·refine ⟨by omega,by omega, ?_⟩
       have hl3:k+3<=t.length:=by
        have h4:=(List.isPrefixOf_iff_prefix.1 q3).length_le
        rw [List.length_drop] at h4
        simp at h4
        omega
       rintro _ rfl
       rw [show IntKind.i64.wrap ((k:Int)+3)=((k+3:Nat):Int) from wi (by omega) (by omega),Int.toNat_natCast,ba_ext,ba_ext,List.take_length,List.drop_zero]
       refine ⟨by omega,by omega, ?_⟩
       rintro g1 _ hg1 rfl
       rw [hdr] at q3 heq
       rw [heq,commaAt,if_pos ⟨rfl,q3⟩]
       simp only [Option.map_some,Nat.zero_add]
       exact ⟨⟨_,_,_,rfl,Sl.of_blk (ys:=[t.take k,t.drop (k+3)]) (Heap.put_same _ _ _) (Nat.le_refl _) (Nat.le_refl _)⟩,Le.new hg1 _⟩
      ·exact ⟨rfl,fun q=>by rw [q.2] at q3;cases q3⟩
     ·exact ⟨rfl,fun q=>by rw [q.1] at q2;exact absurd q2 (by decide)⟩
    ·have hke:k=t.length:=by have:=of_decide_eq_false q;omega
     rw [heq,hke,List.drop_length,commaAt]
     exact ⟨rfl,Le.refl _⟩
 ·have h1:nums=0:=by have:=beq_iff_eq.1 q;omega
  exact ⟨rfl,(decide_eq_true (Or.inl h1)).symm⟩
 ·have h1:nums≠0:=fun e=>by rw [e] at q;exact absurd q (by decide)
  refine ⟨rfl, ?_⟩
  rw [Bool.eq_iff_iff,beq_iff_eq,decide_eq_true_iff,hw0]
  omega
def totL:List (List UInt8)->Nat
 | []=>0
 | z::zs=>z.length+1+totL zs
theorem totL_drop : ∀ (k:Nat) (zs:List (List UInt8)),totL (zs.drop k)<=totL zs
 | 0,_=>Nat.le_refl _
 | k+1,[]=>by simp
 | k+1,z::zs=>by rw [List.drop_succ_cons,totL];have:=totL_drop k zs;omega
theorem totL_mem : ∀ {zs:List (List UInt8)} {x:List UInt8},x∈zs->x.length<=totL zs
 | z::zs,x,h=>by
  rw [totL]
  rcases List.mem_cons.1 h with rfl | h
  ·omega
  ·have:=totL_mem h;omega
theorem totL_len : ∀ zs:List (List UInt8),zs.length<=totL zs
 | []=>Nat.le_refl _
 | z::zs=>by rw [totL,List.length_cons];have:=totL_len zs;omega
theorem totL_join (b:UInt8) : ∀ zs:List (List UInt8),(Lib.join zs [b]).length<=totL zs
 | []=>by simp [Lib.join_nil]
 | z::zs=>by
  have h2:(Lib.joinTail [b] zs).length<=totL zs:=by
   unfold Lib.joinTail
   induction zs with
   | nil=>simp
   | cons y r ih=>
    simp only [List.map_cons,List.flatten_cons,List.length_append,List.length_cons,List.length_nil]
    rw [totL]
    omega
  rw [Lib.join_cons,List.length_append,totL]
  omega
theorem totL_spl (b:UInt8) : ∀ (n:Nat) (l:List UInt8),totL (splGo b n l)<=l.length+n+1
 | 0,l=>by rw [splGo,totL,totL];omega
 | n+1,l=>by
  rw [splGo,totL]
  have h1:=totL_spl b n ((l.dropWhile (· != b)).drop 1)
  have h2:=congrArg List.length (List.takeWhile_append_dropWhile (p:=(· != b)) (l:=l))
  rw [List.length_append] at h2
  rw [List.length_drop] at h1
  omega
theorem totL_split (b:UInt8) (l:List UInt8):totL (splitV b l)<=2*l.length+1:=by
 have h1:=totL_spl b (l.count b) l
 have h2:l.count b<=l.length:=List.count_le_length
 unfold splitV
 omega
def kindV (w:List UInt8):Int:=if w=wdN 1 then 1 else if w=wdN 2 then 2 else if w=wdN 3 then 3 else if w=wdN 4 then 4 else if w=wdN 5 then 5 else if w=wdN 6 then 6 else 7
theorem kindV_ge (w:List UInt8):1<=kindV w:=by unfold kindV;repeat' split<;>try decide
theorem kindV_eq {w:List UInt8} {k:Int} (h:k=kindV w) (h3:k<=6):w=wdN k:=by
 subst h
 unfold kindV at h3 ⊢
 repeat' split at h3
 all_goals first | (exact absurd h3 (by decide)) | skip
 all_goals simp_all
theorem kindV_of {w:List UInt8} {k:Int} (h1:1<=k) (h3:k<=6) (h:w=wdN k):kindV w=k:=by
 subst h
 have hk:k=1\/k=2\/k=3\/k=4\/k=5\/k=6:=by omega
 rcases hk with rfl | rfl | rfl | rfl | rfl | rfl<;>decide
def linkV (lk:List UInt8) (r:List (List UInt8)):Option (List (List UInt8)):=if lk=[] then some r else match r with
 | []=>none
 | x::r' => if x=lk then some r' else none
def behindV (w0:List UInt8) (k:Int) (rest:List (List UInt8)):Option (List UInt8×Int×List (List UInt8)×List (List UInt8)):=
 if (frN k).toNat<=rest.length then
  if (rest.take (frN k).toNat).all isPointV then
   match linkV (lkN k) (rest.drop (frN k).toNat) with
   | none=>none
   | some r=>(divFV r (nuN k).toNat).map fun ts=>(w0,k,rest.take (frN k).toNat,ts)
  else none
 else none
def divWV (ws:List (List UInt8)):Option (List UInt8×Int×List (List UInt8)×List (List UInt8)):=
 match ws with
 | w0::w1::w2::rest=>if isPointV w0=true/\w1=[61] then (if kindV w2<=6 then behindV w0 (kindV w2) rest else none) else none
 | _=>none
def divLV (line:List UInt8):=divWV (splitV 32 line)
def DlR (o:Option (List UInt8×Int×List (List UInt8)×List (List UInt8))) (r:Value) (h' : Heap):Prop:=
 match o with
 | some (nm,k,fr,ts)=> ∃ F fc A n c,r = .tuple #[.agg #[sv nm,.int .i64 k,.slice F fr.length fc,.slice none 0 0],.slice A n c,.bool true]/\Sl sv h' F fr.length fc fr/\Sl sv h' A n c ts
 | none=> ∃ nm k F fn fc,r = .tuple #[.agg #[Value.string nm,.int .i64 k,.slice F fn fc,.slice none 0 0],.slice none 0 0,.bool false]
def Cur (g L:Nat) (A:Option Addr) (o:Nat):Prop:= ∃ o', A=some ⟨g,o', none⟩/\(o<L->o' = o)/\o' <= L
theorem Cur.step {g L:Nat} {A:Option Addr} {o k c:Nat} (u:Cur g L A o) (hc:c=L-o) (ho:o+k<=L):Cur g L (if c=k then A else Option.map (fun x=>Addr.add x (k*1)) A) (o+k):=by
 obtain ⟨o', rfl,h1,h2⟩:=u
 split
 ·exact ⟨o', rfl,fun q=>by omega,h2⟩
 ·have e:=h1 (by omega)
  subst e
  refine ⟨o' + k, ?_,fun _=>rfl,ho⟩
  rw [Nat.mul_one]
  simp only [Option.map_some]
  unfold Addr.add
  split
  ·rename_i h0;rw [h0];rfl
  ·rfl
theorem drDivL_c {line:List UInt8} (hl:line.length<=100000) {h:Heap} (t:Frms h) :
  CallsU Tryz.prog 91 [sv line] h fun r h' => DlR (divLV line) r h' /\ Le h h' := by
 apply draft_divideLine_ok
 unfold draft_divideLine_vc divLV
 refine (split1_c 32 (by omega) h).mono ?_
 rintro _ _ ⟨g,hg,rfl,rfl⟩
 have htot:=totL_split 32 line
 generalize splitV 32 line=ws at htot
 have l1:=Le.new hg (⟨ws.map sv,9,(0,0)⟩:Blk)
 have hb:(h.put g ⟨ws.map sv,9,(0,0)⟩) g=some ⟨ws.map sv,9,(0,0)⟩:=Heap.put_same _ _ _
 generalize h.put g ⟨ws.map sv,9,(0,0)⟩=h1 at l1 hb
 have uw:Sl sv h1 (some ⟨g,0,none⟩) ws.length ws.length ws:=by
  have:=Sl.of_blk (m:=ws.length) (k:=ws.length) hb (Nat.le_refl _) (Nat.le_refl _)
  simpa using this
 have hlen:=totL_len ws
 have bad : ∀ h' : Heap,Le h h' -> (DlR none (Value.tuple #[Value.agg #[Value.string ByteArray.empty,Value.int .i64 0,Value.slice none 0 0,Value.slice none 0 0],Value.slice none 0 0,Value.bool false]) h' /\ Le h h'):=fun h' l=>⟨⟨_,_,_,_,_,rfl⟩,l⟩
 refine ⟨_,_,_,rfl,fun b h' => h1=h' /\ (b=true->divWV ws=none)/\(b=false-> ∃ w0 w2 rest,ws=w0::[61]::w2::rest/\isPointV w0=true), ?_, ?_⟩
 ·rintro b _ ⟨rfl,hbt,hbf⟩
  refine Br.mk (fun q=> ?_) (fun q=> ?_)
  ·rw [hbt q];exact bad _ l1
  obtain ⟨w0,w2,rest,hws,hp0⟩:=hbf q
  have hwl:ws.length=rest.length+3:=by rw [hws];simp
  have edv:divWV ws=if kindV w2<=6 then behindV w0 (kindV w2) rest else none:=by
   rw [hws,divWV,if_pos ⟨hp0,rfl⟩]
  have hk1:=kindV_ge w2
  have hk7:kindV w2<=7:=by unfold kindV;repeat' split<;>try decide
  refine ⟨fun k h' => h1=h' /\ k=kindV w2, ?_, ?_⟩
  ·rintro _ _ ⟨rfl,rfl⟩
   refine Br.mk (fun q=> ?_) (fun q=> ?_)
   ·rw [edv,if_neg (by have:=of_decide_eq_true q;omega)];exact bad _ l1
   have hk6:kindV w2<=6:=by have:=of_decide_eq_false q;omega
   rw [edv,if_pos hk6]
   generalize kindV w2=k at hk1 hk6
   have hf0:0<=frN k/\frN k<=4:=by unfold frN;repeat' split<;>try decide
   have hn0:0<=nuN k/\nuN k<=2:=by unfold nuN;repeat' split<;>try decide
   refine ⟨by omega,by omega,_,_,_,_,(t.mono l1).row (by omega) hk6,by omega,by omega,Br.mk (fun q=> ?_) (fun q=> ?_)⟩
   ·have:=of_decide_eq_true q
    unfold behindV
    rw [if_neg (by omega)]
    exact bad _ l1
   have hfl:(frN k).toNat<=rest.length:=by have:=of_decide_eq_false q;omega
   refine ⟨by omega,by omega, ?_⟩
   have c0:Cur g ws.length (some ⟨g,0,none⟩) 0:=⟨0,rfl,fun _=>rfl,Nat.zero_le _⟩
   have c3:=c0.step (k:=3) (c:=ws.length) (by omega) (by omega)
   have c4:=c3.step (k:=(frN k).toNat) (c:=ws.length-3) (by omega) (by omega)
   have hdr : ∀ j,ws.drop (3+j)=rest.drop j:=fun j=>by rw [<- List.drop_drop,hws];rfl
   obtain ⟨o3,e3,h3,h3l⟩:=c3
   rw [show 0+3=3 from rfl] at h3
   have hz:(ws.drop o3).take (frN k).toNat=rest.take (frN k).toNat:=by
    by_cases h0:(frN k).toNat=0
    ·rw [h0];simp
    ·rw [h3 (by omega),show 3=3+0 from rfl,hdr];rfl
   have hb3:h1 g=some ⟨(ws.take o3++(ws.drop o3).take (frN k).toNat++(ws.drop o3).drop (frN k).toNat).map sv,9,(0,0)⟩:=by
    rw [hb,List.append_assoc,List.take_append_drop,List.take_append_drop]
   have ho3:o3=(ws.take o3).length:=by rw [List.length_take];omega
   have hzl:(frN k).toNat=((ws.drop o3).take (frN k).toNat).length:=by rw [hz,List.length_take];omega
   have kcl:=cloneS_c (c:=ws.length-3) hb3 (by omega) hzl
   rw [<- ho3] at kcl
   rw [e3]
   refine kcl.mono ?_
   rintro _ h2 ⟨g', cap,rfl,uc,l2⟩
   rw [hz] at uc
   rw [e3] at c4
   have l12:=l1.trans l2
   refine ⟨_,_,_,rfl,by omega,by omega, ?_⟩
   have hpt : ∀ x∈rest.take (frN k).toNat,x.length<=1000000:=fun x hx=>by
    have:x∈ws:=by rw [hws];simp [List.mem_of_mem_take hx]
    have:=totL_mem this
    omega
   refine ⟨fun m i a0 a1 a2 a3 a4 a5 a6 a7 h' => ∃ j,j<=(frN k).toNat/\m=(frN k).toNat-j/\i=(j:Int)/\h2=h' /\ ∀ i x,i<j->(rest.take (frN k).toNat)[i]?=some x->isPointV x=true,⟨_,0,by omega,rfl,rfl,rfl,fun i x hi=>by omega⟩, ?_⟩
   rintro m _ a0 a1 a2 a3 a4 a5 a6 a7 _ ⟨j,hj,rfl,rfl,rfl,hall⟩
   have htl:(rest.take (frN k).toNat).length=(frN k).toNat:=by rw [List.length_take];omega
   refine Br.mk (fun q=> ?_) (fun q=> ?_)
   ·have hlt:j<(frN k).toNat:=by have:=of_decide_eq_true q;omega
    obtain ⟨x,hx⟩ : ∃ x,(rest.take (frN k).toNat)[j]?=some x:=⟨_,List.getElem?_eq_getElem (by omega)⟩
    obtain ⟨ad,ea,hld⟩:=uc.get hx
    refine ⟨ad,ea,by omega,by omega,_,by rw [Int.toNat_natCast];exact hld, ?_⟩
    refine (drPoint_c x (hpt x (List.mem_of_getElem? hx)) h2).mono ?_
    rintro _ _ ⟨rfl,rfl⟩
    refine ⟨_,rfl,Br.mk (fun q2=> ?_) (fun q2=> ?_)⟩
    ·unfold behindV
     rw [if_pos hfl,if_neg]
     ·exact bad _ l12
     ·intro ha
      rw [List.all_eq_true.1 ha x (List.mem_of_getElem? hx)] at q2
      cases q2
    ·rintro _ rfl
     refine ⟨(frN k).toNat-(j+1),by omega,j+1,by omega,rfl,wi (by omega) (by omega),rfl,fun i y hi hy=> ?_⟩
     rcases Nat.lt_succ_iff_lt_or_eq.1 hi with q3 | q3
     ·exact hall i y q3 hy
     ·subst q3
      rw [hx] at hy
      cases hy
      simpa using q2
   ·have hje:j=(frN k).toNat:=by have:=of_decide_eq_false q;omega
    have hal:(rest.take (frN k).toNat).all isPointV=true:=by
     rw [List.all_eq_true]
     intro x hx
     obtain ⟨i,hi⟩:=List.getElem?_of_mem hx
     exact hall i x (by rw [hje,<- htl];exact (List.getElem?_eq_some_iff.1 hi).1) hi
    unfold behindV
    rw [if_pos hfl,if_pos hal]
    have hb2:h2 g=some ⟨ws.map sv,9,(0,0)⟩:=l2 _ _ hb
    refine ⟨fun A n c a0 a1 a2 a3 a4 a5 a6 a7 h' => h2=h' /\ ∃ r o,linkV (lkN k) (rest.drop (frN k).toNat)=some r/\ws.drop o=r/\o<=ws.length/\n=ws.length-o/\c=ws.length-o/\Cur g ws.length A o, ?_,Br.mk (fun q3=> ?_) (fun q3=> ?_)⟩
    ·rintro A n c _ _ _ _ _ _ _ _ _ ⟨rfl,r,o,er,hdo,hol,rfl,rfl,ca⟩
     rw [er]
     simp only
     have hrl:ws.length-o=r.length:=by rw [<- hdo,List.length_drop]
     have hrt:totL r<=totL ws:=by rw [<- hdo];exact totL_drop _ _
     have hjl:=totL_join 32 r
     obtain ⟨o', rfl,ho', ho'l⟩:=ca
     have key:=drDivF_c (h:=h2) (A:=some ⟨g,o', none⟩) (c:=ws.length-o) (ty:=9) (ws:=r) (nuN k).toNat hrl (Nat.le_refl _) (by omega) (fun hne=>by
      have:0<r.length:=List.length_pos_iff.2 hne
      refine ⟨g,ws.take o, ?_, ?_⟩
      ·rw [ho' (by omega),List.length_take,Nat.min_eq_left hol]
      ·rw [hb2,<- hdo,List.take_append_drop]) (by omega)
     rw [show (((nuN k).toNat:Nat):Int)=nuN k by omega] at key
     refine key.mono ?_
     rintro _ h4 ⟨hR,l4⟩
     obtain ⟨ad,ea,hld⟩:=(uw.mono (l2.trans l4)).get (i:=0) (x:=w0) (by rw [hws];rfl)
     have l14:=l12.trans l4
     cases hd:divFV r (nuN k).toNat with
     | none=>
      rw [hd] at hR
      have hR' : _=Value.tuple #[Value.slice none 0 0,Value.bool false]:=hR
      subst hR'
      exact ⟨_,_,_,_,rfl,ad,ea,by omega,by omega,_,hld,⟨_,_,_,_,_,rfl⟩,l14⟩
     | some ts=>
      rw [hd] at hR
      obtain ⟨A,n,c,rfl,us⟩:=hR
      refine ⟨_,_,_,_,rfl,ad,ea,by omega,by omega,_,hld,⟨_,_,_,_,_, ?_,uc.mono l4 |> fun u=>by rw [htl];exact u,us⟩,l14⟩
      rw [htl]
    ·rw [bytes_toList,show (⟨#[]⟩:ByteArray).toList=[] from bytes_toList []] at q3
     have hlk:lkN k≠[]:=fun e=>by rw [e] at q3;exact absurd q3 (by decide)
     refine Br.mk (fun q4=> ?_) (fun q4=> ?_)
     ·have:rest.drop (frN k).toNat=[]:=List.drop_of_length_le (by have:=beq_iff_eq.1 q4;omega)
      rw [this,linkV,if_neg hlk]
      exact bad _ l12
     ·have hne:(frN k).toNat<rest.length:=by
       rcases Nat.lt_or_ge (frN k).toNat rest.length with q | q
       ·exact q
       ·have:((ws.length-3-(frN k).toNat:Nat):Int)=0:=by omega
        rw [this] at q4
        exact absurd q4 (by decide)
      obtain ⟨o4,e4,h4,h4l⟩:=c4
      have e4' := h4 (by omega)
      rw [show 0+3=3 from rfl] at e4'
      obtain ⟨x,hx⟩ : ∃ x,rest[(frN k).toNat]?=some x:=⟨_,List.getElem?_eq_getElem hne⟩
      have hrd:rest.drop (frN k).toNat=x::rest.drop ((frN k).toNat+1):=by
       rw [List.drop_eq_getElem_cons hne]
       rw [List.getElem?_eq_getElem hne] at hx
       cases hx
       rfl
      have hld:LdN h2 (Addr.add ⟨g,o4,none⟩ (0*1)) [sv x]:=by
       refine ld_of rfl hb2 ?_
       simp only
       rw [e4', List.getElem?_map,Nat.zero_mul,Nat.add_zero,hws]
       rw [show 3+(frN k).toNat=(frN k).toNat+1+1+1 by omega]
       simp [hx]
      refine ⟨_,e4,by omega,by omega,_,hld, ?_⟩
      rw [bytes_toList,bytes_toList]
      refine Br.mk (fun q5=> ?_) (fun q5=> ?_)
      ·rw [hrd,linkV,if_neg hlk]
       simp only
       rw [if_neg (fun e=>by rw [e] at q5;simp at q5)]
       exact bad _ l12
      ·have hxe:x=lkN k:=by simpa using q5
       refine ⟨by omega,by omega,rfl,rest.drop ((frN k).toNat+1),3+((frN k).toNat+1), ?_,hdr _,by omega,by omega,by omega, ?_⟩
       ·rw [hrd,linkV,if_neg hlk,if_pos hxe]
       ·have c5:=(show Cur g ws.length _ (0+3+(frN k).toNat) from ⟨o4,e4,h4,h4l⟩).step (k:=1) (c:=ws.length-3-(frN k).toNat) (by omega) (by omega)
        exact c5
    ·rw [bytes_toList,show (⟨#[]⟩:ByteArray).toList=[] from bytes_toList []] at q3
     have hlk:lkN k=[]:=by simpa using q3
     refine ⟨rfl,rest.drop (frN k).toNat,3+(frN k).toNat,by rw [linkV.eq_def,if_pos hlk],hdr _,by omega,by omega,by omega,c4⟩
  ·refine ⟨fun m k h' => h1=h' /\ m=(7-k).toNat/\1<=k/\k<=kindV w2,⟨_,rfl,rfl,by omega,hk1⟩, ?_⟩
   rintro m k _ ⟨rfl,rfl,h2,h3⟩
   refine Br.mk (fun q=> ?_) (fun q=> ?_)
   ·have hk6:k<=6:=of_decide_eq_true q
    obtain ⟨ad,ea,hld⟩:=uw.get (i:=2) (x:=w2) (by rw [hws];rfl)
    refine ⟨by omega,by omega,_,LdN.cell ((t.mono l1).row (by omega) hk6) (i:=0) rfl,ad,ea,by omega,by omega,_,hld, ?_⟩
    rw [bytes_toList,bytes_toList]
    refine Br.mk (fun q2=> ?_) (fun q2=> ?_)
    ·rintro _ rfl
     rw [show IntKind.i64.wrap (k+1)=k+1 by rw [IntKind.wrap_i64];omega]
     refine ⟨(7-(k+1)).toNat,by omega,rfl,rfl,by omega, ?_⟩
     rcases Int.lt_or_le k (kindV w2) with q3 | q3
     ·omega
     ·have:=kindV_eq (w:=w2) (k:=k) (by omega) hk6
      rw [this] at q2
      simp at q2
    ·exact ⟨rfl,(kindV_of h2 hk6 (by have:wdN k=w2:=(by simpa using q2);exact this.symm)).symm⟩
   ·exact ⟨rfl,by have:=of_decide_eq_false q;omega⟩
 ·refine Br.mk (fun q=> ?_) (fun q=> ?_)
  ·have hlt:ws.length<3:=by have:=of_decide_eq_true q;omega
   refine ⟨rfl,fun _=> ?_,fun e=>by cases e⟩
   match ws,hlt with
   | [],_=>rfl
   | [_],_=>rfl
   | [_,_],_=>rfl
  ·have hge:3<=ws.length:=by have:=of_decide_eq_false q;omega
   obtain ⟨w0,w1,w2,rest,hws⟩ : ∃ w0 w1 w2 rest,ws=w0::w1::w2::rest:=by
    match ws,hge with
    | w0::w1::w2::rest,_=>exact ⟨_,_,_,_,rfl⟩
   obtain ⟨ad,ea,hld⟩:=uw.get (i:=0) (x:=w0) (by rw [hws];rfl)
   obtain ⟨ad1,ea1,hld1⟩:=uw.get (i:=1) (x:=w1) (by rw [hws];rfl)
   refine ⟨ad,ea,by omega,by omega,_,hld, ?_⟩
   have hw0:w0.length<=1000000:=by have:=totL_mem (zs:=ws) (x:=w0) (by rw [hws];simp);omega
   refine (drPoint_c w0 hw0 h1).mono ?_
   rintro _ _ ⟨rfl,rfl⟩
   refine ⟨_,rfl,Br.mk (fun q2=> ?_) (fun q2=> ?_)⟩
   ·refine ⟨rfl,fun _=> ?_,fun e=>by cases e⟩
    rw [hws,divWV,if_neg (fun e=>by rw [e.1] at q2;cases q2)]
   ·have hp:isPointV w0=true:=by simpa using q2
    refine ⟨ad1,ea1,by omega,by omega,_,hld1,rfl,fun e=> ?_,fun e=> ?_⟩
    ·rw [bytes_toList,show (⟨#[61]⟩:ByteArray).toList=[61] from bytes_toList [61]] at e
     rw [hws,divWV,if_neg (fun q=>by rw [q.2] at e;simp at e)]
    ·rw [bytes_toList,show (⟨#[61]⟩:ByteArray).toList=[61] from bytes_toList [61]] at e
     have:w1=[61]:=by simpa using e
     exact ⟨w0,w2,rest,by rw [hws,this],hp⟩
def KN (h0 h:Heap) (A:Option Addr) (n c:Nat) (es:List Ex):Prop:=
 es.length=n/\SzsL es/\((A=none/\n=0/\c=0)\/ ∃ gk cs,h0 gk=none/\A=some ⟨gk,0,none⟩/\h gk=some ⟨cs,39,(0,0)⟩/\cs.length=6*c/\n<=c/\IsEs (hole h gk) es cs)
theorem KN.k {h0 h:Heap} {A:Option Addr} {n c:Nat} {es:List Ex} (u:KN h0 h A n c es):IsK h A n c es:=by
 obtain ⟨a,_,b⟩:=u
 refine ⟨a.symm, ?_,fun hn=> ?_⟩
 ·rcases b with ⟨_,e,e2⟩ | ⟨gp,cs,b1,b2,b3,b4,b5,b6⟩
  ·omega
  ·omega
 ·rcases b with ⟨_,e,_⟩ | ⟨gp,cs,b1,b2,b3,b4,b5,b6⟩
  ·exact absurd (List.length_eq_zero_iff.1 (by omega)) hn
  ·exact ⟨_,_,b2,rfl,b3,by simp only;omega,by simpa using IsEs.mono (hole_le _ _) _ _ b6⟩
theorem knParse_c (s:List UInt8) {h0 h:Heap} {A:Option Addr} {n c:Nat} {es:List Ex} (u:KN h0 h A n c es) :
  CallsU Tryz.prog 92 [sv s] h fun v h' => Le h h' /\ match foParseV s with
   | .error e=>e≠0/\v = .tuple #[.agg zE.toArray,.int .i64 e]
   | .ok x=> ∃ vs:List Value,v = .tuple #[.agg vs.toArray,.int .i64 0]/\IsE (cutA h' A) x vs/\Szs x/\chkV x 1=0/\KN h0 h' A n c es:=by
 obtain ⟨a1,a2,a3⟩:=u
 rcases a3 with ⟨rfl,rfl,rfl⟩ | ⟨gk,cs,b1,rfl,b3,b4,b5,b6⟩
 ·refine (foParseW_c s h).mono ?_
  rintro v h' ⟨l,hm⟩
  refine ⟨l, ?_⟩
  cases ho:foParseV s with
  | error e=>rw [ho] at hm;exact hm
  | ok x=>
   rw [ho] at hm
   obtain ⟨vs,hv,ux,zx,hc⟩:=hm
   exact ⟨vs,hv,ux,zx,hc,a1,a2,Or.inl ⟨rfl,rfl,rfl⟩⟩
 ·have fr:=(foParseW_c s (hole h gk)).frame (g:=gk) (b:=⟨cs,39,(0,0)⟩) (hole_at h gk)
  rw [put_hole b3] at fr
  refine fr.mono ?_
  rintro v _ ⟨h1,⟨hle,hm⟩,h1k,rfl⟩
  have hcut:hole (h1.put gk ⟨cs,39,(0,0)⟩) gk=h1:=by rw [hole_put,hole_none h1k]
  refine ⟨?_, ?_⟩
  ·intro j b hj
   by_cases e:j=gk
   ·subst e
    rw [b3] at hj
    cases hj
    rw [Heap.put_same]
   ·rw [Heap.put_ne _ _ e]
    apply hle
    rw [hole_ne _ e];exact hj
  ·cases ho:foParseV s with
   | error e=>rw [ho] at hm;exact hm
   | ok x=>
    rw [ho] at hm
    obtain ⟨vs,hv,ux,zx,hc⟩:=hm
    refine ⟨vs,hv, ?_,zx,hc,a1,a2,Or.inr ⟨gk,cs,b1,rfl,Heap.put_same _ _ _,b4,b5, ?_⟩⟩
    ·show IsE (hole (h1.put gk _) gk) x vs
     rw [hcut];exact ux
    ·rw [hcut]
     exact IsEs.mono hle _ _ b6
theorem KN.app {h0 h:Heap} {A:Option Addr} {n c:Nat} {es:List Ex} (u:KN h0 h A n c es) (hle:Le h0 h) {x:Ex} {vs:List Value} (w:IsE (cutA h A) x vs) (zx:Szs x) {g6:Nat} (hg6:h g6=none) (hn:n<=1000000) {K:Option Addr->Nat->Heap->Prop}
  (hK : ∀ A' c' h', KN h0 h' A' (n+1) c' (es++[x])->Le h0 h' -> K A' c' h') :
  ∃ xs:List Value,RdS (h.put g6 ⟨vs,39,(0,0)⟩) (some ⟨g6,0,none⟩) (1*6) xs/\(∀ y∈xs,Go.Vcg.one y=true)/\
   (n+1<=c-> ∃ (ad:Addr) (b:Blk),A=some ad/\ad.spot=none/\(h.put g6 ⟨vs,39,(0,0)⟩) ad.block=some b/\b.fz=(0,0)/\ad.off+n*6+1*6<=b.cells.length/\
    ∀ h' : Heap,h' = Heap.put (h.put g6 ⟨vs,39,(0,0)⟩) ad.block { b with cells:=setSeg b.cells (ad.off+n*6) xs }->K A c h')/\
   (c<n+1-> ∃ olds:List Value,RdS (h.put g6 ⟨vs,39,(0,0)⟩) A (n*6) olds/\(n+1)*104<=140737488355328/\
    ∀ (g1 cap:Nat) (h' : Heap),(h.put g6 ⟨vs,39,(0,0)⟩) g1=none->n+1<=cap->h' = Heap.put (h.put g6 ⟨vs,39,(0,0)⟩) g1 ⟨olds++xs++repV zE (cap-(n+1)),39,(0,0)⟩->K (some ⟨g1,0,none⟩) cap h'):=by
 obtain ⟨a1,a2,a3⟩:=u
 have l6:=Le.new hg6 (⟨vs,39,(0,0)⟩:Blk)
 have hvl:=w.len
 obtain ⟨s3,A3,c3,B3,d3,K3,kc3,hvs,_,_,_⟩:=w.open
 refine ⟨vs,⟨hvl,fun _=>⟨_,rfl,rfl,_,Heap.put_same _ _ _,by simp only [List.drop_zero];rw [List.take_of_length_le (by omega)]⟩⟩, ?_, ?_, ?_⟩
 ·intro v hv
  rw [hvs] at hv
  simp only [cellsE,List.mem_cons,List.not_mem_nil,or_false] at hv
  rcases hv with rfl | rfl | rfl | rfl | rfl | rfl<;>rfl
 ·intro hcap
  rcases a3 with ⟨_,_,rfl⟩ | ⟨gp,cs,b0,rfl,b3,b4,b5,b7⟩
  ·omega
  ·have hg6p:g6≠gp:=fun e=>by rw [e,b3] at hg6;cases hg6
   refine ⟨_,_,rfl,rfl,by rw [Heap.put_ne _ _ (fun e=>hg6p e.symm)];exact b3,rfl,by simp only;omega, ?_⟩
   rintro _ rfl
   have hcs:setSeg cs (0+n*6) vs=cs.take (6*es.length)++vs++cs.drop (0+n*6+vs.length):=by
    unfold setSeg
    rw [show 0+n*6=6*es.length by omega]
   refine hK _ _ _ ⟨by rw [List.length_append];simp;omega,SzsL.snoc a2 zx,Or.inr ⟨gp,_,b0,rfl,Heap.put_same _ _ _, ?_,hcap, ?_⟩⟩ ?_
   ·simp only
    rw [hcs,List.length_append,List.length_append,List.length_take,List.length_drop]
    omega
   ·simp only
    rw [hcs,hole_put]
    have hn7:hole h gp g6=none:=by rw [hole_ne _ hg6p];exact hg6
    have l7:=Le.new hn7 (⟨vs,39,(0,0)⟩:Blk)
    rw [hole_put_ne _ _ hg6p]
    exact IsEs.snoc (IsEs.mono l7 _ _ b7) (by omega) (IsE.mono l7 _ _ w)
   ·exact (hle.put (hle.free hg6) _).put b0 _
 ·intro hcap
  have holds : ∃ olds:List Value,RdS (h.put g6 ⟨vs,39,(0,0)⟩) A (n*6) olds/\IsEs h es olds/\olds.length=6*es.length:=by
   rcases a3 with ⟨rfl,rfl,rfl⟩ | ⟨gp,cs,b0,rfl,b3,b4,b5,b7⟩
   ·have:es=[]:=List.length_eq_zero_iff.1 a1
    subst this
    exact ⟨[],⟨rfl,fun q=>absurd q (by decide)⟩,by unfold IsEs;trivial,rfl⟩
   ·have hg6p:g6≠gp:=fun e=>by rw [e,b3] at hg6;cases hg6
    refine ⟨cs.take (6*es.length),⟨by rw [List.length_take];omega,fun _=>⟨_,rfl,rfl,_,by rw [Heap.put_ne _ _ (fun e=>hg6p e.symm)];exact b3, ?_⟩⟩,IsEs.take (IsEs.mono (hole_le _ _) _ _ b7),by rw [List.length_take];omega⟩
    simp only [List.drop_zero,List.length_take]
    congr 1
    omega
  obtain ⟨olds,hrd,hes,hol⟩:=holds
  refine ⟨olds,hrd,by omega, ?_⟩
  rintro g7 cap _ hg7 hcap7 rfl
  have hg76:g7≠g6:=fun e=>by rw [e,Heap.put_same] at hg7;cases hg7
  have hg7' : h g7=none:=by rw [Heap.put_ne _ _ hg76] at hg7;exact hg7
  refine hK _ _ _ ⟨by rw [List.length_append];simp;omega,SzsL.snoc a2 zx,Or.inr ⟨g7,_,hle.free hg7', rfl,Heap.put_same _ _ _, ?_,hcap7, ?_⟩⟩ ?_
  ·rw [List.length_append,List.length_append,hol,repV_six]
   omega
  ·rw [hole_put,hole_none hg7]
   have:=IsEs.snoc (rest:=repV zE (cap-(n+1))) (IsEs.mono l6 _ _ hes) (by omega) (IsE.mono l6 _ _ (IsE.mono (cutA_le _ _) _ _ w))
   rw [List.take_of_length_le (by omega)] at this
   exact this
  ·exact (hle.put (hle.free hg6) _).put (hle.free hg7') _
def numsP:List (List UInt8)->Except Int (List Ex)
 | []=> .ok []
 | t::ts=>match foParseV t with
  | .error e=> .error e
  | .ok x=>match numsP ts with
   | .error e=> .error e
   | .ok xs=> .ok (x::xs)
def numsQ (es:List Ex) (ts:List (List UInt8)):Except Int (List Ex):=match numsP ts with
 | .error e=> .error e
 | .ok xs=> .ok (es++xs)
theorem numsQ_nil (ts:List (List UInt8)):numsQ [] ts=numsP ts:=by unfold numsQ;cases numsP ts<;>rfl
def parseLV (line:List UInt8):Except Int Stp:=match divLV line with
 | none=> .error 2
 | some (nm,k,fr,ts)=>match numsP ts with
  | .error e=> .error e
  | .ok xs=> .ok ⟨nm,k,fr,xs⟩
abbrev zS:List Value:=[.string ByteArray.empty,.int .i64 0,.slice none 0 0,.slice none 0 0]
def PlR (o:Except Int Stp) (r:Value) (h' : Heap):Prop:=match o with
 | .error e=>e≠0/\r = .tuple #[.agg zS.toArray,.int .i64 e]
 | .ok s=> ∃ vs:List Value,r = .tuple #[.agg vs.toArray,.int .i64 0]/\IsS h' s vs/\SzsL s.nums/\ ∀ x∈s.nums,chkV x 1=0
theorem divFV_len {ws ts:List (List UInt8)} {n:Nat} (h:divFV ws n=some ts):ts.length<=2:=by
 unfold divFV at h
 split at h
 ·split at h
  ·cases h;simp
  ·cases h
 ·split at h
  ·cases h;simp
  ·rw [Option.map_eq_some_iff] at h
   obtain ⟨i,_,rfl⟩:=h
   simp
theorem divLV_len {line nm:List UInt8} {k:Int} {fr ts:List (List UInt8)} (h:divLV line=some (nm,k,fr,ts)):ts.length<=2:=by
 unfold divLV divWV at h
 split at h
 ·split at h
  ·split at h
   ·unfold behindV at h
    split at h
    ·split at h
     ·split at h
      ·cases h
      ·rw [Option.map_eq_some_iff] at h
       obtain ⟨ts', h1,h2⟩:=h
       cases h2
       exact divFV_len h1
     ·cases h
    ·cases h
   ·cases h
  ·cases h
 ·cases h
theorem drParseL_c {line:List UInt8} (hl:line.length<=100000) {h:Heap} (t:Frms h) :
  CallsU Tryz.prog 48 [sv line] h fun r h' => PlR (parseLV line) r h' /\ Le h h' := by
 apply draft_parseLine_ok
 unfold draft_parseLine_vc
 refine (drDivL_c hl t).mono ?_
 rintro _ h1 ⟨hR,l1⟩
 unfold parseLV
 cases hd:divLV line with
 | none=>
  rw [hd] at hR
  obtain ⟨nm,k,F,fn,fc,rfl⟩:=hR
  exact ⟨_,_,_,_,_,_,_,_,_,_,_,_,rfl,Br.mk (fun _=>⟨⟨by decide,rfl⟩,l1⟩) (fun q=>by exact absurd q (by decide))⟩
 | some p=>
  obtain ⟨nm,k,fr,ts⟩:=p
  have hts:=divLV_len hd
  rw [hd] at hR
  obtain ⟨F,fc,A,n,c,rfl,uf,ut⟩:=hR
  have htn:=ut.len
  simp only
  refine ⟨_,_,_,_,_,_,_,_,_,_,_,_,rfl,Br.mk (fun q=>by exact absurd q (by decide)) (fun _=> ?_)⟩
  refine ⟨fun m i _ _ _ _ _ _ _ _ s0 s1 F' fn' fc' K kn kc h' => ∃ j es,j<=ts.length/\m=ts.length-j/\i=(j:Int)/\s0=⟨nm.toArray⟩/\k=s1/\F=F' /\ fr.length=fn' /\ fc=fc' /\ KN h1 h' K kn kc es/\kn=j/\Le h1 h' /\ numsQ es (ts.drop j)=numsP ts/\ ∀ x∈es,chkV x 1=0,⟨_,0,[],by omega,rfl,rfl,rfl,rfl,rfl,rfl,rfl,⟨rfl,by unfold SzsL;trivial,Or.inl ⟨rfl,rfl,rfl⟩⟩,rfl,Le.refl _,numsQ_nil _,by simp⟩, ?_⟩
  rintro m _ a0 a1 a2 a3 a4 a5 a6 a7 _ _ _ _ _ K kn kc h2 ⟨j,es,hj,rfl,rfl,rfl,rfl,rfl,rfl,rfl,kn0,hkn,l2,heq,hck⟩
  refine Br.mk (fun q=> ?_) (fun q=> ?_)
  ·have hlt:j<ts.length:=by have:=of_decide_eq_true q;omega
   obtain ⟨x,hx⟩ : ∃ x,ts[j]?=some x:=⟨_,List.getElem?_eq_getElem hlt⟩
   have hdr:ts.drop j=x::ts.drop (j+1):=by
    rw [List.drop_eq_getElem_cons hlt]
    rw [List.getElem?_eq_getElem hlt] at hx
    cases hx
    rfl
   obtain ⟨ad,ea,hld⟩:=(ut.mono l2).get hx
   rw [hdr] at heq
   unfold numsQ at heq
   rw [numsP] at heq
   refine ⟨ad,ea,by omega,by omega,_,by rw [Int.toNat_natCast];exact hld, ?_⟩
   refine (knParse_c x kn0).mono ?_
   rintro _ h3 ⟨l3,hm⟩
   cases ho:foParseV x with
   | error e=>
    rw [ho] at hm heq
    obtain ⟨he,rfl⟩:=hm
    refine ⟨_,_,_,_,_,_,_,_,_,_,_,_,_,rfl,Br.mk (fun _=> ?_) (fun q=>by rw [bne_eq_false_iff_eq] at q;exact absurd q he)⟩
    simp only at heq
    rw [<- heq]
    exact ⟨⟨he,rfl⟩,(l1.trans l2).trans l3⟩
   | ok y=>
    rw [ho] at hm heq
    obtain ⟨vs,rfl,ux,zx,hc,kn3⟩:=hm
    obtain ⟨s3,A3,c3,B3,d3,K3,kc3,hvs,_,_,_⟩:=ux.open
    subst hvs
    refine ⟨_,_,_,_,_,_,_,_,_,_,_,_,_,rfl,Br.mk (fun q=>by exact absurd q (by decide)) (fun _=> ?_)⟩
    rintro g6 _ hg6 rfl
    refine kn3.app (l2.trans l3) ux zx hg6 (by omega) (K:=fun A' c' h' => ∀ t41:Int,t41=IntKind.i64.wrap ((j:Int)+1)-> ∃ m_1,m_1<ts.length-j/\ ∃ j' es', j' <= ts.length/\m_1=ts.length-j' /\ t41=(j' : Int)/\(⟨nm.toArray⟩:ByteArray)=⟨nm.toArray⟩/\k=k/\F=F/\fr.length=fr.length/\fc=fc/\KN h1 h' A' (kn+1) c' es' /\ kn+1=j' /\ Le h1 h' /\ numsQ es' (ts.drop j')=numsP ts/\ ∀ x∈es', chkV x 1=0) (fun A' c' h' kn' l' => ?_)
    rintro _ rfl
    refine ⟨ts.length-(j+1),by omega,j+1,es++[y],by omega,rfl,wi (by omega) (by omega),rfl,rfl,rfl,rfl,rfl,kn', by omega,l', ?_, ?_⟩
    ·rw [<- heq]
     unfold numsQ
     cases numsP (ts.drop (j+1)) with
     | error e=>rfl
     | ok xs=>simp
    ·intro z hz
     rcases List.mem_append.1 hz with q2 | q2
     ·exact hck z q2
     ·simp at q2;rw [q2];exact hc
  ·have hje:j=ts.length:=by have:=of_decide_eq_false q;omega
   rw [hje,List.drop_length] at heq
   unfold numsQ at heq
   rw [numsP] at heq
   simp only [List.append_nil] at heq
   rw [<- heq]
   refine ⟨⟨[sv nm,.int .i64 k,.slice F fr.length fc,.slice K kn kc],rfl,⟨F,fc,K,kc, ?_,uf.mono l2, ?_⟩,kn0.2.1,hck⟩,l1.trans l2⟩
   ·simp only;rw [kn0.1]
   ·simp only;rw [kn0.1];exact kn0.k
def SN (h0 h:Heap) (A:Option Addr) (n c:Nat) (ss:List Stp):Prop:=
 ss.length=n/\((A=none/\n=0/\c=0)\/ ∃ gs cs,h0 gs=none/\A=some ⟨gs,0,none⟩/\h gs=some ⟨cs,42,(0,0)⟩/\cs.length=4*c/\n<=c/\ ∀ i s,ss[i]?=some s->IsS (hole h gs) s ((cs.drop (i*4)).take 4))
theorem SN.s {h0 h:Heap} {A:Option Addr} {n c:Nat} {ss:List Stp} (u:SN h0 h A n c ss):StpS h A n c ss:=by
 obtain ⟨a,b⟩:=u
 refine ⟨a.symm, ?_,fun hn=> ?_⟩
 ·rcases b with ⟨_,e,e2⟩ | ⟨gp,cs,b1,b2,b3,b4,b5,b6⟩
  ·omega
  ·exact b5
 ·rcases b with ⟨_,e,_⟩ | ⟨gp,cs,b1,b2,b3,b4,b5,b6⟩
  ·exact absurd (List.length_eq_zero_iff.1 (by omega)) hn
  ·exact ⟨_,_,b2,rfl,b3,fun i s hs=>by simpa using (b6 i s hs).mono (hole_le _ _)⟩
theorem snParse_c {line:List UInt8} (hl:line.length<=100000) {h0 h:Heap} {A:Option Addr} {n c:Nat} {ss:List Stp} (u:SN h0 h A n c ss) (t:Frms h0) (l0:Le h0 h) :
  CallsU Tryz.prog 48 [sv line] h fun v h' => PlR (parseLV line) v (cutA h' A)/\Le h h' /\ SN h0 h' A n c ss:=by
 obtain ⟨a1,a3⟩:=u
 rcases a3 with ⟨rfl,rfl,rfl⟩ | ⟨gk,cs,b1,rfl,b3,b4,b5,b6⟩
 ·refine (drParseL_c hl (t.mono l0)).mono ?_
  rintro v h' ⟨hm,l⟩
  exact ⟨hm,l,a1,Or.inl ⟨rfl,rfl,rfl⟩⟩
 ·have th:Frms (hole h gk):=by
   obtain ⟨b,hb,hc⟩:=t
   refine ⟨b, ?_,hc⟩
   rw [hole_ne _ (fun e=>by rw [e,b1] at hb;cases hb)]
   exact l0 _ _ hb
  have fr:=(drParseL_c hl th).frame (g:=gk) (b:=⟨cs,42,(0,0)⟩) (hole_at h gk)
  rw [put_hole b3] at fr
  refine fr.mono ?_
  rintro v _ ⟨h1,⟨hm,hle⟩,h1k,rfl⟩
  have hcut:hole (h1.put gk ⟨cs,42,(0,0)⟩) gk=h1:=by rw [hole_put,hole_none h1k]
  refine ⟨?_, ?_,a1,Or.inr ⟨gk,cs,b1,rfl,Heap.put_same _ _ _,b4,b5, ?_⟩⟩
  ·show PlR _ _ (hole (h1.put gk _) gk)
   rw [hcut];exact hm
  ·intro j b hj
   by_cases e:j=gk
   ·subst e
    rw [b3] at hj
    cases hj
    rw [Heap.put_same]
   ·rw [Heap.put_ne _ _ e]
    apply hle
    rw [hole_ne _ e];exact hj
  ·rw [hcut]
   exact fun i s hs=>(b6 i s hs).mono hle
theorem IsS.len {h:Heap} {s:Stp} {vs:List Value} (u:IsS h s vs):vs.length=4:=by
 obtain ⟨_,_,_,_,rfl,_⟩:=u
 rfl
theorem snS {h:Heap} {ss:List Stp} {cs vs rest:List Value} {x:Stp} (u : ∀ i s,ss[i]?=some s->IsS h s ((cs.drop (i*4)).take 4)) (hl:4*ss.length<=cs.length) (w:IsS h x vs) :
  ∀ i s,(ss++[x])[i]?=some s->IsS h s (((cs.take (4*ss.length)++vs++rest).drop (i*4)).take 4):=by
 intro i q hq
 have htl:(cs.take (4*ss.length)).length=4*ss.length:=by rw [List.length_take];omega
 have hv:=w.len
 rcases Nat.lt_or_ge i ss.length with hi | hi
 ·rw [List.getElem?_append_left hi] at hq
  have:=u i q hq
  rw [List.append_assoc,List.drop_append_of_le_length (by omega),List.take_append_of_le_length (by rw [List.length_drop];omega),List.drop_take,List.take_take,Nat.min_eq_left (by omega)]
  exact this
 ·have hi' : i=ss.length:=by
   have:=(List.getElem?_eq_some_iff.1 hq).1
   simp at this
   omega
  subst hi'
  rw [List.getElem?_append_right (Nat.le_refl _),Nat.sub_self] at hq
  simp at hq
  subst hq
  rw [List.append_assoc,List.drop_append_of_le_length (by omega),List.drop_of_length_le (by omega),List.nil_append,List.take_append_of_le_length (by omega),List.take_of_length_le (by omega)]
  exact w
theorem repV_four (k:Nat):(repV zS k).length=4*k:=by
 induction k with
 | zero=>rfl
 | succ k ih=>rw [repV,List.length_append,ih];simp;omega
theorem SN.app {h0 h:Heap} {A:Option Addr} {n c:Nat} {ss:List Stp} (u:SN h0 h A n c ss) (hle:Le h0 h) {x:Stp} {vs:List Value} (w:IsS (cutA h A) x vs) {g6:Nat} (hg6:h g6=none) (hn:n<=1000000) {K:Option Addr->Nat->Heap->Prop}
  (hK : ∀ A' c' h', SN h0 h' A' (n+1) c' (ss++[x])->Le h0 h' -> K A' c' h') :
  ∃ xs:List Value,RdS (h.put g6 ⟨vs,42,(0,0)⟩) (some ⟨g6,0,none⟩) (1*4) xs/\(∀ y∈xs,Go.Vcg.one y=true)/\
   (n+1<=c-> ∃ (ad:Addr) (b:Blk),A=some ad/\ad.spot=none/\(h.put g6 ⟨vs,42,(0,0)⟩) ad.block=some b/\b.fz=(0,0)/\ad.off+n*4+1*4<=b.cells.length/\
    ∀ h' : Heap,h' = Heap.put (h.put g6 ⟨vs,42,(0,0)⟩) ad.block { b with cells:=setSeg b.cells (ad.off+n*4) xs }->K A c h')/\
   (c<n+1-> ∃ olds:List Value,RdS (h.put g6 ⟨vs,42,(0,0)⟩) A (n*4) olds/\(n+1)*72<=140737488355328/\
    ∀ (g1 cap:Nat) (h' : Heap),(h.put g6 ⟨vs,42,(0,0)⟩) g1=none->n+1<=cap->h' = Heap.put (h.put g6 ⟨vs,42,(0,0)⟩) g1 ⟨olds++xs++repV zS (cap-(n+1)),42,(0,0)⟩->K (some ⟨g1,0,none⟩) cap h'):=by
 obtain ⟨a1,a3⟩:=u
 have l6:=Le.new hg6 (⟨vs,42,(0,0)⟩:Blk)
 have hvl:=w.len
 refine ⟨vs,⟨hvl,fun _=>⟨_,rfl,rfl,_,Heap.put_same _ _ _,by simp only [List.drop_zero];rw [List.take_of_length_le (by omega)]⟩⟩, ?_, ?_, ?_⟩
 ·intro v hv
  obtain ⟨_,_,_,_,rfl,_⟩:=w
  simp only [List.mem_cons,List.not_mem_nil,or_false] at hv
  rcases hv with rfl | rfl | rfl | rfl<;>rfl
 ·intro hcap
  rcases a3 with ⟨_,_,rfl⟩ | ⟨gp,cs,b0,rfl,b3,b4,b5,b7⟩
  ·omega
  ·have hg6p:g6≠gp:=fun e=>by rw [e,b3] at hg6;cases hg6
   refine ⟨_,_,rfl,rfl,by rw [Heap.put_ne _ _ (fun e=>hg6p e.symm)];exact b3,rfl,by simp only;omega, ?_⟩
   rintro _ rfl
   have hcs:setSeg cs (0+n*4) vs=cs.take (4*ss.length)++vs++cs.drop (0+n*4+vs.length):=by
    unfold setSeg
    rw [show 0+n*4=4*ss.length by omega]
   refine hK _ _ _ ⟨by rw [List.length_append];simp;omega,Or.inr ⟨gp,_,b0,rfl,Heap.put_same _ _ _, ?_,hcap, ?_⟩⟩ ?_
   ·simp only
    rw [hcs,List.length_append,List.length_append,List.length_take,List.length_drop]
    omega
   ·simp only
    rw [hcs,hole_put]
    have hn7:hole h gp g6=none:=by rw [hole_ne _ hg6p];exact hg6
    have l7:=Le.new hn7 (⟨vs,42,(0,0)⟩:Blk)
    rw [hole_put_ne _ _ hg6p]
    exact snS (fun i s hs=>(b7 i s hs).mono l7) (by omega) (IsS.mono w l7)
   ·exact (hle.put (hle.free hg6) _).put b0 _
 ·intro hcap
  have holds : ∃ olds:List Value,RdS (h.put g6 ⟨vs,42,(0,0)⟩) A (n*4) olds/\(∀ i s,ss[i]?=some s->IsS h s ((olds.drop (i*4)).take 4))/\olds.length=4*ss.length:=by
   rcases a3 with ⟨rfl,rfl,rfl⟩ | ⟨gp,cs,b0,rfl,b3,b4,b5,b7⟩
   ·have:ss=[]:=List.length_eq_zero_iff.1 a1
    subst this
    exact ⟨[],⟨rfl,fun q=>absurd q (by decide)⟩,fun i s hs=>by simp at hs,rfl⟩
   ·have hg6p:g6≠gp:=fun e=>by rw [e,b3] at hg6;cases hg6
    refine ⟨cs.take (4*ss.length),⟨by rw [List.length_take];omega,fun _=>⟨_,rfl,rfl,_,by rw [Heap.put_ne _ _ (fun e=>hg6p e.symm)];exact b3, ?_⟩⟩,fun i s hs=> ?_,by rw [List.length_take];omega⟩
    ·simp only [List.drop_zero,List.length_take]
     congr 1
     omega
    ·have hi:=(List.getElem?_eq_some_iff.1 hs).1
     have:=(b7 i s hs).mono (hole_le _ _)
     rw [List.drop_take,List.take_take,Nat.min_eq_left (by omega)]
     exact this
  obtain ⟨olds,hrd,hes,hol⟩:=holds
  refine ⟨olds,hrd,by omega, ?_⟩
  rintro g7 cap _ hg7 hcap7 rfl
  have hg76:g7≠g6:=fun e=>by rw [e,Heap.put_same] at hg7;cases hg7
  have hg7' : h g7=none:=by rw [Heap.put_ne _ _ hg76] at hg7;exact hg7
  refine hK _ _ _ ⟨by rw [List.length_append];simp;omega,Or.inr ⟨g7,_,hle.free hg7', rfl,Heap.put_same _ _ _, ?_,hcap7, ?_⟩⟩ ?_
  ·rw [List.length_append,List.length_append,hol,repV_four]
   omega
  ·rw [hole_put,hole_none hg7]
   have:=snS (rest:=repV zS (cap-(n+1))) (fun i s hs=>(hes i s hs).mono l6) (by omega) (IsS.mono (IsS.mono w (cutA_le _ _)) l6)
   rw [List.take_of_length_le (by omega)] at this
   exact this
  ·exact (hle.put (hle.free hg6) _).put (hle.free hg7') _
def skipV (l:List UInt8):Bool:=match l with
 | []=>true
 | x::_=>x==35
def parFr:List (List UInt8)->Nat->List Stp->Except (Int×Nat) (List Stp)
 | [],_,ss=> .ok ss
 | l::ls,i,ss=>if skipV l=true then parFr ls (i+1) ss else match parseLV l with
  | .error e=> .error (e,i+1)
  | .ok s=>if ss.length=64 then .error (5,i+1) else if chkNm ss s=0 then parFr ls (i+1) (ss++[s]) else .error (chkNm ss s,i+1)
def drParseV (s:List UInt8):Except (Int×Nat) (List Stp):=if 20000<s.length then .error (5,0) else parFr (splitV 10 s) 0 []
def FmOk (ss:List Stp):Prop:= ∀ s∈ss,SzsL s.nums/\ ∀ x∈s.nums,chkV x 1=0
def DpR (o:Except (Int×Nat) (List Stp)) (r:Value) (h' : Heap):Prop:=match o with
 | .ok ss=> ∃ A n c,r = .tuple #[.slice A n c,.int .i64 0,.int .i64 0]/\StpS h' A n c ss/\FmOk ss
 | .error (e,i)=>e≠0/\r = .tuple #[.slice none 0 0,.int .i64 e,.int .i64 (i:Int)]
theorem divLV_frm {line nm:List UInt8} {k:Int} {fr ts:List (List UInt8)} (h:divLV line=some (nm,k,fr,ts)):fr.length<=4:=by
 unfold divLV divWV at h
 split at h
 ·split at h
  ·split at h
   ·unfold behindV at h
    split at h
    ·split at h
     ·split at h
      ·cases h
      ·rw [Option.map_eq_some_iff] at h
       obtain ⟨ts', h1,h2⟩:=h
       cases h2
       have hf0 : ∀ k:Int,frN k<=4:=fun k=>by unfold frN;repeat' split<;>try decide
       have:=hf0 (kindV ‹_›)
       rw [List.length_take]
       omega
     ·cases h
    ·cases h
   ·cases h
  ·cases h
 ·cases h
theorem parseLV_frm {line:List UInt8} {s:Stp} (h:parseLV line = .ok s):s.frm.length<=4:=by
 unfold parseLV at h
 split at h
 ·cases h
 ·rename_i hd
  split at h
  ·cases h
  ·cases h
   exact divLV_frm hd
theorem drParse_c (s:List UInt8) (hs:s.length<=1000000) {h:Heap} (t:Frms h) :
  CallsU Tryz.prog 24 [sv s] h fun r h' => DpR (drParseV s) r h' /\ Le h h' := by
 apply draft_Parse_ok
 unfold draft_Parse_vc drParseV
 rw [ba_size]
 refine Br.mk (fun q=> ?_) (fun q=> ?_)
 ·rw [if_pos (by have:=of_decide_eq_true q;omega)]
  exact ⟨⟨by decide,rfl⟩,Le.refl _⟩
 have hl:s.length<=20000:=by have:=of_decide_eq_false q;omega
 rw [if_neg (by omega)]
 refine (split1_c 10 (by omega) h).mono ?_
 rintro _ _ ⟨g,hg,rfl,rfl⟩
 have htot:=totL_split 10 s
 generalize splitV 10 s=ws at htot
 have l1:=Le.new hg (⟨ws.map sv,9,(0,0)⟩:Blk)
 have hb:(h.put g ⟨ws.map sv,9,(0,0)⟩) g=some ⟨ws.map sv,9,(0,0)⟩:=Heap.put_same _ _ _
 generalize h.put g ⟨ws.map sv,9,(0,0)⟩=h1 at l1 hb
 have uw:Sl sv h1 (some ⟨g,0,none⟩) ws.length ws.length ws:=by
  have:=Sl.of_blk (m:=ws.length) (k:=ws.length) hb (Nat.le_refl _) (Nat.le_refl _)
  simpa using this
 have hlen:=totL_len ws
 refine ⟨_,_,_,rfl, ?_⟩
 refine ⟨fun m A n c i h' => ∃ j ss,j<=ws.length/\m=ws.length-j/\i=(j:Int)/\SN h1 h' A n c ss/\n<=64/\Le h1 h' /\ FmOk ss/\parFr (ws.drop j) j ss=parFr ws 0 [],⟨_,0,[],by omega,rfl,rfl,⟨rfl,Or.inl ⟨rfl,rfl,rfl⟩⟩,by omega,Le.refl _,fun s hs=>by simp at hs,rfl⟩, ?_⟩
 rintro m A n c _ h2 ⟨j,ss,hj,rfl,rfl,sn,hn,l2,hfm,heq⟩
 refine Br.mk (fun q=> ?_) (fun q=> ?_)
 ·have hlt:j<ws.length:=by have:=of_decide_eq_true q;omega
  obtain ⟨x,hx⟩ : ∃ x,ws[j]?=some x:=⟨_,List.getElem?_eq_getElem hlt⟩
  have hdr:ws.drop j=x::ws.drop (j+1):=by
   rw [List.drop_eq_getElem_cons hlt]
   rw [List.getElem?_eq_getElem hlt] at hx
   cases hx
   rfl
  have hxl:x.length<=100000:=by have:=totL_mem (List.mem_of_getElem? hx);omega
  obtain ⟨ad,ea,hld⟩:=(uw.mono l2).get hx
  rw [hdr,parFr] at heq
  refine ⟨ad,ea,by omega,by omega,_,by rw [Int.toNat_natCast];exact hld,fun b h' => h2=h' /\ b=skipV x, ?_, ?_⟩
  ·rintro _ _ ⟨rfl,rfl⟩
   refine Br.mk (fun q2=> ?_) (fun q2=> ?_)
   ·rintro _ rfl
    rw [if_pos q2] at heq
    exact ⟨ws.length-(j+1),by omega,j+1,ss,by omega,rfl,wi (by omega) (by omega),sn,hn,l2,hfm,heq⟩
   rw [if_neg (by rw [q2];decide)] at heq
   have e1:IntKind.i64.wrap ((j:Int)+1)=((j+1:Nat):Int):=wi (by omega) (by omega)
   refine (snParse_c hxl sn (t.mono l1) l2).mono ?_
   rintro _ h3 ⟨hR,l3,sn3⟩
   have l13:=(l1.trans l2).trans l3
   cases hp:parseLV x with
   | error e=>
    rw [hp] at hR heq
    obtain ⟨he,rfl⟩:=hR
    simp only at heq
    refine ⟨_,_,_,_,_,_,_,_,_,rfl,fun e' h' => e=e' /\ h3=h', ?_,Br.mk (fun q3=>absurd (beq_iff_eq.1 q3) he) (fun _=>⟨rfl,rfl⟩)⟩
    rintro _ _ ⟨rfl,rfl⟩
    refine ⟨fun e'' h' => e=e'' /\ h3=h', ?_,Br.mk (fun q3=>absurd (beq_iff_eq.1 q3) he) (fun _=>⟨rfl,rfl⟩)⟩
    rintro _ _ ⟨rfl,rfl⟩
    refine Br.mk (fun _=> ?_) (fun q3=>by rw [bne_eq_false_iff_eq] at q3;exact absurd q3 he)
    rintro _ rfl
    rw [e1,<- heq]
    exact ⟨⟨he,rfl⟩,l13⟩
   | ok st=>
    rw [hp] at hR heq
    obtain ⟨vs,rfl,us,zs,hck⟩:=hR
    have us' := us
    obtain ⟨F,fc,K,kc,rfl,uf,uk⟩:=us'
    simp only at heq
    refine ⟨_,_,_,_,_,_,_,_,_,rfl,fun e' h' => h3=h' /\ e' = (if ss.length=64 then 5 else 0), ?_,Br.mk (fun _=>Br.mk (fun q4=> ?_) (fun q4=> ?_)) (fun q3=>by exact absurd q3 (by decide))⟩
    ·rintro _ _ ⟨rfl,rfl⟩
     refine ⟨fun e' h' => h3=h' /\ e' = (if ss.length=64 then 5 else chkNm ss st), ?_,Br.mk (fun q4=> ?_) (fun q4=> ?_)⟩
     ·rintro _ _ ⟨rfl,rfl⟩
      by_cases h64:ss.length=64
      ·rw [if_pos h64] at heq ⊢
       refine Br.mk (fun _=> ?_) (fun q4=>by exact absurd q4 (by decide))
       rintro _ rfl
       rw [e1,<- heq]
       exact ⟨⟨by decide,rfl⟩,l13⟩
      ·rw [if_neg h64] at heq ⊢
       refine Br.mk (fun q4=> ?_) (fun q4=> ?_)
       ·have hne:chkNm ss st≠0:=by simpa using q4
        rw [if_neg hne] at heq
        rintro _ rfl
        rw [e1,<- heq]
        exact ⟨⟨hne,rfl⟩,l13⟩
       ·have hz:chkNm ss st=0:=by simpa using q4
        rw [if_pos hz] at heq
        rintro g6 _ hg6 rfl
        refine sn3.app (l2.trans l3) us hg6 (by omega) (K:=fun A' c' h' => ∀ t54:Int,t54=IntKind.i64.wrap ((j:Int)+1)-> ∃ m_1,m_1<ws.length-j/\ ∃ j' ss', j' <= ws.length/\m_1=ws.length-j' /\ t54=(j' : Int)/\SN h1 h' A' (n+1) c' ss' /\ n+1<=64/\Le h1 h' /\ FmOk ss' /\ parFr (ws.drop j') j' ss' = parFr ws 0 []) (fun A' c' h' sn' l' => ?_)
        rintro _ rfl
        have hnn:=sn.1
        exact ⟨ws.length-(j+1),by omega,j+1,ss++[st],by omega,rfl,e1,sn', by omega,l', fun x hx=>by rcases List.mem_append.1 hx with q | q;(exact hfm x q);(simp at q;subst q;exact ⟨zs,hck⟩),heq⟩
     ·have h64:ss.length≠64:=fun e=>by rw [if_pos e] at q4;exact absurd q4 (by decide)
      have hfl:=parseLV_frm hp
      refine (drNames_c (s:=st) sn3.s (by omega) (uf.mono (cutA_le _ _)) (by omega)).mono ?_
      rintro _ _ ⟨rfl,rfl⟩
      exact ⟨_,rfl,rfl,by rw [if_neg h64]⟩
     ·have h64:ss.length=64:=by
       rcases Decidable.em (ss.length=64) with q | q
       ·exact q
       ·rw [if_neg q] at q4;exact absurd q4 (by decide)
      exact ⟨rfl,by rw [if_pos h64,if_pos h64]⟩
    ·have hnn:=sn.1
     exact ⟨rfl,by rw [if_pos (by have:=beq_iff_eq.1 q4;omega)]⟩
    ·have hnn:=sn.1
     refine ⟨rfl, ?_⟩
     rw [if_neg]
     intro e
     have:((n:Nat):Int)=64:=by omega
     rw [this] at q4
     exact absurd q4 (by decide)
  ·rw [bytes_toList,show (⟨#[]⟩:ByteArray).toList=[] from bytes_toList []]
   refine Br.mk (fun q2=> ?_) (fun q2=> ?_)
   ·rw [beq_iff_eq.1 q2]
    exact ⟨rfl,rfl⟩
   ·cases x with
    | nil=>exact absurd q2 (by decide)
    | cons y ys=>
     refine ⟨y,by omega,by rw [ba_get];rfl,rfl, ?_⟩
     rw [skipV,Bool.eq_iff_iff,beq_iff_eq,beq_iff_eq]
     constructor
     ·intro e;exact UInt8.toNat_inj.1 (by change y.toNat=35;omega)
     ·intro e;rw [e];rfl
 ·have hje:j=ws.length:=by have:=of_decide_eq_false q;omega
  rw [hje,List.drop_length,parFr] at heq
  rw [<- heq]
  exact ⟨⟨_,_,_,rfl,sn.s,hfm⟩,l1.trans l2⟩
def numW:Nat->List Ex->Except Int (List (List UInt8))
 | _,[]=> .ok []
 | i,e::es=>match prV e with
  | .error x=> .error x
  | .ok t=>match numW (i+1) es with
   | .error x=> .error x
   | .ok ws=> .ok ((if i=0 then [t] else [[44],t])++ws)
def numWQ (gs:List (List UInt8)) (i:Nat) (es:List Ex):Except Int (List (List UInt8)):=match numW i es with
 | .error x=> .error x
 | .ok ws=> .ok (gs++ws)
def headW (s:Stp):List (List UInt8):=[s.name,[61],wdN s.kind]++s.frm++(if lkN s.kind=[] then [] else [lkN s.kind])
def lineV (s:Stp):Except Int (List UInt8):=match numWQ (headW s) 0 s.nums with
 | .error e=> .error e
 | .ok ws=> .ok (Lib.join ws [32]++[10])
theorem totL_app : ∀ xs ys:List (List UInt8),totL (xs++ys)=totL xs+totL ys
 | [],ys=>by simp [totL]
 | x::xs,ys=>by rw [List.cons_append,totL,totL,totL_app xs ys];omega
theorem totL_le : ∀ (xs:List (List UInt8)),(∀ x∈xs,x.length<=100000)->totL xs<=100001*xs.length
 | [],_=>Nat.le_refl _
 | x::xs,h=>by
  have h1:=h x (by simp)
  have h2:=totL_le xs fun y hy=>h y (by simp [hy])
  rw [totL,List.length_cons,Nat.mul_add]
  omega
theorem prV_err {e:Ex} {x:Int} (h:prV e = .error x):x≠0:=by
 unfold prV at h
 split at h
 ·split at h
  ·cases h
  ·cases h;decide
 ·cases h;assumption
theorem ba_app10 (l:List UInt8):(⟨l.toArray⟩:ByteArray)++(⟨#[10]⟩:ByteArray)=⟨(l++[10]).toArray⟩:=by
 have : ∀ a b:ByteArray,a.data=b.data->a=b:=fun a b e=>by cases a;cases b;simp_all
 apply this
 simp
abbrev LnJ (h:Heap) (s:Stp) (m:Nat) (A:Option Addr) (n c:Nat) (i:Int) (h' : Heap):Prop:=
 ∃ j gs,j<=s.nums.length/\m=s.nums.length-j/\i=(j:Int)/\OwnE sv 9 h h' A n c gs/\Le h h' /\ n<=1004+2*j/\totL gs<=200000100+500*j/\numWQ gs j (s.nums.drop j)=numWQ (headW s) 0 s.nums
abbrev AppC (h9:Heap) (g2:Nat) (A:Option Addr) (n c:Nat) (P:Option Addr->Nat->Heap->Prop):Prop:=
 ∃ xs:List Value,RdS h9 (some ⟨g2,0,none⟩) (1*1) xs/\(∀ x∈xs,Go.Vcg.one x=true)/\
  (n+1<=c-> ∃ (ad:Addr) (b:Blk),A=some ad/\ad.spot=none/\h9 ad.block=some b/\b.fz=(0,0)/\ad.off+n*1+1*1<=b.cells.length/\
   ∀ h' : Heap,h' = Heap.put h9 ad.block { b with cells:=setSeg b.cells (ad.off+n*1) xs }->P A c h')/\
  (c<n+1-> ∃ olds:List Value,RdS h9 A (n*1) olds/\(n+1)*16<=140737488355328/\
   ∀ (g1 cap:Nat) (h' : Heap),h9 g1=none->n+1<=cap->h' = Heap.put h9 g1 ⟨olds++xs++repV [Value.string ByteArray.empty] (cap-(n+1)),9,(0,0)⟩->P (some ⟨g1,0,none⟩) cap h')
theorem drLine_c {h:Heap} {s:Stp} {F:Option Addr} {fc:Nat} {K:Option Addr} {kc:Nat} (uf:Sl sv h F s.frm.length fc s.frm) (uk:IsK h K s.nums.length kc s.nums) (z:SzS s) (hk1:0<=s.kind) (hk6:s.kind<=6) (t:Frms h) (tb:Tab h) :
  CallsU Tryz.prog 55 [.agg #[sv s.name,.int .i64 s.kind,.slice F s.frm.length fc,.slice K s.nums.length kc]] h fun r h' => r=PrR (lineV s)/\Le h h' := by
 apply draft_lineText_ok
 unfold draft_lineText_vc
 obtain ⟨z1,z2,z3,z4,z5⟩:=z
 have hwd:(wdN s.kind).length<=10:=by unfold wdN;repeat' split<;>try decide
 have hlk:(lkN s.kind).length<=10:=by unfold lkN;repeat' split<;>try decide
 have hfr:=totL_le s.frm z5
 have hh3:totL ([s.name,[61],wdN s.kind]++s.frm)<=200000000:=by
  rw [totL_app]
  simp only [totL,List.length_cons,List.length_nil]
  omega
 refine ⟨hk1,by omega,_,_,_,_,t.row hk1 hk6,fun A n c h' => OwnE sv 9 h h' A n c ([s.name,[61],wdN s.kind]++s.frm)/\Le h h', ?_, ?_⟩
 ·rintro A n c h1 ⟨ow,l1⟩
  have hn1:=ow.1
  simp only [List.length_append,List.length_cons,List.length_nil] at hn1
  refine ⟨fun A n c h' => OwnE sv 9 h h' A n c (headW s)/\Le h h' /\ n<=1004, ?_, ?_⟩
  ·rintro A n c h2 ⟨ow2,l2,hn2⟩
   have hh4:totL (headW s)<=200000100:=by
    unfold headW
    rw [totL_app]
    split
    ·simp only [totL];omega
    ·simp only [totL];omega
   refine ⟨LnJ h s,⟨_,0,_,by omega,rfl,rfl,ow2,l2,by omega,by omega,rfl⟩, ?_⟩
   rintro m A n c _ h3 ⟨j,gs,hj,rfl,rfl,ow3,l3,hn3,hto,heq⟩
   refine Br.mk (fun q=> ?_) (fun q=> ?_)
   ·have hlt:j<s.nums.length:=by have:=of_decide_eq_true q;omega
    obtain ⟨x,hx⟩ : ∃ x,s.nums[j]?=some x:=⟨_,List.getElem?_eq_getElem hlt⟩
    have hdr:s.nums.drop j=x::s.nums.drop (j+1):=by
     rw [List.drop_eq_getElem_cons hlt]
     rw [List.getElem?_eq_getElem hlt] at hx
     cases hx
     rfl
    obtain ⟨ad,vs,ea,hld,ux⟩:=(uk.mono l3).get hx
    have ux' := ux
    obtain ⟨s3,A3,c3,B3,d3,K3,kc3,hvs,_,_,_⟩:=ux'.open
    subst hvs
    rw [hdr] at heq
    unfold numWQ at heq
    rw [numW] at heq
    refine ⟨ad,ea,by omega,by omega,_,_,_,_,_,_,_,_,_,_,_,_,by rw [Int.toNat_natCast];exact hld, ?_⟩
    refine (foPrint_c ux (z4.get hx) (tb.mono l3)).mono ?_
    rintro _ h4 ⟨rfl,l4⟩
    cases hp:prV x with
    | error e=>
     rw [hp] at heq
     have he:=prV_err hp
     refine ⟨_,_,rfl,Br.mk (fun _=> ?_) (fun q=>by rw [bne_eq_false_iff_eq] at q;exact absurd q he)⟩
     unfold lineV numWQ
     simp only at heq
     rw [<- heq]
     exact ⟨rfl,l3.trans l4⟩
    | ok tx=>
     rw [hp] at heq
     obtain ⟨_,_,htl⟩:=prV_ok hp
     have e1:IntKind.i64.wrap ((j:Int)+1)=((j+1:Nat):Int):=wi (by omega) (by omega)
     have go : ∀ (ws:List (List UInt8)),ws=(if j=0 then [tx] else [[44],tx])->numWQ (gs++ws) (j+1) (s.nums.drop (j+1))=numWQ (headW s) 0 s.nums:=by
      rintro _ rfl
      unfold numWQ
      rw [<- heq]
      simp only
      cases numW (j+1) (s.nums.drop (j+1)) with
      | error e=>rfl
      | ok ws=>simp
     have K2 : ∀ (ws:List (List UInt8)) A' n' c' h', ws=(if j=0 then [tx] else [[44],tx])->n' = n+ws.length->OwnE sv 9 h h' A' n' c' (gs++ws)->Le h h' -> ∀ t55:Int,t55=IntKind.i64.wrap ((j:Int)+1)-> ∃ m_1,m_1<s.nums.length-j/\LnJ h s m_1 A' n' c' t55 h' := by
      rintro ws A' n' c' h' hws hn' ow' l' _ rfl
      refine ⟨s.nums.length-(j+1),by omega,j+1,gs++ws,by omega,rfl,e1,ow', l', ?_, ?_,go ws hws⟩
      ·rw [hws] at hn'
       split at hn' <;> simp at hn' <;> omega
      ·rw [totL_app,hws]
       split<;>simp [totL]<;>omega
     refine ⟨_,_,rfl,Br.mk (fun q=>by exact absurd q (by decide)) (fun _=>Br.mk (fun q2=> ?_) (fun q2=> ?_))⟩
     ·have hj0:j≠0:=by have:=of_decide_eq_true q2;omega
      rintro g0 _ hg0 rfl
      refine OwnE.app (x:=[44]) (z:=[]) (bs:=16) (K:=fun A' c' h' => ∀ (g_2:Nat) (h_9:Heap),h' g_2=none->h_9=Heap.put h' g_2 ⟨[sv tx],9,(0,0)⟩->AppC h_9 g_2 A' (n+1) c' fun A'' c'' h'' => ∀ t55:Int,t55=IntKind.i64.wrap ((j:Int)+1)-> ∃ m_1,m_1<s.nums.length-j/\LnJ h s m_1 A'' (n+1+1) c'' t55 h'') (ow3.le l4) (l3.trans l4) (fun _=>rfl) rfl rfl hg0 (by omega) (fun A' c' h' o l _=> ?_)
      rintro g2 _ hg2 rfl
      refine OwnE.app (x:=tx) (z:=[]) (bs:=16) (K:=fun A'' c'' h'' => ∀ t55:Int,t55=IntKind.i64.wrap ((j:Int)+1)-> ∃ m_1,m_1<s.nums.length-j/\LnJ h s m_1 A'' (n+1+1) c'' t55 h'') o l (fun _=>rfl) rfl rfl hg2 (by omega) (fun A'' c'' h'' o2 l2 _=> ?_)
      exact K2 [[44],tx] A'' (n+1+1) c'' h'' (by rw [if_neg hj0]) rfl (by simpa using o2) l2
     ·have hj0:j=0:=by have:=of_decide_eq_false q2;omega
      rintro g0 _ hg0 rfl
      refine OwnE.app (x:=tx) (z:=[]) (bs:=16) (K:=fun A' c' h' => ∀ t55:Int,t55=IntKind.i64.wrap ((j:Int)+1)-> ∃ m_1,m_1<s.nums.length-j/\LnJ h s m_1 A' (n+1) c' t55 h') (ow3.le l4) (l3.trans l4) (fun _=>rfl) rfl rfl hg0 (by omega) (fun A' c' h' o l _=> ?_)
      exact K2 [tx] A' (n+1) c' h' (by rw [if_pos hj0]) rfl o l
   ·have hje:j=s.nums.length:=by have:=of_decide_eq_false q;omega
    rw [hje,List.drop_length] at heq
    have hw:numWQ (headW s) 0 s.nums = .ok gs:=by
     rw [<- heq]
     unfold numWQ
     rw [numW]
     simp
    obtain ⟨hn,ho⟩:=ow3
    have hne:gs≠[]:=by
     intro e
     unfold numWQ at hw
     split at hw
     ·cases hw
     ·rw [e] at hw
      simp [headW] at hw
    have hjn:=totL_join 32 gs
    rcases ho with ⟨_,e,_⟩ | ⟨g,zs,rfl,h0,hb,hc⟩
    ·exact absurd (List.length_eq_zero_iff.1 (by omega)) hne
    refine (joinS_c [32] hb hn (by rw [hc,List.length_append];omega) (by omega) (by omega)).mono ?_
    rintro _ _ ⟨rfl,rfl⟩
    refine ⟨_,rfl, ?_, ?_,l3⟩
    ·rw [ba_size]
     have:(⟨#[10]⟩:ByteArray).size=1:=rfl
     omega
    ·unfold lineV
     rw [hw,ba_app10]
     rfl
  ·rw [bytes_toList,show (⟨#[]⟩:ByteArray).toList=[] from bytes_toList []]
   refine Br.mk (fun q=> ?_) (fun q=> ?_)
   ·have hne:lkN s.kind≠[]:=fun e=>by rw [e] at q;exact absurd q (by decide)
    rintro g0 _ hg0 rfl
    refine OwnE.app (x:=lkN s.kind) (z:=[]) (bs:=16) (K:=fun A' c' h' => OwnE sv 9 h h' A' (n+1) c' (headW s)/\Le h h' /\ n+1<=1004) ow l1 (fun _=>rfl) rfl rfl hg0 (by omega) (fun A' c' h' o l _=>⟨?_,l,by omega⟩)
    unfold headW
    rw [if_neg hne]
    exact o
   ·have he:lkN s.kind=[]:=by simpa using q
    refine ⟨?_,l1,by omega⟩
    unfold headW
    rw [if_pos he,List.append_nil]
    exact ow
 ·rintro g0 _ hg0 rfl
  have l0:=Le.new hg0 (⟨[sv s.name,sv [61],sv (wdN s.kind)],9,(0,0)⟩:Blk)
  refine ⟨s.frm.map sv,(uf.mono l0).rds,fun x hx=>by obtain ⟨y,_,rfl⟩:=List.mem_map.1 hx;rfl,fun hle=> ?_,fun hlt=>⟨[sv s.name,sv [61],sv (wdN s.kind)],⟨rfl,fun _=>⟨_,rfl,rfl,_,Heap.put_same _ _ _,rfl⟩⟩,by omega, ?_⟩⟩
  ·have hf0:s.frm=[]:=List.length_eq_zero_iff.1 (by omega)
   rw [hf0]
   exact Br.mk (fun _=>⟨⟨rfl,Or.inr ⟨g0,[],rfl,hg0,Heap.put_same _ _ _,rfl⟩⟩,l0⟩) (fun q=>by exact absurd q (by decide))
  ·rintro g1 cap _ hg1 hcap rfl
   have hg10:h g1=none:=l0.free hg1
   refine ⟨⟨by simp;omega,Or.inr ⟨g1,List.replicate (cap-(3+s.frm.length)) [],rfl,hg10, ?_,by simp;omega⟩⟩,l0.put hg10 _⟩
   rw [Heap.put_same,repV_sv]
   simp
end Go.Proofs.YtfglcgbgaeegaaaGreatDoor

namespace Go.Proofs.YtfglcgbgaeegaaaGreatDoor
open Go Go.Vcg Go.RowKit Go.Sort
theorem divFV_num {ws ts:List (List UInt8)} {n:Nat} (hn:n<=2) (h:divFV ws n=some ts):ts.length=n:=by
 unfold divFV at h
 split at h
 ·split at h
  ·rename_i h2
   cases h;rw [h2.1];rfl
  ·cases h
 ·rename_i h1
  split at h
  ·rename_i h2
   cases h;rw [h2];rfl
  ·rename_i h2
   rw [Option.map_eq_some_iff] at h
   obtain ⟨i,_,rfl⟩:=h
   have:n≠0:=fun e=>h1 (Or.inl e)
   simp
   omega
theorem nuN_bd (k:Int):0<=nuN k/\nuN k<=2:=by unfold nuN;repeat' split<;>try decide
theorem frN_bd (k:Int):0<=frN k/\frN k<=4:=by unfold frN;repeat' split<;>try decide
theorem divLV_ok {line nm:List UInt8} {k:Int} {fr ts:List (List UInt8)} (h:divLV line=some (nm,k,fr,ts)) :
  isPointV nm=true/\(1<=k/\k<=6)/\(fr.length:Int)=frN k/\(ts.length:Int)=nuN k/\ ∀ x∈fr,isPointV x=true:=by
 unfold divLV divWV at h
 split at h
 ·rename_i w0 w1 w2 rest _
  split at h
  ·rename_i h1
   split at h
   ·rename_i h2
    unfold behindV at h
    split at h
    ·rename_i h3
     split at h
     ·rename_i h4
      split at h
      ·cases h
      ·rw [Option.map_eq_some_iff] at h
       obtain ⟨ts', h5,h6⟩:=h
       have hb:=nuN_bd (kindV w2)
       have hf:=frN_bd (kindV w2)
       have h7:=divFV_num (by omega) h5
       cases h6
       refine ⟨h1.1,⟨kindV_ge _,h2⟩, ?_,by omega,fun x hx=>List.all_eq_true.1 h4 x hx⟩
       rw [List.length_take]
       omega
     ·cases h
    ·cases h
   ·cases h
  ·cases h
 ·cases h
theorem numsP_len : ∀ {ts:List (List UInt8)} {xs:List Ex},numsP ts = .ok xs->xs.length=ts.length
 | [],xs,h=>by rw [numsP] at h;cases h;rfl
 | t::ts,xs,h=>by
  rw [numsP] at h
  split at h
  ·cases h
  ·split at h
   ·cases h
   ·rename_i h2
    cases h
    rw [List.length_cons,List.length_cons,numsP_len h2]
theorem parseLV_ok {line:List UInt8} {s:Stp} (h:parseLV line = .ok s) :
  isPointV s.name=true/\(1<=s.kind/\s.kind<=6)/\(s.frm.length:Int)=frN s.kind/\(s.nums.length:Int)=nuN s.kind/\ ∀ x∈s.frm,isPointV x=true:=by
 unfold parseLV at h
 split at h
 ·cases h
 ·rename_i hd
  split at h
  ·cases h
  ·rename_i hn
   cases h
   obtain ⟨a,b,c,d,e⟩:=divLV_ok hd
   refine ⟨a,b,c, ?_,e⟩
   rw [<- d,numsP_len hn]
def runL (ms:List Meas):List Stp->Nat->List Nmd->Except (Int×Nat) (List Nmd)
 | [],_,ps=> .ok ps
 | s::r,i,ps=>match consV ms ps s with
  | .error e=> .error (e,i)
  | .ok p=>if tlV p.1||tlV p.2 then .error (5,i) else runL ms r (i+1) (ps++[⟨s.name,p⟩])
theorem runFr_L (ms:List Meas) (l:List Stp) : ∀ (f i:Nat) (ps:List Nmd),i+f=l.length->runFr ms l f i ps=runL ms (l.drop i) i ps
 | 0,i,ps,h=>by rw [runFr,List.drop_of_length_le (by omega),runL]
 | f+1,i,ps,h=>by
  have hlt:i<l.length:=by omega
  rw [runFr,List.getElem?_eq_getElem hlt,List.drop_eq_getElem_cons hlt,runL]
  simp only
  cases consV ms ps l[i] with
  | error e=>rfl
  | ok p=>
   simp only
   split
   ·rfl
   ·exact runFr_L ms l f (i+1) _ (by omega)
theorem runV_L (ms:List Meas) (l:List Stp):runV ms l=if (checkV l).1=0 then runL ms l 0 [] else .error (checkV l):=by
 unfold runV
 rw [runFr_L ms l l.length 0 [] (by omega),List.drop_zero]
theorem runL_app (ms:List Meas) : ∀ (a b:List Stp) (i:Nat) (ps:List Nmd),runL ms (a++b) i ps=match runL ms a i ps with
  | .error x=> .error x
  | .ok qs=>runL ms b (i+a.length) qs
 | [],b,i,ps=>by rw [List.nil_append,runL];rfl
 | s::a,b,i,ps=>by
  rw [List.cons_append,runL,runL]
  cases consV ms ps s with
  | error e=>rfl
  | ok p=>
   simp only
   split
   ·rfl
   ·rw [runL_app ms a b (i+1),List.length_cons,show i+1+a.length=i+(a.length+1) by omega]
theorem runL_ok {ms:List Meas} : ∀ {l:List Stp} {i:Nat} {ps qs:List Nmd},runL ms l i ps = .ok qs-> ∃ rs,qs=ps++rs/\rs.map (·.name)=l.map (·.name)
 | [],i,ps,qs,h=>by rw [runL] at h;cases h;exact ⟨[],by simp,rfl⟩
 | s::l,i,ps,qs,h=>by
  rw [runL] at h
  split at h
  ·cases h
  ·split at h
   ·cases h
   ·obtain ⟨rs,e,hn⟩:=runL_ok h
    exact ⟨_,by rw [e,List.append_assoc],by rw [List.map_append,hn];rfl⟩
theorem runL_len {ms:List Meas} {l:List Stp} {i:Nat} {ps qs:List Nmd} (h:runL ms l i ps = .ok qs):qs.length=ps.length+l.length:=by
 obtain ⟨rs,rfl,hn⟩:=runL_ok h
 have:=congrArg List.length hn
 rw [List.length_map,List.length_map] at this
 rw [List.length_append,this]
theorem runL_err {ms:List Meas} : ∀ {l:List Stp} {i:Nat} {ps:List Nmd} {e:Int} {n:Nat},runL ms l i ps = .error (e,n)->i<=n/\n<i+l.length/\e≠0
 | [],i,ps,e,n,h=>by rw [runL] at h;cases h
 | s::l,i,ps,e,n,h=>by
  rw [runL] at h
  rw [List.length_cons]
  split at h
  ·rename_i e' he
   cases h
   exact ⟨Nat.le_refl _,by omega,consV_err he⟩
  ·split at h
   ·cases h
    exact ⟨Nat.le_refl _,by omega,by decide⟩
   ·obtain ⟨a,b,c⟩:=runL_err h
    exact ⟨by omega,by omega,c⟩
theorem chkFr_of {l:List Stp} (h : ∀ j s,l[j]?=some s->chkFm s=0/\chkNm (l.take j) s=0) : ∀ f i:Nat,chkFr l f i=(0,0)
 | 0,i=>by rw [chkFr]
 | f+1,i=>by
  rw [chkFr]
  cases hs:l[i]? with
  | none=>rfl
  | some s=>
   obtain ⟨a,b⟩:=h i s hs
   simp only
   rw [if_pos a,if_pos b]
   exact chkFr_of h f (i+1)
theorem checkV_of {l:List Stp} (h64:l.length<=64) (h : ∀ j s,l[j]?=some s->chkFm s=0/\chkNm (l.take j) s=0):checkV l=(0,0):=by
 unfold checkV
 rw [if_neg (by omega)]
 exact chkFr_of h _ _
theorem checkV_take {l:List Stp} (h:(checkV l).1=0) (k:Nat):checkV (l.take k)=(0,0):=by
 obtain ⟨h64,hall⟩:=checkV_all h
 refine checkV_of (by rw [List.length_take];omega) fun j s hs=> ?_
 have hj:=(List.getElem?_eq_some_iff.1 hs).1
 rw [List.length_take] at hj
 rw [List.getElem?_take_of_lt (by omega)] at hs
 rw [List.take_take,Nat.min_eq_left (by omega)]
 exact hall j s hs
theorem run_begin {ms:List Meas} {l:List Stp} (h:(checkV l).1=0) {k:Nat} (hk:k<=l.length) :
  (∃ e n,n<k/\e≠0/\runV ms l = .error (e,n)/\runV ms (l.take k) = .error (e,n))\/
  (∃ bs,runV ms (l.take k) = .ok bs/\bs.map (·.name)=(l.take k).map (·.name)/\((∃ e n,k<=n/\e≠0/\runV ms l = .error (e,n))\/ ∃ az,runV ms l = .ok az/\az.length=l.length/\az.take k=bs)):=by
 rw [runV_L,runV_L,if_pos h,if_pos (by rw [checkV_take h])]
 have ha:=runL_app ms (l.take k) (l.drop k) 0 []
 rw [List.take_append_drop] at ha
 have hl:(l.take k).length=k:=by rw [List.length_take];omega
 cases hb:runL ms (l.take k) 0 [] with
 | error x=>
  obtain ⟨e,n⟩:=x
  rw [hb] at ha
  obtain ⟨_,h2,h3⟩:=runL_err hb
  exact .inl ⟨e,n,by omega,h3,ha,rfl⟩
 | ok bs=>
  rw [hb] at ha
  simp only at ha
  obtain ⟨rs,e1,e2⟩:=runL_ok hb
  rw [List.nil_append] at e1
  subst e1
  have hbl:bs.length=k:=by have:=runL_len hb;simp at this;omega
  refine .inr ⟨bs,rfl,e2, ?_⟩
  cases hd:runL ms (l.drop k) (0+(l.take k).length) bs with
  | error x=>
   obtain ⟨e,n⟩:=x
   rw [hd] at ha
   obtain ⟨h1,_,h3⟩:=runL_err hd
   exact .inl ⟨e,n,by omega,h3,ha⟩
  | ok az=>
   rw [hd] at ha
   obtain ⟨ts,e3,_⟩:=runL_ok hd
   refine .inr ⟨az,ha, ?_, ?_⟩
   ·have:=runL_len hd
    rw [List.length_drop] at this
    omega
   ·rw [e3,<- hbl,List.take_left]
theorem numsV_congr {ms ms' : List Meas} : ∀ {es:List Ex},(∀ e∈es,evalV ms e=evalV ms' e)->numsV ms es=numsV ms' es
 | [],_=>rfl
 | e::es,h=>by
  rw [numsV,numsV,h e (by simp),numsV_congr fun x hx=>h x (by simp [hx])]
theorem consV_congr {ms ms' : List Meas} {ps:List Nmd} {s:Stp} (h : ∀ e∈s.nums,evalV ms e=evalV ms' e):consV ms ps s=consV ms' ps s:=by
 unfold consV
 rw [numsV_congr h]
theorem runL_congr {ms ms' : List Meas} : ∀ {l:List Stp} {i:Nat} {ps:List Nmd},(∀ s∈l,∀ e∈s.nums,evalV ms e=evalV ms' e)->runL ms l i ps=runL ms' l i ps
 | [],_,_,_=>rfl
 | s::l,i,ps,h=>by
  rw [runL,runL,consV_congr (h s (by simp))]
  cases consV ms' ps s with
  | error e=>rfl
  | ok p=>
   simp only
   rw [runL_congr fun x hx=>h x (by simp [hx])]
theorem runV_congr {ms ms' : List Meas} {l:List Stp} (h : ∀ s∈l,∀ e∈s.nums,evalV ms e=evalV ms' e):runV ms l=runV ms' l:=by
 rw [runV_L,runV_L,runL_congr h]
theorem lookV_skip {m:Meas} {ms:List Meas} {nm:List UInt8} (h:m.name≠nm):lookV (m::ms) nm=lookV ms nm:=by
 unfold lookV
 rw [List.find?_cons_of_neg (by simpa using h)]
theorem evalV_skip {m:Meas} {ms:List Meas} {e:Ex} (h:m.name∉namesE e):evalV (m::ms) e=evalV ms e:=by
 unfold evalV
 rw [evV_names e fun nm hn=>lookV_skip fun q=>h (by rw [q];exact hn)]
end Go.Proofs.YtfglcgbgaeegaaaGreatDoor
