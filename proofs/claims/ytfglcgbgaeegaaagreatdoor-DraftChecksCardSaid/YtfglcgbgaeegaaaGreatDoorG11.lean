/-
 Gathered texts of this proof: Dr1,Rg4,Dr2,Dr3,Dr4,VcJ,Dr5,Dr6,Dr7,Dr8.
-/
import Derived.Test.YtfglcgbgaeegaaaGreatDoorG10
import Derived.Test.YtfglcgbgaeegaaaGreatDoorG03
import Derived.Test.YtfglcgbgaeegaaaGreatDoorChecked
set_option maxRecDepth 100000

namespace Go.Proofs.YtfglcgbgaeegaaaGreatDoor
open Go Go.Vcg Go.RowKit Go.Sort
attribute [local irreducible] Br
structure Stp where
 name:List UInt8
 kind:Int
 frm:List (List UInt8)
 nums:List Ex
instance:Inhabited Stp:=⟨⟨[],0,[],[]⟩⟩
def IsK (h:Heap) (K:Option Addr) (kn kc:Nat) (es:List Ex):Prop:=
 kn=es.length/\es.length<=kc/\(es≠[]-> ∃ (ad:Addr) (b:Blk),K=some ad/\ad.spot=none/\h ad.block=some b/\ad.off+6*es.length<=b.cells.length/\IsEs h es (b.cells.drop ad.off))
theorem IsK.mono {h h' : Heap} {K:Option Addr} {kn kc:Nat} {es:List Ex} (u:IsK h K kn kc es) (l:Le h h'):IsK h' K kn kc es:=
 ⟨u.1,u.2.1,fun hn=>let ⟨ad,b,a1,a2,a3,a4,a5⟩:=u.2.2 hn;⟨ad,b,a1,a2,l _ _ a3,a4,IsEs.mono l _ _ a5⟩⟩
theorem IsK.get {h:Heap} {K:Option Addr} {kn kc:Nat} {es:List Ex} (u:IsK h K kn kc es) {i:Nat} {x:Ex} (hx:es[i]?=some x) : ∃ ad vs,K=some ad/\LdN h (ad.add (i*6)) vs/\IsE h x vs:=
 kid_ld (e:= .mk 0 0 0 0 [] es) u.2.2 hx
def IsS (h:Heap) (s:Stp) (vs:List Value):Prop:= ∃ F fc K kc,vs=[sv s.name,.int .i64 s.kind,.slice F s.frm.length fc,.slice K s.nums.length kc]/\Sl sv h F s.frm.length fc s.frm/\IsK h K s.nums.length kc s.nums
theorem IsS.mono {h h' : Heap} {s:Stp} {vs:List Value} (u:IsS h s vs) (l:Le h h'):IsS h' s vs:=
 let ⟨F,fc,K,kc,e,a,b⟩:=u
 ⟨F,fc,K,kc,e,a.mono l,b.mono l⟩
structure StpS (h:Heap) (A:Option Addr) (n c:Nat) (l:List Stp):Prop where
 len:n=l.length
 cap:n<=c
 mem:l≠[]-> ∃ (ad:Addr) (b:Blk),A=some ad/\ad.spot=none/\h ad.block=some b/\ ∀ i s,l[i]?=some s->IsS h s ((b.cells.drop (ad.off+i*4)).take 4)
theorem StpS.mono {h h' : Heap} {A:Option Addr} {n c:Nat} {l:List Stp} (u:StpS h A n c l) (le:Le h h'):StpS h' A n c l:=
 ⟨u.len,u.cap,fun hn=>let ⟨ad,b,a1,a2,a3,a4⟩:=u.mem hn;⟨ad,b,a1,a2,le _ _ a3,fun i s hs=>(a4 i s hs).mono le⟩⟩
theorem StpS.get {h:Heap} {A:Option Addr} {n c:Nat} {l:List Stp} (u:StpS h A n c l) {i:Nat} {s:Stp} (hs:l[i]?=some s) :
  ∃ ad F fc K kc,A=some ad/\LdN h (ad.add (i*4)) [sv s.name,.int .i64 s.kind,.slice F s.frm.length fc,.slice K s.nums.length kc]/\Sl sv h F s.frm.length fc s.frm/\IsK h K s.nums.length kc s.nums:=by
 obtain ⟨ad,b,a1,a2,a3,a4⟩:=u.mem (fun q=>by rw [q] at hs;simp at hs)
 obtain ⟨F,fc,K,kc,e,uf,uk⟩:=a4 i s hs
 exact ⟨ad,F,fc,K,kc,a1,LdN_of a2 a3 rfl e,uf,uk⟩
theorem StpS.take {h:Heap} {A:Option Addr} {n c:Nat} {l:List Stp} (u:StpS h A n c l) {m:Nat} (hm:m<=n):StpS h A m c (l.take m) where
 len:=by rw [List.length_take,<- u.len];omega
 cap:=Nat.le_trans hm u.cap
 mem hn:=by
  obtain ⟨ad,b,a1,a2,a3,a4⟩:=u.mem (fun q=>hn (by rw [q];simp))
  refine ⟨ad,b,a1,a2,a3,fun i s hs=>a4 i s ?_⟩
  have hi:=(List.getElem?_eq_some_iff.1 hs).1
  rw [List.length_take] at hi
  rw [List.getElem?_take_of_lt (by omega)] at hs
  exact hs
def SzS (s:Stp):Prop:=s.name.length<=100000/\s.frm.length<=1000/\s.nums.length<=1000/\SzsL s.nums/\ ∀ x∈s.frm,x.length<=100000
def SzSs (l:List Stp):Prop:= ∀ s∈l,SzS s
def isUp (x:UInt8):Bool:=decide (65<=x.toNat/\x.toNat<=90)
def ptCh (i:Nat) (x:UInt8):Bool:=isUp x||(decide (i≠0)&&(isLow x||isDg x))
def isPointV (l:List UInt8):Bool:=decide (1<=l.length/\l.length<=8)&&(l.zipIdx.all fun p=>ptCh p.2 p.1)
theorem ptAll {l:List UInt8}:(l.zipIdx.all fun p=>ptCh p.2 p.1)=true ↔ ∀ i x,l[i]?=some x->ptCh i x=true:=by
 rw [List.all_eq_true]
 constructor
 ·intro h i x hx
  exact h (x,i) (List.mem_zipIdx_iff_getElem?.2 hx)
 ·rintro h ⟨x,i⟩ hx
  exact h i x (List.mem_zipIdx_iff_getElem?.1 hx)
theorem drPoint_c (l:List UInt8) (hl:l.length<=1000000) (h:Heap):CallsU Tryz.prog 114 [sv l] h fun r h' => r = .bool (isPointV l)/\h=h' := by
 apply draft_isPoint_ok
 unfold draft_isPoint_vc
 rw [ba_size]
 have bad : ∀ i x,l[i]?=some x->ptCh i x=false->isPointV l=false:=fun i x hx hn=>by
  unfold isPointV
  rw [Bool.and_eq_false_iff]
  refine Or.inr ?_
  cases hh:(l.zipIdx.all fun p=>ptCh p.2 p.1) with
  | false=>rfl
  | true=>rw [ptAll.1 hh i x hx] at hn;cases hn
 refine ⟨fun m i h' => ∃ k,k<=l.length/\m=l.length-k/\i=(k:Int)/\h=h' /\ ∀ j x,j<k->l[j]?=some x->ptCh j x=true,⟨l.length,0,by omega,by omega,rfl,rfl,fun j x hj=>by omega⟩, ?_⟩
 rintro m _ _ ⟨k,hk,rfl,rfl,rfl,hall⟩
 refine Br.mk (fun q=> ?_) (fun q=> ?_)
 ·have hlt:k<l.length:=by have:=of_decide_eq_true q;omega
  obtain ⟨x,hx⟩ : ∃ x,l[k]?=some x:=⟨_,List.getElem?_eq_getElem hlt⟩
  have go:ptCh k x=true-> ∃ m_1,m_1<l.length-k/\ ∃ k', k' <= l.length/\m_1=l.length-k' /\ IntKind.i64.wrap ((k:Int)+1)=(k' : Int)/\h=h/\ ∀ j x,j<k' -> l[j]?=some x->ptCh j x=true:=fun hn=>by
   refine ⟨l.length-(k+1),by omega,k+1,by omega,rfl,wi (by omega) (by omega),rfl,fun j y hj hy=> ?_⟩
   rcases Nat.lt_succ_iff_lt_or_eq.1 hj with q | q
   ·exact hall j y q hy
   ·subst q
    rw [hx] at hy
    cases hy
    exact hn
  refine ⟨x,by omega,by rw [Int.toNat_natCast,ba_get];exact hx,fun t h' => h=h' /\ t=isUp x, ?_, ?_⟩
  ·rintro t _ ⟨rfl,rfl⟩
   refine ⟨fun t h' => h=h' /\ t=(isLow x||isDg x), ?_, ?_⟩
   ·rintro t _ ⟨rfl,rfl⟩
    refine Br.mk (fun q3=>Br.mk (fun q4=> ?_) (fun q4=>Br.mk (fun q5=> ?_) (fun q5=> ?_))) (fun q3=> ?_)
    ·have hu:isUp x=false:=by simpa using q3
     have hk0:k=0:=by have:=beq_iff_eq.1 q4;omega
     rw [bad k x hx (by unfold ptCh;rw [hu,hk0];rfl)]
     exact ⟨rfl,rfl⟩
    ·have hu:isUp x=false:=by simpa using q3
     have ho:(isLow x||isDg x)=false:=by rw [Bool.not_eq_true'] at q5;exact q5
     rw [bad k x hx (by unfold ptCh;rw [hu,ho];simp)]
     exact ⟨rfl,rfl⟩
    ·have hk0:k≠0:=by have:=beq_eq_false_iff_ne.1 q4;omega
     have ho:(isLow x||isDg x)=true:=by rw [Bool.not_eq_false'] at q5;exact q5
     rintro _ rfl
     exact go (by unfold ptCh;rw [ho];simp [hk0])
    ·have hu:isUp x=true:=by simpa using q3
     rintro _ rfl
     exact go (by unfold ptCh;rw [hu];rfl)
   ·have dg : ∀ {t:Bool},(t=isDg x)->isLow x=false->t=(isLow x||isDg x):=fun e1 e2=>by rw [e2,e1];rfl
    have hdg:isDg x=decide (48<=x.toNat/\x.toNat<=57):=rfl
    refine Br.mk (fun q3=>Br.mk (fun q4=>⟨rfl, ?_⟩) (fun q4=>Br.mk (fun q5=>⟨rfl,dg ?_ ?_⟩) (fun q5=>⟨rfl,dg ?_ ?_⟩))) (fun q3=>Br.mk (fun q5=>⟨rfl,dg ?_ ?_⟩) (fun q5=>⟨rfl,dg ?_ ?_⟩))
    ·have h1:=of_decide_eq_true q3
     have h2:=of_decide_eq_true q4
     have:isLow x=true:=by unfold isLow;rw [decide_eq_true_eq];omega
     rw [this];rfl
    ·have h1:=of_decide_eq_true q5
     rw [hdg,Bool.eq_iff_iff,decide_eq_true_eq,decide_eq_true_eq];omega
    ·have h2:=of_decide_eq_false q4
     unfold isLow;rw [decide_eq_false_iff_not];omega
    ·have h1:=of_decide_eq_false q5
     rw [hdg];symm;rw [decide_eq_false_iff_not];omega
    ·have h2:=of_decide_eq_false q4
     unfold isLow;rw [decide_eq_false_iff_not];omega
    ·have h1:=of_decide_eq_true q5
     rw [hdg,Bool.eq_iff_iff,decide_eq_true_eq,decide_eq_true_eq];omega
    ·have h2:=of_decide_eq_false q3
     unfold isLow;rw [decide_eq_false_iff_not];omega
    ·have h1:=of_decide_eq_false q5
     rw [hdg];symm;rw [decide_eq_false_iff_not];omega
    ·have h2:=of_decide_eq_false q3
     unfold isLow;rw [decide_eq_false_iff_not];omega
  ·unfold isUp
   refine Br.mk (fun q3=>⟨rfl, ?_⟩) (fun q3=>⟨rfl, ?_⟩)
   ·have:=of_decide_eq_true q3
    rw [Bool.eq_iff_iff,decide_eq_true_eq,decide_eq_true_eq]
    omega
   ·have:=of_decide_eq_false q3
    symm;rw [decide_eq_false_iff_not];omega
 ·have hk' : k=l.length:=by have:=of_decide_eq_false q;omega
  subst hk'
  have hz:(l.zipIdx.all fun p=>ptCh p.2 p.1)=true:=ptAll.2 fun i x hx=>hall i x (List.getElem?_eq_some_iff.1 hx).1 hx
  unfold isPointV
  rw [hz,Bool.and_true]
  refine Br.mk (fun q2=>⟨?_,rfl⟩) (fun q2=>⟨?_,rfl⟩)
  ·have:=of_decide_eq_true q2
   congr 1
   rw [Bool.eq_iff_iff,decide_eq_true_eq,decide_eq_true_eq]
   omega
  ·have:=of_decide_eq_false q2
   congr 1
   symm;rw [decide_eq_false_iff_not];omega
def defV (l:List Stp) (nm:List UInt8):Bool:=l.any fun s=>s.name==nm
theorem defV_take {l:List Stp} {nm:List UInt8} {k:Nat} (h : ∀ j s,j<k->l[j]?=some s->s.name≠nm):k=l.length->defV l nm=false:=fun e=>by
 unfold defV
 rw [List.any_eq_false]
 intro s hs
 obtain ⟨j,hj⟩:=List.getElem?_of_mem hs
 have:=h j s (by rw [e];exact (List.getElem?_eq_some_iff.1 hj).1) hj
 simpa using this
theorem drDefined_c {h:Heap} {A:Option Addr} {n c:Nat} {l:List Stp} (u:StpS h A n c l) (hn:n<=1000000) (nm:List UInt8) :
  CallsU Tryz.prog 93 [.slice A n c,sv nm] h fun r h' => r = .bool (defV l nm)/\h=h' := by
 apply draft_defined_ok
 have hlen:=u.len
 refine ⟨fun m i h' => ∃ k,k<=l.length/\m=l.length-k/\i=(k:Int)/\h=h' /\ ∀ j s,j<k->l[j]?=some s->s.name≠nm,⟨l.length,0,by omega,by omega,rfl,rfl,fun j s hj=>by omega⟩, ?_⟩
 rintro m _ _ ⟨k,hk,rfl,rfl,rfl,hall⟩
 refine Br.mk (fun q=> ?_) (fun q=> ?_)
 ·have hlt:k<l.length:=by have:=of_decide_eq_true q;omega
  obtain ⟨s,hs⟩ : ∃ s,l[k]?=some s:=⟨_,List.getElem?_eq_getElem hlt⟩
  obtain ⟨ad,F,fc,K,kc,eA,hld,_,_⟩:=u.get hs
  refine ⟨ad,eA,by omega,by omega,_,_,_,_,_,_,_,_,by rw [Int.toNat_natCast];exact hld, ?_⟩
  rw [bytes_toList,bytes_toList]
  refine Br.mk (fun q2=>⟨?_,rfl⟩) (fun q2=> ?_)
  ·have:defV l nm=true:=by
    unfold defV
    rw [List.any_eq_true]
    exact ⟨s,List.mem_of_getElem? hs,by rw [beq_iff_eq.1 q2];simp⟩
   rw [this]
  ·rintro _ rfl
   refine ⟨l.length-(k+1),by omega,k+1,by omega,rfl,wi (by omega) (by omega),rfl,fun j y hj hy=> ?_⟩
   rcases Nat.lt_succ_iff_lt_or_eq.1 hj with q | q
   ·exact hall j y q hy
   ·subst q
    rw [hs] at hy
    cases hy
    exact beq_eq_false_iff_ne.1 q2
 ·have hk' : k=l.length:=by have:=of_decide_eq_false q;omega
  rw [defV_take hall hk']
  exact ⟨rfl,rfl⟩
def chkNm (l:List Stp) (s:Stp):Int:=if defV l s.name then 7 else if s.frm.all fun x=>defV l x then 0 else 6
theorem drNames_c {h:Heap} {A:Option Addr} {n c:Nat} {l:List Stp} (u:StpS h A n c l) (hn:n<=1000000) {s:Stp} {F:Option Addr} {fc:Nat} {K:Option Addr} {kn kc:Nat} (uf:Sl sv h F s.frm.length fc s.frm) (hf:s.frm.length<=1000000) :
  CallsU Tryz.prog 49 [.slice A n c,.agg #[sv s.name,.int .i64 s.kind,.slice F s.frm.length fc,.slice K kn kc]] h fun r h' => r = .int .i64 (chkNm l s)/\h=h' := by
 apply draft_checkNames_ok
 refine (drDefined_c u hn s.name).mono ?_
 rintro _ _ ⟨rfl,rfl⟩
 unfold chkNm
 refine ⟨_,rfl,Br.mk (fun q=> ?_) (fun q=> ?_)⟩
 ·rw [if_pos q];exact ⟨rfl,rfl⟩
 rw [if_neg (by rw [q];decide)]
 refine ⟨fun m i h' => ∃ k,k<=s.frm.length/\m=s.frm.length-k/\i=(k:Int)/\h=h' /\ ∀ j x,j<k->s.frm[j]?=some x->defV l x=true,⟨s.frm.length,0,by omega,by omega,rfl,rfl,fun j x hj=>by omega⟩, ?_⟩
 rintro m _ _ ⟨k,hk,rfl,rfl,rfl,hall⟩
 refine Br.mk (fun q1=> ?_) (fun q1=> ?_)
 ·have hlt:k<s.frm.length:=by have:=of_decide_eq_true q1;omega
  obtain ⟨x,hx⟩ : ∃ x,s.frm[k]?=some x:=⟨_,List.getElem?_eq_getElem hlt⟩
  obtain ⟨ad,eA,hld⟩:=uf.get hx
  refine ⟨ad,eA,by omega,by omega,_,by rw [Int.toNat_natCast];exact hld,(drDefined_c u hn x).mono ?_⟩
  rintro _ _ ⟨rfl,rfl⟩
  refine ⟨_,rfl,Br.mk (fun q2=> ?_) (fun q2=> ?_)⟩
  ·have hd:defV l x=false:=by simpa using q2
   rw [if_neg]
   ·exact ⟨rfl,rfl⟩
   ·intro ha
    have:=List.all_eq_true.1 ha x (List.mem_of_getElem? hx)
    rw [hd] at this
    cases this
  ·have hd:defV l x=true:=by simpa using q2
   rintro _ rfl
   refine ⟨s.frm.length-(k+1),by omega,k+1,by omega,rfl,wi (by omega) (by omega),rfl,fun j y hj hy=> ?_⟩
   rcases Nat.lt_succ_iff_lt_or_eq.1 hj with q | q
   ·exact hall j y q hy
   ·subst q
    rw [hx] at hy
    cases hy
    exact hd
 ·have hk' : k=s.frm.length:=by have:=of_decide_eq_false q1;omega
  rw [if_pos]
  ·exact ⟨rfl,rfl⟩
  ·rw [List.all_eq_true]
   intro x hx
   obtain ⟨j,hj⟩:=List.getElem?_of_mem hx
   exact hall j x (by rw [hk'];exact (List.getElem?_eq_some_iff.1 hj).1) hj
def frCells:List Value:=[sv [],.int .i64 0,sv [],.int .i64 0,sv [97,116],.int .i64 0,sv [],.int .i64 2,sv [102,114,111,109],.int .i64 1,sv [98,121],.int .i64 2,sv [111,110],.int .i64 2,sv [97,116],.int .i64 1,sv [109,101,101,116],.int .i64 4,sv [],.int .i64 0,sv [102,111,111,116],.int .i64 3,sv [],.int .i64 0,sv [109,105,114,114,111,114],.int .i64 3,sv [],.int .i64 0]
def Frms (h:Heap):Prop:= ∃ b:Blk,h 0=some b/\b.cells=frCells
theorem Frms.mono {h h' : Heap} (t:Frms h) (l:Le h h'):Frms h' := let ⟨b,a,c⟩:=t;⟨b,l _ _ a,c⟩
def frN (k:Int):Int:=if k=2 then 1 else if k=3 then 2 else if k=4 then 4 else if k=5\/k=6 then 3 else 0
def nuN (k:Int):Int:=if k=1\/k=2 then 2 else if k=3 then 1 else 0
def wdN (k:Int):List UInt8:=if k=1 then [97,116] else if k=2 then [102,114,111,109] else if k=3 then [111,110] else if k=4 then [109,101,101,116] else if k=5 then [102,111,111,116] else if k=6 then [109,105,114,114,111,114] else []
def lkN (k:Int):List UInt8:=if k=2 then [98,121] else if k=3 then [97,116] else []
theorem Frms.row {h:Heap} (t:Frms h) {k:Int} (h1:0<=k) (h2:k<=6):LdN h (Addr.add ⟨0,0,none⟩ (Int.toNat k*4)) [sv (wdN k),.int .i64 (frN k),sv (lkN k),.int .i64 (nuN k)]:=by
 obtain ⟨b,hb,hc⟩:=t
 have hk:k=0\/k=1\/k=2\/k=3\/k=4\/k=5\/k=6:=by omega
 refine LdN_of (ad:=⟨0,0,none⟩) rfl hb rfl ?_
 rw [hc]
 rcases hk with rfl | rfl | rfl | rfl | rfl | rfl | rfl<;>rfl
theorem LdN.cell {h:Heap} {p:Addr} {vs:List Value} (u:LdN h p vs) {i:Nat} {v:Value} (hv:vs[i]?=some v):LdN h (p.add i) [v]:=by
 obtain ⟨sp,b,hb,hc⟩:=u
 refine ld_of sp hb ?_
 have hi:=(List.getElem?_eq_some_iff.1 hv).1
 rw [<- hc,List.getElem?_take_of_lt hi,List.getElem?_drop] at hv
 exact hv
def chkFm (s:Stp):Int:=if isPointV s.name&&decide (1<=s.kind/\s.kind<=6)&&decide ((s.frm.length:Int)=frN s.kind/\(s.nums.length:Int)=nuN s.kind) then chkL s.nums 1 else 1
theorem drForm_c {h:Heap} {s:Stp} {F:Option Addr} {fc:Nat} {K:Option Addr} {kc:Nat} (uk:IsK h K s.nums.length kc s.nums) (z:SzS s) (t:Frms h) :
  CallsU Tryz.prog 64 [.agg #[sv s.name,.int .i64 s.kind,.slice F s.frm.length fc,.slice K s.nums.length kc]] h fun r h' => r = .int .i64 (chkFm s)/\Le h h' := by
 obtain ⟨z1,z2,z3,z4,z5⟩:=z
 apply draft_checkForm_ok
 unfold chkFm
 refine ⟨fun t h' => h=h' /\ t = !(isPointV s.name&&decide (1<=s.kind/\s.kind<=6)), ?_, ?_⟩
 ·rintro _ _ ⟨rfl,rfl⟩
  refine Br.mk (fun q=> ?_) (fun q=> ?_)
  ·have:(isPointV s.name&&decide (1<=s.kind/\s.kind<=6))=false:=by rw [Bool.not_eq_true'] at q;exact q
   rw [this]
   exact ⟨rfl,Le.refl _⟩
  ·have hp:(isPointV s.name&&decide (1<=s.kind/\s.kind<=6))=true:=by rw [Bool.not_eq_false'] at q;exact q
   rw [hp,Bool.true_and]
   rw [Bool.and_eq_true,decide_eq_true_eq] at hp
   obtain ⟨hp1,hk1,hk6⟩:=hp
   have row:=t.row (by omega:(0:Int)<=s.kind) hk6
   refine ⟨fun t h' => h=h' /\ t = !decide ((s.frm.length:Int)=frN s.kind/\(s.nums.length:Int)=nuN s.kind), ?_,by omega,by omega,_,LdN.cell row (i:=1) rfl, ?_⟩
   ·rintro _ _ ⟨rfl,rfl⟩
    refine Br.mk (fun q=> ?_) (fun q=> ?_)
    ·have:decide ((s.frm.length:Int)=frN s.kind/\(s.nums.length:Int)=nuN s.kind)=false:=by rw [Bool.not_eq_true'] at q;exact q
     rw [this]
     exact ⟨rfl,Le.refl _⟩
    ·have hd:decide ((s.frm.length:Int)=frN s.kind/\(s.nums.length:Int)=nuN s.kind)=true:=by rw [Bool.not_eq_false'] at q;exact q
     rw [hd,if_pos rfl]
     refine ⟨fun m i h' => ∃ k,k<=s.nums.length/\m=s.nums.length-k/\i=(k:Int)/\Le h h' /\ ∀ j e,j<k->s.nums[j]?=some e->chkV e 1=0,⟨s.nums.length,0,by omega,by omega,rfl,Le.refl _,fun j e hj=>by omega⟩, ?_⟩
     rintro m _ h1 ⟨k,hk,rfl,rfl,hle,hall⟩
     refine Br.mk (fun q1=> ?_) (fun q1=> ?_)
     ·have hlt:k<s.nums.length:=by have:=of_decide_eq_true q1;omega
      obtain ⟨x,hx⟩ : ∃ x,s.nums[k]?=some x:=⟨_,List.getElem?_eq_getElem hlt⟩
      obtain ⟨ad,vs,eA,hld,ux⟩:=(uk.mono hle).get hx
      have ux' := ux
      obtain ⟨sx,Ax,cx,Bx,dx,Kx,kcx,rfl,_,_,_⟩:=ux'.open
      refine ⟨ad,eA,by omega,by omega,_,_,_,_,_,_,_,_,_,_,_,_,by rw [Int.toNat_natCast];exact hld,(foChk_c ux (SzsL.get z4 hx)).mono ?_⟩
      rintro _ h2 ⟨rfl,hl2⟩
      refine ⟨_,rfl,Br.mk (fun q2=> ?_) (fun q2=> ?_)⟩
      ·have hne:chkV x 1≠0:=by simpa using q2
       have e1:=chkL_get s.nums 1 k hall
       rw [e1,List.drop_eq_getElem_cons hlt,chkL]
       have ex:s.nums[k]=x:=by rw [List.getElem?_eq_getElem hlt] at hx;exact Option.some.inj hx
       rw [ex,if_neg hne]
       exact ⟨rfl,hle.trans hl2⟩
      ·have h0:chkV x 1=0:=by simpa using q2
       rintro _ rfl
       refine ⟨s.nums.length-(k+1),by omega,k+1,by omega,rfl,wi (by omega) (by omega),hle.trans hl2,fun j y hj hy=> ?_⟩
       rcases Nat.lt_succ_iff_lt_or_eq.1 hj with q | q
       ·exact hall j y q hy
       ·subst q
        rw [hx] at hy
        cases hy
        exact h0
     ·have hk' : k=s.nums.length:=by have:=of_decide_eq_false q1;omega
      have e1:=chkL_get s.nums 1 k hall
      rw [hk', List.drop_length,chkL] at e1
      rw [e1]
      exact ⟨rfl,hle⟩
   ·refine Br.mk (fun q1=>⟨rfl, ?_⟩) (fun q1=>⟨by omega,by omega,_,LdN.cell row (i:=3) rfl,rfl, ?_⟩)
    ·have:(s.frm.length:Int)≠frN s.kind:=by simpa using q1
     rw [decide_eq_false (fun q=>this q.1)];rfl
    ·have h1:(s.frm.length:Int)=frN s.kind:=by simpa using q1
     rw [Bool.eq_iff_iff,bne_iff_ne,Bool.not_eq_true', decide_eq_false_iff_not]
     exact ⟨fun h q=>h q.2,fun h q=>h ⟨h1,q⟩⟩
 ·refine (drPoint_c s.name (by omega) h).mono ?_
  rintro _ _ ⟨rfl,rfl⟩
  refine ⟨_,rfl,Br.mk (fun q=>⟨rfl, ?_⟩) (fun q=> ?_)⟩
  ·have:isPointV s.name=false:=by simpa using q
   rw [this];rfl
  ·have hp:isPointV s.name=true:=by simpa using q
   rw [hp,Bool.true_and]
   refine Br.mk (fun q1=>⟨rfl, ?_⟩) (fun q1=>⟨rfl, ?_⟩)
   ·have:=of_decide_eq_true q1
    rw [decide_eq_false (by omega)];rfl
   ·have:=of_decide_eq_false q1
    rw [Bool.eq_iff_iff,decide_eq_true_eq,Bool.not_eq_true', decide_eq_false_iff_not]
    omega
def chkFr (l:List Stp):Nat->Nat->Int×Nat
 | 0,_=>(0,0)
 | f+1,i=>match l[i]? with
  | none=>(0,0)
  | some s=>if chkFm s=0 then (if chkNm (l.take i) s=0 then chkFr l f (i+1) else (chkNm (l.take i) s,i)) else (chkFm s,i)
def checkV (l:List Stp):Int×Nat:=if 64<l.length then (5,64) else chkFr l l.length 0
theorem drCheck_c {h:Heap} {A:Option Addr} {n c:Nat} {l:List Stp} (u:StpS h A n c l) (hn:n<=1000000) (z:n<=64->SzSs l) (t:Frms h) :
  CallsU Tryz.prog 31 [.slice A n c] h fun r h' => r = .tuple #[.int .i64 (checkV l).1,.int .i64 ((checkV l).2:Int)]/\Le h h' := by
 apply draft_check_ok
 have hlen:=u.len
 have hcap:=u.cap
 unfold checkV
 refine Br.mk (fun q=> ?_) (fun q=> ?_)
 ·have:=of_decide_eq_true q
  rw [if_pos (by omega)]
  exact ⟨rfl,Le.refl _⟩
 have hn64:n<=64:=by have:=of_decide_eq_false q;omega
 rw [if_neg (by omega)]
 refine ⟨fun m i h' => ∃ k,k<=l.length/\m=l.length-k/\i=(k:Int)/\Le h h' /\ chkFr l l.length 0=chkFr l (l.length-k) k,⟨l.length,0,by omega,by omega,rfl,Le.refl _,by simp⟩, ?_⟩
 rintro m _ h1 ⟨k,hk,rfl,rfl,hle,heq⟩
 refine Br.mk (fun q1=> ?_) (fun q1=> ?_)
 ·have hlt:k<l.length:=by have:=of_decide_eq_true q1;omega
  obtain ⟨s,hs⟩ : ∃ s,l[k]?=some s:=⟨_,List.getElem?_eq_getElem hlt⟩
  have u1:=u.mono hle
  obtain ⟨ad,F,fc,K,kc,eA,hld,uf,uk⟩:=u1.get hs
  have zs:=z hn64 s (List.mem_of_getElem? hs)
  have ek:l.length-k=(l.length-(k+1))+1:=by omega
  rw [ek,chkFr,hs] at heq
  simp only at heq
  refine ⟨ad,eA,by omega,by omega,_,_,_,_,_,_,_,_,by rw [Int.toNat_natCast];exact hld,(drForm_c uk zs (t.mono hle)).mono ?_⟩
  rintro _ h2 ⟨rfl,hl2⟩
  refine ⟨_,rfl,Br.mk (fun q2=> ?_) (fun q2=> ?_)⟩
  ·have h0:chkFm s=0:=beq_iff_eq.1 q2
   rw [if_pos h0] at heq
   refine ⟨by omega,by omega, ?_⟩
   rw [Int.toNat_natCast]
   have z2:=zs.2.1
   refine (drNames_c ((u1.mono hl2).take (m:=k) (by omega)) (by omega) (uf.mono hl2) (by omega)).mono ?_
   rintro _ _ ⟨rfl,rfl⟩
   refine ⟨_,rfl,Br.mk (fun q3=> ?_) (fun q3=> ?_)⟩
   ·have hne:chkNm (l.take k) s≠0:=by simpa using q3
    rw [if_neg hne] at heq
    rw [heq]
    exact ⟨rfl,hle.trans hl2⟩
   ·have h3:chkNm (l.take k) s=0:=by simpa using q3
    rw [if_pos h3] at heq
    rintro _ rfl
    exact ⟨l.length-(k+1),by omega,k+1,by omega,rfl,wi (by omega) (by omega),hle.trans hl2,heq⟩
  ·have h0:chkFm s≠0:=beq_eq_false_iff_ne.1 q2
   rw [if_neg h0] at heq
   refine Br.mk (fun _=> ?_) (fun q3=>absurd (bne_eq_false_iff_eq.1 q3) h0)
   rw [heq]
   exact ⟨rfl,hle.trans hl2⟩
 ·have hk' : k=l.length:=by have:=of_decide_eq_false q1;omega
  rw [hk', Nat.sub_self,chkFr] at heq
  rw [heq]
  exact ⟨rfl,hle⟩
theorem drChk_c {h:Heap} {A:Option Addr} {n c:Nat} {l:List Stp} (u:StpS h A n c l) (hn:n<=1000000) (z:n<=64->SzSs l) (t:Frms h) :
  CallsU Tryz.prog 13 [.slice A n c] h fun r h' => r = .int .i64 (checkV l).1/\Le h h' := by
 apply draft_Check_ok
 refine (drCheck_c u hn z t).mono ?_
 rintro _ h1 ⟨rfl,hl⟩
 exact ⟨_,_,rfl,rfl,hl⟩
structure QC where
 s:Bool
 A:Option Addr
 n:Nat
 c:Nat
 B:Option Addr
 m:Nat
 d:Nat
abbrev qv (x:QC):Value:= .agg #[.bool x.s,.slice x.A x.n x.c,.slice x.B x.m x.d]
abbrev pv (x y:QC):Value:= .agg #[.bool x.s,.slice x.A x.n x.c,.slice x.B x.m x.d,.bool y.s,.slice y.A y.n y.c,.slice y.B y.m y.d]
abbrev zP:Value:= .agg #[.bool false,.slice none 0 0,.slice none 0 0,.bool false,.slice none 0 0,.slice none 0 0]
def QB (h:Heap) (k:Nat) (q:Rat) (x:QC):Prop:=NmQ h x.s x.A x.n x.c x.B x.m x.d q/\x.n<=k/\x.m<=k
def PB (h:Heap) (k:Nat) (p:Rat×Rat) (x y:QC):Prop:=QB h k p.1 x/\QB h k p.2 y
theorem QB.mono {h h' : Heap} {k:Nat} {q:Rat} {x:QC} (u:QB h k q x) (l:Le h h'):QB h' k q x:=⟨u.1.mono l,u.2⟩
theorem QB.le {h:Heap} {k k' : Nat} {q:Rat} {x:QC} (u:QB h k q x) (l:k<=k'):QB h k' q x:=⟨u.1,Nat.le_trans u.2.1 l,Nat.le_trans u.2.2 l⟩
theorem PB.mono {h h' : Heap} {k:Nat} {p:Rat×Rat} {x y:QC} (u:PB h k p x y) (l:Le h h'):PB h' k p x y:=⟨u.1.mono l,u.2.mono l⟩
theorem PB.le {h:Heap} {k k' : Nat} {p:Rat×Rat} {x y:QC} (u:PB h k p x y) (l:k<=k'):PB h k' p x y:=⟨u.1.le l,u.2.le l⟩
def ptAdd (a b:Rat×Rat):Rat×Rat:=(a.1+b.1,a.2+b.2)
def ptSub (a b:Rat×Rat):Rat×Rat:=(a.1-b.1,a.2-b.2)
def ptScale (a:Rat×Rat) (r:Rat):Rat×Rat:=(a.1*r,a.2*r)
def ptDot (a b:Rat×Rat):Rat:=a.1*b.1+a.2*b.2
def ptCross (a b:Rat×Rat):Rat:=a.1*b.2-a.2*b.1
def ptOn (a b:Rat×Rat) (t:Rat):Rat×Rat:=ptAdd a (ptScale (ptSub b a) t)
def ptMeet (a b c d:Rat×Rat):Except Int (Rat×Rat):=if ptCross (ptSub b a) (ptSub d c)=0 then .error 10 else .ok (ptOn a b (ptCross (ptSub c a) (ptSub d c)/ptCross (ptSub b a) (ptSub d c)))
def ptFoot (p a b:Rat×Rat):Except Int (Rat×Rat):=if ptDot (ptSub b a) (ptSub b a)=0 then .error 10 else .ok (ptOn a b (ptDot (ptSub p a) (ptSub b a)/ptDot (ptSub b a) (ptSub b a)))
def ptMirror (p a b:Rat×Rat):Except Int (Rat×Rat):=match ptFoot p a b with
 | .error e=> .error e
 | .ok f=> .ok (ptSub (ptAdd f f) p)
def PtR (o:Except Int (Rat×Rat)) (k:Nat) (r:Value) (h' : Heap):Prop:=
 match o with
 | .ok p=> ∃ z z', r = .tuple #[pv z z', .int .i64 0]/\PB h' k p z z'
 | .error e=>r = .tuple #[zP,.int .i64 e]
theorem PtR.le {o:Except Int (Rat×Rat)} {k k' : Nat} {r:Value} {h:Heap} (u:PtR o k r h) (l:k<=k'):PtR o k' r h:=by
 cases o with
 | error e=>exact u
 | ok p=>
  obtain ⟨z,z', e,w⟩:=u
  exact ⟨z,z', e,w.le l⟩
theorem PtR.shape {o:Except Int (Rat×Rat)} {k:Nat} {r:Value} {h:Heap} (u:PtR o k r h) : ∃ (a0:Bool) (a1:Option Addr) (a2 a3:Nat) (a4:Option Addr) (a5 a6:Nat) (b0:Bool) (b1:Option Addr) (b2 b3:Nat) (b4:Option Addr) (b5 b6:Nat) (er:Int),r = .tuple #[.agg #[.bool a0,.slice a1 a2 a3,.slice a4 a5 a6,.bool b0,.slice b1 b2 b3,.slice b4 b5 b6],.int .i64 er]:=by
 cases o with
 | error e=>exact ⟨_,_,_,_,_,_,_,_,_,_,_,_,_,_,e,u⟩
 | ok p=>
  obtain ⟨z,z', e,_⟩:=u
  exact ⟨_,_,_,_,_,_,_,_,_,_,_,_,_,_,0,e⟩
def DivR (q p:Rat) (k:Nat) (r:Value) (h' : Heap):Prop:=(p=0/\r = .tuple #[.agg #[.bool false,.slice none 0 0,.slice none 0 0],.bool false])\/(p≠0/\ ∃ z,r = .tuple #[qv z,.bool true]/\QB h' k (q/p) z)
theorem pqadd_c {h:Heap} {k k' : Nat} {q p:Rat} {x y:QC} (u:QB h k q x) (w:QB h k' p y) (hk:k<=60000000) (hk' : k' <= 60000000):CallsU Tryz.prog 40 [qv x,qv y] h fun r h' => ∃ z,r=qv z/\QB h' (k+k' + 8) (q+p) z/\Le h h' := by
 obtain ⟨u1,u2,u3⟩:=u
 obtain ⟨w1,w2,w3⟩:=w
 refine (radd_b u1.is w1.is (by omega) (by omega) (by omega) (by omega)).mono ?_
 rintro _ h1 ⟨s,A,n,c,B,m,d,rfl,hN,a,b,hl⟩
 exact ⟨⟨s,A,n,c,B,m,d⟩,rfl,⟨hN,by simp only;omega,by simp only;omega⟩,hl⟩
theorem pqsub_c {h:Heap} {k k' : Nat} {q p:Rat} {x y:QC} (u:QB h k q x) (w:QB h k' p y) (hk:k<=60000000) (hk' : k' <= 60000000):CallsU Tryz.prog 198 [qv x,qv y] h fun r h' => ∃ z,r=qv z/\QB h' (k+k' + 8) (q-p) z/\Le h h' := by
 obtain ⟨u1,u2,u3⟩:=u
 obtain ⟨w1,w2,w3⟩:=w
 refine (rsub_c u1.is w1.is (by omega) (by omega) (by omega) (by omega)).mono ?_
 rintro _ h1 ⟨s,A,n,c,B,m,d,rfl,hN,a,b,hl⟩
 exact ⟨⟨s,A,n,c,B,m,d⟩,rfl,⟨hN,by simp only;omega,by simp only;omega⟩,hl⟩
theorem pqmul_c {h:Heap} {k k' : Nat} {q p:Rat} {x y:QC} (u:QB h k q x) (w:QB h k' p y) (hk:k<=60000000) (hk' : k' <= 60000000):CallsU Tryz.prog 199 [qv x,qv y] h fun r h' => ∃ z,r=qv z/\QB h' (k+k' + 8) (q*p) z/\Le h h' := by
 obtain ⟨u1,u2,u3⟩:=u
 obtain ⟨w1,w2,w3⟩:=w
 refine (rmul_c u1.is w1.is (by omega) (by omega) (by omega) (by omega)).mono ?_
 rintro _ h1 ⟨s,A,n,c,B,m,d,rfl,hN,a,b,hl⟩
 exact ⟨⟨s,A,n,c,B,m,d⟩,rfl,⟨hN,by simp only;omega,by simp only;omega⟩,hl⟩
theorem pqdiv_c {h:Heap} {k k' : Nat} {q p:Rat} {x y:QC} (u:QB h k q x) (w:QB h k' p y) (hk:k<=60000000) (hk' : k' <= 60000000):CallsU Tryz.prog 129 [qv x,qv y] h fun r h' => DivR q p (k+k' + 8) r h' /\ Le h h' := by
 obtain ⟨u1,u2,u3⟩:=u
 obtain ⟨w1,w2,w3⟩:=w
 refine (rdiv_c u1.is w1.is (by omega) (by omega) (by omega) (by omega)).mono ?_
 rintro _ h1 ⟨(⟨h0,rfl⟩ | ⟨h0,s,A,n,c,B,m,d,rfl,hN,a,b⟩),hl⟩
 ·exact ⟨Or.inl ⟨h0,rfl⟩,hl⟩
 ·exact ⟨Or.inr ⟨h0,⟨s,A,n,c,B,m,d⟩,rfl,hN,by simp only;omega,by simp only;omega⟩,hl⟩
theorem padd_c {h:Heap} {k k' : Nat} {p p' : Rat×Rat} {x y x' y' : QC} (u:PB h k p x y) (w:PB h k' p' x' y') (hk:k<=60000000) (hk' : k' <= 60000000):CallsU Tryz.prog 18 [pv x y,pv x' y'] h fun r h' => ∃ z z', r=pv z z' /\ PB h' (k+k' + 8) (ptAdd p p') z z' /\ Le h h' := by
 apply point_Add_ok
 refine (pqadd_c u.1 w.1 hk hk').mono ?_
 rintro _ h1 ⟨z,rfl,uz,l1⟩
 refine ⟨_,_,_,_,_,_,_,rfl,l1,(pqadd_c (u.2.mono l1) (w.2.mono l1) hk hk').mono ?_⟩
 rintro _ h2 ⟨z', rfl,uz', l2⟩
 exact ⟨_,_,_,_,_,_,_,rfl,z,z', rfl,⟨uz.mono l2,uz'⟩,l1.trans l2⟩
theorem psub_c {h:Heap} {k k' : Nat} {p p' : Rat×Rat} {x y x' y' : QC} (u:PB h k p x y) (w:PB h k' p' x' y') (hk:k<=60000000) (hk' : k' <= 60000000):CallsU Tryz.prog 128 [pv x y,pv x' y'] h fun r h' => ∃ z z', r=pv z z' /\ PB h' (k+k' + 8) (ptSub p p') z z' /\ Le h h' := by
 apply point_Sub_ok
 refine (pqsub_c u.1 w.1 hk hk').mono ?_
 rintro _ h1 ⟨z,rfl,uz,l1⟩
 refine ⟨_,_,_,_,_,_,_,rfl,l1,(pqsub_c (u.2.mono l1) (w.2.mono l1) hk hk').mono ?_⟩
 rintro _ h2 ⟨z', rfl,uz', l2⟩
 exact ⟨_,_,_,_,_,_,_,rfl,z,z', rfl,⟨uz.mono l2,uz'⟩,l1.trans l2⟩
theorem pscale_c {h:Heap} {k k' : Nat} {p:Rat×Rat} {r:Rat} {x y z0:QC} (u:PB h k p x y) (w:QB h k' r z0) (hk:k<=60000000) (hk' : k' <= 60000000):CallsU Tryz.prog 127 [pv x y,qv z0] h fun r' h' => ∃ z z', r' = pv z z' /\ PB h' (k+k' + 8) (ptScale p r) z z' /\ Le h h' := by
 apply point_Scale_ok
 refine (pqmul_c u.1 w hk hk').mono ?_
 rintro _ h1 ⟨z,rfl,uz,l1⟩
 refine ⟨_,_,_,_,_,_,_,rfl,l1,(pqmul_c (u.2.mono l1) (w.mono l1) hk hk').mono ?_⟩
 rintro _ h2 ⟨z', rfl,uz', l2⟩
 exact ⟨_,_,_,_,_,_,_,rfl,z,z', rfl,⟨uz.mono l2,uz'⟩,l1.trans l2⟩
theorem pdot_c {h:Heap} {k k' : Nat} {p p' : Rat×Rat} {x y x' y' : QC} (u:PB h k p x y) (w:PB h k' p' x' y') (hk:k+k' <= 50000000):CallsU Tryz.prog 131 [pv x y,pv x' y'] h fun r h' => ∃ z,r=qv z/\QB h' (2*k+2*k' + 24) (ptDot p p') z/\Le h h' := by
 apply point_Dot_ok
 refine (pqmul_c u.1 w.1 (by omega) (by omega)).mono ?_
 rintro _ h1 ⟨z,rfl,uz,l1⟩
 refine ⟨_,_,_,_,_,_,_,rfl,l1,(pqmul_c (u.2.mono l1) (w.2.mono l1) (by omega) (by omega)).mono ?_⟩
 rintro _ h2 ⟨z', rfl,uz', l2⟩
 refine ⟨_,_,_,_,_,_,_,rfl,(pqadd_c (uz.mono l2) uz' (by omega) (by omega)).mono ?_⟩
 rintro _ h3 ⟨z2,rfl,uz2,l3⟩
 exact ⟨_,_,_,_,_,_,_,rfl,z2,rfl,uz2.le (by omega),(l1.trans l2).trans l3⟩
theorem pcross_c {h:Heap} {k k' : Nat} {p p' : Rat×Rat} {x y x' y' : QC} (u:PB h k p x y) (w:PB h k' p' x' y') (hk:k+k' <= 50000000):CallsU Tryz.prog 130 [pv x y,pv x' y'] h fun r h' => ∃ z,r=qv z/\QB h' (2*k+2*k' + 24) (ptCross p p') z/\Le h h' := by
 apply point_Cross_ok
 refine (pqmul_c u.1 w.2 (by omega) (by omega)).mono ?_
 rintro _ h1 ⟨z,rfl,uz,l1⟩
 refine ⟨_,_,_,_,_,_,_,rfl,l1,(pqmul_c (u.2.mono l1) (w.1.mono l1) (by omega) (by omega)).mono ?_⟩
 rintro _ h2 ⟨z', rfl,uz', l2⟩
 refine ⟨_,_,_,_,_,_,_,rfl,(pqsub_c (uz.mono l2) uz' (by omega) (by omega)).mono ?_⟩
 rintro _ h3 ⟨z2,rfl,uz2,l3⟩
 exact ⟨_,_,_,_,_,_,_,rfl,z2,rfl,uz2.le (by omega),(l1.trans l2).trans l3⟩
theorem pon_c {h:Heap} {k k' : Nat} {a b:Rat×Rat} {t:Rat} {x y x' y' z0:QC} (u:PB h k a x y) (w:PB h k b x' y') (ut:QB h k' t z0) (hk:k<=10000000) (hk' : k' <= 30000000):CallsU Tryz.prog 73 [pv x y,pv x' y', qv z0] h fun r h' => ∃ z z', r=pv z z' /\ PB h' (3*k+k' + 24) (ptOn a b t) z z' /\ Le h h' := by
 apply point_On_ok
 refine (psub_c w u (by omega) (by omega)).mono ?_
 rintro _ h1 ⟨z1,z2,rfl,u1,l1⟩
 refine ⟨_,_,_,_,_,_,_,_,_,_,_,_,_,_,rfl,l1,(pscale_c u1 (ut.mono l1) (by omega) (by omega)).mono ?_⟩
 rintro _ h2 ⟨z3,z4,rfl,u2,l2⟩
 refine ⟨_,_,_,_,_,_,_,_,_,_,_,_,_,_,rfl,l2,(padd_c (u.mono (l1.trans l2)) u2 (by omega) (by omega)).mono ?_⟩
 rintro _ h3 ⟨z5,z6,rfl,u3,l3⟩
 exact ⟨_,_,_,_,_,_,_,_,_,_,_,_,_,_,rfl,z5,z6,rfl,u3.le (by omega),(l1.trans l2).trans l3⟩
theorem pfoot_c {h:Heap} {k:Nat} {p a b:Rat×Rat} {x y x' y' x2 y2:QC} (up:PB h k p x y) (ua:PB h k a x' y') (ub:PB h k b x2 y2) (hk:k<=500000):CallsU Tryz.prog 75 [pv x y,pv x' y', pv x2 y2] h fun r h' => PtR (ptFoot p a b) (32*k+1000) r h' /\ Le h h' := by
 apply point_Foot_ok
 refine (psub_c ub ua (by omega) (by omega)).mono ?_
 rintro _ h1 ⟨z1,z2,rfl,u1,l1⟩
 refine ⟨_,_,_,_,_,_,_,_,_,_,_,_,_,_,rfl,(psub_c (up.mono l1) (ua.mono l1) (by omega) (by omega)).mono ?_⟩
 rintro _ h2 ⟨z3,z4,rfl,u2,l2⟩
 refine ⟨_,_,_,_,_,_,_,_,_,_,_,_,_,_,rfl,l2,(pdot_c u2 (u1.mono l2) (by omega)).mono ?_⟩
 rintro _ h3 ⟨z5,rfl,u3,l3⟩
 refine ⟨_,_,_,_,_,_,_,rfl,l3,(pdot_c ((u1.mono l2).mono l3) ((u1.mono l2).mono l3) (by omega)).mono ?_⟩
 rintro _ h4 ⟨z6,rfl,u4,l4⟩
 refine ⟨_,_,_,_,_,_,_,rfl,(pqdiv_c (u3.mono l4) u4 (by omega) (by omega)).mono ?_⟩
 rintro _ h5 ⟨hd,l5⟩
 have l15:=(((l1.trans l2).trans l3).trans l4).trans l5
 unfold ptFoot
 rcases hd with ⟨h0,rfl⟩ | ⟨h0,z7,rfl,u5⟩
 ·refine ⟨_,_,_,_,_,_,_,_,rfl,Br.mk (fun _=> ?_) (fun q=>by cases q)⟩
  rw [if_pos h0]
  exact ⟨rfl,l15⟩
 ·refine ⟨_,_,_,_,_,_,_,_,rfl,Br.mk (fun q=>by cases q) (fun _=>(pon_c (ua.mono l15) (ub.mono l15) u5 (by omega) (by omega)).mono ?_)⟩
  rintro _ h6 ⟨z8,z9,rfl,u6,l6⟩
  rw [if_neg h0]
  exact ⟨_,_,_,_,_,_,_,_,_,_,_,_,_,_,rfl,⟨z8,z9,rfl,u6.le (by omega)⟩,l15.trans l6⟩
theorem pmirror_c {h:Heap} {k:Nat} {p a b:Rat×Rat} {x y x' y' x2 y2:QC} (up:PB h k p x y) (ua:PB h k a x' y') (ub:PB h k b x2 y2) (hk:k<=500000):CallsU Tryz.prog 76 [pv x y,pv x' y', pv x2 y2] h fun r h' => PtR (ptMirror p a b) (65*k+2100) r h' /\ Le h h' := by
 apply point_Mirror_ok
 refine (pfoot_c up ua ub hk).mono ?_
 rintro _ h1 ⟨hf,l1⟩
 unfold ptMirror
 cases ho:ptFoot p a b with
 | error e=>
  rw [ho] at hf
  have he:e=10:=by
   unfold ptFoot at ho
   split at ho
   ·cases ho;rfl
   ·cases ho
  subst he
  cases hf
  exact ⟨_,_,_,_,_,_,_,_,_,_,_,_,_,_,_,rfl,Br.mk (fun _=>⟨rfl,l1⟩) (fun q=>by exact absurd q (by decide))⟩
 | ok f=>
  rw [ho] at hf
  obtain ⟨z1,z2,rfl,u1⟩:=hf
  refine ⟨_,_,_,_,_,_,_,_,_,_,_,_,_,_,_,rfl,Br.mk (fun q=>by exact absurd q (by decide)) (fun _=>(padd_c u1 u1 (by omega) (by omega)).mono ?_)⟩
  rintro _ h2 ⟨z3,z4,rfl,u2,l2⟩
  refine ⟨_,_,_,_,_,_,_,_,_,_,_,_,_,_,rfl,l2,(psub_c u2 (up.mono (l1.trans l2)) (by omega) (by omega)).mono ?_⟩
  rintro _ h3 ⟨z5,z6,rfl,u3,l3⟩
  exact ⟨_,_,_,_,_,_,_,_,_,_,_,_,_,_,rfl,⟨z5,z6,rfl,u3.le (by omega)⟩,(l1.trans l2).trans l3⟩
theorem r8qadd_c {h:Heap} {k k' : Nat} {q p:Rat} {x y:QC} (u:QB h k q x) (w:QB h k' p y) (hk:k<=60000000) (hk' : k' <= 60000000):CallsU Tryz.prog 68 [qv x,qv y] h fun r h' => ∃ z,r=qv z/\QB h' (k+k' + 8) (q+p) z/\Le h h' := by
 obtain ⟨u1,u2,u3⟩:=u
 obtain ⟨w1,w2,w3⟩:=w
 refine (r3add_b u1.is w1.is (by omega) (by omega) (by omega) (by omega)).mono ?_
 rintro _ h1 ⟨s,A,n,c,B,m,d,rfl,hN,a,b,hl⟩
 exact ⟨⟨s,A,n,c,B,m,d⟩,rfl,⟨hN,by simp only;omega,by simp only;omega⟩,hl⟩
theorem r8add_c {h:Heap} {k k' : Nat} {p p' : Rat×Rat} {x y x' y' : QC} (u:PB h k p x y) (w:PB h k' p' x' y') (hk:k<=60000000) (hk' : k' <= 60000000):CallsU Tryz.prog 35 [pv x y,pv x' y'] h fun r h' => ∃ z z', r=pv z z' /\ PB h' (k+k' + 8) (ptAdd p p') z z' /\ Le h h' := by
 apply ref08_Add_ok
 refine (r8qadd_c u.1 w.1 hk hk').mono ?_
 rintro _ h1 ⟨z,rfl,uz,l1⟩
 refine ⟨_,_,_,_,_,_,_,rfl,l1,(r8qadd_c (u.2.mono l1) (w.2.mono l1) hk hk').mono ?_⟩
 rintro _ h2 ⟨z', rfl,uz', l2⟩
 exact ⟨_,_,_,_,_,_,_,rfl,z,z', rfl,⟨uz.mono l2,uz'⟩,l1.trans l2⟩
theorem meet_c {h:Heap} {k:Nat} {a b c d:Rat×Rat} {xa ya xb yb xc yc xd yd:QC} (ua:PB h k a xa ya) (ub:PB h k b xb yb) (uc:PB h k c xc yc) (ud:PB h k d xd yd) (hk:k<=500000):CallsU Tryz.prog 74 [pv xa ya,pv xb yb,pv xc yc,pv xd yd] h fun r h' => PtR (ptMeet a b c d) (32*k+1000) r h' /\ Le h h' := by
 apply point_Meet_ok
 refine (psub_c ud uc (by omega) (by omega)).mono ?_
 rintro _ h1 ⟨z1,z2,rfl,u1,l1⟩
 refine ⟨_,_,_,_,_,_,_,_,_,_,_,_,_,_,rfl,(psub_c (uc.mono l1) (ua.mono l1) (by omega) (by omega)).mono ?_⟩
 rintro _ h2 ⟨z3,z4,rfl,u2,l2⟩
 refine ⟨_,_,_,_,_,_,_,_,_,_,_,_,_,_,rfl,l2,(pcross_c u2 (u1.mono l2) (by omega)).mono ?_⟩
 rintro _ h3 ⟨z5,rfl,u3,l3⟩
 have l13:=(l1.trans l2).trans l3
 refine ⟨_,_,_,_,_,_,_,rfl,l3,(psub_c (ub.mono l13) (ua.mono l13) (by omega) (by omega)).mono ?_⟩
 rintro _ h4 ⟨z6,z7,rfl,u4,l4⟩
 refine ⟨_,_,_,_,_,_,_,_,_,_,_,_,_,_,rfl,l4,(pcross_c u4 (u1.mono ((l2.trans l3).trans l4)) (by omega)).mono ?_⟩
 rintro _ h5 ⟨z8,rfl,u5,l5⟩
 refine ⟨_,_,_,_,_,_,_,rfl,(pqdiv_c (u3.mono (l4.trans l5)) u5 (by omega) (by omega)).mono ?_⟩
 rintro _ h6 ⟨hd,l6⟩
 have l16:=((l13.trans l4).trans l5).trans l6
 unfold ptMeet
 rcases hd with ⟨h0,rfl⟩ | ⟨h0,z9,rfl,u6⟩
 ·refine ⟨_,_,_,_,_,_,_,_,rfl,Br.mk (fun _=> ?_) (fun q=>by cases q)⟩
  rw [if_pos h0]
  exact ⟨rfl,l16⟩
 ·refine ⟨_,_,_,_,_,_,_,_,rfl,Br.mk (fun q=>by cases q) (fun _=>(pon_c (ua.mono l16) (ub.mono l16) u6 (by omega) (by omega)).mono ?_)⟩
  rintro _ h7 ⟨w1,w2,rfl,u7,l7⟩
  rw [if_neg h0]
  exact ⟨_,_,_,_,_,_,_,_,_,_,_,_,_,_,rfl,⟨w1,w2,rfl,u7.le (by omega)⟩,l16.trans l7⟩
theorem exact_c {h:Heap} {k k' : Nat} {p:Rat×Rat} {x y x' y' : QC} (u:PB h k p x y) (w:PB h k' p x' y') (hk:k<=100000000):CallsU Tryz.prog 33 [pv x y,pv x' y'] h fun r h' => r = .bool true/\h=h' := by
 apply ref08_Exact_ok
 obtain ⟨⟨a1,a2,a3⟩,⟨b1,b2,b3⟩⟩:=u
 obtain ⟨⟨c1,c2,c3⟩,⟨d1,d2,d3⟩⟩:=w
 refine (rSameQ_c a1 c1 (by omega) (by omega)).mono ?_
 rintro _ _ ⟨rfl,rfl⟩
 refine ⟨_,rfl,Br.mk (fun _=>(rSameQ_c b1 d1 (by omega) (by omega)).mono ?_) (fun q=>by cases q)⟩
 rintro _ _ ⟨rfl,rfl⟩
 exact ⟨_,rfl,rfl,rfl⟩
structure Nmd where
 name:List UInt8
 pos:Rat×Rat
abbrev npL (nm:List UInt8) (x y:QC):List Value:=[sv nm,.bool x.s,.slice x.A x.n x.c,.slice x.B x.m x.d,.bool y.s,.slice y.A y.n y.c,.slice y.B y.m y.d]
def NCs (h:Heap) (ps:List Nmd) (cs:List Value):Prop:= ∀ i p,ps[i]?=some p-> ∃ x y,(cs.drop (i*7)).take 7=npL p.name x y/\PB h 25 p.pos x y
theorem NCs.mono {h h' : Heap} {ps:List Nmd} {cs:List Value} (u:NCs h ps cs) (l:Le h h'):NCs h' ps cs:=fun i p hp=>
 let ⟨x,y,e,w⟩:=u i p hp
 ⟨x,y,e,w.mono l⟩
structure NPs (h:Heap) (A:Option Addr) (n c:Nat) (ps:List Nmd):Prop where
 len:n=ps.length
 cap:n<=c
 mem:ps≠[]-> ∃ (ad:Addr) (b:Blk),A=some ad/\ad.spot=none/\h ad.block=some b/\NCs h ps (b.cells.drop ad.off)
theorem NPs.mono {h h' : Heap} {A:Option Addr} {n c:Nat} {ps:List Nmd} (u:NPs h A n c ps) (l:Le h h'):NPs h' A n c ps:=
 ⟨u.len,u.cap,fun hn=>let ⟨ad,b,a1,a2,a3,a4⟩:=u.mem hn;⟨ad,b,a1,a2,l _ _ a3,a4.mono l⟩⟩
theorem NPs.get {h:Heap} {A:Option Addr} {n c:Nat} {ps:List Nmd} (u:NPs h A n c ps) {i:Nat} {p:Nmd} (hp:ps[i]?=some p) :
  ∃ ad x y,A=some ad/\LdN h (ad.add (i*7)) (npL p.name x y)/\PB h 25 p.pos x y:=by
 obtain ⟨ad,b,a1,a2,a3,a4⟩:=u.mem (fun q=>by rw [q] at hp;simp at hp)
 obtain ⟨x,y,e,w⟩:=a4 i p hp
 rw [List.drop_drop] at e
 exact ⟨ad,x,y,a1,LdN_of a2 a3 rfl e,w⟩
def posV (ps:List Nmd) (nm:List UInt8):Option (Rat×Rat):=(ps.find? fun p=>p.name==nm).map (·.pos)
theorem posV_drop (ps:List Nmd) (nm:List UInt8) (k:Nat) (h : ∀ j x,j<k->ps[j]?=some x->x.name≠nm):posV ps nm=posV (ps.drop k) nm:=by
 induction k generalizing ps with
 | zero=>rfl
 | succ k ih=>
  cases ps with
  | nil=>rfl
  | cons y r=>
   have h0:=h 0 y (by omega) rfl
   have:posV (y::r) nm=posV r nm:=by unfold posV;rw [List.find?_cons_of_neg (by simpa using h0)]
   rw [this,ih r fun j x hj hx=>h (j+1) x (by omega) (by simpa using hx)]
   rfl
theorem drFind_c {h:Heap} {A:Option Addr} {n c:Nat} {ps:List Nmd} (u:NPs h A n c ps) (hn:n<=1000000) {nm:List UInt8} {p:Rat×Rat} (hp:posV ps nm=some p) :
  CallsU Tryz.prog 72 [.slice A n c,sv nm] h fun r h' => ∃ x y,r=pv x y/\PB h 25 p x y/\h=h' := by
 apply draft_find_ok
 have hlen:=u.len
 refine ⟨fun m i _ _ _ _ _ _ _ _ _ _ _ _ _ _ h' => ∃ k,k<=ps.length/\m=ps.length-k/\i=(k:Int)/\h=h' /\ ∀ j s,j<k->ps[j]?=some s->s.name≠nm,⟨ps.length,0,by omega,by omega,rfl,rfl,fun j s hj=>by omega⟩, ?_⟩
 rintro m _ _ _ _ _ _ _ _ _ _ _ _ _ _ _ _ ⟨k,hk,rfl,rfl,rfl,hall⟩
 refine Br.mk (fun q=> ?_) (fun q=> ?_)
 ·have hlt:k<ps.length:=by have:=of_decide_eq_true q;omega
  obtain ⟨s,hs⟩ : ∃ s,ps[k]?=some s:=⟨_,List.getElem?_eq_getElem hlt⟩
  obtain ⟨ad,x,y,eA,hld,w⟩:=u.get hs
  refine ⟨ad,eA,by omega,by omega,_,_,_,_,_,_,_,_,_,_,_,_,_,_,_,by rw [Int.toNat_natCast];exact hld, ?_⟩
  rw [bytes_toList,bytes_toList]
  refine Br.mk (fun q2=> ?_) (fun q2=> ?_)
  ·have e:=beq_iff_eq.1 q2
   rw [posV_drop ps nm k hall,List.drop_eq_getElem_cons hlt] at hp
   have ex:ps[k]=s:=by rw [List.getElem?_eq_getElem hlt] at hs;exact Option.some.inj hs
   unfold posV at hp
   rw [ex,List.find?_cons_of_pos (by simpa using e)] at hp
   cases hp
   exact ⟨x,y,rfl,w,rfl⟩
  ·rintro _ rfl
   refine ⟨ps.length-(k+1),by omega,k+1,by omega,rfl,wi (by omega) (by omega),rfl,fun j z hj hz=> ?_⟩
   rcases Nat.lt_succ_iff_lt_or_eq.1 hj with q | q
   ·exact hall j z q hz
   ·subst q
    rw [hs] at hz
    cases hz
    exact beq_eq_false_iff_ne.1 q2
 ·exfalso
  have hk' : k=ps.length:=by have:=of_decide_eq_false q;omega
  rw [posV_drop ps nm k hall,hk', List.drop_length] at hp
  cases hp
def tlV (q:Rat):Bool:=decide (200<(Lib.decDigits q.num.natAbs).length)||decide (200<(Lib.decDigits q.den).length)
theorem drLong_c {h:Heap} {k:Nat} {q:Rat} {x:QC} (u:QB h k q x) (hk:k<=4000000000) (tb:Tab h):CallsU Tryz.prog 38 [qv x] h fun r h' => r = .bool (tlV q)/\Le h h' := by
 obtain ⟨⟨⟨u1,_⟩,u2⟩,a,b⟩:=u
 apply draft_tooLong_ok
 refine (textT_c u1.is (by omega) tb).mono ?_
 rintro _ h1 ⟨rfl,l1⟩
 unfold tlV
 refine ⟨_,rfl, ?_⟩
 rw [ba_size]
 refine Br.mk (fun q1=> ?_) (fun q1=>(textT_c (u2.mono l1).is (by omega) (tb.mono l1)).mono ?_)
 ·have:=of_decide_eq_true q1
  rw [decide_eq_true (by omega)]
  exact ⟨rfl,l1⟩
 ·have h3:=of_decide_eq_false q1
  rintro _ h2 ⟨rfl,l2⟩
  refine ⟨_,rfl, ?_,l1.trans l2⟩
  rw [ba_size,decide_eq_false (show ¬ 200<(Lib.decDigits q.num.natAbs).length by omega),Bool.false_or]
  congr 1
  rw [Bool.eq_iff_iff,decide_eq_true_eq,decide_eq_true_eq]
  omega
theorem pow200:(10:Nat)^200<=B32^21:=by decide +kernel
theorem NmN.short {h:Heap} {A:Option Addr} {n c v:Nat} (u:NmN h A n c v) (hv:(Lib.decDigits v).length<=200):n<=21:=by
 obtain ⟨xs,u1,rfl,hN⟩:=u
 have hlen:xs.length=n:=u1.1
 rw [<- hlen]
 refine nrm_len hN ?_
 rw [dec_length] at hv
 have h1:=Lib.lt_pow_nDigits (val xs)
 have h2:(10:Nat)^Lib.nDigits (val xs)<=10^200:=Nat.pow_le_pow_right (by decide) hv
 have h3:=pow200
 omega
theorem QB.short {h:Heap} {k:Nat} {q:Rat} {x:QC} (u:QB h k q x) (hq:tlV q=false):QB h 25 q x:=by
 obtain ⟨⟨⟨u1,u0⟩,u2⟩,a,b⟩:=u
 unfold tlV at hq
 rw [Bool.or_eq_false_iff,decide_eq_false_iff_not,decide_eq_false_iff_not] at hq
 have h1:=u1.short (by omega)
 have h2:=u2.short (by omega)
 exact ⟨⟨⟨u1,u0⟩,u2⟩,by omega,by omega⟩
def numsV (ms:List Meas):List Ex->Except Int (List Rat)
 | []=> .ok []
 | e::es=>match evalV ms e with
  | .error er=> .error er
  | .ok q=>catR [q] (numsV ms es)
def placeV (k:Int) (ps:List (Rat×Rat)) (qs:List Rat):Except Int (Rat×Rat):=
 let p:=fun i=>ps.getD i (0,0)
 let q:=fun i=>qs.getD i 0
 if k=1 then .ok (q 0,q 1) else if k=2 then .ok (ptAdd (p 0) (q 0,q 1)) else if k=3 then .ok (ptOn (p 0) (p 1) (q 0)) else if k=4 then ptMeet (p 0) (p 1) (p 2) (p 3) else if k=5 then ptFoot (p 0) (p 1) (p 2) else ptMirror (p 0) (p 1) (p 2)
def consV (ms:List Meas) (ps:List Nmd) (s:Stp):Except Int (Rat×Rat):=
 match numsV ms s.nums with
 | .error e=> .error e
 | .ok qs=>placeV s.kind (s.frm.map fun nm=>(posV ps nm).getD (0,0)) qs
theorem numsV_drop (ms:List Meas) {es:List Ex} {j:Nat} {e:Ex} (he:es[j]?=some e):numsV ms (es.drop j)=match evalV ms e with
  | .error er=> .error er
  | .ok q=>catR [q] (numsV ms (es.drop (j+1))):=by
 have hj:=(List.getElem?_eq_some_iff.1 he).1
 rw [List.drop_eq_getElem_cons hj,numsV]
 rw [List.getElem?_eq_getElem hj] at he
 rw [Option.some.inj he]
def PtsAt (h:Heap) (cs:List Value) (ps:List (Rat×Rat)):Prop:= ∀ i p,ps[i]?=some p-> ∃ x y,(cs.drop (i*6)).take 6=[.bool x.s,.slice x.A x.n x.c,.slice x.B x.m x.d,.bool y.s,.slice y.A y.n y.c,.slice y.B y.m y.d]/\PB h 25 p x y
theorem ptsAt_ld {h:Heap} {cs:List Value} {ps:List (Rat×Rat)} (u:PtsAt h cs ps) {i:Nat} (hi:i<ps.length) {h' : Heap} {g ty:Nat} (hb:h' g=some ⟨cs,ty,(0,0)⟩) :
  ∃ x y,LdN h' (Addr.add ⟨g,0,none⟩ (i*6)) [.bool x.s,.slice x.A x.n x.c,.slice x.B x.m x.d,.bool y.s,.slice y.A y.n y.c,.slice y.B y.m y.d]/\PB h 25 (ps.getD i (0,0)) x y:=by
 obtain ⟨x,y,e,w⟩:=u i _ (List.getElem?_eq_getElem hi)
 refine ⟨x,y,LdN_of rfl hb rfl (by simpa using e), ?_⟩
 rw [List.getD_eq_getElem?_getD,List.getElem?_eq_getElem hi]
 exact w
theorem ratsAt_ld {h:Heap} {k:Nat} {cs:List Value} {qs:List Rat} (u:RatsAt h k cs qs) {i:Nat} (hi:i<qs.length) {h' : Heap} {g ty:Nat} (hb:h' g=some ⟨cs,ty,(0,0)⟩) :
  ∃ x:QC,LdN h' (Addr.add ⟨g,0,none⟩ (i*3)) [.bool x.s,.slice x.A x.n x.c,.slice x.B x.m x.d]/\QB h k (qs.getD i 0) x:=by
 obtain ⟨s,A,n,c,B,m,d,e,hN,a,b⟩:=u i _ (List.getElem?_eq_getElem hi)
 refine ⟨⟨s,A,n,c,B,m,d⟩,LdN_of rfl hb rfl (by simpa using e), ?_⟩
 rw [List.getD_eq_getElem?_getD,List.getElem?_eq_getElem hi]
 exact ⟨hN,a,b⟩
theorem chkFm_ok {s:Stp} (h:chkFm s=0):1<=s.kind/\s.kind<=6/\(s.frm.length:Int)=frN s.kind/\(s.nums.length:Int)=nuN s.kind/\chkL s.nums 1=0/\isPointV s.name=true:=by
 unfold chkFm at h
 split at h
 ·rename_i hc
  rw [Bool.and_eq_true,Bool.and_eq_true,decide_eq_true_eq,decide_eq_true_eq] at hc
  exact ⟨hc.1.2.1,hc.1.2.2,hc.2.1,hc.2.2,h,hc.1.1⟩
 ·cases h
theorem numsV_err {ms:List Meas} : ∀ {es:List Ex} {er:Int},numsV ms es = .error er->er≠0
 | [],er,h=>by cases h
 | e::es,er,h=>by
  rw [numsV] at h
  split at h
  ·rename_i er' he
   cases h
   unfold evalV at he
   split at he
   ·exact evV_err he
   ·rename_i hne;cases he;exact hne
  ·cases ho:numsV ms es with
   | error e2=>rw [ho] at h;cases h;exact numsV_err ho
   | ok ts=>rw [ho] at h;cases h
theorem drCons_c {h:Heap} {s:Stp} {F:Option Addr} {fc:Nat} {K:Option Addr} {kc:Nat} {A:Option Addr} {n c:Nat} {ps:List Nmd} {eA:Option Addr} {en ec:Nat} {ms:List Meas} (uf:Sl sv h F s.frm.length fc s.frm) (uk:IsK h K s.nums.length kc s.nums) (z:SzS s) (hf:chkFm s=0)
  (u:NPs h A n c ps) (hn:n<=1000000) (hfr : ∀ nm∈s.frm,(posV ps nm).isSome=true) (env:EnvS h eA en ec ms) :
  CallsU Tryz.prog 37 [.agg #[sv s.name,.int .i64 s.kind,.slice F s.frm.length fc,.slice K s.nums.length kc],.slice A n c,.slice eA en ec] h fun r h' => PtR (consV ms ps s) 2000000 r h' /\ Le h h' := by
 obtain ⟨hk1,hk6,hfl,hnl,hck,_⟩:=chkFm_ok hf
 obtain ⟨z1,z2,z3,z4,z5⟩:=z
 have hnl2:s.nums.length<=2:=by unfold nuN at hnl;split at hnl<;>(try split at hnl)<;>omega
 have hfl4:s.frm.length<=4:=by unfold frN at hfl;split at hfl<;>(try split at hfl)<;>(try split at hfl)<;>(try split at hfl)<;>omega
 apply draft_construct_ok
 rintro g _ hg rfl
 refine ⟨fun m i _ _ _ _ _ _ _ _ _ _ _ _ _ _ h' => ∃ j H' cs qs,j<=s.nums.length/\m=s.nums.length-j/\i=(j:Int)/\H' g=none/\Le h H' /\ h' = H'.put g ⟨cs,116,(0,0)⟩/\cs.length=6/\qs.length=j/\RatsAt H' 1000000 cs qs/\numsV ms s.nums=catR qs (numsV ms (s.nums.drop j)),⟨s.nums.length,0,h,_,[],by omega,by omega,rfl,hg,Le.refl _,rfl,rfl,rfl,fun i q hq=>by simp at hq, ?_⟩, ?_⟩
 ·rw [List.drop_zero]
  cases numsV ms s.nums<;>rfl
 rintro m _ _ _ _ _ _ _ _ _ _ _ _ _ _ _ _ ⟨j,H', cs,qs,hj,rfl,rfl,hg', hle,rfl,hcs,hql,hrats,hev⟩
 refine Br.mk (fun q1=> ?_) (fun q1=> ?_)
 ·have hlt:j<s.nums.length:=by have:=of_decide_eq_true q1;omega
  obtain ⟨x,hx⟩ : ∃ x,s.nums[j]?=some x:=⟨_,List.getElem?_eq_getElem hlt⟩
  obtain ⟨ad,vs,eAd,hld,ux⟩:=(uk.mono hle).get hx
  have ux' := ux
  obtain ⟨sx,Ax,cx,Bx,dx,Kx,kcx,rfl,_,_,_⟩:=ux'.open
  have hdrop:=numsV_drop ms hx
  refine ⟨ad,eAd,by omega,by omega,_,_,_,_,_,_,_,_,_,_,_,_,by rw [Int.toNat_natCast];exact LdN.mono hld (Le.new hg' _),((foEval_c ux (SzsL.get z4 hx) (env.mono hle)).frame hg').mono ?_⟩
  rintro _ _ ⟨H2,⟨hr,hl2⟩,hg2,rfl⟩
  cases hv:evalV ms x with
  | error er=>
   rw [hv] at hr hdrop
   have hr' : _=Value.tuple #[.agg #[.bool false,.slice none 0 0,.slice none 0 0],.int .i64 er]:=hr
   subst hr'
   have her:er≠0:=by
    unfold evalV at hv
    split at hv
    ·exact evV_err hv
    ·rename_i hne;cases hv;exact hne
   refine ⟨_,_,_,_,_,_,_,_,rfl,Br.mk (fun _=> ?_) (fun q=>by rw [bne_eq_false_iff_eq] at q;exact absurd q her)⟩
   have hc:consV ms ps s = .error er:=by
    unfold consV
    rw [hev,hdrop]
    rfl
   rw [hc]
   exact ⟨rfl,(hle.trans hl2).trans (Le.new hg2 _)⟩
  | ok v=>
   rw [hv] at hr hdrop
   obtain ⟨s2,A2,n2,c2,B2,m2,d2,rfl,hN2,a2,b2⟩:=hr
   refine ⟨_,_,_,_,_,_,_,_,rfl,Br.mk (fun q=>by exact absurd q (by decide)) (fun _=> ?_)⟩
   refine ⟨by omega,by omega,⟨cs,116,(0,0)⟩, ?_⟩
   rw [addr_block,addr_off,addr_spot _ _ rfl,Int.toNat_natCast]
   refine ⟨Heap.put_same _ _ _,rfl,rfl,by simp;omega, ?_⟩
   rintro _ rfl _ rfl
   simp only [Nat.zero_add]
   refine ⟨s.nums.length-(j+1),by omega,j+1,H2,setSeg cs (j*3) [.bool s2,.slice A2 n2 c2,.slice B2 m2 d2],qs++[v],by omega,rfl,wi (by omega) (by omega),hg2,hle.trans hl2, ?_, ?_,by simp [hql], ?_, ?_⟩
   ·funext y
    by_cases hy:y=g
    ·subst hy
     rw [Heap.put_same,Heap.put_same]
    ·rw [Heap.put_ne _ _ hy,Heap.put_ne _ _ hy,Heap.put_ne _ _ hy]
   ·rw [setSeg_len (by simp;omega),hcs]
   ·intro i p hp
    rcases Nat.lt_or_ge i j with hij | hij
    ·rw [List.getElem?_append_left (by omega)] at hp
     obtain ⟨s3,A3,n3,c3,B3,m3,d3,e3,hN3,r3⟩:=hrats i p hp
     refine ⟨s3,A3,n3,c3,B3,m3,d3, ?_,hN3.mono hl2,r3⟩
     rw [seg_other (by omega) (by omega)]
     exact e3
    ·have hi:i=j:=by
      have:=(List.getElem?_eq_some_iff.1 hp).1
      simp at this
      omega
     subst hi
     rw [List.getElem?_append_right (by omega)] at hp
     simp [hql] at hp
     subst hp
     exact ⟨_,_,_,_,_,_,_,seg_same rfl (by omega),hN2,a2,b2⟩
   ·rw [hev,hdrop]
    exact cat_cat qs [v] _
 have hj' : j=s.nums.length:=by have:=of_decide_eq_false q1;omega
 rw [hj', List.drop_length,numsV] at hev
 have hev' : numsV ms s.nums = .ok qs:=by rw [hev];simp [catR]
 have hqn:(qs.length:Int)=nuN s.kind:=by rw [hql,hj'];exact hnl
 have hcV:consV ms ps s=placeV s.kind (s.frm.map fun nm=>(posV ps nm).getD (0,0)) qs:=by unfold consV;rw [hev']
 rw [hcV]
 generalize hB:(⟨cs,116,(0,0)⟩:Blk)=bG
 have hHb:(H'.put g bG) g=some ⟨cs,116,(0,0)⟩:=by rw [<- hB,Heap.put_same]
 have hleG:Le h (H'.put g bG):=hle.trans (Le.new hg' _)
 generalize hH:H'.put g bG=H at *
 have hHH:Le H' H:=by rw [<- hH];exact Le.new hg' _
 rintro g1 _ hg1 rfl
 have uH:=u.mono hleG
 have ufH:=uf.mono hleG
 refine ⟨fun m i h' => ∃ j cs2,j<=s.frm.length/\m=s.frm.length-j/\i=(j:Int)/\h' = H.put g1 ⟨cs2,117,(0,0)⟩/\cs2.length=24/\PtsAt H cs2 ((s.frm.take j).map fun nm=>(posV ps nm).getD (0,0)),⟨s.frm.length,0,_,by omega,by omega,rfl,rfl,rfl,fun i q hq=>by simp at hq⟩, ?_⟩
 rintro m _ _ ⟨j2,cs2,hj2,rfl,rfl,rfl,hcs2,hpts⟩
 have hHn:=Le.new hg1 (⟨cs2,117,(0,0)⟩:Blk)
 refine Br.mk (fun q2=> ?_) (fun q2=> ?_)
 ·have hlt:j2<s.frm.length:=by have:=of_decide_eq_true q2;omega
  obtain ⟨nm,hnm⟩ : ∃ nm,s.frm[j2]?=some nm:=⟨_,List.getElem?_eq_getElem hlt⟩
  obtain ⟨ad,eAd,hld⟩:=ufH.get hnm
  obtain ⟨p,hp⟩:=Option.isSome_iff_exists.1 (hfr nm (List.mem_of_getElem? hnm))
  refine ⟨ad,eAd,by omega,by omega,_,by rw [Int.toNat_natCast];exact LdN.mono hld hHn, ?_⟩
  refine ((drFind_c uH hn hp).frame hg1).mono ?_
  rintro _ _ ⟨H3,⟨x,y,rfl,hxy,rfl⟩,_,rfl⟩
  refine ⟨_,_,_,_,_,_,_,_,_,_,_,_,_,_,rfl,by omega,by omega,⟨cs2,117,(0,0)⟩, ?_⟩
  rw [addr_block,addr_off,addr_spot _ _ rfl,Int.toNat_natCast]
  refine ⟨Heap.put_same _ _ _,rfl,rfl,by simp;omega, ?_⟩
  rintro _ rfl _ rfl
  simp only [Nat.zero_add]
  refine ⟨s.frm.length-(j2+1),by omega,j2+1,setSeg cs2 (j2*6) [.bool x.s,.slice x.A x.n x.c,.slice x.B x.m x.d,.bool y.s,.slice y.A y.n y.c,.slice y.B y.m y.d],by omega,rfl,wi (by omega) (by omega), ?_, ?_, ?_⟩
  ·funext w
   by_cases hy:w=g1
   ·subst hy
    rw [Heap.put_same,Heap.put_same]
   ·rw [Heap.put_ne _ _ hy,Heap.put_ne _ _ hy,Heap.put_ne _ _ hy]
  ·rw [setSeg_len (by simp;omega),hcs2]
  ·intro i pp hpp
   rw [List.take_add_one,hnm,List.map_append] at hpp
   have hlm:((s.frm.take j2).map fun nm=>(posV ps nm).getD (0,0)).length=j2:=by rw [List.length_map,List.length_take];omega
   rcases Nat.lt_or_ge i j2 with hij | hij
   ·rw [List.getElem?_append_left (by omega)] at hpp
    obtain ⟨x3,y3,e3,w3⟩:=hpts i pp hpp
    refine ⟨x3,y3, ?_,w3⟩
    rw [seg_other (by omega) (by omega)]
    exact e3
   ·have hi:i=j2:=by
     have:=(List.getElem?_eq_some_iff.1 hpp).1
     rw [List.length_append,hlm] at this
     simp at this
     omega
    subst hi
    rw [List.getElem?_append_right (by omega),hlm] at hpp
    simp [hp] at hpp
    subst hpp
    exact ⟨x,y,seg_same rfl (by omega),hxy⟩
 ·
  have hj2' : j2=s.frm.length:=by have:=of_decide_eq_false q2;omega
  rw [hj2', List.take_length] at hpts
  generalize hps:(s.frm.map fun nm=>(posV ps nm).getD (0,0))=pts at *
  have hptl:(pts.length:Int)=frN s.kind:=by rw [<- hps,List.length_map];exact hfl
  have hb2:(H.put g1 ⟨cs2,117,(0,0)⟩) g1=some ⟨cs2,117,(0,0)⟩:=Heap.put_same _ _ _
  have hbg:(H.put g1 ⟨cs2,117,(0,0)⟩) g=some ⟨cs,116,(0,0)⟩:=hHn _ _ hHb
  have hlF:Le h (H.put g1 ⟨cs2,117,(0,0)⟩):=hleG.trans hHn
  have hlQ:Le H' (H.put g1 ⟨cs2,117,(0,0)⟩):=hHH.trans hHn
  unfold placeV
  simp only
  refine Br.mk (fun k1=> ?_) (fun k1=>Br.mk (fun k2=> ?_) (fun k2=>Br.mk (fun k3=> ?_) (fun k3=>Br.mk (fun k4=> ?_) (fun k4=>Br.mk (fun k5=> ?_) (fun k5=> ?_)))))
  ·have e1:s.kind=1:=beq_iff_eq.1 k1
   have hq2:qs.length=2:=by rw [e1] at hqn;have:nuN 1=2:=(by decide);omega
   obtain ⟨x0,l0,w0⟩:=ratsAt_ld hrats (i:=0) (by omega) hbg
   obtain ⟨x1,l1,w1⟩:=ratsAt_ld hrats (i:=1) (by omega) hbg
   rw [if_pos e1]
   exact ⟨by omega,by omega,_,_,_,_,_,_,_,l0,by omega,by omega,_,_,_,_,_,_,_,l1,⟨x0,x1,rfl,(w0.mono hlQ).le (by omega),(w1.mono hlQ).le (by omega)⟩,hlF⟩
  ·have e1:s.kind≠1:=beq_eq_false_iff_ne.1 k1
   have e2:s.kind=2:=beq_iff_eq.1 k2
   have hq2:qs.length=2:=by rw [e2] at hqn;have:nuN 2=2:=(by decide);omega
   have hp1:pts.length=1:=by rw [e2] at hptl;have:frN 2=1:=(by decide);omega
   obtain ⟨x0,l0,w0⟩:=ratsAt_ld hrats (i:=0) (by omega) hbg
   obtain ⟨x1,l1,w1⟩:=ratsAt_ld hrats (i:=1) (by omega) hbg
   obtain ⟨px,py,lp,wp⟩:=ptsAt_ld hpts (i:=0) (by omega) hb2
   rw [if_neg e1,if_pos e2]
   refine ⟨by omega,by omega,_,_,_,_,_,_,_,_,_,_,_,_,_,_,lp,by omega,by omega,_,_,_,_,_,_,_,l0,by omega,by omega,_,_,_,_,_,_,_,l1,(padd_c (p' := (qs.getD 0 0,qs.getD 1 0)) (wp.mono hHn) ⟨w0.mono hlQ,w1.mono hlQ⟩ (by omega) (by omega)).mono ?_⟩
   rintro _ h9 ⟨z3,z4,rfl,w4,l9⟩
   exact ⟨_,_,_,_,_,_,_,_,_,_,_,_,_,_,rfl,⟨z3,z4,rfl,w4.le (by omega)⟩,hlF.trans l9⟩
  ·have e1:s.kind≠1:=beq_eq_false_iff_ne.1 k1
   have e2:s.kind≠2:=beq_eq_false_iff_ne.1 k2
   have e3:s.kind=3:=beq_iff_eq.1 k3
   have hq2:qs.length=1:=by rw [e3] at hqn;have:nuN 3=1:=(by decide);omega
   have hp1:pts.length=2:=by rw [e3] at hptl;have:frN 3=2:=(by decide);omega
   obtain ⟨x0,l0,w0⟩:=ratsAt_ld hrats (i:=0) (by omega) hbg
   obtain ⟨px,py,lp,wp⟩:=ptsAt_ld hpts (i:=0) (by omega) hb2
   obtain ⟨px1,py1,lp1,wp1⟩:=ptsAt_ld hpts (i:=1) (by omega) hb2
   rw [if_neg e1,if_neg e2,if_pos e3]
   refine ⟨by omega,by omega,_,_,_,_,_,_,_,_,_,_,_,_,_,_,lp,by omega,by omega,_,_,_,_,_,_,_,_,_,_,_,_,_,_,lp1,by omega,by omega,_,_,_,_,_,_,_,l0,(pon_c (wp.mono hHn) (wp1.mono hHn) (w0.mono hlQ) (by omega) (by omega)).mono ?_⟩
   rintro _ h9 ⟨z3,z4,rfl,w4,l9⟩
   exact ⟨_,_,_,_,_,_,_,_,_,_,_,_,_,_,rfl,⟨z3,z4,rfl,w4.le (by omega)⟩,hlF.trans l9⟩
  ·have e1:s.kind≠1:=beq_eq_false_iff_ne.1 k1
   have e2:s.kind≠2:=beq_eq_false_iff_ne.1 k2
   have e3:s.kind≠3:=beq_eq_false_iff_ne.1 k3
   have e4:s.kind=4:=beq_iff_eq.1 k4
   have hp1:pts.length=4:=by rw [e4] at hptl;have:frN 4=4:=(by decide);omega
   obtain ⟨px,py,lp,wp⟩:=ptsAt_ld hpts (i:=0) (by omega) hb2
   obtain ⟨px1,py1,lp1,wp1⟩:=ptsAt_ld hpts (i:=1) (by omega) hb2
   obtain ⟨px2,py2,lp2,wp2⟩:=ptsAt_ld hpts (i:=2) (by omega) hb2
   obtain ⟨px3,py3,lp3,wp3⟩:=ptsAt_ld hpts (i:=3) (by omega) hb2
   rw [if_neg e1,if_neg e2,if_neg e3,if_pos e4]
   refine ⟨by omega,by omega,_,_,_,_,_,_,_,_,_,_,_,_,_,_,lp,by omega,by omega,_,_,_,_,_,_,_,_,_,_,_,_,_,_,lp1,by omega,by omega,_,_,_,_,_,_,_,_,_,_,_,_,_,_,lp2,by omega,by omega,_,_,_,_,_,_,_,_,_,_,_,_,_,_,lp3,(meet_c (wp.mono hHn) (wp1.mono hHn) (wp2.mono hHn) (wp3.mono hHn) (by omega)).mono ?_⟩
   rintro _ h9 ⟨hR,l9⟩
   have hR2:=hR.le (k' := 2000000) (by omega)
   obtain ⟨a0,a1,a2,a3,a4,a5,a6,b0,b1,b2,b3,b4,b5,b6,er,hsh⟩:=PtR.shape hR
   rw [hsh] at hR2 ⊢
   exact ⟨_,_,_,_,_,_,_,_,_,_,_,_,_,_,_,rfl,hR2,hlF.trans l9⟩
  ·have e1:s.kind≠1:=beq_eq_false_iff_ne.1 k1
   have e2:s.kind≠2:=beq_eq_false_iff_ne.1 k2
   have e3:s.kind≠3:=beq_eq_false_iff_ne.1 k3
   have e4:s.kind≠4:=beq_eq_false_iff_ne.1 k4
   have e5:s.kind=5:=beq_iff_eq.1 k5
   have hp1:pts.length=3:=by rw [e5] at hptl;have:frN 5=3:=(by decide);omega
   obtain ⟨px,py,lp,wp⟩:=ptsAt_ld hpts (i:=0) (by omega) hb2
   obtain ⟨px1,py1,lp1,wp1⟩:=ptsAt_ld hpts (i:=1) (by omega) hb2
   obtain ⟨px2,py2,lp2,wp2⟩:=ptsAt_ld hpts (i:=2) (by omega) hb2
   rw [if_neg e1,if_neg e2,if_neg e3,if_neg e4,if_pos e5]
   refine ⟨by omega,by omega,_,_,_,_,_,_,_,_,_,_,_,_,_,_,lp,by omega,by omega,_,_,_,_,_,_,_,_,_,_,_,_,_,_,lp1,by omega,by omega,_,_,_,_,_,_,_,_,_,_,_,_,_,_,lp2,(pfoot_c (wp.mono hHn) (wp1.mono hHn) (wp2.mono hHn) (by omega)).mono ?_⟩
   rintro _ h9 ⟨hR,l9⟩
   have hR2:=hR.le (k' := 2000000) (by omega)
   obtain ⟨a0,a1,a2,a3,a4,a5,a6,b0,b1,b2,b3,b4,b5,b6,er,hsh⟩:=PtR.shape hR
   rw [hsh] at hR2 ⊢
   exact ⟨_,_,_,_,_,_,_,_,_,_,_,_,_,_,_,rfl,hR2,hlF.trans l9⟩
  ·have e1:s.kind≠1:=beq_eq_false_iff_ne.1 k1
   have e2:s.kind≠2:=beq_eq_false_iff_ne.1 k2
   have e3:s.kind≠3:=beq_eq_false_iff_ne.1 k3
   have e4:s.kind≠4:=beq_eq_false_iff_ne.1 k4
   have e5:s.kind≠5:=beq_eq_false_iff_ne.1 k5
   have e6:s.kind=6:=by omega
   have hp1:pts.length=3:=by rw [e6] at hptl;have:frN 6=3:=(by decide);omega
   obtain ⟨px,py,lp,wp⟩:=ptsAt_ld hpts (i:=0) (by omega) hb2
   obtain ⟨px1,py1,lp1,wp1⟩:=ptsAt_ld hpts (i:=1) (by omega) hb2
   obtain ⟨px2,py2,lp2,wp2⟩:=ptsAt_ld hpts (i:=2) (by omega) hb2
   rw [if_neg e1,if_neg e2,if_neg e3,if_neg e4,if_neg e5]
   refine ⟨by omega,by omega,_,_,_,_,_,_,_,_,_,_,_,_,_,_,lp,by omega,by omega,_,_,_,_,_,_,_,_,_,_,_,_,_,_,lp1,by omega,by omega,_,_,_,_,_,_,_,_,_,_,_,_,_,_,lp2,(pmirror_c (wp.mono hHn) (wp1.mono hHn) (wp2.mono hHn) (by omega)).mono ?_⟩
   rintro _ h9 ⟨hR,l9⟩
   have hR2:=hR.le (k' := 2000000) (by omega)
   obtain ⟨a0,a1,a2,a3,a4,a5,a6,b0,b1,b2,b3,b4,b5,b6,er,hsh⟩:=PtR.shape hR
   rw [hsh] at hR2 ⊢
   exact ⟨_,_,_,_,_,_,_,_,_,_,_,_,_,_,_,rfl,hR2,hlF.trans l9⟩
def noU (cs:List Value):Prop:= ∀ v∈cs,∀ n:Int,v ≠ .int .u32 n
theorem NmN.hole {h:Heap} {g:Nat} {A:Option Addr} {n c v:Nat} (u:NmN h A n c v) {b:Blk} (hb:h g=some b) (hno:noU b.cells):NmN (Go.Proofs.YtfglcgbgaeegaaaGreatDoor.hole h g) A n c v:=by
 obtain ⟨xs,u1,e,hN⟩:=u
 refine ⟨xs,⟨u1.len,u1.cap,u1.lt,fun hn=> ?_⟩,e,hN⟩
 obtain ⟨ad,b', e1,sp,hb', hc⟩:=u1.mem hn
 refine ⟨ad,b', e1,sp, ?_,hc⟩
 rw [hole_ne _ (fun q=> ?_)]
 ·exact hb'
 ·rw [q,hb] at hb'
  cases hb'
  have hl:=u1.len
  cases xs with
  | nil=>simp at hl;omega
  | cons x xs=>
   have hm:lv x∈(b.cells.drop ad.off).take n:=by rw [hc];simp
   exact hno _ (List.mem_of_mem_drop (List.mem_of_mem_take hm)) _ rfl
theorem QB.hole {h:Heap} {g k:Nat} {q:Rat} {x:QC} (u:QB h k q x) {b:Blk} (hb:h g=some b) (hno:noU b.cells):QB (Go.Proofs.YtfglcgbgaeegaaaGreatDoor.hole h g) k q x:=
 ⟨⟨⟨u.1.1.1.hole hb hno,u.1.1.2⟩,u.1.2.hole hb hno⟩,u.2⟩
theorem PB.hole {h:Heap} {g k:Nat} {p:Rat×Rat} {x y:QC} (u:PB h k p x y) {b:Blk} (hb:h g=some b) (hno:noU b.cells):PB (Go.Proofs.YtfglcgbgaeegaaaGreatDoor.hole h g) k p x y:=⟨u.1.hole hb hno,u.2.hole hb hno⟩
theorem noU_np (nm:List UInt8) (x y:QC):noU (npL nm x y):=by
 intro v hv n
 simp only [List.mem_cons,List.not_mem_nil,or_false] at hv
 rcases hv with rfl | rfl | rfl | rfl | rfl | rfl | rfl<;>intro e<;>cases e
abbrev zN:List Value:=[.string ByteArray.empty,.bool false,.slice none 0 0,.slice none 0 0,.bool false,.slice none 0 0,.slice none 0 0]
theorem noU_z : ∀ k:Nat,noU (repV zN k)/\(repV zN k).length=7*k
 | 0=>⟨fun v hv=>by simp [repV] at hv,rfl⟩
 | k+1=>by
  obtain ⟨h1,h2⟩:=noU_z k
  rw [repV]
  refine ⟨fun v hv n=> ?_,by rw [List.length_append,h2];simp;omega⟩
  rcases List.mem_append.1 hv with q | q
  ·simp only [List.mem_cons,List.not_mem_nil,or_false] at q
   rcases q with rfl | rfl | rfl | rfl | rfl | rfl | rfl<;>intro e<;>cases e
  ·exact h1 v q n
def NP (h0 h:Heap) (A:Option Addr) (n c:Nat) (ps:List Nmd):Prop:=
 ps.length=n/\((A=none/\n=0/\c=0)\/ ∃ gp cs,h0 gp=none/\A=some ⟨gp,0,none⟩/\h gp=some ⟨cs,53,(0,0)⟩/\cs.length=7*c/\n<=c/\noU cs/\NCs (hole h gp) ps cs)
theorem NP.mono {h0 h h' : Heap} {A:Option Addr} {n c:Nat} {ps:List Nmd} (u:NP h0 h A n c ps) (l:Le h h'):NP h0 h' A n c ps:=by
 obtain ⟨a,b⟩:=u
 refine ⟨a,b.imp id ?_⟩
 rintro ⟨gp,cs,b1,b2,b3,b4,b5,b6,b7⟩
 exact ⟨gp,cs,b1,b2,l _ _ b3,b4,b5,b6,b7.mono (Le.hole l gp)⟩
theorem NP.s {h0 h:Heap} {A:Option Addr} {n c:Nat} {ps:List Nmd} (u:NP h0 h A n c ps):NPs h A n c ps:=by
 obtain ⟨a,b⟩:=u
 refine ⟨a.symm, ?_,fun hn=> ?_⟩
 ·rcases b with ⟨_,e,e2⟩ | ⟨gp,cs,b1,b2,b3,b4,b5,b6,b7⟩
  ·omega
  ·exact b5
 ·rcases b with ⟨_,e,_⟩ | ⟨gp,cs,b1,b2,b3,b4,b5,b6,b7⟩
  ·exact absurd (List.length_eq_zero_iff.1 (by omega)) hn
  ·exact ⟨_,_,b2,rfl,b3,by simpa using b7.mono (hole_le _ _)⟩
theorem NCs.snoc {h:Heap} {ps:List Nmd} {cs rest:List Value} {p:Nmd} {x y:QC} (u:NCs h ps cs) (hl:7*ps.length<=cs.length) (w:PB h 25 p.pos x y):NCs h (ps++[p]) (cs.take (7*ps.length)++npL p.name x y++rest):=by
 intro i q hq
 have htl:(cs.take (7*ps.length)).length=7*ps.length:=by rw [List.length_take];omega
 rcases Nat.lt_or_ge i ps.length with hi | hi
 ·rw [List.getElem?_append_left hi] at hq
  obtain ⟨x', y', e,w'⟩:=u i q hq
  refine ⟨x', y', ?_,w'⟩
  rw [<- e,List.append_assoc,List.drop_append_of_le_length (by omega),List.take_append_of_le_length (by rw [List.length_drop];omega),List.drop_take,List.take_take,Nat.min_eq_left (by omega)]
 ·have hi' : i=ps.length:=by
   have:=(List.getElem?_eq_some_iff.1 hq).1
   simp at this
   omega
  subst hi'
  rw [List.getElem?_append_right (Nat.le_refl _),Nat.sub_self] at hq
  simp at hq
  subst hq
  refine ⟨x,y, ?_,w⟩
  rw [List.append_assoc,List.drop_append_of_le_length (by omega),List.drop_of_length_le (by omega),List.nil_append,List.take_append_of_le_length (by simp),List.take_of_length_le (by simp)]
theorem NP.app {h0 h:Heap} {A:Option Addr} {n c:Nat} {ps:List Nmd} (u:NP h0 h A n c ps) (hle:Le h0 h) {p:Nmd} {x y:QC} (w:PB h 25 p.pos x y) {vs:List Value} (hv:vs=npL p.name x y) {g6:Nat} (hg6:h g6=none) (hn:n<=1000000) {K:Option Addr->Nat->Heap->Prop}
  (hK : ∀ A' c' h', NP h0 h' A' (n+1) c' (ps++[p])->Le h0 h' -> K A' c' h') :
  ∃ xs:List Value,RdS (h.put g6 ⟨vs,53,(0,0)⟩) (some ⟨g6,0,none⟩) (1*7) xs/\(∀ y∈xs,Go.Vcg.one y=true)/\
   (n+1<=c-> ∃ (ad:Addr) (b:Blk),A=some ad/\ad.spot=none/\(h.put g6 ⟨vs,53,(0,0)⟩) ad.block=some b/\b.fz=(0,0)/\ad.off+n*7+1*7<=b.cells.length/\
    ∀ h' : Heap,h' = Heap.put (h.put g6 ⟨vs,53,(0,0)⟩) ad.block { b with cells:=setSeg b.cells (ad.off+n*7) xs }->K A c h')/\
   (c<n+1-> ∃ olds:List Value,RdS (h.put g6 ⟨vs,53,(0,0)⟩) A (n*7) olds/\(n+1)*128<=140737488355328/\
    ∀ (g1 cap:Nat) (h' : Heap),(h.put g6 ⟨vs,53,(0,0)⟩) g1=none->n+1<=cap->h' = Heap.put (h.put g6 ⟨vs,53,(0,0)⟩) g1 ⟨olds++xs++repV zN (cap-(n+1)),53,(0,0)⟩->K (some ⟨g1,0,none⟩) cap h'):=by
 subst hv
 obtain ⟨a1,a3⟩:=u
 have l6:=Le.new hg6 (⟨npL p.name x y,53,(0,0)⟩:Blk)
 refine ⟨npL p.name x y,⟨rfl,fun _=>⟨_,rfl,rfl,_,Heap.put_same _ _ _,rfl⟩⟩, ?_, ?_, ?_⟩
 ·intro v hv
  simp only [List.mem_cons,List.not_mem_nil,or_false] at hv
  rcases hv with rfl | rfl | rfl | rfl | rfl | rfl | rfl<;>rfl
 ·intro hcap
  rcases a3 with ⟨_,_,rfl⟩ | ⟨gp,cs,b0,rfl,b3,b4,b5,b6,b7⟩
  ·omega
  ·have hg6p:g6≠gp:=fun e=>by rw [e,b3] at hg6;cases hg6
   refine ⟨_,_,rfl,rfl,by rw [Heap.put_ne _ _ (fun e=>hg6p e.symm)];exact b3,rfl,by simp only;omega, ?_⟩
   rintro _ rfl
   have hcs:setSeg cs (0+n*7) (npL p.name x y)=cs.take (7*ps.length)++npL p.name x y++cs.drop (0+n*7+7):=by
    unfold setSeg
    rw [show 0+n*7=7*ps.length by omega]
    rfl
   refine hK _ _ _ ⟨by rw [List.length_append];simp;omega,Or.inr ⟨gp,_,b0,rfl,Heap.put_same _ _ _, ?_,hcap, ?_, ?_⟩⟩ ?_
   ·simp only
    rw [hcs,List.length_append,List.length_append,List.length_take,List.length_drop]
    simp
    omega
   ·simp only
    rw [hcs]
    intro v hv nn
    rcases List.mem_append.1 hv with q | q
    ·rcases List.mem_append.1 q with q | q
     ·exact b6 v (List.mem_of_mem_take q) nn
     ·exact noU_np _ _ _ v q nn
    ·exact b6 v (List.mem_of_mem_drop q) nn
   ·simp only
    rw [hcs,hole_put]
    have hn7:hole h gp g6=none:=by rw [hole_ne _ hg6p];exact hg6
    have l7:=Le.new hn7 (⟨npL p.name x y,53,(0,0)⟩:Blk)
    rw [hole_put_ne _ _ hg6p]
    exact NCs.snoc (b7.mono l7) (by omega) ((w.hole b3 b6).mono l7)
   ·exact (hle.put (hle.free hg6) _).put b0 _
 ·intro hcap
  have holds : ∃ olds:List Value,RdS (h.put g6 ⟨npL p.name x y,53,(0,0)⟩) A (n*7) olds/\NCs h ps olds/\olds.length=7*ps.length/\noU olds:=by
   rcases a3 with ⟨rfl,rfl,rfl⟩ | ⟨gp,cs,b0,rfl,b3,b4,b5,b6,b7⟩
   ·have:ps=[]:=List.length_eq_zero_iff.1 a1
    subst this
    exact ⟨[],⟨rfl,fun q=>absurd q (by decide)⟩,fun i q hq=>by simp at hq,rfl,fun v hv=>by simp at hv⟩
   ·have hg6p:g6≠gp:=fun e=>by rw [e,b3] at hg6;cases hg6
    refine ⟨cs.take (7*ps.length),⟨by rw [List.length_take];omega,fun _=>⟨_,rfl,rfl,_,by rw [Heap.put_ne _ _ (fun e=>hg6p e.symm)];exact b3, ?_⟩⟩, ?_,by rw [List.length_take];omega,fun v hv=>b6 v (List.mem_of_mem_take hv)⟩
    ·simp only [List.drop_zero,List.length_take]
     congr 1
     omega
    ·intro i q hq
     obtain ⟨x', y', e,w'⟩:=b7 i q hq
     have hi:=(List.getElem?_eq_some_iff.1 hq).1
     refine ⟨x', y', ?_,w'.mono (hole_le _ _)⟩
     rw [<- e,List.drop_take,List.take_take,Nat.min_eq_left (by omega)]
  obtain ⟨olds,hrd,hes,hol,hno⟩:=holds
  refine ⟨olds,hrd,by omega, ?_⟩
  rintro g7 cap _ hg7 hcap7 rfl
  have hg76:g7≠g6:=fun e=>by rw [e,Heap.put_same] at hg7;cases hg7
  have hg7' : h g7=none:=by rw [Heap.put_ne _ _ hg76] at hg7;exact hg7
  obtain ⟨z1,z2⟩:=noU_z (cap-(n+1))
  refine hK _ _ _ ⟨by rw [List.length_append];simp;omega,Or.inr ⟨g7,_,hle.free hg7', rfl,Heap.put_same _ _ _, ?_,hcap7, ?_, ?_⟩⟩ ?_
  ·rw [List.length_append,List.length_append,hol,z2]
   simp
   omega
  ·intro v hv nn
   rcases List.mem_append.1 hv with q | q
   ·rcases List.mem_append.1 q with q | q
    ·exact hno v q nn
    ·exact noU_np _ _ _ v q nn
   ·exact z1 v q nn
  ·rw [hole_put,hole_none hg7]
   have:=NCs.snoc (rest:=repV zN (cap-(n+1))) (hes.mono l6) (by omega) (w.mono l6)
   rw [List.take_of_length_le (by omega)] at this
   exact this
  ·exact (hle.put (hle.free hg6) _).put (hle.free hg7') _
def runFr (ms:List Meas) (l:List Stp):Nat->Nat->List Nmd->Except (Int×Nat) (List Nmd)
 | 0,_,ps=> .ok ps
 | f+1,i,ps=>match l[i]? with
  | none=> .ok ps
  | some s=>match consV ms ps s with
   | .error e=> .error (e,i)
   | .ok p=>if tlV p.1||tlV p.2 then .error (5,i) else runFr ms l f (i+1) (ps++[⟨s.name,p⟩])
def runV (ms:List Meas) (l:List Stp):Except (Int×Nat) (List Nmd):=if (checkV l).1=0 then runFr ms l l.length 0 [] else .error (checkV l)
def RunR (o:Except (Int×Nat) (List Nmd)) (r:Value) (h' : Heap):Prop:=
 match o with
 | .ok ps=> ∃ A n c,r = .tuple #[.slice A n c,.int .i64 0,.int .i64 0]/\NPs h' A n c ps
 | .error (e,i)=>e≠0/\r = .tuple #[.slice none 0 0,.int .i64 e,.int .i64 (i:Int)]
theorem chkFr_all {l:List Stp} : ∀ {f i:Nat},(chkFr l f i).1=0-> ∀ j s,i<=j->j<i+f->l[j]?=some s->chkFm s=0/\chkNm (l.take j) s=0
 | 0,i,_,j,s,h1,h2,_=>by omega
 | f+1,i,h,j,s,h1,h2,hs=>by
  rw [chkFr] at h
  cases hi:l[i]? with
  | none=>
   have:=List.getElem?_eq_none_iff.1 hi
   have:=(List.getElem?_eq_some_iff.1 hs).1
   omega
  | some t=>
   rw [hi] at h
   simp only at h
   by_cases h3:chkFm t=0
   ·rw [if_pos h3] at h
    by_cases h4:chkNm (l.take i) t=0
    ·rw [if_pos h4] at h
     rcases Nat.lt_or_ge i j with q | q
     ·exact chkFr_all h j s (by omega) (by omega) hs
     ·have:i=j:=by omega
      subst this
      rw [hi] at hs
      cases hs
      exact ⟨h3,h4⟩
    ·rw [if_neg h4] at h
     exact absurd h h4
   ·rw [if_neg h3] at h
    exact absurd h h3
theorem checkV_all {l:List Stp} (h:(checkV l).1=0):l.length<=64/\ ∀ j s,l[j]?=some s->chkFm s=0/\chkNm (l.take j) s=0:=by
 unfold checkV at h
 split at h
 ·cases h
 ·exact ⟨by omega,fun j s hs=>chkFr_all h j s (by omega) (by have:=(List.getElem?_eq_some_iff.1 hs).1;omega) hs⟩
theorem chkNm_ok {l:List Stp} {s:Stp} (h:chkNm l s=0):defV l s.name=false/\ ∀ x∈s.frm,defV l x=true:=by
 unfold chkNm at h
 split at h
 ·cases h
 ·rename_i h1
  split at h
  ·rename_i h2
   exact ⟨by simpa using h1,fun x hx=>List.all_eq_true.1 h2 x hx⟩
  ·cases h
theorem pos_def {l:List Stp} {ps:List Nmd} {nm:List UInt8} (hn:ps.map (·.name)=l.map (·.name)) (h:defV l nm=true):(posV ps nm).isSome=true:=by
 unfold defV at h
 rw [List.any_eq_true] at h
 obtain ⟨s,hs,he⟩:=h
 have hm:s.name∈ps.map (·.name):=by rw [hn];exact List.mem_map_of_mem hs
 obtain ⟨p,hp,hpn⟩:=List.mem_map.1 hm
 unfold posV
 rw [Option.isSome_map,List.find?_isSome]
 exact ⟨p,hp,by rw [hpn];exact he⟩
theorem ptMeet_err {a b c d:Rat×Rat} {e:Int} (h:ptMeet a b c d = .error e):e=10:=by
 unfold ptMeet at h
 split at h
 ·cases h;rfl
 ·cases h
theorem ptFoot_err {a b c:Rat×Rat} {e:Int} (h:ptFoot a b c = .error e):e=10:=by
 unfold ptFoot at h
 split at h
 ·cases h;rfl
 ·cases h
theorem ptMirror_err {a b c:Rat×Rat} {e:Int} (h:ptMirror a b c = .error e):e=10:=by
 unfold ptMirror at h
 split at h
 ·rename_i e2 he;cases h;exact ptFoot_err he
 ·cases h
theorem consV_err {ms:List Meas} {ps:List Nmd} {s:Stp} {e:Int} (h:consV ms ps s = .error e):e≠0:=by
 unfold consV at h
 split at h
 ·rename_i e2 he;cases h;exact numsV_err he
 ·unfold placeV at h
  simp only at h
  split at h
  ·cases h
  split at h
  ·cases h
  split at h
  ·cases h
  split at h
  ·rw [ptMeet_err h];decide
  split at h
  ·rw [ptFoot_err h];decide
  ·rw [ptMirror_err h];decide
theorem drRun_c {h:Heap} {A:Option Addr} {n c:Nat} {l:List Stp} {eA:Option Addr} {en ec:Nat} {ms:List Meas} (u:StpS h A n c l) (hn:n<=1000000) (z:n<=64->SzSs l) (t:Frms h) (tb:Tab h) (env:EnvS h eA en ec ms) :
  CallsU Tryz.prog 16 [.slice A n c,.slice eA en ec] h fun r h' => RunR (runV ms l) r h' /\ Le h h' := by
 apply draft_Run_ok
 refine (drCheck_c u hn z t).mono ?_
 rintro _ h1 ⟨rfl,l1⟩
 unfold runV
 have hlen:=u.len
 refine ⟨_,_,rfl,Br.mk (fun q=> ?_) (fun q=> ?_)⟩
 ·have h0:(checkV l).1≠0:=by simpa using q
  rw [if_neg h0]
  exact ⟨⟨h0,rfl⟩,l1⟩
 have h0:(checkV l).1=0:=by simpa using q
 obtain ⟨h64,hall⟩:=checkV_all h0
 rw [if_pos h0]
 have zl:=z (by omega)
 refine ⟨fun m pA pn pc i h' => ∃ k ps,k<=l.length/\m=l.length-k/\i=(k:Int)/\NP h h' pA pn pc ps/\Le h h' /\ ps.map (·.name)=(l.take k).map (·.name)/\runFr ms l l.length 0 []=runFr ms l (l.length-k) k ps,⟨l.length,0,[],by omega,by omega,rfl,⟨rfl,Or.inl ⟨rfl,rfl,rfl⟩⟩,l1,by simp,by simp⟩, ?_⟩
 rintro m pA pn pc _ h2 ⟨k,ps,hk,rfl,rfl,np,l2,hnm,heq⟩
 have hpl:ps.length=k:=by
  have:=congrArg List.length hnm
  rw [List.length_map,List.length_map,List.length_take] at this
  omega
 have hpn:pn=k:=by rw [<- np.1];exact hpl
 refine Br.mk (fun q1=> ?_) (fun q1=> ?_)
 ·have hlt:k<l.length:=by have:=of_decide_eq_true q1;omega
  obtain ⟨s,hs⟩ : ∃ s,l[k]?=some s:=⟨_,List.getElem?_eq_getElem hlt⟩
  obtain ⟨ad,F,fc,K,kc,eAd,hld,uf,uk⟩:=(u.mono l2).get hs
  obtain ⟨hfm,hnmk⟩:=hall k s hs
  have zs:=zl s (List.mem_of_getElem? hs)
  have ek:l.length-k=(l.length-(k+1))+1:=by omega
  rw [ek,runFr,hs] at heq
  simp only at heq
  refine ⟨ad,eAd,by omega,by omega,_,_,_,_,_,_,_,_,by rw [Int.toNat_natCast];exact hld, ?_⟩
  refine (drCons_c uf uk zs hfm np.s (by omega) (fun nm hn=>pos_def hnm ((chkNm_ok hnmk).2 nm hn)) (env.mono l2)).mono ?_
  rintro _ h3 ⟨hR,l3⟩
  have l13:=l2.trans l3
  cases hc:consV ms ps s with
  | error e=>
   rw [hc] at hR heq
   have he:=consV_err hc
   have hR' : _=Value.tuple #[zP,.int .i64 e]:=hR
   subst hR'
   simp only at heq
   refine ⟨_,_,_,_,_,_,_,_,_,_,_,_,_,_,_,rfl,fun e' h' => e' = e/\h' = h3, ?_,Br.mk (fun q=>absurd (beq_iff_eq.1 q) he) (fun _=>⟨rfl,rfl⟩)⟩
   rintro _ _ ⟨rfl,rfl⟩
   refine Br.mk (fun _=> ?_) (fun q=>by rw [bne_eq_false_iff_eq] at q;exact absurd q he)
   rw [heq]
   exact ⟨⟨he,rfl⟩,l13⟩
  | ok p=>
   rw [hc] at hR heq
   obtain ⟨x,y,rfl,w⟩:=hR
   simp only at heq
   refine ⟨_,_,_,_,_,_,_,_,_,_,_,_,_,_,_,rfl,fun e' h' => e' = (if tlV p.1||tlV p.2 then 5 else 0)/\Le h3 h', ?_,Br.mk (fun _=> ?_) (fun q=>by exact absurd q (by decide))⟩
   ·rintro _ h4 ⟨rfl,l4⟩
    have l14:=l13.trans l4
    by_cases htl:(tlV p.1||tlV p.2)=true
    ·rw [if_pos htl] at heq ⊢
     refine Br.mk (fun _=> ?_) (fun q=>by exact absurd q (by decide))
     rw [heq]
     exact ⟨⟨by decide,rfl⟩,l14⟩
    ·have htl' : (tlV p.1||tlV p.2)=false:=by simpa using htl
     rw [if_neg htl] at heq ⊢
     rw [Bool.or_eq_false_iff] at htl'
     refine Br.mk (fun q=>by exact absurd q (by decide)) (fun _=> ?_)
     rintro g6 _ hg6 rfl
     have w25:PB h4 25 p x y:=⟨(w.1.mono l4).short htl'.1,(w.2.mono l4).short htl'.2⟩
     refine (np.mono (l3.trans l4)).app (p:=⟨s.name,p⟩) l14 w25 rfl hg6 (by omega) (K:=fun A' c' h' => ∀ t60:Int,t60=IntKind.i64.wrap ((k:Int)+1)-> ∃ m_1,m_1<l.length-k/\ ∃ k' ps', k' <= l.length/\m_1=l.length-k' /\ t60=(k' : Int)/\NP h h' A' (pn+1) c' ps' /\ Le h h' /\ ps'.map (·.name)=(l.take k').map (·.name)/\runFr ms l l.length 0 []=runFr ms l (l.length-k') k' ps') (fun A' c' h' np' l' => ?_)
     rintro _ rfl
     refine ⟨l.length-(k+1),by omega,k+1,ps++[⟨s.name,p⟩],by omega,rfl,wi (by omega) (by omega),np', l', ?_,heq⟩
     rw [List.map_append,hnm,List.take_add_one,hs,List.map_append]
     rfl
   ·refine (drLong_c w.1 (by omega) (tb.mono l13)).mono ?_
    rintro _ h4 ⟨rfl,l4⟩
    refine ⟨_,rfl,Br.mk (fun q=> ?_) (fun q=> ?_)⟩
    ·rw [q]
     exact ⟨rfl,l4⟩
    ·rw [q,Bool.false_or]
     refine (drLong_c (w.2.mono l4) (by omega) (tb.mono (l13.trans l4))).mono ?_
     rintro _ h5 ⟨rfl,l5⟩
     refine ⟨_,rfl,Br.mk (fun q2=> ?_) (fun q2=> ?_)⟩
     ·rw [q2];exact ⟨rfl,l4.trans l5⟩
     ·rw [q2];exact ⟨rfl,l4.trans l5⟩
 ·have hk' : k=l.length:=by have:=of_decide_eq_false q1;omega
  rw [hk', Nat.sub_self,runFr] at heq
  rw [heq]
  exact ⟨⟨_,_,_,rfl,np.s⟩,l2⟩
end Go.Proofs.YtfglcgbgaeegaaaGreatDoor

namespace Go.Proofs.YtfglcgbgaeegaaaGreatDoor
open Go Go.Vcg
def strings_Split_vc (a:ByteArray) (b:ByteArray) (h:Heap) (R:Value->Heap->Prop):Prop:=
 CallsU Tryz.prog 90 [.string a,.string b,.int .i64 0,.int .i64 (-1)] h fun f g=>
 ∃ c d e,f = .slice c d e/\
 R (.slice c d e) g
theorem strings_Split_ok {a:ByteArray} {b:ByteArray} {h:Heap} {R:Value->Heap->Prop} (hv:strings_Split_vc a b h R):CallsU Tryz.prog 47 [.string a,.string b] h R:=
 fn_ok Tryz.func47 (fun _=>false) .nil hv
def strings_genSplit_vc (a:ByteArray) (b:ByteArray) (c:Int) (n:Int) (h:Heap) (R:Value->Heap->Prop):Prop:=
 Br ((n:Int)==0)
 (R (.slice none 0 0) h)
 (Br (b.toList==(⟨#[]⟩:ByteArray).toList)
 (CallsU Tryz.prog 160 [.string a,.int .i64 n] h fun b3 b4=>
 ∃ d e f,b3 = .slice d e f/\
 R (.slice d e f) b4)
 (∃ g:Int->Heap->Prop,(∀ (a6:Int) (a7:Heap),g a6 a7->
 ∀ u:Int,u=IntKind.i64.wrap ((a.size:Int)+1)->
 0<=(if decide (u<a6) then u else a6)/\(if decide (u<a6) then u else a6)<=(if decide (u<a6) then u else a6)/\(if decide (u<a6) then u else a6)*16<=140737488355328/\(if decide (u<a6) then u else a6)<=9223372036854775807/\
 ∀ (a8:Nat) (a9:Heap),a7 a8=none->a9=Heap.put a7 a8 ⟨repV [.string ByteArray.empty] (Int.toNat (if decide (u<a6) then u else a6)),9,(0,0)⟩->
 ∀ v:Int,v=IntKind.i64.wrap ((if decide (u<a6) then u else a6)-1)->
 ∃ i:Nat->ByteArray->Int->Heap->Prop,(∃ j,i j a 0 a9)/\
 ∀ (j:Nat) (b0:ByteArray) (b1:Int) (b2:Heap),i j b0 b1 b2->
 Br (decide (b1<v))
 (CallsU Tryz.prog 162 [.string b0,.string b] b2 fun b5 b6=>
 ∃ k,b5 = .int .i64 k/\
 Br (decide (k<0))
 (∃ l:Addr,some ⟨a8,0,none⟩=some l/\0<=b1/\b1<(((Int.toNat (if decide (u<a6) then u else a6)):Nat):Int)/\
 ∃ m:Blk,b6 (Addr.block (Addr.add l (Int.toNat b1*1)))=some m/\m.fz=(0,0)/\Addr.spot (Addr.add l (Int.toNat b1*1))=none/\Addr.off (Addr.add l (Int.toNat b1*1))+1<=m.cells.length/\
 ∀ w:Heap,w=Heap.put b6 (Addr.block (Addr.add l (Int.toNat b1*1))) { m with cells:=setSeg m.cells (Addr.off (Addr.add l (Int.toNat b1*1))) [.string b0] }->
 ∀ y:Int,y=IntKind.i64.wrap (b1+1)->
 ((0:Nat):Int)<=y/\y<=(((Int.toNat (if decide (u<a6) then u else a6)):Nat):Int)/\
 R (.slice (some ⟨a8,0,none⟩) (Int.toNat y) (Int.toNat (if decide (u<a6) then u else a6))) w)
 (∀ z:Int,z=IntKind.i64.wrap (k+c)->
 ((0:Nat):Int)<=z/\z<=(b0.size:Int)/\
 ∃ o:Addr,some ⟨a8,0,none⟩=some o/\0<=b1/\b1<(((Int.toNat (if decide (u<a6) then u else a6)):Nat):Int)/\
 ∃ p:Blk,b6 (Addr.block (Addr.add o (Int.toNat b1*1)))=some p/\p.fz=(0,0)/\Addr.spot (Addr.add o (Int.toNat b1*1))=none/\Addr.off (Addr.add o (Int.toNat b1*1))+1<=p.cells.length/\
 ∀ a0:Heap,a0=Heap.put b6 (Addr.block (Addr.add o (Int.toNat b1*1))) { p with cells:=setSeg p.cells (Addr.off (Addr.add o (Int.toNat b1*1))) [.string (ByteArray.extract b0 0 (Int.toNat z))] }->
 ∀ a1:Int,a1=IntKind.i64.wrap (k+(b.size:Int))->
 ((0:Nat):Int)<=a1/\a1<=(b0.size:Int)/\
 ∀ a2:Int,a2=IntKind.i64.wrap (b1+1)->
 ∃ q,q<j/\i q (ByteArray.extract b0 (Int.toNat a1) b0.size) a2 a0))
 (∃ r:Addr,some ⟨a8,0,none⟩=some r/\0<=b1/\b1<(((Int.toNat (if decide (u<a6) then u else a6)):Nat):Int)/\
 ∃ s:Blk,b2 (Addr.block (Addr.add r (Int.toNat b1*1)))=some s/\s.fz=(0,0)/\Addr.spot (Addr.add r (Int.toNat b1*1))=none/\Addr.off (Addr.add r (Int.toNat b1*1))+1<=s.cells.length/\
 ∀ a3:Heap,a3=Heap.put b2 (Addr.block (Addr.add r (Int.toNat b1*1))) { s with cells:=setSeg s.cells (Addr.off (Addr.add r (Int.toNat b1*1))) [.string b0] }->
 ∀ a4:Int,a4=IntKind.i64.wrap (b1+1)->
 ((0:Nat):Int)<=a4/\a4<=(((Int.toNat (if decide (u<a6) then u else a6)):Nat):Int)/\
 R (.slice (some ⟨a8,0,none⟩) (Int.toNat a4) (Int.toNat (if decide (u<a6) then u else a6))) a3))/\
 Br (decide (n<0))
 (CallsU Tryz.prog 161 [.string a,.string b] h fun b7 b8=>
 ∃ t,b7 = .int .i64 t/\
 ∀ a5:Int,a5=IntKind.i64.wrap (t+1)->
 g a5 b8)
 (g n h)))
theorem strings_genSplit_ok {a:ByteArray} {b:ByteArray} {c:Int} {n:Int} {h:Heap} {R:Value->Heap->Prop} (hv:strings_genSplit_vc a b c n h R):CallsU Tryz.prog 90 [.string a,.string b,.int .i64 c,.int .i64 n] h R:=
 fn_ok Tryz.func90 (fun _=>false) (.two .nil (.two .nil (.two .nil (.cut ⟨[(3,Sh.int .i64)],[]⟩ .nil (.two .nil (.two .nil (.two .nil (.two .nil (.two (.one (.loop ⟨[(0,Sh.str),(10,Sh.int .i64)],[]⟩ .nil)) .nil))))))))) hv
def strings_Index_vc (a:ByteArray) (b:ByteArray) (h:Heap) (R:Value->Heap->Prop):Prop:=
 CallsU Tryz.prog 221 [.string a,.string b] h fun d e=>
 ∃ c,d = .int .i64 c/\
 R (.int .i64 c) e
theorem strings_Index_ok {a:ByteArray} {b:ByteArray} {h:Heap} {R:Value->Heap->Prop} (hv:strings_Index_vc a b h R):CallsU Tryz.prog 162 [.string a,.string b] h R:=
 fn_ok Tryz.func162 (fun _=>false) .nil hv
end Go.Proofs.YtfglcgbgaeegaaaGreatDoor

namespace Go.Proofs.YtfglcgbgaeegaaaGreatDoor
open Go Go.Vcg Go.RowKit Go.Sort
attribute [local irreducible] Br
def splGo (b:UInt8):Nat->List UInt8->List (List UInt8)
 | 0,l=>[l]
 | n+1,l=>l.takeWhile (· != b)::splGo b n ((l.dropWhile (· != b)).drop 1)
def splitV (b:UInt8) (l:List UInt8):List (List UInt8):=splGo b (l.count b) l
theorem splGo_len (b:UInt8) : ∀ (n:Nat) (l:List UInt8),(splGo b n l).length=n+1
 | 0,_=>rfl
 | n+1,l=>by rw [splGo,List.length_cons,splGo_len b n]
theorem count_dw {b:UInt8} {l:List UInt8} (h:b∈l):((l.dropWhile (· != b)).drop 1).count b+1=l.count b:=by
 induction l with
 | nil=>cases h
 | cons x l ih=>
  rw [List.dropWhile_cons]
  by_cases hx:x=b
  ·subst hx
   simp
  ·have:(x != b)=true:=by simpa using hx
   rw [if_pos this,List.count_cons_of_ne hx]
   exact ih ((List.mem_cons.1 h).resolve_left fun e=>hx e.symm)
theorem strIndex1_c {l:List UInt8} (b:UInt8) (h:Heap) :
  CallsU Tryz.prog 162 [sv l,sv [b]] h fun r h' => r = .int .i64 (Lib.indexByte l b)/\h=h' := by
 apply strings_Index_ok
 refine (slIndex1_c b h).mono ?_
 rintro _ _ ⟨rfl,rfl⟩
 exact ⟨_,rfl,rfl,rfl⟩
theorem strCount1_c {l:List UInt8} (b:UInt8) (h:Heap) :
  CallsU Tryz.prog 161 [sv l,sv [b]] h fun r h' => r = .int .i64 (l.count b:Int)/\h=h' :=
 callsU_same ⟨_,Tryz.func161,by kernel_rfl,by kernel_rfl⟩ fun w _=>by
  have h1:=Tryz.strings_Count_one ⟨l.toArray⟩ b w
  simpa [Lib.countByte] using h1
theorem setSeg_sv {done:List (List UInt8)} {x z:List UInt8} {rest:List (List UInt8)} {k:Nat} (hk:k=done.length):setSeg ((done++z::rest).map sv) k [sv x]=((done++[x])++rest).map sv:=by
 subst hk
 unfold setSeg
 rw [List.map_append,List.take_append_of_le_length (by simp),List.take_of_length_le (by simp)]
 simp [List.drop_append]
theorem genSplit1_c {l:List UInt8} (b:UInt8) (hl:l.length<=1000000) (h:Heap) :
  CallsU Tryz.prog 90 [sv l,sv [b],.int .i64 0,.int .i64 (-1)] h fun r h' => ∃ g,h g=none/\r = .slice (some ⟨g,0,none⟩) (splitV b l).length (splitV b l).length/\h' = h.put g ⟨(splitV b l).map sv,9,(0,0)⟩:=by
 apply strings_genSplit_ok
 unfold strings_genSplit_vc
 have hs:(⟨[b].toArray⟩:ByteArray).size=1:=rfl
 have hcl:l.count b<=l.length:=List.count_le_length
 rw [hs,bytes_toList,ba_size]
 refine Br.mk (fun q=>by exact absurd q (by decide)) (fun _=>Br.mk (fun q=>by have e:=eq_of_beq q;rw [show (⟨#[]⟩:ByteArray).toList=[] from bytes_toList []] at e;cases e) (fun _=> ?_))
 refine ⟨fun n h' => n=((l.count b+1:Nat):Int)/\h=h', ?_,Br.mk (fun _=> ?_) (fun q=>by exact absurd q (by decide))⟩
 ·rintro _ _ ⟨rfl,rfl⟩ _ rfl
  have e1:IntKind.i64.wrap ((l.length:Int)+1)=((l.length+1:Nat):Int):=wi (by omega) (by omega)
  have e2:(if decide (((l.length+1:Nat):Int)<((l.count b+1:Nat):Int))=true then ((l.length+1:Nat):Int) else ((l.count b+1:Nat):Int))=((l.count b+1:Nat):Int):=by
   rw [decide_eq_false (by omega)]
   rfl
  rw [e1,e2,Int.toNat_natCast]
  refine ⟨by omega,by omega,by omega,by omega, ?_⟩
  rintro g _ hg rfl _ rfl
  have e3:IntKind.i64.wrap (((l.count b+1:Nat):Int)-1)=((l.count b:Nat):Int):=wi (by omega) (by omega)
  rw [e3,repV_sv]
  refine ⟨fun m s i h' => ∃ k l' done,k<=l.count b/\m=l.count b-k/\i=(k:Int)/\s=⟨l'.toArray⟩/\l'.count b=l.count b-k/\l'.length<=1000000/\done.length=k/\h' = h.put g ⟨(done++List.replicate (l.count b+1-k) []).map sv,9,(0,0)⟩/\splitV b l=done++splGo b (l.count b-k) l', ⟨_,0,l,[],by omega,rfl,rfl,rfl,by omega,hl,rfl,rfl,rfl⟩, ?_⟩
  rintro m _ _ _ ⟨k,l', done,hk,rfl,rfl,rfl,hc,hl', hd,rfl,heq⟩
  have er:l.count b+1-k=(l.count b-k)+1:=by omega
  rw [er,List.replicate_succ]
  have hput : ∀ x:List UInt8,setSeg ((done++[]::List.replicate (l.count b-k) []).map sv) k [sv x]=((done++[x])++List.replicate (l.count b-k) []).map sv:=fun x=>setSeg_sv hd.symm
  have hadd:(⟨g,0,none⟩:Addr).add (Int.toNat (k:Int)*1)=⟨g,k,none⟩:=by
   rw [Int.toNat_natCast]
   rw [Nat.mul_one]
   unfold Addr.add
   simp only [Nat.zero_add]
   split
   ·rename_i h0;rw [h0]
   ·rfl
  refine Br.mk (fun q=> ?_) (fun q=> ?_)
  ·have hlt:k<l.count b:=by have:=of_decide_eq_true q;omega
   refine (strIndex1_c b _).mono ?_
   rintro _ _ ⟨rfl,rfl⟩
   have hb:b∈l' := List.count_pos_iff.1 (by omega)
   have hlt' := tw_lt hb
   rw [idx_spec,if_pos hb]
   refine ⟨_,rfl,Br.mk (fun q=>by have:=of_decide_eq_true q;omega) (fun _=> ?_)⟩
   rintro _ rfl
   have e4:IntKind.i64.wrap (((l'.takeWhile (· != b)).length:Int)+0)=(((l'.takeWhile (· != b)).length:Nat):Int):=wi (by omega) (by omega)
   have e5:IntKind.i64.wrap (((l'.takeWhile (· != b)).length:Int)+((1:Nat):Int))=(((l'.takeWhile (· != b)).length+1:Nat):Int):=wi (by omega) (by omega)
   rw [e4,ba_size]
   refine ⟨by omega,by omega,_,rfl,by omega,by omega, ?_⟩
   rw [hadd]
   refine ⟨_,Heap.put_same _ _ _,rfl,rfl,by simp;omega, ?_⟩
   rintro _ rfl _ rfl
   rw [e5]
   refine ⟨by omega,by omega, ?_⟩
   rintro _ rfl
   refine ⟨l.count b-(k+1),by omega,k+1,(l'.dropWhile (· != b)).drop 1,done++[l'.takeWhile (· != b)],by omega,rfl,wi (by omega) (by omega), ?_, ?_, ?_,by simp;omega, ?_, ?_⟩
   ·rw [Int.toNat_natCast,ba_ext,List.take_length,<- List.drop_drop,tw_drop]
   ·have:=count_dw hb
    omega
   ·rw [<- tw_drop,List.drop_drop,List.length_drop]
    omega
   ·rw [Int.toNat_natCast,ba_ext,List.drop_zero,tw_take,Heap.put_put]
    simp only
    rw [hput,show l.count b+1-(k+1)=l.count b-k by omega]
   ·rw [heq,show l.count b-k=(l.count b-(k+1))+1 by omega,splGo]
    simp
  ·have hke:k=l.count b:=by have:=of_decide_eq_false q;omega
   refine ⟨_,rfl,by omega,by omega, ?_⟩
   rw [hadd]
   refine ⟨_,Heap.put_same _ _ _,rfl,rfl,by simp;omega, ?_⟩
   rintro _ rfl _ rfl
   have e6:IntKind.i64.wrap ((k:Int)+1)=((l.count b+1:Nat):Int):=wi (by omega) (by omega)
   rw [e6]
   refine ⟨by omega,by omega,g,hg, ?_, ?_⟩
   ·rw [Int.toNat_natCast]
    unfold splitV
    rw [splGo_len]
   ·rw [Heap.put_put]
    simp only
    rw [hput,heq,hke,Nat.sub_self,splGo]
    simp
 ·refine (strCount1_c b h).mono ?_
  rintro _ _ ⟨rfl,rfl⟩
  refine ⟨_,rfl, ?_⟩
  rintro _ rfl
  exact ⟨wi (by omega) (by omega),rfl⟩
theorem split1_c {l:List UInt8} (b:UInt8) (hl:l.length<=1000000) (h:Heap) :
  CallsU Tryz.prog 47 [sv l,sv [b]] h fun r h' => ∃ g,h g=none/\r = .slice (some ⟨g,0,none⟩) (splitV b l).length (splitV b l).length/\h' = h.put g ⟨(splitV b l).map sv,9,(0,0)⟩:=by
 apply strings_Split_ok
 refine (genSplit1_c b hl h).mono ?_
 rintro _ _ ⟨g,h1,rfl,rfl⟩
 exact ⟨_,_,_,rfl,g,h1,rfl,rfl⟩
theorem callsU_own {P:Program} {f:FuncId} {args:List Value} {h:Heap} {ty n:Nat} {xs:List Value} (hc:Callable P f)
  (hw : ∀ w,Sat h w->Calls P f args.toArray w fun e w' => ∃ v', e = .returned v' /\ w'.ownsRow w.heap.size ty 1 v' n xs/\v' ≠ .slice none 0 0/\Below w.heap.size w w') :
  CallsU P f args h fun r h' => ∃ g cap cells,h g=none/\r = .slice (some ⟨g,0,none⟩) n cap/\n<=cap/\cells.take n=xs/\h' = h.put g ⟨cells,ty,(0,0)⟩:=by
 refine ⟨hc,fun w s=>(hw w s).mono fun e w' ⟨v,he,⟨hl,ho⟩,hne,b⟩=> ?_⟩
 rcases ho with ⟨e0,_⟩ | ⟨g,cap,cur,ev,hg,hcur,hcap,_,hsz,htk⟩
 ·exact absurd e0 hne
 ·have hgn:h g=none:=by
   cases q:h g with
   | none=>rfl
   | some x=>have:=(s g x q).lt;omega
  refine ⟨v,h.put g ⟨cur.toList,ty,(0,0)⟩,he,⟨g,cap,cur.toList,hgn,ev,hcap,by simpa using htk,rfl⟩,fun k x hk=> ?_,⟨b.size,b.os,b.tape,b.output,fun k hk h0=>⟨?_,b.block k hk⟩⟩⟩
  ·by_cases hkg:k=g
   ·subst hkg
    rw [Heap.put_same] at hk
    cases hk
    exact SatB.mk' (plain_fz rfl) (by simpa using hcur)
   ·rw [Heap.put_ne _ _ hkg] at hk
    have:=s k x hk
    exact this.same (b.block k this.lt)
  ·rw [Heap.put_ne _ _ (by omega)]
   exact h0
theorem cloneS_c {h:Heap} {g c ty:Nat} {pre zs rest:List (List UInt8)} (hb:h g=some ⟨(pre++zs++rest).map sv,ty,(0,0)⟩) (hsz:zs.length<=1000000) {n:Nat} (hn:n=zs.length) :
  CallsU Tryz.prog 163 [.slice (some ⟨g,pre.length,none⟩) n c] h fun r h' => ∃ g' cap,r = .slice (some ⟨g', 0,none⟩) n cap/\Sl sv h' (some ⟨g', 0,none⟩) n cap zs/\Le h h' := by
 subst hn
 have key:=callsU_own (h:=h) (P:=Tryz.prog) (f:=163) (args:=[.slice (some ⟨g,pre.length,none⟩) zs.length c]) (ty:=9) (n:=zs.length) (xs:=zs.map sv) ⟨_,Tryz.func163,by kernel_rfl,by kernel_rfl⟩ fun w s=>by
  have sg:=(s g _ hb).cells (plain_fz rfl)
  have:=Tryz.slices_Clone_string g pre.length zs.length c (zs.map fun x=>⟨x.toArray⟩) w (by simp) (by omega) (fun j hj=>by
   rw [List.length_map] at hj
   unfold World.cell?
   simp only [sg,Option.isSome_none,Bool.false_eq_true,if_false,List.getElem?_toArray]
   rw [List.getElem?_map,List.append_assoc,List.getElem?_append_right (by omega),Nat.add_sub_cancel_left,List.getElem?_append_left hj,List.getElem?_eq_getElem hj]
   simp [List.getD,hj])
  rw [show ((zs.map fun x=>(⟨x.toArray⟩:ByteArray)).take zs.length).map Value.string=zs.map sv by rw [List.take_of_length_le (by simp),List.map_map];rfl] at this
  exact this
 refine key.mono ?_
 rintro _ _ ⟨g', cap,cells,hg,rfl,hcap,htk,rfl⟩
 exact ⟨g', cap,rfl,⟨rfl,hcap,fun _=>⟨_,_,rfl,rfl,Heap.put_same _ _ _,by simpa using htk⟩⟩,Le.new hg _⟩
theorem joinO_c {h:Heap} {g c ty:Nat} {pre zs:List (List UInt8)} (sep:List UInt8) (hb:h g=some ⟨(pre++zs).map sv,ty,(0,0)⟩) {n:Nat} (hn:n=zs.length) (hc:n<=c) (hsz:n<=140737488355328) (hlen:(Lib.join zs sep).length<=140737488355328) :
  CallsU Tryz.prog 103 [.slice (some ⟨g,pre.length,none⟩) n c,sv sep] h fun r h' => r=sv (Lib.join zs sep)/\h=h' := by
 subst hn
 refine callsU_below ⟨_,Tryz.func103,by kernel_rfl,by kernel_rfl⟩ fun w s=> ?_
 have sg:=(s g _ hb).cells (plain_fz rfl)
 have hlt:g<w.heap.size:=(Array.getElem?_eq_some_iff.1 sg).1
 have e:(zs.map fun x=>(⟨x.toArray⟩:ByteArray)).map (fun x=>x.data.toList)=zs:=by
  rw [List.map_map]
  conv=>rhs;rw [<- List.map_id zs]
  apply List.map_congr_left
  intro x _
  rfl
 have:=Tryz.strings_Join g pre.length c (zs.map fun x=>⟨x.toArray⟩) ⟨sep.toArray⟩ w (fun j x hj=>by
  unfold World.cell?
  simp only [sg,Option.isSome_none,Bool.false_eq_true,if_false,List.getElem?_toArray]
  rw [List.getElem?_map] at hj ⊢
  rw [List.getElem?_append_right (by omega),Nat.add_sub_cancel_left]
  cases hz:zs[j]? with
  | none=>rw [hz] at hj;cases hj
  | some z=>
   rw [hz] at hj
   simp only [Option.map_some,Option.some.injEq] at hj ⊢
   rw [<- hj]) hlt (by simpa using hsz) (by simpa using hc) (by rw [e];exact hlen)
 rw [e,List.length_map] at this
 exact this
theorem hasPrefix_c (l p:List UInt8) (h:Heap) :
  CallsU Tryz.prog 204 [sv l,sv p] h fun r h' => r = .bool (Lib.hasPrefix l p)/\h=h' :=
 callsU_same ⟨_,Tryz.func204,by kernel_rfl,by kernel_rfl⟩ fun w _=>by simpa using Tryz.strings_HasPrefix ⟨l.toArray⟩ ⟨p.toArray⟩ w
def opN (op:Int) (c:UInt8):Int:=if c=40 then op+1 else if c=41 then op-1 else op
def commaAt (op:Int):List UInt8->Option Nat
 | []=>none
 | c::r=>if op=0/\Lib.hasPrefix (c::r) [32,44,32]=true then some 0 else (commaAt (opN op c) r).map (· + 1)
def divFV (ws:List (List UInt8)) (nums:Nat):Option (List (List UInt8)):=
 if nums=0\/ws=[] then (if nums=0/\ws=[] then some [] else none)
 else if nums=1 then some [Lib.join ws [32]]
 else (commaAt 0 (Lib.join ws [32])).map fun i=>[(Lib.join ws [32]).take i,(Lib.join ws [32]).drop (i+3)]
def DvR (o:Option (List (List UInt8))) (r:Value) (h' : Heap):Prop:=
 match o with
 | some ts=> ∃ A n c,r = .tuple #[.slice A n c,.bool true]/\Sl sv h' A n c ts
 | none=>r = .tuple #[.slice none 0 0,.bool false]
theorem drDivF_c {h:Heap} {A:Option Addr} {n c ty:Nat} {ws:List (List UInt8)} (nums:Nat) (hn:n=ws.length) (hc:n<=c) (hsz:n<=1000000) (hmem:ws≠[]-> ∃ g pre,A=some ⟨g,List.length pre,none⟩/\h g=some ⟨(pre++ws).map sv,ty,(0,0)⟩) (hlen:(Lib.join ws [32]).length<=1000000) :
  CallsU Tryz.prog 164 [.slice A n c,.int .i64 (nums:Int)] h fun r h' => DvR (divFV ws nums) r h' /\ Le h h' := by
 apply draft_divideFormulas_ok
 unfold draft_divideFormulas_vc divFV
 have hw0:ws=[]↔n=0:=by rw [hn,List.length_eq_zero_iff]
 refine ⟨fun t h' => h=h' /\ t=decide (nums=0\/ws=[]), ?_,Br.mk (fun q=> ?_) (fun q=> ?_)⟩
 ·rintro _ _ ⟨rfl,rfl⟩
  refine Br.mk (fun q=> ?_) (fun q=> ?_)
  ·have h0:=of_decide_eq_true q
   rw [if_pos h0]
   refine ⟨fun A' n' c' t h' => A' = none/\n' = 0/\c' = 0/\h=h' /\ t=decide (nums=0/\ws=[]), ?_,Br.mk (fun q=> ?_) (fun q=> ?_)⟩
   ·rintro _ _ _ _ _ ⟨rfl,rfl,rfl,rfl,rfl⟩
    by_cases h1:nums=0/\ws=[]
    ·rw [if_pos h1,decide_eq_true h1]
     exact ⟨⟨_,_,_,rfl,Sl.nil _ _ _⟩,Le.refl _⟩
    ·rw [if_neg h1,decide_eq_false h1]
     exact ⟨rfl,Le.refl _⟩
   ·have h1:nums=0:=by have:=beq_iff_eq.1 q;omega
    refine ⟨rfl,rfl,rfl,rfl, ?_⟩
    rw [Bool.eq_iff_iff,beq_iff_eq,decide_eq_true_iff,hw0]
    omega
   ·have h1:nums≠0:=fun e=>by rw [e] at q;exact absurd q (by decide)
    exact ⟨rfl,rfl,rfl,rfl,(decide_eq_false fun q=>h1 q.1).symm⟩
  ·have h0:=of_decide_eq_false q
   rw [if_neg h0]
   obtain ⟨h1,h2⟩:=not_or.1 h0
   obtain ⟨g,pre,rfl,hb⟩:=hmem h2
   refine (joinO_c [32] hb hn hc (by omega) (by omega)).mono ?_
   rintro _ _ ⟨rfl,rfl⟩
   generalize Lib.join ws [32]=t at hlen
   refine ⟨_,rfl,Br.mk (fun q=> ?_) (fun q=> ?_)⟩
   ·rw [if_pos (by have:=beq_iff_eq.1 q;omega)]
    rintro g1 _ hg1 rfl
    exact ⟨⟨_,_,_,rfl,Sl.of_blk (ys:=[t]) (Heap.put_same _ _ _) (Nat.le_refl _) (Nat.le_refl _)⟩,Le.new hg1 _⟩
   ·have h3:nums≠1:=fun e=>by rw [e] at q;exact absurd q (by decide)
    rw [if_neg h3,ba_size]
    refine ⟨fun m op i h' => ∃ k,k<=t.length/\m=t.length-k/\i=(k:Int)/\h=h' /\ (-(k:Int)<=op/\op<=k)/\commaAt 0 t=(commaAt op (t.drop k)).map (· + k),⟨_,0,by omega,rfl,rfl,rfl,by omega,by simp⟩, ?_⟩
    rintro m op _ _ ⟨k,hk,rfl,rfl,rfl,hop,heq⟩
    refine Br.mk (fun q=> ?_) (fun q=> ?_)
    ·have hlt:k<t.length:=by have:=of_decide_eq_true q;omega
     obtain ⟨x,hx⟩ : ∃ x,t[k]?=some x:=⟨_,List.getElem?_eq_getElem hlt⟩
     have hdr:t.drop k=x::t.drop (k+1):=by
      rw [List.drop_eq_getElem_cons hlt]
      rw [List.getElem?_eq_getElem hlt] at hx
      cases hx
      rfl
     have go : ∀ op', op' = opN op x-> ¬ (op=0/\Lib.hasPrefix (t.drop k) [32,44,32]=true)-> ∀ t61:Int,t61=IntKind.i64.wrap ((k:Int)+1)-> ∃ m_1,m_1<t.length-k/\ ∃ k', k' <= t.length/\m_1=t.length-k' /\ t61=(k' : Int)/\h=h/\(-(k' : Int)<=op' /\ op' <= k')/\commaAt 0 t=(commaAt op' (t.drop k')).map (· + k'):=by
      rintro op' rfl hno _ rfl
      refine ⟨t.length-(k+1),by omega,k+1,by omega,rfl,wi (by omega) (by omega),rfl, ?_, ?_⟩
      ·unfold opN
       split
       ·omega
       ·split<;>omega
      ·rw [hdr] at hno heq
       rw [heq,commaAt,if_neg hno,Option.map_map]
       congr 1
       funext i
       simp only [Function.comp]
       omega
     refine ⟨fun h' => h=h' /\ ¬ (op=0/\Lib.hasPrefix (t.drop k) [32,44,32]=true), ?_,Br.mk (fun q2=> ?_) (fun q2=> ?_)⟩
     ·rintro _ ⟨rfl,hno⟩
      refine ⟨x,by omega,by rw [Int.toNat_natCast,ba_get];exact hx,Br.mk (fun q3=> ?_) (fun q3=>Br.mk (fun q4=> ?_) (fun q4=> ?_))⟩
      ·have h40:x=40:=by have:=beq_iff_eq.1 q3;exact UInt8.toNat_inj.1 (by change x.toNat=40;omega)
       rintro _ rfl
       exact go _ (by rw [show IntKind.i64.wrap (op+1)=op+1 by rw [IntKind.wrap_i64];omega];unfold opN;rw [if_pos h40]) hno
      ·have h40:x≠40:=fun e=>by rw [e] at q3;exact absurd q3 (by decide)
       have h41:x=41:=by have:=beq_iff_eq.1 q4;exact UInt8.toNat_inj.1 (by change x.toNat=41;omega)
       rintro _ rfl
       exact go _ (by rw [show IntKind.i64.wrap (op-1)=op-1 by rw [IntKind.wrap_i64];omega];unfold opN;rw [if_neg h40,if_pos h41]) hno
      ·have h40:x≠40:=fun e=>by rw [e] at q3;exact absurd q3 (by decide)
       have h41:x≠41:=fun e=>by rw [e] at q4;exact absurd q4 (by decide)
       exact go _ (by unfold opN;rw [if_neg h40,if_neg h41]) hno
     ·have hop0:op=0:=beq_iff_eq.1 q2
      subst hop0
      rw [Int.toNat_natCast,ba_ext,List.take_length]
      refine ⟨by omega,by omega, ?_⟩
      refine (hasPrefix_c _ _ _).mono ?_
      rintro _ _ ⟨rfl,rfl⟩
      refine ⟨_,rfl,Br.mk (fun q3=> ?_) (fun q3=> ?_)⟩
      ·refine ⟨by omega,by omega, ?_⟩
       have hl3:k+3<=t.length:=by
        have h4:=(List.isPrefixOf_iff_prefix.1 q3).length_le
        rw [List.length_drop] at h4
        simp at h4
        omega
       rintro _ rfl
       rw [show IntKind.i64.wrap ((k:Int)+3)=((k+3:Nat):Int) from wi (by omega) (by omega),Int.toNat_natCast,ba_ext,ba_ext,List.take_length,List.drop_zero]
       refine ⟨by omega,by omega, ?_⟩
       rintro g1 _ hg1 rfl
       rw [hdr] at q3 heq
       rw [heq,commaAt,if_pos ⟨rfl,q3⟩]
       simp only [Option.map_some,Nat.zero_add]
       exact ⟨⟨_,_,_,rfl,Sl.of_blk (ys:=[t.take k,t.drop (k+3)]) (Heap.put_same _ _ _) (Nat.le_refl _) (Nat.le_refl _)⟩,Le.new hg1 _⟩
      ·exact ⟨rfl,fun q=>by rw [q.2] at q3;cases q3⟩
     ·exact ⟨rfl,fun q=>by rw [q.1] at q2;exact absurd q2 (by decide)⟩
    ·have hke:k=t.length:=by have:=of_decide_eq_false q;omega
     rw [heq,hke,List.drop_length,commaAt]
     exact ⟨rfl,Le.refl _⟩
 ·have h1:nums=0:=by have:=beq_iff_eq.1 q;omega
  exact ⟨rfl,(decide_eq_true (Or.inl h1)).symm⟩
 ·have h1:nums≠0:=fun e=>by rw [e] at q;exact absurd q (by decide)
  refine ⟨rfl, ?_⟩
  rw [Bool.eq_iff_iff,beq_iff_eq,decide_eq_true_iff,hw0]
  omega
def totL:List (List UInt8)->Nat
 | []=>0
 | z::zs=>z.length+1+totL zs
theorem totL_drop : ∀ (k:Nat) (zs:List (List UInt8)),totL (zs.drop k)<=totL zs
 | 0,_=>Nat.le_refl _
 | k+1,[]=>by simp
 | k+1,z::zs=>by rw [List.drop_succ_cons,totL];have:=totL_drop k zs;omega
theorem totL_mem : ∀ {zs:List (List UInt8)} {x:List UInt8},x∈zs->x.length<=totL zs
 | z::zs,x,h=>by
  rw [totL]
  rcases List.mem_cons.1 h with rfl | h
  ·omega
  ·have:=totL_mem h;omega
theorem totL_len : ∀ zs:List (List UInt8),zs.length<=totL zs
 | []=>Nat.le_refl _
 | z::zs=>by rw [totL,List.length_cons];have:=totL_len zs;omega
theorem totL_join (b:UInt8) : ∀ zs:List (List UInt8),(Lib.join zs [b]).length<=totL zs
 | []=>by simp [Lib.join_nil]
 | z::zs=>by
  have h2:(Lib.joinTail [b] zs).length<=totL zs:=by
   unfold Lib.joinTail
   induction zs with
   | nil=>simp
   | cons y r ih=>
    simp only [List.map_cons,List.flatten_cons,List.length_append,List.length_cons,List.length_nil]
    rw [totL]
    omega
  rw [Lib.join_cons,List.length_append,totL]
  omega
theorem totL_spl (b:UInt8) : ∀ (n:Nat) (l:List UInt8),totL (splGo b n l)<=l.length+n+1
 | 0,l=>by rw [splGo,totL,totL];omega
 | n+1,l=>by
  rw [splGo,totL]
  have h1:=totL_spl b n ((l.dropWhile (· != b)).drop 1)
  have h2:=congrArg List.length (List.takeWhile_append_dropWhile (p:=(· != b)) (l:=l))
  rw [List.length_append] at h2
  rw [List.length_drop] at h1
  omega
theorem totL_split (b:UInt8) (l:List UInt8):totL (splitV b l)<=2*l.length+1:=by
 have h1:=totL_spl b (l.count b) l
 have h2:l.count b<=l.length:=List.count_le_length
 unfold splitV
 omega
def kindV (w:List UInt8):Int:=if w=wdN 1 then 1 else if w=wdN 2 then 2 else if w=wdN 3 then 3 else if w=wdN 4 then 4 else if w=wdN 5 then 5 else if w=wdN 6 then 6 else 7
theorem kindV_ge (w:List UInt8):1<=kindV w:=by unfold kindV;repeat' split<;>try decide
theorem kindV_eq {w:List UInt8} {k:Int} (h:k=kindV w) (h3:k<=6):w=wdN k:=by
 subst h
 unfold kindV at h3 ⊢
 repeat' split at h3
 all_goals first | (exact absurd h3 (by decide)) | skip
 all_goals simp_all
theorem kindV_of {w:List UInt8} {k:Int} (h1:1<=k) (h3:k<=6) (h:w=wdN k):kindV w=k:=by
 subst h
 have hk:k=1\/k=2\/k=3\/k=4\/k=5\/k=6:=by omega
 rcases hk with rfl | rfl | rfl | rfl | rfl | rfl<;>decide
def linkV (lk:List UInt8) (r:List (List UInt8)):Option (List (List UInt8)):=if lk=[] then some r else match r with
 | []=>none
 | x::r' => if x=lk then some r' else none
def behindV (w0:List UInt8) (k:Int) (rest:List (List UInt8)):Option (List UInt8×Int×List (List UInt8)×List (List UInt8)):=
 if (frN k).toNat<=rest.length then
  if (rest.take (frN k).toNat).all isPointV then
   match linkV (lkN k) (rest.drop (frN k).toNat) with
   | none=>none
   | some r=>(divFV r (nuN k).toNat).map fun ts=>(w0,k,rest.take (frN k).toNat,ts)
  else none
 else none
def divWV (ws:List (List UInt8)):Option (List UInt8×Int×List (List UInt8)×List (List UInt8)):=
 match ws with
 | w0::w1::w2::rest=>if isPointV w0=true/\w1=[61] then (if kindV w2<=6 then behindV w0 (kindV w2) rest else none) else none
 | _=>none
def divLV (line:List UInt8):=divWV (splitV 32 line)
def DlR (o:Option (List UInt8×Int×List (List UInt8)×List (List UInt8))) (r:Value) (h' : Heap):Prop:=
 match o with
 | some (nm,k,fr,ts)=> ∃ F fc A n c,r = .tuple #[.agg #[sv nm,.int .i64 k,.slice F fr.length fc,.slice none 0 0],.slice A n c,.bool true]/\Sl sv h' F fr.length fc fr/\Sl sv h' A n c ts
 | none=> ∃ nm k F fn fc,r = .tuple #[.agg #[Value.string nm,.int .i64 k,.slice F fn fc,.slice none 0 0],.slice none 0 0,.bool false]
def Cur (g L:Nat) (A:Option Addr) (o:Nat):Prop:= ∃ o', A=some ⟨g,o', none⟩/\(o<L->o' = o)/\o' <= L
theorem Cur.step {g L:Nat} {A:Option Addr} {o k c:Nat} (u:Cur g L A o) (hc:c=L-o) (ho:o+k<=L):Cur g L (if c=k then A else Option.map (fun x=>Addr.add x (k*1)) A) (o+k):=by
 obtain ⟨o', rfl,h1,h2⟩:=u
 split
 ·exact ⟨o', rfl,fun q=>by omega,h2⟩
 ·have e:=h1 (by omega)
  subst e
  refine ⟨o' + k, ?_,fun _=>rfl,ho⟩
  rw [Nat.mul_one]
  simp only [Option.map_some]
  unfold Addr.add
  split
  ·rename_i h0;rw [h0];rfl
  ·rfl
theorem drDivL_c {line:List UInt8} (hl:line.length<=100000) {h:Heap} (t:Frms h) :
  CallsU Tryz.prog 91 [sv line] h fun r h' => DlR (divLV line) r h' /\ Le h h' := by
 apply draft_divideLine_ok
 unfold draft_divideLine_vc divLV
 refine (split1_c 32 (by omega) h).mono ?_
 rintro _ _ ⟨g,hg,rfl,rfl⟩
 have htot:=totL_split 32 line
 generalize splitV 32 line=ws at htot
 have l1:=Le.new hg (⟨ws.map sv,9,(0,0)⟩:Blk)
 have hb:(h.put g ⟨ws.map sv,9,(0,0)⟩) g=some ⟨ws.map sv,9,(0,0)⟩:=Heap.put_same _ _ _
 generalize h.put g ⟨ws.map sv,9,(0,0)⟩=h1 at l1 hb
 have uw:Sl sv h1 (some ⟨g,0,none⟩) ws.length ws.length ws:=by
  have:=Sl.of_blk (m:=ws.length) (k:=ws.length) hb (Nat.le_refl _) (Nat.le_refl _)
  simpa using this
 have hlen:=totL_len ws
 have bad : ∀ h' : Heap,Le h h' -> (DlR none (Value.tuple #[Value.agg #[Value.string ByteArray.empty,Value.int .i64 0,Value.slice none 0 0,Value.slice none 0 0],Value.slice none 0 0,Value.bool false]) h' /\ Le h h'):=fun h' l=>⟨⟨_,_,_,_,_,rfl⟩,l⟩
 refine ⟨_,_,_,rfl,fun b h' => h1=h' /\ (b=true->divWV ws=none)/\(b=false-> ∃ w0 w2 rest,ws=w0::[61]::w2::rest/\isPointV w0=true), ?_, ?_⟩
 ·rintro b _ ⟨rfl,hbt,hbf⟩
  refine Br.mk (fun q=> ?_) (fun q=> ?_)
  ·rw [hbt q];exact bad _ l1
  obtain ⟨w0,w2,rest,hws,hp0⟩:=hbf q
  have hwl:ws.length=rest.length+3:=by rw [hws];simp
  have edv:divWV ws=if kindV w2<=6 then behindV w0 (kindV w2) rest else none:=by
   rw [hws,divWV,if_pos ⟨hp0,rfl⟩]
  have hk1:=kindV_ge w2
  have hk7:kindV w2<=7:=by unfold kindV;repeat' split<;>try decide
  refine ⟨fun k h' => h1=h' /\ k=kindV w2, ?_, ?_⟩
  ·rintro _ _ ⟨rfl,rfl⟩
   refine Br.mk (fun q=> ?_) (fun q=> ?_)
   ·rw [edv,if_neg (by have:=of_decide_eq_true q;omega)];exact bad _ l1
   have hk6:kindV w2<=6:=by have:=of_decide_eq_false q;omega
   rw [edv,if_pos hk6]
   generalize kindV w2=k at hk1 hk6
   have hf0:0<=frN k/\frN k<=4:=by unfold frN;repeat' split<;>try decide
   have hn0:0<=nuN k/\nuN k<=2:=by unfold nuN;repeat' split<;>try decide
   refine ⟨by omega,by omega,_,_,_,_,(t.mono l1).row (by omega) hk6,by omega,by omega,Br.mk (fun q=> ?_) (fun q=> ?_)⟩
   ·have:=of_decide_eq_true q
    unfold behindV
    rw [if_neg (by omega)]
    exact bad _ l1
   have hfl:(frN k).toNat<=rest.length:=by have:=of_decide_eq_false q;omega
   refine ⟨by omega,by omega, ?_⟩
   have c0:Cur g ws.length (some ⟨g,0,none⟩) 0:=⟨0,rfl,fun _=>rfl,Nat.zero_le _⟩
   have c3:=c0.step (k:=3) (c:=ws.length) (by omega) (by omega)
   have c4:=c3.step (k:=(frN k).toNat) (c:=ws.length-3) (by omega) (by omega)
   have hdr : ∀ j,ws.drop (3+j)=rest.drop j:=fun j=>by rw [<- List.drop_drop,hws];rfl
   obtain ⟨o3,e3,h3,h3l⟩:=c3
   rw [show 0+3=3 from rfl] at h3
   have hz:(ws.drop o3).take (frN k).toNat=rest.take (frN k).toNat:=by
    by_cases h0:(frN k).toNat=0
    ·rw [h0];simp
    ·rw [h3 (by omega),show 3=3+0 from rfl,hdr];rfl
   have hb3:h1 g=some ⟨(ws.take o3++(ws.drop o3).take (frN k).toNat++(ws.drop o3).drop (frN k).toNat).map sv,9,(0,0)⟩:=by
    rw [hb,List.append_assoc,List.take_append_drop,List.take_append_drop]
   have ho3:o3=(ws.take o3).length:=by rw [List.length_take];omega
   have hzl:(frN k).toNat=((ws.drop o3).take (frN k).toNat).length:=by rw [hz,List.length_take];omega
   have kcl:=cloneS_c (c:=ws.length-3) hb3 (by omega) hzl
   rw [<- ho3] at kcl
   rw [e3]
   refine kcl.mono ?_
   rintro _ h2 ⟨g', cap,rfl,uc,l2⟩
   rw [hz] at uc
   rw [e3] at c4
   have l12:=l1.trans l2
   refine ⟨_,_,_,rfl,by omega,by omega, ?_⟩
   have hpt : ∀ x∈rest.take (frN k).toNat,x.length<=1000000:=fun x hx=>by
    have:x∈ws:=by rw [hws];simp [List.mem_of_mem_take hx]
    have:=totL_mem this
    omega
   refine ⟨fun m i a0 a1 a2 a3 a4 a5 a6 a7 h' => ∃ j,j<=(frN k).toNat/\m=(frN k).toNat-j/\i=(j:Int)/\h2=h' /\ ∀ i x,i<j->(rest.take (frN k).toNat)[i]?=some x->isPointV x=true,⟨_,0,by omega,rfl,rfl,rfl,fun i x hi=>by omega⟩, ?_⟩
   rintro m _ a0 a1 a2 a3 a4 a5 a6 a7 _ ⟨j,hj,rfl,rfl,rfl,hall⟩
   have htl:(rest.take (frN k).toNat).length=(frN k).toNat:=by rw [List.length_take];omega
   refine Br.mk (fun q=> ?_) (fun q=> ?_)
   ·have hlt:j<(frN k).toNat:=by have:=of_decide_eq_true q;omega
    obtain ⟨x,hx⟩ : ∃ x,(rest.take (frN k).toNat)[j]?=some x:=⟨_,List.getElem?_eq_getElem (by omega)⟩
    obtain ⟨ad,ea,hld⟩:=uc.get hx
    refine ⟨ad,ea,by omega,by omega,_,by rw [Int.toNat_natCast];exact hld, ?_⟩
    refine (drPoint_c x (hpt x (List.mem_of_getElem? hx)) h2).mono ?_
    rintro _ _ ⟨rfl,rfl⟩
    refine ⟨_,rfl,Br.mk (fun q2=> ?_) (fun q2=> ?_)⟩
    ·unfold behindV
     rw [if_pos hfl,if_neg]
     ·exact bad _ l12
     ·intro ha
      rw [List.all_eq_true.1 ha x (List.mem_of_getElem? hx)] at q2
      cases q2
    ·rintro _ rfl
     refine ⟨(frN k).toNat-(j+1),by omega,j+1,by omega,rfl,wi (by omega) (by omega),rfl,fun i y hi hy=> ?_⟩
     rcases Nat.lt_succ_iff_lt_or_eq.1 hi with q3 | q3
     ·exact hall i y q3 hy
     ·subst q3
      rw [hx] at hy
      cases hy
      simpa using q2
   ·have hje:j=(frN k).toNat:=by have:=of_decide_eq_false q;omega
    have hal:(rest.take (frN k).toNat).all isPointV=true:=by
     rw [List.all_eq_true]
     intro x hx
     obtain ⟨i,hi⟩:=List.getElem?_of_mem hx
     exact hall i x (by rw [hje,<- htl];exact (List.getElem?_eq_some_iff.1 hi).1) hi
    unfold behindV
    rw [if_pos hfl,if_pos hal]
    have hb2:h2 g=some ⟨ws.map sv,9,(0,0)⟩:=l2 _ _ hb
    refine ⟨fun A n c a0 a1 a2 a3 a4 a5 a6 a7 h' => h2=h' /\ ∃ r o,linkV (lkN k) (rest.drop (frN k).toNat)=some r/\ws.drop o=r/\o<=ws.length/\n=ws.length-o/\c=ws.length-o/\Cur g ws.length A o, ?_,Br.mk (fun q3=> ?_) (fun q3=> ?_)⟩
    ·rintro A n c _ _ _ _ _ _ _ _ _ ⟨rfl,r,o,er,hdo,hol,rfl,rfl,ca⟩
     rw [er]
     simp only
     have hrl:ws.length-o=r.length:=by rw [<- hdo,List.length_drop]
     have hrt:totL r<=totL ws:=by rw [<- hdo];exact totL_drop _ _
     have hjl:=totL_join 32 r
     obtain ⟨o', rfl,ho', ho'l⟩:=ca
     have key:=drDivF_c (h:=h2) (A:=some ⟨g,o', none⟩) (c:=ws.length-o) (ty:=9) (ws:=r) (nuN k).toNat hrl (Nat.le_refl _) (by omega) (fun hne=>by
      have:0<r.length:=List.length_pos_iff.2 hne
      refine ⟨g,ws.take o, ?_, ?_⟩
      ·rw [ho' (by omega),List.length_take,Nat.min_eq_left hol]
      ·rw [hb2,<- hdo,List.take_append_drop]) (by omega)
     rw [show (((nuN k).toNat:Nat):Int)=nuN k by omega] at key
     refine key.mono ?_
     rintro _ h4 ⟨hR,l4⟩
     obtain ⟨ad,ea,hld⟩:=(uw.mono (l2.trans l4)).get (i:=0) (x:=w0) (by rw [hws];rfl)
     have l14:=l12.trans l4
     cases hd:divFV r (nuN k).toNat with
     | none=>
      rw [hd] at hR
      have hR' : _=Value.tuple #[Value.slice none 0 0,Value.bool false]:=hR
      subst hR'
      exact ⟨_,_,_,_,rfl,ad,ea,by omega,by omega,_,hld,⟨_,_,_,_,_,rfl⟩,l14⟩
     | some ts=>
      rw [hd] at hR
      obtain ⟨A,n,c,rfl,us⟩:=hR
      refine ⟨_,_,_,_,rfl,ad,ea,by omega,by omega,_,hld,⟨_,_,_,_,_, ?_,uc.mono l4 |> fun u=>by rw [htl];exact u,us⟩,l14⟩
      rw [htl]
    ·rw [bytes_toList,show (⟨#[]⟩:ByteArray).toList=[] from bytes_toList []] at q3
     have hlk:lkN k≠[]:=fun e=>by rw [e] at q3;exact absurd q3 (by decide)
     refine Br.mk (fun q4=> ?_) (fun q4=> ?_)
     ·have:rest.drop (frN k).toNat=[]:=List.drop_of_length_le (by have:=beq_iff_eq.1 q4;omega)
      rw [this,linkV,if_neg hlk]
      exact bad _ l12
     ·have hne:(frN k).toNat<rest.length:=by
       rcases Nat.lt_or_ge (frN k).toNat rest.length with q | q
       ·exact q
       ·have:((ws.length-3-(frN k).toNat:Nat):Int)=0:=by omega
        rw [this] at q4
        exact absurd q4 (by decide)
      obtain ⟨o4,e4,h4,h4l⟩:=c4
      have e4' := h4 (by omega)
      rw [show 0+3=3 from rfl] at e4'
      obtain ⟨x,hx⟩ : ∃ x,rest[(frN k).toNat]?=some x:=⟨_,List.getElem?_eq_getElem hne⟩
      have hrd:rest.drop (frN k).toNat=x::rest.drop ((frN k).toNat+1):=by
       rw [List.drop_eq_getElem_cons hne]
       rw [List.getElem?_eq_getElem hne] at hx
       cases hx
       rfl
      have hld:LdN h2 (Addr.add ⟨g,o4,none⟩ (0*1)) [sv x]:=by
       refine ld_of rfl hb2 ?_
       simp only
       rw [e4', List.getElem?_map,Nat.zero_mul,Nat.add_zero,hws]
       rw [show 3+(frN k).toNat=(frN k).toNat+1+1+1 by omega]
       simp [hx]
      refine ⟨_,e4,by omega,by omega,_,hld, ?_⟩
      rw [bytes_toList,bytes_toList]
      refine Br.mk (fun q5=> ?_) (fun q5=> ?_)
      ·rw [hrd,linkV,if_neg hlk]
       simp only
       rw [if_neg (fun e=>by rw [e] at q5;simp at q5)]
       exact bad _ l12
      ·have hxe:x=lkN k:=by simpa using q5
       refine ⟨by omega,by omega,rfl,rest.drop ((frN k).toNat+1),3+((frN k).toNat+1), ?_,hdr _,by omega,by omega,by omega, ?_⟩
       ·rw [hrd,linkV,if_neg hlk,if_pos hxe]
       ·have c5:=(show Cur g ws.length _ (0+3+(frN k).toNat) from ⟨o4,e4,h4,h4l⟩).step (k:=1) (c:=ws.length-3-(frN k).toNat) (by omega) (by omega)
        exact c5
    ·rw [bytes_toList,show (⟨#[]⟩:ByteArray).toList=[] from bytes_toList []] at q3
     have hlk:lkN k=[]:=by simpa using q3
     refine ⟨rfl,rest.drop (frN k).toNat,3+(frN k).toNat,by rw [linkV.eq_def,if_pos hlk],hdr _,by omega,by omega,by omega,c4⟩
  ·refine ⟨fun m k h' => h1=h' /\ m=(7-k).toNat/\1<=k/\k<=kindV w2,⟨_,rfl,rfl,by omega,hk1⟩, ?_⟩
   rintro m k _ ⟨rfl,rfl,h2,h3⟩
   refine Br.mk (fun q=> ?_) (fun q=> ?_)
   ·have hk6:k<=6:=of_decide_eq_true q
    obtain ⟨ad,ea,hld⟩:=uw.get (i:=2) (x:=w2) (by rw [hws];rfl)
    refine ⟨by omega,by omega,_,LdN.cell ((t.mono l1).row (by omega) hk6) (i:=0) rfl,ad,ea,by omega,by omega,_,hld, ?_⟩
    rw [bytes_toList,bytes_toList]
    refine Br.mk (fun q2=> ?_) (fun q2=> ?_)
    ·rintro _ rfl
     rw [show IntKind.i64.wrap (k+1)=k+1 by rw [IntKind.wrap_i64];omega]
     refine ⟨(7-(k+1)).toNat,by omega,rfl,rfl,by omega, ?_⟩
     rcases Int.lt_or_le k (kindV w2) with q3 | q3
     ·omega
     ·have:=kindV_eq (w:=w2) (k:=k) (by omega) hk6
      rw [this] at q2
      simp at q2
    ·exact ⟨rfl,(kindV_of h2 hk6 (by have:wdN k=w2:=(by simpa using q2);exact this.symm)).symm⟩
   ·exact ⟨rfl,by have:=of_decide_eq_false q;omega⟩
 ·refine Br.mk (fun q=> ?_) (fun q=> ?_)
  ·have hlt:ws.length<3:=by have:=of_decide_eq_true q;omega
   refine ⟨rfl,fun _=> ?_,fun e=>by cases e⟩
   match ws,hlt with
   | [],_=>rfl
   | [_],_=>rfl
   | [_,_],_=>rfl
  ·have hge:3<=ws.length:=by have:=of_decide_eq_false q;omega
   obtain ⟨w0,w1,w2,rest,hws⟩ : ∃ w0 w1 w2 rest,ws=w0::w1::w2::rest:=by
    match ws,hge with
    | w0::w1::w2::rest,_=>exact ⟨_,_,_,_,rfl⟩
   obtain ⟨ad,ea,hld⟩:=uw.get (i:=0) (x:=w0) (by rw [hws];rfl)
   obtain ⟨ad1,ea1,hld1⟩:=uw.get (i:=1) (x:=w1) (by rw [hws];rfl)
   refine ⟨ad,ea,by omega,by omega,_,hld, ?_⟩
   have hw0:w0.length<=1000000:=by have:=totL_mem (zs:=ws) (x:=w0) (by rw [hws];simp);omega
   refine (drPoint_c w0 hw0 h1).mono ?_
   rintro _ _ ⟨rfl,rfl⟩
   refine ⟨_,rfl,Br.mk (fun q2=> ?_) (fun q2=> ?_)⟩
   ·refine ⟨rfl,fun _=> ?_,fun e=>by cases e⟩
    rw [hws,divWV,if_neg (fun e=>by rw [e.1] at q2;cases q2)]
   ·have hp:isPointV w0=true:=by simpa using q2
    refine ⟨ad1,ea1,by omega,by omega,_,hld1,rfl,fun e=> ?_,fun e=> ?_⟩
    ·rw [bytes_toList,show (⟨#[61]⟩:ByteArray).toList=[61] from bytes_toList [61]] at e
     rw [hws,divWV,if_neg (fun q=>by rw [q.2] at e;simp at e)]
    ·rw [bytes_toList,show (⟨#[61]⟩:ByteArray).toList=[61] from bytes_toList [61]] at e
     have:w1=[61]:=by simpa using e
     exact ⟨w0,w2,rest,by rw [hws,this],hp⟩
def KN (h0 h:Heap) (A:Option Addr) (n c:Nat) (es:List Ex):Prop:=
 es.length=n/\SzsL es/\((A=none/\n=0/\c=0)\/ ∃ gk cs,h0 gk=none/\A=some ⟨gk,0,none⟩/\h gk=some ⟨cs,39,(0,0)⟩/\cs.length=6*c/\n<=c/\IsEs (hole h gk) es cs)
theorem KN.k {h0 h:Heap} {A:Option Addr} {n c:Nat} {es:List Ex} (u:KN h0 h A n c es):IsK h A n c es:=by
 obtain ⟨a,_,b⟩:=u
 refine ⟨a.symm, ?_,fun hn=> ?_⟩
 ·rcases b with ⟨_,e,e2⟩ | ⟨gp,cs,b1,b2,b3,b4,b5,b6⟩
  ·omega
  ·omega
 ·rcases b with ⟨_,e,_⟩ | ⟨gp,cs,b1,b2,b3,b4,b5,b6⟩
  ·exact absurd (List.length_eq_zero_iff.1 (by omega)) hn
  ·exact ⟨_,_,b2,rfl,b3,by simp only;omega,by simpa using IsEs.mono (hole_le _ _) _ _ b6⟩
theorem knParse_c (s:List UInt8) {h0 h:Heap} {A:Option Addr} {n c:Nat} {es:List Ex} (u:KN h0 h A n c es) :
  CallsU Tryz.prog 92 [sv s] h fun v h' => Le h h' /\ match foParseV s with
   | .error e=>e≠0/\v = .tuple #[.agg zE.toArray,.int .i64 e]
   | .ok x=> ∃ vs:List Value,v = .tuple #[.agg vs.toArray,.int .i64 0]/\IsE (cutA h' A) x vs/\Szs x/\chkV x 1=0/\KN h0 h' A n c es:=by
 obtain ⟨a1,a2,a3⟩:=u
 rcases a3 with ⟨rfl,rfl,rfl⟩ | ⟨gk,cs,b1,rfl,b3,b4,b5,b6⟩
 ·refine (foParseW_c s h).mono ?_
  rintro v h' ⟨l,hm⟩
  refine ⟨l, ?_⟩
  cases ho:foParseV s with
  | error e=>rw [ho] at hm;exact hm
  | ok x=>
   rw [ho] at hm
   obtain ⟨vs,hv,ux,zx,hc⟩:=hm
   exact ⟨vs,hv,ux,zx,hc,a1,a2,Or.inl ⟨rfl,rfl,rfl⟩⟩
 ·have fr:=(foParseW_c s (hole h gk)).frame (g:=gk) (b:=⟨cs,39,(0,0)⟩) (hole_at h gk)
  rw [put_hole b3] at fr
  refine fr.mono ?_
  rintro v _ ⟨h1,⟨hle,hm⟩,h1k,rfl⟩
  have hcut:hole (h1.put gk ⟨cs,39,(0,0)⟩) gk=h1:=by rw [hole_put,hole_none h1k]
  refine ⟨?_, ?_⟩
  ·intro j b hj
   by_cases e:j=gk
   ·subst e
    rw [b3] at hj
    cases hj
    rw [Heap.put_same]
   ·rw [Heap.put_ne _ _ e]
    apply hle
    rw [hole_ne _ e];exact hj
  ·cases ho:foParseV s with
   | error e=>rw [ho] at hm;exact hm
   | ok x=>
    rw [ho] at hm
    obtain ⟨vs,hv,ux,zx,hc⟩:=hm
    refine ⟨vs,hv, ?_,zx,hc,a1,a2,Or.inr ⟨gk,cs,b1,rfl,Heap.put_same _ _ _,b4,b5, ?_⟩⟩
    ·show IsE (hole (h1.put gk _) gk) x vs
     rw [hcut];exact ux
    ·rw [hcut]
     exact IsEs.mono hle _ _ b6
theorem KN.app {h0 h:Heap} {A:Option Addr} {n c:Nat} {es:List Ex} (u:KN h0 h A n c es) (hle:Le h0 h) {x:Ex} {vs:List Value} (w:IsE (cutA h A) x vs) (zx:Szs x) {g6:Nat} (hg6:h g6=none) (hn:n<=1000000) {K:Option Addr->Nat->Heap->Prop}
  (hK : ∀ A' c' h', KN h0 h' A' (n+1) c' (es++[x])->Le h0 h' -> K A' c' h') :
  ∃ xs:List Value,RdS (h.put g6 ⟨vs,39,(0,0)⟩) (some ⟨g6,0,none⟩) (1*6) xs/\(∀ y∈xs,Go.Vcg.one y=true)/\
   (n+1<=c-> ∃ (ad:Addr) (b:Blk),A=some ad/\ad.spot=none/\(h.put g6 ⟨vs,39,(0,0)⟩) ad.block=some b/\b.fz=(0,0)/\ad.off+n*6+1*6<=b.cells.length/\
    ∀ h' : Heap,h' = Heap.put (h.put g6 ⟨vs,39,(0,0)⟩) ad.block { b with cells:=setSeg b.cells (ad.off+n*6) xs }->K A c h')/\
   (c<n+1-> ∃ olds:List Value,RdS (h.put g6 ⟨vs,39,(0,0)⟩) A (n*6) olds/\(n+1)*104<=140737488355328/\
    ∀ (g1 cap:Nat) (h' : Heap),(h.put g6 ⟨vs,39,(0,0)⟩) g1=none->n+1<=cap->h' = Heap.put (h.put g6 ⟨vs,39,(0,0)⟩) g1 ⟨olds++xs++repV zE (cap-(n+1)),39,(0,0)⟩->K (some ⟨g1,0,none⟩) cap h'):=by
 obtain ⟨a1,a2,a3⟩:=u
 have l6:=Le.new hg6 (⟨vs,39,(0,0)⟩:Blk)
 have hvl:=w.len
 obtain ⟨s3,A3,c3,B3,d3,K3,kc3,hvs,_,_,_⟩:=w.open
 refine ⟨vs,⟨hvl,fun _=>⟨_,rfl,rfl,_,Heap.put_same _ _ _,by simp only [List.drop_zero];rw [List.take_of_length_le (by omega)]⟩⟩, ?_, ?_, ?_⟩
 ·intro v hv
  rw [hvs] at hv
  simp only [cellsE,List.mem_cons,List.not_mem_nil,or_false] at hv
  rcases hv with rfl | rfl | rfl | rfl | rfl | rfl<;>rfl
 ·intro hcap
  rcases a3 with ⟨_,_,rfl⟩ | ⟨gp,cs,b0,rfl,b3,b4,b5,b7⟩
  ·omega
  ·have hg6p:g6≠gp:=fun e=>by rw [e,b3] at hg6;cases hg6
   refine ⟨_,_,rfl,rfl,by rw [Heap.put_ne _ _ (fun e=>hg6p e.symm)];exact b3,rfl,by simp only;omega, ?_⟩
   rintro _ rfl
   have hcs:setSeg cs (0+n*6) vs=cs.take (6*es.length)++vs++cs.drop (0+n*6+vs.length):=by
    unfold setSeg
    rw [show 0+n*6=6*es.length by omega]
   refine hK _ _ _ ⟨by rw [List.length_append];simp;omega,SzsL.snoc a2 zx,Or.inr ⟨gp,_,b0,rfl,Heap.put_same _ _ _, ?_,hcap, ?_⟩⟩ ?_
   ·simp only
    rw [hcs,List.length_append,List.length_append,List.length_take,List.length_drop]
    omega
   ·simp only
    rw [hcs,hole_put]
    have hn7:hole h gp g6=none:=by rw [hole_ne _ hg6p];exact hg6
    have l7:=Le.new hn7 (⟨vs,39,(0,0)⟩:Blk)
    rw [hole_put_ne _ _ hg6p]
    exact IsEs.snoc (IsEs.mono l7 _ _ b7) (by omega) (IsE.mono l7 _ _ w)
   ·exact (hle.put (hle.free hg6) _).put b0 _
 ·intro hcap
  have holds : ∃ olds:List Value,RdS (h.put g6 ⟨vs,39,(0,0)⟩) A (n*6) olds/\IsEs h es olds/\olds.length=6*es.length:=by
   rcases a3 with ⟨rfl,rfl,rfl⟩ | ⟨gp,cs,b0,rfl,b3,b4,b5,b7⟩
   ·have:es=[]:=List.length_eq_zero_iff.1 a1
    subst this
    exact ⟨[],⟨rfl,fun q=>absurd q (by decide)⟩,by unfold IsEs;trivial,rfl⟩
   ·have hg6p:g6≠gp:=fun e=>by rw [e,b3] at hg6;cases hg6
    refine ⟨cs.take (6*es.length),⟨by rw [List.length_take];omega,fun _=>⟨_,rfl,rfl,_,by rw [Heap.put_ne _ _ (fun e=>hg6p e.symm)];exact b3, ?_⟩⟩,IsEs.take (IsEs.mono (hole_le _ _) _ _ b7),by rw [List.length_take];omega⟩
    simp only [List.drop_zero,List.length_take]
    congr 1
    omega
  obtain ⟨olds,hrd,hes,hol⟩:=holds
  refine ⟨olds,hrd,by omega, ?_⟩
  rintro g7 cap _ hg7 hcap7 rfl
  have hg76:g7≠g6:=fun e=>by rw [e,Heap.put_same] at hg7;cases hg7
  have hg7' : h g7=none:=by rw [Heap.put_ne _ _ hg76] at hg7;exact hg7
  refine hK _ _ _ ⟨by rw [List.length_append];simp;omega,SzsL.snoc a2 zx,Or.inr ⟨g7,_,hle.free hg7', rfl,Heap.put_same _ _ _, ?_,hcap7, ?_⟩⟩ ?_
  ·rw [List.length_append,List.length_append,hol,repV_six]
   omega
  ·rw [hole_put,hole_none hg7]
   have:=IsEs.snoc (rest:=repV zE (cap-(n+1))) (IsEs.mono l6 _ _ hes) (by omega) (IsE.mono l6 _ _ (IsE.mono (cutA_le _ _) _ _ w))
   rw [List.take_of_length_le (by omega)] at this
   exact this
  ·exact (hle.put (hle.free hg6) _).put (hle.free hg7') _
def numsP:List (List UInt8)->Except Int (List Ex)
 | []=> .ok []
 | t::ts=>match foParseV t with
  | .error e=> .error e
  | .ok x=>match numsP ts with
   | .error e=> .error e
   | .ok xs=> .ok (x::xs)
def numsQ (es:List Ex) (ts:List (List UInt8)):Except Int (List Ex):=match numsP ts with
 | .error e=> .error e
 | .ok xs=> .ok (es++xs)
theorem numsQ_nil (ts:List (List UInt8)):numsQ [] ts=numsP ts:=by unfold numsQ;cases numsP ts<;>rfl
def parseLV (line:List UInt8):Except Int Stp:=match divLV line with
 | none=> .error 2
 | some (nm,k,fr,ts)=>match numsP ts with
  | .error e=> .error e
  | .ok xs=> .ok ⟨nm,k,fr,xs⟩
abbrev zS:List Value:=[.string ByteArray.empty,.int .i64 0,.slice none 0 0,.slice none 0 0]
def PlR (o:Except Int Stp) (r:Value) (h' : Heap):Prop:=match o with
 | .error e=>e≠0/\r = .tuple #[.agg zS.toArray,.int .i64 e]
 | .ok s=> ∃ vs:List Value,r = .tuple #[.agg vs.toArray,.int .i64 0]/\IsS h' s vs/\SzsL s.nums/\ ∀ x∈s.nums,chkV x 1=0
theorem divFV_len {ws ts:List (List UInt8)} {n:Nat} (h:divFV ws n=some ts):ts.length<=2:=by
 unfold divFV at h
 split at h
 ·split at h
  ·cases h;simp
  ·cases h
 ·split at h
  ·cases h;simp
  ·rw [Option.map_eq_some_iff] at h
   obtain ⟨i,_,rfl⟩:=h
   simp
theorem divLV_len {line nm:List UInt8} {k:Int} {fr ts:List (List UInt8)} (h:divLV line=some (nm,k,fr,ts)):ts.length<=2:=by
 unfold divLV divWV at h
 split at h
 ·split at h
  ·split at h
   ·unfold behindV at h
    split at h
    ·split at h
     ·split at h
      ·cases h
      ·rw [Option.map_eq_some_iff] at h
       obtain ⟨ts', h1,h2⟩:=h
       cases h2
       exact divFV_len h1
     ·cases h
    ·cases h
   ·cases h
  ·cases h
 ·cases h
theorem drParseL_c {line:List UInt8} (hl:line.length<=100000) {h:Heap} (t:Frms h) :
  CallsU Tryz.prog 48 [sv line] h fun r h' => PlR (parseLV line) r h' /\ Le h h' := by
 apply draft_parseLine_ok
 unfold draft_parseLine_vc
 refine (drDivL_c hl t).mono ?_
 rintro _ h1 ⟨hR,l1⟩
 unfold parseLV
 cases hd:divLV line with
 | none=>
  rw [hd] at hR
  obtain ⟨nm,k,F,fn,fc,rfl⟩:=hR
  exact ⟨_,_,_,_,_,_,_,_,_,_,_,_,rfl,Br.mk (fun _=>⟨⟨by decide,rfl⟩,l1⟩) (fun q=>by exact absurd q (by decide))⟩
 | some p=>
  obtain ⟨nm,k,fr,ts⟩:=p
  have hts:=divLV_len hd
  rw [hd] at hR
  obtain ⟨F,fc,A,n,c,rfl,uf,ut⟩:=hR
  have htn:=ut.len
  simp only
  refine ⟨_,_,_,_,_,_,_,_,_,_,_,_,rfl,Br.mk (fun q=>by exact absurd q (by decide)) (fun _=> ?_)⟩
  refine ⟨fun m i _ _ _ _ _ _ _ _ s0 s1 F' fn' fc' K kn kc h' => ∃ j es,j<=ts.length/\m=ts.length-j/\i=(j:Int)/\s0=⟨nm.toArray⟩/\k=s1/\F=F' /\ fr.length=fn' /\ fc=fc' /\ KN h1 h' K kn kc es/\kn=j/\Le h1 h' /\ numsQ es (ts.drop j)=numsP ts/\ ∀ x∈es,chkV x 1=0,⟨_,0,[],by omega,rfl,rfl,rfl,rfl,rfl,rfl,rfl,⟨rfl,by unfold SzsL;trivial,Or.inl ⟨rfl,rfl,rfl⟩⟩,rfl,Le.refl _,numsQ_nil _,by simp⟩, ?_⟩
  rintro m _ a0 a1 a2 a3 a4 a5 a6 a7 _ _ _ _ _ K kn kc h2 ⟨j,es,hj,rfl,rfl,rfl,rfl,rfl,rfl,rfl,kn0,hkn,l2,heq,hck⟩
  refine Br.mk (fun q=> ?_) (fun q=> ?_)
  ·have hlt:j<ts.length:=by have:=of_decide_eq_true q;omega
   obtain ⟨x,hx⟩ : ∃ x,ts[j]?=some x:=⟨_,List.getElem?_eq_getElem hlt⟩
   have hdr:ts.drop j=x::ts.drop (j+1):=by
    rw [List.drop_eq_getElem_cons hlt]
    rw [List.getElem?_eq_getElem hlt] at hx
    cases hx
    rfl
   obtain ⟨ad,ea,hld⟩:=(ut.mono l2).get hx
   rw [hdr] at heq
   unfold numsQ at heq
   rw [numsP] at heq
   refine ⟨ad,ea,by omega,by omega,_,by rw [Int.toNat_natCast];exact hld, ?_⟩
   refine (knParse_c x kn0).mono ?_
   rintro _ h3 ⟨l3,hm⟩
   cases ho:foParseV x with
   | error e=>
    rw [ho] at hm heq
    obtain ⟨he,rfl⟩:=hm
    refine ⟨_,_,_,_,_,_,_,_,_,_,_,_,_,rfl,Br.mk (fun _=> ?_) (fun q=>by rw [bne_eq_false_iff_eq] at q;exact absurd q he)⟩
    simp only at heq
    rw [<- heq]
    exact ⟨⟨he,rfl⟩,(l1.trans l2).trans l3⟩
   | ok y=>
    rw [ho] at hm heq
    obtain ⟨vs,rfl,ux,zx,hc,kn3⟩:=hm
    obtain ⟨s3,A3,c3,B3,d3,K3,kc3,hvs,_,_,_⟩:=ux.open
    subst hvs
    refine ⟨_,_,_,_,_,_,_,_,_,_,_,_,_,rfl,Br.mk (fun q=>by exact absurd q (by decide)) (fun _=> ?_)⟩
    rintro g6 _ hg6 rfl
    refine kn3.app (l2.trans l3) ux zx hg6 (by omega) (K:=fun A' c' h' => ∀ t41:Int,t41=IntKind.i64.wrap ((j:Int)+1)-> ∃ m_1,m_1<ts.length-j/\ ∃ j' es', j' <= ts.length/\m_1=ts.length-j' /\ t41=(j' : Int)/\(⟨nm.toArray⟩:ByteArray)=⟨nm.toArray⟩/\k=k/\F=F/\fr.length=fr.length/\fc=fc/\KN h1 h' A' (kn+1) c' es' /\ kn+1=j' /\ Le h1 h' /\ numsQ es' (ts.drop j')=numsP ts/\ ∀ x∈es', chkV x 1=0) (fun A' c' h' kn' l' => ?_)
    rintro _ rfl
    refine ⟨ts.length-(j+1),by omega,j+1,es++[y],by omega,rfl,wi (by omega) (by omega),rfl,rfl,rfl,rfl,rfl,kn', by omega,l', ?_, ?_⟩
    ·rw [<- heq]
     unfold numsQ
     cases numsP (ts.drop (j+1)) with
     | error e=>rfl
     | ok xs=>simp
    ·intro z hz
     rcases List.mem_append.1 hz with q2 | q2
     ·exact hck z q2
     ·simp at q2;rw [q2];exact hc
  ·have hje:j=ts.length:=by have:=of_decide_eq_false q;omega
   rw [hje,List.drop_length] at heq
   unfold numsQ at heq
   rw [numsP] at heq
   simp only [List.append_nil] at heq
   rw [<- heq]
   refine ⟨⟨[sv nm,.int .i64 k,.slice F fr.length fc,.slice K kn kc],rfl,⟨F,fc,K,kc, ?_,uf.mono l2, ?_⟩,kn0.2.1,hck⟩,l1.trans l2⟩
   ·simp only;rw [kn0.1]
   ·simp only;rw [kn0.1];exact kn0.k
end Go.Proofs.YtfglcgbgaeegaaaGreatDoor
