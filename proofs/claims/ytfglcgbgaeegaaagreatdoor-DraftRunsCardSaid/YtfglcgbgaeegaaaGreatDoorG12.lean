/-
 Gathered texts of this proof: Pp2,Pp3,Pp4,Rh1,Dr1,Rg4,Dr2,Dr3,Dr4,VcJ.
-/
import Derived.Test.YtfglcgbgaeegaaaGreatDoorG11
import Derived.Test.YtfglcgbgaeegaaaGreatDoorG03
import Derived.Test.YtfglcgbgaeegaaaGreatDoorChecked
set_option maxRecDepth 100000

namespace Go.Proofs.YtfglcgbgaeegaaaGreatDoor
open Go Go.Vcg Go.RowKit Go.Sort
abbrev hdT (ts:List (List UInt8)):List UInt8:=ts.headD []
def expT (t:List UInt8) (ts:List (List UInt8)):Int:=if hdT ts=t then 0 else if hdT ts=[] then 4 else 2
mutual
def qSum:Nat->List (List UInt8)->Except Int (Ex×List (List UInt8))
 | 0,_=> .error 99
 | n+1,r=>match qProd n r with
  | .error e=> .error e
  | .ok (x,r')=>qSumL n x r'
def qSumL:Nat->Ex->List (List UInt8)->Except Int (Ex×List (List UInt8))
 | 0,_,_=> .error 99
 | n+1,x,r=>if hdT r=[43] then (match qProd n r.tail with
   | .error e=> .error e
   | .ok (y,r')=>qSumL n (op2 3 x y) r')
  else if hdT r=[45] then (match qProd n r.tail with
   | .error e=> .error e
   | .ok (y,r')=>qSumL n (op2 4 x y) r')
  else .ok (x,r)
def qProd:Nat->List (List UInt8)->Except Int (Ex×List (List UInt8))
 | 0,_=> .error 99
 | n+1,r=>match qFac n r with
  | .error e=> .error e
  | .ok (x,r')=>qProdL n x r'
def qProdL:Nat->Ex->List (List UInt8)->Except Int (Ex×List (List UInt8))
 | 0,_,_=> .error 99
 | n+1,x,r=>if hdT r=[42] then (match qFac n r.tail with
   | .error e=> .error e
   | .ok (y,r')=>qProdL n (op2 5 x y) r')
  else if hdT r=[47] then (match qFac n r.tail with
   | .error e=> .error e
   | .ok (y,r')=>qProdL n (op2 6 x y) r')
  else .ok (x,r)
def qFac:Nat->List (List UInt8)->Except Int (Ex×List (List UInt8))
 | 0,_=> .error 99
 | n+1,r=>
  if hdT r=[] then .error 4
  else if hdT r=[45] then (match qFac n r.tail with
   | .error e=> .error e
   | .ok (x,r')=> .ok (.mk 7 0 0 0 [] [x],r'))
  else if hdT r=[40] then (match qSum n r.tail with
   | .error e=> .error e
   | .ok (x,r')=>if expT [41] r' = 0 then .ok (x,r'.tail) else .error (expT [41] r'))
  else if hdT r=[109,105,110] then qCall n 8 r.tail
  else if hdT r=[109,97,120] then qCall n 9 r.tail
  else match numberV (hdT r) with
   | some q=> .ok (.mk 1 q (lmb q.num.natAbs) (lmb q.den) [] [],r.tail)
   | none=>if isNameV (hdT r) then .ok (.mk 2 0 0 0 (hdT r) [],r.tail) else .error 2
def qCall:Nat->Int->List (List UInt8)->Except Int (Ex×List (List UInt8))
 | 0,_,_=> .error 99
 | n+1,k,r=>if expT [40] r=0 then qCallL n k [] r.tail else .error (expT [40] r)
def qCallL:Nat->Int->List Ex->List (List UInt8)->Except Int (Ex×List (List UInt8))
 | 0,_,_,_=> .error 99
 | n+1,k,es,r=>match qSum n r with
  | .error e=> .error e
  | .ok (x,r')=>
   if hdT r' = [41] then .ok (.mk k 0 0 0 [] (es++[x]),r'.tail)
   else if hdT r' = [] then .error 4
   else if hdT r' ≠ [44] then .error 2
   else if es.length+1=8 then .error 2
   else qCallL n k (es++[x]) r'.tail
end
def sub (sp s:List UInt8):List UInt8:=s.flatMap fun x=>if x=32 then sp else [x]
def parT (k req:Int) (t:List (List UInt8)):List (List UInt8):=if clo k<req then [40]::(t++[[41]]) else t
mutual
def tkE:Ex->List (List UInt8)
 | .mk k q _ _ nm kids=>if k=1 then [numTx ((shV q).getD 0)] else if k=2 then [nm]
  else if k=3 then tkO 0 0 kids++[43]::tkO 1 1 kids
  else if k=4 then tkO 0 0 kids++[45]::tkO 1 1 kids
  else if k=5 then tkO 0 1 kids++[42]::tkO 1 2 kids
  else if k=6 then tkO 0 1 kids++[47]::tkO 1 2 kids
  else if k=7 then [45]::tkO 0 2 kids
  else (if k=9 then [109,97,120] else [109,105,110])::[40]::(tkJ kids++[[41]])
def tkO (i:Nat) (req:Int):List Ex->List (List UInt8)
 | []=>[]
 | .mk k q n m nm kids::es=>match i with
  | 0=>parT k req (tkE (.mk k q n m nm kids))
  | i+1=>tkO i req es
def tkJ:List Ex->List (List UInt8)
 | []=>[]
 | e::es=>match es with
  | []=>tkE e
  | e' :: es' => tkE e++[44]::tkJ (e' :: es')
end
mutual
def canE:Ex->Ex
 | .mk k q _ _ nm kids=>if k=1 then .mk 1 q (lmb q.num.natAbs) (lmb q.den) [] [] else if k=2 then .mk 2 0 0 0 nm [] else .mk k 0 0 0 [] (canL kids)
def canL:List Ex->List Ex
 | []=>[]
 | e::es=>canE e::canL es
end
def Ev {α:Type} (F:Nat->α) (X:α):Prop:= ∃ N,∀ n,N<=n->F n=X
abbrev RT:=Except Int (Ex×List (List UInt8))
structure RdOk (e:Ex):Prop where
 fac:clo e.kind=2-> ∀ ts,Ev (fun n=>qFac n (tkE e++ts)) (.ok (canE e,ts):RT)
 prod:1<=clo e.kind-> ∀ (ts:List (List UInt8)) (X:RT),Ev (fun n=>qProdL n (canE e) ts) X->Ev (fun n=>qProd n (tkE e++ts)) X
 sum : ∀ (ts:List (List UInt8)) (X:RT),hdT ts≠[42]->hdT ts≠[47]->Ev (fun n=>qSumL n (canE e) ts) X->Ev (fun n=>qSum n (tkE e++ts)) X
end Go.Proofs.YtfglcgbgaeegaaaGreatDoor

namespace Go.Proofs.YtfglcgbgaeegaaaGreatDoor
open Go Go.Vcg Go.RowKit Go.Sort
attribute [local irreducible] Br
theorem foParseW_c (s:List UInt8) (h:Heap):CallsU Tryz.prog 92 [sv s] h (FpR (foParseV s) h):=by
 rcases Nat.lt_or_ge 400 s.length with q | q
 ·apply formula_Parse_ok
  unfold formula_Parse_vc foParseV
  rw [ba_size]
  refine Br.mk (fun _=> ?_) (fun q2=> ?_)
  ·rw [if_pos q]
   exact ⟨Le.refl _,by decide,rfl⟩
  ·have:=of_decide_eq_false q2
   omega
 ·exact foParse_c (fuel400 q) h
theorem prV_ok {e:Ex} {t:List UInt8} (h:prV e = .ok t):chkV e 1=0/\t=txV e/\t.length<=400:=by
 unfold prV at h
 split at h
 ·split at h
  ·cases h
   exact ⟨by assumption,rfl,by assumption⟩
  ·cases h
 ·cases h
structure Stp where
 name:List UInt8
 kind:Int
 frm:List (List UInt8)
 nums:List Ex
instance:Inhabited Stp:=⟨⟨[],0,[],[]⟩⟩
def IsK (h:Heap) (K:Option Addr) (kn kc:Nat) (es:List Ex):Prop:=
 kn=es.length/\es.length<=kc/\(es≠[]-> ∃ (ad:Addr) (b:Blk),K=some ad/\ad.spot=none/\h ad.block=some b/\ad.off+6*es.length<=b.cells.length/\IsEs h es (b.cells.drop ad.off))
theorem IsK.mono {h h' : Heap} {K:Option Addr} {kn kc:Nat} {es:List Ex} (u:IsK h K kn kc es) (l:Le h h'):IsK h' K kn kc es:=
 ⟨u.1,u.2.1,fun hn=>let ⟨ad,b,a1,a2,a3,a4,a5⟩:=u.2.2 hn;⟨ad,b,a1,a2,l _ _ a3,a4,IsEs.mono l _ _ a5⟩⟩
theorem IsK.get {h:Heap} {K:Option Addr} {kn kc:Nat} {es:List Ex} (u:IsK h K kn kc es) {i:Nat} {x:Ex} (hx:es[i]?=some x) : ∃ ad vs,K=some ad/\LdN h (ad.add (i*6)) vs/\IsE h x vs:=
 kid_ld (e:= .mk 0 0 0 0 [] es) u.2.2 hx
def IsS (h:Heap) (s:Stp) (vs:List Value):Prop:= ∃ F fc K kc,vs=[sv s.name,.int .i64 s.kind,.slice F s.frm.length fc,.slice K s.nums.length kc]/\Sl sv h F s.frm.length fc s.frm/\IsK h K s.nums.length kc s.nums
theorem IsS.mono {h h' : Heap} {s:Stp} {vs:List Value} (u:IsS h s vs) (l:Le h h'):IsS h' s vs:=
 let ⟨F,fc,K,kc,e,a,b⟩:=u
 ⟨F,fc,K,kc,e,a.mono l,b.mono l⟩
structure StpS (h:Heap) (A:Option Addr) (n c:Nat) (l:List Stp):Prop where
 len:n=l.length
 cap:n<=c
 mem:l≠[]-> ∃ (ad:Addr) (b:Blk),A=some ad/\ad.spot=none/\h ad.block=some b/\ ∀ i s,l[i]?=some s->IsS h s ((b.cells.drop (ad.off+i*4)).take 4)
theorem StpS.mono {h h' : Heap} {A:Option Addr} {n c:Nat} {l:List Stp} (u:StpS h A n c l) (le:Le h h'):StpS h' A n c l:=
 ⟨u.len,u.cap,fun hn=>let ⟨ad,b,a1,a2,a3,a4⟩:=u.mem hn;⟨ad,b,a1,a2,le _ _ a3,fun i s hs=>(a4 i s hs).mono le⟩⟩
theorem StpS.get {h:Heap} {A:Option Addr} {n c:Nat} {l:List Stp} (u:StpS h A n c l) {i:Nat} {s:Stp} (hs:l[i]?=some s) :
  ∃ ad F fc K kc,A=some ad/\LdN h (ad.add (i*4)) [sv s.name,.int .i64 s.kind,.slice F s.frm.length fc,.slice K s.nums.length kc]/\Sl sv h F s.frm.length fc s.frm/\IsK h K s.nums.length kc s.nums:=by
 obtain ⟨ad,b,a1,a2,a3,a4⟩:=u.mem (fun q=>by rw [q] at hs;simp at hs)
 obtain ⟨F,fc,K,kc,e,uf,uk⟩:=a4 i s hs
 exact ⟨ad,F,fc,K,kc,a1,LdN_of a2 a3 rfl e,uf,uk⟩
theorem StpS.take {h:Heap} {A:Option Addr} {n c:Nat} {l:List Stp} (u:StpS h A n c l) {m:Nat} (hm:m<=n):StpS h A m c (l.take m) where
 len:=by rw [List.length_take,<- u.len];omega
 cap:=Nat.le_trans hm u.cap
 mem hn:=by
  obtain ⟨ad,b,a1,a2,a3,a4⟩:=u.mem (fun q=>hn (by rw [q];simp))
  refine ⟨ad,b,a1,a2,a3,fun i s hs=>a4 i s ?_⟩
  have hi:=(List.getElem?_eq_some_iff.1 hs).1
  rw [List.length_take] at hi
  rw [List.getElem?_take_of_lt (by omega)] at hs
  exact hs
def SzS (s:Stp):Prop:=s.name.length<=100000/\s.frm.length<=1000/\s.nums.length<=1000/\SzsL s.nums/\ ∀ x∈s.frm,x.length<=100000
def SzSs (l:List Stp):Prop:= ∀ s∈l,SzS s
def isUp (x:UInt8):Bool:=decide (65<=x.toNat/\x.toNat<=90)
def ptCh (i:Nat) (x:UInt8):Bool:=isUp x||(decide (i≠0)&&(isLow x||isDg x))
def isPointV (l:List UInt8):Bool:=decide (1<=l.length/\l.length<=8)&&(l.zipIdx.all fun p=>ptCh p.2 p.1)
theorem ptAll {l:List UInt8}:(l.zipIdx.all fun p=>ptCh p.2 p.1)=true ↔ ∀ i x,l[i]?=some x->ptCh i x=true:=by
 rw [List.all_eq_true]
 constructor
 ·intro h i x hx
  exact h (x,i) (List.mem_zipIdx_iff_getElem?.2 hx)
 ·rintro h ⟨x,i⟩ hx
  exact h i x (List.mem_zipIdx_iff_getElem?.1 hx)
theorem drPoint_c (l:List UInt8) (hl:l.length<=1000000) (h:Heap):CallsU Tryz.prog 114 [sv l] h fun r h' => r = .bool (isPointV l)/\h=h' := by
 apply draft_isPoint_ok
 unfold draft_isPoint_vc
 rw [ba_size]
 have bad : ∀ i x,l[i]?=some x->ptCh i x=false->isPointV l=false:=fun i x hx hn=>by
  unfold isPointV
  rw [Bool.and_eq_false_iff]
  refine Or.inr ?_
  cases hh:(l.zipIdx.all fun p=>ptCh p.2 p.1) with
  | false=>rfl
  | true=>rw [ptAll.1 hh i x hx] at hn;cases hn
 refine ⟨fun m i h' => ∃ k,k<=l.length/\m=l.length-k/\i=(k:Int)/\h=h' /\ ∀ j x,j<k->l[j]?=some x->ptCh j x=true,⟨l.length,0,by omega,by omega,rfl,rfl,fun j x hj=>by omega⟩, ?_⟩
 rintro m _ _ ⟨k,hk,rfl,rfl,rfl,hall⟩
 refine Br.mk (fun q=> ?_) (fun q=> ?_)
 ·have hlt:k<l.length:=by have:=of_decide_eq_true q;omega
  obtain ⟨x,hx⟩ : ∃ x,l[k]?=some x:=⟨_,List.getElem?_eq_getElem hlt⟩
  have go:ptCh k x=true-> ∃ m_1,m_1<l.length-k/\ ∃ k', k' <= l.length/\m_1=l.length-k' /\ IntKind.i64.wrap ((k:Int)+1)=(k' : Int)/\h=h/\ ∀ j x,j<k' -> l[j]?=some x->ptCh j x=true:=fun hn=>by
   refine ⟨l.length-(k+1),by omega,k+1,by omega,rfl,wi (by omega) (by omega),rfl,fun j y hj hy=> ?_⟩
   rcases Nat.lt_succ_iff_lt_or_eq.1 hj with q | q
   ·exact hall j y q hy
   ·subst q
    rw [hx] at hy
    cases hy
    exact hn
  refine ⟨x,by omega,by rw [Int.toNat_natCast,ba_get];exact hx,fun t h' => h=h' /\ t=isUp x, ?_, ?_⟩
  ·rintro t _ ⟨rfl,rfl⟩
   refine ⟨fun t h' => h=h' /\ t=(isLow x||isDg x), ?_, ?_⟩
   ·rintro t _ ⟨rfl,rfl⟩
    refine Br.mk (fun q3=>Br.mk (fun q4=> ?_) (fun q4=>Br.mk (fun q5=> ?_) (fun q5=> ?_))) (fun q3=> ?_)
    ·have hu:isUp x=false:=by simpa using q3
     have hk0:k=0:=by have:=beq_iff_eq.1 q4;omega
     rw [bad k x hx (by unfold ptCh;rw [hu,hk0];rfl)]
     exact ⟨rfl,rfl⟩
    ·have hu:isUp x=false:=by simpa using q3
     have ho:(isLow x||isDg x)=false:=by rw [Bool.not_eq_true'] at q5;exact q5
     rw [bad k x hx (by unfold ptCh;rw [hu,ho];simp)]
     exact ⟨rfl,rfl⟩
    ·have hk0:k≠0:=by have:=beq_eq_false_iff_ne.1 q4;omega
     have ho:(isLow x||isDg x)=true:=by rw [Bool.not_eq_false'] at q5;exact q5
     rintro _ rfl
     exact go (by unfold ptCh;rw [ho];simp [hk0])
    ·have hu:isUp x=true:=by simpa using q3
     rintro _ rfl
     exact go (by unfold ptCh;rw [hu];rfl)
   ·have dg : ∀ {t:Bool},(t=isDg x)->isLow x=false->t=(isLow x||isDg x):=fun e1 e2=>by rw [e2,e1];rfl
    have hdg:isDg x=decide (48<=x.toNat/\x.toNat<=57):=rfl
    refine Br.mk (fun q3=>Br.mk (fun q4=>⟨rfl, ?_⟩) (fun q4=>Br.mk (fun q5=>⟨rfl,dg ?_ ?_⟩) (fun q5=>⟨rfl,dg ?_ ?_⟩))) (fun q3=>Br.mk (fun q5=>⟨rfl,dg ?_ ?_⟩) (fun q5=>⟨rfl,dg ?_ ?_⟩))
    ·have h1:=of_decide_eq_true q3
     have h2:=of_decide_eq_true q4
     have:isLow x=true:=by unfold isLow;rw [decide_eq_true_eq];omega
     rw [this];rfl
    ·have h1:=of_decide_eq_true q5
     rw [hdg,Bool.eq_iff_iff,decide_eq_true_eq,decide_eq_true_eq];omega
    ·have h2:=of_decide_eq_false q4
     unfold isLow;rw [decide_eq_false_iff_not];omega
    ·have h1:=of_decide_eq_false q5
     rw [hdg];symm;rw [decide_eq_false_iff_not];omega
    ·have h2:=of_decide_eq_false q4
     unfold isLow;rw [decide_eq_false_iff_not];omega
    ·have h1:=of_decide_eq_true q5
     rw [hdg,Bool.eq_iff_iff,decide_eq_true_eq,decide_eq_true_eq];omega
    ·have h2:=of_decide_eq_false q3
     unfold isLow;rw [decide_eq_false_iff_not];omega
    ·have h1:=of_decide_eq_false q5
     rw [hdg];symm;rw [decide_eq_false_iff_not];omega
    ·have h2:=of_decide_eq_false q3
     unfold isLow;rw [decide_eq_false_iff_not];omega
  ·unfold isUp
   refine Br.mk (fun q3=>⟨rfl, ?_⟩) (fun q3=>⟨rfl, ?_⟩)
   ·have:=of_decide_eq_true q3
    rw [Bool.eq_iff_iff,decide_eq_true_eq,decide_eq_true_eq]
    omega
   ·have:=of_decide_eq_false q3
    symm;rw [decide_eq_false_iff_not];omega
 ·have hk' : k=l.length:=by have:=of_decide_eq_false q;omega
  subst hk'
  have hz:(l.zipIdx.all fun p=>ptCh p.2 p.1)=true:=ptAll.2 fun i x hx=>hall i x (List.getElem?_eq_some_iff.1 hx).1 hx
  unfold isPointV
  rw [hz,Bool.and_true]
  refine Br.mk (fun q2=>⟨?_,rfl⟩) (fun q2=>⟨?_,rfl⟩)
  ·have:=of_decide_eq_true q2
   congr 1
   rw [Bool.eq_iff_iff,decide_eq_true_eq,decide_eq_true_eq]
   omega
  ·have:=of_decide_eq_false q2
   congr 1
   symm;rw [decide_eq_false_iff_not];omega
def defV (l:List Stp) (nm:List UInt8):Bool:=l.any fun s=>s.name==nm
theorem defV_take {l:List Stp} {nm:List UInt8} {k:Nat} (h : ∀ j s,j<k->l[j]?=some s->s.name≠nm):k=l.length->defV l nm=false:=fun e=>by
 unfold defV
 rw [List.any_eq_false]
 intro s hs
 obtain ⟨j,hj⟩:=List.getElem?_of_mem hs
 have:=h j s (by rw [e];exact (List.getElem?_eq_some_iff.1 hj).1) hj
 simpa using this
theorem drDefined_c {h:Heap} {A:Option Addr} {n c:Nat} {l:List Stp} (u:StpS h A n c l) (hn:n<=1000000) (nm:List UInt8) :
  CallsU Tryz.prog 93 [.slice A n c,sv nm] h fun r h' => r = .bool (defV l nm)/\h=h' := by
 apply draft_defined_ok
 have hlen:=u.len
 refine ⟨fun m i h' => ∃ k,k<=l.length/\m=l.length-k/\i=(k:Int)/\h=h' /\ ∀ j s,j<k->l[j]?=some s->s.name≠nm,⟨l.length,0,by omega,by omega,rfl,rfl,fun j s hj=>by omega⟩, ?_⟩
 rintro m _ _ ⟨k,hk,rfl,rfl,rfl,hall⟩
 refine Br.mk (fun q=> ?_) (fun q=> ?_)
 ·have hlt:k<l.length:=by have:=of_decide_eq_true q;omega
  obtain ⟨s,hs⟩ : ∃ s,l[k]?=some s:=⟨_,List.getElem?_eq_getElem hlt⟩
  obtain ⟨ad,F,fc,K,kc,eA,hld,_,_⟩:=u.get hs
  refine ⟨ad,eA,by omega,by omega,_,_,_,_,_,_,_,_,by rw [Int.toNat_natCast];exact hld, ?_⟩
  rw [bytes_toList,bytes_toList]
  refine Br.mk (fun q2=>⟨?_,rfl⟩) (fun q2=> ?_)
  ·have:defV l nm=true:=by
    unfold defV
    rw [List.any_eq_true]
    exact ⟨s,List.mem_of_getElem? hs,by rw [beq_iff_eq.1 q2];simp⟩
   rw [this]
  ·rintro _ rfl
   refine ⟨l.length-(k+1),by omega,k+1,by omega,rfl,wi (by omega) (by omega),rfl,fun j y hj hy=> ?_⟩
   rcases Nat.lt_succ_iff_lt_or_eq.1 hj with q | q
   ·exact hall j y q hy
   ·subst q
    rw [hs] at hy
    cases hy
    exact beq_eq_false_iff_ne.1 q2
 ·have hk' : k=l.length:=by have:=of_decide_eq_false q;omega
  rw [defV_take hall hk']
  exact ⟨rfl,rfl⟩
def chkNm (l:List Stp) (s:Stp):Int:=if defV l s.name then 7 else if s.frm.all fun x=>defV l x then 0 else 6
theorem drNames_c {h:Heap} {A:Option Addr} {n c:Nat} {l:List Stp} (u:StpS h A n c l) (hn:n<=1000000) {s:Stp} {F:Option Addr} {fc:Nat} {K:Option Addr} {kn kc:Nat} (uf:Sl sv h F s.frm.length fc s.frm) (hf:s.frm.length<=1000000) :
  CallsU Tryz.prog 49 [.slice A n c,.agg #[sv s.name,.int .i64 s.kind,.slice F s.frm.length fc,.slice K kn kc]] h fun r h' => r = .int .i64 (chkNm l s)/\h=h' := by
 apply draft_checkNames_ok
 refine (drDefined_c u hn s.name).mono ?_
 rintro _ _ ⟨rfl,rfl⟩
 unfold chkNm
 refine ⟨_,rfl,Br.mk (fun q=> ?_) (fun q=> ?_)⟩
 ·rw [if_pos q];exact ⟨rfl,rfl⟩
 rw [if_neg (by rw [q];decide)]
 refine ⟨fun m i h' => ∃ k,k<=s.frm.length/\m=s.frm.length-k/\i=(k:Int)/\h=h' /\ ∀ j x,j<k->s.frm[j]?=some x->defV l x=true,⟨s.frm.length,0,by omega,by omega,rfl,rfl,fun j x hj=>by omega⟩, ?_⟩
 rintro m _ _ ⟨k,hk,rfl,rfl,rfl,hall⟩
 refine Br.mk (fun q1=> ?_) (fun q1=> ?_)
 ·have hlt:k<s.frm.length:=by have:=of_decide_eq_true q1;omega
  obtain ⟨x,hx⟩ : ∃ x,s.frm[k]?=some x:=⟨_,List.getElem?_eq_getElem hlt⟩
  obtain ⟨ad,eA,hld⟩:=uf.get hx
  refine ⟨ad,eA,by omega,by omega,_,by rw [Int.toNat_natCast];exact hld,(drDefined_c u hn x).mono ?_⟩
  rintro _ _ ⟨rfl,rfl⟩
  refine ⟨_,rfl,Br.mk (fun q2=> ?_) (fun q2=> ?_)⟩
  ·have hd:defV l x=false:=by simpa using q2
   rw [if_neg]
   ·exact ⟨rfl,rfl⟩
   ·intro ha
    have:=List.all_eq_true.1 ha x (List.mem_of_getElem? hx)
    rw [hd] at this
    cases this
  ·have hd:defV l x=true:=by simpa using q2
   rintro _ rfl
   refine ⟨s.frm.length-(k+1),by omega,k+1,by omega,rfl,wi (by omega) (by omega),rfl,fun j y hj hy=> ?_⟩
   rcases Nat.lt_succ_iff_lt_or_eq.1 hj with q | q
   ·exact hall j y q hy
   ·subst q
    rw [hx] at hy
    cases hy
    exact hd
 ·have hk' : k=s.frm.length:=by have:=of_decide_eq_false q1;omega
  rw [if_pos]
  ·exact ⟨rfl,rfl⟩
  ·rw [List.all_eq_true]
   intro x hx
   obtain ⟨j,hj⟩:=List.getElem?_of_mem hx
   exact hall j x (by rw [hk'];exact (List.getElem?_eq_some_iff.1 hj).1) hj
def frCells:List Value:=[sv [],.int .i64 0,sv [],.int .i64 0,sv [97,116],.int .i64 0,sv [],.int .i64 2,sv [102,114,111,109],.int .i64 1,sv [98,121],.int .i64 2,sv [111,110],.int .i64 2,sv [97,116],.int .i64 1,sv [109,101,101,116],.int .i64 4,sv [],.int .i64 0,sv [102,111,111,116],.int .i64 3,sv [],.int .i64 0,sv [109,105,114,114,111,114],.int .i64 3,sv [],.int .i64 0]
def Frms (h:Heap):Prop:= ∃ b:Blk,h 0=some b/\b.cells=frCells
theorem Frms.mono {h h' : Heap} (t:Frms h) (l:Le h h'):Frms h' := let ⟨b,a,c⟩:=t;⟨b,l _ _ a,c⟩
def frN (k:Int):Int:=if k=2 then 1 else if k=3 then 2 else if k=4 then 4 else if k=5\/k=6 then 3 else 0
def nuN (k:Int):Int:=if k=1\/k=2 then 2 else if k=3 then 1 else 0
def wdN (k:Int):List UInt8:=if k=1 then [97,116] else if k=2 then [102,114,111,109] else if k=3 then [111,110] else if k=4 then [109,101,101,116] else if k=5 then [102,111,111,116] else if k=6 then [109,105,114,114,111,114] else []
def lkN (k:Int):List UInt8:=if k=2 then [98,121] else if k=3 then [97,116] else []
theorem Frms.row {h:Heap} (t:Frms h) {k:Int} (h1:0<=k) (h2:k<=6):LdN h (Addr.add ⟨0,0,none⟩ (Int.toNat k*4)) [sv (wdN k),.int .i64 (frN k),sv (lkN k),.int .i64 (nuN k)]:=by
 obtain ⟨b,hb,hc⟩:=t
 have hk:k=0\/k=1\/k=2\/k=3\/k=4\/k=5\/k=6:=by omega
 refine LdN_of (ad:=⟨0,0,none⟩) rfl hb rfl ?_
 rw [hc]
 rcases hk with rfl | rfl | rfl | rfl | rfl | rfl | rfl<;>rfl
theorem LdN.cell {h:Heap} {p:Addr} {vs:List Value} (u:LdN h p vs) {i:Nat} {v:Value} (hv:vs[i]?=some v):LdN h (p.add i) [v]:=by
 obtain ⟨sp,b,hb,hc⟩:=u
 refine ld_of sp hb ?_
 have hi:=(List.getElem?_eq_some_iff.1 hv).1
 rw [<- hc,List.getElem?_take_of_lt hi,List.getElem?_drop] at hv
 exact hv
def chkFm (s:Stp):Int:=if isPointV s.name&&decide (1<=s.kind/\s.kind<=6)&&decide ((s.frm.length:Int)=frN s.kind/\(s.nums.length:Int)=nuN s.kind) then chkL s.nums 1 else 1
theorem drForm_c {h:Heap} {s:Stp} {F:Option Addr} {fc:Nat} {K:Option Addr} {kc:Nat} (uk:IsK h K s.nums.length kc s.nums) (z:SzS s) (t:Frms h) :
  CallsU Tryz.prog 64 [.agg #[sv s.name,.int .i64 s.kind,.slice F s.frm.length fc,.slice K s.nums.length kc]] h fun r h' => r = .int .i64 (chkFm s)/\Le h h' := by
 obtain ⟨z1,z2,z3,z4,z5⟩:=z
 apply draft_checkForm_ok
 unfold chkFm
 refine ⟨fun t h' => h=h' /\ t = !(isPointV s.name&&decide (1<=s.kind/\s.kind<=6)), ?_, ?_⟩
 ·rintro _ _ ⟨rfl,rfl⟩
  refine Br.mk (fun q=> ?_) (fun q=> ?_)
  ·have:(isPointV s.name&&decide (1<=s.kind/\s.kind<=6))=false:=by rw [Bool.not_eq_true'] at q;exact q
   rw [this]
   exact ⟨rfl,Le.refl _⟩
  ·have hp:(isPointV s.name&&decide (1<=s.kind/\s.kind<=6))=true:=by rw [Bool.not_eq_false'] at q;exact q
   rw [hp,Bool.true_and]
   rw [Bool.and_eq_true,decide_eq_true_eq] at hp
   obtain ⟨hp1,hk1,hk6⟩:=hp
   have row:=t.row (by omega:(0:Int)<=s.kind) hk6
   refine ⟨fun t h' => h=h' /\ t = !decide ((s.frm.length:Int)=frN s.kind/\(s.nums.length:Int)=nuN s.kind), ?_,by omega,by omega,_,LdN.cell row (i:=1) rfl, ?_⟩
   ·rintro _ _ ⟨rfl,rfl⟩
    refine Br.mk (fun q=> ?_) (fun q=> ?_)
    ·have:decide ((s.frm.length:Int)=frN s.kind/\(s.nums.length:Int)=nuN s.kind)=false:=by rw [Bool.not_eq_true'] at q;exact q
     rw [this]
     exact ⟨rfl,Le.refl _⟩
    ·have hd:decide ((s.frm.length:Int)=frN s.kind/\(s.nums.length:Int)=nuN s.kind)=true:=by rw [Bool.not_eq_false'] at q;exact q
     rw [hd,if_pos rfl]
     refine ⟨fun m i h' => ∃ k,k<=s.nums.length/\m=s.nums.length-k/\i=(k:Int)/\Le h h' /\ ∀ j e,j<k->s.nums[j]?=some e->chkV e 1=0,⟨s.nums.length,0,by omega,by omega,rfl,Le.refl _,fun j e hj=>by omega⟩, ?_⟩
     rintro m _ h1 ⟨k,hk,rfl,rfl,hle,hall⟩
     refine Br.mk (fun q1=> ?_) (fun q1=> ?_)
     ·have hlt:k<s.nums.length:=by have:=of_decide_eq_true q1;omega
      obtain ⟨x,hx⟩ : ∃ x,s.nums[k]?=some x:=⟨_,List.getElem?_eq_getElem hlt⟩
      obtain ⟨ad,vs,eA,hld,ux⟩:=(uk.mono hle).get hx
      have ux' := ux
      obtain ⟨sx,Ax,cx,Bx,dx,Kx,kcx,rfl,_,_,_⟩:=ux'.open
      refine ⟨ad,eA,by omega,by omega,_,_,_,_,_,_,_,_,_,_,_,_,by rw [Int.toNat_natCast];exact hld,(foChk_c ux (SzsL.get z4 hx)).mono ?_⟩
      rintro _ h2 ⟨rfl,hl2⟩
      refine ⟨_,rfl,Br.mk (fun q2=> ?_) (fun q2=> ?_)⟩
      ·have hne:chkV x 1≠0:=by simpa using q2
       have e1:=chkL_get s.nums 1 k hall
       rw [e1,List.drop_eq_getElem_cons hlt,chkL]
       have ex:s.nums[k]=x:=by rw [List.getElem?_eq_getElem hlt] at hx;exact Option.some.inj hx
       rw [ex,if_neg hne]
       exact ⟨rfl,hle.trans hl2⟩
      ·have h0:chkV x 1=0:=by simpa using q2
       rintro _ rfl
       refine ⟨s.nums.length-(k+1),by omega,k+1,by omega,rfl,wi (by omega) (by omega),hle.trans hl2,fun j y hj hy=> ?_⟩
       rcases Nat.lt_succ_iff_lt_or_eq.1 hj with q | q
       ·exact hall j y q hy
       ·subst q
        rw [hx] at hy
        cases hy
        exact h0
     ·have hk' : k=s.nums.length:=by have:=of_decide_eq_false q1;omega
      have e1:=chkL_get s.nums 1 k hall
      rw [hk', List.drop_length,chkL] at e1
      rw [e1]
      exact ⟨rfl,hle⟩
   ·refine Br.mk (fun q1=>⟨rfl, ?_⟩) (fun q1=>⟨by omega,by omega,_,LdN.cell row (i:=3) rfl,rfl, ?_⟩)
    ·have:(s.frm.length:Int)≠frN s.kind:=by simpa using q1
     rw [decide_eq_false (fun q=>this q.1)];rfl
    ·have h1:(s.frm.length:Int)=frN s.kind:=by simpa using q1
     rw [Bool.eq_iff_iff,bne_iff_ne,Bool.not_eq_true', decide_eq_false_iff_not]
     exact ⟨fun h q=>h q.2,fun h q=>h ⟨h1,q⟩⟩
 ·refine (drPoint_c s.name (by omega) h).mono ?_
  rintro _ _ ⟨rfl,rfl⟩
  refine ⟨_,rfl,Br.mk (fun q=>⟨rfl, ?_⟩) (fun q=> ?_)⟩
  ·have:isPointV s.name=false:=by simpa using q
   rw [this];rfl
  ·have hp:isPointV s.name=true:=by simpa using q
   rw [hp,Bool.true_and]
   refine Br.mk (fun q1=>⟨rfl, ?_⟩) (fun q1=>⟨rfl, ?_⟩)
   ·have:=of_decide_eq_true q1
    rw [decide_eq_false (by omega)];rfl
   ·have:=of_decide_eq_false q1
    rw [Bool.eq_iff_iff,decide_eq_true_eq,Bool.not_eq_true', decide_eq_false_iff_not]
    omega
def chkFr (l:List Stp):Nat->Nat->Int×Nat
 | 0,_=>(0,0)
 | f+1,i=>match l[i]? with
  | none=>(0,0)
  | some s=>if chkFm s=0 then (if chkNm (l.take i) s=0 then chkFr l f (i+1) else (chkNm (l.take i) s,i)) else (chkFm s,i)
def checkV (l:List Stp):Int×Nat:=if 64<l.length then (5,64) else chkFr l l.length 0
theorem drCheck_c {h:Heap} {A:Option Addr} {n c:Nat} {l:List Stp} (u:StpS h A n c l) (hn:n<=1000000) (z:n<=64->SzSs l) (t:Frms h) :
  CallsU Tryz.prog 31 [.slice A n c] h fun r h' => r = .tuple #[.int .i64 (checkV l).1,.int .i64 ((checkV l).2:Int)]/\Le h h' := by
 apply draft_check_ok
 have hlen:=u.len
 have hcap:=u.cap
 unfold checkV
 refine Br.mk (fun q=> ?_) (fun q=> ?_)
 ·have:=of_decide_eq_true q
  rw [if_pos (by omega)]
  exact ⟨rfl,Le.refl _⟩
 have hn64:n<=64:=by have:=of_decide_eq_false q;omega
 rw [if_neg (by omega)]
 refine ⟨fun m i h' => ∃ k,k<=l.length/\m=l.length-k/\i=(k:Int)/\Le h h' /\ chkFr l l.length 0=chkFr l (l.length-k) k,⟨l.length,0,by omega,by omega,rfl,Le.refl _,by simp⟩, ?_⟩
 rintro m _ h1 ⟨k,hk,rfl,rfl,hle,heq⟩
 refine Br.mk (fun q1=> ?_) (fun q1=> ?_)
 ·have hlt:k<l.length:=by have:=of_decide_eq_true q1;omega
  obtain ⟨s,hs⟩ : ∃ s,l[k]?=some s:=⟨_,List.getElem?_eq_getElem hlt⟩
  have u1:=u.mono hle
  obtain ⟨ad,F,fc,K,kc,eA,hld,uf,uk⟩:=u1.get hs
  have zs:=z hn64 s (List.mem_of_getElem? hs)
  have ek:l.length-k=(l.length-(k+1))+1:=by omega
  rw [ek,chkFr,hs] at heq
  simp only at heq
  refine ⟨ad,eA,by omega,by omega,_,_,_,_,_,_,_,_,by rw [Int.toNat_natCast];exact hld,(drForm_c uk zs (t.mono hle)).mono ?_⟩
  rintro _ h2 ⟨rfl,hl2⟩
  refine ⟨_,rfl,Br.mk (fun q2=> ?_) (fun q2=> ?_)⟩
  ·have h0:chkFm s=0:=beq_iff_eq.1 q2
   rw [if_pos h0] at heq
   refine ⟨by omega,by omega, ?_⟩
   rw [Int.toNat_natCast]
   have z2:=zs.2.1
   refine (drNames_c ((u1.mono hl2).take (m:=k) (by omega)) (by omega) (uf.mono hl2) (by omega)).mono ?_
   rintro _ _ ⟨rfl,rfl⟩
   refine ⟨_,rfl,Br.mk (fun q3=> ?_) (fun q3=> ?_)⟩
   ·have hne:chkNm (l.take k) s≠0:=by simpa using q3
    rw [if_neg hne] at heq
    rw [heq]
    exact ⟨rfl,hle.trans hl2⟩
   ·have h3:chkNm (l.take k) s=0:=by simpa using q3
    rw [if_pos h3] at heq
    rintro _ rfl
    exact ⟨l.length-(k+1),by omega,k+1,by omega,rfl,wi (by omega) (by omega),hle.trans hl2,heq⟩
  ·have h0:chkFm s≠0:=beq_eq_false_iff_ne.1 q2
   rw [if_neg h0] at heq
   refine Br.mk (fun _=> ?_) (fun q3=>absurd (bne_eq_false_iff_eq.1 q3) h0)
   rw [heq]
   exact ⟨rfl,hle.trans hl2⟩
 ·have hk' : k=l.length:=by have:=of_decide_eq_false q1;omega
  rw [hk', Nat.sub_self,chkFr] at heq
  rw [heq]
  exact ⟨rfl,hle⟩
theorem drChk_c {h:Heap} {A:Option Addr} {n c:Nat} {l:List Stp} (u:StpS h A n c l) (hn:n<=1000000) (z:n<=64->SzSs l) (t:Frms h) :
  CallsU Tryz.prog 13 [.slice A n c] h fun r h' => r = .int .i64 (checkV l).1/\Le h h' := by
 apply draft_Check_ok
 refine (drCheck_c u hn z t).mono ?_
 rintro _ h1 ⟨rfl,hl⟩
 exact ⟨_,_,rfl,rfl,hl⟩
theorem div_mkg {q p:Rat} (hp:p≠0):mkRat (if p.num<0 then -(q.num*p.den) else q.num*p.den) (q.den*p.num.natAbs)=q/p:=by
 have hpn:p.num≠0:=fun e=>hp (Rat.num_eq_zero.1 e)
 rw [Rat.mkRat_eq_div]
 have hq:q=(q.num:Rat)/((q.den:Nat):Rat):=by rw [<- Rat.mkRat_eq_div,Rat.mkRat_self]
 have hpp:p=(p.num:Rat)/((p.den:Nat):Rat):=by rw [<- Rat.mkRat_eq_div,Rat.mkRat_self]
 have h1:((q.den:Nat):Rat)≠0:=fun e=>q.den_nz (by exact_mod_cast e)
 have h2:((p.den:Nat):Rat)≠0:=fun e=>p.den_nz (by exact_mod_cast e)
 have h3:((p.num:Int):Rat)≠0:=fun e=>hpn (by exact_mod_cast e)
 have h4:(((q.den*p.num.natAbs:Nat):Nat):Rat)=((q.den:Nat):Rat)*(if p.num<0 then -(p.num:Rat) else (p.num:Rat)):=by
  rw [Rat.natCast_mul]
  congr 1
  have:((p.num.natAbs:Nat):Rat)=(((p.num.natAbs:Nat):Int):Rat):=(Rat.intCast_natCast _).symm
  rw [this]
  split
  ·rw [show ((p.num.natAbs:Nat):Int) = -p.num by omega,Rat.intCast_neg]
  ·rw [show ((p.num.natAbs:Nat):Int)=p.num by omega]
 have h5:(((if p.num<0 then -(q.num*p.den) else q.num*p.den:Int)):Rat)=(if p.num<0 then -((q.num:Rat)*((p.den:Nat):Rat)) else (q.num:Rat)*((p.den:Nat):Rat)):=by
  split
  ·rw [Rat.intCast_neg,Rat.intCast_mul,Rat.intCast_natCast]
  ·rw [Rat.intCast_mul,Rat.intCast_natCast]
 rw [h4,h5]
 generalize (q.num:Rat)=a at *
 generalize ((q.den:Nat):Rat)=b at *
 generalize hxx:(p.num:Rat)=x at *
 generalize ((p.den:Nat):Rat)=y at *
 rw [hq,hpp]
 split<;>grind
theorem r3divg_c {h:Heap} {s s2:Bool} {A B C D:Option Addr} {n c m d n2 c2 m2 d2:Nat} {q p:Rat} (u:IsQ h s A n c B m d q) (w:IsQ h s2 C n2 c2 D m2 d2 p) (hn:n<=134217728) (hm:m<=134217728) (hn2:n2<=134217728) (hm2:m2<=134217728) :
  CallsU Tryz.prog 182 [.agg #[.bool s,.slice A n c,.slice B m d],.agg #[.bool s2,.slice C n2 c2,.slice D m2 d2]] h fun r h' =>
   ((p=0/\r = .tuple #[.agg #[.bool false,.slice none 0 0,.slice none 0 0],.bool false])\/(p≠0/\ ∃ s' A' n' c' B' m' d', r = .tuple #[.agg #[.bool s', .slice A' n' c', .slice B' m' d'],.bool true]/\NmQ h' s' A' n' c' B' m' d' (q/p)/\n' <= max n 2+max m2 2/\m' <= max m 2+max n2 2))/\Le h h' := by
 apply ref03_Div_ok
 obtain ⟨z,v,uz,uv,ep⟩:=w
 refine (r3zero_c uz uv (by omega) (by omega)).mono ?_
 rintro _ h0 ⟨rfl,hl0⟩
 have hz:(z=0\/v=0)↔p=0:=by
  rw [<- ep]
  constructor
  ·rintro (e | e)
   ·rw [e];simp
   ·rw [e];simp
  ·intro e
   rcases Nat.eq_zero_or_pos v with q | q
   ·exact Or.inr q
   ·exact Or.inl ((Rat.mkRat_eq_zero (by omega)).1 e)
 refine ⟨_,rfl,Br.mk (fun q=>⟨Or.inl ⟨hz.1 (of_decide_eq_true q),rfl⟩,hl0⟩) (fun q0=> ?_)⟩
 have hp:p≠0:=fun e=>of_decide_eq_false q0 (hz.2 e)
 have hpn:p.num≠0:=fun e=>hp (Rat.num_eq_zero.1 e)
 refine (r3norm_c (u.mono hl0) (by omega) (by omega)).mono ?_
 rintro _ h1 ⟨s1,A1,n1,c1,B1,m1,d1,rfl,nq,hn1,hm1,hl1⟩
 have w' : IsQ h1 s2 C n2 c2 D m2 d2 p:=⟨z,v,(uz.mono hl0).mono hl1,(uv.mono hl0).mono hl1,ep⟩
 refine ⟨_,_,_,_,_,_,_,rfl,hl1,(r3norm_c w' (by omega) (by omega)).mono ?_⟩
 rintro _ h2 ⟨s3,A3,n3,c3,B3,m3,d3,rfl,np,hn3,hm3,hl2⟩
 have nq2:=nq.mono hl2
 refine ⟨_,_,_,_,_,_,_,rfl,(r1mul_c nq2.1.1.is np.2.is (by omega) (by omega)).mono ?_⟩
 rintro _ h3 ⟨A4,k4,c4,rfl,hN4,hl3⟩
 have hk4:=NmN.le_of hN4 (nq2.1.1.sz.mul np.2.sz)
 refine ⟨_,_,_,rfl,hl3,(r1mul_c (nq2.2.mono hl3).is (np.1.1.mono hl3).is (by omega) (by omega)).mono ?_⟩
 rintro _ h4 ⟨A5,k5,c5,rfl,hN5,hl4⟩
 have hk5:=NmN.le_of hN5 (nq2.2.sz.mul np.1.1.sz)
 have es3:s3=decide (p.num<0):=np.1.2
 have hI:IsI h4 (!(s1==s3)) A4 k4 c4 (if p.num<0 then -(q.num*p.den) else q.num*p.den):=by
  refine ⟨_,(hN4.mono hl4).is, ?_⟩
  have e1:=nq.1.2
  rw [es3,e1]
  have ha:((q.num.natAbs*p.den:Nat):Int)=(if q.num<0 then -q.num else q.num)*p.den:=by
   rw [Int.natCast_mul]
   congr 1
   split<;>omega
  rw [ha]
  by_cases hq:q.num<0<;>by_cases hpp:p.num<0<;>simp [hq,hpp,Int.neg_mul]
 refine ⟨_,_,_,rfl,hl4,(r3reduce_c hI hN5.is (Nat.mul_ne_zero q.den_nz (by omega)) (by omega) (by omega)).mono ?_⟩
 rintro _ h5 ⟨s8,A8,n8,c8,B8,m8,d8,rfl,hN8,b1,b2,hl5⟩
 rw [div_mkg hp] at hN8
 exact ⟨_,_,_,_,_,_,_,rfl,Or.inr ⟨hp,_,_,_,_,_,_,_,rfl,hN8,by omega,by omega⟩,((((hl0.trans hl1).trans hl2).trans hl3).trans hl4).trans hl5⟩
theorem LdN.tail3 {h:Heap} {p:Addr} {a b c d:Value} (u:LdN h p [a,b,c,d]):LdN h (p.add 1) [b,c,d]:=by
 obtain ⟨sp,bl,hb,hv⟩:=u
 refine ⟨addr_spot _ _ sp,bl,by rw [addr_block];exact hb, ?_⟩
 rw [addr_off]
 have h1:=congrArg (List.drop 1) hv
 rw [List.drop_take,List.drop_drop] at h1
 exact h1
theorem rLook_c {h:Heap} {A:Option Addr} {n c:Nat} {ms:List Meas} (u:EnvS h A n c ms) (nm:List UInt8) :
  CallsU Tryz.prog 178 [.slice A n c,sv nm] h fun r h' => EvR (lookV ms nm) 64 r h' /\ Le h h' := by
 apply ref17_lookup_ok
 have hlen:=u.len
 have hbig:=u.big
 refine ⟨fun m i _ _ _ _ _ _ _ h' => ∃ k,k<=ms.length/\m=ms.length-k/\i=(k:Int)/\h=h' /\ ∀ j x,j<k->ms[j]?=some x->x.name≠nm,⟨ms.length,0,by omega,by omega,rfl,rfl,fun j x hj=>by omega⟩, ?_⟩
 rintro m _ _ _ _ _ _ _ _ _ ⟨k,hk,rfl,rfl,rfl,hall⟩
 refine Br.mk (fun q=> ?_) (fun q=> ?_)
 ·have hlt:k<ms.length:=by have:=of_decide_eq_true q;omega
  obtain ⟨x,hx⟩ : ∃ x,ms[k]?=some x:=⟨_,List.getElem?_eq_getElem hlt⟩
  obtain ⟨ad,s,A', c', B,d,eA,hld,uq⟩:=u.get hx
  have hz:=u.sz x (List.mem_of_getElem? hx)
  rw [Int.toNat_natCast]
  refine ⟨ad,eA,by omega,by omega,_,LdN.first hld, ?_⟩
  rw [bytes_toList,bytes_toList]
  refine Br.mk (fun q1=> ?_) (fun q1=> ?_)
  ·have e1:x.name=nm:=beq_iff_eq.1 q1
   refine ⟨ad,eA,by omega,by omega,_,_,_,_,_,_,_,LdN.tail3 hld,(r3norm_c uq (by omega) (by omega)).mono ?_⟩
   rintro _ h1 ⟨s1,A1,n1,c1,B1,m1,d1,rfl,hN1,a1,b1,hl1⟩
   have:lookV ms nm = .ok x.val:=by
    unfold lookV
    rw [find_at hx e1 hall]
   rw [this]
   exact ⟨_,_,_,_,_,_,_,rfl,⟨_,_,_,_,_,_,_,rfl,hN1,by omega,by omega⟩,hl1⟩
  ·have e1:x.name≠nm:=beq_eq_false_iff_ne.1 q1
   rintro _ rfl
   refine ⟨ms.length-(k+1),by omega,k+1,by omega,rfl,wi (by omega) (by omega),rfl,fun j y hj hy=> ?_⟩
   rcases Nat.lt_succ_iff_lt_or_eq.1 hj with q | q
   ·exact hall j y q hy
   ·subst q
    rw [hx] at hy
    cases hy
    exact e1
 ·have hk' : k=ms.length:=by have:=of_decide_eq_false q;omega
  subst hk'
  have:lookV ms nm = .error 6:=by
   unfold lookV
   have hf:ms.find? (fun x=>x.name==nm)=none:=by
    rw [List.find?_eq_none]
    intro y hy
    obtain ⟨i,hi⟩:=List.getElem?_of_mem hy
    have:=hall i y (List.getElem?_eq_some_iff.1 hi).1 hi
    simpa using this
   rw [hf]
  rw [this]
  exact ⟨rfl,Le.refl _⟩
def RdR (h:Heap) (A:Option Addr) (n k:Nat) (qs:List Rat):Prop:=
 qs.length=n/\ ∀ i q,qs[i]?=some q-> ∃ ad s A' n' c' B m d,A=some ad/\LdN h (ad.add (i*3)) [.bool s,.slice A' n' c', .slice B m d]/\NmQ h s A' n' c' B m d q/\n' <= k/\m<=k
theorem RdR.getI {h:Heap} {A:Option Addr} {n k:Nat} {qs:List Rat} (u:RdR h A n k qs) {i:Nat} (hi:i<n) : ∃ q1,qs.getD i 0=q1/\ ∃ ad s A' n' c' B m d,A=some ad/\LdN h (ad.add (i*3)) [.bool s,.slice A' n' c', .slice B m d]/\NmQ h s A' n' c' B m d q1/\n' <= k/\m<=k:=by
 obtain ⟨q1,hq1⟩ : ∃ q1,qs[i]?=some q1:=⟨_,List.getElem?_eq_getElem (by rw [u.1];exact hi)⟩
 exact ⟨q1,by rw [List.getD_eq_getElem?_getD,hq1];rfl,u.2 i q1 hq1⟩
theorem rApply_c {h:Heap} {A:Option Addr} {n c k:Nat} {qs:List Rat} (u:RdR h A n k qs) (hk:k<=10000000) (hk2:2<=k) (hn:n<=1000000) (ms:List Meas) {kd:Int} (hkd:((kd=3\/kd=4\/kd=5\/kd=6)/\n=2)\/(kd=7/\n=1)\/((kd=8\/kd=9)/\1<=n)) :
  CallsU Tryz.prog 179 [.int .i64 kd,.slice A n c] h fun r h' => EvR (apV ms kd 0 [] qs) (2*k+1) r h' /\ Le h h' := by
 apply ref17_apply_ok
 obtain ⟨hql,hget⟩:=u
 unfold apV
 have n1:kd≠1:=by omega
 have n2:kd≠2:=by omega
 rw [if_neg n1,if_neg n2]
 have get0 : ∃ q0,qs[0]?=some q0:=⟨_,List.getElem?_eq_getElem (by omega)⟩
 obtain ⟨q0,hq0⟩:=get0
 obtain ⟨ad0,s0,A0,n0,c0,B0,m0,d0,eA0,hld0,hN0,a0,b0⟩:=hget 0 q0 hq0
 have g0:qs.getD 0 0=q0:=by rw [List.getD_eq_getElem?_getD,hq0];rfl
 refine Br.mk (fun k3=> ?_) (fun k3=> ?_)
 ·have e:kd=3:=beq_iff_eq.1 k3
  obtain ⟨q1,g1,ad1,s1,A1,n1', c1,B1,m1,d1,eA1,hld1,hN1,a1,b1⟩:=RdR.getI ⟨hql,hget⟩ (i:=1) (by omega)
  rw [if_pos e,g0,g1]
  refine ⟨ad0,eA0,by omega,by omega,_,_,_,_,_,_,_,hld0,ad1,eA1,by omega,by omega,_,_,_,_,_,_,_,hld1,(r3add_b hN0.is hN1.is (by omega) (by omega) (by omega) (by omega)).mono ?_⟩
  rintro _ h2 ⟨s2,A2,n2', c2,B2,m2,d2,rfl,hN2,a2,b2,hl2⟩
  exact ⟨_,_,_,_,_,_,_,rfl,⟨_,_,_,_,_,_,_,rfl,hN2,by omega,by omega⟩,hl2⟩
 have m3:kd≠3:=beq_eq_false_iff_ne.1 k3
 rw [if_neg m3]
 refine Br.mk (fun k4=> ?_) (fun k4=> ?_)
 ·have e:kd=4:=beq_iff_eq.1 k4
  obtain ⟨q1,g1,ad1,s1,A1,n1', c1,B1,m1,d1,eA1,hld1,hN1,a1,b1⟩:=RdR.getI ⟨hql,hget⟩ (i:=1) (by omega)
  rw [if_pos e,g0,g1]
  refine ⟨ad0,eA0,by omega,by omega,_,_,_,_,_,_,_,hld0,ad1,eA1,by omega,by omega,_,_,_,_,_,_,_,hld1,(r3sub_c hN0.is hN1.is (by omega) (by omega) (by omega) (by omega)).mono ?_⟩
  rintro _ h2 ⟨s2,A2,n2', c2,B2,m2,d2,rfl,hN2,a2,b2,hl2⟩
  exact ⟨_,_,_,_,_,_,_,rfl,⟨_,_,_,_,_,_,_,rfl,hN2,by omega,by omega⟩,hl2⟩
 have m4:kd≠4:=beq_eq_false_iff_ne.1 k4
 rw [if_neg m4]
 refine Br.mk (fun k5=> ?_) (fun k5=> ?_)
 ·have e:kd=5:=beq_iff_eq.1 k5
  obtain ⟨q1,g1,ad1,s1,A1,n1', c1,B1,m1,d1,eA1,hld1,hN1,a1,b1⟩:=RdR.getI ⟨hql,hget⟩ (i:=1) (by omega)
  rw [if_pos e,g0,g1]
  refine ⟨ad0,eA0,by omega,by omega,_,_,_,_,_,_,_,hld0,ad1,eA1,by omega,by omega,_,_,_,_,_,_,_,hld1,(r3mul_c hN0.is hN1.is (by omega) (by omega) (by omega) (by omega)).mono ?_⟩
  rintro _ h2 ⟨s2,A2,n2', c2,B2,m2,d2,rfl,hN2,a2,b2,hl2⟩
  exact ⟨_,_,_,_,_,_,_,rfl,⟨_,_,_,_,_,_,_,rfl,hN2,by omega,by omega⟩,hl2⟩
 have m5:kd≠5:=beq_eq_false_iff_ne.1 k5
 rw [if_neg m5]
 refine Br.mk (fun k6=> ?_) (fun k6=> ?_)
 ·have e:kd=6:=beq_iff_eq.1 k6
  obtain ⟨q1,g1,ad1,s1,A1,n1', c1,B1,m1,d1,eA1,hld1,hN1,a1,b1⟩:=RdR.getI ⟨hql,hget⟩ (i:=1) (by omega)
  rw [if_pos e,g0,g1]
  refine ⟨ad0,eA0,by omega,by omega,_,_,_,_,_,_,_,hld0,ad1,eA1,by omega,by omega,_,_,_,_,_,_,_,hld1,(r3divg_c hN0.is hN1.is (by omega) (by omega) (by omega) (by omega)).mono ?_⟩
  rintro _ h2 ⟨hcase,hl2⟩
  rcases hcase with ⟨hp,rfl⟩ | ⟨hp,s2,A2,n2', c2,B2,m2,d2,rfl,hN2,a2,b2⟩
  ·rw [if_pos hp]
   exact ⟨_,_,_,_,_,_,_,_,rfl,Br.mk (fun _=>⟨rfl,hl2⟩) (fun q=>by cases q)⟩
  ·rw [if_neg hp]
   exact ⟨_,_,_,_,_,_,_,_,rfl,Br.mk (fun q=>by cases q) (fun _=>⟨⟨_,_,_,_,_,_,_,rfl,hN2,by omega,by omega⟩,hl2⟩)⟩
 have m6:kd≠6:=beq_eq_false_iff_ne.1 k6
 rw [if_neg m6]
 refine Br.mk (fun k7=> ?_) (fun k7=> ?_)
 ·have e:kd=7:=beq_iff_eq.1 k7
  rw [if_pos e,g0]
  refine ⟨ad0,eA0,by omega,by omega,_,_,_,_,_,_,_,hld0,(r3neg_c hN0.is (by omega) (by omega)).mono ?_⟩
  rintro _ h2 ⟨s2,A2,n2', c2,B2,m2,d2,rfl,hN2,a2,b2,hl2⟩
  exact ⟨_,_,_,_,_,_,_,rfl,⟨_,_,_,_,_,_,_,rfl,hN2,by omega,by omega⟩,hl2⟩
 have m7:kd≠7:=beq_eq_false_iff_ne.1 k7
 rw [if_neg m7,g0]
 have h89:kd=8\/kd=9:=by omega
 generalize hsg:(if kd=8 then (-1:Int) else 1)=sg
 refine ⟨ad0,eA0,by omega,by omega,_,_,_,_,_,_,_,hld0,fun mm i s A' n' c' B m d h' => ∃ j best,1<=j/\j<=n/\mm=n-j/\i=(j:Int)/\NmQ h' s A' n' c' B m d best/\n' <= k/\m<=k/\Le h h' /\ exV sg best (qs.drop j)=exV sg q0 (qs.drop 1),⟨n-1,1,q0,by omega,by omega,rfl,rfl,hN0,a0,b0,Le.refl _,rfl⟩, ?_⟩
 rintro mm _ s' A' n' c' B' m' d' h2 ⟨j,best,hj1,hj,rfl,rfl,hN,a,b,hl2,hex⟩
 refine Br.mk (fun q=> ?_) (fun q=> ?_)
 ·have hlt:j<n:=by have:=of_decide_eq_true q;omega
  obtain ⟨v,hv⟩ : ∃ v,qs[j]?=some v:=⟨_,List.getElem?_eq_getElem (by omega)⟩
  obtain ⟨ad1,s1,A1,n1', c1,B1,m1,d1,eA1,hld1,hN1,a1,b1⟩:=hget j v hv
  have ev:qs[j]'(by omega)=v:=by rw [List.getElem?_eq_getElem (by omega)] at hv;exact Option.some.inj hv
  rw [List.drop_eq_getElem_cons (by omega),ev,exV] at hex
  rw [Int.toNat_natCast]
  refine ⟨ad1,eA1,by omega,by omega,_,_,_,_,_,_,_,LdN.mono hld1 hl2,(r3cmp_c (hN1.is.mono hl2) hN.is (by omega) (by omega) (by omega) (by omega)).mono ?_⟩
  rintro _ h3 ⟨rfl,hl3⟩
  have l3:=hl2.trans hl3
  have take:cmpQ v best=sg-> ∃ ad:Addr,A=some ad/\0<=(j:Int)/\(j:Int)<((n:Nat):Int)/\ ∃ t0:Bool,∃ t1A:Option Addr,∃ t1n t1c:Nat,∃ t2A:Option Addr,∃ t2n t2c:Nat,LdN h3 (Addr.add ad (j*3)) [Value.bool t0,Value.slice t1A t1n t1c,Value.slice t2A t2n t2c]/\ ∀ t69:Int,t69=IntKind.i64.wrap ((j:Int)+1)-> ∃ m_1,m_1<n-j/\ ∃ j2 best,1<=j2/\j2<=n/\m_1=n-j2/\t69=(j2:Int)/\NmQ h3 t0 t1A t1n t1c t2A t2n t2c best/\t1n<=k/\t2n<=k/\Le h h3/\exV sg best (qs.drop j2)=exV sg q0 (qs.drop 1):=fun hc=>by
   rw [if_pos hc] at hex
   refine ⟨ad1,eA1,by omega,by omega,_,_,_,_,_,_,_,LdN.mono hld1 l3, ?_⟩
   rintro _ rfl
   exact ⟨n-(j+1),by omega,j+1,v,by omega,by omega,rfl,wi (by omega) (by omega),hN1.mono l3,a1,b1,l3,hex⟩
  have stay:cmpQ v best≠sg-> ∀ t69:Int,t69=IntKind.i64.wrap ((j:Int)+1)-> ∃ m_1,m_1<n-j/\ ∃ j2 best,1<=j2/\j2<=n/\m_1=n-j2/\t69=(j2:Int)/\NmQ h3 s' A' n' c' B' m' d' best/\n' <= k/\m' <= k/\Le h h3/\exV sg best (qs.drop j2)=exV sg q0 (qs.drop 1):=fun hc=>by
   rw [if_neg hc] at hex
   rintro _ rfl
   exact ⟨n-(j+1),by omega,j+1,best,by omega,by omega,rfl,wi (by omega) (by omega),hN.mono hl3,a,b,l3,hex⟩
  have cm:cmpQ v best = -1\/cmpQ v best=0\/cmpQ v best=1:=by
   unfold cmpQ
   split
   ·exact Or.inl rfl
   ·split
    ·exact Or.inr (Or.inr rfl)
    ·exact Or.inr (Or.inl rfl)
  refine ⟨_,rfl,Br.mk (fun k8=> ?_) (fun k8=> ?_)⟩
  ·have e8:kd=8:=beq_iff_eq.1 k8
   rw [if_pos e8] at hsg
   refine Br.mk (fun q1=>take (by have:=of_decide_eq_true q1;omega)) (fun q1=>Br.mk (fun k9=> ?_) (fun _=>stay (by have:=of_decide_eq_false q1;omega)))
   have:=beq_iff_eq.1 k9
   omega
  ·have e8:kd≠8:=beq_eq_false_iff_ne.1 k8
   rw [if_neg e8] at hsg
   refine Br.mk (fun _=>Br.mk (fun q1=>take (by have:=of_decide_eq_true q1;omega)) (fun q1=>stay (by have:=of_decide_eq_false q1;omega))) (fun k9=> ?_)
   have:=beq_eq_false_iff_ne.1 k9
   omega
 ·have hj' : j=n:=by have:=of_decide_eq_false q;omega
  subst hj'
  rw [List.drop_of_length_le (by omega),exV] at hex
  rw [<- hex]
  exact ⟨⟨_,_,_,_,_,_,_,rfl,hN,by omega,by omega⟩,hl2⟩
def OR (h0 h:Heap) (A:Option Addr) (n c k:Nat) (qs:List Rat):Prop:=
 qs.length=n/\((A=none/\n=0/\c=0)\/ ∃ gk cs,h0 gk=none/\A=some ⟨gk,0,none⟩/\h gk=some ⟨cs,36,(0,0)⟩/\cs.length=3*c/\n<=c/\RatsAt (hole h gk) k cs qs)
theorem OR.rd {h0 h:Heap} {A:Option Addr} {n c k:Nat} {qs:List Rat} (o:OR h0 h A n c k qs):RdR h A n k qs:=by
 obtain ⟨a,b⟩:=o
 refine ⟨a,fun i q hq=> ?_⟩
 rcases b with ⟨rfl,rfl,rfl⟩ | ⟨gk,cs,b0,rfl,b3,b4,b5,b6⟩
 ·have:qs=[]:=List.length_eq_zero_iff.1 a
  subst this
  simp at hq
 ·obtain ⟨s,A', n', c', B,m,d,e1,e2,e3⟩:=b6 i q hq
  exact ⟨_,_,_,_,_,_,_,_,rfl,LdN_of rfl b3 rfl (by simpa using e1),e2.mono (hole_le _ _),e3⟩
theorem RatsAt.snoc {h:Heap} {k:Nat} {cs rest:List Value} {qs:List Rat} (u:RatsAt h k cs qs) (hl:3*qs.length<=cs.length) {s:Bool} {A:Option Addr} {n c:Nat} {B:Option Addr} {m d:Nat} {q:Rat} (hN:NmQ h s A n c B m d q) (a:n<=k) (b:m<=k) :
  RatsAt h k (cs.take (3*qs.length)++[.bool s,.slice A n c,.slice B m d]++rest) (qs++[q]):=by
 intro i p hp
 have htl:(cs.take (3*qs.length)).length=3*qs.length:=by rw [List.length_take];omega
 rcases Nat.lt_or_ge i qs.length with hi | hi
 ·rw [List.getElem?_append_left hi] at hp
  obtain ⟨s3,A3,n3,c3,B3,m3,d3,e3,r3⟩:=u i p hp
  refine ⟨s3,A3,n3,c3,B3,m3,d3, ?_,r3⟩
  rw [List.append_assoc,List.drop_append_of_le_length (by omega),List.take_append_of_le_length (by rw [List.length_drop];omega),List.drop_take,List.take_take,Nat.min_eq_left (by omega)]
  exact e3
 ·have hi2:i=qs.length:=by
   have:=(List.getElem?_eq_some_iff.1 hp).1
   simp at this
   omega
  subst hi2
  rw [List.getElem?_append_right (by omega)] at hp
  simp at hp
  subst hp
  refine ⟨s,A,n,c,B,m,d, ?_,hN,a,b⟩
  rw [List.append_assoc,List.drop_append_of_le_length (by omega),List.drop_of_length_le (l:=cs.take (3*qs.length)) (by omega)]
  rfl
theorem RatsAt.take {h:Heap} {k:Nat} {cs:List Value} {qs:List Rat} (u:RatsAt h k cs qs):RatsAt h k (cs.take (3*qs.length)) qs:=by
 intro i p hp
 have hi:=(List.getElem?_eq_some_iff.1 hp).1
 obtain ⟨s3,A3,n3,c3,B3,m3,d3,e3,r3⟩:=u i p hp
 refine ⟨s3,A3,n3,c3,B3,m3,d3, ?_,r3⟩
 rw [List.drop_take,List.take_take,Nat.min_eq_left (by omega)]
 exact e3
theorem OR.app {h0 h:Heap} {A:Option Addr} {n c k:Nat} {qs:List Rat} (o:OR h0 h A n c k qs) (l:Le h0 h) {q:Rat} {s:Bool} {A' : Option Addr} {n' c' : Nat} {B:Option Addr} {m d:Nat} (hN:NmQ (cutA h A) s A' n' c' B m d q) (a:n' <= k) (b:m<=k) (hn:n<=1000000) {g:Nat} (hg:h g=none)
  {K:Option Addr->Nat->Heap->Prop} (hK : ∀ A2 c2 h2,OR h0 h2 A2 (n+1) c2 k (qs++[q])->Le h0 h2->K A2 c2 h2) :
  ∃ xs:List Value,RdS (h.put g ⟨[.bool s,.slice A' n' c', .slice B m d],36,(0,0)⟩) (some ⟨g,0,none⟩) (1*3) xs/\(∀ y∈xs,Go.Vcg.one y=true)/\
   (n+1<=c-> ∃ (ad:Addr) (b' : Blk),A=some ad/\ad.spot=none/\(h.put g ⟨[.bool s,.slice A' n' c', .slice B m d],36,(0,0)⟩) ad.block=some b' /\ b'.fz=(0,0)/\ad.off+n*3+1*3<=b'.cells.length/\
    ∀ h9:Heap,h9=Heap.put (h.put g ⟨[.bool s,.slice A' n' c', .slice B m d],36,(0,0)⟩) ad.block { b' with cells:=setSeg b'.cells (ad.off+n*3) xs }->K A c h9)/\
   (c<n+1-> ∃ olds:List Value,RdS (h.put g ⟨[.bool s,.slice A' n' c', .slice B m d],36,(0,0)⟩) A (n*3) olds/\(n+1)*56<=140737488355328/\
    ∀ (g1 cap:Nat) (h10:Heap),(h.put g ⟨[.bool s,.slice A' n' c', .slice B m d],36,(0,0)⟩) g1=none->n+1<=cap->h10=Heap.put (h.put g ⟨[.bool s,.slice A' n' c', .slice B m d],36,(0,0)⟩) g1 ⟨olds++xs++repV [Value.bool false,Value.slice none 0 0,Value.slice none 0 0] (cap-(n+1)),36,(0,0)⟩->K (some ⟨g1,0,none⟩) cap h10):=by
 obtain ⟨a1,a3⟩:=o
 have g0:h0 g=none:=l.free hg
 have hlen:(qs++[q]).length=n+1:=by rw [List.length_append,a1];rfl
 refine ⟨[.bool s,.slice A' n' c', .slice B m d],⟨rfl,fun _=>⟨_,rfl,rfl,_,Heap.put_same _ _ _,rfl⟩⟩, ?_, ?_, ?_⟩
 ·intro y hy
  simp only [List.mem_cons,List.not_mem_nil,or_false] at hy
  rcases hy with rfl | rfl | rfl<;>rfl
 ·intro hcap
  rcases a3 with ⟨_,_,rfl⟩ | ⟨gk,cs,b0,rfl,b3,b4,b5,b6⟩
  ·omega
  ·have hgk:g≠gk:=fun e=>by rw [e,b3] at hg;cases hg
   have hN' : NmQ (hole h gk) s A' n' c' B m d q:=hN
   have hle:Le (hole h gk) (hole ((h.put g ⟨[.bool s,.slice A' n' c', .slice B m d],36,(0,0)⟩).put gk ⟨setSeg cs (0+n*3) [.bool s,.slice A' n' c', .slice B m d],36,(0,0)⟩) gk):=by
    rw [hole_put,hole_put_ne _ _ hgk]
    exact Le.new (by rw [hole_ne _ hgk];exact hg) _
   refine ⟨_,_,rfl,rfl,by rw [Heap.put_ne _ _ (fun e=>hgk e.symm)];exact b3,rfl,by simp only;omega, ?_⟩
   rintro _ rfl
   refine hK _ _ _ ⟨hlen,Or.inr ⟨gk,setSeg cs (0+n*3) [.bool s,.slice A' n' c', .slice B m d],b0,rfl,Heap.put_same _ _ _, ?_,hcap, ?_⟩⟩ ((l.put g0 _).put b0 _)
   ·unfold setSeg
    rw [List.length_append,List.length_append,List.length_take,List.length_drop]
    simp only [List.length_cons,List.length_nil]
    omega
   ·have:=(b6.mono hle).snoc (rest:=cs.drop (0+n*3+3)) (by omega) (hN'.mono hle) a b
    unfold setSeg
    rw [show 3*qs.length=0+n*3 by omega] at this
    exact this
 ·intro hcap
  have holds : ∃ olds:List Value,RdS (h.put g ⟨[.bool s,.slice A' n' c', .slice B m d],36,(0,0)⟩) A (n*3) olds/\RatsAt h k olds qs/\olds.length=3*qs.length:=by
   rcases a3 with ⟨rfl,rfl,rfl⟩ | ⟨gk,cs,b0,rfl,b3,b4,b5,b6⟩
   ·have:qs=[]:=List.length_eq_zero_iff.1 a1
    subst this
    exact ⟨[],⟨rfl,fun q=>absurd q (by decide)⟩,fun i p hp=>by simp at hp,rfl⟩
   ·have hgk:g≠gk:=fun e=>by rw [e,b3] at hg;cases hg
    refine ⟨cs.take (3*qs.length),⟨by rw [List.length_take];omega,fun _=>⟨_,rfl,rfl,_,by rw [Heap.put_ne _ _ (fun e=>hgk e.symm)];exact b3, ?_⟩⟩,(b6.mono (hole_le _ _)).take,by rw [List.length_take];omega⟩
    simp only [List.drop_zero,List.length_take]
    congr 1
    omega
  obtain ⟨olds,hrd,hms,hol⟩:=holds
  refine ⟨olds,hrd,by omega, ?_⟩
  rintro g1 cap _ hg1 hcap1 rfl
  have hgg:g1≠g:=fun e=>by rw [e,Heap.put_same] at hg1;cases hg1
  have hg1' : h g1=none:=by rw [Heap.put_ne _ _ hgg] at hg1;exact hg1
  have g01:h0 g1=none:=l.free hg1'
  refine hK _ _ _ ⟨hlen,Or.inr ⟨g1,_,g01,rfl,Heap.put_same _ _ _, ?_,hcap1, ?_⟩⟩ ((l.put g0 _).put g01 _)
  ·rw [List.length_append,List.length_append,hol,repV_len]
   simp only [List.length_cons,List.length_nil]
   omega
  ·rw [hole_put,hole_none (by rw [Heap.put_ne _ _ hgg];exact hg1')]
   have lg:=Le.new hg ⟨[.bool s,.slice A' n' c', .slice B m d],36,(0,0)⟩
   have:=(hms.mono lg).snoc (rest:=repV [Value.bool false,Value.slice none 0 0,Value.slice none 0 0] (cap-(n+1))) (by omega) ((hN.mono (cutA_le _ _)).mono lg) a b
   rw [List.take_of_length_le (by omega)] at this
   exact this
def ReOk (e:Ex):Prop:= ∀ {h:Heap} {vs:List Value} {A:Option Addr} {n c:Nat} {ms:List Meas} (lv:Nat),IsE h e vs->Szs e->chkV e (lv:Int)=0->EnvS h A n c ms->
 CallsU Tryz.prog 108 [.agg vs.toArray,.slice A n c] h fun r h' => EvR (evV ms e) (bnd lv) r h' /\ Le h h'
theorem le_holeIn {h H:Heap} (l:Le h H) {gk:Nat} (hg:h gk=none):Le h (hole H gk):=fun k b hk=>by
 have:k≠gk:=fun e=>by rw [e,hg] at hk;cases hk
 rw [hole_ne _ this]
 exact l k b hk
theorem EvR.widen {o:Except Int Rat} {k k' : Nat} {v:Value} {h:Heap} (u:EvR o k v h) (hk:k<=k'):EvR o k' v h:=by
 cases o with
 | ok q=>
  obtain ⟨s,A,n,c,B,m,d,rfl,hN,a,b⟩:=u
  exact ⟨_,_,_,_,_,_,_,rfl,hN,by omega,by omega⟩
 | error e=>exact u
theorem rEval_node {k:Int} {q0:Rat} {n m:Nat} {nm:List UInt8} {kids:List Ex} (ih:evAll ReOk kids):ReOk (.mk k q0 n m nm kids):=by
 intro h vs eA en ec ms lv u z hchk env
 have uo:=u.open
 obtain ⟨s,A,c,B,d,K,kc,rfl,uq,hc,hk⟩:=uo
 obtain ⟨z1,z2,z3,z4,z5⟩:=z.open
 obtain ⟨hlv,hright,hckids⟩:=chk_ok hchk
 obtain ⟨hb1,hb2,hb3⟩:=bnd_ok hlv
 have hops:=right_len hright
 simp only [Ex.kind,Ex.kids,Ex.ln,Ex.lm,Ex.val,Ex.name] at uq hc hk z1 z2 z3 z4 z5 hckids hops
 apply ref17_eval_ok
 unfold ref17_eval_vc
 have hlen:(Ex.mk k q0 n m nm kids).kids.length=kids.length:=rfl
 rw [hlen]
 have noKids:(k=1\/k=2)->evV ms (.mk k q0 n m nm kids)=apV ms k q0 nm []:=fun h12=>by
  have:kids=[]:=by
   unfold foOps at hops
   rw [if_pos h12] at hops
   exact List.length_eq_zero_iff.1 (by omega)
  subst this
  rw [evV,evL]
 refine Br.mk (fun k1=> ?_) (fun k1=>Br.mk (fun k2=> ?_) (fun k2=> ?_))
 ·have e1:k=1:=beq_iff_eq.1 k1
  rw [noKids (Or.inl e1)]
  unfold apV
  rw [if_pos e1]
  refine (r3norm_c uq (by omega) (by omega)).mono ?_
  rintro _ h1 ⟨s1,A1,n1,c1,B1,m1,d1,rfl,hN1,a1,b1,hl1⟩
  exact ⟨_,_,_,_,_,_,_,rfl,⟨_,_,_,_,_,_,_,rfl,hN1,by omega,by omega⟩,hl1⟩
 ·have e1:k≠1:=beq_eq_false_iff_ne.1 k1
  have e2:k=2:=beq_iff_eq.1 k2
  rw [noKids (Or.inr e2)]
  unfold apV
  rw [if_neg e1,if_pos e2]
  refine (rLook_c env nm).mono ?_
  rintro v h1 ⟨hr1,hl1⟩
  have hr1' := hr1.widen (k' := bnd lv) (by omega)
  obtain ⟨s5,A5,n5,c5,B5,m5,d5,er5,rfl,_⟩:=hr1.shape
  exact ⟨_,_,_,_,_,_,_,_,rfl,hr1', hl1⟩
 ·have e1:k≠1:=beq_eq_false_iff_ne.1 k1
  have e2:k≠2:=beq_eq_false_iff_ne.1 k2
  refine ⟨fun mm vA vn vc i _ _ _ _ _ _ _ h' => ∃ j qs,j<=kids.length/\mm=kids.length-j/\i=(j:Int)/\vn=j/\Le h h' /\ OR h h' vA vn vc (bnd (lv+1)) qs/\evL ms kids=catR qs (evL ms (kids.drop j)),⟨kids.length,0,[],by omega,by omega,rfl,rfl,Le.refl _,⟨rfl,Or.inl ⟨rfl,rfl,rfl⟩⟩,by rw [List.drop_zero];cases evL ms kids<;>rfl⟩, ?_⟩
  rintro mm vA vn vc _ _ _ _ _ _ _ _ h2 ⟨j,qs,hj,rfl,rfl,rfl,hl2,hor,hev⟩
  refine Br.mk (fun q1=> ?_) (fun q1=> ?_)
  ·have hlt:vn<kids.length:=by have:=of_decide_eq_true q1;omega
   obtain ⟨x,hx⟩ : ∃ x,kids[vn]?=some x:=⟨_,List.getElem?_eq_getElem hlt⟩
   obtain ⟨ad,vs', eA', hld,ux⟩:=kid_ld (e:= .mk k q0 n m nm kids) hk hx
   have ux' := ux
   obtain ⟨s', A', c', B', d', K', kc', rfl,_,_,_⟩:=ux'.open
   have hckid:=chkL_at hckids hx
   have hdrop:=evL_drop ms hx
   refine ⟨ad,eA', by omega,by omega,_,_,_,_,_,_,_,_,_,_,_,_,by rw [Int.toNat_natCast];exact LdN.mono hld hl2, ?_⟩
   have key:CallsU Tryz.prog 108 [.agg (cellsE x.kind s' A' x.ln c' B' x.lm d' x.name K' x.kids.length kc').toArray,.slice eA en ec] h2 fun r h' => EvR (evV ms x) (bnd (lv+1)) r (cutA h' vA)/\Le h h' /\ OR h h' vA vn vc (bnd (lv+1)) qs:=by
    obtain ⟨o1,o2⟩:=hor
    rcases o2 with ⟨rfl,ho,rfl⟩ | ⟨gk,cs,b0,rfl,b3,b4,b5,b6⟩
    ·refine ((ih.get hx) (lv+1) (IsE.mono hl2 _ _ ux) (SzsL.get z5 hx) hckid (env.mono hl2)).mono ?_
     rintro v h' ⟨hr,hl'⟩
     exact ⟨hr,hl2.trans hl', o1,Or.inl ⟨rfl,ho,rfl⟩⟩
    ·have lh:Le h (hole h2 gk):=le_holeIn hl2 b0
     have fr:=((ih.get hx) (lv+1) (IsE.mono lh _ _ ux) (SzsL.get z5 hx) hckid (env.mono lh)).frame (g:=gk) (b:=⟨cs,36,(0,0)⟩) (hole_at _ _)
     rw [put_hole b3] at fr
     refine fr.mono ?_
     rintro v _ ⟨h', ⟨hr,hl'⟩,hgn,rfl⟩
     have hcut:hole (h'.put gk ⟨cs,36,(0,0)⟩) gk=h' := by rw [hole_put,hole_none hgn]
     refine ⟨?_,(lh.trans hl').put b0 _,o1,Or.inr ⟨gk,cs,b0,rfl,Heap.put_same _ _ _,b4,b5, ?_⟩⟩
     ·show EvR (evV ms x) (bnd (lv+1)) v (hole (h'.put gk _) gk)
      rw [hcut];exact hr
     ·rw [hcut];exact b6.mono hl'
   refine key.mono ?_
   rintro v h3 ⟨hr,hl3,hor3⟩
   cases hv:evV ms x with
   | error er=>
    rw [hv] at hr hdrop
    have hr' : v=Value.tuple #[.agg #[.bool false,.slice none 0 0,.slice none 0 0],.int .i64 er]:=hr
    subst hr'
    have hevV:evV ms (.mk k q0 n m nm kids) = .error er:=by rw [evV,hev,hdrop];rfl
    rw [hevV]
    refine ⟨_,_,_,_,_,_,_,_,rfl,Br.mk (fun _=>⟨rfl,hl3⟩) (fun q2=> ?_)⟩
    have:=evV_err hv
    simp at q2
    exact absurd q2 this
   | ok y=>
    rw [hv] at hr hdrop
    obtain ⟨s2,A2,n2,c2,B2,m2,d2,rfl,hN2,a2,b2⟩:=hr
    refine ⟨_,_,_,_,_,_,_,_,rfl,Br.mk (fun q2=>by exact absurd q2 (by decide)) (fun _=> ?_)⟩
    rintro g _ hg rfl
    refine OR.app hor3 hl3 hN2 a2 b2 (by omega) hg (K:=fun A2 c2 h2=> ∀ t31:Int,t31=IntKind.i64.wrap ((vn:Int)+1)-> ∃ m_1,m_1<kids.length-vn/\ ∃ j qs,j<=kids.length/\m_1=kids.length-j/\t31=(j:Int)/\vn+1=j/\Le h h2/\OR h h2 A2 (vn+1) c2 (bnd (lv+1)) qs/\evL ms kids=catR qs (evL ms (kids.drop j))) (fun A2 c2 h2 o2 l2=> ?_)
    rintro _ rfl
    exact ⟨kids.length-(vn+1),by omega,vn+1,qs++[y],by omega,rfl,wi (by omega) (by omega),rfl,l2,o2,by rw [hev,hdrop];exact cat_cat qs [y] _⟩
  ·have hj' : vn=kids.length:=by have:=of_decide_eq_false q1;omega
   rw [List.drop_of_length_le (by omega)] at hev
   have hev' : evL ms kids = .ok qs:=by rw [hev,evL];simp [catR]
   have hkd:((k=3\/k=4\/k=5\/k=6)/\vn=2)\/(k=7/\vn=1)\/((k=8\/k=9)/\1<=vn):=by
    unfold foOps at hops
    rw [if_neg (by omega)] at hops
    split at hops
    ·rename_i h4;exact Or.inl ⟨h4,by omega⟩
    ·split at hops
     ·rename_i h7;exact Or.inr (Or.inl ⟨h7,by omega⟩)
     ·split at hops
      ·rename_i h8;exact Or.inr (Or.inr ⟨h8,by omega⟩)
      ·omega
   have hap:evV ms (.mk k q0 n m nm kids)=apV ms k 0 [] qs:=by
    rw [evV,hev']
    simp only
    unfold apV
    rw [if_neg e1,if_neg e2,if_neg e1,if_neg e2]
   rw [hap]
   refine (rApply_c hor.rd (by omega) (by omega) (by omega) ms hkd).mono ?_
   rintro v h3 ⟨hr3,hl3⟩
   rw [show 2*bnd (lv+1)+1=bnd lv from hb1.symm] at hr3
   obtain ⟨s5,A5,n5,c5,B5,m5,d5,er5,rfl,_⟩:=hr3.shape
   exact ⟨_,_,_,_,_,_,_,_,rfl,hr3,hl2.trans hl3⟩
mutual
theorem rEval_all : ∀ e:Ex,ReOk e
 | .mk _ _ _ _ _ kids=>rEval_node (rEval_allL kids)
theorem rEval_allL : ∀ es:List Ex,evAll ReOk es
 | []=>trivial
 | e::es=>⟨rEval_all e,rEval_allL es⟩
end
theorem rEval_c {e:Ex} {h:Heap} {vs:List Value} {A:Option Addr} {n c:Nat} {ms:List Meas} (u:IsE h e vs) (z:Szs e) (env:EnvS h A n c ms) :
  CallsU Tryz.prog 60 [.agg vs.toArray,.slice A n c] h fun r h' => EvR (evalV ms e) 1000000 r h' /\ Le h h' := by
 have u' := u
 obtain ⟨s,A0,c0,B,d,K,kc,rfl,_⟩:=u'.open
 apply ref17_Eval_ok
 refine (rChk_c u z).mono ?_
 rintro _ h1 ⟨rfl,hl1⟩
 unfold evalV
 refine ⟨_,rfl,Br.mk (fun q=> ?_) (fun q=> ?_)⟩
 ·have hne:chkV e 1≠0:=by simpa using q
  rw [if_neg hne]
  exact ⟨rfl,hl1⟩
 ·have h0:chkV e 1=0:=by simpa using q
  rw [if_pos h0]
  refine ((rEval_all e) 1 (IsE.mono hl1 _ _ u) z h0 (env.mono hl1)).mono ?_
  rintro v h2 ⟨hr,hl2⟩
  have hb:bnd 1<=1000000:=by decide
  have hr' := hr.widen hb
  obtain ⟨s5,A5,n5,c5,B5,m5,d5,er5,rfl,_⟩:=hr.shape
  exact ⟨_,_,_,_,_,_,_,_,rfl,hr', hl1.trans hl2⟩
structure QC where
 s:Bool
 A:Option Addr
 n:Nat
 c:Nat
 B:Option Addr
 m:Nat
 d:Nat
abbrev qv (x:QC):Value:= .agg #[.bool x.s,.slice x.A x.n x.c,.slice x.B x.m x.d]
abbrev pv (x y:QC):Value:= .agg #[.bool x.s,.slice x.A x.n x.c,.slice x.B x.m x.d,.bool y.s,.slice y.A y.n y.c,.slice y.B y.m y.d]
abbrev zP:Value:= .agg #[.bool false,.slice none 0 0,.slice none 0 0,.bool false,.slice none 0 0,.slice none 0 0]
def QB (h:Heap) (k:Nat) (q:Rat) (x:QC):Prop:=NmQ h x.s x.A x.n x.c x.B x.m x.d q/\x.n<=k/\x.m<=k
def PB (h:Heap) (k:Nat) (p:Rat×Rat) (x y:QC):Prop:=QB h k p.1 x/\QB h k p.2 y
theorem QB.mono {h h' : Heap} {k:Nat} {q:Rat} {x:QC} (u:QB h k q x) (l:Le h h'):QB h' k q x:=⟨u.1.mono l,u.2⟩
theorem QB.le {h:Heap} {k k' : Nat} {q:Rat} {x:QC} (u:QB h k q x) (l:k<=k'):QB h k' q x:=⟨u.1,Nat.le_trans u.2.1 l,Nat.le_trans u.2.2 l⟩
theorem PB.mono {h h' : Heap} {k:Nat} {p:Rat×Rat} {x y:QC} (u:PB h k p x y) (l:Le h h'):PB h' k p x y:=⟨u.1.mono l,u.2.mono l⟩
theorem PB.le {h:Heap} {k k' : Nat} {p:Rat×Rat} {x y:QC} (u:PB h k p x y) (l:k<=k'):PB h k' p x y:=⟨u.1.le l,u.2.le l⟩
def ptAdd (a b:Rat×Rat):Rat×Rat:=(a.1+b.1,a.2+b.2)
def ptSub (a b:Rat×Rat):Rat×Rat:=(a.1-b.1,a.2-b.2)
def ptScale (a:Rat×Rat) (r:Rat):Rat×Rat:=(a.1*r,a.2*r)
def ptDot (a b:Rat×Rat):Rat:=a.1*b.1+a.2*b.2
def ptCross (a b:Rat×Rat):Rat:=a.1*b.2-a.2*b.1
def ptOn (a b:Rat×Rat) (t:Rat):Rat×Rat:=ptAdd a (ptScale (ptSub b a) t)
def ptMeet (a b c d:Rat×Rat):Except Int (Rat×Rat):=if ptCross (ptSub b a) (ptSub d c)=0 then .error 10 else .ok (ptOn a b (ptCross (ptSub c a) (ptSub d c)/ptCross (ptSub b a) (ptSub d c)))
def ptFoot (p a b:Rat×Rat):Except Int (Rat×Rat):=if ptDot (ptSub b a) (ptSub b a)=0 then .error 10 else .ok (ptOn a b (ptDot (ptSub p a) (ptSub b a)/ptDot (ptSub b a) (ptSub b a)))
def ptMirror (p a b:Rat×Rat):Except Int (Rat×Rat):=match ptFoot p a b with
 | .error e=> .error e
 | .ok f=> .ok (ptSub (ptAdd f f) p)
def PtR (o:Except Int (Rat×Rat)) (k:Nat) (r:Value) (h' : Heap):Prop:=
 match o with
 | .ok p=> ∃ z z', r = .tuple #[pv z z', .int .i64 0]/\PB h' k p z z'
 | .error e=>r = .tuple #[zP,.int .i64 e]
theorem PtR.le {o:Except Int (Rat×Rat)} {k k' : Nat} {r:Value} {h:Heap} (u:PtR o k r h) (l:k<=k'):PtR o k' r h:=by
 cases o with
 | error e=>exact u
 | ok p=>
  obtain ⟨z,z', e,w⟩:=u
  exact ⟨z,z', e,w.le l⟩
theorem PtR.shape {o:Except Int (Rat×Rat)} {k:Nat} {r:Value} {h:Heap} (u:PtR o k r h) : ∃ (a0:Bool) (a1:Option Addr) (a2 a3:Nat) (a4:Option Addr) (a5 a6:Nat) (b0:Bool) (b1:Option Addr) (b2 b3:Nat) (b4:Option Addr) (b5 b6:Nat) (er:Int),r = .tuple #[.agg #[.bool a0,.slice a1 a2 a3,.slice a4 a5 a6,.bool b0,.slice b1 b2 b3,.slice b4 b5 b6],.int .i64 er]:=by
 cases o with
 | error e=>exact ⟨_,_,_,_,_,_,_,_,_,_,_,_,_,_,e,u⟩
 | ok p=>
  obtain ⟨z,z', e,_⟩:=u
  exact ⟨_,_,_,_,_,_,_,_,_,_,_,_,_,_,0,e⟩
def DivR (q p:Rat) (k:Nat) (r:Value) (h' : Heap):Prop:=(p=0/\r = .tuple #[.agg #[.bool false,.slice none 0 0,.slice none 0 0],.bool false])\/(p≠0/\ ∃ z,r = .tuple #[qv z,.bool true]/\QB h' k (q/p) z)
theorem pqadd_c {h:Heap} {k k' : Nat} {q p:Rat} {x y:QC} (u:QB h k q x) (w:QB h k' p y) (hk:k<=60000000) (hk' : k' <= 60000000):CallsU Tryz.prog 40 [qv x,qv y] h fun r h' => ∃ z,r=qv z/\QB h' (k+k' + 8) (q+p) z/\Le h h' := by
 obtain ⟨u1,u2,u3⟩:=u
 obtain ⟨w1,w2,w3⟩:=w
 refine (radd_b u1.is w1.is (by omega) (by omega) (by omega) (by omega)).mono ?_
 rintro _ h1 ⟨s,A,n,c,B,m,d,rfl,hN,a,b,hl⟩
 exact ⟨⟨s,A,n,c,B,m,d⟩,rfl,⟨hN,by simp only;omega,by simp only;omega⟩,hl⟩
theorem pqsub_c {h:Heap} {k k' : Nat} {q p:Rat} {x y:QC} (u:QB h k q x) (w:QB h k' p y) (hk:k<=60000000) (hk' : k' <= 60000000):CallsU Tryz.prog 198 [qv x,qv y] h fun r h' => ∃ z,r=qv z/\QB h' (k+k' + 8) (q-p) z/\Le h h' := by
 obtain ⟨u1,u2,u3⟩:=u
 obtain ⟨w1,w2,w3⟩:=w
 refine (rsub_c u1.is w1.is (by omega) (by omega) (by omega) (by omega)).mono ?_
 rintro _ h1 ⟨s,A,n,c,B,m,d,rfl,hN,a,b,hl⟩
 exact ⟨⟨s,A,n,c,B,m,d⟩,rfl,⟨hN,by simp only;omega,by simp only;omega⟩,hl⟩
theorem pqmul_c {h:Heap} {k k' : Nat} {q p:Rat} {x y:QC} (u:QB h k q x) (w:QB h k' p y) (hk:k<=60000000) (hk' : k' <= 60000000):CallsU Tryz.prog 199 [qv x,qv y] h fun r h' => ∃ z,r=qv z/\QB h' (k+k' + 8) (q*p) z/\Le h h' := by
 obtain ⟨u1,u2,u3⟩:=u
 obtain ⟨w1,w2,w3⟩:=w
 refine (rmul_c u1.is w1.is (by omega) (by omega) (by omega) (by omega)).mono ?_
 rintro _ h1 ⟨s,A,n,c,B,m,d,rfl,hN,a,b,hl⟩
 exact ⟨⟨s,A,n,c,B,m,d⟩,rfl,⟨hN,by simp only;omega,by simp only;omega⟩,hl⟩
theorem pqdiv_c {h:Heap} {k k' : Nat} {q p:Rat} {x y:QC} (u:QB h k q x) (w:QB h k' p y) (hk:k<=60000000) (hk' : k' <= 60000000):CallsU Tryz.prog 129 [qv x,qv y] h fun r h' => DivR q p (k+k' + 8) r h' /\ Le h h' := by
 obtain ⟨u1,u2,u3⟩:=u
 obtain ⟨w1,w2,w3⟩:=w
 refine (rdiv_c u1.is w1.is (by omega) (by omega) (by omega) (by omega)).mono ?_
 rintro _ h1 ⟨(⟨h0,rfl⟩ | ⟨h0,s,A,n,c,B,m,d,rfl,hN,a,b⟩),hl⟩
 ·exact ⟨Or.inl ⟨h0,rfl⟩,hl⟩
 ·exact ⟨Or.inr ⟨h0,⟨s,A,n,c,B,m,d⟩,rfl,hN,by simp only;omega,by simp only;omega⟩,hl⟩
theorem padd_c {h:Heap} {k k' : Nat} {p p' : Rat×Rat} {x y x' y' : QC} (u:PB h k p x y) (w:PB h k' p' x' y') (hk:k<=60000000) (hk' : k' <= 60000000):CallsU Tryz.prog 18 [pv x y,pv x' y'] h fun r h' => ∃ z z', r=pv z z' /\ PB h' (k+k' + 8) (ptAdd p p') z z' /\ Le h h' := by
 apply point_Add_ok
 refine (pqadd_c u.1 w.1 hk hk').mono ?_
 rintro _ h1 ⟨z,rfl,uz,l1⟩
 refine ⟨_,_,_,_,_,_,_,rfl,l1,(pqadd_c (u.2.mono l1) (w.2.mono l1) hk hk').mono ?_⟩
 rintro _ h2 ⟨z', rfl,uz', l2⟩
 exact ⟨_,_,_,_,_,_,_,rfl,z,z', rfl,⟨uz.mono l2,uz'⟩,l1.trans l2⟩
theorem psub_c {h:Heap} {k k' : Nat} {p p' : Rat×Rat} {x y x' y' : QC} (u:PB h k p x y) (w:PB h k' p' x' y') (hk:k<=60000000) (hk' : k' <= 60000000):CallsU Tryz.prog 128 [pv x y,pv x' y'] h fun r h' => ∃ z z', r=pv z z' /\ PB h' (k+k' + 8) (ptSub p p') z z' /\ Le h h' := by
 apply point_Sub_ok
 refine (pqsub_c u.1 w.1 hk hk').mono ?_
 rintro _ h1 ⟨z,rfl,uz,l1⟩
 refine ⟨_,_,_,_,_,_,_,rfl,l1,(pqsub_c (u.2.mono l1) (w.2.mono l1) hk hk').mono ?_⟩
 rintro _ h2 ⟨z', rfl,uz', l2⟩
 exact ⟨_,_,_,_,_,_,_,rfl,z,z', rfl,⟨uz.mono l2,uz'⟩,l1.trans l2⟩
theorem pscale_c {h:Heap} {k k' : Nat} {p:Rat×Rat} {r:Rat} {x y z0:QC} (u:PB h k p x y) (w:QB h k' r z0) (hk:k<=60000000) (hk' : k' <= 60000000):CallsU Tryz.prog 127 [pv x y,qv z0] h fun r' h' => ∃ z z', r' = pv z z' /\ PB h' (k+k' + 8) (ptScale p r) z z' /\ Le h h' := by
 apply point_Scale_ok
 refine (pqmul_c u.1 w hk hk').mono ?_
 rintro _ h1 ⟨z,rfl,uz,l1⟩
 refine ⟨_,_,_,_,_,_,_,rfl,l1,(pqmul_c (u.2.mono l1) (w.mono l1) hk hk').mono ?_⟩
 rintro _ h2 ⟨z', rfl,uz', l2⟩
 exact ⟨_,_,_,_,_,_,_,rfl,z,z', rfl,⟨uz.mono l2,uz'⟩,l1.trans l2⟩
theorem pdot_c {h:Heap} {k k' : Nat} {p p' : Rat×Rat} {x y x' y' : QC} (u:PB h k p x y) (w:PB h k' p' x' y') (hk:k+k' <= 50000000):CallsU Tryz.prog 131 [pv x y,pv x' y'] h fun r h' => ∃ z,r=qv z/\QB h' (2*k+2*k' + 24) (ptDot p p') z/\Le h h' := by
 apply point_Dot_ok
 refine (pqmul_c u.1 w.1 (by omega) (by omega)).mono ?_
 rintro _ h1 ⟨z,rfl,uz,l1⟩
 refine ⟨_,_,_,_,_,_,_,rfl,l1,(pqmul_c (u.2.mono l1) (w.2.mono l1) (by omega) (by omega)).mono ?_⟩
 rintro _ h2 ⟨z', rfl,uz', l2⟩
 refine ⟨_,_,_,_,_,_,_,rfl,(pqadd_c (uz.mono l2) uz' (by omega) (by omega)).mono ?_⟩
 rintro _ h3 ⟨z2,rfl,uz2,l3⟩
 exact ⟨_,_,_,_,_,_,_,rfl,z2,rfl,uz2.le (by omega),(l1.trans l2).trans l3⟩
theorem pcross_c {h:Heap} {k k' : Nat} {p p' : Rat×Rat} {x y x' y' : QC} (u:PB h k p x y) (w:PB h k' p' x' y') (hk:k+k' <= 50000000):CallsU Tryz.prog 130 [pv x y,pv x' y'] h fun r h' => ∃ z,r=qv z/\QB h' (2*k+2*k' + 24) (ptCross p p') z/\Le h h' := by
 apply point_Cross_ok
 refine (pqmul_c u.1 w.2 (by omega) (by omega)).mono ?_
 rintro _ h1 ⟨z,rfl,uz,l1⟩
 refine ⟨_,_,_,_,_,_,_,rfl,l1,(pqmul_c (u.2.mono l1) (w.1.mono l1) (by omega) (by omega)).mono ?_⟩
 rintro _ h2 ⟨z', rfl,uz', l2⟩
 refine ⟨_,_,_,_,_,_,_,rfl,(pqsub_c (uz.mono l2) uz' (by omega) (by omega)).mono ?_⟩
 rintro _ h3 ⟨z2,rfl,uz2,l3⟩
 exact ⟨_,_,_,_,_,_,_,rfl,z2,rfl,uz2.le (by omega),(l1.trans l2).trans l3⟩
theorem pon_c {h:Heap} {k k' : Nat} {a b:Rat×Rat} {t:Rat} {x y x' y' z0:QC} (u:PB h k a x y) (w:PB h k b x' y') (ut:QB h k' t z0) (hk:k<=10000000) (hk' : k' <= 30000000):CallsU Tryz.prog 73 [pv x y,pv x' y', qv z0] h fun r h' => ∃ z z', r=pv z z' /\ PB h' (3*k+k' + 24) (ptOn a b t) z z' /\ Le h h' := by
 apply point_On_ok
 refine (psub_c w u (by omega) (by omega)).mono ?_
 rintro _ h1 ⟨z1,z2,rfl,u1,l1⟩
 refine ⟨_,_,_,_,_,_,_,_,_,_,_,_,_,_,rfl,l1,(pscale_c u1 (ut.mono l1) (by omega) (by omega)).mono ?_⟩
 rintro _ h2 ⟨z3,z4,rfl,u2,l2⟩
 refine ⟨_,_,_,_,_,_,_,_,_,_,_,_,_,_,rfl,l2,(padd_c (u.mono (l1.trans l2)) u2 (by omega) (by omega)).mono ?_⟩
 rintro _ h3 ⟨z5,z6,rfl,u3,l3⟩
 exact ⟨_,_,_,_,_,_,_,_,_,_,_,_,_,_,rfl,z5,z6,rfl,u3.le (by omega),(l1.trans l2).trans l3⟩
theorem pfoot_c {h:Heap} {k:Nat} {p a b:Rat×Rat} {x y x' y' x2 y2:QC} (up:PB h k p x y) (ua:PB h k a x' y') (ub:PB h k b x2 y2) (hk:k<=500000):CallsU Tryz.prog 75 [pv x y,pv x' y', pv x2 y2] h fun r h' => PtR (ptFoot p a b) (32*k+1000) r h' /\ Le h h' := by
 apply point_Foot_ok
 refine (psub_c ub ua (by omega) (by omega)).mono ?_
 rintro _ h1 ⟨z1,z2,rfl,u1,l1⟩
 refine ⟨_,_,_,_,_,_,_,_,_,_,_,_,_,_,rfl,(psub_c (up.mono l1) (ua.mono l1) (by omega) (by omega)).mono ?_⟩
 rintro _ h2 ⟨z3,z4,rfl,u2,l2⟩
 refine ⟨_,_,_,_,_,_,_,_,_,_,_,_,_,_,rfl,l2,(pdot_c u2 (u1.mono l2) (by omega)).mono ?_⟩
 rintro _ h3 ⟨z5,rfl,u3,l3⟩
 refine ⟨_,_,_,_,_,_,_,rfl,l3,(pdot_c ((u1.mono l2).mono l3) ((u1.mono l2).mono l3) (by omega)).mono ?_⟩
 rintro _ h4 ⟨z6,rfl,u4,l4⟩
 refine ⟨_,_,_,_,_,_,_,rfl,(pqdiv_c (u3.mono l4) u4 (by omega) (by omega)).mono ?_⟩
 rintro _ h5 ⟨hd,l5⟩
 have l15:=(((l1.trans l2).trans l3).trans l4).trans l5
 unfold ptFoot
 rcases hd with ⟨h0,rfl⟩ | ⟨h0,z7,rfl,u5⟩
 ·refine ⟨_,_,_,_,_,_,_,_,rfl,Br.mk (fun _=> ?_) (fun q=>by cases q)⟩
  rw [if_pos h0]
  exact ⟨rfl,l15⟩
 ·refine ⟨_,_,_,_,_,_,_,_,rfl,Br.mk (fun q=>by cases q) (fun _=>(pon_c (ua.mono l15) (ub.mono l15) u5 (by omega) (by omega)).mono ?_)⟩
  rintro _ h6 ⟨z8,z9,rfl,u6,l6⟩
  rw [if_neg h0]
  exact ⟨_,_,_,_,_,_,_,_,_,_,_,_,_,_,rfl,⟨z8,z9,rfl,u6.le (by omega)⟩,l15.trans l6⟩
theorem pmirror_c {h:Heap} {k:Nat} {p a b:Rat×Rat} {x y x' y' x2 y2:QC} (up:PB h k p x y) (ua:PB h k a x' y') (ub:PB h k b x2 y2) (hk:k<=500000):CallsU Tryz.prog 76 [pv x y,pv x' y', pv x2 y2] h fun r h' => PtR (ptMirror p a b) (65*k+2100) r h' /\ Le h h' := by
 apply point_Mirror_ok
 refine (pfoot_c up ua ub hk).mono ?_
 rintro _ h1 ⟨hf,l1⟩
 unfold ptMirror
 cases ho:ptFoot p a b with
 | error e=>
  rw [ho] at hf
  have he:e=10:=by
   unfold ptFoot at ho
   split at ho
   ·cases ho;rfl
   ·cases ho
  subst he
  cases hf
  exact ⟨_,_,_,_,_,_,_,_,_,_,_,_,_,_,_,rfl,Br.mk (fun _=>⟨rfl,l1⟩) (fun q=>by exact absurd q (by decide))⟩
 | ok f=>
  rw [ho] at hf
  obtain ⟨z1,z2,rfl,u1⟩:=hf
  refine ⟨_,_,_,_,_,_,_,_,_,_,_,_,_,_,_,rfl,Br.mk (fun q=>by exact absurd q (by decide)) (fun _=>(padd_c u1 u1 (by omega) (by omega)).mono ?_)⟩
  rintro _ h2 ⟨z3,z4,rfl,u2,l2⟩
  refine ⟨_,_,_,_,_,_,_,_,_,_,_,_,_,_,rfl,l2,(psub_c u2 (up.mono (l1.trans l2)) (by omega) (by omega)).mono ?_⟩
  rintro _ h3 ⟨z5,z6,rfl,u3,l3⟩
  exact ⟨_,_,_,_,_,_,_,_,_,_,_,_,_,_,rfl,⟨z5,z6,rfl,u3.le (by omega)⟩,(l1.trans l2).trans l3⟩
theorem r8qadd_c {h:Heap} {k k' : Nat} {q p:Rat} {x y:QC} (u:QB h k q x) (w:QB h k' p y) (hk:k<=60000000) (hk' : k' <= 60000000):CallsU Tryz.prog 68 [qv x,qv y] h fun r h' => ∃ z,r=qv z/\QB h' (k+k' + 8) (q+p) z/\Le h h' := by
 obtain ⟨u1,u2,u3⟩:=u
 obtain ⟨w1,w2,w3⟩:=w
 refine (r3add_b u1.is w1.is (by omega) (by omega) (by omega) (by omega)).mono ?_
 rintro _ h1 ⟨s,A,n,c,B,m,d,rfl,hN,a,b,hl⟩
 exact ⟨⟨s,A,n,c,B,m,d⟩,rfl,⟨hN,by simp only;omega,by simp only;omega⟩,hl⟩
theorem r8qsub_c {h:Heap} {k k' : Nat} {q p:Rat} {x y:QC} (u:QB h k q x) (w:QB h k' p y) (hk:k<=60000000) (hk' : k' <= 60000000):CallsU Tryz.prog 236 [qv x,qv y] h fun r h' => ∃ z,r=qv z/\QB h' (k+k' + 8) (q-p) z/\Le h h' := by
 obtain ⟨u1,u2,u3⟩:=u
 obtain ⟨w1,w2,w3⟩:=w
 refine (r3sub_c u1.is w1.is (by omega) (by omega) (by omega) (by omega)).mono ?_
 rintro _ h1 ⟨s,A,n,c,B,m,d,rfl,hN,a,b,hl⟩
 exact ⟨⟨s,A,n,c,B,m,d⟩,rfl,⟨hN,by simp only;omega,by simp only;omega⟩,hl⟩
theorem r8qmul_c {h:Heap} {k k' : Nat} {q p:Rat} {x y:QC} (u:QB h k q x) (w:QB h k' p y) (hk:k<=60000000) (hk' : k' <= 60000000):CallsU Tryz.prog 237 [qv x,qv y] h fun r h' => ∃ z,r=qv z/\QB h' (k+k' + 8) (q*p) z/\Le h h' := by
 obtain ⟨u1,u2,u3⟩:=u
 obtain ⟨w1,w2,w3⟩:=w
 refine (r3mul_c u1.is w1.is (by omega) (by omega) (by omega) (by omega)).mono ?_
 rintro _ h1 ⟨s,A,n,c,B,m,d,rfl,hN,a,b,hl⟩
 exact ⟨⟨s,A,n,c,B,m,d⟩,rfl,⟨hN,by simp only;omega,by simp only;omega⟩,hl⟩
theorem r8qdiv_c {h:Heap} {k k' : Nat} {q p:Rat} {x y:QC} (u:QB h k q x) (w:QB h k' p y) (hk:k<=60000000) (hk' : k' <= 60000000):CallsU Tryz.prog 182 [qv x,qv y] h fun r h' => DivR q p (k+k' + 8) r h' /\ Le h h' := by
 obtain ⟨u1,u2,u3⟩:=u
 obtain ⟨w1,w2,w3⟩:=w
 refine (r3divg_c u1.is w1.is (by omega) (by omega) (by omega) (by omega)).mono ?_
 rintro _ h1 ⟨(⟨h0,rfl⟩ | ⟨h0,s,A,n,c,B,m,d,rfl,hN,a,b⟩),hl⟩
 ·exact ⟨Or.inl ⟨h0,rfl⟩,hl⟩
 ·exact ⟨Or.inr ⟨h0,⟨s,A,n,c,B,m,d⟩,rfl,hN,by simp only;omega,by simp only;omega⟩,hl⟩
theorem r8add_c {h:Heap} {k k' : Nat} {p p' : Rat×Rat} {x y x' y' : QC} (u:PB h k p x y) (w:PB h k' p' x' y') (hk:k<=60000000) (hk' : k' <= 60000000):CallsU Tryz.prog 35 [pv x y,pv x' y'] h fun r h' => ∃ z z', r=pv z z' /\ PB h' (k+k' + 8) (ptAdd p p') z z' /\ Le h h' := by
 apply ref08_Add_ok
 refine (r8qadd_c u.1 w.1 hk hk').mono ?_
 rintro _ h1 ⟨z,rfl,uz,l1⟩
 refine ⟨_,_,_,_,_,_,_,rfl,l1,(r8qadd_c (u.2.mono l1) (w.2.mono l1) hk hk').mono ?_⟩
 rintro _ h2 ⟨z', rfl,uz', l2⟩
 exact ⟨_,_,_,_,_,_,_,rfl,z,z', rfl,⟨uz.mono l2,uz'⟩,l1.trans l2⟩
theorem r8sub_c {h:Heap} {k k' : Nat} {p p' : Rat×Rat} {x y x' y' : QC} (u:PB h k p x y) (w:PB h k' p' x' y') (hk:k<=60000000) (hk' : k' <= 60000000):CallsU Tryz.prog 181 [pv x y,pv x' y'] h fun r h' => ∃ z z', r=pv z z' /\ PB h' (k+k' + 8) (ptSub p p') z z' /\ Le h h' := by
 apply ref08_Sub_ok
 refine (r8qsub_c u.1 w.1 hk hk').mono ?_
 rintro _ h1 ⟨z,rfl,uz,l1⟩
 refine ⟨_,_,_,_,_,_,_,rfl,l1,(r8qsub_c (u.2.mono l1) (w.2.mono l1) hk hk').mono ?_⟩
 rintro _ h2 ⟨z', rfl,uz', l2⟩
 exact ⟨_,_,_,_,_,_,_,rfl,z,z', rfl,⟨uz.mono l2,uz'⟩,l1.trans l2⟩
theorem r8scale_c {h:Heap} {k k' : Nat} {p:Rat×Rat} {r:Rat} {x y z0:QC} (u:PB h k p x y) (w:QB h k' r z0) (hk:k<=60000000) (hk' : k' <= 60000000):CallsU Tryz.prog 180 [pv x y,qv z0] h fun r' h' => ∃ z z', r' = pv z z' /\ PB h' (k+k' + 8) (ptScale p r) z z' /\ Le h h' := by
 apply ref08_Scale_ok
 refine (r8qmul_c u.1 w hk hk').mono ?_
 rintro _ h1 ⟨z,rfl,uz,l1⟩
 refine ⟨_,_,_,_,_,_,_,rfl,l1,(r8qmul_c (u.2.mono l1) (w.mono l1) hk hk').mono ?_⟩
 rintro _ h2 ⟨z', rfl,uz', l2⟩
 exact ⟨_,_,_,_,_,_,_,rfl,z,z', rfl,⟨uz.mono l2,uz'⟩,l1.trans l2⟩
theorem r8dot_c {h:Heap} {k k' : Nat} {p p' : Rat×Rat} {x y x' y' : QC} (u:PB h k p x y) (w:PB h k' p' x' y') (hk:k+k' <= 50000000):CallsU Tryz.prog 184 [pv x y,pv x' y'] h fun r h' => ∃ z,r=qv z/\QB h' (2*k+2*k' + 24) (ptDot p p') z/\Le h h' := by
 apply ref08_Dot_ok
 refine (r8qmul_c u.1 w.1 (by omega) (by omega)).mono ?_
 rintro _ h1 ⟨z,rfl,uz,l1⟩
 refine ⟨_,_,_,_,_,_,_,rfl,l1,(r8qmul_c (u.2.mono l1) (w.2.mono l1) (by omega) (by omega)).mono ?_⟩
 rintro _ h2 ⟨z', rfl,uz', l2⟩
 refine ⟨_,_,_,_,_,_,_,rfl,(r8qadd_c (uz.mono l2) uz' (by omega) (by omega)).mono ?_⟩
 rintro _ h3 ⟨z2,rfl,uz2,l3⟩
 exact ⟨_,_,_,_,_,_,_,rfl,z2,rfl,uz2.le (by omega),(l1.trans l2).trans l3⟩
theorem r8cross_c {h:Heap} {k k' : Nat} {p p' : Rat×Rat} {x y x' y' : QC} (u:PB h k p x y) (w:PB h k' p' x' y') (hk:k+k' <= 50000000):CallsU Tryz.prog 183 [pv x y,pv x' y'] h fun r h' => ∃ z,r=qv z/\QB h' (2*k+2*k' + 24) (ptCross p p') z/\Le h h' := by
 apply ref08_Cross_ok
 refine (r8qmul_c u.1 w.2 (by omega) (by omega)).mono ?_
 rintro _ h1 ⟨z,rfl,uz,l1⟩
 refine ⟨_,_,_,_,_,_,_,rfl,l1,(r8qmul_c (u.2.mono l1) (w.1.mono l1) (by omega) (by omega)).mono ?_⟩
 rintro _ h2 ⟨z', rfl,uz', l2⟩
 refine ⟨_,_,_,_,_,_,_,rfl,(r8qsub_c (uz.mono l2) uz' (by omega) (by omega)).mono ?_⟩
 rintro _ h3 ⟨z2,rfl,uz2,l3⟩
 exact ⟨_,_,_,_,_,_,_,rfl,z2,rfl,uz2.le (by omega),(l1.trans l2).trans l3⟩
theorem r8on_c {h:Heap} {k k' : Nat} {a b:Rat×Rat} {t:Rat} {x y x' y' z0:QC} (u:PB h k a x y) (w:PB h k b x' y') (ut:QB h k' t z0) (hk:k<=10000000) (hk' : k' <= 30000000):CallsU Tryz.prog 109 [pv x y,pv x' y', qv z0] h fun r h' => ∃ z z', r=pv z z' /\ PB h' (3*k+k' + 24) (ptOn a b t) z z' /\ Le h h' := by
 apply ref08_On_ok
 refine (r8sub_c w u (by omega) (by omega)).mono ?_
 rintro _ h1 ⟨z1,z2,rfl,u1,l1⟩
 refine ⟨_,_,_,_,_,_,_,_,_,_,_,_,_,_,rfl,l1,(r8scale_c u1 (ut.mono l1) (by omega) (by omega)).mono ?_⟩
 rintro _ h2 ⟨z3,z4,rfl,u2,l2⟩
 refine ⟨_,_,_,_,_,_,_,_,_,_,_,_,_,_,rfl,l2,(r8add_c (u.mono (l1.trans l2)) u2 (by omega) (by omega)).mono ?_⟩
 rintro _ h3 ⟨z5,z6,rfl,u3,l3⟩
 exact ⟨_,_,_,_,_,_,_,_,_,_,_,_,_,_,rfl,z5,z6,rfl,u3.le (by omega),(l1.trans l2).trans l3⟩
theorem r8foot_c {h:Heap} {k:Nat} {p a b:Rat×Rat} {x y x' y' x2 y2:QC} (up:PB h k p x y) (ua:PB h k a x' y') (ub:PB h k b x2 y2) (hk:k<=500000):CallsU Tryz.prog 111 [pv x y,pv x' y', pv x2 y2] h fun r h' => PtR (ptFoot p a b) (32*k+1000) r h' /\ Le h h' := by
 apply ref08_Foot_ok
 refine (r8sub_c ub ua (by omega) (by omega)).mono ?_
 rintro _ h1 ⟨z1,z2,rfl,u1,l1⟩
 refine ⟨_,_,_,_,_,_,_,_,_,_,_,_,_,_,rfl,(r8sub_c (up.mono l1) (ua.mono l1) (by omega) (by omega)).mono ?_⟩
 rintro _ h2 ⟨z3,z4,rfl,u2,l2⟩
 refine ⟨_,_,_,_,_,_,_,_,_,_,_,_,_,_,rfl,l2,(r8dot_c u2 (u1.mono l2) (by omega)).mono ?_⟩
 rintro _ h3 ⟨z5,rfl,u3,l3⟩
 refine ⟨_,_,_,_,_,_,_,rfl,l3,(r8dot_c ((u1.mono l2).mono l3) ((u1.mono l2).mono l3) (by omega)).mono ?_⟩
 rintro _ h4 ⟨z6,rfl,u4,l4⟩
 refine ⟨_,_,_,_,_,_,_,rfl,(r8qdiv_c (u3.mono l4) u4 (by omega) (by omega)).mono ?_⟩
 rintro _ h5 ⟨hd,l5⟩
 have l15:=(((l1.trans l2).trans l3).trans l4).trans l5
 unfold ptFoot
 rcases hd with ⟨h0,rfl⟩ | ⟨h0,z7,rfl,u5⟩
 ·refine ⟨_,_,_,_,_,_,_,_,rfl,Br.mk (fun _=> ?_) (fun q=>by cases q)⟩
  rw [if_pos h0]
  exact ⟨rfl,l15⟩
 ·refine ⟨_,_,_,_,_,_,_,_,rfl,Br.mk (fun q=>by cases q) (fun _=>(r8on_c (ua.mono l15) (ub.mono l15) u5 (by omega) (by omega)).mono ?_)⟩
  rintro _ h6 ⟨z8,z9,rfl,u6,l6⟩
  rw [if_neg h0]
  exact ⟨_,_,_,_,_,_,_,_,_,_,_,_,_,_,rfl,⟨z8,z9,rfl,u6.le (by omega)⟩,l15.trans l6⟩
theorem r8mirror_c {h:Heap} {k:Nat} {p a b:Rat×Rat} {x y x' y' x2 y2:QC} (up:PB h k p x y) (ua:PB h k a x' y') (ub:PB h k b x2 y2) (hk:k<=500000):CallsU Tryz.prog 112 [pv x y,pv x' y', pv x2 y2] h fun r h' => PtR (ptMirror p a b) (65*k+2100) r h' /\ Le h h' := by
 apply ref08_Mirror_ok
 refine (r8foot_c up ua ub hk).mono ?_
 rintro _ h1 ⟨hf,l1⟩
 unfold ptMirror
 cases ho:ptFoot p a b with
 | error e=>
  rw [ho] at hf
  have he:e=10:=by
   unfold ptFoot at ho
   split at ho
   ·cases ho;rfl
   ·cases ho
  subst he
  cases hf
  exact ⟨_,_,_,_,_,_,_,_,_,_,_,_,_,_,_,rfl,Br.mk (fun _=>⟨rfl,l1⟩) (fun q=>by exact absurd q (by decide))⟩
 | ok f=>
  rw [ho] at hf
  obtain ⟨z1,z2,rfl,u1⟩:=hf
  refine ⟨_,_,_,_,_,_,_,_,_,_,_,_,_,_,_,rfl,Br.mk (fun q=>by exact absurd q (by decide)) (fun _=>(r8add_c u1 u1 (by omega) (by omega)).mono ?_)⟩
  rintro _ h2 ⟨z3,z4,rfl,u2,l2⟩
  refine ⟨_,_,_,_,_,_,_,_,_,_,_,_,_,_,rfl,l2,(r8sub_c u2 (up.mono (l1.trans l2)) (by omega) (by omega)).mono ?_⟩
  rintro _ h3 ⟨z5,z6,rfl,u3,l3⟩
  exact ⟨_,_,_,_,_,_,_,_,_,_,_,_,_,_,rfl,⟨z5,z6,rfl,u3.le (by omega)⟩,(l1.trans l2).trans l3⟩
theorem meet_c {h:Heap} {k:Nat} {a b c d:Rat×Rat} {xa ya xb yb xc yc xd yd:QC} (ua:PB h k a xa ya) (ub:PB h k b xb yb) (uc:PB h k c xc yc) (ud:PB h k d xd yd) (hk:k<=500000):CallsU Tryz.prog 74 [pv xa ya,pv xb yb,pv xc yc,pv xd yd] h fun r h' => PtR (ptMeet a b c d) (32*k+1000) r h' /\ Le h h' := by
 apply point_Meet_ok
 refine (psub_c ud uc (by omega) (by omega)).mono ?_
 rintro _ h1 ⟨z1,z2,rfl,u1,l1⟩
 refine ⟨_,_,_,_,_,_,_,_,_,_,_,_,_,_,rfl,(psub_c (uc.mono l1) (ua.mono l1) (by omega) (by omega)).mono ?_⟩
 rintro _ h2 ⟨z3,z4,rfl,u2,l2⟩
 refine ⟨_,_,_,_,_,_,_,_,_,_,_,_,_,_,rfl,l2,(pcross_c u2 (u1.mono l2) (by omega)).mono ?_⟩
 rintro _ h3 ⟨z5,rfl,u3,l3⟩
 have l13:=(l1.trans l2).trans l3
 refine ⟨_,_,_,_,_,_,_,rfl,l3,(psub_c (ub.mono l13) (ua.mono l13) (by omega) (by omega)).mono ?_⟩
 rintro _ h4 ⟨z6,z7,rfl,u4,l4⟩
 refine ⟨_,_,_,_,_,_,_,_,_,_,_,_,_,_,rfl,l4,(pcross_c u4 (u1.mono ((l2.trans l3).trans l4)) (by omega)).mono ?_⟩
 rintro _ h5 ⟨z8,rfl,u5,l5⟩
 refine ⟨_,_,_,_,_,_,_,rfl,(pqdiv_c (u3.mono (l4.trans l5)) u5 (by omega) (by omega)).mono ?_⟩
 rintro _ h6 ⟨hd,l6⟩
 have l16:=((l13.trans l4).trans l5).trans l6
 unfold ptMeet
 rcases hd with ⟨h0,rfl⟩ | ⟨h0,z9,rfl,u6⟩
 ·refine ⟨_,_,_,_,_,_,_,_,rfl,Br.mk (fun _=> ?_) (fun q=>by cases q)⟩
  rw [if_pos h0]
  exact ⟨rfl,l16⟩
 ·refine ⟨_,_,_,_,_,_,_,_,rfl,Br.mk (fun q=>by cases q) (fun _=>(pon_c (ua.mono l16) (ub.mono l16) u6 (by omega) (by omega)).mono ?_)⟩
  rintro _ h7 ⟨w1,w2,rfl,u7,l7⟩
  rw [if_neg h0]
  exact ⟨_,_,_,_,_,_,_,_,_,_,_,_,_,_,rfl,⟨w1,w2,rfl,u7.le (by omega)⟩,l16.trans l7⟩
theorem rmeet_c {h:Heap} {k:Nat} {a b c d:Rat×Rat} {xa ya xb yb xc yc xd yd:QC} (ua:PB h k a xa ya) (ub:PB h k b xb yb) (uc:PB h k c xc yc) (ud:PB h k d xd yd) (hk:k<=500000):CallsU Tryz.prog 110 [pv xa ya,pv xb yb,pv xc yc,pv xd yd] h fun r h' => PtR (ptMeet a b c d) (32*k+1000) r h' /\ Le h h' := by
 apply ref08_Meet_ok
 refine (r8sub_c uc ua (by omega) (by omega)).mono ?_
 rintro _ h1 ⟨z1,z2,rfl,u1,l1⟩
 refine ⟨_,_,_,_,_,_,_,_,_,_,_,_,_,_,rfl,l1,(r8sub_c (ud.mono l1) (uc.mono l1) (by omega) (by omega)).mono ?_⟩
 rintro _ h2 ⟨z3,z4,rfl,u2,l2⟩
 refine ⟨_,_,_,_,_,_,_,_,_,_,_,_,_,_,rfl,l2,(r8cross_c (u1.mono l2) u2 (by omega)).mono ?_⟩
 rintro _ h3 ⟨z5,rfl,u3,l3⟩
 have l13:=(l1.trans l2).trans l3
 refine ⟨_,_,_,_,_,_,_,rfl,l3,(r8sub_c (ub.mono l13) (ua.mono l13) (by omega) (by omega)).mono ?_⟩
 rintro _ h4 ⟨z6,z7,rfl,u4,l4⟩
 refine ⟨_,_,_,_,_,_,_,_,_,_,_,_,_,_,rfl,l4,(r8sub_c (ud.mono (l13.trans l4)) (uc.mono (l13.trans l4)) (by omega) (by omega)).mono ?_⟩
 rintro _ h4' ⟨z6', z7', rfl,u4', l4'⟩
 refine ⟨_,_,_,_,_,_,_,_,_,_,_,_,_,_,rfl,(r8cross_c (u4.mono l4') u4' (by omega)).mono ?_⟩
 rintro _ h5 ⟨z8,rfl,u5,l5⟩
 refine ⟨_,_,_,_,_,_,_,rfl,(r8qdiv_c (u3.mono ((l4.trans l4').trans l5)) u5 (by omega) (by omega)).mono ?_⟩
 rintro _ h6 ⟨hd,l6⟩
 have l16:=(((l13.trans l4).trans l4').trans l5).trans l6
 unfold ptMeet
 rcases hd with ⟨h0,rfl⟩ | ⟨h0,z9,rfl,u6⟩
 ·refine ⟨_,_,_,_,_,_,_,_,rfl,Br.mk (fun _=> ?_) (fun q=>by cases q)⟩
  rw [if_pos h0]
  exact ⟨rfl,l16⟩
 ·refine ⟨_,_,_,_,_,_,_,_,rfl,Br.mk (fun q=>by cases q) (fun _=>(r8on_c (ua.mono l16) (ub.mono l16) u6 (by omega) (by omega)).mono ?_)⟩
  rintro _ h7 ⟨w1,w2,rfl,u7,l7⟩
  rw [if_neg h0]
  exact ⟨_,_,_,_,_,_,_,_,_,_,_,_,_,_,rfl,⟨w1,w2,rfl,u7.le (by omega)⟩,l16.trans l7⟩
theorem exact_c {h:Heap} {k k' : Nat} {p:Rat×Rat} {x y x' y' : QC} (u:PB h k p x y) (w:PB h k' p x' y') (hk:k<=100000000):CallsU Tryz.prog 33 [pv x y,pv x' y'] h fun r h' => r = .bool true/\h=h' := by
 apply ref08_Exact_ok
 obtain ⟨⟨a1,a2,a3⟩,⟨b1,b2,b3⟩⟩:=u
 obtain ⟨⟨c1,c2,c3⟩,⟨d1,d2,d3⟩⟩:=w
 refine (rSameQ_c a1 c1 (by omega) (by omega)).mono ?_
 rintro _ _ ⟨rfl,rfl⟩
 refine ⟨_,rfl,Br.mk (fun _=>(rSameQ_c b1 d1 (by omega) (by omega)).mono ?_) (fun q=>by cases q)⟩
 rintro _ _ ⟨rfl,rfl⟩
 exact ⟨_,rfl,rfl,rfl⟩
structure Nmd where
 name:List UInt8
 pos:Rat×Rat
abbrev npL (nm:List UInt8) (x y:QC):List Value:=[sv nm,.bool x.s,.slice x.A x.n x.c,.slice x.B x.m x.d,.bool y.s,.slice y.A y.n y.c,.slice y.B y.m y.d]
def NCs (h:Heap) (ps:List Nmd) (cs:List Value):Prop:= ∀ i p,ps[i]?=some p-> ∃ x y,(cs.drop (i*7)).take 7=npL p.name x y/\PB h 25 p.pos x y
theorem NCs.mono {h h' : Heap} {ps:List Nmd} {cs:List Value} (u:NCs h ps cs) (l:Le h h'):NCs h' ps cs:=fun i p hp=>
 let ⟨x,y,e,w⟩:=u i p hp
 ⟨x,y,e,w.mono l⟩
structure NPs (h:Heap) (A:Option Addr) (n c:Nat) (ps:List Nmd):Prop where
 len:n=ps.length
 cap:n<=c
 mem:ps≠[]-> ∃ (ad:Addr) (b:Blk),A=some ad/\ad.spot=none/\h ad.block=some b/\NCs h ps (b.cells.drop ad.off)
theorem NPs.mono {h h' : Heap} {A:Option Addr} {n c:Nat} {ps:List Nmd} (u:NPs h A n c ps) (l:Le h h'):NPs h' A n c ps:=
 ⟨u.len,u.cap,fun hn=>let ⟨ad,b,a1,a2,a3,a4⟩:=u.mem hn;⟨ad,b,a1,a2,l _ _ a3,a4.mono l⟩⟩
theorem NPs.get {h:Heap} {A:Option Addr} {n c:Nat} {ps:List Nmd} (u:NPs h A n c ps) {i:Nat} {p:Nmd} (hp:ps[i]?=some p) :
  ∃ ad x y,A=some ad/\LdN h (ad.add (i*7)) (npL p.name x y)/\PB h 25 p.pos x y:=by
 obtain ⟨ad,b,a1,a2,a3,a4⟩:=u.mem (fun q=>by rw [q] at hp;simp at hp)
 obtain ⟨x,y,e,w⟩:=a4 i p hp
 rw [List.drop_drop] at e
 exact ⟨ad,x,y,a1,LdN_of a2 a3 rfl e,w⟩
def posV (ps:List Nmd) (nm:List UInt8):Option (Rat×Rat):=(ps.find? fun p=>p.name==nm).map (·.pos)
theorem posV_drop (ps:List Nmd) (nm:List UInt8) (k:Nat) (h : ∀ j x,j<k->ps[j]?=some x->x.name≠nm):posV ps nm=posV (ps.drop k) nm:=by
 induction k generalizing ps with
 | zero=>rfl
 | succ k ih=>
  cases ps with
  | nil=>rfl
  | cons y r=>
   have h0:=h 0 y (by omega) rfl
   have:posV (y::r) nm=posV r nm:=by unfold posV;rw [List.find?_cons_of_neg (by simpa using h0)]
   rw [this,ih r fun j x hj hx=>h (j+1) x (by omega) (by simpa using hx)]
   rfl
theorem drFind_c {h:Heap} {A:Option Addr} {n c:Nat} {ps:List Nmd} (u:NPs h A n c ps) (hn:n<=1000000) {nm:List UInt8} {p:Rat×Rat} (hp:posV ps nm=some p) :
  CallsU Tryz.prog 72 [.slice A n c,sv nm] h fun r h' => ∃ x y,r=pv x y/\PB h 25 p x y/\h=h' := by
 apply draft_find_ok
 have hlen:=u.len
 refine ⟨fun m i _ _ _ _ _ _ _ _ _ _ _ _ _ _ h' => ∃ k,k<=ps.length/\m=ps.length-k/\i=(k:Int)/\h=h' /\ ∀ j s,j<k->ps[j]?=some s->s.name≠nm,⟨ps.length,0,by omega,by omega,rfl,rfl,fun j s hj=>by omega⟩, ?_⟩
 rintro m _ _ _ _ _ _ _ _ _ _ _ _ _ _ _ _ ⟨k,hk,rfl,rfl,rfl,hall⟩
 refine Br.mk (fun q=> ?_) (fun q=> ?_)
 ·have hlt:k<ps.length:=by have:=of_decide_eq_true q;omega
  obtain ⟨s,hs⟩ : ∃ s,ps[k]?=some s:=⟨_,List.getElem?_eq_getElem hlt⟩
  obtain ⟨ad,x,y,eA,hld,w⟩:=u.get hs
  refine ⟨ad,eA,by omega,by omega,_,_,_,_,_,_,_,_,_,_,_,_,_,_,_,by rw [Int.toNat_natCast];exact hld, ?_⟩
  rw [bytes_toList,bytes_toList]
  refine Br.mk (fun q2=> ?_) (fun q2=> ?_)
  ·have e:=beq_iff_eq.1 q2
   rw [posV_drop ps nm k hall,List.drop_eq_getElem_cons hlt] at hp
   have ex:ps[k]=s:=by rw [List.getElem?_eq_getElem hlt] at hs;exact Option.some.inj hs
   unfold posV at hp
   rw [ex,List.find?_cons_of_pos (by simpa using e)] at hp
   cases hp
   exact ⟨x,y,rfl,w,rfl⟩
  ·rintro _ rfl
   refine ⟨ps.length-(k+1),by omega,k+1,by omega,rfl,wi (by omega) (by omega),rfl,fun j z hj hz=> ?_⟩
   rcases Nat.lt_succ_iff_lt_or_eq.1 hj with q | q
   ·exact hall j z q hz
   ·subst q
    rw [hs] at hz
    cases hz
    exact beq_eq_false_iff_ne.1 q2
 ·exfalso
  have hk' : k=ps.length:=by have:=of_decide_eq_false q;omega
  rw [posV_drop ps nm k hall,hk', List.drop_length] at hp
  cases hp
def tlV (q:Rat):Bool:=decide (200<(Lib.decDigits q.num.natAbs).length)||decide (200<(Lib.decDigits q.den).length)
theorem drLong_c {h:Heap} {k:Nat} {q:Rat} {x:QC} (u:QB h k q x) (hk:k<=4000000000) (tb:Tab h):CallsU Tryz.prog 38 [qv x] h fun r h' => r = .bool (tlV q)/\Le h h' := by
 obtain ⟨⟨⟨u1,_⟩,u2⟩,a,b⟩:=u
 apply draft_tooLong_ok
 refine (textT_c u1.is (by omega) tb).mono ?_
 rintro _ h1 ⟨rfl,l1⟩
 unfold tlV
 refine ⟨_,rfl, ?_⟩
 rw [ba_size]
 refine Br.mk (fun q1=> ?_) (fun q1=>(textT_c (u2.mono l1).is (by omega) (tb.mono l1)).mono ?_)
 ·have:=of_decide_eq_true q1
  rw [decide_eq_true (by omega)]
  exact ⟨rfl,l1⟩
 ·have h3:=of_decide_eq_false q1
  rintro _ h2 ⟨rfl,l2⟩
  refine ⟨_,rfl, ?_,l1.trans l2⟩
  rw [ba_size,decide_eq_false (show ¬ 200<(Lib.decDigits q.num.natAbs).length by omega),Bool.false_or]
  congr 1
  rw [Bool.eq_iff_iff,decide_eq_true_eq,decide_eq_true_eq]
  omega
theorem pow200:(10:Nat)^200<=B32^21:=by decide +kernel
theorem NmN.short {h:Heap} {A:Option Addr} {n c v:Nat} (u:NmN h A n c v) (hv:(Lib.decDigits v).length<=200):n<=21:=by
 obtain ⟨xs,u1,rfl,hN⟩:=u
 have hlen:xs.length=n:=u1.1
 rw [<- hlen]
 refine nrm_len hN ?_
 rw [dec_length] at hv
 have h1:=Lib.lt_pow_nDigits (val xs)
 have h2:(10:Nat)^Lib.nDigits (val xs)<=10^200:=Nat.pow_le_pow_right (by decide) hv
 have h3:=pow200
 omega
theorem QB.short {h:Heap} {k:Nat} {q:Rat} {x:QC} (u:QB h k q x) (hq:tlV q=false):QB h 25 q x:=by
 obtain ⟨⟨⟨u1,u0⟩,u2⟩,a,b⟩:=u
 unfold tlV at hq
 rw [Bool.or_eq_false_iff,decide_eq_false_iff_not,decide_eq_false_iff_not] at hq
 have h1:=u1.short (by omega)
 have h2:=u2.short (by omega)
 exact ⟨⟨⟨u1,u0⟩,u2⟩,by omega,by omega⟩
def numsV (ms:List Meas):List Ex->Except Int (List Rat)
 | []=> .ok []
 | e::es=>match evalV ms e with
  | .error er=> .error er
  | .ok q=>catR [q] (numsV ms es)
def placeV (k:Int) (ps:List (Rat×Rat)) (qs:List Rat):Except Int (Rat×Rat):=
 let p:=fun i=>ps.getD i (0,0)
 let q:=fun i=>qs.getD i 0
 if k=1 then .ok (q 0,q 1) else if k=2 then .ok (ptAdd (p 0) (q 0,q 1)) else if k=3 then .ok (ptOn (p 0) (p 1) (q 0)) else if k=4 then ptMeet (p 0) (p 1) (p 2) (p 3) else if k=5 then ptFoot (p 0) (p 1) (p 2) else ptMirror (p 0) (p 1) (p 2)
def consV (ms:List Meas) (ps:List Nmd) (s:Stp):Except Int (Rat×Rat):=
 match numsV ms s.nums with
 | .error e=> .error e
 | .ok qs=>placeV s.kind (s.frm.map fun nm=>(posV ps nm).getD (0,0)) qs
theorem numsV_drop (ms:List Meas) {es:List Ex} {j:Nat} {e:Ex} (he:es[j]?=some e):numsV ms (es.drop j)=match evalV ms e with
  | .error er=> .error er
  | .ok q=>catR [q] (numsV ms (es.drop (j+1))):=by
 have hj:=(List.getElem?_eq_some_iff.1 he).1
 rw [List.drop_eq_getElem_cons hj,numsV]
 rw [List.getElem?_eq_getElem hj] at he
 rw [Option.some.inj he]
def PtsAt (h:Heap) (cs:List Value) (ps:List (Rat×Rat)):Prop:= ∀ i p,ps[i]?=some p-> ∃ x y,(cs.drop (i*6)).take 6=[.bool x.s,.slice x.A x.n x.c,.slice x.B x.m x.d,.bool y.s,.slice y.A y.n y.c,.slice y.B y.m y.d]/\PB h 25 p x y
theorem ptsAt_ld {h:Heap} {cs:List Value} {ps:List (Rat×Rat)} (u:PtsAt h cs ps) {i:Nat} (hi:i<ps.length) {h' : Heap} {g ty:Nat} (hb:h' g=some ⟨cs,ty,(0,0)⟩) :
  ∃ x y,LdN h' (Addr.add ⟨g,0,none⟩ (i*6)) [.bool x.s,.slice x.A x.n x.c,.slice x.B x.m x.d,.bool y.s,.slice y.A y.n y.c,.slice y.B y.m y.d]/\PB h 25 (ps.getD i (0,0)) x y:=by
 obtain ⟨x,y,e,w⟩:=u i _ (List.getElem?_eq_getElem hi)
 refine ⟨x,y,LdN_of rfl hb rfl (by simpa using e), ?_⟩
 rw [List.getD_eq_getElem?_getD,List.getElem?_eq_getElem hi]
 exact w
theorem ratsAt_ld {h:Heap} {k:Nat} {cs:List Value} {qs:List Rat} (u:RatsAt h k cs qs) {i:Nat} (hi:i<qs.length) {h' : Heap} {g ty:Nat} (hb:h' g=some ⟨cs,ty,(0,0)⟩) :
  ∃ x:QC,LdN h' (Addr.add ⟨g,0,none⟩ (i*3)) [.bool x.s,.slice x.A x.n x.c,.slice x.B x.m x.d]/\QB h k (qs.getD i 0) x:=by
 obtain ⟨s,A,n,c,B,m,d,e,hN,a,b⟩:=u i _ (List.getElem?_eq_getElem hi)
 refine ⟨⟨s,A,n,c,B,m,d⟩,LdN_of rfl hb rfl (by simpa using e), ?_⟩
 rw [List.getD_eq_getElem?_getD,List.getElem?_eq_getElem hi]
 exact ⟨hN,a,b⟩
theorem chkFm_ok {s:Stp} (h:chkFm s=0):1<=s.kind/\s.kind<=6/\(s.frm.length:Int)=frN s.kind/\(s.nums.length:Int)=nuN s.kind/\chkL s.nums 1=0/\isPointV s.name=true:=by
 unfold chkFm at h
 split at h
 ·rename_i hc
  rw [Bool.and_eq_true,Bool.and_eq_true,decide_eq_true_eq,decide_eq_true_eq] at hc
  exact ⟨hc.1.2.1,hc.1.2.2,hc.2.1,hc.2.2,h,hc.1.1⟩
 ·cases h
theorem numsV_err {ms:List Meas} : ∀ {es:List Ex} {er:Int},numsV ms es = .error er->er≠0
 | [],er,h=>by cases h
 | e::es,er,h=>by
  rw [numsV] at h
  split at h
  ·rename_i er' he
   cases h
   unfold evalV at he
   split at he
   ·exact evV_err he
   ·rename_i hne;cases he;exact hne
  ·cases ho:numsV ms es with
   | error e2=>rw [ho] at h;cases h;exact numsV_err ho
   | ok ts=>rw [ho] at h;cases h
theorem drCons_c {h:Heap} {s:Stp} {F:Option Addr} {fc:Nat} {K:Option Addr} {kc:Nat} {A:Option Addr} {n c:Nat} {ps:List Nmd} {eA:Option Addr} {en ec:Nat} {ms:List Meas} (uf:Sl sv h F s.frm.length fc s.frm) (uk:IsK h K s.nums.length kc s.nums) (z:SzS s) (hf:chkFm s=0)
  (u:NPs h A n c ps) (hn:n<=1000000) (hfr : ∀ nm∈s.frm,(posV ps nm).isSome=true) (env:EnvS h eA en ec ms) :
  CallsU Tryz.prog 37 [.agg #[sv s.name,.int .i64 s.kind,.slice F s.frm.length fc,.slice K s.nums.length kc],.slice A n c,.slice eA en ec] h fun r h' => PtR (consV ms ps s) 2000000 r h' /\ Le h h' := by
 obtain ⟨hk1,hk6,hfl,hnl,hck,_⟩:=chkFm_ok hf
 obtain ⟨z1,z2,z3,z4,z5⟩:=z
 have hnl2:s.nums.length<=2:=by unfold nuN at hnl;split at hnl<;>(try split at hnl)<;>omega
 have hfl4:s.frm.length<=4:=by unfold frN at hfl;split at hfl<;>(try split at hfl)<;>(try split at hfl)<;>(try split at hfl)<;>omega
 apply draft_construct_ok
 rintro g _ hg rfl
 refine ⟨fun m i _ _ _ _ _ _ _ _ _ _ _ _ _ _ h' => ∃ j H' cs qs,j<=s.nums.length/\m=s.nums.length-j/\i=(j:Int)/\H' g=none/\Le h H' /\ h' = H'.put g ⟨cs,116,(0,0)⟩/\cs.length=6/\qs.length=j/\RatsAt H' 1000000 cs qs/\numsV ms s.nums=catR qs (numsV ms (s.nums.drop j)),⟨s.nums.length,0,h,_,[],by omega,by omega,rfl,hg,Le.refl _,rfl,rfl,rfl,fun i q hq=>by simp at hq, ?_⟩, ?_⟩
 ·rw [List.drop_zero]
  cases numsV ms s.nums<;>rfl
 rintro m _ _ _ _ _ _ _ _ _ _ _ _ _ _ _ _ ⟨j,H', cs,qs,hj,rfl,rfl,hg', hle,rfl,hcs,hql,hrats,hev⟩
 refine Br.mk (fun q1=> ?_) (fun q1=> ?_)
 ·have hlt:j<s.nums.length:=by have:=of_decide_eq_true q1;omega
  obtain ⟨x,hx⟩ : ∃ x,s.nums[j]?=some x:=⟨_,List.getElem?_eq_getElem hlt⟩
  obtain ⟨ad,vs,eAd,hld,ux⟩:=(uk.mono hle).get hx
  have ux' := ux
  obtain ⟨sx,Ax,cx,Bx,dx,Kx,kcx,rfl,_,_,_⟩:=ux'.open
  have hdrop:=numsV_drop ms hx
  refine ⟨ad,eAd,by omega,by omega,_,_,_,_,_,_,_,_,_,_,_,_,by rw [Int.toNat_natCast];exact LdN.mono hld (Le.new hg' _),((foEval_c ux (SzsL.get z4 hx) (env.mono hle)).frame hg').mono ?_⟩
  rintro _ _ ⟨H2,⟨hr,hl2⟩,hg2,rfl⟩
  cases hv:evalV ms x with
  | error er=>
   rw [hv] at hr hdrop
   have hr' : _=Value.tuple #[.agg #[.bool false,.slice none 0 0,.slice none 0 0],.int .i64 er]:=hr
   subst hr'
   have her:er≠0:=by
    unfold evalV at hv
    split at hv
    ·exact evV_err hv
    ·rename_i hne;cases hv;exact hne
   refine ⟨_,_,_,_,_,_,_,_,rfl,Br.mk (fun _=> ?_) (fun q=>by rw [bne_eq_false_iff_eq] at q;exact absurd q her)⟩
   have hc:consV ms ps s = .error er:=by
    unfold consV
    rw [hev,hdrop]
    rfl
   rw [hc]
   exact ⟨rfl,(hle.trans hl2).trans (Le.new hg2 _)⟩
  | ok v=>
   rw [hv] at hr hdrop
   obtain ⟨s2,A2,n2,c2,B2,m2,d2,rfl,hN2,a2,b2⟩:=hr
   refine ⟨_,_,_,_,_,_,_,_,rfl,Br.mk (fun q=>by exact absurd q (by decide)) (fun _=> ?_)⟩
   refine ⟨by omega,by omega,⟨cs,116,(0,0)⟩, ?_⟩
   rw [addr_block,addr_off,addr_spot _ _ rfl,Int.toNat_natCast]
   refine ⟨Heap.put_same _ _ _,rfl,rfl,by simp;omega, ?_⟩
   rintro _ rfl _ rfl
   simp only [Nat.zero_add]
   refine ⟨s.nums.length-(j+1),by omega,j+1,H2,setSeg cs (j*3) [.bool s2,.slice A2 n2 c2,.slice B2 m2 d2],qs++[v],by omega,rfl,wi (by omega) (by omega),hg2,hle.trans hl2, ?_, ?_,by simp [hql], ?_, ?_⟩
   ·funext y
    by_cases hy:y=g
    ·subst hy
     rw [Heap.put_same,Heap.put_same]
    ·rw [Heap.put_ne _ _ hy,Heap.put_ne _ _ hy,Heap.put_ne _ _ hy]
   ·rw [setSeg_len (by simp;omega),hcs]
   ·intro i p hp
    rcases Nat.lt_or_ge i j with hij | hij
    ·rw [List.getElem?_append_left (by omega)] at hp
     obtain ⟨s3,A3,n3,c3,B3,m3,d3,e3,hN3,r3⟩:=hrats i p hp
     refine ⟨s3,A3,n3,c3,B3,m3,d3, ?_,hN3.mono hl2,r3⟩
     rw [seg_other (by omega) (by omega)]
     exact e3
    ·have hi:i=j:=by
      have:=(List.getElem?_eq_some_iff.1 hp).1
      simp at this
      omega
     subst hi
     rw [List.getElem?_append_right (by omega)] at hp
     simp [hql] at hp
     subst hp
     exact ⟨_,_,_,_,_,_,_,seg_same rfl (by omega),hN2,a2,b2⟩
   ·rw [hev,hdrop]
    exact cat_cat qs [v] _
 have hj' : j=s.nums.length:=by have:=of_decide_eq_false q1;omega
 rw [hj', List.drop_length,numsV] at hev
 have hev' : numsV ms s.nums = .ok qs:=by rw [hev];simp [catR]
 have hqn:(qs.length:Int)=nuN s.kind:=by rw [hql,hj'];exact hnl
 have hcV:consV ms ps s=placeV s.kind (s.frm.map fun nm=>(posV ps nm).getD (0,0)) qs:=by unfold consV;rw [hev']
 rw [hcV]
 generalize hB:(⟨cs,116,(0,0)⟩:Blk)=bG
 have hHb:(H'.put g bG) g=some ⟨cs,116,(0,0)⟩:=by rw [<- hB,Heap.put_same]
 have hleG:Le h (H'.put g bG):=hle.trans (Le.new hg' _)
 generalize hH:H'.put g bG=H at *
 have hHH:Le H' H:=by rw [<- hH];exact Le.new hg' _
 rintro g1 _ hg1 rfl
 have uH:=u.mono hleG
 have ufH:=uf.mono hleG
 refine ⟨fun m i h' => ∃ j cs2,j<=s.frm.length/\m=s.frm.length-j/\i=(j:Int)/\h' = H.put g1 ⟨cs2,117,(0,0)⟩/\cs2.length=24/\PtsAt H cs2 ((s.frm.take j).map fun nm=>(posV ps nm).getD (0,0)),⟨s.frm.length,0,_,by omega,by omega,rfl,rfl,rfl,fun i q hq=>by simp at hq⟩, ?_⟩
 rintro m _ _ ⟨j2,cs2,hj2,rfl,rfl,rfl,hcs2,hpts⟩
 have hHn:=Le.new hg1 (⟨cs2,117,(0,0)⟩:Blk)
 refine Br.mk (fun q2=> ?_) (fun q2=> ?_)
 ·have hlt:j2<s.frm.length:=by have:=of_decide_eq_true q2;omega
  obtain ⟨nm,hnm⟩ : ∃ nm,s.frm[j2]?=some nm:=⟨_,List.getElem?_eq_getElem hlt⟩
  obtain ⟨ad,eAd,hld⟩:=ufH.get hnm
  obtain ⟨p,hp⟩:=Option.isSome_iff_exists.1 (hfr nm (List.mem_of_getElem? hnm))
  refine ⟨ad,eAd,by omega,by omega,_,by rw [Int.toNat_natCast];exact LdN.mono hld hHn, ?_⟩
  refine ((drFind_c uH hn hp).frame hg1).mono ?_
  rintro _ _ ⟨H3,⟨x,y,rfl,hxy,rfl⟩,_,rfl⟩
  refine ⟨_,_,_,_,_,_,_,_,_,_,_,_,_,_,rfl,by omega,by omega,⟨cs2,117,(0,0)⟩, ?_⟩
  rw [addr_block,addr_off,addr_spot _ _ rfl,Int.toNat_natCast]
  refine ⟨Heap.put_same _ _ _,rfl,rfl,by simp;omega, ?_⟩
  rintro _ rfl _ rfl
  simp only [Nat.zero_add]
  refine ⟨s.frm.length-(j2+1),by omega,j2+1,setSeg cs2 (j2*6) [.bool x.s,.slice x.A x.n x.c,.slice x.B x.m x.d,.bool y.s,.slice y.A y.n y.c,.slice y.B y.m y.d],by omega,rfl,wi (by omega) (by omega), ?_, ?_, ?_⟩
  ·funext w
   by_cases hy:w=g1
   ·subst hy
    rw [Heap.put_same,Heap.put_same]
   ·rw [Heap.put_ne _ _ hy,Heap.put_ne _ _ hy,Heap.put_ne _ _ hy]
  ·rw [setSeg_len (by simp;omega),hcs2]
  ·intro i pp hpp
   rw [List.take_add_one,hnm,List.map_append] at hpp
   have hlm:((s.frm.take j2).map fun nm=>(posV ps nm).getD (0,0)).length=j2:=by rw [List.length_map,List.length_take];omega
   rcases Nat.lt_or_ge i j2 with hij | hij
   ·rw [List.getElem?_append_left (by omega)] at hpp
    obtain ⟨x3,y3,e3,w3⟩:=hpts i pp hpp
    refine ⟨x3,y3, ?_,w3⟩
    rw [seg_other (by omega) (by omega)]
    exact e3
   ·have hi:i=j2:=by
     have:=(List.getElem?_eq_some_iff.1 hpp).1
     rw [List.length_append,hlm] at this
     simp at this
     omega
    subst hi
    rw [List.getElem?_append_right (by omega),hlm] at hpp
    simp [hp] at hpp
    subst hpp
    exact ⟨x,y,seg_same rfl (by omega),hxy⟩
 ·
  have hj2' : j2=s.frm.length:=by have:=of_decide_eq_false q2;omega
  rw [hj2', List.take_length] at hpts
  generalize hps:(s.frm.map fun nm=>(posV ps nm).getD (0,0))=pts at *
  have hptl:(pts.length:Int)=frN s.kind:=by rw [<- hps,List.length_map];exact hfl
  have hb2:(H.put g1 ⟨cs2,117,(0,0)⟩) g1=some ⟨cs2,117,(0,0)⟩:=Heap.put_same _ _ _
  have hbg:(H.put g1 ⟨cs2,117,(0,0)⟩) g=some ⟨cs,116,(0,0)⟩:=hHn _ _ hHb
  have hlF:Le h (H.put g1 ⟨cs2,117,(0,0)⟩):=hleG.trans hHn
  have hlQ:Le H' (H.put g1 ⟨cs2,117,(0,0)⟩):=hHH.trans hHn
  unfold placeV
  simp only
  refine Br.mk (fun k1=> ?_) (fun k1=>Br.mk (fun k2=> ?_) (fun k2=>Br.mk (fun k3=> ?_) (fun k3=>Br.mk (fun k4=> ?_) (fun k4=>Br.mk (fun k5=> ?_) (fun k5=> ?_)))))
  ·have e1:s.kind=1:=beq_iff_eq.1 k1
   have hq2:qs.length=2:=by rw [e1] at hqn;have:nuN 1=2:=(by decide);omega
   obtain ⟨x0,l0,w0⟩:=ratsAt_ld hrats (i:=0) (by omega) hbg
   obtain ⟨x1,l1,w1⟩:=ratsAt_ld hrats (i:=1) (by omega) hbg
   rw [if_pos e1]
   exact ⟨by omega,by omega,_,_,_,_,_,_,_,l0,by omega,by omega,_,_,_,_,_,_,_,l1,⟨x0,x1,rfl,(w0.mono hlQ).le (by omega),(w1.mono hlQ).le (by omega)⟩,hlF⟩
  ·have e1:s.kind≠1:=beq_eq_false_iff_ne.1 k1
   have e2:s.kind=2:=beq_iff_eq.1 k2
   have hq2:qs.length=2:=by rw [e2] at hqn;have:nuN 2=2:=(by decide);omega
   have hp1:pts.length=1:=by rw [e2] at hptl;have:frN 2=1:=(by decide);omega
   obtain ⟨x0,l0,w0⟩:=ratsAt_ld hrats (i:=0) (by omega) hbg
   obtain ⟨x1,l1,w1⟩:=ratsAt_ld hrats (i:=1) (by omega) hbg
   obtain ⟨px,py,lp,wp⟩:=ptsAt_ld hpts (i:=0) (by omega) hb2
   rw [if_neg e1,if_pos e2]
   refine ⟨by omega,by omega,_,_,_,_,_,_,_,_,_,_,_,_,_,_,lp,by omega,by omega,_,_,_,_,_,_,_,l0,by omega,by omega,_,_,_,_,_,_,_,l1,(padd_c (p' := (qs.getD 0 0,qs.getD 1 0)) (wp.mono hHn) ⟨w0.mono hlQ,w1.mono hlQ⟩ (by omega) (by omega)).mono ?_⟩
   rintro _ h9 ⟨z3,z4,rfl,w4,l9⟩
   exact ⟨_,_,_,_,_,_,_,_,_,_,_,_,_,_,rfl,⟨z3,z4,rfl,w4.le (by omega)⟩,hlF.trans l9⟩
  ·have e1:s.kind≠1:=beq_eq_false_iff_ne.1 k1
   have e2:s.kind≠2:=beq_eq_false_iff_ne.1 k2
   have e3:s.kind=3:=beq_iff_eq.1 k3
   have hq2:qs.length=1:=by rw [e3] at hqn;have:nuN 3=1:=(by decide);omega
   have hp1:pts.length=2:=by rw [e3] at hptl;have:frN 3=2:=(by decide);omega
   obtain ⟨x0,l0,w0⟩:=ratsAt_ld hrats (i:=0) (by omega) hbg
   obtain ⟨px,py,lp,wp⟩:=ptsAt_ld hpts (i:=0) (by omega) hb2
   obtain ⟨px1,py1,lp1,wp1⟩:=ptsAt_ld hpts (i:=1) (by omega) hb2
   rw [if_neg e1,if_neg e2,if_pos e3]
   refine ⟨by omega,by omega,_,_,_,_,_,_,_,_,_,_,_,_,_,_,lp,by omega,by omega,_,_,_,_,_,_,_,_,_,_,_,_,_,_,lp1,by omega,by omega,_,_,_,_,_,_,_,l0,(pon_c (wp.mono hHn) (wp1.mono hHn) (w0.mono hlQ) (by omega) (by omega)).mono ?_⟩
   rintro _ h9 ⟨z3,z4,rfl,w4,l9⟩
   exact ⟨_,_,_,_,_,_,_,_,_,_,_,_,_,_,rfl,⟨z3,z4,rfl,w4.le (by omega)⟩,hlF.trans l9⟩
  ·have e1:s.kind≠1:=beq_eq_false_iff_ne.1 k1
   have e2:s.kind≠2:=beq_eq_false_iff_ne.1 k2
   have e3:s.kind≠3:=beq_eq_false_iff_ne.1 k3
   have e4:s.kind=4:=beq_iff_eq.1 k4
   have hp1:pts.length=4:=by rw [e4] at hptl;have:frN 4=4:=(by decide);omega
   obtain ⟨px,py,lp,wp⟩:=ptsAt_ld hpts (i:=0) (by omega) hb2
   obtain ⟨px1,py1,lp1,wp1⟩:=ptsAt_ld hpts (i:=1) (by omega) hb2
   obtain ⟨px2,py2,lp2,wp2⟩:=ptsAt_ld hpts (i:=2) (by omega) hb2
   obtain ⟨px3,py3,lp3,wp3⟩:=ptsAt_ld hpts (i:=3) (by omega) hb2
   rw [if_neg e1,if_neg e2,if_neg e3,if_pos e4]
   refine ⟨by omega,by omega,_,_,_,_,_,_,_,_,_,_,_,_,_,_,lp,by omega,by omega,_,_,_,_,_,_,_,_,_,_,_,_,_,_,lp1,by omega,by omega,_,_,_,_,_,_,_,_,_,_,_,_,_,_,lp2,by omega,by omega,_,_,_,_,_,_,_,_,_,_,_,_,_,_,lp3,(meet_c (wp.mono hHn) (wp1.mono hHn) (wp2.mono hHn) (wp3.mono hHn) (by omega)).mono ?_⟩
   rintro _ h9 ⟨hR,l9⟩
   have hR2:=hR.le (k' := 2000000) (by omega)
   obtain ⟨a0,a1,a2,a3,a4,a5,a6,b0,b1,b2,b3,b4,b5,b6,er,hsh⟩:=PtR.shape hR
   rw [hsh] at hR2 ⊢
   exact ⟨_,_,_,_,_,_,_,_,_,_,_,_,_,_,_,rfl,hR2,hlF.trans l9⟩
  ·have e1:s.kind≠1:=beq_eq_false_iff_ne.1 k1
   have e2:s.kind≠2:=beq_eq_false_iff_ne.1 k2
   have e3:s.kind≠3:=beq_eq_false_iff_ne.1 k3
   have e4:s.kind≠4:=beq_eq_false_iff_ne.1 k4
   have e5:s.kind=5:=beq_iff_eq.1 k5
   have hp1:pts.length=3:=by rw [e5] at hptl;have:frN 5=3:=(by decide);omega
   obtain ⟨px,py,lp,wp⟩:=ptsAt_ld hpts (i:=0) (by omega) hb2
   obtain ⟨px1,py1,lp1,wp1⟩:=ptsAt_ld hpts (i:=1) (by omega) hb2
   obtain ⟨px2,py2,lp2,wp2⟩:=ptsAt_ld hpts (i:=2) (by omega) hb2
   rw [if_neg e1,if_neg e2,if_neg e3,if_neg e4,if_pos e5]
   refine ⟨by omega,by omega,_,_,_,_,_,_,_,_,_,_,_,_,_,_,lp,by omega,by omega,_,_,_,_,_,_,_,_,_,_,_,_,_,_,lp1,by omega,by omega,_,_,_,_,_,_,_,_,_,_,_,_,_,_,lp2,(pfoot_c (wp.mono hHn) (wp1.mono hHn) (wp2.mono hHn) (by omega)).mono ?_⟩
   rintro _ h9 ⟨hR,l9⟩
   have hR2:=hR.le (k' := 2000000) (by omega)
   obtain ⟨a0,a1,a2,a3,a4,a5,a6,b0,b1,b2,b3,b4,b5,b6,er,hsh⟩:=PtR.shape hR
   rw [hsh] at hR2 ⊢
   exact ⟨_,_,_,_,_,_,_,_,_,_,_,_,_,_,_,rfl,hR2,hlF.trans l9⟩
  ·have e1:s.kind≠1:=beq_eq_false_iff_ne.1 k1
   have e2:s.kind≠2:=beq_eq_false_iff_ne.1 k2
   have e3:s.kind≠3:=beq_eq_false_iff_ne.1 k3
   have e4:s.kind≠4:=beq_eq_false_iff_ne.1 k4
   have e5:s.kind≠5:=beq_eq_false_iff_ne.1 k5
   have e6:s.kind=6:=by omega
   have hp1:pts.length=3:=by rw [e6] at hptl;have:frN 6=3:=(by decide);omega
   obtain ⟨px,py,lp,wp⟩:=ptsAt_ld hpts (i:=0) (by omega) hb2
   obtain ⟨px1,py1,lp1,wp1⟩:=ptsAt_ld hpts (i:=1) (by omega) hb2
   obtain ⟨px2,py2,lp2,wp2⟩:=ptsAt_ld hpts (i:=2) (by omega) hb2
   rw [if_neg e1,if_neg e2,if_neg e3,if_neg e4,if_neg e5]
   refine ⟨by omega,by omega,_,_,_,_,_,_,_,_,_,_,_,_,_,_,lp,by omega,by omega,_,_,_,_,_,_,_,_,_,_,_,_,_,_,lp1,by omega,by omega,_,_,_,_,_,_,_,_,_,_,_,_,_,_,lp2,(pmirror_c (wp.mono hHn) (wp1.mono hHn) (wp2.mono hHn) (by omega)).mono ?_⟩
   rintro _ h9 ⟨hR,l9⟩
   have hR2:=hR.le (k' := 2000000) (by omega)
   obtain ⟨a0,a1,a2,a3,a4,a5,a6,b0,b1,b2,b3,b4,b5,b6,er,hsh⟩:=PtR.shape hR
   rw [hsh] at hR2 ⊢
   exact ⟨_,_,_,_,_,_,_,_,_,_,_,_,_,_,_,rfl,hR2,hlF.trans l9⟩
def noU (cs:List Value):Prop:= ∀ v∈cs,∀ n:Int,v ≠ .int .u32 n
theorem NmN.hole {h:Heap} {g:Nat} {A:Option Addr} {n c v:Nat} (u:NmN h A n c v) {b:Blk} (hb:h g=some b) (hno:noU b.cells):NmN (Go.Proofs.YtfglcgbgaeegaaaGreatDoor.hole h g) A n c v:=by
 obtain ⟨xs,u1,e,hN⟩:=u
 refine ⟨xs,⟨u1.len,u1.cap,u1.lt,fun hn=> ?_⟩,e,hN⟩
 obtain ⟨ad,b', e1,sp,hb', hc⟩:=u1.mem hn
 refine ⟨ad,b', e1,sp, ?_,hc⟩
 rw [hole_ne _ (fun q=> ?_)]
 ·exact hb'
 ·rw [q,hb] at hb'
  cases hb'
  have hl:=u1.len
  cases xs with
  | nil=>simp at hl;omega
  | cons x xs=>
   have hm:lv x∈(b.cells.drop ad.off).take n:=by rw [hc];simp
   exact hno _ (List.mem_of_mem_drop (List.mem_of_mem_take hm)) _ rfl
theorem QB.hole {h:Heap} {g k:Nat} {q:Rat} {x:QC} (u:QB h k q x) {b:Blk} (hb:h g=some b) (hno:noU b.cells):QB (Go.Proofs.YtfglcgbgaeegaaaGreatDoor.hole h g) k q x:=
 ⟨⟨⟨u.1.1.1.hole hb hno,u.1.1.2⟩,u.1.2.hole hb hno⟩,u.2⟩
theorem PB.hole {h:Heap} {g k:Nat} {p:Rat×Rat} {x y:QC} (u:PB h k p x y) {b:Blk} (hb:h g=some b) (hno:noU b.cells):PB (Go.Proofs.YtfglcgbgaeegaaaGreatDoor.hole h g) k p x y:=⟨u.1.hole hb hno,u.2.hole hb hno⟩
theorem noU_np (nm:List UInt8) (x y:QC):noU (npL nm x y):=by
 intro v hv n
 simp only [List.mem_cons,List.not_mem_nil,or_false] at hv
 rcases hv with rfl | rfl | rfl | rfl | rfl | rfl | rfl<;>intro e<;>cases e
abbrev zN:List Value:=[.string ByteArray.empty,.bool false,.slice none 0 0,.slice none 0 0,.bool false,.slice none 0 0,.slice none 0 0]
theorem noU_z : ∀ k:Nat,noU (repV zN k)/\(repV zN k).length=7*k
 | 0=>⟨fun v hv=>by simp [repV] at hv,rfl⟩
 | k+1=>by
  obtain ⟨h1,h2⟩:=noU_z k
  rw [repV]
  refine ⟨fun v hv n=> ?_,by rw [List.length_append,h2];simp;omega⟩
  rcases List.mem_append.1 hv with q | q
  ·simp only [List.mem_cons,List.not_mem_nil,or_false] at q
   rcases q with rfl | rfl | rfl | rfl | rfl | rfl | rfl<;>intro e<;>cases e
  ·exact h1 v q n
def NP (h0 h:Heap) (A:Option Addr) (n c:Nat) (ps:List Nmd):Prop:=
 ps.length=n/\((A=none/\n=0/\c=0)\/ ∃ gp cs,h0 gp=none/\A=some ⟨gp,0,none⟩/\h gp=some ⟨cs,53,(0,0)⟩/\cs.length=7*c/\n<=c/\noU cs/\NCs (hole h gp) ps cs)
theorem NP.mono {h0 h h' : Heap} {A:Option Addr} {n c:Nat} {ps:List Nmd} (u:NP h0 h A n c ps) (l:Le h h'):NP h0 h' A n c ps:=by
 obtain ⟨a,b⟩:=u
 refine ⟨a,b.imp id ?_⟩
 rintro ⟨gp,cs,b1,b2,b3,b4,b5,b6,b7⟩
 exact ⟨gp,cs,b1,b2,l _ _ b3,b4,b5,b6,b7.mono (Le.hole l gp)⟩
theorem NP.s {h0 h:Heap} {A:Option Addr} {n c:Nat} {ps:List Nmd} (u:NP h0 h A n c ps):NPs h A n c ps:=by
 obtain ⟨a,b⟩:=u
 refine ⟨a.symm, ?_,fun hn=> ?_⟩
 ·rcases b with ⟨_,e,e2⟩ | ⟨gp,cs,b1,b2,b3,b4,b5,b6,b7⟩
  ·omega
  ·exact b5
 ·rcases b with ⟨_,e,_⟩ | ⟨gp,cs,b1,b2,b3,b4,b5,b6,b7⟩
  ·exact absurd (List.length_eq_zero_iff.1 (by omega)) hn
  ·exact ⟨_,_,b2,rfl,b3,by simpa using b7.mono (hole_le _ _)⟩
theorem NCs.snoc {h:Heap} {ps:List Nmd} {cs rest:List Value} {p:Nmd} {x y:QC} (u:NCs h ps cs) (hl:7*ps.length<=cs.length) (w:PB h 25 p.pos x y):NCs h (ps++[p]) (cs.take (7*ps.length)++npL p.name x y++rest):=by
 intro i q hq
 have htl:(cs.take (7*ps.length)).length=7*ps.length:=by rw [List.length_take];omega
 rcases Nat.lt_or_ge i ps.length with hi | hi
 ·rw [List.getElem?_append_left hi] at hq
  obtain ⟨x', y', e,w'⟩:=u i q hq
  refine ⟨x', y', ?_,w'⟩
  rw [<- e,List.append_assoc,List.drop_append_of_le_length (by omega),List.take_append_of_le_length (by rw [List.length_drop];omega),List.drop_take,List.take_take,Nat.min_eq_left (by omega)]
 ·have hi' : i=ps.length:=by
   have:=(List.getElem?_eq_some_iff.1 hq).1
   simp at this
   omega
  subst hi'
  rw [List.getElem?_append_right (Nat.le_refl _),Nat.sub_self] at hq
  simp at hq
  subst hq
  refine ⟨x,y, ?_,w⟩
  rw [List.append_assoc,List.drop_append_of_le_length (by omega),List.drop_of_length_le (by omega),List.nil_append,List.take_append_of_le_length (by simp),List.take_of_length_le (by simp)]
theorem NP.app {h0 h:Heap} {A:Option Addr} {n c:Nat} {ps:List Nmd} (u:NP h0 h A n c ps) (hle:Le h0 h) {p:Nmd} {x y:QC} (w:PB h 25 p.pos x y) {vs:List Value} (hv:vs=npL p.name x y) {g6:Nat} (hg6:h g6=none) (hn:n<=1000000) {K:Option Addr->Nat->Heap->Prop}
  (hK : ∀ A' c' h', NP h0 h' A' (n+1) c' (ps++[p])->Le h0 h' -> K A' c' h') :
  ∃ xs:List Value,RdS (h.put g6 ⟨vs,53,(0,0)⟩) (some ⟨g6,0,none⟩) (1*7) xs/\(∀ y∈xs,Go.Vcg.one y=true)/\
   (n+1<=c-> ∃ (ad:Addr) (b:Blk),A=some ad/\ad.spot=none/\(h.put g6 ⟨vs,53,(0,0)⟩) ad.block=some b/\b.fz=(0,0)/\ad.off+n*7+1*7<=b.cells.length/\
    ∀ h' : Heap,h' = Heap.put (h.put g6 ⟨vs,53,(0,0)⟩) ad.block { b with cells:=setSeg b.cells (ad.off+n*7) xs }->K A c h')/\
   (c<n+1-> ∃ olds:List Value,RdS (h.put g6 ⟨vs,53,(0,0)⟩) A (n*7) olds/\(n+1)*128<=140737488355328/\
    ∀ (g1 cap:Nat) (h' : Heap),(h.put g6 ⟨vs,53,(0,0)⟩) g1=none->n+1<=cap->h' = Heap.put (h.put g6 ⟨vs,53,(0,0)⟩) g1 ⟨olds++xs++repV zN (cap-(n+1)),53,(0,0)⟩->K (some ⟨g1,0,none⟩) cap h'):=by
 subst hv
 obtain ⟨a1,a3⟩:=u
 have l6:=Le.new hg6 (⟨npL p.name x y,53,(0,0)⟩:Blk)
 refine ⟨npL p.name x y,⟨rfl,fun _=>⟨_,rfl,rfl,_,Heap.put_same _ _ _,rfl⟩⟩, ?_, ?_, ?_⟩
 ·intro v hv
  simp only [List.mem_cons,List.not_mem_nil,or_false] at hv
  rcases hv with rfl | rfl | rfl | rfl | rfl | rfl | rfl<;>rfl
 ·intro hcap
  rcases a3 with ⟨_,_,rfl⟩ | ⟨gp,cs,b0,rfl,b3,b4,b5,b6,b7⟩
  ·omega
  ·have hg6p:g6≠gp:=fun e=>by rw [e,b3] at hg6;cases hg6
   refine ⟨_,_,rfl,rfl,by rw [Heap.put_ne _ _ (fun e=>hg6p e.symm)];exact b3,rfl,by simp only;omega, ?_⟩
   rintro _ rfl
   have hcs:setSeg cs (0+n*7) (npL p.name x y)=cs.take (7*ps.length)++npL p.name x y++cs.drop (0+n*7+7):=by
    unfold setSeg
    rw [show 0+n*7=7*ps.length by omega]
    rfl
   refine hK _ _ _ ⟨by rw [List.length_append];simp;omega,Or.inr ⟨gp,_,b0,rfl,Heap.put_same _ _ _, ?_,hcap, ?_, ?_⟩⟩ ?_
   ·simp only
    rw [hcs,List.length_append,List.length_append,List.length_take,List.length_drop]
    simp
    omega
   ·simp only
    rw [hcs]
    intro v hv nn
    rcases List.mem_append.1 hv with q | q
    ·rcases List.mem_append.1 q with q | q
     ·exact b6 v (List.mem_of_mem_take q) nn
     ·exact noU_np _ _ _ v q nn
    ·exact b6 v (List.mem_of_mem_drop q) nn
   ·simp only
    rw [hcs,hole_put]
    have hn7:hole h gp g6=none:=by rw [hole_ne _ hg6p];exact hg6
    have l7:=Le.new hn7 (⟨npL p.name x y,53,(0,0)⟩:Blk)
    rw [hole_put_ne _ _ hg6p]
    exact NCs.snoc (b7.mono l7) (by omega) ((w.hole b3 b6).mono l7)
   ·exact (hle.put (hle.free hg6) _).put b0 _
 ·intro hcap
  have holds : ∃ olds:List Value,RdS (h.put g6 ⟨npL p.name x y,53,(0,0)⟩) A (n*7) olds/\NCs h ps olds/\olds.length=7*ps.length/\noU olds:=by
   rcases a3 with ⟨rfl,rfl,rfl⟩ | ⟨gp,cs,b0,rfl,b3,b4,b5,b6,b7⟩
   ·have:ps=[]:=List.length_eq_zero_iff.1 a1
    subst this
    exact ⟨[],⟨rfl,fun q=>absurd q (by decide)⟩,fun i q hq=>by simp at hq,rfl,fun v hv=>by simp at hv⟩
   ·have hg6p:g6≠gp:=fun e=>by rw [e,b3] at hg6;cases hg6
    refine ⟨cs.take (7*ps.length),⟨by rw [List.length_take];omega,fun _=>⟨_,rfl,rfl,_,by rw [Heap.put_ne _ _ (fun e=>hg6p e.symm)];exact b3, ?_⟩⟩, ?_,by rw [List.length_take];omega,fun v hv=>b6 v (List.mem_of_mem_take hv)⟩
    ·simp only [List.drop_zero,List.length_take]
     congr 1
     omega
    ·intro i q hq
     obtain ⟨x', y', e,w'⟩:=b7 i q hq
     have hi:=(List.getElem?_eq_some_iff.1 hq).1
     refine ⟨x', y', ?_,w'.mono (hole_le _ _)⟩
     rw [<- e,List.drop_take,List.take_take,Nat.min_eq_left (by omega)]
  obtain ⟨olds,hrd,hes,hol,hno⟩:=holds
  refine ⟨olds,hrd,by omega, ?_⟩
  rintro g7 cap _ hg7 hcap7 rfl
  have hg76:g7≠g6:=fun e=>by rw [e,Heap.put_same] at hg7;cases hg7
  have hg7' : h g7=none:=by rw [Heap.put_ne _ _ hg76] at hg7;exact hg7
  obtain ⟨z1,z2⟩:=noU_z (cap-(n+1))
  refine hK _ _ _ ⟨by rw [List.length_append];simp;omega,Or.inr ⟨g7,_,hle.free hg7', rfl,Heap.put_same _ _ _, ?_,hcap7, ?_, ?_⟩⟩ ?_
  ·rw [List.length_append,List.length_append,hol,z2]
   simp
   omega
  ·intro v hv nn
   rcases List.mem_append.1 hv with q | q
   ·rcases List.mem_append.1 q with q | q
    ·exact hno v q nn
    ·exact noU_np _ _ _ v q nn
   ·exact z1 v q nn
  ·rw [hole_put,hole_none hg7]
   have:=NCs.snoc (rest:=repV zN (cap-(n+1))) (hes.mono l6) (by omega) (w.mono l6)
   rw [List.take_of_length_le (by omega)] at this
   exact this
  ·exact (hle.put (hle.free hg6) _).put (hle.free hg7') _
def runFr (ms:List Meas) (l:List Stp):Nat->Nat->List Nmd->Except (Int×Nat) (List Nmd)
 | 0,_,ps=> .ok ps
 | f+1,i,ps=>match l[i]? with
  | none=> .ok ps
  | some s=>match consV ms ps s with
   | .error e=> .error (e,i)
   | .ok p=>if tlV p.1||tlV p.2 then .error (5,i) else runFr ms l f (i+1) (ps++[⟨s.name,p⟩])
def runV (ms:List Meas) (l:List Stp):Except (Int×Nat) (List Nmd):=if (checkV l).1=0 then runFr ms l l.length 0 [] else .error (checkV l)
def RunR (o:Except (Int×Nat) (List Nmd)) (r:Value) (h' : Heap):Prop:=
 match o with
 | .ok ps=> ∃ A n c,r = .tuple #[.slice A n c,.int .i64 0,.int .i64 0]/\NPs h' A n c ps
 | .error (e,i)=>e≠0/\r = .tuple #[.slice none 0 0,.int .i64 e,.int .i64 (i:Int)]
theorem chkFr_all {l:List Stp} : ∀ {f i:Nat},(chkFr l f i).1=0-> ∀ j s,i<=j->j<i+f->l[j]?=some s->chkFm s=0/\chkNm (l.take j) s=0
 | 0,i,_,j,s,h1,h2,_=>by omega
 | f+1,i,h,j,s,h1,h2,hs=>by
  rw [chkFr] at h
  cases hi:l[i]? with
  | none=>
   have:=List.getElem?_eq_none_iff.1 hi
   have:=(List.getElem?_eq_some_iff.1 hs).1
   omega
  | some t=>
   rw [hi] at h
   simp only at h
   by_cases h3:chkFm t=0
   ·rw [if_pos h3] at h
    by_cases h4:chkNm (l.take i) t=0
    ·rw [if_pos h4] at h
     rcases Nat.lt_or_ge i j with q | q
     ·exact chkFr_all h j s (by omega) (by omega) hs
     ·have:i=j:=by omega
      subst this
      rw [hi] at hs
      cases hs
      exact ⟨h3,h4⟩
    ·rw [if_neg h4] at h
     exact absurd h h4
   ·rw [if_neg h3] at h
    exact absurd h h3
theorem checkV_all {l:List Stp} (h:(checkV l).1=0):l.length<=64/\ ∀ j s,l[j]?=some s->chkFm s=0/\chkNm (l.take j) s=0:=by
 unfold checkV at h
 split at h
 ·cases h
 ·exact ⟨by omega,fun j s hs=>chkFr_all h j s (by omega) (by have:=(List.getElem?_eq_some_iff.1 hs).1;omega) hs⟩
theorem chkNm_ok {l:List Stp} {s:Stp} (h:chkNm l s=0):defV l s.name=false/\ ∀ x∈s.frm,defV l x=true:=by
 unfold chkNm at h
 split at h
 ·cases h
 ·rename_i h1
  split at h
  ·rename_i h2
   exact ⟨by simpa using h1,fun x hx=>List.all_eq_true.1 h2 x hx⟩
  ·cases h
theorem pos_def {l:List Stp} {ps:List Nmd} {nm:List UInt8} (hn:ps.map (·.name)=l.map (·.name)) (h:defV l nm=true):(posV ps nm).isSome=true:=by
 unfold defV at h
 rw [List.any_eq_true] at h
 obtain ⟨s,hs,he⟩:=h
 have hm:s.name∈ps.map (·.name):=by rw [hn];exact List.mem_map_of_mem hs
 obtain ⟨p,hp,hpn⟩:=List.mem_map.1 hm
 unfold posV
 rw [Option.isSome_map,List.find?_isSome]
 exact ⟨p,hp,by rw [hpn];exact he⟩
theorem ptMeet_err {a b c d:Rat×Rat} {e:Int} (h:ptMeet a b c d = .error e):e=10:=by
 unfold ptMeet at h
 split at h
 ·cases h;rfl
 ·cases h
theorem ptFoot_err {a b c:Rat×Rat} {e:Int} (h:ptFoot a b c = .error e):e=10:=by
 unfold ptFoot at h
 split at h
 ·cases h;rfl
 ·cases h
theorem ptMirror_err {a b c:Rat×Rat} {e:Int} (h:ptMirror a b c = .error e):e=10:=by
 unfold ptMirror at h
 split at h
 ·rename_i e2 he;cases h;exact ptFoot_err he
 ·cases h
theorem consV_err {ms:List Meas} {ps:List Nmd} {s:Stp} {e:Int} (h:consV ms ps s = .error e):e≠0:=by
 unfold consV at h
 split at h
 ·rename_i e2 he;cases h;exact numsV_err he
 ·unfold placeV at h
  simp only at h
  split at h
  ·cases h
  split at h
  ·cases h
  split at h
  ·cases h
  split at h
  ·rw [ptMeet_err h];decide
  split at h
  ·rw [ptFoot_err h];decide
  ·rw [ptMirror_err h];decide
theorem drRun_c {h:Heap} {A:Option Addr} {n c:Nat} {l:List Stp} {eA:Option Addr} {en ec:Nat} {ms:List Meas} (u:StpS h A n c l) (hn:n<=1000000) (z:n<=64->SzSs l) (t:Frms h) (tb:Tab h) (env:EnvS h eA en ec ms) :
  CallsU Tryz.prog 16 [.slice A n c,.slice eA en ec] h fun r h' => RunR (runV ms l) r h' /\ Le h h' := by
 apply draft_Run_ok
 refine (drCheck_c u hn z t).mono ?_
 rintro _ h1 ⟨rfl,l1⟩
 unfold runV
 have hlen:=u.len
 refine ⟨_,_,rfl,Br.mk (fun q=> ?_) (fun q=> ?_)⟩
 ·have h0:(checkV l).1≠0:=by simpa using q
  rw [if_neg h0]
  exact ⟨⟨h0,rfl⟩,l1⟩
 have h0:(checkV l).1=0:=by simpa using q
 obtain ⟨h64,hall⟩:=checkV_all h0
 rw [if_pos h0]
 have zl:=z (by omega)
 refine ⟨fun m pA pn pc i h' => ∃ k ps,k<=l.length/\m=l.length-k/\i=(k:Int)/\NP h h' pA pn pc ps/\Le h h' /\ ps.map (·.name)=(l.take k).map (·.name)/\runFr ms l l.length 0 []=runFr ms l (l.length-k) k ps,⟨l.length,0,[],by omega,by omega,rfl,⟨rfl,Or.inl ⟨rfl,rfl,rfl⟩⟩,l1,by simp,by simp⟩, ?_⟩
 rintro m pA pn pc _ h2 ⟨k,ps,hk,rfl,rfl,np,l2,hnm,heq⟩
 have hpl:ps.length=k:=by
  have:=congrArg List.length hnm
  rw [List.length_map,List.length_map,List.length_take] at this
  omega
 have hpn:pn=k:=by rw [<- np.1];exact hpl
 refine Br.mk (fun q1=> ?_) (fun q1=> ?_)
 ·have hlt:k<l.length:=by have:=of_decide_eq_true q1;omega
  obtain ⟨s,hs⟩ : ∃ s,l[k]?=some s:=⟨_,List.getElem?_eq_getElem hlt⟩
  obtain ⟨ad,F,fc,K,kc,eAd,hld,uf,uk⟩:=(u.mono l2).get hs
  obtain ⟨hfm,hnmk⟩:=hall k s hs
  have zs:=zl s (List.mem_of_getElem? hs)
  have ek:l.length-k=(l.length-(k+1))+1:=by omega
  rw [ek,runFr,hs] at heq
  simp only at heq
  refine ⟨ad,eAd,by omega,by omega,_,_,_,_,_,_,_,_,by rw [Int.toNat_natCast];exact hld, ?_⟩
  refine (drCons_c uf uk zs hfm np.s (by omega) (fun nm hn=>pos_def hnm ((chkNm_ok hnmk).2 nm hn)) (env.mono l2)).mono ?_
  rintro _ h3 ⟨hR,l3⟩
  have l13:=l2.trans l3
  cases hc:consV ms ps s with
  | error e=>
   rw [hc] at hR heq
   have he:=consV_err hc
   have hR' : _=Value.tuple #[zP,.int .i64 e]:=hR
   subst hR'
   simp only at heq
   refine ⟨_,_,_,_,_,_,_,_,_,_,_,_,_,_,_,rfl,fun e' h' => e' = e/\h' = h3, ?_,Br.mk (fun q=>absurd (beq_iff_eq.1 q) he) (fun _=>⟨rfl,rfl⟩)⟩
   rintro _ _ ⟨rfl,rfl⟩
   refine Br.mk (fun _=> ?_) (fun q=>by rw [bne_eq_false_iff_eq] at q;exact absurd q he)
   rw [heq]
   exact ⟨⟨he,rfl⟩,l13⟩
  | ok p=>
   rw [hc] at hR heq
   obtain ⟨x,y,rfl,w⟩:=hR
   simp only at heq
   refine ⟨_,_,_,_,_,_,_,_,_,_,_,_,_,_,_,rfl,fun e' h' => e' = (if tlV p.1||tlV p.2 then 5 else 0)/\Le h3 h', ?_,Br.mk (fun _=> ?_) (fun q=>by exact absurd q (by decide))⟩
   ·rintro _ h4 ⟨rfl,l4⟩
    have l14:=l13.trans l4
    by_cases htl:(tlV p.1||tlV p.2)=true
    ·rw [if_pos htl] at heq ⊢
     refine Br.mk (fun _=> ?_) (fun q=>by exact absurd q (by decide))
     rw [heq]
     exact ⟨⟨by decide,rfl⟩,l14⟩
    ·have htl' : (tlV p.1||tlV p.2)=false:=by simpa using htl
     rw [if_neg htl] at heq ⊢
     rw [Bool.or_eq_false_iff] at htl'
     refine Br.mk (fun q=>by exact absurd q (by decide)) (fun _=> ?_)
     rintro g6 _ hg6 rfl
     have w25:PB h4 25 p x y:=⟨(w.1.mono l4).short htl'.1,(w.2.mono l4).short htl'.2⟩
     refine (np.mono (l3.trans l4)).app (p:=⟨s.name,p⟩) l14 w25 rfl hg6 (by omega) (K:=fun A' c' h' => ∀ t60:Int,t60=IntKind.i64.wrap ((k:Int)+1)-> ∃ m_1,m_1<l.length-k/\ ∃ k' ps', k' <= l.length/\m_1=l.length-k' /\ t60=(k' : Int)/\NP h h' A' (pn+1) c' ps' /\ Le h h' /\ ps'.map (·.name)=(l.take k').map (·.name)/\runFr ms l l.length 0 []=runFr ms l (l.length-k') k' ps') (fun A' c' h' np' l' => ?_)
     rintro _ rfl
     refine ⟨l.length-(k+1),by omega,k+1,ps++[⟨s.name,p⟩],by omega,rfl,wi (by omega) (by omega),np', l', ?_,heq⟩
     rw [List.map_append,hnm,List.take_add_one,hs,List.map_append]
     rfl
   ·refine (drLong_c w.1 (by omega) (tb.mono l13)).mono ?_
    rintro _ h4 ⟨rfl,l4⟩
    refine ⟨_,rfl,Br.mk (fun q=> ?_) (fun q=> ?_)⟩
    ·rw [q]
     exact ⟨rfl,l4⟩
    ·rw [q,Bool.false_or]
     refine (drLong_c (w.2.mono l4) (by omega) (tb.mono (l13.trans l4))).mono ?_
     rintro _ h5 ⟨rfl,l5⟩
     refine ⟨_,rfl,Br.mk (fun q2=> ?_) (fun q2=> ?_)⟩
     ·rw [q2];exact ⟨rfl,l4.trans l5⟩
     ·rw [q2];exact ⟨rfl,l4.trans l5⟩
 ·have hk' : k=l.length:=by have:=of_decide_eq_false q1;omega
  rw [hk', Nat.sub_self,runFr] at heq
  rw [heq]
  exact ⟨⟨_,_,_,rfl,np.s⟩,l2⟩
end Go.Proofs.YtfglcgbgaeegaaaGreatDoor

namespace Go.Proofs.YtfglcgbgaeegaaaGreatDoor
open Go Go.Vcg
def strings_Split_vc (a:ByteArray) (b:ByteArray) (h:Heap) (R:Value->Heap->Prop):Prop:=
 CallsU Tryz.prog 90 [.string a,.string b,.int .i64 0,.int .i64 (-1)] h fun f g=>
 ∃ c d e,f = .slice c d e/\
 R (.slice c d e) g
theorem strings_Split_ok {a:ByteArray} {b:ByteArray} {h:Heap} {R:Value->Heap->Prop} (hv:strings_Split_vc a b h R):CallsU Tryz.prog 47 [.string a,.string b] h R:=
 fn_ok Tryz.func47 (fun _=>false) .nil hv
def strings_genSplit_vc (a:ByteArray) (b:ByteArray) (c:Int) (n:Int) (h:Heap) (R:Value->Heap->Prop):Prop:=
 Br ((n:Int)==0)
 (R (.slice none 0 0) h)
 (Br (b.toList==(⟨#[]⟩:ByteArray).toList)
 (CallsU Tryz.prog 160 [.string a,.int .i64 n] h fun b3 b4=>
 ∃ d e f,b3 = .slice d e f/\
 R (.slice d e f) b4)
 (∃ g:Int->Heap->Prop,(∀ (a6:Int) (a7:Heap),g a6 a7->
 ∀ u:Int,u=IntKind.i64.wrap ((a.size:Int)+1)->
 0<=(if decide (u<a6) then u else a6)/\(if decide (u<a6) then u else a6)<=(if decide (u<a6) then u else a6)/\(if decide (u<a6) then u else a6)*16<=140737488355328/\(if decide (u<a6) then u else a6)<=9223372036854775807/\
 ∀ (a8:Nat) (a9:Heap),a7 a8=none->a9=Heap.put a7 a8 ⟨repV [.string ByteArray.empty] (Int.toNat (if decide (u<a6) then u else a6)),9,(0,0)⟩->
 ∀ v:Int,v=IntKind.i64.wrap ((if decide (u<a6) then u else a6)-1)->
 ∃ i:Nat->ByteArray->Int->Heap->Prop,(∃ j,i j a 0 a9)/\
 ∀ (j:Nat) (b0:ByteArray) (b1:Int) (b2:Heap),i j b0 b1 b2->
 Br (decide (b1<v))
 (CallsU Tryz.prog 162 [.string b0,.string b] b2 fun b5 b6=>
 ∃ k,b5 = .int .i64 k/\
 Br (decide (k<0))
 (∃ l:Addr,some ⟨a8,0,none⟩=some l/\0<=b1/\b1<(((Int.toNat (if decide (u<a6) then u else a6)):Nat):Int)/\
 ∃ m:Blk,b6 (Addr.block (Addr.add l (Int.toNat b1*1)))=some m/\m.fz=(0,0)/\Addr.spot (Addr.add l (Int.toNat b1*1))=none/\Addr.off (Addr.add l (Int.toNat b1*1))+1<=m.cells.length/\
 ∀ w:Heap,w=Heap.put b6 (Addr.block (Addr.add l (Int.toNat b1*1))) { m with cells:=setSeg m.cells (Addr.off (Addr.add l (Int.toNat b1*1))) [.string b0] }->
 ∀ y:Int,y=IntKind.i64.wrap (b1+1)->
 ((0:Nat):Int)<=y/\y<=(((Int.toNat (if decide (u<a6) then u else a6)):Nat):Int)/\
 R (.slice (some ⟨a8,0,none⟩) (Int.toNat y) (Int.toNat (if decide (u<a6) then u else a6))) w)
 (∀ z:Int,z=IntKind.i64.wrap (k+c)->
 ((0:Nat):Int)<=z/\z<=(b0.size:Int)/\
 ∃ o:Addr,some ⟨a8,0,none⟩=some o/\0<=b1/\b1<(((Int.toNat (if decide (u<a6) then u else a6)):Nat):Int)/\
 ∃ p:Blk,b6 (Addr.block (Addr.add o (Int.toNat b1*1)))=some p/\p.fz=(0,0)/\Addr.spot (Addr.add o (Int.toNat b1*1))=none/\Addr.off (Addr.add o (Int.toNat b1*1))+1<=p.cells.length/\
 ∀ a0:Heap,a0=Heap.put b6 (Addr.block (Addr.add o (Int.toNat b1*1))) { p with cells:=setSeg p.cells (Addr.off (Addr.add o (Int.toNat b1*1))) [.string (ByteArray.extract b0 0 (Int.toNat z))] }->
 ∀ a1:Int,a1=IntKind.i64.wrap (k+(b.size:Int))->
 ((0:Nat):Int)<=a1/\a1<=(b0.size:Int)/\
 ∀ a2:Int,a2=IntKind.i64.wrap (b1+1)->
 ∃ q,q<j/\i q (ByteArray.extract b0 (Int.toNat a1) b0.size) a2 a0))
 (∃ r:Addr,some ⟨a8,0,none⟩=some r/\0<=b1/\b1<(((Int.toNat (if decide (u<a6) then u else a6)):Nat):Int)/\
 ∃ s:Blk,b2 (Addr.block (Addr.add r (Int.toNat b1*1)))=some s/\s.fz=(0,0)/\Addr.spot (Addr.add r (Int.toNat b1*1))=none/\Addr.off (Addr.add r (Int.toNat b1*1))+1<=s.cells.length/\
 ∀ a3:Heap,a3=Heap.put b2 (Addr.block (Addr.add r (Int.toNat b1*1))) { s with cells:=setSeg s.cells (Addr.off (Addr.add r (Int.toNat b1*1))) [.string b0] }->
 ∀ a4:Int,a4=IntKind.i64.wrap (b1+1)->
 ((0:Nat):Int)<=a4/\a4<=(((Int.toNat (if decide (u<a6) then u else a6)):Nat):Int)/\
 R (.slice (some ⟨a8,0,none⟩) (Int.toNat a4) (Int.toNat (if decide (u<a6) then u else a6))) a3))/\
 Br (decide (n<0))
 (CallsU Tryz.prog 161 [.string a,.string b] h fun b7 b8=>
 ∃ t,b7 = .int .i64 t/\
 ∀ a5:Int,a5=IntKind.i64.wrap (t+1)->
 g a5 b8)
 (g n h)))
theorem strings_genSplit_ok {a:ByteArray} {b:ByteArray} {c:Int} {n:Int} {h:Heap} {R:Value->Heap->Prop} (hv:strings_genSplit_vc a b c n h R):CallsU Tryz.prog 90 [.string a,.string b,.int .i64 c,.int .i64 n] h R:=
 fn_ok Tryz.func90 (fun _=>false) (.two .nil (.two .nil (.two .nil (.cut ⟨[(3,Sh.int .i64)],[]⟩ .nil (.two .nil (.two .nil (.two .nil (.two .nil (.two (.one (.loop ⟨[(0,Sh.str),(10,Sh.int .i64)],[]⟩ .nil)) .nil))))))))) hv
def strings_Index_vc (a:ByteArray) (b:ByteArray) (h:Heap) (R:Value->Heap->Prop):Prop:=
 CallsU Tryz.prog 221 [.string a,.string b] h fun d e=>
 ∃ c,d = .int .i64 c/\
 R (.int .i64 c) e
theorem strings_Index_ok {a:ByteArray} {b:ByteArray} {h:Heap} {R:Value->Heap->Prop} (hv:strings_Index_vc a b h R):CallsU Tryz.prog 162 [.string a,.string b] h R:=
 fn_ok Tryz.func162 (fun _=>false) .nil hv
end Go.Proofs.YtfglcgbgaeegaaaGreatDoor
