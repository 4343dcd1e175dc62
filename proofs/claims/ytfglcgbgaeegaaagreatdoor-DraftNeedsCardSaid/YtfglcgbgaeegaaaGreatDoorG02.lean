/-
 Gathered texts of this proof: Vcg11,Vcg12,Vcg13,Vcg15,Vcg14.
-/
import Derived.Test.YtfglcgbgaeegaaaGreatDoorG01

namespace Go.Vcg
open Go
theorem Br.mono {b:Bool} {X Y X' Y' : Prop} (h:Br b X Y) (hx:X->X') (hy:Y->Y'):Br b X' Y' := by
 cases b
 ·exact hy h
 ·exact hx h
theorem exL_mono : ∀ (ss:List Sh) {F G:List Value->Prop},exL ss F->(∀ vs,F vs->G vs)->exL ss G
 | [],_,_,h,hm=>hm _ h
 | sh::r,F,G,h,hm=>by
  cases sh with
  | int k=>obtain ⟨n,h⟩:=h;exact ⟨n,exL_mono r h fun vs=>hm _⟩
  | bool=>obtain ⟨n,h⟩:=h;exact ⟨n,exL_mono r h fun vs=>hm _⟩
  | str=>obtain ⟨n,h⟩:=h;exact ⟨n,exL_mono r h fun vs=>hm _⟩
  | slice=>obtain ⟨A,n,c,h⟩:=h;exact ⟨A,n,c,exL_mono r h fun vs=>hm _⟩
  | ptr=>obtain ⟨n,h⟩:=h;exact ⟨n,exL_mono r h fun vs=>hm _⟩
  | any=>obtain ⟨n,h⟩:=h;exact ⟨n,exL_mono r h fun vs=>hm _⟩
theorem exC_mono : ∀ (cs:List (Bool×List Sh)) {F G:List Value->Prop},exC cs F->(∀ vs,F vs->G vs)->exC cs G
 | [],_,_,h,hm=>hm _ h
 | (true,ss)::r,_,_,h,hm=>exL_mono ss h fun _ h=>exC_mono r h fun _=>hm _
 | (false,ss)::r,_,_,h,hm=>exL_mono ss h fun _ h=>exC_mono r h fun _=>hm _
section
variable {P:Program} {K K' : Value->Prop}
theorem resR_mono {t:TypeId} {v:Value} (h:resR P t v K) (hm : ∀ z,K z->K' z):resR P t v K' := by
 unfold resR at *
 split
 ·rename_i cs hc
  simp only [hc] at h
  exact exC_mono _ h fun us ⟨e,h⟩=>⟨e,hm _ h⟩
 ·rename_i cs hc
  simp only [hc] at h
  exact exC_mono _ h fun us ⟨e,h⟩=>⟨e,hm _ h⟩
 ·rename_i hc
  simp only [hc] at h
theorem arith_mono {k k' : IntKind} {z:Int} (h:arith k k' z K) (hm : ∀ z,K z->K' z):arith k k' z K' := by
 unfold arith at *
 split
 ·rename_i hd;simp only [hd] at h;exact fun x e=>hm _ (h x e)
 ·rename_i hd;simp only [hd] at h
theorem comp_mono {k k' : IntKind} {b:Bool} (h:comp k k' b K) (hm : ∀ z,K z->K' z):comp k k' b K' := by
 unfold comp at *
 split
 ·rename_i hd;simp only [hd] at h;exact hm _ h
 ·rename_i hd;simp only [hd] at h
theorem binR_mono {op:BinOp} {t:TypeId} {x y:Value} (h:binR P op t x y K) (hm : ∀ z,K z->K' z):binR P op t x y K' := by
 cases x<;>cases y<;>simp only [binR] at h ⊢ <;> try exact h
 case int.int k a k' b=>
  cases op<;>simp only at h ⊢
  case shl=>exact h.mono id fun h z e=>hm _ (h z e)
  case shr=>exact h.mono id fun h z e=>hm _ (h z e)
  case quo=>exact h.mono id fun h=>arith_mono h hm
  case rem=>exact h.mono id fun h=>arith_mono h hm
  all_goals first | exact arith_mono h hm | exact comp_mono h hm
 case bool.bool a b=>
  split
  ·rename_i hb
   simp only [hb] at h
   cases op<;>simp only at h ⊢ <;> first | exact h | exact hm _ h
  ·rename_i hb
   simp only [hb] at h
 case string.string a b=>
  cases op<;>simp only at h ⊢ <;> first | exact h | exact hm _ h | exact ⟨h.1,hm _ h.2⟩
theorem nilR_mono {op:BinOp} {x:Value} (h:nilR op x K) (hm : ∀ z,K z->K' z):nilR op x K' := by
 cases op<;>simp only [nilR] at h ⊢ <;> exact ⟨h.1,hm _ h.2⟩
theorem binQ_mono {c:Bool} {op:BinOp} {t:TypeId} {x y:Value} (h:binQ P c op t x y K) (hm : ∀ z,K z->K' z):binQ P c op t x y K' := by
 cases y<;>simp only [binQ] at h ⊢ <;> first | exact binR_mono h hm | skip
 split
 ·rename_i hc;simp only [hc] at h;exact nilR_mono h hm
 ·rename_i hc;simp only [hc] at h
theorem unR_mono {op:UnOp} {x:Value} (h:unR op x K) (hm : ∀ z,K z->K' z):unR op x K' := by
 cases op<;>cases x<;>simp only [unR] at h ⊢ <;> first | exact h | exact hm _ h | exact fun z e=>hm _ (h z e)
theorem convR_mono {src dst:TypeId} {x:Value} (h:convR P src dst x K) (hm : ∀ z,K z->K' z):convR P src dst x K' := by
 unfold convR at *
 split
 ·rename_i h1 h2;simp only [h1,h2] at h;exact hm _ h
 ·rename_i h1 h2;simp only [h1,h2] at h;exact hm _ h
 ·rename_i h1 h2;simp only [h1,h2] at h;exact hm _ h
 ·rename_i h1 h2 h3
  split at h
  ·rename_i a b;exact (h1 _ _ _ _ a b rfl).elim
  ·rename_i a b;exact (h2 _ _ a b rfl).elim
  ·rename_i a b;exact (h3 _ _ _ a b rfl).elim
  ·exact h
theorem boundR_mono {x:Option Value} {d lo hi:Nat} {F G:Nat->Prop} (h:boundR x d lo hi F) (hm : ∀ z,F z->G z):boundR x d lo hi G:=by
 cases x with
 | none=>exact hm _ h
 | some v=>cases v<;>simp only [boundR] at h ⊢ <;> first | exact h | exact ⟨h.1,h.2.1,hm _ h.2.2⟩
theorem sliceR_mono {t:TypeId} {x:Value} {lo hi:Option Value} (h:sliceR P t x lo hi K) (hm : ∀ z,K z->K' z):sliceR P t x lo hi K' := by
 unfold sliceR at *
 split
 ·rename_i h1;simp only [h1] at h;exact boundR_mono h fun _ h=>boundR_mono h fun _=>hm _
 ·rename_i h1
  simp only [h1] at h
  split
  ·rename_i h2
   simp only [h2] at h
   split
   ·exact boundR_mono h fun _=>hm _
   ·exact boundR_mono h fun _ h=>boundR_mono h fun _=>hm _
  ·rename_i h2;simp only [h2] at h
 ·rename_i h1 h2
  split at h
  ·rename_i a;exact (h1 _ a rfl).elim
  ·rename_i a;exact (h2 _ _ _ _ a rfl).elim
  ·exact h
theorem partR_mono {t:TypeId} {cs:List Value} {off:Nat} (h:partR P t cs off K) (hm : ∀ z,K z->K' z):partR P t cs off K' := by
 unfold partR at *
 split
 ·rename_i ag n h1 h2
  simp only [h1,h2] at h
  split
  ·rename_i h3
   simp only [h3] at h
   cases ag<;>simp only at h ⊢
   ·split
    ·rename_i h4;simp only [h4] at h;exact hm _ h
    ·rename_i h4;simp only [h4] at h
   ·exact hm _ h
  ·rename_i h3;simp only [h3] at h
 ·rename_i h1
  split at h
  ·rename_i a b;exact (h1 _ _ a b).elim
  ·exact h
theorem builtR_mono {b:Builtin} {ts:List TypeId} {args:List Value} {hh:Heap} {F G:Value->Heap->Prop} (h:builtR P b ts args hh F) (hm : ∀ z h', F z h' -> G z h'):builtR P b ts args hh G:=by
 unfold builtR at *
 split
 ·split
  ·rename_i h1;simp only [h1] at h;exact hm _ _ h
  ·rename_i h1;simp only [h1] at h;exact hm _ _ h
  ·rename_i h1;simp only [h1] at h;exact hm _ _ h
  ·simp only at h
 ·split
  ·rename_i h1;simp only [h1] at h;exact hm _ _ h
  ·simp only at h
 ·simp only at h
  split
  ·rename_i h1;simp only [h1] at h;exact hm _ _ h
  ·rename_i h1;simp only [h1] at h
 ·simp only at h
  split
  ·rename_i h1;simp only [h1] at h;exact hm _ _ h
  ·rename_i h1;simp only [h1] at h
 ·simp only at h
  split
  ·rename_i h1 h2
   simp only [h1,h2] at h
   split
   ·rename_i h3
    simp only [h3] at h
    split
    ·rename_i h4
     simp only [h4] at h
     split
     ·rename_i h5
      simp only [h5] at h
      obtain ⟨xs,a,b,c,d⟩:=h
      exact ⟨xs,a,b,fun e=>(c e).mono (hm _ _) fun ⟨ad,bb,q1,q2,q3,q4,q5,q6⟩=>⟨ad,bb,q1,q2,q3,q4,q5,fun h' e=>hm _ _ (q6 h' e)⟩,
       fun e=>let ⟨ol,q1,q2,q3⟩:=d e;⟨ol,q1,q2,fun g c' h' e1 e2 e3=>hm _ _ (q3 g c' h' e1 e2 e3)⟩⟩
     ·rename_i h5;simp only [h5] at h
    ·rename_i h4;simp only [h4] at h
   ·rename_i h3;simp only [h3] at h
  ·rename_i h1
   split at h
   ·rename_i a b;exact (h1 _ _ a b).elim
   ·exact h
 ·simp only at h
  split
  ·rename_i h1 h2
   simp only [h1,h2] at h
   split
   ·rename_i h3
    simp only [h3] at h
    split
    ·rename_i h4
     simp only [h4] at h
     split
     ·rename_i h5
      simp only [h5] at h
      obtain ⟨c,d⟩:=h
      exact ⟨fun e=>(c e).mono (hm _ _) fun ⟨ad,bb,q1,q2,q3,q4,q5,q6⟩=>⟨ad,bb,q1,q2,q3,q4,q5,fun h' e=>hm _ _ (q6 h' e)⟩,
       fun e=>let ⟨ol,q1,q2,q3⟩:=d e;⟨ol,q1,q2,fun g c' h' e1 e2 e3=>hm _ _ (q3 g c' h' e1 e2 e3)⟩⟩
     ·rename_i h5;simp only [h5] at h
    ·rename_i h4;simp only [h4] at h
   ·rename_i h3;simp only [h3] at h
  ·rename_i h1
   split at h
   ·rename_i a b;exact (h1 _ a b).elim
   ·exact h
 ·simp only at h
  split
  ·rename_i h1
   simp only [h1] at h
   split
   ·rename_i h2
    simp only [h2] at h
    obtain ⟨xs,a,b,c,d⟩:=h
    exact ⟨xs,a,b,fun e=>hm _ _ (c e),fun e=>let ⟨ad,bb,q1,q2,q3,q4,q5,q6⟩:=d e;⟨ad,bb,q1,q2,q3,q4,q5,fun h' e=>hm _ _ (q6 h' e)⟩⟩
   ·rename_i h2;simp only [h2] at h
  ·rename_i h1
   split at h
   ·rename_i a;exact (h1 _ a).elim
   ·exact h
 ·split at h<;>first | exact h | (exfalso;simp_all;done) | (exfalso;rename_i q;exact q _ _ _ _ _ _ _ _ rfl rfl rfl) | (exfalso;rename_i q;exact q _ _ _ _ _ _ rfl rfl rfl) | (exfalso;rename_i q _;exact q _ _ _ _ _ _ rfl rfl rfl) | (exfalso;rename_i q _ _;exact q _ _ _ _ _ _ _ _ rfl rfl rfl) | (exfalso;rename_i q _;exact q _ _ _ _ _ _ _ _ rfl rfl rfl)
end
def putO (st:St) (d:Option Nat) (v:SV):St:=
 match d with
 | none=>st
 | some d=>st.put d v
theorem putO_h (st:St) (d:Option Nat) (v:SV):(putO st d v).h=st.h:=by cases d<;>rfl
theorem putO_B (st:St) (d:Option Nat) (v:SV):(putO st d v).B=st.B:=by cases d<;>rfl
theorem putO_nb (st:St) (d:Option Nat) (v:SV):(putO st d v).nb=st.nb:=by cases d<;>rfl
theorem putO_setH (st:St) (d:Option Nat) (v:SV) (h:Heap):(putO st d v).setH h=putO (st.setH h) d v:=by cases d<;>rfl
theorem putO_setB (st:St) (d:Option Nat) (v:SV) (i:Nat) (cs:List Value):(putO st d v).setB i cs=putO (st.setB i cs) d v:=by cases d<;>rfl
theorem ev_putO {st:St} {d:Option Nat} {v:SV} {x:Operand} (h : ∀ d', d=some d' -> x ≠ .tmp d'):ev (putO st d v) x=ev st x:=by
 cases d with
 | none=>rfl
 | some d=>
  cases x with
  | tmp t=>
   have:t≠d:=fun e=>h d rfl (by rw [e])
   simp [putO,ev,St.put,beq_ne this]
  | _=>rfl
theorem evs_putO {st:St} {d:Option Nat} {v:SV} : ∀ (l:List Operand),(∀ x∈l,∀ d', d=some d' -> x ≠ .tmp d')->evs (putO st d v) l=evs st l
 | [],_=>rfl
 | x::r,h=>by
  simp only [evs]
  rw [ev_putO (h x (by simp)),evs_putO r fun y hy=>h y (by simp [hy])]
theorem partsV_putO {st:St} {d:Option Nat} {v:SV} : ∀ (l:List (Nat×Operand)),(∀ x∈l,∀ d', d=some d' -> x.2 ≠ .tmp d')->partsV (putO st d v) l=partsV st l
 | [],_=>rfl
 | (i,x)::r,h=>by
  simp only [partsV]
  rw [ev_putO (h (i,x) (by simp)),partsV_putO r fun y hy=>h y (by simp [hy])]
theorem put_comm (st:St) {d e:Nat} (v u:SV) (h:d≠e):(st.put d v).put e u=(st.put e u).put d v:=by
 simp only [St.put,St.mk.injEq,and_true]
 funext t
 by_cases h1:t=e
 ·subst h1
  have:t≠d:=fun q=>h q.symm
  simp [beq_ne this]
 ·by_cases h2:t=d
  ·subst h2;simp [beq_ne h1]
  ·simp [beq_ne h1,beq_ne h2]
structure Keeps (vis:Nat->Bool) (o:Oper) (st st1:St):Prop where
 slots : ∀ t,o.dst≠some t->st1.f t=st.f t
 nb:st.nb<=st1.nb
 bx:isStore o.op=false-> ∀ i,i<st.nb->st1.B i=st.B i
 h:quiet vis o=true->st1.h=st.h
theorem putK_shift {vis:Nat->Bool} {nt:Nat} {o:Oper} {st st2:St} {d:Option Nat} {v u:SV} {K K' : St->Prop} (hm : ∀ st1,K (putO st1 d v)->Keeps vis o st st1->K' st1)
  (hne : ∀ d', d=some d' -> o.dst≠some d') (k:Keeps vis o st st2) (hk:putK nt o.dst u (putO st2 d v) K):putK nt o.dst u st2 K' := by
 obtain ⟨dst,op,type,pos,after,guard⟩:=o
 cases dst with
 | none=>exact hm _ hk k
 | some e=>
  simp only [putK] at hk ⊢
  split
  ·rename_i hb
   simp only [hb] at hk
   refine hm _ ?_ ⟨fun t ht=> ?_,k.nb,k.bx,k.h⟩
   ·cases d with
    | none=>exact hk
    | some d=>
     have:d≠e:=fun q=>hne d rfl (by rw [q])
     simp only [putO] at hk ⊢
     rw [<- put_comm _ _ _ this]
     exact hk
   ·have hte:t≠e:=fun q=>ht (by rw [q])
    simp only [St.put,beq_ne hte,cond_false]
    exact k.slots t ht
  ·rename_i hb
   simp only [hb] at hk
theorem Keeps.refl (vis:Nat->Bool) (o:Oper) (st:St):Keeps vis o st st:=⟨fun _ _=>rfl,Nat.le_refl _,fun _ _ _=>rfl,fun _=>rfl⟩
theorem Keeps.setH (vis:Nat->Bool) (o:Oper) (st:St) (h:Heap) (hp:quiet vis o=false):Keeps vis o st (st.setH h):=⟨fun _ _=>rfl,Nat.le_refl _,fun _ _ _=>rfl,fun q=>by rw [hp] at q;cases q⟩
theorem Keeps.setB (vis:Nat->Bool) (o:Oper) (st:St) (i:Nat) (cs:List Value) (hp:isStore o.op=true):Keeps vis o st (st.setB i cs):=
 ⟨fun _ _=>rfl,Nat.le_refl _,fun q=>(by rw [hp] at q;cases q),fun _=>rfl⟩
section
variable {P:Program} {nt:Nat} {mb vis:Nat->Bool} {K K' : St->Prop}
theorem boxR_shift {o:Oper} {st:St} {d:Option Nat} {v:SV} {t:TypeId} {cells:List Value} (hp:(pureOp o.op||isLoad o.op)=false) (hm : ∀ st1,K (putO st1 d v)->Keeps vis o st st1->K' st1)
  (hne : ∀ d', d=some d' -> o.dst≠some d') (h:boxR nt vis o.dst t cells (putO st d v) K):boxR nt vis o.dst t cells st K' := by
 unfold boxR at *
 split
 ·rename_i h1
  simp only [h1] at h
  split
  ·rename_i h2
   simp only [h2] at h
   intro g h' e1 e2
   rw [putO_h] at h
   have:=h g h' e1 e2
   simp only [putO_setH] at this
   have hq:quiet vis o=false:=by
    unfold quiet hidA
    rw [hp]
    cases hd:o.dst with
    | none=>split<;>rename_i q1 q2<;>first | rfl | (cases q2)
    | some e=>
     rw [hd] at h2
     simp only [isVis] at h2
     split
     ·rename_i t e' q1 q2
      cases q2
      rw [h2]
      rfl
     ·rfl
   exact putK_shift hm hne (Keeps.setH _ _ _ _ hq) this
  ·rename_i h2
   simp only [h2] at h
   refine putK_shift (st2:={ st with nb:=st.nb+1,B:=fun i=>bif Nat.beq i st.nb then cells else st.B i }) (d:=d) (v:=v) hm hne ⟨fun _ _=>rfl,Nat.le_succ _,fun _ i hi=> ?_,fun _=>rfl⟩ ?_
   ·have:i≠st.nb:=by omega
    simp [beq_ne this]
   ·cases d<;>exact h
 ·rename_i h1
  simp only [h1] at h
theorem builtR_still {b:Builtin} {as:Array Operand} {ats:Array TypeId} {args:List Value} {hh:Heap} {F:Value->Heap->Prop}
  (hp:(pureOp (.call { callee:= .builtin b,args:=as,argTypes:=ats })||isLoad (.call { callee:= .builtin b,args:=as,argTypes:=ats }))=true)
  (h:builtR P b ats.toList args hh F) : ∃ z,F z hh/\ ∀ (h' : Heap) (G:Value->Heap->Prop),G z h' -> builtR P b ats.toList args h' G:=by
 unfold builtR at *
 split at h
 ·split at h
  ·rename_i h1;exact ⟨_,h,fun h' G hg=>by simpa [h1] using hg⟩
  ·rename_i h1;exact ⟨_,h,fun h' G hg=>by simpa [h1] using hg⟩
  ·rename_i h1;exact ⟨_,h,fun h' G hg=>by simpa [h1] using hg⟩
  ·exact h.elim
 ·split at h
  ·rename_i h1;exact ⟨_,h,fun h' G hg=>by simpa [h1] using hg⟩
  ·exact h.elim
 ·split at h
  ·rename_i h1;exact ⟨_,h,fun h' G hg=>by simpa [h1] using hg⟩
  ·exact h.elim
 ·split at h
  ·rename_i h1;exact ⟨_,h,fun h' G hg=>by simpa [h1] using hg⟩
  ·exact h.elim
 ·cases hp
 ·cases hp
 ·cases hp
 ·exact h.elim
theorem builtR_pure {b:Builtin} {as:Array Operand} {ats:Array TypeId} {args:List Value} {st:St} {d:Option Nat} {v:SV} {dst:Option Tmp} {type:TypeId} {pos:String} {after:Array Edge} {guard:Option (Nat×Bool)}
  (hp:(pureOp (.call { callee:= .builtin b,args:=as,argTypes:=ats })||isLoad (.call { callee:= .builtin b,args:=as,argTypes:=ats }))=true)
  (h:builtR P b ats.toList args st.h fun z h=>putK nt dst (.v z) ((putO st d v).setH h) K)
  (hm : ∀ st1,K (putO st1 d v)->Keeps vis ⟨dst,.call { callee:= .builtin b,args:=as,argTypes:=ats },type,pos,after,guard⟩ st st1->K' st1)
  (hne : ∀ d', d=some d' -> dst≠some d'):builtR P b ats.toList args st.h fun z h=>putK nt dst (.v z) (st.setH h) K' := by
 obtain ⟨z,h1,h2⟩:=builtR_still hp h
 refine h2 _ _ ?_
 rw [putO_setH] at h1
 exact putK_shift (o:=⟨dst,.call { callee:= .builtin b,args:=as,argTypes:=ats },type,pos,after,guard⟩) hm hne (Keeps.refl vis _ _) h1
set_option maxHeartbeats 1000000 in
theorem opV_shift {see:Bool} {o:Oper} {st:St} {d:Option Nat} {v:SV} (hm : ∀ st1,K (putO st1 d v)->Keeps vis o st st1->K' st1)
  (hop : ∀ d', d=some d' -> ∀ x∈o.op.operands.toList,x ≠ .tmp d') (hne : ∀ d', d=some d' -> o.dst≠some d') (h:opV P nt vis mb see o (putO st d v) K):opV P nt vis mb see o st K' := by
 have he : ∀ x∈o.op.operands.toList,ev (putO st d v) x=ev st x:=fun x hx=>ev_putO fun d' hd=>hop d' hd x hx
 have kr:=Keeps.refl vis o st
 have kh:=fun (hp:quiet vis o=false) (h:Heap)=>Keeps.setH vis o st h hp
 obtain ⟨dst,op,type,pos,after,guard⟩:=o
 cases op<;>simp only [opV] at h ⊢ <;> try exact h
 case move x=>
  rw [he x (by simp [Op.operands])] at h
  split at h
  ·rename_i u hx
   try simp only [hx]
   exact putK_shift hm hne kr h
  ·exact h.elim
 case assign x=>
  rw [he x (by simp [Op.operands])] at h
  split at h
  ·rename_i u hx
   try simp only [hx]
   exact putK_shift hm hne kr h
  ·exact h.elim
 case pick c x y=>
  rw [he c (by simp [Op.operands]),he x (by simp [Op.operands]),he y (by simp [Op.operands])] at h
  split at h
  ·rename_i t hc
   try simp only [hc]
   refine h.mono (fun h=> ?_) (fun h=> ?_)
   ·split at h
    ·exact putK_shift hm hne kr h
    ·exact h.elim
   ·split at h
    ·exact putK_shift hm hne kr h
    ·exact h.elim
  ·exact h.elim
 case binOp op t x y ty=>
  rw [he x (by simp [Op.operands]),he y (by simp [Op.operands])] at h
  split at h
  ·rename_i u z hx hy;try simp only [hx,hy]
   exact binQ_mono h fun z h=>putK_shift hm hne kr h
  ·exact h.elim
 case unOp op t x=>
  rw [he x (by simp [Op.operands])] at h
  split at h
  ·rename_i u hx
   try simp only [hx]
   exact unR_mono h fun z h=>putK_shift hm hne kr h
  ·exact h.elim
 case convert t t' x=>
  rw [he x (by simp [Op.operands])] at h
  split at h
  ·rename_i u hx
   try simp only [hx]
   exact convR_mono h fun z h=>putK_shift hm hne kr h
  ·exact h.elim
 case nilCheck x=>
  rw [he x (by simp [Op.operands])] at h
  split at h
  ·rename_i i off hx;try simp only [hx]
   exact putK_shift hm hne kr h
  ·rename_i p hx;try simp only [hx]
   exact putK_shift hm hne kr h
  ·exact h.elim
 case alloc t=>
  split at h
  ·rename_i z hz;exact boxR_shift (o:=⟨dst,.alloc t,type,pos,after,guard⟩) rfl hm hne h
  ·exact h.elim
 case box t x=>
  rw [he x (by simp [Op.operands])] at h
  split at h
  ·rename_i u hx
   try simp only [hx]
   exact boxR_shift (o:=⟨dst,.box t x,type,pos,after,guard⟩) rfl hm hne h
  ·exact h.elim
 case build t ps=>
  rw [partsV_putO _ fun y hy d' hd=>hop d' hd y.2 (by simp [Op.operands];exact ⟨y.1,by simpa using hy⟩)] at h
  split at h
  ·rename_i l hl
   try simp only [hl]
   split at h
   ·rename_i cs hc;exact putK_shift hm hne kr h
   ·exact h.elim
  ·exact h.elim
 case buildSlice t n ps=>
  rw [partsV_putO _ fun y hy d' hd=>hop d' hd y.2 (by simp [Op.operands];exact ⟨y.1,by simpa using hy⟩)] at h
  split at h
  ·rename_i e hel
   split at h
   ·rename_i z sz l hz hsz hl
    try simp only [hl]
    split at h
    ·rename_i cs hc hcs
     intro g h' e1 e2
     rw [putO_h] at h
     have:=h g h' e1 e2
     simp only [putO_setH] at this
     exact putK_shift hm hne (kh rfl _) this
    ·exact h.elim
   ·exact h.elim
  ·exact h.elim
 case load t x=>
  rw [he x (by simp [Op.operands])] at h
  split at h
  ·rename_i i off ag n hx ha hn
   try simp only [hx]
   rw [putO_B,putO_nb] at h
   split at h
   ·rename_i hc;try simp only [hc]
    exact putK_shift hm hne kr h
   ·exact h.elim
  ·rename_i p ag n hx ha hn
   try simp only [hx]
   split at h
   ·rename_i hc
    try simp only [hc]
    rw [putO_h] at h
    exact exL_mono _ h fun vs ⟨h1,h2⟩=>⟨h1,putK_shift hm hne kr h2⟩
   ·exact h.elim
  ·exact h.elim
 case store t x y=>
  rw [he x (by simp [Op.operands]),he y (by simp [Op.operands])] at h
  split at h
  ·rename_i i off u n hx hy hn
   try simp only [hx,hy]
   rw [putO_B] at h
   split at h
   ·rename_i hc
    try simp only [hc]
    rw [putO_setB] at h
    exact putK_shift hm hne (Keeps.setB vis ⟨dst,.store t x y,type,pos,after,guard⟩ st _ _ rfl) h
   ·exact h.elim
  ·rename_i p u n hx hy hn
   try simp only [hx,hy]
   split at h
   ·rename_i hc
    try simp only [hc]
    rw [putO_h] at h
    obtain ⟨b,h1,h2,h3,h4,h5⟩:=h
    refine ⟨b,h1,h2,h3,h4,fun h' e=> ?_⟩
    have:=h5 h' e
    simp only [putO_setH] at this
    exact putK_shift hm hne (kh rfl _) this
   ·exact h.elim
  ·exact h.elim
 case fieldAddr t x i=>
  rw [he x (by simp [Op.operands])] at h
  split at h
  ·rename_i id off fo hx hf;try simp only [hx]
   exact putK_shift hm hne kr h
  ·rename_i p fo hx hf;try simp only [hx]
   exact putK_shift hm hne kr h
  ·exact h.elim
 case field t x i=>
  rw [he x (by simp [Op.operands])] at h
  split at h
  ·rename_i cs f hx hf;try simp only [hx]
   exact partR_mono h fun z h=>putK_shift hm hne kr h
  ·exact h.elim
 case indexAddr t x ix=>
  rw [he x (by simp [Op.operands]),he ix (by simp [Op.operands])] at h
  split at h
  ·rename_i A n c k i e hx hix hel
   try simp only [hx,hix]
   split at h
   ·rename_i sz hsz
    obtain ⟨ad,h1,h2,h3,h4⟩:=h
    exact ⟨ad,h1,h2,h3,putK_shift hm hne kr h4⟩
   ·exact h.elim
  ·rename_i p k i hx hix hel
   try simp only [hx,hix]
   split at h
   ·rename_i n sz hsz
    obtain ⟨h2,h3,h4⟩:=h
    exact ⟨h2,h3,putK_shift hm hne kr h4⟩
   ·exact h.elim
  ·exact h.elim
 case index t x ix=>
  rw [he x (by simp [Op.operands]),he ix (by simp [Op.operands])] at h
  split at h
  ·rename_i sx k i hx hix hu
   try simp only [hx,hix]
   obtain ⟨b,h1,h2,h4⟩:=h
   exact ⟨b,h1,h2,putK_shift hm hne kr h4⟩
  ·exact h.elim
 case slice t x lo hi mx=>
  cases mx with
  | some _=>exact h
  | none=>
   simp only at h ⊢
   rw [he x (by simp [Op.operands])] at h
   have el:evO (putO st d v) lo=evO st lo:=by
    cases lo with
    | none=>rfl
    | some l=>simp only [evO];rw [he l (by simp [Op.operands])]
   have eh:evO (putO st d v) hi=evO st hi:=by
    cases hi with
    | none=>rfl
    | some l=>simp only [evO];rw [he l (by simp [Op.operands])]
   rw [el,eh] at h
   split at h
   ·rename_i u l q hx hl hq;try simp only [hx,hl,hq]
    exact sliceR_mono h fun z h=>putK_shift hm hne kr h
   ·exact h.elim
 case makeSlice t l c=>
  rw [he l (by simp [Op.operands]),he c (by simp [Op.operands])] at h
  split at h
  ·rename_i k1 n k2 k e hl hc hel
   try simp only [hl,hc]
   split at h
   ·rename_i i z hi hz
    split at h
    ·rename_i hcc
     obtain ⟨h1,h2,h3,h4,h5⟩:=h
     refine ⟨h1,h2,h3,h4,fun g h' e1 e2=> ?_⟩
     rw [putO_h] at h5
     have:=h5 g h' e1 e2
     simp only [putO_setH] at this
     exact putK_shift hm hne (kh rfl _) this
    ·exact h.elim
   ·exact h.elim
  ·exact h.elim
 case extract x i=>
  rw [he x (by simp [Op.operands])] at h
  split at h
  ·rename_i vs hx
   try simp only [hx]
   split at h
   ·rename_i z hz;exact putK_shift hm hne kr h
   ·exact h.elim
  ·exact h.elim
 case call c=>
  obtain ⟨callee,as,ats⟩:=c
  simp only at h ⊢
  rw [evs_putO _ fun y hy d' hd=>hop d' hd y (by simp only [Op.operands,Call.operands];cases callee<;>simp<;>first | (right;simpa using hy) | simpa using hy)] at h
  split at h
  ·rename_i f args ha
   try simp only [ha]
   rw [putO_h] at h
   exact h.mono fun z h' h=>resR_mono h fun z h=>by rw [putO_setH] at h;exact putK_shift hm hne (kh rfl _) h
  ·rename_i b args ha
   try simp only [ha]
   rw [putO_h] at h
   by_cases hp:(pureOp (.call { callee:= .builtin b,args:=as,argTypes:=ats })||isLoad (.call { callee:= .builtin b,args:=as,argTypes:=ats }))=true
   ·exact builtR_pure hp h hm hne
   ·have hp' : (pureOp (.call { callee:= .builtin b,args:=as,argTypes:=ats })||isLoad (.call { callee:= .builtin b,args:=as,argTypes:=ats }))=false:=by simpa using hp
    exact builtR_mono h fun z h' h=>by rw [putO_setH] at h;exact putK_shift hm hne (kh (by unfold quiet;rw [hp'];rfl) _) h
  ·exact h.elim
 case range t x=>
  rw [he x (by simp [Op.operands])] at h
  split at h
  ·rename_i sx hx hu
   try simp only [hx]
   intro g h' e1 e2
   rw [putO_h] at h
   have:=h g h' e1 e2
   simp only [putO_setH] at this
   exact putK_shift hm hne (kh rfl _) this
  ·exact h.elim
 case next x isS=>
  cases isS with
  | false=>exact h
  | true=>
   simp only at h ⊢
   rw [he x (by simp [Op.operands])] at h
   split at h
   ·rename_i p hx
    try simp only [hx]
    rw [putO_h] at h
    obtain ⟨sx,i,h1,h2,h3⟩:=h
    refine ⟨sx,i,h1,h2,h3.mono (fun h h' e=> ?_) (fun h=>putK_shift hm hne kr h)⟩
    have:=h h' e
    simp only [putO_setH] at this
    exact putK_shift hm hne (kh rfl _) this
   ·exact h.elim
end
section
variable {P:Program} {nt:Nat} {mb vis:Nat->Bool} {K:St->Prop}
def Again (P:Program) (nt:Nat) (vis mb:Nat->Bool) (see:Bool) (o:Oper) (st:St) (v:SV):Prop:=
 ∀ (st' : St) (see' : Bool) (K' : St->Prop),(∀ x∈o.op.operands.toList,ev st' x=ev st x)->(isLoad o.op=true->(∀ i,i<st.nb->st'.B i=st.B i)/\st.nb<=st'.nb)->
  (isLoad o.op=true->see=true->see' = true/\LeH st.h st'.h)->K' (putO st' o.dst v)->opV P nt vis mb see' o st' K'
theorem putK_get {d:Option Nat} {v:SV} {st:St} (h:putK nt d v st K):K (putO st d v)/\ ∀ (st' : St) (K' : St->Prop),K' (putO st' d v)->putK nt d v st' K' := by
 cases d with
 | none=>exact ⟨h,fun _ _ h=>h⟩
 | some d=>
  simp only [putK] at h ⊢
  split at h
  ·exact ⟨h,fun _ _ h=>h⟩
  ·exact h.elim
theorem arith_get {k k' : IntKind} {z:Int} {F:Value->Prop} (h:arith k k' z F):F (.int k z)/\ ∀ G:Value->Prop,G (.int k z)->arith k k' z G:=by
 unfold arith at *
 split at h
 ·exact ⟨h _ rfl,fun G hg x e=>by rw [e];exact hg⟩
 ·exact h.elim
theorem comp_get {k k' : IntKind} {b:Bool} {F:Value->Prop} (h:comp k k' b F):F (.bool b)/\ ∀ G:Value->Prop,G (.bool b)->comp k k' b G:=by
 unfold comp at *
 split at h
 ·exact ⟨h,fun G hg=>hg⟩
 ·exact h.elim
theorem binR_get {op:BinOp} {t:TypeId} {x y:Value} {F:Value->Prop} (h:binR P op t x y F) : ∃ z,F z/\ ∀ G:Value->Prop,G z->binR P op t x y G:=by
 cases x<;>cases y<;>simp only [binR] at h ⊢ <;> try exact h.elim
 case int.int k a k' b=>
  cases op<;>simp only at h ⊢
  case shl=>obtain ⟨e,h⟩:=br_false h;exact ⟨_,h _ rfl,fun G hg=>by rw [e];exact fun z q=>by rw [q];exact hg⟩
  case shr=>obtain ⟨e,h⟩:=br_false h;exact ⟨_,h _ rfl,fun G hg=>by rw [e];exact fun z q=>by rw [q];exact hg⟩
  case quo=>obtain ⟨e,h⟩:=br_false h;obtain ⟨h1,h2⟩:=arith_get h;exact ⟨_,h1,fun G hg=>by rw [e];exact h2 G hg⟩
  case rem=>obtain ⟨e,h⟩:=br_false h;obtain ⟨h1,h2⟩:=arith_get h;exact ⟨_,h1,fun G hg=>by rw [e];exact h2 G hg⟩
  all_goals first | (obtain ⟨h1,h2⟩:=arith_get h;exact ⟨_,h1,h2⟩) | (obtain ⟨h1,h2⟩:=comp_get h;exact ⟨_,h1,h2⟩)
 case bool.bool a b=>
  split at h
  ·rename_i hb
   cases op<;>simp only at h ⊢ <;> first | exact h.elim | exact ⟨_,h,fun G hg=>hg⟩
  ·exact h.elim
 case string.string a b=>
  cases op<;>simp only at h ⊢ <;> first | exact h.elim | exact ⟨_,h,fun G hg=>hg⟩ | exact ⟨_,h.2,fun G hg=>⟨h.1,hg⟩⟩
theorem nilR_get {op:BinOp} {x:Value} {F:Value->Prop} (h:nilR op x F) : ∃ z,F z/\ ∀ G:Value->Prop,G z->nilR op x G:=by
 cases op<;>simp only [nilR] at h ⊢ <;> first | exact h.elim | exact ⟨_,h.2,fun G hg=>⟨h.1,hg⟩⟩
theorem binQ_get {c:Bool} {op:BinOp} {t:TypeId} {x y:Value} {F:Value->Prop} (h:binQ P c op t x y F) : ∃ z,F z/\ ∀ G:Value->Prop,G z->binQ P c op t x y G:=by
 cases y<;>simp only [binQ] at h ⊢ <;> first | exact binR_get h | skip
 split at h
 ·exact nilR_get h
 ·exact h.elim
theorem unR_get {op:UnOp} {x:Value} {F:Value->Prop} (h:unR op x F) : ∃ z,F z/\ ∀ G:Value->Prop,G z->unR op x G:=by
 cases op<;>cases x<;>simp only [unR] at h ⊢ <;> first | exact h.elim | exact ⟨_,h,fun G hg=>hg⟩ | exact ⟨_,h _ rfl,fun G hg z e=>by rw [e];exact hg⟩
theorem convR_get {s d:TypeId} {x:Value} {F:Value->Prop} (h:convR P s d x F) : ∃ z,F z/\ ∀ G:Value->Prop,G z->convR P s d x G:=by
 unfold convR at *
 split at h
 ·exact ⟨_,h,fun G hg=>hg⟩
 ·exact ⟨_,h,fun G hg=>hg⟩
 ·exact ⟨_,h,fun G hg=>hg⟩
 ·exact h.elim
theorem boundR_get {x:Option Value} {d lo hi:Nat} {F:Nat->Prop} (h:boundR x d lo hi F) : ∃ z,F z/\ ∀ G:Nat->Prop,G z->boundR x d lo hi G:=by
 cases x with
 | none=>exact ⟨_,h,fun G hg=>hg⟩
 | some v=>cases v<;>simp only [boundR] at h ⊢ <;> first | exact h.elim | exact ⟨_,h.2.2,fun G hg=>⟨h.1,h.2.1,hg⟩⟩
theorem sliceR_get {t:TypeId} {x:Value} {lo hi:Option Value} {F:Value->Prop} (h:sliceR P t x lo hi F) : ∃ z,F z/\ ∀ G:Value->Prop,G z->sliceR P t x lo hi G:=by
 unfold sliceR at *
 split at h
 ·obtain ⟨a,h,h1⟩:=boundR_get h
  obtain ⟨b,h,h2⟩:=boundR_get h
  exact ⟨_,h,fun G hg=>h1 _ (h2 _ hg)⟩
 ·split at h
  ·split at h
   ·obtain ⟨a,h,h1⟩:=boundR_get h
    exact ⟨_,h,fun G hg=>h1 _ hg⟩
   ·obtain ⟨a,h,h1⟩:=boundR_get h
    obtain ⟨b,h,h2⟩:=boundR_get h
    exact ⟨_,h,fun G hg=>h1 _ (h2 _ hg)⟩
  ·exact h.elim
 ·exact h.elim
theorem partR_get {t:TypeId} {cs:List Value} {off:Nat} {F:Value->Prop} (h:partR P t cs off F) : ∃ z,F z/\ ∀ G:Value->Prop,G z->partR P t cs off G:=by
 unfold partR at *
 split at h
 ·rename_i ag n _ _
  split at h
  ·cases ag<;>simp only at h ⊢
   ·split at h
    ·exact ⟨_,h,fun G hg=>hg⟩
    ·exact h.elim
   ·exact ⟨_,h,fun G hg=>hg⟩
  ·exact h.elim
 ·exact h.elim
theorem evs_congr {st st' : St} : ∀ (l:List Operand),(∀ x∈l,ev st' x=ev st x)->evs st' l=evs st l
 | [],_=>rfl
 | x::r,h=>by simp only [evs];rw [h x (by simp),evs_congr r fun y hy=>h y (by simp [hy])]
theorem partsV_congr {st st' : St} : ∀ (l:List (Nat×Operand)),(∀ x∈l,ev st' x.2=ev st x.2)->partsV st' l=partsV st l
 | [],_=>rfl
 | (i,x)::r,h=>by simp only [partsV];rw [h (i,x) (by simp),partsV_congr r fun y hy=>h y (by simp [hy])]
theorem exL_shape : ∀ (ss:List Sh) {F:List Value->Prop},exL ss F-> ∃ vs,(∀ G:List Value->Prop,G vs->exL ss G)/\F vs
 | [],F,h=>⟨[],fun _ hg=>hg,h⟩
 | sh::r,F,h=>by
  cases sh with
  | int k=>obtain ⟨n,h⟩:=h;obtain ⟨vs,hl,hF⟩:=exL_shape r h;exact ⟨_,fun G hg=>⟨n,hl _ hg⟩,hF⟩
  | bool=>obtain ⟨n,h⟩:=h;obtain ⟨vs,hl,hF⟩:=exL_shape r h;exact ⟨_,fun G hg=>⟨n,hl _ hg⟩,hF⟩
  | str=>obtain ⟨n,h⟩:=h;obtain ⟨vs,hl,hF⟩:=exL_shape r h;exact ⟨_,fun G hg=>⟨n,hl _ hg⟩,hF⟩
  | slice=>obtain ⟨A,n,c,h⟩:=h;obtain ⟨vs,hl,hF⟩:=exL_shape r h;exact ⟨_,fun G hg=>⟨A,n,c,hl _ hg⟩,hF⟩
  | ptr=>obtain ⟨n,h⟩:=h;obtain ⟨vs,hl,hF⟩:=exL_shape r h;exact ⟨_,fun G hg=>⟨n,hl _ hg⟩,hF⟩
  | any=>obtain ⟨n,h⟩:=h;obtain ⟨vs,hl,hF⟩:=exL_shape r h;exact ⟨_,fun G hg=>⟨n,hl _ hg⟩,hF⟩
set_option maxHeartbeats 1000000 in
theorem still_ev {see:Bool} {o:Oper} {st:St} (hs:(pureOp o.op||isLoad o.op)=true) (h:opV P nt vis mb see o st K) : ∃ v,K (putO st o.dst v)/\Again P nt vis mb see o st v:=by
 obtain ⟨dst,op,type,pos,after,guard⟩:=o
 cases op<;>simp only [opV] at h<;>try exact h.elim
 case move x=>
  split at h
  ·rename_i u hx
   obtain ⟨h1,h2⟩:=putK_get h
   refine ⟨u,h1,fun st' see' K' he _ _ hk=> ?_⟩
   simp only [opV,he x (by simp [Op.operands]),hx]
   exact h2 _ _ hk
  ·exact h.elim
 case assign x=>
  split at h
  ·rename_i u hx
   obtain ⟨h1,h2⟩:=putK_get h
   refine ⟨u,h1,fun st' see' K' he _ _ hk=> ?_⟩
   simp only [opV,he x (by simp [Op.operands]),hx]
   exact h2 _ _ hk
  ·exact h.elim
 case pick c x y=>
  split at h
  ·rename_i t hc
   cases t with
   | true=>
    simp only [Br] at h
    split at h
    ·rename_i u hx
     obtain ⟨h1,h2⟩:=putK_get h
     refine ⟨u,h1,fun st' see' K' he _ _ hk=> ?_⟩
     simp only [opV,he c (by simp [Op.operands]),he x (by simp [Op.operands]),hc,hx,Br]
     exact h2 _ _ hk
    ·exact h.elim
   | false=>
    simp only [Br] at h
    split at h
    ·rename_i u hx
     obtain ⟨h1,h2⟩:=putK_get h
     refine ⟨u,h1,fun st' see' K' he _ _ hk=> ?_⟩
     simp only [opV,he c (by simp [Op.operands]),he y (by simp [Op.operands]),hc,hx,Br]
     exact h2 _ _ hk
    ·exact h.elim
  ·exact h.elim
 case binOp op t x y ty=>
  split at h
  ·rename_i u z hx hy
   obtain ⟨r,h,h3⟩:=binQ_get h
   obtain ⟨h1,h2⟩:=putK_get h
   refine ⟨.v r,h1,fun st' see' K' he _ _ hk=> ?_⟩
   simp only [opV,he x (by simp [Op.operands]),he y (by simp [Op.operands]),hx,hy]
   exact h3 _ (h2 _ _ hk)
  ·exact h.elim
 case unOp op t x=>
  split at h
  ·rename_i u hx
   obtain ⟨r,h,h3⟩:=unR_get h
   obtain ⟨h1,h2⟩:=putK_get h
   refine ⟨.v r,h1,fun st' see' K' he _ _ hk=> ?_⟩
   simp only [opV,he x (by simp [Op.operands]),hx]
   exact h3 _ (h2 _ _ hk)
  ·exact h.elim
 case convert t t' x=>
  split at h
  ·rename_i u hx
   obtain ⟨r,h,h3⟩:=convR_get h
   obtain ⟨h1,h2⟩:=putK_get h
   refine ⟨.v r,h1,fun st' see' K' he _ _ hk=> ?_⟩
   simp only [opV,he x (by simp [Op.operands]),hx]
   exact h3 _ (h2 _ _ hk)
  ·exact h.elim
 case nilCheck x=>
  split at h
  ·rename_i i off hx
   obtain ⟨h1,h2⟩:=putK_get h
   refine ⟨_,h1,fun st' see' K' he _ _ hk=> ?_⟩
   simp only [opV,he x (by simp [Op.operands]),hx]
   exact h2 _ _ hk
  ·rename_i p hx
   obtain ⟨h1,h2⟩:=putK_get h
   refine ⟨_,h1,fun st' see' K' he _ _ hk=> ?_⟩
   simp only [opV,he x (by simp [Op.operands]),hx]
   exact h2 _ _ hk
  ·exact h.elim
 case build t ps=>
  split at h
  ·rename_i l hl
   split at h
   ·rename_i cs hc
    obtain ⟨h1,h2⟩:=putK_get h
    refine ⟨_,h1,fun st' see' K' he _ _ hk=> ?_⟩
    simp only [opV]
    rw [partsV_congr _ fun y hy=>he y.2 (by simp [Op.operands];exact ⟨y.1,by simpa using hy⟩),hl]
    simp only [hc]
    exact h2 _ _ hk
   ·exact h.elim
  ·exact h.elim
 case load t x=>
  split at h
  ·rename_i i off ag n hx ha hn
   split at h
   ·rename_i hc
    obtain ⟨h1,h2⟩:=putK_get h
    refine ⟨_,h1,fun st' see' K' he hb _ hk=> ?_⟩
    obtain ⟨hb1,hb2⟩:=hb rfl
    have hlt:i<st.nb:=by
     simp only [Bool.and_eq_true] at hc
     simpa [Nat.blt_eq] using hc.1
    have hlt' : Nat.blt i st'.nb=true:=by simp [Nat.blt_eq];omega
    simp only [Bool.and_eq_true] at hc
    have hB:=hb1 i hlt
    simp only [opV,he x (by simp [Op.operands]),hx,ha,hn,hB,hlt', Bool.true_and]
    have hc2:=hc.2
    simp only [<- Bool.and_eq_true] at hc2
    rw [hc2]
    exact h2 _ _ hk
   ·exact h.elim
  ·rename_i p ag n hx ha hn
   split at h
   ·rename_i hc
    simp only [Bool.and_eq_true] at hc
    obtain ⟨⟨⟨hsee,hlen⟩,hag⟩,hn1⟩:=hc
    have key : ∃ v,K (putO st dst v)/\ ∀ (hh:Heap) (st' : St) (K' : St->Prop),LeH st.h hh->K' (putO st' dst v)->exL (tyShs P 12 t) fun vs=>LdN hh p vs/\putK nt dst (.v (valOf ag vs)) st' K' := by
     clear hlen hag hn1
     revert h
     generalize hF:(fun vs=>LdN st.h p vs/\putK nt dst (.v (valOf ag vs)) st K)=F
     intro h
     obtain ⟨vs,hpay,hv⟩:=exL_shape _ h
     rw [<- hF] at hv
     obtain ⟨hv1,hv2⟩:=hv
     obtain ⟨h1,h2⟩:=putK_get hv2
     exact ⟨_,h1,fun hh st' K' e hk=>hpay _ ⟨⟨hv1.1,let ⟨b,q1,q2⟩:=hv1.2;⟨b,e _ _ q1,q2⟩⟩,h2 _ _ hk⟩⟩
    obtain ⟨v,h1,h2⟩:=key
    refine ⟨v,h1,fun st' see' K' he _ hv hk=> ?_⟩
    obtain ⟨e1,e2⟩:=hv rfl hsee
    simp only [opV,he x (by simp [Op.operands]),hx,ha,hn,e1,hlen,hag,hn1,Bool.and_self]
    exact h2 _ _ _ e2 hk
   ·exact h.elim
  ·exact h.elim
 case fieldAddr t x i=>
  split at h
  ·rename_i id off fo hx hf
   obtain ⟨h1,h2⟩:=putK_get h
   refine ⟨_,h1,fun st' see' K' he _ _ hk=> ?_⟩
   simp only [opV,he x (by simp [Op.operands]),hx,hf]
   exact h2 _ _ hk
  ·rename_i p fo hx hf
   obtain ⟨h1,h2⟩:=putK_get h
   refine ⟨_,h1,fun st' see' K' he _ _ hk=> ?_⟩
   simp only [opV,he x (by simp [Op.operands]),hx,hf]
   exact h2 _ _ hk
  ·exact h.elim
 case field t x i=>
  split at h
  ·rename_i cs f hx hf
   obtain ⟨r,h,h3⟩:=partR_get h
   obtain ⟨h1,h2⟩:=putK_get h
   refine ⟨.v r,h1,fun st' see' K' he _ _ hk=> ?_⟩
   simp only [opV,he x (by simp [Op.operands]),hx,hf]
   exact h3 _ (h2 _ _ hk)
  ·exact h.elim
 case indexAddr t x ix=>
  split at h
  ·rename_i A n c k i e hx hix hel
   split at h
   ·rename_i sz hsz
    obtain ⟨ad,q1,q2,q3,h⟩:=h
    obtain ⟨h1,h2⟩:=putK_get h
    refine ⟨_,h1,fun st' see' K' he _ _ hk=> ?_⟩
    simp only [opV,he x (by simp [Op.operands]),he ix (by simp [Op.operands]),hx,hix,hel,hsz]
    exact ⟨ad,q1,q2,q3,h2 _ _ hk⟩
   ·exact h.elim
  ·rename_i p k i hx hix hel
   split at h
   ·rename_i n sz hsz
    obtain ⟨q2,q3,h⟩:=h
    obtain ⟨h1,h2⟩:=putK_get h
    refine ⟨_,h1,fun st' see' K' he _ _ hk=> ?_⟩
    simp only [opV,he x (by simp [Op.operands]),he ix (by simp [Op.operands]),hx,hix,hel,hsz]
    exact ⟨q2,q3,h2 _ _ hk⟩
   ·exact h.elim
  ·exact h.elim
 case index t x ix=>
  split at h
  ·rename_i sx k i hx hix hu
   obtain ⟨b,q1,q2,h⟩:=h
   obtain ⟨h1,h2⟩:=putK_get h
   refine ⟨_,h1,fun st' see' K' he _ _ hk=> ?_⟩
   simp only [opV,he x (by simp [Op.operands]),he ix (by simp [Op.operands]),hx,hix,hu]
   exact ⟨b,q1,q2,h2 _ _ hk⟩
  ·exact h.elim
 case slice t x lo hi mx=>
  cases mx with
  | some _=>exact h.elim
  | none=>
   simp only at h
   split at h
   ·rename_i u l q hx hl hq
    obtain ⟨r,h,h3⟩:=sliceR_get h
    obtain ⟨h1,h2⟩:=putK_get h
    refine ⟨.v r,h1,fun st' see' K' he _ _ hk=> ?_⟩
    have el:evO st' lo=evO st lo:=by
     cases lo with
     | none=>rfl
     | some l=>simp only [evO];rw [he l (by simp [Op.operands])]
    have eh:evO st' hi=evO st hi:=by
     cases hi with
     | none=>rfl
     | some l=>simp only [evO];rw [he l (by simp [Op.operands])]
    simp only [opV,he x (by simp [Op.operands]),el,eh,hx,hl,hq]
    exact h3 _ (h2 _ _ hk)
   ·exact h.elim
 case extract x i=>
  split at h
  ·rename_i vs hx
   split at h
   ·rename_i z hz
    obtain ⟨h1,h2⟩:=putK_get h
    refine ⟨_,h1,fun st' see' K' he _ _ hk=> ?_⟩
    simp only [opV,he x (by simp [Op.operands]),hx,hz]
    exact h2 _ _ hk
   ·exact h.elim
  ·exact h.elim
 case call c=>
  obtain ⟨callee,as,ats⟩:=c
  simp only at h
  split at h
  ·rename_i f args ha;cases hs
  ·rename_i b args ha
   obtain ⟨z,h,h3⟩:=builtR_still hs h
   obtain ⟨h1,h2⟩:=putK_get h
   refine ⟨.v z,h1,fun st' see' K' he _ _ hk=> ?_⟩
   simp only [opV]
   rw [evs_congr _ fun y hy=>he y (by simp only [Op.operands,Call.operands];simpa using hy),ha]
   exact h3 _ _ (h2 _ _ hk)
  ·exact h.elim
 case next x isS=>cases isS<;>cases hs
 all_goals cases hs
end
def swp (a b i:Nat):Nat:=if i=a then b else if i=b then a else i
theorem swp_swp (a b i:Nat):swp a b (swp a b i)=i:=by unfold swp;grind
theorem swp_lt {a b n i:Nat} (ha:a<n) (hb:b<n):swp a b i<n↔i<n:=by unfold swp;grind
theorem swp_ge {a b n i:Nat} (ha:n<=a) (hb:n<=b) (hi:i<n):swp a b i=i:=by unfold swp;grind
theorem swp_out {a b i:Nat} (ha:i≠a) (hb:i≠b):swp a b i=i:=by unfold swp;grind
theorem swp_inj {a b i j:Nat} (h:swp a b i=swp a b j):i=j:=by
 have:=congrArg (swp a b) h
 rwa [swp_swp,swp_swp] at this
def SV.ren (a b:Nat):SV->SV
 | .v x=> .v x
 | .bx i off=> .bx (swp a b i) off
theorem SV.ren_ren (a b:Nat) (s:SV):(s.ren a b).ren a b=s:=by cases s<;>simp [SV.ren,swp_swp]
def ren (a b:Nat) (st:St):St:=⟨fun t=>(st.f t).map (SV.ren a b),fun i=>st.B (swp a b i),st.nb,st.h⟩
theorem ren_ren (a b:Nat) (st:St):ren a b (ren a b st)=st:=by
 obtain ⟨f,B,nb,h⟩:=st
 simp only [ren,St.mk.injEq,swp_swp,and_true,and_self]
 funext t
 cases f t with
 | none=>rfl
 | some x=>simp [SV.ren_ren]
theorem ren_put (a b:Nat) (st:St) (d:Nat) (v:SV):ren a b (st.put d v)=(ren a b st).put d (v.ren a b):=by
 simp only [ren,St.put,St.mk.injEq,and_true]
 funext t
 cases hb:Nat.beq t d<;>rfl
theorem ev_ren (a b:Nat) (st:St) (x:Operand):ev (ren a b st) x=(ev st x).map (SV.ren a b):=by cases x<;>rfl
section
variable {P:Program} {nt:Nat} {mb vis:Nat->Bool} {K:St->Prop} {a b:Nat} {st:St}
theorem ev_v {x:Operand} {u:Value} (h:ev (ren a b st) x=some (.v u)):ev st x=some (.v u):=by
 rw [ev_ren] at h
 cases hx:ev st x with
 | none=>rw [hx] at h;cases h
 | some y=>
  rw [hx] at h
  cases y with
  | v z=>simpa [SV.ren] using h
  | bx i o=>simp [SV.ren] at h
theorem ev_bx {x:Operand} {i off:Nat} (h:ev (ren a b st) x=some (.bx i off)):ev st x=some (.bx (swp a b i) off):=by
 rw [ev_ren] at h
 cases hx:ev st x with
 | none=>rw [hx] at h;cases h
 | some y=>
  rw [hx] at h
  cases y with
  | v z=>simp [SV.ren] at h
  | bx j o=>
   simp only [Option.map_some,SV.ren,Option.some.injEq,SV.bx.injEq] at h
   rw [<- h.1,swp_swp,h.2]
theorem ev_any {x:Operand} {u:SV} (h:ev (ren a b st) x=some u):ev st x=some (u.ren a b):=by
 rw [ev_ren] at h
 cases hx:ev st x with
 | none=>rw [hx] at h;cases h
 | some y=>
  rw [hx] at h
  simp only [Option.map_some,Option.some.injEq] at h
  rw [<- h,SV.ren_ren]
theorem evs_ren : ∀ (l:List Operand),evs (ren a b st) l=evs st l
 | []=>rfl
 | x::r=>by
  simp only [evs,evs_ren r,ev_ren]
  cases ev st x with
  | none=>rfl
  | some y=>cases y<;>rfl
theorem partsV_ren : ∀ (l:List (Nat×Operand)),partsV (ren a b st) l=partsV st l
 | []=>rfl
 | (i,x)::r=>by
  simp only [partsV,partsV_ren r,ev_ren]
  cases ev st x with
  | none=>rfl
  | some y=>cases y<;>rfl
theorem evO_ren (x:Option Operand):evO (ren a b st) x=evO st x:=by
 cases x with
 | none=>rfl
 | some l=>
  simp only [evO,ev_ren]
  cases ev st l with
  | none=>rfl
  | some y=>cases y<;>rfl
theorem putK_ren {d:Option Nat} {v:SV} (h:putK nt d (v.ren a b) (ren a b st) K):putK nt d v st fun st' => K (ren a b st'):=by
 cases d with
 | none=>exact h
 | some d=>
  simp only [putK] at h ⊢
  split
  ·rename_i hb
   simp only [hb] at h
   rw [ren_put]
   exact h
  ·rename_i hb
   simp only [hb] at h
theorem boxR_ren (ha:a<st.nb) (hb:b<st.nb) {d:Option Nat} {t:TypeId} {cells:List Value} (h:boxR nt vis d t cells (ren a b st) K):boxR nt vis d t cells st fun st' => K (ren a b st'):=by
 unfold boxR at *
 split
 ·rename_i h1
  simp only [h1] at h
  split
  ·rename_i h2
   simp only [h2] at h
   intro g h' e1 e2
   exact putK_ren (st:=st.setH h') (v:= .v (.pointer (some ⟨g,0,none⟩))) (h g h' e1 e2)
  ·rename_i h2
   simp only [h2] at h
   have hn:swp a b st.nb=st.nb:=swp_out (by omega) (by omega)
   refine putK_ren (st:={ st with nb:=st.nb+1,B:=fun i=>bif Nat.beq i st.nb then cells else st.B i }) (v:= .bx st.nb 0) ?_
   have e:ren a b { st with nb:=st.nb+1,B:=fun i=>bif Nat.beq i st.nb then cells else st.B i }={ ren a b st with nb:=(ren a b st).nb+1,B:=fun i=>bif Nat.beq i (ren a b st).nb then cells else (ren a b st).B i }:=by
    simp only [ren,St.mk.injEq,true_and,and_true]
    funext i
    by_cases q:i=st.nb
    ·subst q;rw [hn]
    ·have q2:swp a b i≠st.nb:=fun q2=>q (swp_inj (q2.trans hn.symm))
     rw [beq_ne q,beq_ne q2]
   rw [e]
   simp only [SV.ren,hn]
   exact h
 ·rename_i h1
  simp only [h1] at h
set_option maxHeartbeats 1000000 in
theorem opV_ren (ha:a<st.nb) (hb:b<st.nb) (ma:mb a=true) (mbb:mb b=true) {see:Bool} {o:Oper} (h:opV P nt vis mb see o (ren a b st) K):opV P nt vis mb see o st fun st' => K (ren a b st'):=by
 have hmb : ∀ i,mb (swp a b i)=mb i:=fun i=>by unfold swp;split;rename_i e;rw [e,ma,mbb];split;rename_i e;rw [e,ma,mbb];rfl
 have hB : ∀ i,(ren a b st).B i=st.B (swp a b i):=fun _=>rfl
 have hlt : ∀ i,Nat.blt (swp a b i) st.nb=Nat.blt i (ren a b st).nb:=fun i=>by
  rw [Bool.eq_iff_iff,Nat.blt_eq,Nat.blt_eq]
  exact swp_lt ha hb
 obtain ⟨dst,op,type,pos,after,guard⟩:=o
 cases op<;>simp only [opV] at h ⊢ <;> try exact h
 case move x=>
  split at h
  ·rename_i u hx
   simp only [ev_any hx]
   refine putK_ren ?_
   rw [SV.ren_ren]
   exact h
  ·exact h.elim
 case assign x=>
  split at h
  ·rename_i u hx
   simp only [ev_any hx]
   refine putK_ren ?_
   rw [SV.ren_ren]
   exact h
  ·exact h.elim
 case pick c x y=>
  split at h
  ·rename_i t hc
   simp only [ev_v hc]
   refine h.mono (fun h=> ?_) (fun h=> ?_)
   ·split at h
    ·rename_i u hx
     simp only [ev_any hx]
     refine putK_ren ?_
     rw [SV.ren_ren]
     exact h
    ·exact h.elim
   ·split at h
    ·rename_i u hx
     simp only [ev_any hx]
     refine putK_ren ?_
     rw [SV.ren_ren]
     exact h
    ·exact h.elim
  ·exact h.elim
 case binOp op t x y ty=>
  split at h
  ·rename_i u z hx hy;simp only [ev_v hx,ev_v hy]
   exact binQ_mono h fun z h=>putK_ren (v:= .v z) h
  ·exact h.elim
 case unOp op t x=>
  split at h
  ·rename_i u hx
   simp only [ev_v hx]
   exact unR_mono h fun z h=>putK_ren (v:= .v z) h
  ·exact h.elim
 case convert t t' x=>
  split at h
  ·rename_i u hx
   simp only [ev_v hx]
   exact convR_mono h fun z h=>putK_ren (v:= .v z) h
  ·exact h.elim
 case nilCheck x=>
  split at h
  ·rename_i i off hx;simp only [ev_bx hx]
   refine putK_ren ?_
   simp only [SV.ren,swp_swp]
   exact h
  ·rename_i p hx;simp only [ev_v hx]
   exact putK_ren (v:= .v (.pointer (some p))) h
  ·exact h.elim
 case alloc t=>
  split at h
  ·rename_i z hz;exact boxR_ren ha hb h
  ·exact h.elim
 case box t x=>
  split at h
  ·rename_i u hx
   simp only [ev_v hx]
   exact boxR_ren ha hb h
  ·exact h.elim
 case build t ps=>
  rw [partsV_ren] at h
  split at h
  ·rename_i l hl
   try simp only [hl]
   split at h
   ·rename_i cs hc
    try simp only [hc]
    exact putK_ren (v:= .v (.agg cs.toArray)) h
   ·exact h.elim
  ·exact h.elim
 case buildSlice t n ps=>
  rw [partsV_ren] at h
  split at h
  ·rename_i e hel
   try simp only [hel]
   split at h
   ·rename_i z sz l hz hsz hl
    try simp only [hz,hsz,hl]
    split at h
    ·rename_i cs hc hcs
     try simp only [hc,hcs]
     intro g h' e1 e2
     exact putK_ren (st:=st.setH h') (v:= .v (.slice (some ⟨g,0,none⟩) n n)) (h g h' e1 e2)
    ·exact h.elim
   ·exact h.elim
  ·exact h.elim
 case load t x=>
  split at h
  ·rename_i i off ag n hx hag hn
   simp only [ev_bx hx,hag,hn,hlt]
   rw [hB] at h
   split at h
   ·rename_i hc
    try simp only [hc]
    exact putK_ren (v:= .v _) h
   ·exact h.elim
  ·rename_i p ag n hx hag hn
   simp only [ev_v hx,hag,hn]
   split at h
   ·rename_i hc
    try simp only [hc]
    exact exL_mono _ h fun vs ⟨h1,h2⟩=>⟨h1,putK_ren (v:= .v _) h2⟩
   ·exact h.elim
  ·exact h.elim
 case store t x y=>
  split at h
  ·rename_i i off u n hx hy hn
   simp only [ev_bx hx,ev_v hy,hn,hmb]
   rw [hB] at h
   split at h
   ·rename_i hc
    try simp only [hc]
    have e:(ren a b st).setB i (setSeg (st.B (swp a b i)) off (vcells u))=ren a b (st.setB (swp a b i) (setSeg (st.B (swp a b i)) off (vcells u))):=by
     simp only [ren,St.setB,St.mk.injEq,true_and,and_true]
     funext j
     by_cases q:j=i
     ·subst q;simp
     ·have q2:swp a b j≠swp a b i:=fun q2=>q (swp_inj q2)
      rw [beq_ne q,beq_ne q2]
    rw [e] at h
    exact putK_ren (v:= .v undef) h
   ·exact h.elim
  ·rename_i p u n hx hy hn
   simp only [ev_v hx,ev_v hy,hn]
   split at h
   ·rename_i hc
    try simp only [hc]
    obtain ⟨b', h1,h2,h3,h4,h5⟩:=h
    exact ⟨b', h1,h2,h3,h4,fun h' e=>putK_ren (st:=st.setH h') (v:= .v undef) (h5 h' e)⟩
   ·exact h.elim
  ·exact h.elim
 case fieldAddr t x i=>
  split at h
  ·rename_i id off fo hx hf;simp only [ev_bx hx,hf]
   refine putK_ren ?_
   simp only [SV.ren,swp_swp]
   exact h
  ·rename_i p fo hx hf;simp only [ev_v hx,hf]
   exact putK_ren (v:= .v _) h
  ·exact h.elim
 case field t x i=>
  split at h
  ·rename_i cs f hx hf;simp only [ev_v hx,hf]
   exact partR_mono h fun z h=>putK_ren (v:= .v z) h
  ·exact h.elim
 case indexAddr t x ix=>
  split at h
  ·rename_i A n c k i e hx hix hel
   simp only [ev_v hx,ev_v hix,hel]
   split at h
   ·rename_i sz hsz
    try simp only [hsz]
    obtain ⟨ad,h1,h2,h3,h4⟩:=h
    exact ⟨ad,h1,h2,h3,putK_ren (v:= .v _) h4⟩
   ·exact h.elim
  ·rename_i p k i hx hix hel
   simp only [ev_v hx,ev_v hix,hel]
   split at h
   ·rename_i n sz hsz
    try simp only [hsz]
    obtain ⟨h2,h3,h4⟩:=h
    exact ⟨h2,h3,putK_ren (v:= .v _) h4⟩
   ·exact h.elim
  ·exact h.elim
 case index t x ix=>
  split at h
  ·rename_i sx k i hx hix hu
   simp only [ev_v hx,ev_v hix,hu]
   obtain ⟨c,h1,h2,h4⟩:=h
   exact ⟨c,h1,h2,putK_ren (v:= .v _) h4⟩
  ·exact h.elim
 case slice t x lo hi mx=>
  cases mx with
  | some _=>exact h
  | none=>
   simp only at h ⊢
   rw [evO_ren,evO_ren] at h
   split at h
   ·rename_i u l q hx hl hq;simp only [ev_v hx,hl,hq]
    exact sliceR_mono h fun z h=>putK_ren (v:= .v z) h
   ·exact h.elim
 case makeSlice t l c=>
  split at h
  ·rename_i k1 n k2 k e hl hc hel
   simp only [ev_v hl,ev_v hc,hel]
   split at h
   ·rename_i i z hi hz
    try simp only [hi,hz]
    split at h
    ·rename_i hcc
     try simp only [hcc]
     obtain ⟨h1,h2,h3,h4,h5⟩:=h
     exact ⟨h1,h2,h3,h4,fun g h' e1 e2=>putK_ren (st:=st.setH h') (v:= .v (.slice (some ⟨g,0,none⟩) n.toNat k.toNat)) (h5 g h' e1 e2)⟩
    ·exact h.elim
   ·exact h.elim
  ·exact h.elim
 case extract x i=>
  split at h
  ·rename_i vs hx
   simp only [ev_v hx]
   split at h
   ·rename_i z hz
    try simp only [hz]
    exact putK_ren (v:= .v z) h
   ·exact h.elim
  ·exact h.elim
 case call c=>
  obtain ⟨callee,as,ats⟩:=c
  simp only at h ⊢
  rw [evs_ren] at h
  split at h
  ·rename_i f args hargs
   try simp only [hargs]
   exact h.mono fun z h' h=>resR_mono h fun z h=>putK_ren (st:=st.setH h') (v:= .v z) h
  ·rename_i bi args hargs
   try simp only [hargs]
   exact builtR_mono h fun z h' h=>putK_ren (st:=st.setH h') (v:= .v z) h
  ·exact h.elim
 case range t x=>
  split at h
  ·rename_i sx hx hu
   simp only [ev_v hx,hu]
   intro g h' e1 e2
   exact putK_ren (st:=st.setH h') (v:= .v (.pointer (some ⟨g,0,none⟩))) (h g h' e1 e2)
  ·exact h.elim
 case next x isS=>
  cases isS with
  | false=>exact h
  | true=>
   simp only at h ⊢
   split at h
   ·rename_i p hx
    simp only [ev_v hx]
    obtain ⟨sx,i,h1,h2,h3⟩:=h
    exact ⟨sx,i,h1,h2,h3.mono (fun h h' e=>putK_ren (st:=st.setH h') (v:= .v _) (h h' e)) (fun h=>putK_ren (v:= .v _) h)⟩
   ·exact h.elim
theorem opG_ren {ops:List Oper} (ha:a<st.nb) (hb:b<st.nb) (ma:mb a=true) (mbb:mb b=true) {see:Bool} {o:Oper} (h:opG P nt vis mb ops see o (ren a b st) K):opG P nt vis mb ops see o st fun st' => K (ren a b st'):=by
 unfold opG at h ⊢
 split
 ·rename_i hg
  simp only [hg] at h
  exact opV_ren ha hb ma mbb h
 ·rename_i j want hg
  simp only [hg] at h
  split
  ·rename_i hj;simp only [hj] at h
  ·rename_i g hj
   simp only [hj] at h
   have hf:(ren a b st).f g=(st.f g).map (SV.ren a b):=rfl
   rw [hf] at h
   cases hs:st.f g with
   | none=>rw [hs] at h;exact h.elim
   | some y=>
    rw [hs] at h
    cases y with
    | bx i o=>exact h.elim
    | v z=>
     simp only [Option.map_some,SV.ren] at h ⊢
     cases z<;>try exact h.elim
     case bool t=>
      simp only at h ⊢
      refine Br.mono h (fun h=> ?_) (fun h=> ?_)
      ·cases want
       ·exact putK_ren (st:=st.put g (.v (.bool true))) (v:= .v undef) (by rw [ren_put];exact h)
       ·exact opV_ren (st:=st.put g (.v (.bool true))) ha hb ma mbb (by rw [ren_put];exact h)
      ·cases want
       ·exact opV_ren (st:=st.put g (.v (.bool false))) ha hb ma mbb (by rw [ren_put];exact h)
       ·exact putK_ren (st:=st.put g (.v (.bool false))) (v:= .v undef) (by rw [ren_put];exact h)
     case tuple t=>exact putK_ren (v:= .v undef) h
end
def WF (st:St):Prop:= ∀ t i off,st.f t=some (.bx i off)->i<st.nb
theorem ev_sok {st:St} {x:Operand} {u:SV} (hw:WF st) (h:ev st x=some u):u.ok st:=by
 cases u with
 | v z=>trivial
 | bx i off=>
  cases x with
  | tmp t=>exact hw t i off h
  | const _=>cases h
  | global _=>cases h
  | func _=>cases h
section
variable {P:Program} {nt:Nat} {mb vis:Nat->Bool} {K:St->Prop} {st:St}
theorem WF.put (hw:WF st) {d:Nat} {v:SV} (hv:v.ok st):WF (st.put d v):=fun t i off h=>by
 simp only [St.put] at h
 cases hb:Nat.beq t d with
 | true=>
  rw [hb] at h
  simp only [cond_true,Option.some.injEq] at h
  subst h
  exact hv
 | false=>
  rw [hb] at h
  exact hw t i off h
theorem putK_wf {d:Option Nat} {v:SV} (hw:WF st) (hv:v.ok st) (h:putK nt d v st K):putK nt d v st fun st' => WF st' /\ K st' := by
 cases d with
 | none=>exact ⟨hw,h⟩
 | some d=>
  simp only [putK] at h ⊢
  split
  ·rename_i hb
   simp only [hb] at h
   exact ⟨hw.put hv,h⟩
  ·rename_i hb
   simp only [hb] at h
theorem boxR_wf (hw:WF st) {d:Option Nat} {t:TypeId} {cells:List Value} (h:boxR nt vis d t cells st K):boxR nt vis d t cells st fun st' => WF st' /\ K st' := by
 unfold boxR at *
 split
 ·rename_i h1
  simp only [h1] at h
  split
  ·rename_i h2
   simp only [h2] at h
   intro g h' e1 e2
   exact putK_wf (st:=st.setH h') hw trivial (h g h' e1 e2)
  ·rename_i h2
   simp only [h2] at h
   exact putK_wf (st:={ st with nb:=st.nb+1,B:=fun i=>bif Nat.beq i st.nb then cells else st.B i }) (fun t i off h=>Nat.lt_succ_of_lt (hw t i off h)) (Nat.lt_succ_self _) h
 ·rename_i h1
  simp only [h1] at h
set_option maxHeartbeats 1000000 in
theorem opV_wf (hw:WF st) {see:Bool} {o:Oper} (h:opV P nt vis mb see o st K):opV P nt vis mb see o st fun st' => WF st' /\ K st' := by
 obtain ⟨dst,op,type,pos,after,guard⟩:=o
 cases op<;>simp only [opV] at h ⊢ <;> try exact h.elim
 case move x=>
  split at h
  ·rename_i u hx
   try simp only [hx]
   exact putK_wf hw (ev_sok hw hx) h
  ·exact h.elim
 case assign x=>
  split at h
  ·rename_i u hx
   try simp only [hx]
   exact putK_wf hw (ev_sok hw hx) h
  ·exact h.elim
 case pick c x y=>
  split at h
  ·rename_i t hc
   try simp only [hc]
   refine h.mono (fun h=> ?_) (fun h=> ?_)
   ·split at h
    ·rename_i u hx
     try simp only [hx]
     exact putK_wf hw (ev_sok hw hx) h
    ·exact h.elim
   ·split at h
    ·rename_i u hx
     try simp only [hx]
     exact putK_wf hw (ev_sok hw hx) h
    ·exact h.elim
  ·exact h.elim
 case binOp op t x y ty=>
  split at h
  ·rename_i u z hx hy;try simp only [hx,hy]
   exact binQ_mono h fun z h=>putK_wf hw trivial h
  ·exact h.elim
 case unOp op t x=>
  split at h
  ·rename_i u hx
   try simp only [hx]
   exact unR_mono h fun z h=>putK_wf hw trivial h
  ·exact h.elim
 case convert t t' x=>
  split at h
  ·rename_i u hx
   try simp only [hx]
   exact convR_mono h fun z h=>putK_wf hw trivial h
  ·exact h.elim
 case nilCheck x=>
  split at h
  ·rename_i i off hx;try simp only [hx]
   exact putK_wf hw (ev_sok (x:=x) hw hx) h
  ·rename_i p hx;try simp only [hx]
   exact putK_wf hw trivial h
  ·exact h.elim
 case alloc t=>
  split at h
  ·rename_i z hz;exact boxR_wf hw h
  ·exact h.elim
 case box t x=>
  split at h
  ·rename_i u hx
   try simp only [hx]
   exact boxR_wf hw h
  ·exact h.elim
 case build t ps=>
  split at h
  ·rename_i l hl
   try simp only [hl]
   split at h
   ·rename_i cs hc
    try simp only [hc]
    exact putK_wf hw trivial h
   ·exact h.elim
  ·exact h.elim
 case buildSlice t n ps=>
  split at h
  ·rename_i e hel
   try simp only [hel]
   split at h
   ·rename_i z sz l hz hsz hl
    try simp only [hz,hsz,hl]
    split at h
    ·rename_i cs hc hcs
     try simp only [hc,hcs]
     intro g h' e1 e2
     exact putK_wf (st:=st.setH h') hw trivial (h g h' e1 e2)
    ·exact h.elim
   ·exact h.elim
  ·exact h.elim
 case load t x=>
  split at h
  ·rename_i i off ag n hx hag hn
   try simp only [hx,hag,hn]
   split at h
   ·rename_i hc
    try simp only [hc]
    exact putK_wf hw trivial h
   ·exact h.elim
  ·rename_i p ag n hx hag hn
   try simp only [hx,hag,hn]
   split at h
   ·rename_i hc
    try simp only [hc]
    exact exL_mono _ h fun vs ⟨h1,h2⟩=>⟨h1,putK_wf hw trivial h2⟩
   ·exact h.elim
  ·exact h.elim
 case store t x y=>
  split at h
  ·rename_i i off u n hx hy hn
   try simp only [hx,hy,hn]
   split at h
   ·rename_i hc
    try simp only [hc]
    exact putK_wf (st:=st.setB i _) hw trivial h
   ·exact h.elim
  ·rename_i p u n hx hy hn
   try simp only [hx,hy,hn]
   split at h
   ·rename_i hc
    try simp only [hc]
    obtain ⟨b', h1,h2,h3,h4,h5⟩:=h
    exact ⟨b', h1,h2,h3,h4,fun h' e=>putK_wf (st:=st.setH h') hw trivial (h5 h' e)⟩
   ·exact h.elim
  ·exact h.elim
 case fieldAddr t x i=>
  split at h
  ·rename_i id off fo hx hf;try simp only [hx,hf]
   exact putK_wf hw (show id<st.nb from ev_sok (x:=x) hw hx) h
  ·rename_i p fo hx hf;try simp only [hx,hf]
   exact putK_wf hw trivial h
  ·exact h.elim
 case field t x i=>
  split at h
  ·rename_i cs f hx hf;try simp only [hx,hf]
   exact partR_mono h fun z h=>putK_wf hw trivial h
  ·exact h.elim
 case indexAddr t x ix=>
  split at h
  ·rename_i A n c k i e hx hix hel
   try simp only [hx,hix,hel]
   split at h
   ·rename_i sz hsz
    try simp only [hsz]
    obtain ⟨ad,h1,h2,h3,h4⟩:=h
    exact ⟨ad,h1,h2,h3,putK_wf hw trivial h4⟩
   ·exact h.elim
  ·rename_i p k i hx hix hel
   try simp only [hx,hix,hel]
   split at h
   ·rename_i n sz hsz
    try simp only [hsz]
    obtain ⟨h2,h3,h4⟩:=h
    exact ⟨h2,h3,putK_wf hw trivial h4⟩
   ·exact h.elim
  ·exact h.elim
 case index t x ix=>
  split at h
  ·rename_i sx k i hx hix hu
   try simp only [hx,hix,hu]
   obtain ⟨c,h1,h2,h4⟩:=h
   exact ⟨c,h1,h2,putK_wf hw trivial h4⟩
  ·exact h.elim
 case slice t x lo hi mx=>
  cases mx with
  | some _=>exact h
  | none=>
   simp only at h ⊢
   split at h
   ·rename_i u l q hx hl hq;try simp only [hx,hl,hq]
    exact sliceR_mono h fun z h=>putK_wf hw trivial h
   ·exact h.elim
 case makeSlice t l c=>
  split at h
  ·rename_i k1 n k2 k e hl hc hel
   try simp only [hl,hc,hel]
   split at h
   ·rename_i i z hi hz
    try simp only [hi,hz]
    split at h
    ·rename_i hcc
     try simp only [hcc]
     obtain ⟨h1,h2,h3,h4,h5⟩:=h
     exact ⟨h1,h2,h3,h4,fun g h' e1 e2=>putK_wf (st:=st.setH h') hw trivial (h5 g h' e1 e2)⟩
    ·exact h.elim
   ·exact h.elim
  ·exact h.elim
 case extract x i=>
  split at h
  ·rename_i vs hx
   try simp only [hx]
   split at h
   ·rename_i z hz
    try simp only [hz]
    exact putK_wf hw trivial h
   ·exact h.elim
  ·exact h.elim
 case call c=>
  obtain ⟨callee,as,ats⟩:=c
  simp only at h ⊢
  split at h
  ·rename_i f args hargs
   try simp only [hargs]
   exact h.mono fun z h' h=>resR_mono h fun z h=>putK_wf (st:=st.setH h') hw trivial h
  ·rename_i bi args hargs
   try simp only [hargs]
   exact builtR_mono h fun z h' h=>putK_wf (st:=st.setH h') hw trivial h
  ·exact h.elim
 case range t x=>
  split at h
  ·rename_i sx hx hu
   try simp only [hx,hu]
   intro g h' e1 e2
   exact putK_wf (st:=st.setH h') hw trivial (h g h' e1 e2)
  ·exact h.elim
 case next x isS=>
  cases isS with
  | false=>exact h
  | true=>
   simp only at h ⊢
   split at h
   ·rename_i p hx
    try simp only [hx]
    obtain ⟨sx,i,h1,h2,h3⟩:=h
    exact ⟨sx,i,h1,h2,h3.mono (fun h h' e=>putK_wf (st:=st.setH h') hw trivial (h h' e)) (fun h=>putK_wf hw trivial h)⟩
   ·exact h.elim
theorem opG_wf {ops:List Oper} (hw:WF st) {see:Bool} {o:Oper} (h:opG P nt vis mb ops see o st K):opG P nt vis mb ops see o st fun st' => WF st' /\ K st' := by
 unfold opG at h ⊢
 split
 ·rename_i hg
  simp only [hg] at h
  exact opV_wf hw h
 ·rename_i j want hg
  simp only [hg] at h
  split
  ·rename_i hj;simp only [hj] at h
  ·rename_i g hj
   simp only [hj] at h
   cases hs:st.f g with
   | none=>rw [hs] at h;exact h.elim
   | some y=>
    rw [hs] at h
    cases y with
    | bx i o=>exact h.elim
    | v z=>
     cases z<;>try exact h.elim
     case bool t=>
      simp only at h ⊢
      refine Br.mono h (fun h=> ?_) (fun h=> ?_)
      ·cases want
       ·exact putK_wf (hw.put (v:= .v (.bool true)) trivial) trivial h
       ·exact opV_wf (hw.put (v:= .v (.bool true)) trivial) h
      ·cases want
       ·exact opV_wf (hw.put (v:= .v (.bool false)) trivial) h
       ·exact putK_wf (hw.put (v:= .v (.bool false)) trivial) trivial h
     case tuple t=>exact putK_wf hw trivial h
end
theorem SV.val_ren (a b:Nat) (s:Nat->Nat) (x:SV):(x.ren a b).val (fun i=>s (swp a b i))=x.val s:=by
 cases x with
 | v z=>rfl
 | bx i off=>simp [SV.ren,SV.val,swp_swp]
section
variable {nt:Nat} {h0:Heap} {w0 w:World} {s sB:Nat->Nat} {st stB:St} {a' aB:Act} {W mb:Nat->Bool} {a b:Nat}
theorem Good.ren (g:Good nt h0 w0 s st a' w) (ha:a<st.nb) (hb:b<st.nb):Good nt h0 w0 (fun i=>s (swp a b i)) (ren a b st) a' w where
 defers:=g.defers
 size:=g.size
 rep t x hx:=by
  simp only [Go.Vcg.ren] at hx
  cases hf:st.f t with
  | none=>rw [hf] at hx;cases hx
  | some y=>
   rw [hf] at hx
   simp only [Option.map_some,Option.some.injEq] at hx
   rw [<- hx,SV.val_ren]
   exact g.rep t y hf
 sat:=g.sat
 frm:=g.frm
 box i hi:=g.box _ ((swp_lt ha hb).2 hi)
 inj i j hi hj e:=swp_inj (g.inj _ _ ((swp_lt ha hb).2 hi) ((swp_lt ha hb).2 hj) e)
 wfb t i off hx:=by
  simp only [Go.Vcg.ren] at hx
  cases hf:st.f t with
  | none=>rw [hf] at hx;cases hx
  | some y=>
   rw [hf] at hx
   cases y with
   | v z=>simp [SV.ren] at hx
   | bx j o=>
    simp only [Option.map_some,SV.ren,Option.some.injEq,SV.bx.injEq] at hx
    rw [<- hx.1]
    exact (swp_lt ha hb).2 (g.wfb t j o hf)
theorem Ext.ren (e:Ext W mb sB stB aB s st a') (ha:stB.nb<=a) (hb:stB.nb<=b):Ext W mb sB stB aB (fun i=>s (swp a b i)) (ren a b st) a' where
 slots:=e.slots
 nb:=e.nb
 sig i hi:=by rw [swp_ge ha hb hi];exact e.sig i hi
 bx i hi hm:=by
  show st.B (swp a b i)=_
  rw [swp_ge ha hb hi]
  exact e.bx i hi hm
end
def Kc (n:Nat) (K:St->Prop) (st:St):Prop:= ∃ l:List (Nat×Nat),(∀ p∈l,n<=p.1/\n<=p.2/\p.1<st.nb/\p.2<st.nb)/\K (l.foldl (fun st p=>ren p.1 p.2 st) st)
theorem renL_nb : ∀ (l:List (Nat×Nat)) (st:St),(l.foldl (fun st p=>ren p.1 p.2 st) st).nb=st.nb
 | [],_=>rfl
 | p::l,st=>by rw [List.foldl_cons,renL_nb l];rfl
theorem Kc.of {n:Nat} {K:St->Prop} {st:St} (h:K st):Kc n K st:=⟨[],(fun _ h=>(by cases h)),h⟩
theorem Kc.join {n:Nat} {K:St->Prop} {st:St} (h:Kc n (Kc n K) st):Kc n K st:=by
 obtain ⟨l,h1,l2,h2,hk⟩:=h
 rw [renL_nb] at h2
 refine ⟨l++l2,fun p hp=> ?_,by rw [List.foldl_append];exact hk⟩
 rcases List.mem_append.1 hp with q | q
 ·exact h1 p q
 ·exact h2 p q
theorem Kc.ren {n:Nat} {K:St->Prop} {st:St} {a b:Nat} (ha:n<=a) (hb:n<=b) (ha2:a<st.nb) (hb2:b<st.nb) (h:K (ren a b st)):Kc n K st:=
 ⟨[(a,b)],fun p hp=>by rw [List.mem_singleton.1 hp];exact ⟨ha,hb,ha2,hb2⟩,h⟩
theorem Kc.post {nt:Nat} {h0:Heap} {w0 w:World} {W mb:Nat->Bool} {sB:Nat->Nat} {stB:St} {aB a' : Act} {K:St->Prop} : ∀ (l:List (Nat×Nat)) {s:Nat->Nat} {st:St},(∀ p∈l,stB.nb<=p.1/\stB.nb<=p.2/\p.1<st.nb/\p.2<st.nb)->
  K (l.foldl (fun st p=>Go.Vcg.ren p.1 p.2 st) st)->Good nt h0 w0 s st a' w->Ext W mb sB stB aB s st a' -> ∃ s1 st1,K st1/\Good nt h0 w0 s1 st1 a' w/\Ext W mb sB stB aB s1 st1 a'
 | [],s,st,_,hk,g,e=>⟨s,st,hk,g,e⟩
 | p::l,s,st,hl,hk,g,e=>by
  obtain ⟨h1,h2,h3,h4⟩:=hl p (by simp)
  exact Kc.post l (st:=Go.Vcg.ren p.1 p.2 st) (fun q hq=>hl q (by simp [hq])) hk (g.ren h3 h4) (e.ren h1 h2)
theorem memN_iff {i:Nat} : ∀ {l:List Nat},memN i l=true↔i∈l
 | []=>by simp [memN]
 | j::r=>by
  simp only [memN,List.mem_cons]
  by_cases h:i=j
  ·subst h;simp
  ·simp [beq_ne h,memN_iff (l:=r),h]
theorem mem_insN {i j:Nat} {l:List Nat}:j∈insN i l↔j=i\/j∈l:=by
 unfold insN
 cases h:memN i l with
 | true=>
  have:=memN_iff.1 h
  simp only [cond_true]
  exact ⟨.inr,fun q=>by rcases q with rfl | q;exact this;exact q⟩
 | false=>simp
theorem mem_foldr_insN {j:Nat} {l:List Nat} : ∀ {r:List Nat},j∈r.foldr insN l↔j∈r\/j∈l
 | []=>by simp
 | i::r=>by simp only [List.foldr_cons,mem_insN,mem_foldr_insN (r:=r),List.mem_cons];exact or_assoc.symm
theorem mem_ancEs {j:Nat} {rows:List (List Nat)} : ∀ {es:List Edge},j∈ancEs rows es-> ∃ e∈es,Region.binds .any e=true/\(j=e.on\/j∈(rows[e.on]?).getD [])
 | [],h=>by simp [ancEs] at h
 | e::r,h=>by
  simp only [ancEs] at h
  split at h
  ·rename_i hb
   rw [mem_insN,mem_foldr_insN] at h
   rcases h with h | h | h
   ·exact ⟨e,by simp,hb,.inl h⟩
   ·exact ⟨e,by simp,hb,.inr h⟩
   ·obtain ⟨e', h1,h2,h3⟩:=mem_ancEs h;exact ⟨e', by simp [h1],h2,h3⟩
  ·obtain ⟨e', h1,h2,h3⟩:=mem_ancEs h;exact ⟨e', by simp [h1],h2,h3⟩
def RowsOk (ops:List Oper) (rows:List (List Nat)):Prop:=
 ∀ (S:Nat->Prop),(∀ (i:Nat) (o:Oper),S i->ops[i]?=some o-> ∀ e∈o.after.toList,Region.binds .any e=true->S e.on)->
  ∀ (i:Nat) (o:Oper) (row:List Nat),ops[i]?=some o->rows[i]?=some row->(∀ e∈o.after.toList,Region.binds .any e=true->S e.on)-> ∀ j∈row,S j
theorem ancs_ok (ops:List Oper) : ∀ (r:List Oper) (rows:List (List Nat)),(∃ p,ops=p++r/\p.length=rows.length)->RowsOk ops rows->RowsOk ops (ancs r rows)
 | [],rows,_,h=>h
 | o::r,rows,⟨p,hp,hl⟩,h=>by
  refine ancs_ok ops r _ ⟨p++[o],by simp [hp],by simp [hl]⟩ ?_
  intro S hS i oi row hi hrow hpre j hj
  by_cases hlt:i<rows.length
  ·rw [List.getElem?_append_left hlt] at hrow
   exact h S hS i oi row hi hrow hpre j hj
  ·have hie:i=rows.length:=by
    have:=List.getElem?_eq_some_iff.1 hrow
    obtain ⟨h1,_⟩:=this
    simp at h1
    omega
   subst hie
   have ho:oi=o:=by
    rw [hp,<- hl,List.getElem?_append_right (Nat.le_refl _)] at hi
    simpa using hi.symm
   subst ho
   simp only [List.getElem?_append_right (Nat.le_refl _),Nat.sub_self,List.getElem?_cons_zero,Option.some.injEq] at hrow
   subst hrow
   obtain ⟨e,he,hb,hj⟩:=mem_ancEs hj
   have hSe:=hpre e he hb
   rcases hj with rfl | hj
   ·exact hSe
   ·cases hr:rows[e.on]? with
    | none=>rw [hr] at hj;simp at hj
    | some row' =>
     rw [hr] at hj
     have hlt' : e.on<rows.length:=(List.getElem?_eq_some_iff.1 hr).1
     have hoe : ∃ o', ops[e.on]?=some o' := by
      have:e.on<ops.length:=by rw [hp];simp;omega
      exact ⟨_,List.getElem?_eq_getElem this⟩
     obtain ⟨o', ho'⟩:=hoe
     exact h S hS e.on o' row' ho' hr (fun e' he' hb' => hS e.on o' hSe ho' e' he' hb') j (by simpa using hj)
theorem ancs_rows (ops:List Oper):RowsOk ops (ancs ops []):=
 ancs_ok ops ops [] ⟨[],by simp,rfl⟩ fun S _ i o row _ hr=>by simp at hr
section
variable {P:Program} {nt:Nat} {mb vis:Nat->Bool} {K K' : St->Prop} {ops:List Oper}
theorem apart_spec {x y:Oper} (h:apartB ops x y=true):(∀ d,x.dst=some d->d∉opTmps ops y)/\(∀ d,y.dst=some d->d∉opTmps ops x):=by
 simp only [apartB,Bool.and_eq_true] at h
 refine ⟨fun d hd hm=> ?_,fun d hd hm=> ?_⟩
 ·have h1:=h.1
  rw [hd] at h1
  simp only [Bool.not_eq_true'] at h1
  rw [memN_iff.2 hm] at h1
  cases h1
 ·have h1:=h.2
  rw [hd] at h1
  simp only [Bool.not_eq_true'] at h1
  rw [memN_iff.2 hm] at h1
  cases h1
theorem notTmp {d:Nat} {y:Oper} (h:d∉opTmps ops y):(∀ x∈y.op.operands.toList,x ≠ .tmp d)/\y.dst≠some d/\(∀ j want g,y.guard=some (j,want)->(ops[j]?).bind (·.dst)=some g->g≠d):=by
 unfold opTmps at h
 simp only [List.mem_append,not_or] at h
 obtain ⟨⟨h1,h2⟩,h3⟩:=h
 refine ⟨fun x hx e=> ?_,fun e=> ?_,fun j want g hg hj e=> ?_⟩
 ·subst e
  exact h2 (List.mem_filterMap.2 ⟨.tmp d,hx,rfl⟩)
 ·rw [e] at h1;simp at h1
 ·rw [hg] at h3
  simp only [hj] at h3
  subst e
  simp at h3
theorem opG_shift {see:Bool} {o:Oper} {st:St} {d:Option Nat} {v:SV} (hm : ∀ st1,K (putO st1 d v)->Keeps vis o st st1->K' st1) (hd : ∀ d', d=some d' -> d' ∉ opTmps ops o)
  (h:opG P nt vis mb ops see o (putO st d v) K):opG P nt vis mb ops see o st K' := by
 have hop : ∀ d', d=some d' -> ∀ x∈o.op.operands.toList,x ≠ .tmp d' := fun d' e=>(notTmp (hd d' e)).1
 have hne : ∀ d', d=some d' -> o.dst≠some d' := fun d' e=>(notTmp (hd d' e)).2.1
 unfold opG at *
 split at h
 ·rename_i hg
  exact opV_shift hm hop hne h
 ·rename_i j want hg
  split at h
  ·exact h.elim
  ·rename_i g hj
   have hf:(putO st d v).f g=st.f g:=by
    cases d with
    | none=>rfl
    | some d=>
     have:=(notTmp (hd d rfl)).2.2 j want g hg hj
     simp [putO,St.put,beq_ne this]
   rw [hf] at h
   split at h
   ·rename_i t ht
    have e1:(putO st d v).put g (.v (.bool t))=putO st d v:=put_same (by rw [hf];exact ht)
    have e2:st.put g (.v (.bool t))=st:=put_same ht
    cases t with
    | true=>
     simp only [Br,e1,e2] at h ⊢
     cases want with
     | true=>exact opV_shift hm hop hne h
     | false=>exact putK_shift hm hne (Keeps.refl vis _ _) h
    | false=>
     simp only [Br,e1,e2] at h ⊢
     cases want with
     | true=>exact putK_shift hm hne (Keeps.refl vis _ _) h
     | false=>exact opV_shift hm hop hne h
   ·exact putK_shift hm hne (Keeps.refl vis _ _) h
   ·exact h.elim
theorem opG_mono {see:Bool} {o:Oper} {st:St} (hm : ∀ st1,K st1->K' st1) (h:opG P nt vis mb ops see o st K):opG P nt vis mb ops see o st K' :=
 opG_shift (d:=none) (v:= .v undef) (fun st1 h _=>hm st1 h) (fun _ e=>by cases e) h
theorem still_evG {see:Bool} {o:Oper} {st:St} (hs:(pureOp o.op||isLoad o.op)=true) (h:opG P nt vis mb ops see o st K) :
  ∃ v,K (putO st o.dst v)/\ ∀ (st' : St) (see' : Bool) (K' : St->Prop),(∀ x∈o.op.operands.toList,ev st' x=ev st x)->(∀ j want g,o.guard=some (j,want)->(ops[j]?).bind (·.dst)=some g->st'.f g=st.f g)->
   (isLoad o.op=true->(∀ i,i<st.nb->st'.B i=st.B i)/\st.nb<=st'.nb)->(isLoad o.op=true->see=true->see' = true/\LeH st.h st'.h)->K' (putO st' o.dst v)->opG P nt vis mb ops see' o st' K' := by
 unfold opG at h
 split at h
 ·rename_i hg
  obtain ⟨v,h1,h2⟩:=still_ev hs h
  refine ⟨v,h1,fun st' see' K' a1 _ a3 a4 hk=> ?_⟩
  unfold opG
  simp only [hg]
  exact h2 st' see' K' a1 a3 a4 hk
 ·rename_i j want hg
  split at h
  ·exact h.elim
  ·rename_i g hj
   split at h
   ·rename_i t ht
    have e2:st.put g (.v (.bool t))=st:=put_same ht
    have hw:(t=want/\opV P nt vis mb see o st K)\/(t≠want/\putK nt o.dst (.v undef) st K):=by
     cases t<;>simp only [Br,e2] at h<;>cases want<;>first | exact .inl ⟨rfl,h⟩ | exact .inr ⟨by simp,h⟩
    rcases hw with ⟨rfl,hh⟩ | ⟨hne,hh⟩
    ·obtain ⟨v,h1,h2⟩:=still_ev hs hh
     refine ⟨v,h1,fun st' see' K' a1 a2 a3 a4 hk=> ?_⟩
     have hf:=(a2 j t g hg hj).trans ht
     unfold opG
     simp only [hg,hj,hf]
     have e3:st'.put g (.v (.bool t))=st' := put_same hf
     cases t<;>simp only [Br,e3]<;>exact h2 st' see' K' a1 a3 a4 hk
    ·obtain ⟨h1,h2⟩:=putK_get hh
     refine ⟨.v undef,h1,fun st' see' K' a1 a2 a3 a4 hk=> ?_⟩
     have hf:=(a2 j want g hg hj).trans ht
     unfold opG
     simp only [hg,hj,hf]
     have e3:st'.put g (.v (.bool t))=st' := put_same hf
     cases t<;>cases want<;>simp only [Br,e3]<;>first | exact h2 _ _ hk | exact absurd rfl hne
   ·rename_i vs ht
    obtain ⟨h1,h2⟩:=putK_get h
    refine ⟨.v undef,h1,fun st' see' K' a1 a2 a3 a4 hk=> ?_⟩
    have hf:=(a2 j want g hg hj).trans ht
    unfold opG
    simp only [hg,hj,hf]
    exact h2 _ _ hk
   ·exact h.elim
theorem swap {sx sx' si:Bool} {x y:Oper} {st:St} (hs:(pureOp x.op||isLoad x.op)=true) (hap:apartB ops x y=true) (hst:isLoad x.op=true->isStore y.op=false)
  {kb:Bool} (hsee:isLoad x.op=true->sx=true->sx' = true/\(quiet vis y=true\/kb=true)) (h:opG P nt vis mb ops sx x st fun st1=>opG P nt vis mb ops si y st1 fun st2=>andK kb (LeH st1.h st2.h) (K st2)) :
  opG P nt vis mb ops si y st fun st1=>andK kb (LeH st.h st1.h) (opG P nt vis mb ops sx' x st1 K):=by
 obtain ⟨a1,a2⟩:=apart_spec hap
 obtain ⟨v,hy,hev⟩:=still_evG hs h
 refine opG_shift (fun st1 hk k=> ?_) a1 hy
 rw [putO_h,putO_h] at hk
 have hle:kb=true->LeH st.h st1.h:=fun q=>by rw [q] at hk;exact hk.1
 have hk2:K (putO st1 x.dst v):=by cases kb;exact hk;exact hk.2
 suffices hgoal:opG P nt vis mb ops sx' x st1 K by
  cases kb
  ·exact hgoal
  ·exact ⟨hle rfl,hgoal⟩
 refine hev st1 sx' K (fun z hz=> ?_) (fun j want g hg hj=> ?_) (fun hl=>⟨k.bx (hst hl),k.nb⟩) (fun hl hsx=> ?_) hk2
 ·cases z with
  | tmp t=>
   refine k.slots t fun e=> ?_
   exact (notTmp (a2 t e)).1 (.tmp t) hz rfl
  | _=>rfl
 ·refine k.slots g fun e=> ?_
  exact (notTmp (a2 g e)).2.2 j want g hg hj rfl
 ·obtain ⟨h1,h2⟩:=hsee hl hsx
  refine ⟨h1, ?_⟩
  rcases h2 with h2 | h2
  ·rw [k.h h2];exact fun _ _ q=>q
  ·exact hle h2
theorem loose_of {p:Op->Bool} {anc:List (List Nat)} {i j:Nat} {o:Oper} (hl:p o.op=true) (h1:memN j ((anc[i]?).getD [])=false) (h2:memN i ((anc[j]?).getD [])=false) : ∀ {l:List Oper} {k m:Nat},l[m]?=some o->k+m=j->loose p anc i k l=true
 | [],k,m,h,_=>by simp at h
 | x::r,k,0,h,e=>by
  simp only [List.getElem?_cons_zero,Option.some.injEq] at h
  subst h
  have:k=j:=by omega
  subst this
  simp [loose,hl,h1,h2]
 | x::r,k,m+1,h,e=>by
  simp only [loose,Bool.or_eq_true]
  exact .inr (loose_of hl h1 h2 (by simpa using h) (by omega))
theorem keep_of {anc:List (List Nat)} {i j:Nat} {x y:Oper} (hx:ops[j]?=some x) (hy:ops[i]?=some y) (hl:isLoad x.op=true) (hf:isFCall y.op=true) (h1:memN j ((anc[i]?).getD [])=false) (h2:memN i ((anc[j]?).getD [])=false):keepB ops anc i=true:=by
 unfold keepB
 simp only [hy,hf,Bool.true_and]
 exact loose_of hl h1 h2 hx (by omega)
theorem keep_still {anc:List (List Nat)} {i:Nat} {x:Oper} (hx:ops[i]?=some x) (hs:isFCall x.op=false):keepB ops anc i=false:=by
 unfold keepB
 simp [hx,hs]
theorem andK_mono {b:Bool} {X X' Y Y' : Prop} (h:andK b X Y) (hx:X->X') (hy:Y->Y'):andK b X' Y' := by
 cases b
 ·exact hy h
 ·exact ⟨hx h.1,hy h.2⟩
theorem sees_cons {anc:List (List Nat)} {i j:Nat} {y:Oper} {r:List Nat} (hj:ops[j]?=some y) (hy:(pureOp y.op||isLoad y.op)=true):seesB vis ops anc i (j::r)=seesB vis ops anc i r:=by
 simp only [seesB,hj,quiet,hy]
 simp
theorem sees_mid {anc:List (List Nat)} {i j:Nat} {y:Oper} (hj:ops[j]?=some y) (hi:memN i ((anc[j]?).getD [])=false) : ∀ {l r:List Nat},seesB vis ops anc i (l++j::r)=true->
  seesB vis ops anc i (l++r)=true/\(quiet vis y=true\/((isFCall y.op=true\/isStore y.op=true)/\memN j ((anc[i]?).getD [])=false))
 | [],r,h=>by
  simp only [List.nil_append,seesB,hj,hi,Bool.or_false,Bool.and_eq_true,Bool.or_eq_true,Bool.not_eq_true'] at h
  exact ⟨h.2,h.1⟩
 | k::l,r,h=>by
  simp only [List.cons_append,seesB,Bool.and_eq_true] at h
  obtain ⟨h1,h2⟩:=sees_mid hj hi h.2
  refine ⟨?_,h2⟩
  simp only [List.cons_append,seesB,Bool.and_eq_true]
  exact ⟨h.1,h1⟩
theorem CallsU.frame {f:FuncId} {args:List Value} {h:Heap} {R:Value->Heap->Prop} (c:CallsU P f args h R) {g:Nat} {b:Blk} (hg:h g=none) :
  CallsU P f args (h.put g b) fun v h'' => ∃ h', R v h' /\ h' g=none/\h'' = h'.put g b:=by
 refine ⟨c.1,fun w hw=> ?_⟩
 have sg:=hw g b (Heap.put_same _ _ _)
 have hlt:g<w.heap.size:=sg.lt
 have sh:Sat h w:=fun k x hk=>hw k x (by
  have:k≠g:=fun e=>by rw [e,hg] at hk;cases hk
  rw [Heap.put_ne _ _ this];exact hk)
 refine (c.2 w sh).mono ?_
 rintro e w' ⟨v,h', he,hr,hs,fr⟩
 have kg:=fr.keep g hlt hg
 refine ⟨v,h'.put g b,he,⟨h', hr,kg.1,rfl⟩,fun k x hk=> ?_,⟨fr.size,fr.os,fr.tape,fr.output,fun k hk h0=> ?_⟩⟩
 ·by_cases e:k=g
  ·subst e
   rw [Heap.put_same] at hk
   cases hk
   exact sg.same kg.2
  ·rw [Heap.put_ne _ _ e] at hk
   exact hs k x hk
 ·have e:k≠g:=fun e=>by rw [e,Heap.put_same] at h0;cases h0
  rw [Heap.put_ne _ _ e] at h0
  have:=fr.keep k hk h0
  exact ⟨by rw [Heap.put_ne _ _ e];exact this.1,this.2⟩
theorem putK_putO {d:Option Nat} {v:SV} {st:St} (h:putK nt d v st K):K (putO st d v):=(putK_get h).1
theorem putK_of {d:Nat} {v:SV} {st:St} (hd:Nat.blt d nt=true) (h:K (st.put d v)):putK nt (some d) v st K:=by
 simp only [putK,hd]
 exact h
theorem putK_imp {K' : St->Prop} {d:Option Nat} {v:SV} {st st' : St} (h:putK nt d v st K) (hk:K (putO st d v)->K' (putO st' d v)):putK nt d v st' K' := by
 obtain ⟨h1,h2⟩:=putK_get h
 exact h2 _ _ (hk h1)
theorem swapA {kb:Bool} {sx sx' si si' : Bool} {x y:Oper} {st:St} (hx:isFCall x.op=true) (hy:okAlloc P nt y=true) (gx:x.guard=none) (gy:y.guard=none) (hap:apartB ops x y=true)
  (h:opG P nt vis mb ops sx x st fun st1=>andK kb (LeH st.h st1.h) (opG P nt vis mb ops si y st1 K)) :
  opG P nt vis mb ops si' y st fun st1=>opG P nt vis mb ops sx' x st1 fun st2=>andK kb (LeH st1.h st2.h) (K st2):=by
 obtain ⟨a1,a2⟩:=apart_spec hap
 obtain ⟨dx,ox,tx,px,ax,gx'⟩:=x
 obtain ⟨dy,oy,ty,py,ay,gy'⟩:=y
 simp only at gx gy hx
 subst gx gy
 unfold okAlloc at hy
 split at hy
 rotate_left
 ·cases hy
 rename_i x1 x2 t d e1 e2
 simp only at e1 e2
 subst e1 e2
 simp only [Bool.and_eq_true] at hy
 obtain ⟨hd,hz⟩:=hy
 split at hz
 rotate_left
 ·cases hz
 rename_i x3 zc hzc
 unfold isFCall at hx
 split at hx
 rotate_left
 ·cases hx
 rename_i x4 f as ats
 simp only [opG,opV,hzc] at h ⊢
 obtain ⟨args,hargs⟩ : ∃ args,evs st as.toList=some args:=by
  cases q:evs st as.toList with
  | none=>simp only [q] at h
  | some args=>exact ⟨args,rfl⟩
 simp only [hargs] at h
 have hne : ∀ e,dx=some e->e≠d:=fun e he q=>by
  subst he q
  exact (notTmp (a1 e rfl)).2.1 rfl
 have hev : ∀ (st' : St),(∀ t,t≠d->st'.f t=st.f t)->evs st' as.toList=some args:=fun st' hst=>by
  rw [<- hargs]
  refine evs_congr _ fun z hz=> ?_
  cases z with
  | tmp t=>
   refine hst t fun q=> ?_
   subst q
   exact (notTmp (a2 t rfl)).1 (.tmp t) (by simp only [Op.operands,Call.operands];simp;simpa using hz) rfl
  | _=>rfl
 have hslot : ∀ (st' : St) (v:SV),(∀ t,st'.f t=st.f t)-> ∀ t,t≠d->(st'.put d v).f t=st.f t:=fun st' v hs t ht=>by
  simp only [St.put,beq_ne ht,cond_false]
  exact hs t
 unfold boxR at h ⊢
 simp only [hz] at h ⊢
 cases hv:isVis vis (some d) with
 | false=>
  simp only [hv] at h ⊢
  refine putK_of hd ?_
  rw [hev ((St.mk st.f (fun i=>bif Nat.beq i st.nb then zc else st.B i) (st.nb+1) st.h).put d (.bx st.nb 0)) (hslot _ _ fun _=>rfl)]
  refine h.mono fun v h1 hr=>resR_mono hr fun z hk=> ?_
  refine putK_imp hk fun hk=> ?_
  rw [putO_h] at hk
  rw [putO_h]
  refine andK_mono hk id fun hk=> ?_
  have hk' := putK_putO hk
  cases dx with
  | none=>exact hk'
  | some e=>
   simp only [putO] at hk' ⊢
   rw [show ((St.mk st.f (fun i=>bif Nat.beq i st.nb then zc else st.B i) (st.nb+1) st.h).put d (.bx st.nb 0)).setH h1=(St.mk st.f (fun i=>bif Nat.beq i st.nb then zc else st.B i) (st.nb+1) h1).put d (.bx st.nb 0) from rfl]
   rw [put_comm _ _ _ (hne e rfl).symm]
   exact hk'
 | true=>
  simp only [hv] at h ⊢
  intro g h' hg hh'
  refine putK_of hd ?_
  rw [hev ((st.setH h').put d (.v (.pointer (some ⟨g,0,none⟩)))) (hslot (st.setH h') _ fun _=>rfl)]
  subst hh'
  refine (CallsU.frame h hg).mono ?_
  rintro v h2 ⟨h1,hr,hg1,rfl⟩
  refine resR_mono hr fun z hk=> ?_
  refine putK_imp hk fun hk=> ?_
  rw [putO_h] at hk
  rw [putO_h]
  refine andK_mono hk (fun q k b hb=> ?_) fun hk=> ?_
  ·have hb:(st.h.put g ⟨zc,t,(0,0)⟩) k=some b:=hb
   show (h1.put g ⟨zc,t,(0,0)⟩) k=some b
   by_cases e:k=g
   ·subst e;rw [Heap.put_same] at hb ⊢;exact hb
   ·rw [Heap.put_ne _ _ e] at hb ⊢;exact q k b hb
  have hk' := putK_putO (hk g _ hg1 rfl)
  cases dx with
  | none=>exact hk'
  | some e=>
   simp only [putO] at hk' ⊢
   rw [show (St.put (st.setH (Heap.put st.h g ⟨zc,t,(0,0)⟩)) d (.v (.pointer (some ⟨g,0,none⟩)))).setH (Heap.put h1 g ⟨zc,t,(0,0)⟩)=(st.setH (Heap.put h1 g ⟨zc,t,(0,0)⟩)).put d (.v (.pointer (some ⟨g,0,none⟩))) from rfl]
   rw [put_comm _ _ _ (hne e rfl).symm]
   exact hk'
theorem okAlloc_spec {y:Oper} (hy:okAlloc P nt y=true) : ∃ t d z,y.op = .alloc t/\y.dst=some d/\Nat.blt d nt=true/\zeroCellsOf P t=some z/\allOne z=true:=by
 unfold okAlloc at hy
 split at hy
 ·rename_i t d e1 e2
  simp only [Bool.and_eq_true] at hy
  obtain ⟨hd,hz⟩:=hy
  split at hz
  ·rename_i z hzc
   exact ⟨t,d,z,e1,e2,hd,hzc,hz⟩
  ·cases hz
 ·cases hy
theorem swapB {sx sx' si si' : Bool} {x y:Oper} {st:St} {n:Nat} (hn:n<=st.nb) (hw:WF st) (hx:okAlloc P nt x=true) (hy:okAlloc P nt y=true) (gx:x.guard=none) (gy:y.guard=none) (hap:apartB ops x y=true)
  (h:opG P nt vis mb ops sx x st fun st1=>opG P nt vis mb ops si y st1 K) :
  opG P nt vis mb ops si' y st fun st1=>opG P nt vis mb ops sx' x st1 (Kc n K):=by
 obtain ⟨a1,_⟩:=apart_spec hap
 obtain ⟨t1,d,z1,e1,e2,e3,e4,e5⟩:=okAlloc_spec hx
 obtain ⟨t2,e,z2,f1,f2,f3,f4,f5⟩:=okAlloc_spec hy
 have hne:d≠e:=fun q=>by
  subst q
  exact (notTmp (a1 d e2)).2.1 f2
 have unf : ∀ (see:Bool) (o:Oper) (t:TypeId) (z:List Value) (dd:Nat) (S:St) (K' : St->Prop),o.guard=none->o.op = .alloc t->o.dst=some dd->zeroCellsOf P t=some z->opG P nt vis mb ops see o S K' = boxR nt vis (some dd) t z S K' := by
  intro see o t z dd S K' q1 q2 q3 q4
  unfold opG opV
  simp only [q1,q2,q3,q4]
 rw [unf si' y t2 z2 e _ _ gy f1 f2 f4]
 rw [unf sx x t1 z1 d _ _ gx e1 e2 e4] at h
 have goal : ∀ S,opG P nt vis mb ops sx' x S (Kc n K)=boxR nt vis (some d) t1 z1 S (Kc n K):=fun S=>unf sx' x t1 z1 d S _ gx e1 e2 e4
 have hyp : ∀ S,opG P nt vis mb ops si y S K=boxR nt vis (some e) t2 z2 S K:=fun S=>unf si y t2 z2 e S _ gy f1 f2 f4
 simp only [goal]
 simp only [hyp] at h
 unfold boxR at h ⊢
 simp only [e5,f5] at h ⊢
 cases hv1:isVis vis (some d)<;>cases hv2:isVis vis (some e)<;>simp only [hv1,hv2] at h ⊢
 ·refine putK_of f3 (putK_of e3 ?_)
  have hk:=putK_putO (putK_putO h)
  simp only [putO] at hk
  refine Kc.ren (a:=st.nb) (b:=st.nb+1) hn (by omega) (by show st.nb<st.nb+1+1;omega) (by show st.nb+1<st.nb+1+1;omega) ?_
  have hs1:swp st.nb (st.nb+1) st.nb=st.nb+1:=by unfold swp;simp
  have hs2:swp st.nb (st.nb+1) (st.nb+1)=st.nb:=by unfold swp;simp
  have hbq:Nat.beq st.nb (st.nb+1)=false:=beq_ne (by omega)
  refine cast (congrArg K ?_) hk
  simp only [Go.Vcg.ren,St.put,St.mk.injEq,and_true]
  refine ⟨?_, ?_⟩
  ·funext t
   by_cases q1:t=d
   ·subst q1
    simp [beq_ne hne,SV.ren,hs2]
   ·by_cases q2:t=e
    ·subst q2
     simp [beq_ne q1,SV.ren,hs1]
    ·simp only [beq_ne q1,beq_ne q2,cond_false]
     cases hf:st.f t with
     | none=>rfl
     | some v=>
      cases v with
      | v z=>rfl
      | bx i off=>
       have:=hw t i off hf
       simp only [Option.map_some,SV.ren]
       rw [swp_out (by omega) (by omega)]
  ·funext i
   by_cases q1:i=st.nb
   ·subst q1
    rw [hs1]
    simp [hbq]
   ·by_cases q2:i=st.nb+1
    ·subst q2
     rw [hs2]
     simp [hbq]
    ·rw [swp_out q1 q2]
     simp [beq_ne q1,beq_ne q2]
 ·intro g h' hg hh'
  refine putK_of f3 (putK_of e3 (Kc.of ?_))
  have hk:=putK_putO ((putK_putO h) g h' hg hh')
  simp only [putO] at hk
  refine cast (congrArg K ?_) hk
  exact put_comm { st with nb:=st.nb+1,B:=fun i=>bif Nat.beq i st.nb then z1 else st.B i,h:=h' } _ _ hne
 ·refine putK_of f3 ?_
  intro g h' hg hh'
  refine putK_of e3 (Kc.of ?_)
  have hk:=putK_putO (putK_putO (h g h' hg hh'))
  simp only [putO] at hk
  refine cast (congrArg K ?_) hk
  exact put_comm { st with nb:=st.nb+1,B:=fun i=>bif Nat.beq i st.nb then z2 else st.B i,h:=h' } _ _ hne
 ·intro g h' hg hh'
  refine putK_of f3 ?_
  intro g2 h2 hg2 hh2
  subst hh'
  have hg2' : g2≠g:=fun q=>by
   rw [q] at hg2
   have:(st.h.put g ⟨z2,t2,(0,0)⟩) g=none:=hg2
   rw [Heap.put_same] at this
   cases this
  have hst2:st.h g2=none:=by
   have:(st.h.put g ⟨z2,t2,(0,0)⟩) g2=none:=hg2
   rwa [Heap.put_ne _ _ hg2'] at this
  have h1:=putK_putO (h g2 _ hst2 rfl)
  have hgn:(st.h.put g2 ⟨z1,t1,(0,0)⟩) g=none:=by rw [Heap.put_ne _ _ hg2'.symm];exact hg
  have hk:=putK_putO (h1 g _ hgn rfl)
  refine putK_of e3 (Kc.of ?_)
  simp only [putO] at hk
  refine cast (congrArg K ?_) hk
  have eh:(st.h.put g2 ⟨z1,t1,(0,0)⟩).put g ⟨z2,t2,(0,0)⟩=h2:=by
   rw [hh2]
   funext k
   show _=((st.h.put g ⟨z2,t2,(0,0)⟩).put g2 ⟨z1,t1,(0,0)⟩) k
   unfold Heap.put
   by_cases q1:k=g
   ·subst q1;simp [hg2'.symm]
   ·by_cases q2:k=g2
    ·subst q2;simp [q1]
    ·simp [q1,q2]
  rw [<- eh]
  exact put_comm (st.setH ((st.h.put g2 ⟨z1,t1,(0,0)⟩).put g ⟨z2,t2,(0,0)⟩)) _ _ hne
theorem ifB_iff {b:Bool} {X:Prop}:ifB b X↔b=true/\X:=by cases b<;>simp [ifB]
theorem opG_keeps {see:Bool} {o:Oper} {st:St} (h:opG P nt vis mb ops see o st K):opG P nt vis mb ops see o st fun st1=>Keeps vis o st st1/\K st1:=
 opG_shift (d:=none) (v:= .v undef) (fun _ h k=>⟨k,h⟩) (fun _ e=>by cases e) h
theorem ev_off {st st1:St} {o:Oper} {d:Option Nat} (hd : ∀ e,d=some e->e∉opTmps ops o) (hs : ∀ t,d≠some t->st1.f t=st.f t) {x:Operand} (hx:x∈o.op.operands.toList):ev st1 x=ev st x:=by
 cases x with
 | tmp t=>exact hs t fun e=>(notTmp (hd t e)).1 (.tmp t) hx rfl
 | _=>rfl
theorem age_off {anc:List (List Nat)} {n0 i:Nat} {st st1:St} {o:Oper} {d:Option Nat} (hd : ∀ e,d=some e->e∉opTmps ops o) (hs : ∀ t,d≠some t->st1.f t=st.f t):ageB ops anc n0 i o st1=ageB ops anc n0 i o st:=by
 have h:=fun x (hx:x∈o.op.operands.toList)=>ev_off (ops:=ops) hd hs hx
 unfold ageB boxAt
 cases ho:o.op<;>simp only
 all_goals (rw [ho] at h;rw [h _ (by simp [Op.operands])])
theorem age_ren {anc:List (List Nat)} {n0 i a b:Nat} (ha:n0<=a) (hb:n0<=b) {st:St} {o:Oper}:ageB ops anc n0 i o (ren a b st)=ageB ops anc n0 i o st:=by
 have h : ∀ x,boxAt (ren a b st) x=(boxAt st x).map (swp a b):=fun x=>by
  unfold boxAt
  rw [ev_ren]
  cases ev st x with
  | none=>rfl
  | some v=>cases v<;>rfl
 have h1 : ∀ k,Nat.blt (swp a b k) n0=Nat.blt k n0:=fun k=>by
  rw [Bool.eq_iff_iff,Nat.blt_eq,Nat.blt_eq]
  unfold swp
  grind
 have h2 : ∀ k,Nat.ble n0 (swp a b k)=Nat.ble n0 k:=fun k=>by
  rw [Bool.eq_iff_iff,Nat.ble_eq,Nat.ble_eq]
  unfold swp
  grind
 unfold ageB
 cases o.op<;>simp only
 ·rename_i t x
  rw [h]
  cases boxAt st x<;>simp [h1]
 ·rename_i t x y
  rw [h]
  cases boxAt st x<;>simp [h2]
theorem load_ev {see:Bool} {o:Oper} {st:St} {t:TypeId} {x:Operand} (ho:o.op = .load t x) (h:opV P nt vis mb see o st K) :
  ∃ v,K (putO st o.dst v)/\ ∀ (st' : St) (see' : Bool) (K' : St->Prop),ev st' x=ev st x->(∀ k,boxAt st x=some k->st'.B k=st.B k)->st.nb<=st'.nb->(see=true->see' = true/\LeH st.h st'.h)->K' (putO st' o.dst v)->opV P nt vis mb see' o st' K' := by
 unfold opV at h
 rw [ho] at h
 simp only at h
 split at h
 ·rename_i i off ag n e1 e2 e3
  split at h
  ·rename_i hc
   obtain ⟨h1,h2⟩:=putK_get h
   refine ⟨_,h1,fun st' see' K' a1 a2 a3 _ hk=> ?_⟩
   unfold opV
   rw [ho]
   simp only [a1,e1,e2,e3]
   have hb:st'.B i=st.B i:=a2 i (by unfold boxAt;rw [e1])
   simp only [Bool.and_eq_true,Nat.blt_eq] at hc
   have hlt:Nat.blt i st'.nb=true:=by rw [Nat.blt_eq];omega
   have hc' : (Nat.blt i st'.nb&&(Nat.ble (off+n) (st'.B i).length&&(ag||Nat.beq n 1)))=true:=by
    rw [hlt,hb,hc.2.1,hc.2.2]
    rfl
   simp only [hc']
   rw [hb]
   exact h2 _ _ hk
  ·exact h.elim
 ·rename_i p ag n e1 e2 e3
  split at h
  ·rename_i hc
   obtain ⟨vs,hG,hld,hk⟩:=exL_shape _ h
   obtain ⟨h1,h2⟩:=putK_get hk
   refine ⟨_,h1,fun st' see' K' a1 a2 a3 a4 hk' => ?_⟩
   unfold opV
   rw [ho]
   simp only [a1,e1,e2,e3]
   simp only [Bool.and_eq_true] at hc
   obtain ⟨s1,s2⟩:=a4 hc.1.1.1
   have hc' : (see' && Nat.beq (tyShs P 12 t).length n&&(ag||Nat.beq n 1)&&Nat.ble 1 n)=true:=by
    rw [s1,hc.1.1.2,hc.1.2,hc.2]
    rfl
   simp only [hc']
   exact hG _ ⟨(let ⟨q1,q2,q3,q4⟩:=hld;⟨q1,q2,s2 _ _ q3,q4⟩),h2 _ _ hk'⟩
  ·exact h.elim
 ·exact h.elim
theorem store_ev {see:Bool} {o:Oper} {st:St} {t:TypeId} {x y:Operand} {k:Nat} (ho:o.op = .store t x y) (hb:boxAt st x=some k) (h:opV P nt vis mb see o st K) :
  ∃ cs,K (putO (st.setB k cs) o.dst (.v undef))/\ ∀ (st' : St) (see' : Bool) (K' : St->Prop),ev st' x=ev st x->ev st' y=ev st y->st'.B k=st.B k->K' (putO (st'.setB k cs) o.dst (.v undef))->opV P nt vis mb see' o st' K' := by
 unfold boxAt at hb
 split at hb
 rotate_left
 ·cases hb
 rename_i k' off e1
 cases hb
 unfold opV at h
 rw [ho] at h
 simp only [e1] at h
 split at h
 ·rename_i i' off' a n q1 e2 e3
  cases q1
  split at h
  ·rename_i hc
   obtain ⟨h1,h2⟩:=putK_get h
   refine ⟨_,h1,fun st' see' K' a1 a2 a3 hk=> ?_⟩
   unfold opV
   rw [ho]
   simp only [a1,a2,e1,e2,e3,a3,hc]
   exact h2 _ _ hk
  ·exact h.elim
 ·rename_i q1 _ _
  cases q1
 ·exact h.elim
theorem setB_putO (st:St) (k:Nat) (cs:List Value) (d:Option Nat) (v:SV):(putO st d v).setB k cs=putO (st.setB k cs) d v:=by cases d<;>rfl
theorem putO_comm {st:St} {d e:Option Nat} {u v:SV} (h : ∀ a,d=some a->e≠some a):putO (putO st d u) e v=putO (putO st e v) d u:=by
 cases d with
 | none=>rfl
 | some a=>
  cases e with
  | none=>rfl
  | some b=>exact put_comm _ _ _ fun q=>h a rfl (by rw [q])
theorem swapLS {sx sx' si si' : Bool} {x y:Oper} {st:St} {t t' : TypeId} {ax ay vy:Operand} {k:Nat} (hx:x.op = .load t ax) (hy:y.op = .store t' ay vy) (gx:x.guard=none) (gy:y.guard=none) (hap:apartB ops x y=true)
  (hk:boxAt st ay=some k) (hne:boxAt st ax≠some k) (hsee:sx=true->sx' = true)
  (h:opG P nt vis mb ops sx x st fun st1=>opG P nt vis mb ops si y st1 K):opG P nt vis mb ops si' y st fun st1=>opG P nt vis mb ops sx' x st1 K:=by
 obtain ⟨a1,a2⟩:=apart_spec hap
 have unf : ∀ (see:Bool) (o:Oper) (S:St) (K' : St->Prop),o.guard=none->opG P nt vis mb ops see o S K' = opV P nt vis mb see o S K' := fun see o S K' q=>by unfold opG;simp only [q]
 have ex : ∀ (st1:St),(∀ t,y.dst≠some t->st1.f t=st.f t)->ev st1 ax=ev st ax:=fun st1 hs=>ev_off (ops:=ops) (o:=x) a2 hs (by rw [hx];simp [Op.operands])
 have ey : ∀ (st1:St),(∀ t,x.dst≠some t->st1.f t=st.f t)->ev st1 ay=ev st ay/\ev st1 vy=ev st vy:=fun st1 hs=>⟨ev_off (ops:=ops) (o:=y) a1 hs (by rw [hy];simp [Op.operands]),ev_off (ops:=ops) (o:=y) a1 hs (by rw [hy];simp [Op.operands])⟩
 have hput : ∀ (S:St) (d:Option Nat) (v:SV),∀ t,d≠some t->(putO S d v).f t=S.f t:=fun S d v t ht=>by
  cases d with
  | none=>rfl
  | some e=>simp only [putO,St.put];rw [beq_ne (fun q=>ht (by rw [q]))];rfl
 rw [unf _ _ _ _ gx] at h
 obtain ⟨v,h1,againX⟩:=load_ev hx h
 rw [unf _ _ _ _ gy] at h1
 obtain ⟨e1,e2⟩:=ey (putO st x.dst v) (hput st x.dst v)
 have hk2:boxAt (putO st x.dst v) ay=some k:=by unfold boxAt at hk ⊢;rw [e1];exact hk
 obtain ⟨cs,h2,againY⟩:=store_ev hy hk2 h1
 rw [unf _ _ _ _ gy]
 refine againY st si' _ e1.symm e2.symm (by cases x.dst<;>rfl) ?_
 rw [unf _ _ _ _ gx]
 refine againX _ sx' _ (ex _ fun t ht=>(hput (st.setB k cs) y.dst (.v undef) t ht).trans rfl) (fun kk hkk=> ?_) (by rw [putO_nb];exact Nat.le_refl _) (fun q=>⟨hsee q,by rw [putO_h];exact fun _ _ q=>q⟩) ?_
 ·have:kk≠k:=fun q=>hne (by rw [hkk,q])
  rw [putO_B]
  simp only [St.setB,beq_ne this,cond_false]
 ·rw [setB_putO] at h2
  rw [putO_comm (fun a q=>fun q2=>(notTmp (a1 a q2)).2.1 q)]
  exact h2
theorem swapSA {sx sx' si si' : Bool} {x y:Oper} {st:St} {t' : TypeId} {ax vx:Operand} {k:Nat} (hw:WF st) (hx:x.op = .store t' ax vx) (hy:okAlloc P nt y=true) (gx:x.guard=none) (gy:y.guard=none) (hap:apartB ops x y=true)
  (hk:boxAt st ax=some k) (h:opG P nt vis mb ops sx x st fun st1=>opG P nt vis mb ops si y st1 K):opG P nt vis mb ops si' y st fun st1=>opG P nt vis mb ops sx' x st1 K:=by
 obtain ⟨a1,a2⟩:=apart_spec hap
 obtain ⟨t,d,z,f1,f2,f3,f4,f5⟩:=okAlloc_spec hy
 have unf : ∀ (see:Bool) (S:St) (K' : St->Prop),opG P nt vis mb ops see x S K' = opV P nt vis mb see x S K' := fun see S K' => by unfold opG;simp only [gx]
 have unfy : ∀ (see:Bool) (S:St) (K' : St->Prop),opG P nt vis mb ops see y S K' = boxR nt vis (some d) t z S K' := fun see S K' => by unfold opG opV;simp only [gy,f1,f2,f4]
 have hlt:k<st.nb:=by
  unfold boxAt at hk
  split at hk
  ·rename_i k' off e
   cases hk
   exact ev_sok hw e
  ·cases hk
 have ex : ∀ (st1:St),(∀ t,some d≠some t->st1.f t=st.f t)->ev st1 ax=ev st ax/\ev st1 vx=ev st vx:=fun st1 hs=>⟨ev_off (ops:=ops) (o:=x) (d:=some d) (fun e q=>a2 e (by rw [f2];exact q)) hs (by rw [hx];simp [Op.operands]),ev_off (ops:=ops) (o:=x) (d:=some d) (fun e q=>a2 e (by rw [f2];exact q)) hs (by rw [hx];simp [Op.operands])⟩
 have hdx : ∀ a,x.dst=some a->a≠d:=fun a q q2=>(notTmp (a1 a q)).2.1 (by rw [f2,q2])
 rw [unf] at h
 obtain ⟨cs,h1,again⟩:=store_ev hx hk h
 rw [unfy] at h1 ⊢
 unfold boxR at h1 ⊢
 simp only [f5] at h1 ⊢
 cases hv:isVis vis (some d)<;>simp only [hv] at h1 ⊢
 ·refine putK_of f3 ?_
  have hk2:=putK_putO h1
  obtain ⟨e1,e2⟩:=ex ((St.mk st.f (fun i=>bif Nat.beq i st.nb then z else st.B i) (st.nb+1) st.h).put d (.bx st.nb 0)) (fun t ht=>by simp only [St.put];rw [beq_ne (fun q=>ht (by rw [q]))];rfl)
  rw [unf]
  have hkn:Nat.beq k st.nb=false:=beq_ne (by omega)
  refine again _ sx' _ e1 e2 (by simp only [St.put,hkn,cond_false]) ?_
  refine cast (congrArg K ?_) hk2
  have hB : ∀ i,(bif Nat.beq i st.nb then z else (bif Nat.beq i k then cs else st.B i))=(bif Nat.beq i k then cs else (bif Nat.beq i st.nb then z else st.B i)):=fun i=>by
   by_cases q:i=k
   ·subst q;rw [hkn];rfl
   ·rw [beq_ne q];rfl
  cases hdd:x.dst with
  | none=>
   simp only [putO,St.put,St.setB,St.mk.injEq,and_true,true_and]
   exact funext hB
  | some a=>
   have:=hdx a hdd
   simp only [putO,St.put,St.setB,St.mk.injEq,and_true]
   refine ⟨?_,funext hB⟩
   funext u
   by_cases q1:u=d
   ·subst q1;simp [beq_ne (fun q=>this q.symm)]
   ·by_cases q2:u=a
    ·subst q2;simp [beq_ne q1]
    ·simp [beq_ne q1,beq_ne q2]
 ·intro g h' hg hh'
  refine putK_of f3 ?_
  rw [putO_h] at h1
  have hk2:=putK_putO (h1 g h' hg hh')
  obtain ⟨e1,e2⟩:=ex ((st.setH h').put d (.v (.pointer (some ⟨g,0,none⟩)))) (fun t ht=>by simp only [St.put];rw [beq_ne (fun q=>ht (by rw [q]))];rfl)
  rw [unf]
  refine again _ sx' _ e1 e2 rfl ?_
  refine cast (congrArg K ?_) hk2
  cases hdd:x.dst with
  | none=>rfl
  | some a=>exact put_comm ((st.setB k cs).setH h') _ _ (hdx a hdd)
theorem drawV_mono {anc:List (List Nat)} {n0:Nat} {K' : St->Prop} (hm : ∀ st,K st->K' st) : ∀ (l:List Nat) {st:St},drawV P nt vis mb ops anc n0 l st K->drawV P nt vis mb ops anc n0 l st K'
 | [],st,h=>hm st h
 | i::r,st,h=>by
  simp only [drawV] at h ⊢
  split
  ·rename_i o ho
   simp only [ho,ifB_iff] at h ⊢
   exact ⟨h.1,opG_mono (fun st1 h=>andK_mono h id fun h=>drawV_mono hm r h) h.2⟩
  ·rename_i ho
   simp only [ho] at h
theorem opG_nb {see:Bool} {o:Oper} {st:St} (h:opG P nt vis mb ops see o st K):opG P nt vis mb ops see o st fun st1=>st.nb<=st1.nb/\K st1:=
 opG_shift (d:=none) (v:= .v undef) (fun _ h k=>⟨k.nb,h⟩) (fun _ e=>by cases e) h
theorem drawV_ren {anc:List (List Nat)} {n0 a b:Nat} (na:n0<=a) (nb:n0<=b) (ma:mb a=true) (mbb:mb b=true) : ∀ (l:List Nat) {st:St},a<st.nb->b<st.nb->drawV P nt vis mb ops anc n0 l (ren a b st) K->drawV P nt vis mb ops anc n0 l st fun st' => a<st'.nb/\b<st'.nb/\K (ren a b st')
 | [],st,ha,hb,h=>⟨ha,hb,h⟩
 | i::r,st,ha,hb,h=>by
  simp only [drawV] at h ⊢
  split
  ·rename_i o ho
   simp only [ho,ifB_iff,age_ren na nb] at h ⊢
   have h1:=opG_nb (opG_ren ha hb ma mbb h.2)
   exact ⟨h.1,opG_mono (fun st1 ⟨hn,h⟩=>andK_mono h id fun h=>drawV_ren na nb ma mbb r (by omega) (by omega) h) h1⟩
  ·rename_i ho
   simp only [ho] at h
theorem drawV_kc {anc:List (List Nat)} {n:Nat} (hmb : ∀ i,n<=i->mb i=true) (l:List Nat) : ∀ (q:List (Nat×Nat)) {st:St} {K:St->Prop},(∀ p∈q,n<=p.1/\n<=p.2/\p.1<st.nb/\p.2<st.nb)->
  drawV P nt vis mb ops anc n l (q.foldl (fun st p=>ren p.1 p.2 st) st) K->drawV P nt vis mb ops anc n l st (Kc n K)
 | [],st,K,_,h=>drawV_mono (fun _ h=>Kc.of h) l h
 | p::q,st,K,hq,h=>by
  obtain ⟨h1,h2,h3,h4⟩:=hq p (by simp)
  have ih:=drawV_kc hmb l q (st:=ren p.1 p.2 st) (fun r hr=>hq r (by simp [hr])) h
  exact drawV_mono (fun st' ⟨b1,b2,h⟩=>(Kc.ren h1 h2 b1 b2 h:Kc n (Kc n K) st').join) l (drawV_ren h1 h2 (hmb _ h1) (hmb _ h2) l h3 h4 ih)
theorem age_load {anc:List (List Nat)} {n0 i j:Nat} {x y:Oper} {st:St} {t:TypeId} {a:Operand} (hx:x.op = .load t a) (hy:ops[j]?=some y) (hst:isStore y.op=true) (h1:memN j ((anc[i]?).getD [])=false) (h2:memN i ((anc[j]?).getD [])=false)
  (h:ageB ops anc n0 i x st=true) : ∀ k,boxAt st a=some k->k<n0:=by
 intro k hk
 unfold ageB at h
 rw [hx] at h
 simp only [hk,loose_of (p:=isStore) (k:=0) (m:=j) hst h1 h2 hy (by omega),Bool.not_true,Bool.false_or,Nat.blt_eq] at h
 exact h
theorem age_store {anc:List (List Nat)} {n0 i j:Nat} {x y:Oper} {st:St} {t:TypeId} {a v:Operand} (hx:x.op = .store t a v) (hy:ops[j]?=some y) (hst:isLA y.op=true) (h1:memN j ((anc[i]?).getD [])=false) (h2:memN i ((anc[j]?).getD [])=false)
  (h:ageB ops anc n0 i x st=true) : ∃ k,boxAt st a=some k/\n0<=k:=by
 unfold ageB at h
 rw [hx] at h
 simp only [loose_of (p:=isLA) (k:=0) (m:=j) hst h1 h2 hy (by omega),Bool.not_true,Bool.false_or] at h
 cases hk:boxAt st a with
 | none=>rw [hk] at h;cases h
 | some k=>rw [hk] at h;exact ⟨k,rfl,by simpa [Nat.ble_eq] using h⟩
theorem pull {anc:List (List Nat)} {i n:Nat} {y:Oper} (hy:ops[i]?=some y) (hmb : ∀ i,n<=i->mb i=true) : ∀ (l r:List Nat) {st:St},n<=st.nb->WF st->
  (∀ j∈l,memN j ((anc[i]?).getD [])=false/\memN i ((anc[j]?).getD [])=false/\ ∃ x,ops[j]?=some x/\mayPass (okAlloc P nt) ops x y=true)->drawV P nt vis mb ops anc n (l++i::r) st K->drawV P nt vis mb ops anc n (i::(l++r)) st (Kc n K)
 | [],r,st,_,_,_,h=>drawV_mono (fun _ h=>Kc.of h) _ h
 | j::l,r,st,hn,hwf,hl,h=>by
  obtain ⟨hnot,hnot2,x,hx,hp⟩:=hl j (by simp)
  simp only [mayPass,Bool.and_eq_true,Bool.or_eq_true,Bool.not_eq_true'] at hp
  obtain ⟨hap,hpl⟩:=hp
  obtain ⟨ap1,ap2⟩:=apart_spec hap
  simp only [List.cons_append,drawV,hx,ifB_iff] at h
  obtain ⟨agx,h⟩:=h
  have h0:=opG_nb (opG_wf hwf h)
  have h1:=opG_mono (K' := fun st1=>andK (keepB ops anc j) (LeH st.h st1.h) (drawV P nt vis mb ops anc n (i::(l++r)) st1 (Kc n K))) (fun st1 ⟨hn1,hw1,h⟩=>andK_mono h id fun h=>pull hy hmb l r (by omega) hw1 (fun k hk=>hl k (by simp [hk])) h) h0
  simp only [drawV,hy,ifB_iff] at h1
  simp only [List.cons_append,drawV,hy,hx,ifB_iff]
  have hput : ∀ (d:Option Nat) (v:SV),∀ t,d≠some t->(putO st d v).f t=st.f t:=fun d v t ht=>by
   cases d with
   | none=>rfl
   | some e=>simp only [putO,St.put];rw [beq_ne (fun q=>ht (by rw [q]))];rfl
  have agy:ageB ops anc n i y st=true:=by
   have al:okAlloc P nt y=true->ageB ops anc n i y st=true:=fun q=>by
    obtain ⟨t,d,z,e,_⟩:=okAlloc_spec q
    unfold ageB
    rw [e]
   have still:(pureOp x.op||isLoad x.op)=true->ageB ops anc n i y st=true:=fun hs=>by
    obtain ⟨v,hv,_⟩:=still_evG hs h1
    have:ageB ops anc n i y (putO st x.dst v)=true:=by
     unfold andK at hv
     split at hv
     ·exact hv.2.1
     ·exact hv.1
    rw [age_off ap1 (hput x.dst v)] at this
    exact this
   rcases hpl with (((hpl | c) | c) | c) | c
   ·exact still (by rcases hpl with h | h;simp [h];simp [h.1])
   ·exact al c.1.1.2
   ·exact al c.1.1.2
   ·exact still (by simp [c.1.1.1])
   ·exact al c.1.1.2
  refine ⟨agy, ?_⟩
  have h1:=opG_mono (fun st1 h=>andK_mono h id fun h=>h.2) h1
  suffices hg:opG P nt vis mb ops (seesB vis ops anc i (j::(l++r))) y st fun st1=>andK (keepB ops anc i) (LeH st.h st1.h) (opG P nt vis mb ops (seesB vis ops anc j (l++r)) x st1 fun st2=>andK (keepB ops anc j) (LeH st1.h st2.h) (drawV P nt vis mb ops anc n (l++r) st2 (Kc n K))) by
   refine opG_mono (fun st1 ⟨k,h⟩=>andK_mono h id fun h=>⟨?_,h⟩) (opG_keeps hg)
   rw [age_off ap2 k.slots]
   exact agx
  rcases hpl with (((hpl | ⟨⟨⟨c1,c2⟩,c3⟩,c4⟩) | ⟨⟨⟨c1,c2⟩,c3⟩,c4⟩) | ⟨⟨⟨c1,c2⟩,c3⟩,c4⟩) | ⟨⟨⟨c1,c2⟩,c3⟩,c4⟩
  ·have hs:(pureOp x.op||isLoad x.op)=true:=by rcases hpl with h | h;simp [h];simp [h.1]
   have hnf:isFCall x.op=false:=by
    rcases hpl with h | h
    ·cases hop:x.op<;>rw [hop] at h<;>first | rfl | (simp [pureOp] at h;done) | skip
     rename_i c
     obtain ⟨callee,as,ats⟩:=c
     cases callee with
     | value o=>simp [pureOp] at h
     | _=>rfl
    ·have h:=h.1
     cases hop:x.op<;>rw [hop] at h<;>first | rfl | (simp [isLoad] at h;done)
   have kx:=keep_still (anc:=anc) hx hnf
   rw [kx] at h1 ⊢
   rw [sees_cons hx hs]
   have hns:isLoad x.op=true->isStore y.op=false:=fun q=>by
    rcases hpl with h | h
    ·cases hop:x.op<;>rw [hop] at q h<;>simp_all [isLoad,pureOp]
    ·exact h.2
   refine swap hs hap hns (fun q hsx=> ?_) h1
   obtain ⟨h3,h4⟩:=sees_mid hy hnot hsx
   refine ⟨h3, ?_⟩
   rcases h4 with h4 | ⟨h4 | h4,h5⟩
   ·exact .inl h4
   ·exact .inr (keep_of hx hy q h4 hnot h5)
   ·rw [hns q] at h4;cases h4
  ·have ky:keepB ops anc i=false:=keep_still hy (by obtain ⟨t,d,z,e,_⟩:=okAlloc_spec c2;rw [e];rfl)
   rw [ky] at h1 ⊢
   exact swapA c1 c2 (by simpa using c3) (by simpa using c4) hap h1
  ·have ky:keepB ops anc i=false:=keep_still hy (by obtain ⟨t,d,z,e,_⟩:=okAlloc_spec c2;rw [e];rfl)
   have kx:keepB ops anc j=false:=keep_still hx (by obtain ⟨t,d,z,e,_⟩:=okAlloc_spec c1;rw [e];rfl)
   rw [kx,ky] at h1
   rw [kx,ky]
   have h2:=swapB (si' := seesB vis ops anc i (j::(l++r))) (sx' := seesB vis ops anc j (l++r)) hn hwf c1 c2 (by simpa using c3) (by simpa using c4) hap h1
   exact opG_mono (fun st1 h=>opG_mono (fun st2 ⟨q,hq,h⟩=>drawV_mono (fun _ h=>Kc.join h) _ (drawV_kc hmb (l++r) q hq h)) h) h2
  ·have hxo : ∃ t a,x.op = .load t a:=by cases hop:x.op<;>rw [hop] at c1<;>first | exact ⟨_,_,rfl⟩ | (simp [isLoad] at c1;done)
   have hyo : ∃ t a v,y.op = .store t a v:=by cases hop:y.op<;>rw [hop] at c2<;>first | exact ⟨_,_,_,rfl⟩ | (simp [isStore] at c2;done)
   obtain ⟨t,a,hxo⟩:=hxo
   obtain ⟨t', b,v,hyo⟩:=hyo
   have kx:keepB ops anc j=false:=keep_still hx (by rw [hxo];rfl)
   have ky:keepB ops anc i=false:=keep_still hy (by rw [hyo];rfl)
   rw [kx,ky] at h1
   rw [kx,ky]
   have ox:=age_load hxo hy c2 hnot2 hnot agx
   obtain ⟨k,hk,hnk⟩:=age_store hyo hx (by rw [hxo];rfl) hnot hnot2 agy
   exact swapLS hxo hyo (by simpa using c3) (by simpa using c4) hap hk (fun q=>by have:=ox k q;omega) (fun q=>(sees_mid hy hnot q).1) h1
  ·have hxo : ∃ t a v,x.op = .store t a v:=by cases hop:x.op<;>rw [hop] at c1<;>first | exact ⟨_,_,_,rfl⟩ | (simp [isStore] at c1;done)
   obtain ⟨t', b,v,hxo⟩:=hxo
   have kx:keepB ops anc j=false:=keep_still hx (by rw [hxo];rfl)
   have hyo : ∃ t,y.op = .alloc t:=by obtain ⟨t,d,z,e,_⟩:=okAlloc_spec c2;exact ⟨t,e⟩
   obtain ⟨t,hyo⟩:=hyo
   have ky:keepB ops anc i=false:=keep_still hy (by rw [hyo];rfl)
   rw [kx,ky] at h1
   rw [kx,ky]
   obtain ⟨k,hk,_⟩:=age_store hxo hy (by rw [hyo];rfl) hnot2 hnot agx
   exact swapSA hwf hxo c2 (by simpa using c3) (by simpa using c4) hap hk h1
end
section
variable {P:Program} {nt:Nat} {h0:Heap} {w0:World} {mb vis:Nat->Bool}
theorem passOk_mem {ops:List Oper} {anc:List (List Nat)} {i:Nat} : ∀ {r:List Nat},passOk (okAlloc P nt) ops anc i r=true-> ∀ j∈r,memN i ((anc[j]?).getD [])=true\/(memN j ((anc[i]?).getD [])=false/\ ∃ x y,ops[i]?=some x/\ops[j]?=some y/\mayPass (okAlloc P nt) ops x y=true)
 | [],_,j,hj=>by cases hj
 | k::r,h,j,hj=>by
  simp only [passOk,Bool.and_eq_true,Bool.or_eq_true,Bool.not_eq_true'] at h
  rcases List.mem_cons.1 hj with rfl | hj
  ·rcases h.1 with h | ⟨h0,h⟩
   ·exact .inl h
   ·split at h
    ·rename_i x y hx hy;exact .inr ⟨h0,x,y,hx,hy,h⟩
    ·cases h
  ·exact passOk_mem h.2 j hj
theorem passOk_sub {ops:List Oper} {anc:List (List Nat)} {i k:Nat} : ∀ {l r:List Nat},passOk (okAlloc P nt) ops anc i (l++k::r)=true->passOk (okAlloc P nt) ops anc i (l++r)=true
 | [],r,h=>by simp only [List.nil_append,passOk,Bool.and_eq_true] at h;exact h.2
 | j::l,r,h=>by
  simp only [List.cons_append,passOk,Bool.and_eq_true] at h ⊢
  exact ⟨h.1,passOk_sub h.2⟩
theorem orderOk_sub {ops:List Oper} {anc:List (List Nat)} {k:Nat} : ∀ {l r:List Nat},orderOk (okAlloc P nt) ops anc (l++k::r)=true->orderOk (okAlloc P nt) ops anc (l++r)=true
 | [],r,h=>by simp only [List.nil_append,orderOk,Bool.and_eq_true] at h;exact h.2
 | j::l,r,h=>by
  simp only [List.cons_append,orderOk,Bool.and_eq_true] at h ⊢
  exact ⟨passOk_sub h.1,orderOk_sub h.2⟩
theorem orderOk_mid {ops:List Oper} {anc:List (List Nat)} {i:Nat} : ∀ {l r:List Nat},orderOk (okAlloc P nt) ops anc (l++i::r)=true-> ∀ j∈l,passOk (okAlloc P nt) ops anc j (i::r)=true\/(memN j ((anc[i]?).getD [])=true\/(memN i ((anc[j]?).getD [])=false/\ ∃ x y,ops[j]?=some x/\ops[i]?=some y/\mayPass (okAlloc P nt) ops x y=true))
 | k::l,r,h,j,hj=>by
  simp only [List.cons_append,orderOk,Bool.and_eq_true] at h
  rcases List.mem_cons.1 hj with rfl | hj
  ·exact .inr (passOk_mem h.1 i (by simp))
  ·exact orderOk_mid h.2 j hj
theorem dst_writes {t:Nat} : ∀ {l:List Oper} {i:Nat} {o:Oper},l[i]?=some o->opsWrite t l=false->dstW o.dst t=false
 | [],i,o,h,_=>by simp at h
 | x::r,i,o,h,hw=>by
  simp only [opsWrite] at hw
  have both:dstW x.dst t=false/\opsWrite t r=false:=by
   split at hw
   ·rename_i d hd
    rw [hd]
    simp only [dstW]
    cases hb:Nat.beq t d with
    | true=>rw [hb] at hw;cases hw
    | false=>rw [hb] at hw;exact ⟨rfl,hw⟩
   ·rename_i hd;rw [hd];exact ⟨rfl,hw⟩
  cases i with
  | zero=>simp only [List.getElem?_cons_zero,Option.some.injEq] at h;subst h;exact both.1
  | succ i=>exact dst_writes (by simpa using h) both.2
theorem backEs_mem {i:Nat} : ∀ {es:List Edge},backEs i es=true-> ∀ e∈es,Region.binds .any e=true->e.on<i
 | [],_,e,he,_=>by cases he
 | x::r,h,e,he,hb=>by
  simp only [backEs,Bool.and_eq_true,Bool.or_eq_true,Bool.not_eq_true'] at h
  rcases List.mem_cons.1 he with rfl | he
  ·rcases h.1 with h | h
   ·rw [hb] at h;cases h
   ·simpa [Nat.blt_eq] using h
  ·exact backEs_mem h.2 e he hb
theorem backOk_get : ∀ {l:List Oper} {k i:Nat} {o:Oper},backOk k l=true->l[i]?=some o-> ∀ e∈o.after.toList,Region.binds .any e=true->e.on<k+i
 | [],k,i,o,_,h,_,_,_=>by simp at h
 | x::r,k,i,o,hb,h,e,he,hbd=>by
  simp only [backOk,Bool.and_eq_true] at hb
  cases i with
  | zero=>simp only [List.getElem?_cons_zero,Option.some.injEq] at h;subst h;exact backEs_mem hb.1 e he hbd
  | succ i=>have:=backOk_get hb.2 (i:=i) (by simpa using h) e he hbd;omega
theorem exists_least {L:List Nat} (h:L≠[]) : ∃ i∈L,∀ j∈L,i<=j:=by
 induction L with
 | nil=>exact absurd rfl h
 | cons a r ih=>
  cases r with
  | nil=>exact ⟨a,by simp,fun j hj=>by simp at hj;omega⟩
  | cons b r=>
   obtain ⟨i,hi,hm⟩:=ih (by simp)
   by_cases hle:a<=i
   ·exact ⟨a,by simp,fun j hj=>by rcases List.mem_cons.1 hj with rfl | hj;exact Nat.le_refl _;exact Nat.le_trans hle (hm j hj)⟩
   ·exact ⟨i,by simp [hi],fun j hj=>by rcases List.mem_cons.1 hj with rfl | hj;omega;exact hm j hj⟩
theorem draw_sound {ops:Array Oper} {Qv:Exit->St->Prop} {W:Nat->Bool} {sB:Nat->Nat} {stB:St} {aB:Act} {n0:Nat} (hn0:stB.nb<=n0) (hmb : ∀ i,stB.nb<=i->mb i=true) (hW : ∀ t,W t=false->opsWrite t ops.toList=false) (hback:backOk 0 ops.toList=true) :
  ∀ (fuel:Nat) (L:List Nat) (listed:Array Bool) (s:Nat->Nat) (st:St) (a:Act) (w:World),n0<=st.nb->L.length=fuel->L.Nodup->listed.size=ops.size->(∀ i,i∈L↔(i<ops.size/\listed.getD i false=false))->
   (∀ (i:Nat) (o:Oper),listed.getD i false=true->ops.toList[i]?=some o-> ∀ e∈o.after.toList,Region.binds .any e=true->listed.getD e.on false=true)->
   orderOk (okAlloc P nt) ops.toList (ancs ops.toList []) L=true->Good nt h0 w0 s st a w->Ext W mb sB stB aB s st a->drawV P nt vis mb ops.toList (ancs ops.toList []) n0 L st (Kc n0 (Qv .normal))->
   wpAny P .any ops (PostP nt h0 w0 Qv W mb sB stB aB) fuel listed a w:=by
 have hgd : ∀ (l:Array Bool) (i:Nat),l.size=ops.size->i<ops.size->l.getD i true=l.getD i false:=fun l i h1 h2=>by
  have:i<l.size:=by omega
  simp [this]
 have ready_mem : ∀ (L:List Nat) (listed:Array Bool) (i:Nat),listed.size=ops.size->(∀ i,i∈L↔(i<ops.size/\listed.getD i false=false))->i∈Region.ready .any ops listed->
   i∈L/\ ∃ o,ops[i]?=some o/\ ∀ e∈o.after.toList,Region.binds .any e=true->listed.getD e.on false=true:=by
  intro L listed i hsz hmem hi
  rw [mem_ready] at hi
  obtain ⟨h1,o,ho,h2⟩:=hi
  have hlt:i<ops.size:=(Array.getElem?_eq_some_iff.1 ho).1
  refine ⟨(hmem i).2 ⟨hlt,by rw [<- hgd listed i hsz hlt];exact h1⟩,o,ho,fun e he hb=>h2 e (by simpa using he) hb⟩
 intro fuel
 induction fuel with
 | zero=>
  intro L listed s st a w _ hl _ hsz hmem _ _ g e hv
  have hL:L=[]:=List.eq_nil_of_length_eq_zero hl
  subst hL
  obtain ⟨q,hq,hk⟩:=hv
  obtain ⟨s1,st1,hk1,g1,e1⟩:=Kc.post q (fun p hp=>let ⟨q1,q2,q3⟩:=hq p hp;⟨Nat.le_trans hn0 q1,Nat.le_trans hn0 q2,q3⟩) hk g e
  refine ⟨?_,st1,s1,hk1,g1,e1⟩
  apply List.eq_nil_iff_forall_not_mem.2
  intro i hi
  have:=(ready_mem [] listed i hsz hmem hi).1
  cases this
 | succ fuel ih=>
  intro L listed s st a w hnb hl hnd hsz hmem hcl hok g e hv
  refine ⟨fun hr=> ?_,fun i hi=> ?_⟩
  ·exfalso
   have hne:L≠[]:=fun q=>by rw [q] at hl;simp at hl
   obtain ⟨i,hi,hmin⟩:=exists_least hne
   obtain ⟨hlt,hun⟩:=(hmem i).1 hi
   have:i∈Region.ready .any ops listed:=by
    rw [mem_ready]
    refine ⟨by rw [hgd listed i hsz hlt];exact hun,ops[i],Array.getElem?_eq_getElem hlt,fun e he hb=> ?_⟩
    have hon:=backOk_get hback (i:=i) (o:=ops[i]) (by simp [hlt]) e (by simpa using he) hb
    cases hq:listed.getD e.on false with
    | true=>rfl
    | false=>
     have:=hmin e.on ((hmem e.on).2 ⟨by omega,hq⟩)
     omega
   rw [hr] at this
   cases this
  ·obtain ⟨hiL,o,ho,hpre⟩:=ready_mem L listed i hsz hmem hi
   have ho' : ops.toList[i]?=some o:=by simpa using ho
   obtain ⟨l,r,rfl⟩:=List.append_of_mem hiL
   have hlt:i<ops.size:=((hmem i).1 hiL).1
   have hrows:=ancs_rows ops.toList
   have hpass : ∀ j∈l,memN j (((ancs ops.toList [])[i]?).getD [])=false/\memN i (((ancs ops.toList [])[j]?).getD [])=false/\ ∃ x,ops.toList[j]?=some x/\mayPass (okAlloc P nt) ops.toList x o=true:=by
    intro j hj
    have hjL:j∈l++i::r:=by simp [hj]
    have hjun:=((hmem j).1 hjL).2
    have hnot:memN j (((ancs ops.toList [])[i]?).getD [])=false:=by
     cases hm:memN j (((ancs ops.toList [])[i]?).getD []) with
     | false=>rfl
     | true=>
      exfalso
      have hjm:=memN_iff.1 hm
      cases hrow:(ancs ops.toList [])[i]? with
      | none=>rw [hrow] at hjm;simp at hjm
      | some row=>
       rw [hrow] at hjm
       have:=hrows (fun k=>listed.getD k false=true) (fun i o h1 h2 e he hb=>hcl i o h1 h2 e he hb) i o row ho' hrow hpre j (by simpa using hjm)
       rw [hjun] at this
       cases this
    refine ⟨hnot, ?_⟩
    rcases orderOk_mid hok j hj with h | h | ⟨h9,x,y,hx,hy,hp⟩
    ·rcases passOk_mem h i (by simp) with h | ⟨h9,x,y,hx,hy,hp⟩
     ·rw [hnot] at h;cases h
     ·rw [ho'] at hy;simp only [Option.some.injEq] at hy;subst hy;exact ⟨h9,x,hx,hp⟩
    ·rw [hnot] at h;cases h
    ·rw [ho'] at hy;simp only [Option.some.injEq] at hy;subst hy;exact ⟨h9,x,hx,hp⟩
   have hv' := drawV_mono (fun _ h=>Kc.join h) _ (pull ho' (fun i q=>hmb i (Nat.le_trans hn0 q)) l r hnb g.wfb hpass hv)
   simp only [drawV,ho', ifB_iff] at hv'
   replace hv' := hv'.2
   have hnd' := List.nodup_append.1 hnd
   have hnin:i∉l++r:=by
    intro hm
    rcases List.mem_append.1 hm with hm | hm
    ·exact hnd'.2.2 i hm i (by simp) rfl
    ·exact (List.nodup_cons.1 hnd'.2.1).1 hm
   replace hv' := opG_mono (K' := fun st' => drawV P nt vis mb ops.toList (ancs ops.toList []) n0 (l++r) st' (Kc n0 (Qv .normal))) (fun st1 h=>by unfold andK at h;split at h;exact h.2;exact h) hv'
   have next : ∀ a' w', NextP nt h0 w0 (fun st' => drawV P nt vis mb ops.toList (ancs ops.toList []) n0 (l++r) st' (Kc n0 (Qv .normal))) (dstW o.dst) mb s st a a' w' ->
     wpAny P .any ops (PostP nt h0 w0 Qv W mb sB stB aB) fuel (listed.setIfInBounds i true) a' w' := by
    rintro a' w' ⟨st', s', hk,g', e'⟩
    refine ih (l++r) (listed.setIfInBounds i true) s' st' a' w' (Nat.le_trans hnb e'.nb) ?_ ?_ ?_ ?_ ?_ (orderOk_sub hok) g' (e.step e' fun t ht=>dst_writes ho' (hW t ht)) hk
    ·simp at hl ⊢;omega
    ·rw [List.nodup_append]
     exact ⟨hnd'.1,(List.nodup_cons.1 hnd'.2.1).2,fun x hx y hy=>hnd'.2.2 x hx y (by simp [hy])⟩
    ·simp [hsz]
    ·intro j
     by_cases hji:j=i
     ·subst hji
      have:(listed.setIfInBounds j true).getD j false=true:=by
       have:j<listed.size:=by omega
       simp [this]
      rw [this]
      exact ⟨fun h=>absurd h hnin,fun h=>by cases h.2⟩
     ·rw [getD_set_ne false (fun e=>hji e.symm),<- hmem j]
      simp [hji]
    ·intro k ok hk' hok' e he hb
     by_cases hki:k=i
     ·subst hki
      rw [ho'] at hok'
      simp only [Option.some.injEq] at hok'
      subst hok'
      exact getD_set_true (hpre e he hb)
     ·rw [getD_set_ne false (fun e=>hki e.symm)] at hk'
      exact getD_set_true (hcl k ok hk' hok' e he hb)
   have h1:=opG_sound (Q:=PostP nt h0 w0 Qv W mb sB stB aB) g hv'
   unfold wpOp
   simp only [ho]
   split
   ·rename_i hw
    rw [if_pos hw] at h1
    exact .inl (Oper.wp_mono next h1)
   ·rename_i hw
    rw [if_neg hw] at h1
    exact next _ _ h1
theorem nodupN_iff : ∀ {L:List Nat},nodupN L=true->L.Nodup
 | [],_=>List.nodup_nil
 | i::r,h=>by
  simp only [nodupN,Bool.and_eq_true,Bool.not_eq_true'] at h
  refine List.nodup_cons.2 ⟨fun hm=> ?_,nodupN_iff h.2⟩
  rw [memN_iff.2 hm] at h
  cases h.1
theorem region_draw_sound {ops:Array Oper} {Qv:Exit->St->Prop} {W:Nat->Bool} {sB:Nat->Nat} {stB:St} {aB:Act} {id:Nat} {L:List Nat} {s:Nat->Nat} {st:St} {a:Act} {w:World} (hmix:P.follows .mixedOrders=true) (hmb : ∀ i,stB.nb<=i->mb i=true)
  (hW : ∀ t,W t=false->opsWrite t ops.toList=false) (hc:(permOk ops.size L&&backOk 0 ops.toList&&orderOk (okAlloc P nt) ops.toList (ancs ops.toList []) L)=true) (g:Good nt h0 w0 s st a w) (e:Ext W mb sB stB aB s st a)
  (hv:drawV P nt vis mb ops.toList (ancs ops.toList []) st.nb L st (Qv .normal)):(Code.region id ops true).wp P (PostP nt h0 w0 Qv W mb sB stB aB) a w:=by
 simp only [Bool.and_eq_true,permOk] at hc
 obtain ⟨⟨⟨⟨⟨hlen,hnd⟩,hall⟩,hlt⟩,hback⟩,hok⟩:=hc
 refine wp_region_any hmix (draw_sound (n0:=st.nb) e.nb hmb hW hback ops.size L _ s st a _ (Nat.le_refl _) (beq_eq hlen) (nodupN_iff hnd) (by simp) (fun i=> ?_) ?_ hok (g.drawn _) e (drawV_mono (fun _ h=>Kc.of h) _ hv))
 ·have hrep:(Array.replicate ops.size false).getD i false=false:=by
   simp [Array.getD_eq_getD_getElem?,Array.getElem?_replicate]
   split<;>rfl
  rw [hrep]
  constructor
  ·intro hi
   have:=List.all_eq_true.1 hlt i hi
   exact ⟨by simpa [Nat.blt_eq] using this,rfl⟩
  ·rintro ⟨hi,_⟩
   have:=List.all_eq_true.1 hall i (List.mem_range.2 hi)
   exact memN_iff.1 this
 ·intro i o hi
  exfalso
  simp [Array.getD_eq_getD_getElem?,Array.getElem?_replicate] at hi
  split at hi<;>simp at hi
theorem eraN_mem {i j:Nat} : ∀ {L:List Nat},L.Nodup->(j∈eraN i L↔j∈L/\j≠i)
 | [],_=>by simp [eraN]
 | k::r,h=>by
  have hn:=List.nodup_cons.1 h
  unfold eraN
  cases hb:Nat.beq i k with
  | true=>
   have e:i=k:=Nat.eq_of_beq_eq_true hb
   subst e
   simp only [cond_true]
   constructor
   ·intro hj
    exact ⟨List.mem_cons_of_mem _ hj,fun e=>by subst e;exact hn.1 hj⟩
   ·rintro ⟨hj,hne⟩
    exact (List.mem_cons.1 hj).resolve_left hne
  | false=>
   have e:i≠k:=fun e=>by subst e;rw [Nat.beq_refl] at hb;cases hb
   simp only [cond_false,List.mem_cons]
   rw [eraN_mem hn.2]
   constructor
   ·rintro (rfl | ⟨h1,h2⟩)
    ·exact ⟨Or.inl rfl,fun q=>e q.symm⟩
    ·exact ⟨Or.inr h1,h2⟩
   ·rintro ⟨rfl | h1,h2⟩
    ·exact Or.inl rfl
    ·exact Or.inr ⟨h1,h2⟩
theorem eraN_nodup {i:Nat} : ∀ {L:List Nat},L.Nodup->(eraN i L).Nodup
 | [],_=>by simp [eraN]
 | k::r,h=>by
  have hn:=List.nodup_cons.1 h
  unfold eraN
  cases hb:Nat.beq i k with
  | true=>exact hn.2
  | false=>exact List.nodup_cons.2 ⟨fun q=>hn.1 ((eraN_mem hn.2).1 q).1,eraN_nodup hn.2⟩
theorem eraN_len {i:Nat} : ∀ {L:List Nat},i∈L->(eraN i L).length+1=L.length
 | [],h=>by simp at h
 | k::r,h=>by
  unfold eraN
  cases hb:Nat.beq i k with
  | true=>rfl
  | false=>
   have e:i≠k:=fun e=>by subst e;rw [Nat.beq_refl] at hb;cases hb
   have:=eraN_len ((List.mem_cons.1 h).resolve_left e)
   simp only [cond_false,List.length_cons]
   omega
theorem freeB_of {row:List Nat} : ∀ {L:List Nat},(∀ j∈L,memN j row=false)->freeB row L=true
 | [],_=>rfl
 | j::r,h=>by
  unfold freeB
  rw [h j (by simp),freeB_of fun k hk=>h k (List.mem_cons_of_mem _ hk)]
  rfl
theorem eachN_get {anc:List (List Nat)} {L:List Nat} {F:Nat->Prop} {i:Nat} (hf:freeB ((anc[i]?).getD []) L=true) : ∀ {M:List Nat},eachN anc L F M->i∈M->F i
 | [],_,hi=>by simp at hi
 | j::r,h,hi=>by
  unfold eachN at h
  rcases List.mem_cons.1 hi with rfl | hi
  ·rw [hf] at h
   exact h.1
  ·split at h
   ·exact eachN_get hf h.2 hi
   ·exact eachN_get hf h hi
theorem freeB_mem {row:List Nat} : ∀ {L:List Nat},freeB row L=true-> ∀ j∈L,memN j row=false
 | [],_,j,hj=>by simp at hj
 | i::r,h,j,hj=>by
  unfold freeB at h
  rw [Bool.and_eq_true,Bool.not_eq_true'] at h
  rcases List.mem_cons.1 hj with rfl | hj
  ·exact h.1
  ·exact freeB_mem h.2 j hj
theorem apartAll_mem {ops:List Oper} {anc:List (List Nat)} {i:Nat} {x:Oper} : ∀ {L:List Nat},apartAll ops anc i x L=true-> ∀ j∈L,i=j\/memN i ((anc[j]?).getD [])=true\/ ∃ y,ops[j]?=some y/\apartB ops x y=true
 | [],_,j,hj=>by simp at hj
 | k::r,h,j,hj=>by
  unfold apartAll at h
  rw [Bool.and_eq_true,Bool.or_eq_true,Bool.or_eq_true] at h
  rcases List.mem_cons.1 hj with rfl | hj
  ·rcases h.1 with (q | q) | q
   ·exact Or.inl (Nat.eq_of_beq_eq_true q)
   ·exact Or.inr (Or.inl q)
   ·split at q
    ·rename_i y hy
     exact Or.inr (Or.inr ⟨y,hy,q⟩)
    ·cases q
  ·exact apartAll_mem h.2 j hj
theorem apartAll_of {ops:List Oper} {anc:List (List Nat)} {i:Nat} {x:Oper} : ∀ {L:List Nat},(∀ j∈L,i=j\/memN i ((anc[j]?).getD [])=true\/ ∃ y,ops[j]?=some y/\apartB ops x y=true)->apartAll ops anc i x L=true
 | [],_=>rfl
 | k::r,h=>by
  unfold apartAll
  rw [Bool.and_eq_true,Bool.or_eq_true,Bool.or_eq_true]
  refine ⟨?_,apartAll_of fun j hj=>h j (List.mem_cons_of_mem _ hj)⟩
  rcases h k (by simp) with q | q | ⟨y,hy,q⟩
  ·subst q;exact Or.inl (Or.inl (Nat.beq_refl _))
  ·exact Or.inl (Or.inr q)
  ·rw [hy];exact Or.inr q
theorem firstB_spec {ops:List Oper} {anc:List (List Nat)} {L:List Nat} {i:Nat} (h:firstB ops anc L i=true) : ∃ x,ops[i]?=some x/\pureOp x.op=true/\freeB ((anc[i]?).getD []) L=true/\apartAll ops anc i x L=true:=by
 unfold firstB at h
 split at h
 ·rename_i x hx
  rw [Bool.and_eq_true,Bool.and_eq_true] at h
  exact ⟨x,hx,h.1.1,h.1.2,h.2⟩
 ·cases h
theorem firstB_era {ops:List Oper} {anc:List (List Nat)} {L:List Nat} (hn:L.Nodup) {i k:Nat} (h:firstB ops anc L i=true):firstB ops anc (eraN k L) i=true:=by
 obtain ⟨x,hx,h1,h2,h3⟩:=firstB_spec h
 unfold firstB
 simp only [hx]
 rw [h1,freeB_of fun j hj=>freeB_mem h2 j ((eraN_mem hn).1 hj).1,apartAll_of fun j hj=>apartAll_mem h3 j ((eraN_mem hn).1 hj).1]
 rfl
theorem findN_some {p:Nat->Bool} : ∀ {L:List Nat} {i:Nat},findN p L=some i->i∈L/\p i=true
 | [],i,h=>by simp [findN] at h
 | k::r,i,h=>by
  unfold findN at h
  cases hp:p k with
  | true=>rw [hp] at h;simp only [cond_true,Option.some.injEq] at h;subst h;exact ⟨by simp,hp⟩
  | false=>rw [hp] at h;have:=findN_some (L:=r) h;exact ⟨List.mem_cons_of_mem _ this.1,this.2⟩
theorem findN_none {p:Nat->Bool} : ∀ {L:List Nat},findN p L=none-> ∀ i∈L,p i=false
 | [],_,i,hi=>by simp at hi
 | k::r,h,i,hi=>by
  unfold findN at h
  cases hp:p k with
  | true=>rw [hp] at h;simp at h
  | false=>
   rw [hp] at h
   rcases List.mem_cons.1 hi with rfl | hi
   ·exact hp
   ·exact findN_none (L:=r) h i hi
theorem eraN_comm {i j:Nat} : ∀ {L:List Nat},eraN i (eraN j L)=eraN j (eraN i L)
 | []=>rfl
 | k::r=>by
  by_cases h1:i=k
  ·by_cases h2:j=k
   ·subst h1 h2;rfl
   ·have e1:Nat.beq i k=true:=by subst h1;exact Nat.beq_refl _
    have e2:Nat.beq j k=false:=beq_ne h2
    simp only [eraN,e1,e2,cond_true,cond_false]
  ·by_cases h2:j=k
   ·have e1:Nat.beq j k=true:=by subst h2;exact Nat.beq_refl _
    have e2:Nat.beq i k=false:=beq_ne h1
    simp only [eraN,e1,e2,cond_true,cond_false]
   ·have e1:Nat.beq j k=false:=beq_ne h2
    have e2:Nat.beq i k=false:=beq_ne h1
    simp only [eraN,e1,e2,cond_false]
    rw [eraN_comm]
def NextOk (P:Program) (nt:Nat) (vis mb:Nat->Bool) (ops:List Oper) (anc:List (List Nat)) (K:St->Prop) (n:Nat):Prop:=
 (∀ (L:List Nat) (st:St) (y:Nat) (oy:Oper),L.Nodup->L.length=n+1->y∈L->ops[y]?=some oy->freeB ((anc[y]?).getD []) L=true->
   drawA P nt vis mb ops anc (n+1) L st K->opG P nt vis mb ops true oy st fun st' => drawA P nt vis mb ops anc n (eraN y L) st' K)/\
  (∀ (L:List Nat) (st:St) (x:Nat) (ox:Oper),L.Nodup->L.length=n+1->x∈L->ops[x]?=some ox->firstB ops anc L x=true->
   (opG P nt vis mb ops true ox st fun st' => drawA P nt vis mb ops anc n (eraN x L) st' K)->drawA P nt vis mb ops anc (n+1) L st K)
theorem drawA_step {ops:List Oper} {K:St->Prop} {anc:List (List Nat)} (n:Nat) (ih : ∀ m,n=m+1->NextOk P nt vis mb ops anc K m):NextOk P nt vis mb ops anc K n:=by
  have sw : ∀ (L:List Nat) (st:St) (x y:Nat) (ox oy:Oper),L.Nodup->L.length=n+1->x∈L->y∈L->x≠y->ops[x]?=some ox->ops[y]?=some oy->firstB ops anc L x=true->freeB ((anc[y]?).getD []) L=true->
    (opG P nt vis mb ops true ox st fun st' => drawA P nt vis mb ops anc n (eraN x L) st' K)->opG P nt vis mb ops true oy st fun st' => drawA P nt vis mb ops anc n (eraN y L) st' K:=by
   intro L st x y ox oy hnd hlen hx hy hne ex ey hf hfree h
   have hlx:=eraN_len hx
   have hyx:y∈eraN x L:=(eraN_mem hnd).2 ⟨hy,fun e=>hne e.symm⟩
   have hxy:x∈eraN y L:=(eraN_mem hnd).2 ⟨hx,hne⟩
   have hly:=eraN_len hy
   have hpos:0<(eraN x L).length:=List.length_pos_of_mem hyx
   obtain ⟨m,rfl⟩ : ∃ m,n=m+1:=⟨n-1,by omega⟩
   obtain ⟨ihA,ihB⟩:=ih m rfl
   obtain ⟨x', ex', hp,hfx,hap⟩:=firstB_spec hf
   rw [ex] at ex'
   cases ex'
   have hapart:apartB ops ox oy=true:=by
    rcases apartAll_mem hap y hy with q | q | ⟨y', ey', q⟩
    ·exact absurd q hne
    ·rw [freeB_mem hfree x hx] at q;cases q
    ·rw [ey] at ey';cases ey';exact q
   have h2:opG P nt vis mb ops true ox st fun st1=>opG P nt vis mb ops true oy st1 fun st2=>drawA P nt vis mb ops anc m (eraN y (eraN x L)) st2 K:=
    opG_mono (fun st1 q=>ihA (eraN x L) st1 y oy (eraN_nodup hnd) (by omega) hyx ey (freeB_of fun j hj=>freeB_mem hfree j ((eraN_mem hnd).1 hj).1) q) h
   have nl:isLoad ox.op=false:=by
    cases hop:ox.op<;>rw [hop] at hp<;>first | rfl | (simp [pureOp] at hp)
   have h3:=swap (kb:=false) (sx:=true) (sx' := true) (si:=true) (by rw [hp];rfl) hapart (fun q=>by rw [nl] at q;cases q) (fun q=>by rw [nl] at q;cases q) h2
   refine opG_mono (fun st1 q=> ?_) h3
   refine ihB (eraN y L) st1 x ox (eraN_nodup hnd) (by omega) hxy ex (firstB_era hnd hf) ?_
   rw [eraN_comm]
   exact q
  constructor
  ·intro L st y oy hnd hlen hy ey hfree h
   rw [drawA] at h
   cases hfd:findN (firstB ops anc L) L with
   | none=>
    rw [hfd] at h
    have:=eachN_get hfree h hy
    simp only [ey] at this
    exact this
   | some x=>
    rw [hfd] at h
    obtain ⟨hx,hf⟩:=findN_some hfd
    obtain ⟨ox,ex,_⟩:=firstB_spec hf
    simp only [ex] at h
    by_cases hne:x=y
    ·subst hne
     rw [ey] at ex
     cases ex
     exact h
    ·exact sw L st x y ox oy hnd hlen hx hy hne ex ey hf hfree h
  ·intro L st x ox hnd hlen hx ex hf h
   rw [drawA]
   cases hfd:findN (firstB ops anc L) L with
   | none=>rw [findN_none hfd x hx] at hf;cases hf
   | some x' =>
    obtain ⟨hx', hf'⟩:=findN_some hfd
    obtain ⟨ox', ex', _,hfree', _⟩:=firstB_spec hf'
    simp only [ex']
    by_cases hne:x=x'
    ·subst hne
     rw [ex] at ex'
     cases ex'
     exact h
    ·exact sw L st x x' ox ox' hnd hlen hx hx' hne ex ex' hf hfree' h
theorem drawA_next {ops:List Oper} {K:St->Prop} {anc:List (List Nat)} : ∀ n:Nat,NextOk P nt vis mb ops anc K n
 | 0=>drawA_step 0 fun m h=>by omega
 | n+1=>drawA_step (n+1) fun m h=>by
  have:n=m:=by omega
  subst this
  exact drawA_next n
theorem all_sound {ops:Array Oper} {Qv:Exit->St->Prop} {W:Nat->Bool} {sB:Nat->Nat} {stB:St} {aB:Act} (hW : ∀ t,W t=false->opsWrite t ops.toList=false) (hback:backOk 0 ops.toList=true) :
  ∀ (fuel:Nat) (L:List Nat) (listed:Array Bool) (s:Nat->Nat) (st:St) (a:Act) (w:World),L.length=fuel->L.Nodup->listed.size=ops.size->(∀ i,i∈L↔(i<ops.size/\listed.getD i false=false))->
   (∀ (i:Nat) (o:Oper),listed.getD i false=true->ops.toList[i]?=some o-> ∀ e∈o.after.toList,Region.binds .any e=true->listed.getD e.on false=true)->
   Good nt h0 w0 s st a w->Ext W mb sB stB aB s st a->drawA P nt vis mb ops.toList (ancs ops.toList []) fuel L st (Qv .normal)->
   wpAny P .any ops (PostP nt h0 w0 Qv W mb sB stB aB) fuel listed a w:=by
 have hgd : ∀ (l:Array Bool) (i:Nat),l.size=ops.size->i<ops.size->l.getD i true=l.getD i false:=fun l i h1 h2=>by
  have:i<l.size:=by omega
  simp [this]
 have ready_mem : ∀ (L:List Nat) (listed:Array Bool) (i:Nat),listed.size=ops.size->(∀ i,i∈L↔(i<ops.size/\listed.getD i false=false))->i∈Region.ready .any ops listed->
   i∈L/\ ∃ o,ops[i]?=some o/\ ∀ e∈o.after.toList,Region.binds .any e=true->listed.getD e.on false=true:=by
  intro L listed i hsz hmem hi
  rw [mem_ready] at hi
  obtain ⟨h1,o,ho,h2⟩:=hi
  have hlt:i<ops.size:=(Array.getElem?_eq_some_iff.1 ho).1
  refine ⟨(hmem i).2 ⟨hlt,by rw [<- hgd listed i hsz hlt];exact h1⟩,o,ho,fun e he hb=>h2 e (by simpa using he) hb⟩
 intro fuel
 induction fuel with
 | zero=>
  intro L listed s st a w hl _ hsz hmem _ g e hv
  have hL:L=[]:=List.eq_nil_of_length_eq_zero hl
  subst hL
  refine ⟨?_,st,s,hv,g,e⟩
  apply List.eq_nil_iff_forall_not_mem.2
  intro i hi
  have:=(ready_mem [] listed i hsz hmem hi).1
  cases this
 | succ fuel ih=>
  intro L listed s st a w hl hnd hsz hmem hcl g e hv
  refine ⟨fun hr=> ?_,fun i hi=> ?_⟩
  ·exfalso
   have hne:L≠[]:=fun q=>by rw [q] at hl;simp at hl
   obtain ⟨i,hi,hmin⟩:=exists_least hne
   obtain ⟨hlt,hun⟩:=(hmem i).1 hi
   have:i∈Region.ready .any ops listed:=by
    rw [mem_ready]
    refine ⟨by rw [hgd listed i hsz hlt];exact hun,ops[i],Array.getElem?_eq_getElem hlt,fun e he hb=> ?_⟩
    have hon:=backOk_get hback (i:=i) (o:=ops[i]) (by simp [hlt]) e (by simpa using he) hb
    cases hq:listed.getD e.on false with
    | true=>rfl
    | false=>
     have:=hmin e.on ((hmem e.on).2 ⟨by omega,hq⟩)
     omega
   rw [hr] at this
   cases this
  ·obtain ⟨hiL,o,ho,hpre⟩:=ready_mem L listed i hsz hmem hi
   have ho' : ops.toList[i]?=some o:=by simpa using ho
   have hlt:i<ops.size:=((hmem i).1 hiL).1
   have hrows:=ancs_rows ops.toList
   have hnot : ∀ j∈L,memN j (((ancs ops.toList [])[i]?).getD [])=false:=by
    intro j hjL
    have hjun:=((hmem j).1 hjL).2
    cases hm:memN j (((ancs ops.toList [])[i]?).getD []) with
    | false=>rfl
    | true=>
     exfalso
     have hjm:=memN_iff.1 hm
     cases hrow:(ancs ops.toList [])[i]? with
     | none=>rw [hrow] at hjm;simp at hjm
     | some row=>
      rw [hrow] at hjm
      have:=hrows (fun k=>listed.getD k false=true) (fun i o h1 h2 e he hb=>hcl i o h1 h2 e he hb) i o row ho' hrow hpre j (by simpa using hjm)
      rw [hjun] at this
      cases this
   have hv' := (drawA_next fuel).1 L st i o hnd hl hiL ho' (freeB_of hnot) hv
   have next : ∀ a' w', NextP nt h0 w0 (fun st' => drawA P nt vis mb ops.toList (ancs ops.toList []) fuel (eraN i L) st' (Qv .normal)) (dstW o.dst) mb s st a a' w' ->
     wpAny P .any ops (PostP nt h0 w0 Qv W mb sB stB aB) fuel (listed.setIfInBounds i true) a' w' := by
    rintro a' w' ⟨st', s', hk,g', e'⟩
    refine ih (eraN i L) (listed.setIfInBounds i true) s' st' a' w' ?_ (eraN_nodup hnd) ?_ ?_ ?_ g' (e.step e' fun t ht=>dst_writes ho' (hW t ht)) hk
    ·have:=eraN_len hiL;omega
    ·simp [hsz]
    ·intro j
     rw [eraN_mem hnd]
     by_cases hji:j=i
     ·subst hji
      have:(listed.setIfInBounds j true).getD j false=true:=by
       have:j<listed.size:=by omega
       simp [this]
      rw [this]
      exact ⟨fun h=>absurd rfl h.2,fun h=>by cases h.2⟩
     ·rw [getD_set_ne false (fun e=>hji e.symm),<- hmem j]
      exact ⟨fun h=>h.1,fun h=>⟨h,hji⟩⟩
    ·intro k ok hk' hok' e he hb
     by_cases hki:k=i
     ·subst hki
      rw [ho'] at hok'
      simp only [Option.some.injEq] at hok'
      subst hok'
      exact getD_set_true (hpre e he hb)
     ·rw [getD_set_ne false (fun e=>hki e.symm)] at hk'
      exact getD_set_true (hcl k ok hk' hok' e he hb)
   have h1:=opG_sound (Q:=PostP nt h0 w0 Qv W mb sB stB aB) g hv'
   unfold wpOp
   simp only [ho]
   split
   ·rename_i hw
    rw [if_pos hw] at h1
    exact .inl (Oper.wp_mono next h1)
   ·rename_i hw
    rw [if_neg hw] at h1
    exact next _ _ h1
theorem region_all_sound {ops:Array Oper} {Qv:Exit->St->Prop} {W:Nat->Bool} {sB:Nat->Nat} {stB:St} {aB:Act} {id:Nat} {s:Nat->Nat} {st:St} {a:Act} {w:World} (hmix:P.follows .mixedOrders=true)
  (hW : ∀ t,W t=false->opsWrite t ops.toList=false) (hback:backOk 0 ops.toList=true) (g:Good nt h0 w0 s st a w) (e:Ext W mb sB stB aB s st a)
  (hv:drawA P nt vis mb ops.toList (ancs ops.toList []) ops.size (List.range ops.size) st (Qv .normal)):(Code.region id ops true).wp P (PostP nt h0 w0 Qv W mb sB stB aB) a w:=by
 refine wp_region_any hmix (all_sound hW hback ops.size (List.range ops.size) _ s st a _ (by simp) List.nodup_range (by simp) (fun i=> ?_) ?_ (g.drawn _) e hv)
 ·have hrep:(Array.replicate ops.size false).getD i false=false:=by
   simp [Array.getD_eq_getD_getElem?,Array.getElem?_replicate]
   split<;>rfl
  rw [hrep]
  simp
 ·intro i o hi
  exfalso
  simp [Array.getD_eq_getD_getElem?,Array.getElem?_replicate] at hi
  split at hi<;>simp at hi
end
end Go.Vcg
