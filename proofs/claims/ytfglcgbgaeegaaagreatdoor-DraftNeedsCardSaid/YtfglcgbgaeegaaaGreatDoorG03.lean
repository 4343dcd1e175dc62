/-
 Gathered texts of this proof: Vcg4,VcN,Lib1,Cn1,Cn2,Cn3,Cn4,Cn5.
-/
import Derived.Test.YtfglcgbgaeegaaaGreatDoorG02
import Derived.Test.YtfglcgbgaeegaaaGreatDoorChecked
set_option maxRecDepth 100000

namespace Go.Vcg
open Go
theorem wp_loop_idx {P:Program} {c:Code} {Q:Exit->Act->World->Prop} (I:Nat->Act->World->Prop)
  (round : ∀ m a w,I m a w->c.wp P (Exit.then (fun a' w' => ∃ m', m' < m/\I m' a' w') Q) a w) : ∀ m a w,I m a w->(Code.loop c).wp P Q a w:=by
 intro m a w hI b k cs
 have key : ∀ m a w,I m a w-> ∃ e a' w', Q e a' w' /\ Arrives P (lone (b.at a (.code c :: .inLoop c::k)) cs w) b k cs e a' w' := by
  intro m
  induction m using Nat.strongRecOn with
  | _ m ih=>
   intro a w hI
   obtain ⟨e,a₁,w₁,hq,harr⟩:=round m a w hI b (.inLoop c::k) cs
   cases e with
   | normal=>
    obtain ⟨m', hlt,hI₁⟩:=hq
    obtain ⟨e₂,a₂,w₂,hq₂,harr₂⟩:=ih m' hlt a₁ w₁ hI₁
    exact ⟨e₂,a₂,w₂,hq₂,.of_steps (Steps.trans harr (.one step_inLoop)) harr₂⟩
   | exit id=>exact ⟨_,a₁,w₁,hq,.pass (x:= .inLoop c) rfl (fun _ _=> .inl (by simp)) harr⟩
   | goto l=>exact ⟨_,a₁,w₁,hq,.pass (x:= .inLoop c) rfl (fun _ _=> .inl (by simp)) harr⟩
   | ret=>exact ⟨_,a₁,w₁,hq,.pass (x:= .inLoop c) rfl (fun _ _=> .inl (by simp)) harr⟩
   | panic ch=>exact ⟨_,a₁,w₁,hq,.pass (x:= .inLoop c) rfl (fun _ _=> .inl (by simp)) harr⟩
   | outgrown=>exact ⟨_,a₁,w₁,hq,.pass (x:= .inLoop c) rfl (fun _ _=> .inl (by simp)) harr⟩
 obtain ⟨e,a', w', hq,harr⟩:=key m a w hI
 exact ⟨e,a', w', hq,.of_steps (.one step_loop) harr⟩
theorem allL_app : ∀ (ss:List Sh) {F:List Value->Prop} {J:FunT ss} {vs:List Value} {h:Heap},allL ss F->appV ss J vs h->F vs
 | [],F,J,[],h,ha,_=>ha
 | [],_,_,_::_,_,_,hj=>hj.elim
 | .int k::r,F,J,vs,h,ha,hj=>by
  match vs,hj with
  | .int k' n::vs,hj=>
   simp only [appV] at hj
   split at hj
   ·rename_i hk
    have:k=k' := by simpa using hk
    subst this
    exact allL_app r (F:=fun vs=>F (.int k n::vs)) (ha n) hj
   ·exact hj.elim
 | .bool::r,F,J,vs,h,ha,hj=>by
  match vs,hj with
  | .bool b::vs,hj=>exact allL_app r (F:=fun vs=>F (.bool b::vs)) (ha b) hj
 | .str::r,F,J,vs,h,ha,hj=>by
  match vs,hj with
  | .string b::vs,hj=>exact allL_app r (F:=fun vs=>F (.string b::vs)) (ha b) hj
 | .slice::r,F,J,vs,h,ha,hj=>by
  match vs,hj with
  | .slice A n c::vs,hj=>exact allL_app r (F:=fun vs=>F (.slice A n c::vs)) (ha A n c) hj
 | .ptr::r,F,J,vs,h,ha,hj=>by
  match vs,hj with
  | .pointer A::vs,hj=>exact allL_app r (F:=fun vs=>F (.pointer A::vs)) (ha A) hj
 | .any::r,F,J,vs,h,ha,hj=>by
  match vs,hj with
  | v::vs,hj=>exact allL_app r (F:=fun vs=>F (v::vs)) (ha v) hj
theorem slotVals_len {st:St} : ∀ {l:List (Nat×Sh)} {vs:List Value},slotVals st l=some vs->vs.length=l.length
 | [],vs,h=>by simp only [slotVals,Option.some.injEq] at h;subst h;rfl
 | (t,_)::r,vs,h=>by
  simp only [slotVals] at h
  split at h
  ·rename_i x l hx hl
   simp only [Option.some.injEq] at h
   subst h
   simp [slotVals_len hl]
  ·cases h
theorem headF_rep {st:St} {f:Nat->Option SV} : ∀ {l:List (Nat×Sh)} {vs:List Value},slotVals st l=some vs-> ∀ t x,headF l vs f t=some x->st.f t=some x\/f t=some x
 | [],vs,h,t,x,hx=>by
  simp only [slotVals,Option.some.injEq] at h
  subst h
  exact .inr hx
 | (s,_)::r,vs,h,t,x,hx=>by
  simp only [slotVals] at h
  split at h
  ·rename_i y l hy hl
   simp only [Option.some.injEq] at h
   subst h
   simp only [headF] at hx
   by_cases e:t=s
   ·subst e
    simp only [Nat.beq_refl,cond_true] at hx
    exact .inl (by rw [hy];exact hx)
   ·rw [beq_ne e] at hx
    exact headF_rep hl t x hx
  ·cases h
theorem headF_bx {f:Nat->Option SV} : ∀ {l:List (Nat×Sh)} {vs:List Value} {t i off:Nat},headF l vs f t=some (.bx i off)->f t=some (.bx i off)
 | [],_,_,_,_,h=>h
 | (s,_)::r,[],t,i,off,h=>h
 | (s,_)::r,v::vs,t,i,off,h=>by
  simp only [headF] at h
  by_cases e:t=s
  ·subst e;simp at h
  ·rw [beq_ne e] at h;exact headF_bx h
theorem headB_eq {st:St} {B:Nat->List Value} : ∀ {l:List (Nat×List Sh)} {vs:List Value},boxVals st l=some vs-> ∀ i,(inBoxes i l=false->B i=st.B i)->headB l vs B i=st.B i
 | [],vs,h,i,hi=>hi rfl
 | (j,ss)::r,vs,h,i,hi=>by
  simp only [boxVals] at h
  split at h
  ·rename_i l hlen hl
   simp only [Option.some.injEq] at h
   subst h
   have hlen' := beq_eq hlen
   simp only [headB]
   by_cases e:i=j
   ·subst e
    simp only [Nat.beq_refl,cond_true]
    rw [<- hlen', List.take_left']
    rfl
   ·rw [beq_ne e]
    simp only [cond_false]
    rw [<- hlen', List.drop_left']
    ·exact headB_eq hl i fun q=>hi (by simp [inBoxes,beq_ne e,q])
    ·rfl
  ·cases h
section
variable {P:Program} {nt:Nat} {h0:Heap} {w0:World} {vis:Nat->Bool}
theorem head_good {k:Keep} {c:Code} {s s' : Nat->Nat} {st st' : St} {a a' : Act} {w w' : World} {mb:Nat->Bool} {vs:List Value} (g:Good nt h0 w0 s st a w) (g' : Good nt h0 w0 s' st' a' w')
  (e:Ext (fun t=>writes t c) (k.mb st.nb mb) s st a s' st' a') (hvs:k.vals st' = some vs) :
  Good nt h0 w0 s' (k.head c st vs st'.h) a' w' /\ Ext (fun t=>writes t c) (k.mb st.nb mb) s st a s' (k.head c st vs st'.h) a' := by
 unfold Keep.vals at hvs
 split at hvs
 ·rename_i v1 v2 h1 h2
  simp only [Option.some.injEq] at hvs
  subst hvs
  have hl:=slotVals_len h1
  have et:(v1++v2).take k.slots.length=v1:=by rw [<- hl];exact List.take_left' rfl
  have ed:(v1++v2).drop k.slots.length=v2:=by rw [<- hl];exact List.drop_left' rfl
  have hB : ∀ i,i<st.nb->(k.head c st (v1++v2) st'.h).B i=st'.B i:=fun i hi=>by
   simp only [Keep.head,ed]
   refine headB_eq h2 i fun hn=>(e.bx i hi ?_).symm
   have:Nat.ble st.nb i=false:=by
    cases hb:Nat.ble st.nb i with
    | false=>rfl
    | true=>have:=Nat.le_of_ble_eq_true hb;omega
   simp [Keep.mb,this,hn]
  refine ⟨⟨g'.defers,g'.size,fun t x hx=> ?_,g'.sat,g'.frm,fun i hi=> ?_,fun i j hi hj=>g'.inj i j (Nat.lt_of_lt_of_le hi e.nb) (Nat.lt_of_lt_of_le hj e.nb),fun t i off hx=> ?_⟩,
   ⟨e.slots,Nat.le_refl _,e.sig,fun i hi hm=>(hB i hi).trans (e.bx i hi hm)⟩⟩
  ·simp only [Keep.head,et] at hx
   rcases headF_rep h1 t x hx with hx | hx
   ·exact g'.rep t x hx
   ·cases hw:writes t c with
    | true=>rw [hw] at hx;cases hx
    | false=>
     rw [hw] at hx
     simp only [cond_false] at hx
     rw [e.slots t hw,g.rep t x hx]
     cases x with
     | v _=>rfl
     | bx i off=>simp only [SV.val];rw [e.sig i (g.wfb t i off hx)]
  ·obtain ⟨b1,b2,ty,b3⟩:=g'.box i (Nat.lt_of_lt_of_le hi e.nb)
   refine ⟨b1,b2,ty, ?_⟩
   rw [hB i hi]
   exact b3
  ·simp only [Keep.head] at hx
   have:=headF_bx hx
   cases hw:writes t c with
   | true=>rw [hw] at this;cases this
   | false=>rw [hw] at this;exact g.wfb t i off this
 ·cases hvs
theorem keep_ext {k:Keep} {W W' mb:Nat->Bool} {sB s s' : Nat->Nat} {stB st st' : St} {aB a a' : Act} (e:Ext W mb sB stB aB s st a) (e' : Ext W' (k.mb st.nb mb) s st a s' st' a')
  (hW : ∀ t,W t=false->W' t=false):Ext W mb sB stB aB s' st' a' := by
 refine (e.trans (W' := W') ⟨e'.slots,e'.nb,e'.sig,fun i hi hm=>e'.bx i hi ?_⟩).mono fun t ht=>by rw [ht,hW t ht];rfl
 have:Nat.ble st.nb i=false:=by
  cases hb:Nat.ble st.nb i with
  | false=>rfl
  | true=>have:=Nat.le_of_ble_eq_true hb;omega
 simp [Keep.mb,this,hm]
theorem thenQ_other {n:St->Prop} {Q:Exit->St->Prop} {e:Exit} {st:St} (h:thenQ n Q e st) (he:e ≠ .normal):Q e st:=by
 cases e<;>first | exact h | exact absurd rfl he
theorem seq_plain {c1 c2:Code} {Qv:Exit->St->Prop} {n:St->Prop} {W mb:Nat->Bool} {sB:Nat->Nat} {stB:St} {aB a:Act} {w:World}
  (h1:c1.wp P (PostP nt h0 w0 (thenQ n Qv) W mb sB stB aB) a w)
  (h2 : ∀ s st a w,n st->Good nt h0 w0 s st a w->Ext W mb sB stB aB s st a->c2.wp P (PostP nt h0 w0 Qv W mb sB stB aB) a w):(Code.seq c1 c2).wp P (PostP nt h0 w0 Qv W mb sB stB aB) a w:=by
 refine wp_seq (wp_mono h1 fun e a' w' hp=> ?_)
 obtain ⟨st', s', q,g', e'⟩:=hp
 by_cases he:e = .normal
 ·subst he
  exact h2 s' st' a' w' q g' e'
 ·have q' := thenQ_other q he
  cases e<;>first | exact absurd rfl he | exact ⟨st', s', q', g', e'⟩
theorem keep_mb (k:Keep) (n:Nat) (mb:Nat->Bool) : ∀ i,n<=i->k.mb n mb i=true:=fun i hi=>by
 unfold Keep.mb
 rw [Nat.ble_eq_true_of_le hi]
 rfl
theorem V_sound (hmix:P.follows .mixedOrders=true) : ∀ (c:Code) (an:Ann) (mb:Nat->Bool) (Qv:Exit->St->Prop) (W:Nat->Bool) (sB:Nat->Nat) (stB:St) (aB:Act) (s:Nat->Nat) (st:St) (a:Act) (w:World),
  (∀ t,W t=false->writes t c=false)->(∀ i,stB.nb<=i->mb i=true)->Good nt h0 w0 s st a w->Ext W mb sB stB aB s st a->V P nt vis c an mb Qv st->c.wp P (PostP nt h0 w0 Qv W mb sB stB aB) a w:=by
 intro c
 induction c with
 | skip=>
  intro an mb Qv W sB stB aB s st a w _ _ g e hv
  simp only [V] at hv
  exact Go.wp_skip ⟨st,s,hv,g,e⟩
 | ret=>
  intro an mb Qv W sB stB aB s st a w _ _ g e hv
  simp only [V] at hv
  exact wp_ret ⟨st,s,hv,g,e⟩
 | exit id=>
  intro an mb Qv W sB stB aB s st a w _ _ g e hv
  simp only [V] at hv
  exact wp_exit ⟨st,s,hv,g,e⟩
 | region id ops draw=>
  intro an mb Qv W sB stB aB s st a w hW hm g e hv
  cases draw with
  | false=>
   simp only [V] at hv
   exact wp_region_list (opsV_sound ops.toList s st a w g e hW hv)
  | true=>
   cases an with
   | ord L=>
    simp only [V] at hv
    split at hv
    ·rename_i hc;exact region_draw_sound hmix hm hW hc g e hv
    ·exact hv.elim
   | all=>
    simp only [V] at hv
    split at hv
    ·rename_i hc;exact region_all_sound hmix hW hc g e hv
    ·exact hv.elim
   | _=>simp only [V] at hv
 | seq c1 c2 ih1 ih2=>
  intro an mb Qv W sB stB aB s st a w hW hm g e hv
  have hW1 : ∀ t,W t=false->writes t c1=false:=fun t ht=>by have:=hW t ht;simp only [writes,Bool.or_eq_false_iff] at this;exact this.1
  have hW2 : ∀ t,W t=false->writes t c2=false:=fun t ht=>by have:=hW t ht;simp only [writes,Bool.or_eq_false_iff] at this;exact this.2
  have plain : ∀ x y,V P nt vis c1 x mb (thenQ (fun st' => V P nt vis c2 y mb Qv st') Qv) st->(Code.seq c1 c2).wp P (PostP nt h0 w0 Qv W mb sB stB aB) a w:=fun x y hv=>
   seq_plain (ih1 x mb _ W sB stB aB s st a w hW1 hm g e hv) fun s st a w hn g e=>ih2 y mb Qv W sB stB aB s st a w hW2 hm g e hn
  cases an with
  | two x y=>simp only [V] at hv;exact plain x y hv
  | nil=>simp only [V] at hv;exact plain _ _ hv
  | ord L=>simp only [V] at hv;exact plain _ _ hv
  | all=>simp only [V] at hv;exact plain _ _ hv
  | one x=>simp only [V] at hv;exact plain _ _ hv
  | loop k x=>simp only [V] at hv;exact plain _ _ hv
  | cut k x y=>
   simp only [V] at hv
   obtain ⟨C,hb,ha⟩:=hv
   have h1:=ih1 x (k.mb st.nb mb) _ (fun t=>writes t c1) s st a s st a w (fun _ h=>h) (keep_mb k st.nb mb) g (Ext.refl _ _ _ _ _) ha
   refine wp_seq (wp_mono h1 fun ex a' w' hp=> ?_)
   obtain ⟨st', s', q,g', e'⟩:=hp
   by_cases he:ex = .normal
   ·subst he
    simp only [thenQ,Keep.app] at q
    split at q
    ·rename_i vs hvs
     obtain ⟨gh,eh⟩:=head_good g g' e' hvs
     have hvb:=allL_app k.shs hb q st'.h q
     exact ih2 y mb Qv W sB stB aB s' _ a' w' hW2 hm gh (keep_ext e eh hW1) hvb
    ·exact q.elim
   ·have q' := thenQ_other q he
    have e2:=keep_ext e e' hW1
    cases ex<;>first | exact absurd rfl he | exact ⟨st', s', q', g', e2⟩
 | cond c x y ihx ihy=>
  intro an mb Qv W sB stB aB s st a w hW hm g e hv
  have hWx : ∀ t,W t=false->writes t x=false:=fun t ht=>by have:=hW t ht;simp only [writes,Bool.or_eq_false_iff] at this;exact this.1
  have hWy : ∀ t,W t=false->writes t y=false:=fun t ht=>by have:=hW t ht;simp only [writes,Bool.or_eq_false_iff] at this;exact this.2
  have both : ∀ ax ay,(match ev st c with | some (.v (.bool t))=>Br t (V P nt vis x ax mb Qv st) (V P nt vis y ay mb Qv st) | _=>False)->(Code.cond c x y).wp P (PostP nt h0 w0 Qv W mb sB stB aB) a w:=by
   intro ax ay hv
   split at hv
   ·rename_i t hc
    have he:=ev_eval g hc
    cases t with
    | true=>exact wp_cond_true he (ihx ax mb Qv W sB stB aB s st a w hWx hm g e hv)
    | false=>exact wp_cond_false he (ihy ay mb Qv W sB stB aB s st a w hWy hm g e hv)
   ·exact hv.elim
  cases an with
  | two ax ay=>simp only [V] at hv;exact both ax ay hv
  | nil=>simp only [V] at hv;exact both _ _ hv
  | ord L=>simp only [V] at hv;exact both _ _ hv
  | all=>simp only [V] at hv;exact both _ _ hv
  | one x=>simp only [V] at hv;exact both _ _ hv
  | loop k x=>simp only [V] at hv;exact both _ _ hv
  | cut k x y=>simp only [V] at hv;exact both _ _ hv
 | block id b ih=>
  intro an mb Qv W sB stB aB s st a w hW hm g e hv
  have go : ∀ x,V P nt vis b x mb (blockQ id Qv) st->(Code.block id b).wp P (PostP nt h0 w0 Qv W mb sB stB aB) a w:=by
   intro x hv
   refine wp_block (wp_mono (ih x mb _ W sB stB aB s st a w hW hm g e hv) fun ex a' w' hp=> ?_)
   obtain ⟨st', s', q,g', e'⟩:=hp
   cases ex with
   | exit i=>
    simp only [blockQ] at q
    simp only [Exit.inBlock]
    split at q
    ·rename_i hb;rw [if_pos (beq_eq hb)];exact ⟨st', s', q,g', e'⟩
    ·rename_i hb
     have:i≠id:=fun h=>by subst h;simp at hb
     rw [if_neg this];exact ⟨st', s', q,g', e'⟩
   | _=>exact ⟨st', s', q,g', e'⟩
  cases an with
  | one x=>simp only [V] at hv;exact go x hv
  | two ax ay=>simp only [V] at hv;exact go _ hv
  | nil=>simp only [V] at hv;exact go _ hv
  | ord L=>simp only [V] at hv;exact go _ hv
  | all=>simp only [V] at hv;exact go _ hv
  | loop k x=>simp only [V] at hv;exact go _ hv
  | cut k x y=>simp only [V] at hv;exact go _ hv
 | loop b ih=>
  intro an mb Qv W sB stB aB s st a w hW hm g e hv
  cases an<;>simp only [V] at hv<;>try exact hv.elim
  rename_i k x
  obtain ⟨J,⟨m,hinit⟩,hround⟩:=hv
  have hW' : ∀ t,W t=false->writes t b=false:=hW
  refine wp_loop_idx (fun m a' w' => ∃ st' s', k.app (J m) st' /\ Good nt h0 w0 s' st' a' w' /\ Ext (fun t=>writes t b) (k.mb st.nb mb) s st a s' st' a') ?_ m a w ⟨st,s,hinit,g,Ext.refl _ _ _ _ _⟩
  rintro m a' w' ⟨st', s', q,g', e'⟩
  simp only [Keep.app] at q
  split at q
  ·rename_i vs hvs
   obtain ⟨gh,eh⟩:=head_good g g' e' hvs
   have hvb:=allL_app k.shs (hround m) q st'.h q
   have h1:=ih x (k.mb st.nb mb) _ (fun t=>writes t b) s st a s' _ a' w' (fun _ h=>h) (keep_mb k st.nb mb) gh eh hvb
   refine wp_mono h1 fun ex a2 w2 hp=> ?_
   obtain ⟨st2,s2,q2,g2,e2⟩:=hp
   by_cases he:ex = .normal
   ·subst he
    obtain ⟨m', hlt,happ⟩:=q2
    exact ⟨m', hlt,st2,s2,happ,g2,e2⟩
   ·have q' := thenQ_other q2 he
    have e3:=keep_ext e e2 hW'
    cases ex<;>first | exact absurd rfl he | exact ⟨st2,s2,q', g2,e3⟩
  ·exact q.elim
 | _=>
  intro an mb Qv W sB stB aB s st a w _ _ _ _ hv
  simp only [V] at hv
def resM (tmps:Array Value):ResultVar->Sem Value
 | .tmp t=>pure (tmps.getD t undef)
 | .cell a t=>do loadVar t (<- asAddr (tmps.getD a undef))
theorem resOne_run {s:Nat->Nat} {st:St} {a:Act} {w:World} (g:Good nt h0 w0 s st a w) {r:ResultVar} {v:Value} (h:resOne P st r=some v) :
  (resM a.tmps r).run P w = .ok v w:=by
 cases r with
 | tmp t=>
  simp only [resOne] at h
  split at h
  ·rename_i x hx
   simp only [Option.some.injEq] at h
   subst h
   simp only [resM]
   rw [show a.tmps.getD t undef=x from g.rep t _ hx]
   rfl
  ·cases h
 | cell t ty=>
  simp only [resOne] at h
  split at h
  ·rename_i i off ag n hx ha hn
   split at h
   ·rename_i hc
    simp only [Option.some.injEq] at h
    subst h
    simp only [Bool.and_eq_true,Bool.or_eq_true,Nat.ble_eq] at hc
    obtain ⟨hle,hag⟩:=hc
    obtain ⟨_,_,ty', hb⟩:=g.box i (g.wfb t i off hx)
    have hlen:(((st.B i).drop off).take n).length=n:=by simp;omega
    have ht:a.tmps.getD t undef = .pointer (some ⟨s i,off,none⟩):=g.rep t _ hx
    simp only [resM,ht,asAddr,pure_bind]
    exact run_loadVar (p:=⟨s i,off,none⟩) ha (by rw [hlen];exact hn) (by rcases hag with h | h;exact .inl h;exact .inr (by rw [hlen];exact beq_eq h)) hb rfl (by rw [hlen])
   ·cases h
  ·cases h
theorem resAll_run {s:Nat->Nat} {st:St} {a:Act} {w:World} (g:Good nt h0 w0 s st a w) : ∀ {l:List ResultVar} {vs:List Value},resAll P st l=some vs->
  (l.mapM (resM a.tmps)).run P w = .ok vs w
 | [],vs,h=>by simp only [resAll,Option.some.injEq] at h;subst h;rfl
 | r::l,vs,h=>by
  simp only [resAll] at h
  split at h
  ·rename_i x y hx hy
   simp only [Option.some.injEq] at h
   subst h
   have h1:=resOne_run g hx
   have h2:=resAll_run g hy
   simp only [List.mapM_cons,Sem.run_bind,h1,h2,Result.andThen_ok,Sem.run_pure]
  ·cases h
theorem results_run {fn:Func} {R:Value->Heap->Prop} {s:Nat->Nat} {st:St} {a:Act} {w:World} (g:Good nt h0 w0 s st a w) (h:retQ P fn R st) : ∃ v,(results fn a.tmps).run P w = .ok v w/\R v st.h:=by
 unfold retQ at h
 have key : ∀ vs,resAll P st fn.results.toList=some vs->(fn.results.mapM (resM a.tmps)).run P w = .ok vs.toArray w:=by
  intro vs hvs
  rw [Array.mapM_eq_mapM_toList]
  simp only [map_eq_pure_bind,Sem.run_bind,resAll_run g hvs,Result.andThen_ok,Sem.run_pure]
 split at h
 ·rename_i x hx
  refine ⟨x, ?_,h⟩
  have hk:=key _ hx
  show (fn.results.mapM (resM a.tmps) >>= fun vs=>pure (if h:vs.size=1 then vs[0] else .tuple vs):Sem Value).run P w=_
  rw [Sem.run_bind,hk]
  rfl
 ·rename_i l hne hx
  refine ⟨_, ?_,h⟩
  have hk:=key _ hx
  show (fn.results.mapM (resM a.tmps) >>= fun vs=>pure (if h:vs.size=1 then vs[0] else .tuple vs):Sem Value).run P w=_
  rw [Sem.run_bind,hk]
  simp only [Result.andThen_ok]
  have hs:l.toArray.size≠1:=by
   intro q
   match l,q with
   | [x],_=>exact hne x rfl
  simp
  intro q
  exact absurd q (by simpa using hs)
 ·exact h.elim
theorem argF_get : ∀ {l:List Value} {t:Nat} {x:SV},argF l t=some x-> ∃ v,l[t]?=some v/\x = .v v
 | [],t,x,h=>by simp [argF] at h
 | v::r,0,x,h=>by simp only [argF,Option.some.injEq] at h;exact ⟨v,rfl,h.symm⟩
 | v::r,t+1,x,h=>by simp only [argF] at h;obtain ⟨u,h1,h2⟩:=argF_get h;exact ⟨u,by simpa using h1,h2⟩
theorem fn_sound {f:FuncId} {fn:Func} (hf:P.funcs[f]?=some fn) (hb:fn.body.isNone=false) (hn:(fn.name == "runtime.NumGoroutine")=false) (hmix:P.follows .mixedOrders=true)
  (vis:Nat->Bool) (an:Ann) (args:List Value) (h:Heap) (R:Value->Heap->Prop) (ha:Nat.ble args.length fn.ntmps=true) (hv:fnV P fn vis an args h R):CallsU P f args h R:=by
 refine ⟨⟨fn,hf,hb,hn⟩,fun w hw=> ?_⟩
 unfold fnV at hv
 split at hv
 ·rename_i c hc
  have hle:args.length<=fn.ntmps:=Nat.le_of_ble_eq_true ha
  let a:Act:={ tmps:=args.toArray++Array.replicate (fn.ntmps-args.toArray.size) undef,defers:=[] }
  have hsize:a.tmps.size=fn.ntmps:=by simp [a];omega
  have g:Good fn.ntmps h w (fun _=>0) (st0 args h) a w:=by
   refine ⟨rfl,hsize,fun t x hx=> ?_,hw,Frm.refl _ _,fun i hi=>absurd hi (Nat.not_lt_zero _),fun i j hi=>absurd hi (Nat.not_lt_zero _),fun t i off hx=> ?_⟩
   ·obtain ⟨v,h1,rfl⟩:=argF_get hx
    have hlt:t<args.length:=(List.getElem?_eq_some_iff.1 h1).1
    simp only [a,Array.getD_eq_getD_getElem?]
    rw [Array.getElem?_append_left (by simpa using hlt)]
    simp [h1,SV.val]
   ·obtain ⟨v,_,h2⟩:=argF_get hx
    cases h2
  have hwp:=V_sound hmix c an (fun _=>true) (endQ P fn R) (fun _=>true) _ _ _ _ _ a w (fun t ht=>by cases ht) (fun _ _=>rfl) g (Ext.refl _ _ _ _ _) hv
  refine calls_of_wp hf hc (wp_mono hwp fun e a' w' hp=> ?_)
  obtain ⟨st', s', q,g', _⟩:=hp
  have fin:retQ P fn R st' -> a'.defers=[]/\ ∃ v,(results fn a'.tmps).run P w' = .ok v w' /\ ∃ v' h', Ending.returned v = .returned v' /\ R v' h' /\ Sat h' w' /\ Frm h h' w w' := fun hr=>by
   obtain ⟨v,h1,h2⟩:=results_run g' hr
   exact ⟨g'.defers,v,h1,v,st'.h,rfl,h2,g'.sat,g'.frm⟩
  cases e with
  | normal=>exact fin q
  | ret=>exact fin q
  | _=>exact q.elim
 ·exact hv.elim
theorem fn_ok {f:FuncId} {fn:Func} (hf:P.funcs[f]?=some fn)
  {args:List Value} {h:Heap} {R:Value->Heap->Prop} {X:Prop} (vis:Nat->Bool) (an:Ann) (hv:X) (hb:fn.body.isNone=false:=by kernel_rfl) (hn:(fn.name == "runtime.NumGoroutine")=false:=by kernel_rfl) (hmix:P.follows .mixedOrders=true:=by kernel_rfl)
  (ha:Nat.ble args.length fn.ntmps=true:=by kernel_rfl) (hX:X=fnV P fn vis an args h R:=by kernel_rfl):CallsU P f args h R:=
 fn_sound hf hb hn hmix vis an args h R ha (Eq.mp hX hv)
end
end Go.Vcg

namespace Go.Proofs.YtfglcgbgaeegaaaGreatDoor
open Go Go.Vcg
def natural_trim_vc (a:OA) (b c:Nat) (h:Heap) (R:Value->Heap->Prop):Prop:=
 ∃ d:Nat->Int->Heap->Prop,(∃ e,d e (b:Int) h)/\
 ∀ (e:Nat) (n:Int) (l:Heap),d e n l->
 Br (decide (n>0))
 (∀ j:Int,j=IntKind.i64.wrap (n-1)->
 ∃ f:Addr,a=some f/\0<=j/\j<(b:Int)/\
 ∃ g,LdN l (Addr.add f (Int.toNat j*1)) [.int .u32 g]/\
 Br ((g:Int)==0)
 (∀ k:Int,k=IntKind.i64.wrap (n-1)->
 ∃ i,i<e/\d i k l)
 (((0:Nat):Int)<=n/\n<=(c:Int)/\
 R (.slice a (Int.toNat n) c) l))
 (((0:Nat):Int)<=n/\n<=(c:Int)/\
 R (.slice a (Int.toNat n) c) l)
theorem natural_trim_ok {a:OA} {b c:Nat} {h:Heap} {R:Value->Heap->Prop} (hv:natural_trim_vc a b c h R):CallsU Tryz.prog 132 [.slice a b c] h R:=
 fn_ok Tryz.func132 (fun _=>false) (.two .nil (.two .nil (.two (.one (.loop ⟨[(3,Sh.int .i64)],[]⟩ .nil)) .nil))) hv
def natural_Of_vc (n:Int) (h:Heap) (R:Value->Heap->Prop):Prop:=
 ∀ d:Int,d=(Int.fdiv n (2^(32:Nat)))->
 ∀ (e:Nat) (f:Heap),h e=none->f=Heap.put h e ⟨[.int .u32 (IntKind.u32.wrap n),.int .u32 (IntKind.u32.wrap d)],166,(0,0)⟩->
 CallsU Tryz.prog 132 [.slice (some ⟨e,0,none⟩) 2 2] f fun g i=>
 ∃ a b c,g = .slice a b c/\
 R (.slice a b c) i
theorem natural_Of_ok {n:Int} {h:Heap} {R:Value->Heap->Prop} (hv:natural_Of_vc n h R):CallsU Tryz.prog 138 [.int .u64 n] h R:=
 fn_ok Tryz.func138 (fun _=>false) .nil hv
def natural_Norm_vc (a:OA) (b c:Nat) (h:Heap) (R:Value->Heap->Prop):Prop:=
 CallsU Tryz.prog 132 [.slice a b c] h fun n o=>
 ∃ d e f,n = .slice d e f/\
 0<=(e:Int)/\(e:Int)<=(e:Int)/\(e:Int)*4<=140737488355328/\(e:Int)<=9223372036854775807/\
 ∀ (j:Nat) (k:Heap),o j=none->k=Heap.put o j ⟨repV [.int .u32 0] (Int.toNat (e:Int)),166,(0,0)⟩->
 ∃ g:List Value,RdS k d (min e (Int.toNat (e:Int))*1) g/\(∀ x∈g,Go.Vcg.one x=true)/\
 (min e (Int.toNat (e:Int))*1=0->R (.slice (some ⟨j,0,none⟩) (Int.toNat (e:Int)) (Int.toNat (e:Int))) k)/\
 (0<min e (Int.toNat (e:Int))*1-> ∃ (l:Addr) (m:Blk),some ⟨j,0,none⟩=some l/\l.spot=none/\k l.block=some m/\m.fz=(0,0)/\l.off+min e (Int.toNat (e:Int))*1<=m.cells.length/\
 ∀ i:Heap,i=Heap.put k l.block { m with cells:=setSeg m.cells l.off g }->
 R (.slice (some ⟨j,0,none⟩) (Int.toNat (e:Int)) (Int.toNat (e:Int))) i)
theorem natural_Norm_ok {a:OA} {b c:Nat} {h:Heap} {R:Value->Heap->Prop} (hv:natural_Norm_vc a b c h R):CallsU Tryz.prog 207 [.slice a b c] h R:=
 fn_ok Tryz.func207 (fun _=>false) .nil hv
def natural_Cmp_vc (a:OA) (b c:Nat) (d:OA) (e f:Nat) (h:Heap) (R:Value->Heap->Prop):Prop:=
 CallsU Tryz.prog 132 [.slice a b c] h fun a1 a2=>
 ∃ g i j,a1 = .slice g i j/\
 CallsU Tryz.prog 132 [.slice d e f] a2 fun a3 a4=>
 ∃ k l m,a3 = .slice k l m/\
 CallsU Tryz.prog 205 [.int .i64 (i:Int),.int .i64 (l:Int)] a4 fun a5 a6=>
 ∃ n,a5 = .int .i64 n/\
 Br ((n:Int) != 0)
 (R (.int .i64 n) a6)
 (∀ w:Int,w=IntKind.i64.wrap ((i:Int)-1)->
 ∃ o:Nat->Int->Heap->Prop,(∃ p,o p w a6)/\
 ∀ (p:Nat) (z:Int) (a0:Heap),o p z a0->
 Br (decide (z>=0))
 (∃ q:Addr,g=some q/\0<=z/\z<(i:Int)/\
 ∃ r,LdN a0 (Addr.add q (Int.toNat z*1)) [.int .u32 r]/\
 ∃ s:Addr,k=some s/\0<=z/\z<(l:Int)/\
 ∃ t,LdN a0 (Addr.add s (Int.toNat z*1)) [.int .u32 t]/\
 CallsU Tryz.prog 206 [.int .u32 r,.int .u32 t] a0 fun a7 a8=>
 ∃ u,a7 = .int .i64 u/\
 Br ((u:Int) != 0)
 (R (.int .i64 u) a8)
 (∀ y:Int,y=IntKind.i64.wrap (z-1)->
 ∃ v,v<p/\o v y a8))
 (R (.int .i64 0) a0))
theorem natural_Cmp_ok {a:OA} {b c:Nat} {d:OA} {e f:Nat} {h:Heap} {R:Value->Heap->Prop} (hv:natural_Cmp_vc a b c d e f h R):CallsU Tryz.prog 140 [.slice a b c,.slice d e f] h R:=
 fn_ok Tryz.func140 (fun _=>false) (.two .nil (.two .nil (.two .nil (.two (.two .nil (.one (.loop ⟨[(6,Sh.int .i64)],[]⟩ (.two .nil (.two (.one (.two (.ord [0,1,2,3,4,5,6,7,8,9]) .nil)) .nil))))) .nil)))) hv
def natural_Add_vc (a:OA) (b c:Nat) (d:OA) (e f:Nat) (h:Heap) (R:Value->Heap->Prop):Prop:=
 CallsU Tryz.prog 132 [.slice a b c] h fun e7 e8=>
 ∃ g i j,e7 = .slice g i j/\
 CallsU Tryz.prog 132 [.slice d e f] e8 fun e9 f0=>
 ∃ k l m,e9 = .slice k l m/\
 ∃ n:OA->Nat->Nat->OA->Nat->Nat->Heap->Prop,(∀ (b6:OA) (b7 b8:Nat) (b9:OA) (c0 c1:Nat) (c2:Heap),n b6 b7 b8 b9 c0 c1 c2->
 ∀ a7:Int,a7=IntKind.i64.wrap ((b7:Int)+1)->
 0<=(0:Int)/\(0:Int)<=a7/\a7*4<=140737488355328/\a7<=9223372036854775807/\
 ∀ (c3:Nat) (c4:Heap),c2 c3=none->c4=Heap.put c2 c3 ⟨repV [.int .u32 0] (Int.toNat a7),166,(0,0)⟩->
 ∃ o:Nat->OA->Nat->Nat->Int->Int->Heap->Prop,(∃ p,o p (some ⟨c3,0,none⟩) 0 (Int.toNat a7) 0 0 c4)/\
 ∀ (p:Nat) (c5:OA) (c6 c7:Nat) (c8:Int) (c9:Int) (d0:Heap),o p c5 c6 c7 c8 c9 d0->
 Br (decide (c9<(b7:Int)))
 (∃ q:Addr,b6=some q/\0<=c9/\c9<(b7:Int)/\
 ∃ r,LdN d0 (Addr.add q (Int.toNat c9*1)) [.int .u32 r]/\
 ∀ a8:Int,a8=IntKind.u64.wrap (c8+(IntKind.u64.wrap r))->
 ∃ s:Int->Heap->Prop,(∀ (d1:Int) (d2:Heap),s d1 d2->
 ∀ (d3:Nat) (d4:Heap),d2 d3=none->d4=Heap.put d2 d3 ⟨[.int .u32 (IntKind.u32.wrap d1)],166,(0,0)⟩->
 ∃ t:List Value,RdS d4 (some ⟨d3,0,none⟩) (1*1) t/\(∀ x∈t,Go.Vcg.one x=true)/\
 (c6+1<=c7-> ∃ (d5:Addr) (d6:Blk),c5=some d5/\d5.spot=none/\d4 d5.block=some d6/\d6.fz=(0,0)/\d5.off+c6*1+1*1<=d6.cells.length/\
 ∀ a9:Heap,a9=Heap.put d4 d5.block { d6 with cells:=setSeg d6.cells (d5.off+c6*1) t }->
 ∀ b0:Int,b0=(Int.fdiv d1 (2^(32:Nat)))->
 ∀ b1:Int,b1=IntKind.i64.wrap (c9+1)->
 ∃ u,u<p/\o u c5 (c6+1) c7 b0 b1 a9)/\
 (c7<c6+1-> ∃ v:List Value,RdS d4 c5 (c6*1) v/\(c6+1)*4<=140737488355328/\
 ∀ (d7 d8:Nat) (d9:Heap),d4 d7=none->c6+1<=d8->d9=Heap.put d4 d7 ⟨v++t++repV [.int .u32 0] (d8-(c6+1)),166,(0,0)⟩->
 ∀ b2:Int,b2=(Int.fdiv d1 (2^(32:Nat)))->
 ∀ b3:Int,b3=IntKind.i64.wrap (c9+1)->
 ∃ u,u<p/\o u (some ⟨d7,0,none⟩) (c6+1) d8 b2 b3 d9))/\
 Br (decide (c9<(c0:Int)))
 (∃ w:Addr,b9=some w/\0<=c9/\c9<(c0:Int)/\
 ∃ y,LdN d0 (Addr.add w (Int.toNat c9*1)) [.int .u32 y]/\
 ∀ b4:Int,b4=IntKind.u64.wrap (a8+(IntKind.u64.wrap y))->
 s b4 d0)
 (s a8 d0))
 (∀ (e0:Nat) (e1:Heap),d0 e0=none->e1=Heap.put d0 e0 ⟨[.int .u32 (IntKind.u32.wrap c8)],166,(0,0)⟩->
 ∃ z:List Value,RdS e1 (some ⟨e0,0,none⟩) (1*1) z/\(∀ x∈z,Go.Vcg.one x=true)/\
 (c6+1<=c7-> ∃ (e2:Addr) (e3:Blk),c5=some e2/\e2.spot=none/\e1 e2.block=some e3/\e3.fz=(0,0)/\e2.off+c6*1+1*1<=e3.cells.length/\
 ∀ b5:Heap,b5=Heap.put e1 e2.block { e3 with cells:=setSeg e3.cells (e2.off+c6*1) z }->
 CallsU Tryz.prog 132 [.slice c5 (c6+1) c7] b5 fun f1 f2=>
 ∃ a0 a1 a2,f1 = .slice a0 a1 a2/\
 R (.slice a0 a1 a2) f2)/\
 (c7<c6+1-> ∃ a3:List Value,RdS e1 c5 (c6*1) a3/\(c6+1)*4<=140737488355328/\
 ∀ (e4 e5:Nat) (e6:Heap),e1 e4=none->c6+1<=e5->e6=Heap.put e1 e4 ⟨a3++z++repV [.int .u32 0] (e5-(c6+1)),166,(0,0)⟩->
 CallsU Tryz.prog 132 [.slice (some ⟨e4,0,none⟩) (c6+1) e5] e6 fun f3 f4=>
 ∃ a4 a5 a6,f3 = .slice a4 a5 a6/\
 R (.slice a4 a5 a6) f4)))/\
 Br (decide ((i:Int)<(l:Int)))
 (n k l m g i j f0)
 (n g i j k l m f0)
theorem natural_Add_ok {a:OA} {b c:Nat} {d:OA} {e f:Nat} {h:Heap} {R:Value->Heap->Prop} (hv:natural_Add_vc a b c d e f h R):CallsU Tryz.prog 142 [.slice a b c,.slice d e f] h R:=
 fn_ok Tryz.func142 (fun _=>false) (.two .nil (.two .nil (.cut ⟨[(0,Sh.slice),(1,Sh.slice)],[]⟩ .nil (.two .nil (.two .nil (.two (.two .nil (.one (.loop ⟨[(5,Sh.slice),(6,Sh.int .u64),(26,Sh.int .i64)],[]⟩ (.two .nil (.two .nil (.two (.one (.two .nil (.two .nil (.cut ⟨[(6,Sh.int .u64)],[]⟩ .nil .nil)))) .nil)))))) .nil)))))) hv
def natural_Sub_vc (a:OA) (b c:Nat) (d:OA) (e f:Nat) (h:Heap) (R:Value->Heap->Prop):Prop:=
 CallsU Tryz.prog 132 [.slice a b c] h fun b4 b5=>
 ∃ g i j,b4 = .slice g i j/\
 CallsU Tryz.prog 132 [.slice d e f] b5 fun b6 b7=>
 ∃ k l m,b6 = .slice k l m/\
 CallsU Tryz.prog 140 [.slice g i j,.slice k l m] b7 fun b8 b9=>
 ∃ n,b8 = .int .i64 n/\
 Br (decide (n<0))
 (R (.tuple #[.slice none 0 0,.bool false]) b9)
 (0<=(i:Int)/\(i:Int)<=(i:Int)/\(i:Int)*4<=140737488355328/\(i:Int)<=9223372036854775807/\
 ∀ (a7:Nat) (a8:Heap),b9 a7=none->a8=Heap.put b9 a7 ⟨repV [.int .u32 0] (Int.toNat (i:Int)),166,(0,0)⟩->
 ∃ o:Nat->Int->Int->Heap->Prop,(∃ p,o p 0 0 a8)/\
 ∀ (p:Nat) (a9:Int) (b0:Int) (b1:Heap),o p a9 b0 b1->
 Br (decide (b0<(i:Int)))
 (∃ q:Addr,g=some q/\0<=b0/\b0<(i:Int)/\
 ∃ r,LdN b1 (Addr.add q (Int.toNat b0*1)) [.int .u32 r]/\
 ∀ a2:Int,a2=IntKind.u64.wrap ((IntKind.u64.wrap r)-a9)->
 ∃ s:Int->Heap->Prop,(∀ (b2:Int) (b3:Heap),s b2 b3->
 ∃ t:Addr,some ⟨a7,0,none⟩=some t/\0<=b0/\b0<(((Int.toNat (i:Int)):Nat):Int)/\
 ∃ u:Blk,b3 (Addr.block (Addr.add t (Int.toNat b0*1)))=some u/\u.fz=(0,0)/\Addr.spot (Addr.add t (Int.toNat b0*1))=none/\Addr.off (Addr.add t (Int.toNat b0*1))+1<=u.cells.length/\
 ∀ a3:Heap,a3=Heap.put b3 (Addr.block (Addr.add t (Int.toNat b0*1))) { u with cells:=setSeg u.cells (Addr.off (Addr.add t (Int.toNat b0*1))) [.int .u32 (IntKind.u32.wrap b2)] }->
 ∀ a4:Int,a4=(Int.fdiv b2 (2^(63:Nat)))->
 ∀ a5:Int,a5=IntKind.i64.wrap (b0+1)->
 ∃ v,v<p/\o v a4 a5 a3)/\
 Br (decide (b0<(l:Int)))
 (∃ w:Addr,k=some w/\0<=b0/\b0<(l:Int)/\
 ∃ y,LdN b1 (Addr.add w (Int.toNat b0*1)) [.int .u32 y]/\
 ∀ a6:Int,a6=IntKind.u64.wrap (a2-(IntKind.u64.wrap y))->
 s a6 b1)
 (s a2 b1))
 (CallsU Tryz.prog 132 [.slice (some ⟨a7,0,none⟩) (Int.toNat (i:Int)) (Int.toNat (i:Int))] b1 fun c0 c1=>
 ∃ z a0 a1,c0 = .slice z a0 a1/\
 R (.tuple #[.slice z a0 a1,.bool true]) c1))
theorem natural_Sub_ok {a:OA} {b c:Nat} {d:OA} {e f:Nat} {h:Heap} {R:Value->Heap->Prop} (hv:natural_Sub_vc a b c d e f h R):CallsU Tryz.prog 143 [.slice a b c,.slice d e f] h R:=
 fn_ok Tryz.func143 (fun _=>false) (.two .nil (.two .nil (.two .nil (.two .nil (.two .nil (.two (.two .nil (.one (.loop ⟨[(7,Sh.int .u64),(24,Sh.int .i64)],[]⟩ (.two .nil (.two .nil (.two (.one (.two .nil (.two .nil (.cut ⟨[(10,Sh.int .u64)],[]⟩ .nil .nil)))) .nil)))))) .nil)))))) hv
def natural_Mul_vc (a:OA) (b c:Nat) (d:OA) (e f:Nat) (h:Heap) (R:Value->Heap->Prop):Prop:=
 CallsU Tryz.prog 132 [.slice a b c] h fun c6 c7=>
 ∃ g i j,c6 = .slice g i j/\
 CallsU Tryz.prog 132 [.slice d e f] c7 fun c8 c9=>
 ∃ k l m,c8 = .slice k l m/\
 ∀ a7:Int,a7=IntKind.i64.wrap ((i:Int)+(l:Int))->
 0<=a7/\a7<=a7/\a7*4<=140737488355328/\a7<=9223372036854775807/\
 ∀ (b9:Nat) (c0:Heap),c9 b9=none->c0=Heap.put c9 b9 ⟨repV [.int .u32 0] (Int.toNat a7),166,(0,0)⟩->
 ∃ n:Nat->Int->Heap->Prop,(∃ o,n o 0 c0)/\
 ∀ (o:Nat) (c1:Int) (c2:Heap),n o c1 c2->
 Br (decide (c1<(i:Int)))
 (∃ p:Addr,g=some p/\0<=c1/\c1<(i:Int)/\
 ∃ q,LdN c2 (Addr.add p (Int.toNat c1*1)) [.int .u32 q]/\
 ∃ r:Nat->Int->Int->Heap->Prop,(∃ s,r s 0 0 c2)/\
 ∀ (s:Nat) (c3:Int) (c4:Int) (c5:Heap),r s c3 c4 c5->
 Br (decide (c4<(l:Int)))
 (∃ t:Addr,k=some t/\0<=c4/\c4<(l:Int)/\
 ∃ u,LdN c5 (Addr.add t (Int.toNat c4*1)) [.int .u32 u]/\
 ∀ a8:Int,a8=IntKind.u64.wrap ((IntKind.u64.wrap q)*(IntKind.u64.wrap u))->
 ∀ a9:Int,a9=IntKind.i64.wrap (c1+c4)->
 ∃ v:Addr,some ⟨b9,0,none⟩=some v/\0<=a9/\a9<(((Int.toNat a7):Nat):Int)/\
 ∃ w,LdN c5 (Addr.add v (Int.toNat a9*1)) [.int .u32 w]/\
 ∀ b0:Int,b0=IntKind.u64.wrap (a8+(IntKind.u64.wrap w))->
 ∀ b1:Int,b1=IntKind.u64.wrap (c3+b0)->
 ∀ b2:Int,b2=IntKind.i64.wrap (c1+c4)->
 ∃ y:Addr,some ⟨b9,0,none⟩=some y/\0<=b2/\b2<(((Int.toNat a7):Nat):Int)/\
 ∃ z:Blk,c5 (Addr.block (Addr.add y (Int.toNat b2*1)))=some z/\z.fz=(0,0)/\Addr.spot (Addr.add y (Int.toNat b2*1))=none/\Addr.off (Addr.add y (Int.toNat b2*1))+1<=z.cells.length/\
 ∀ b3:Heap,b3=Heap.put c5 (Addr.block (Addr.add y (Int.toNat b2*1))) { z with cells:=setSeg z.cells (Addr.off (Addr.add y (Int.toNat b2*1))) [.int .u32 (IntKind.u32.wrap b1)] }->
 ∀ b4:Int,b4=(Int.fdiv b1 (2^(32:Nat)))->
 ∀ b5:Int,b5=IntKind.i64.wrap (c4+1)->
 ∃ a0,a0<s/\r a0 b4 b5 b3)
 (∀ b6:Int,b6=IntKind.i64.wrap (c1+(l:Int))->
 ∃ a1:Addr,some ⟨b9,0,none⟩=some a1/\0<=b6/\b6<(((Int.toNat a7):Nat):Int)/\
 ∃ a2:Blk,c5 (Addr.block (Addr.add a1 (Int.toNat b6*1)))=some a2/\a2.fz=(0,0)/\Addr.spot (Addr.add a1 (Int.toNat b6*1))=none/\Addr.off (Addr.add a1 (Int.toNat b6*1))+1<=a2.cells.length/\
 ∀ b7:Heap,b7=Heap.put c5 (Addr.block (Addr.add a1 (Int.toNat b6*1))) { a2 with cells:=setSeg a2.cells (Addr.off (Addr.add a1 (Int.toNat b6*1))) [.int .u32 (IntKind.u32.wrap c3)] }->
 ∀ b8:Int,b8=IntKind.i64.wrap (c1+1)->
 ∃ a3,a3<o/\n a3 b8 b7))
 (CallsU Tryz.prog 132 [.slice (some ⟨b9,0,none⟩) (Int.toNat a7) (Int.toNat a7)] c2 fun d0 d1=>
 ∃ a4 a5 a6,d0 = .slice a4 a5 a6/\
 R (.slice a4 a5 a6) d1)
theorem natural_Mul_ok {a:OA} {b c:Nat} {d:OA} {e f:Nat} {h:Heap} {R:Value->Heap->Prop} (hv:natural_Mul_vc a b c d e f h R):CallsU Tryz.prog 84 [.slice a b c,.slice d e f] h R:=
 fn_ok Tryz.func84 (fun _=>false) (.two .nil (.two .nil (.two .nil (.two (.two .nil (.one (.loop ⟨[(23,Sh.int .i64)],[]⟩ (.two .nil (.two .nil (.two (.one (.two .nil (.two .nil (.two (.two .nil (.one (.loop ⟨[(8,Sh.int .u64),(30,Sh.int .i64)],[]⟩ .nil))) .nil)))) .nil)))))) .nil)))) hv
def natural_short_vc (a:OA) (b _c:Nat) (d:Int) (h:Heap) (R:Value->Heap->Prop):Prop:=
 0<=(b:Int)/\(b:Int)<=(b:Int)/\(b:Int)*4<=140737488355328/\(b:Int)<=9223372036854775807/\
 ∀ (w:Nat) (y:Heap),h w=none->y=Heap.put h w ⟨repV [.int .u32 0] (Int.toNat (b:Int)),166,(0,0)⟩->
 ∀ p:Int,p=IntKind.i64.wrap ((b:Int)-1)->
 ∃ e:Nat->Int->Int->Heap->Prop,(∃ f,e f 0 p y)/\
 ∀ (f:Nat) (z:Int) (a0:Int) (a1:Heap),e f z a0 a1->
 Br (decide (a0>=0))
 (∀ q:Int,q=IntKind.u64.wrap (z*2^(32:Nat))->
 ∃ g:Addr,a=some g/\0<=a0/\a0<(b:Int)/\
 ∃ i,LdN a1 (Addr.add g (Int.toNat a0*1)) [.int .u32 i]/\
 ∀ r:Int,r=bitsOf .or .u64 q (IntKind.u64.wrap i)->
 Br (decide (IntKind.u64.wrap d=0)) False
 (∀ s:Int,s=IntKind.u64.wrap (Int.tdiv r (IntKind.u64.wrap d))->
 ∃ j:Addr,some ⟨w,0,none⟩=some j/\0<=a0/\a0<(((Int.toNat (b:Int)):Nat):Int)/\
 ∃ k:Blk,a1 (Addr.block (Addr.add j (Int.toNat a0*1)))=some k/\k.fz=(0,0)/\Addr.spot (Addr.add j (Int.toNat a0*1))=none/\Addr.off (Addr.add j (Int.toNat a0*1))+1<=k.cells.length/\
 ∀ t:Heap,t=Heap.put a1 (Addr.block (Addr.add j (Int.toNat a0*1))) { k with cells:=setSeg k.cells (Addr.off (Addr.add j (Int.toNat a0*1))) [.int .u32 (IntKind.u32.wrap s)] }->
 Br (decide (IntKind.u64.wrap d=0)) False
 (∀ u:Int,u=(Int.tmod r (IntKind.u64.wrap d))->
 ∀ v:Int,v=IntKind.i64.wrap (a0-1)->
 ∃ l,l<f/\e l u v t)))
 (CallsU Tryz.prog 132 [.slice (some ⟨w,0,none⟩) (Int.toNat (b:Int)) (Int.toNat (b:Int))] a1 fun a2 a3=>
 ∃ m n o,a2 = .slice m n o/\
 R (.tuple #[.slice m n o,.int .u32 (IntKind.u32.wrap z)]) a3)
theorem natural_short_ok {a:OA} {b c:Nat} {d:Int} {h:Heap} {R:Value->Heap->Prop} (hv:natural_short_vc a b c d h R):CallsU Tryz.prog 133 [.slice a b c,.int .u32 d] h R:=
 fn_ok Tryz.func133 (fun _=>false) (.two .nil (.two .nil (.two .nil (.two (.two .nil (.one (.loop ⟨[(7,Sh.int .u64),(8,Sh.int .i64)],[]⟩ .nil))) .nil)))) hv
def natural_left_vc (a:OA) (b _c:Nat) (d:Int) (h:Heap) (R:Value->Heap->Prop):Prop:=
 ∀ q:Int,q=IntKind.i64.wrap ((b:Int)+1)->
 0<=q/\q<=q/\q*4<=140737488355328/\q<=9223372036854775807/\
 ∀ (z:Nat) (a0:Heap),h z=none->a0=Heap.put h z ⟨repV [.int .u32 0] (Int.toNat q),166,(0,0)⟩->
 ∃ e:Nat->Int->Heap->Prop,(∃ f,e f 0 a0)/\
 ∀ (f:Nat) (a1:Int) (a2:Heap),e f a1 a2->
 Br (decide (a1<(b:Int)))
 (∃ g:Addr,a=some g/\0<=a1/\a1<(b:Int)/\
 ∃ i,LdN a2 (Addr.add g (Int.toNat a1*1)) [.int .u32 i]/\
 Br (decide (d<0)) False
 (∀ r:Int,r=IntKind.u64.wrap ((IntKind.u64.wrap i)*2^(min (Int.toNat d) 64:Nat))->
 ∃ j:Addr,some ⟨z,0,none⟩=some j/\0<=a1/\a1<(((Int.toNat q):Nat):Int)/\
 ∃ k,LdN a2 (Addr.add j (Int.toNat a1*1)) [.int .u32 k]/\
 ∀ s:Int,s=bitsOf .or .u32 k (IntKind.u32.wrap r)->
 ∃ l:Addr,some ⟨z,0,none⟩=some l/\0<=a1/\a1<(((Int.toNat q):Nat):Int)/\
 ∃ m:Blk,a2 (Addr.block (Addr.add l (Int.toNat a1*1)))=some m/\m.fz=(0,0)/\Addr.spot (Addr.add l (Int.toNat a1*1))=none/\Addr.off (Addr.add l (Int.toNat a1*1))+1<=m.cells.length/\
 ∀ t:Heap,t=Heap.put a2 (Addr.block (Addr.add l (Int.toNat a1*1))) { m with cells:=setSeg m.cells (Addr.off (Addr.add l (Int.toNat a1*1))) [.int .u32 s] }->
 ∀ u:Int,u=IntKind.i64.wrap (a1+1)->
 ∀ v:Int,v=(Int.fdiv r (2^(32:Nat)))->
 ∃ n:Addr,some ⟨z,0,none⟩=some n/\0<=u/\u<(((Int.toNat q):Nat):Int)/\
 ∃ o:Blk,t (Addr.block (Addr.add n (Int.toNat u*1)))=some o/\o.fz=(0,0)/\Addr.spot (Addr.add n (Int.toNat u*1))=none/\Addr.off (Addr.add n (Int.toNat u*1))+1<=o.cells.length/\
 ∀ w:Heap,w=Heap.put t (Addr.block (Addr.add n (Int.toNat u*1))) { o with cells:=setSeg o.cells (Addr.off (Addr.add n (Int.toNat u*1))) [.int .u32 (IntKind.u32.wrap v)] }->
 ∀ y:Int,y=IntKind.i64.wrap (a1+1)->
 ∃ p,p<f/\e p y w))
 (R (.slice (some ⟨z,0,none⟩) (Int.toNat q) (Int.toNat q)) a2)
theorem natural_left_ok {a:OA} {b c:Nat} {d:Int} {h:Heap} {R:Value->Heap->Prop} (hv:natural_left_vc a b c d h R):CallsU Tryz.prog 209 [.slice a b c,.int .i64 d] h R:=
 fn_ok Tryz.func209 (fun _=>false) (.two .nil (.two .nil (.two (.two .nil (.one (.loop ⟨[(15,Sh.int .i64)],[]⟩ .nil))) .nil))) hv
def natural_right_vc (a:OA) (b _c:Nat) (d:Int) (h:Heap) (R:Value->Heap->Prop):Prop:=
 0<=(b:Int)/\(b:Int)<=(b:Int)/\(b:Int)*4<=140737488355328/\(b:Int)<=9223372036854775807/\
 ∀ (a4:Nat) (a5:Heap),h a4=none->a5=Heap.put h a4 ⟨repV [.int .u32 0] (Int.toNat (b:Int)),166,(0,0)⟩->
 ∃ e:Nat->Int->Heap->Prop,(∃ f,e f 0 a5)/\
 ∀ (f:Nat) (a6:Int) (a7:Heap),e f a6 a7->
 Br (decide (a6<(b:Int)))
 (∃ g:Addr,a=some g/\0<=a6/\a6<(b:Int)/\
 ∃ i,LdN a7 (Addr.add g (Int.toNat a6*1)) [.int .u32 i]/\
 ∀ t:Int,t=IntKind.i64.wrap (a6+1)->
 Br (decide (t<(b:Int)))
 (∀ u:Int,u=IntKind.i64.wrap (a6+1)->
 ∃ j:Addr,a=some j/\0<=u/\u<(b:Int)/\
 ∃ k,LdN a7 (Addr.add j (Int.toNat u*1)) [.int .u32 k]/\
 ∀ v:Int,v=IntKind.u64.wrap ((IntKind.u64.wrap k)*2^(32:Nat))->
 ∀ w:Int,w=bitsOf .or .u64 (IntKind.u64.wrap i) v->
 Br (decide (d<0)) False
 (∀ y:Int,y=(Int.fdiv w (2^(min (Int.toNat d) 64:Nat)))->
 ∃ l:Addr,some ⟨a4,0,none⟩=some l/\0<=a6/\a6<(((Int.toNat (b:Int)):Nat):Int)/\
 ∃ m:Blk,a7 (Addr.block (Addr.add l (Int.toNat a6*1)))=some m/\m.fz=(0,0)/\Addr.spot (Addr.add l (Int.toNat a6*1))=none/\Addr.off (Addr.add l (Int.toNat a6*1))+1<=m.cells.length/\
 ∀ z:Heap,z=Heap.put a7 (Addr.block (Addr.add l (Int.toNat a6*1))) { m with cells:=setSeg m.cells (Addr.off (Addr.add l (Int.toNat a6*1))) [.int .u32 (IntKind.u32.wrap y)] }->
 ∀ a0:Int,a0=IntKind.i64.wrap (a6+1)->
 ∃ n,n<f/\e n a0 z))
 (Br (decide (d<0)) False
 (∀ a1:Int,a1=(Int.fdiv (IntKind.u64.wrap i) (2^(min (Int.toNat d) 64:Nat)))->
 ∃ o:Addr,some ⟨a4,0,none⟩=some o/\0<=a6/\a6<(((Int.toNat (b:Int)):Nat):Int)/\
 ∃ p:Blk,a7 (Addr.block (Addr.add o (Int.toNat a6*1)))=some p/\p.fz=(0,0)/\Addr.spot (Addr.add o (Int.toNat a6*1))=none/\Addr.off (Addr.add o (Int.toNat a6*1))+1<=p.cells.length/\
 ∀ a2:Heap,a2=Heap.put a7 (Addr.block (Addr.add o (Int.toNat a6*1))) { p with cells:=setSeg p.cells (Addr.off (Addr.add o (Int.toNat a6*1))) [.int .u32 (IntKind.u32.wrap a1)] }->
 ∀ a3:Int,a3=IntKind.i64.wrap (a6+1)->
 ∃ n,n<f/\e n a3 a2)))
 (CallsU Tryz.prog 132 [.slice (some ⟨a4,0,none⟩) (Int.toNat (b:Int)) (Int.toNat (b:Int))] a7 fun a8 a9=>
 ∃ q r s,a8 = .slice q r s/\
 R (.slice q r s) a9)
theorem natural_right_ok {a:OA} {b c:Nat} {d:Int} {h:Heap} {R:Value->Heap->Prop} (hv:natural_right_vc a b c d h R):CallsU Tryz.prog 211 [.slice a b c,.int .i64 d] h R:=
 fn_ok Tryz.func211 (fun _=>false) (.two .nil (.two .nil (.two (.two .nil (.one (.loop ⟨[(14,Sh.int .i64)],[]⟩ .nil))) .nil))) hv
def natural_digit_vc (a:OA) (b _c:Nat) (d:OA) (e _f:Nat) (h:Heap) (R:Value->Heap->Prop):Prop:=
 ∃ g:Addr,a=some g/\0<=(e:Int)/\(e:Int)<(b:Int)/\
 ∃ i,LdN h (Addr.add g (Int.toNat (e:Int)*1)) [.int .u32 i]/\
 ∀ c2:Int,c2=IntKind.u64.wrap ((IntKind.u64.wrap i)*2^(32:Nat))->
 ∀ c3:Int,c3=IntKind.i64.wrap ((e:Int)-1)->
 ∃ j:Addr,a=some j/\0<=c3/\c3<(b:Int)/\
 ∃ k,LdN h (Addr.add j (Int.toNat c3*1)) [.int .u32 k]/\
 ∀ c4:Int,c4=bitsOf .or .u64 c2 (IntKind.u64.wrap k)->
 ∀ c5:Int,c5=IntKind.i64.wrap ((e:Int)-1)->
 ∃ l:Addr,d=some l/\0<=c5/\c5<(e:Int)/\
 ∃ m,LdN h (Addr.add l (Int.toNat c5*1)) [.int .u32 m]/\
 Br (decide (IntKind.u64.wrap m=0)) False
 (∀ c6:Int,c6=IntKind.u64.wrap (Int.tdiv c4 (IntKind.u64.wrap m))->
 Br (decide (IntKind.u64.wrap m=0)) False
 (∀ c7:Int,c7=(Int.tmod c4 (IntKind.u64.wrap m))->
 ∃ n:Int->Heap->Prop,(∀ (f7:Int) (f8:Heap),n f7 f8->
 ∃ o:Nat->Int->Int->Int->Heap->Prop,(∃ p,o p 0 0 0 f8)/\
 ∀ (p:Nat) (f9:Int) (g0:Int) (g1:Int) (g2:Heap),o p f9 g0 g1 g2->
 Br (decide (g1<(e:Int)))
 (∃ q:Addr,d=some q/\0<=g1/\g1<(e:Int)/\
 ∃ r,LdN g2 (Addr.add q (Int.toNat g1*1)) [.int .u32 r]/\
 ∀ c8:Int,c8=IntKind.u64.wrap (f7*(IntKind.u64.wrap r))->
 ∀ c9:Int,c9=IntKind.u64.wrap (f9+c8)->
 ∃ s:Addr,a=some s/\0<=g1/\g1<(b:Int)/\
 ∃ t,LdN g2 (Addr.add s (Int.toNat g1*1)) [.int .u32 t]/\
 ∀ d0:Int,d0=IntKind.u64.wrap ((IntKind.u64.wrap t)-(IntKind.u64.wrap (IntKind.u32.wrap c9)))->
 ∀ d1:Int,d1=IntKind.u64.wrap (d0-g0)->
 ∃ u:Addr,a=some u/\0<=g1/\g1<(b:Int)/\
 ∃ v:Blk,g2 (Addr.block (Addr.add u (Int.toNat g1*1)))=some v/\v.fz=(0,0)/\Addr.spot (Addr.add u (Int.toNat g1*1))=none/\Addr.off (Addr.add u (Int.toNat g1*1))+1<=v.cells.length/\
 ∀ d2:Heap,d2=Heap.put g2 (Addr.block (Addr.add u (Int.toNat g1*1))) { v with cells:=setSeg v.cells (Addr.off (Addr.add u (Int.toNat g1*1))) [.int .u32 (IntKind.u32.wrap d1)] }->
 ∀ d3:Int,d3=(Int.fdiv d1 (2^(63:Nat)))->
 ∀ d4:Int,d4=(Int.fdiv c9 (2^(32:Nat)))->
 ∀ d5:Int,d5=IntKind.i64.wrap (g1+1)->
 ∃ w,w<p/\o w d4 d3 d5 d2)
 (∃ y:Addr,a=some y/\0<=(e:Int)/\(e:Int)<(b:Int)/\
 ∃ z,LdN g2 (Addr.add y (Int.toNat (e:Int)*1)) [.int .u32 z]/\
 ∀ d6:Int,d6=IntKind.u64.wrap ((IntKind.u64.wrap z)-f9)->
 ∀ d7:Int,d7=IntKind.u64.wrap (d6-g0)->
 ∃ a0:Addr,a=some a0/\0<=(e:Int)/\(e:Int)<(b:Int)/\
 ∃ a1:Blk,g2 (Addr.block (Addr.add a0 (Int.toNat (e:Int)*1)))=some a1/\a1.fz=(0,0)/\Addr.spot (Addr.add a0 (Int.toNat (e:Int)*1))=none/\Addr.off (Addr.add a0 (Int.toNat (e:Int)*1))+1<=a1.cells.length/\
 ∀ d8:Heap,d8=Heap.put g2 (Addr.block (Addr.add a0 (Int.toNat (e:Int)*1))) { a1 with cells:=setSeg a1.cells (Addr.off (Addr.add a0 (Int.toNat (e:Int)*1))) [.int .u32 (IntKind.u32.wrap d7)] }->
 ∀ d9:Int,d9=(Int.fdiv d7 (2^(63:Nat)))->
 Br ((d9:Int)==0)
 (R (.int .u32 (IntKind.u32.wrap f7)) d8)
 (∃ a2:Nat->Int->Int->Heap->Prop,(∃ a3,a2 a3 0 0 d8)/\
 ∀ (a3:Nat) (g3:Int) (g4:Int) (g5:Heap),a2 a3 g3 g4 g5->
 Br (decide (g4<(e:Int)))
 (∃ a4:Addr,d=some a4/\0<=g4/\g4<(e:Int)/\
 ∃ a5,LdN g5 (Addr.add a4 (Int.toNat g4*1)) [.int .u32 a5]/\
 ∃ a6:Addr,a=some a6/\0<=g4/\g4<(b:Int)/\
 ∃ a7,LdN g5 (Addr.add a6 (Int.toNat g4*1)) [.int .u32 a7]/\
 ∀ e0:Int,e0=IntKind.u64.wrap ((IntKind.u64.wrap a7)+(IntKind.u64.wrap a5))->
 ∀ e1:Int,e1=IntKind.u64.wrap (g3+e0)->
 ∃ a8:Addr,a=some a8/\0<=g4/\g4<(b:Int)/\
 ∃ a9:Blk,g5 (Addr.block (Addr.add a8 (Int.toNat g4*1)))=some a9/\a9.fz=(0,0)/\Addr.spot (Addr.add a8 (Int.toNat g4*1))=none/\Addr.off (Addr.add a8 (Int.toNat g4*1))+1<=a9.cells.length/\
 ∀ e2:Heap,e2=Heap.put g5 (Addr.block (Addr.add a8 (Int.toNat g4*1))) { a9 with cells:=setSeg a9.cells (Addr.off (Addr.add a8 (Int.toNat g4*1))) [.int .u32 (IntKind.u32.wrap e1)] }->
 ∀ e3:Int,e3=(Int.fdiv e1 (2^(32:Nat)))->
 ∀ e4:Int,e4=IntKind.i64.wrap (g4+1)->
 ∃ b0,b0<a3/\a2 b0 e3 e4 e2)
 (∃ b1:Addr,a=some b1/\0<=(e:Int)/\(e:Int)<(b:Int)/\
 ∃ b2,LdN g5 (Addr.add b1 (Int.toNat (e:Int)*1)) [.int .u32 b2]/\
 ∀ e5:Int,e5=IntKind.u32.wrap (b2+(IntKind.u32.wrap g3))->
 ∃ b3:Addr,a=some b3/\0<=(e:Int)/\(e:Int)<(b:Int)/\
 ∃ b4:Blk,g5 (Addr.block (Addr.add b3 (Int.toNat (e:Int)*1)))=some b4/\b4.fz=(0,0)/\Addr.spot (Addr.add b3 (Int.toNat (e:Int)*1))=none/\Addr.off (Addr.add b3 (Int.toNat (e:Int)*1))+1<=b4.cells.length/\
 ∀ e6:Heap,e6=Heap.put g5 (Addr.block (Addr.add b3 (Int.toNat (e:Int)*1))) { b4 with cells:=setSeg b4.cells (Addr.off (Addr.add b3 (Int.toNat (e:Int)*1))) [.int .u32 e5] }->
 ∀ e7:Int,e7=IntKind.u64.wrap (f7-1)->
 R (.int .u32 (IntKind.u32.wrap e7)) e6))))/\
 ∃ b5:Nat->Int->Int->Heap->Prop,(∃ b6,b5 b6 c6 c7 h)/\
 ∀ (b6:Nat) (g6:Int) (g7:Int) (g8:Heap),b5 b6 g6 g7 g8->
 Br (decide (g7<4294967296))
 (Br (decide (g6>=4294967296))
 (∀ e8:Int,e8=IntKind.u64.wrap (g6-1)->
 ∀ e9:Int,e9=IntKind.u64.wrap (g7+(IntKind.u64.wrap m))->
 ∃ b7,b7<b6/\b5 b7 e8 e9 g8)
 (∀ f0:Int,f0=IntKind.i64.wrap ((e:Int)-2)->
 ∃ b8:Addr,d=some b8/\0<=f0/\f0<(e:Int)/\
 ∃ b9,LdN g8 (Addr.add b8 (Int.toNat f0*1)) [.int .u32 b9]/\
 ∀ f1:Int,f1=IntKind.u64.wrap (g6*(IntKind.u64.wrap b9))->
 ∀ f2:Int,f2=IntKind.u64.wrap (g7*2^(32:Nat))->
 ∀ f3:Int,f3=IntKind.i64.wrap ((e:Int)-2)->
 ∃ c0:Addr,a=some c0/\0<=f3/\f3<(b:Int)/\
 ∃ c1,LdN g8 (Addr.add c0 (Int.toNat f3*1)) [.int .u32 c1]/\
 ∀ f4:Int,f4=bitsOf .or .u64 f2 (IntKind.u64.wrap c1)->
 Br (decide (f1>f4))
 (∀ f5:Int,f5=IntKind.u64.wrap (g6-1)->
 ∀ f6:Int,f6=IntKind.u64.wrap (g7+(IntKind.u64.wrap m))->
 ∃ b7,b7<b6/\b5 b7 f5 f6 g8)
 (n g6 g8)))
 (n g6 g8)))
theorem natural_digit_ok {a:OA} {b c:Nat} {d:OA} {e f:Nat} {h:Heap} {R:Value->Heap->Prop} (hv:natural_digit_vc a b c d e f h R):CallsU Tryz.prog 210 [.slice a b c,.slice d e f] h R:=
 fn_ok Tryz.func210 (fun _=>false) (.two .nil (.two .nil (.two (.ord [0,1,2,3,4,5,6,7,8,9,10,11,12,13,14,15,16,17,18,19,20]) (.two (.ord [0,1,2,3,4,5,6,7]) (.cut ⟨[(8,Sh.int .u64)],[]⟩ (.one (.loop ⟨[(8,Sh.int .u64),(9,Sh.int .u64)],[]⟩ (.two (.two (.ord [0,1,2,3,4,5,6,7,8,9,10,11,12,13,14,15,16,17,18,19,20,21,22,23,24,25]) .nil) .nil))) (.two .nil (.two (.two .nil (.one (.loop ⟨[(10,Sh.int .u64),(11,Sh.int .u64),(78,Sh.int .i64)],[]⟩ .nil))) (.two .nil (.two .nil (.two .nil (.two .nil (.two (.two .nil (.one (.loop ⟨[(10,Sh.int .u64),(131,Sh.int .i64)],[]⟩ .nil))) .nil)))))))))))) hv
def natural_DivMod_vc (a:OA) (b c:Nat) (d:OA) (e f:Nat) (h:Heap) (R:Value->Heap->Prop):Prop:=
 CallsU Tryz.prog 132 [.slice a b c] h fun d3 d4=>
 ∃ g i j,d3 = .slice g i j/\
 CallsU Tryz.prog 132 [.slice d e f] d4 fun d5 d6=>
 ∃ k l m,d5 = .slice k l m/\
 Br ((l:Int)==0)
 (R (.tuple #[.slice none 0 0,.slice none 0 0,.bool false]) d6)
 (CallsU Tryz.prog 140 [.slice g i j,.slice k l m] d6 fun d7 d8=>
 ∃ n,d7 = .int .i64 n/\
 Br (decide (n<0))
 (CallsU Tryz.prog 207 [.slice g i j] d8 fun d9 e0=>
 ∃ o p q,d9 = .slice o p q/\
 R (.tuple #[.slice none 0 0,.slice o p q,.bool true]) e0)
 (Br ((l:Int)==1)
 (∃ r:Addr,k=some r/\0<=(0:Int)/\(0:Int)<(l:Int)/\
 ∃ s,LdN d8 (Addr.add r (0*1)) [.int .u32 s]/\
 CallsU Tryz.prog 133 [.slice g i j,.int .u32 s] d8 fun e1 e2=>
 ∃ t u v w,e1 = .tuple #[.slice t u v,.int .u32 w]/\
 CallsU Tryz.prog 138 [.int .u64 (IntKind.u64.wrap w)] e2 fun e3 e4=>
 ∃ y z a0,e3 = .slice y z a0/\
 R (.tuple #[.slice t u v,.slice y z a0,.bool true]) e4)
 (∀ c2:Int,c2=IntKind.i64.wrap ((l:Int)-1)->
 ∃ a1:Addr,k=some a1/\0<=c2/\c2<(l:Int)/\
 ∃ a2,LdN d8 (Addr.add a1 (Int.toNat c2*1)) [.int .u32 a2]/\
 CallsU Tryz.prog 208 [.int .u32 a2] d8 fun e5 e6=>
 ∃ a3,e5 = .int .i64 a3/\
 CallsU Tryz.prog 209 [.slice g i j,.int .i64 a3] e6 fun e7 e8=>
 ∃ a4 a5 a6,e7 = .slice a4 a5 a6/\
 CallsU Tryz.prog 209 [.slice k l m,.int .i64 a3] e8 fun e9 f0=>
 ∃ a7 a8 a9,e9 = .slice a7 a8 a9/\
 ((0:Nat):Int)<=(l:Int)/\(l:Int)<=(a9:Int)/\
 ∀ c3:Int,c3=IntKind.i64.wrap ((a5:Int)-(l:Int))->
 0<=c3/\c3<=c3/\c3*4<=140737488355328/\c3<=9223372036854775807/\
 ∀ (c9:Nat) (d0:Heap),f0 c9=none->d0=Heap.put f0 c9 ⟨repV [.int .u32 0] (Int.toNat c3),166,(0,0)⟩->
 ∀ c4:Int,c4=IntKind.i64.wrap ((((Int.toNat c3):Nat):Int)-1)->
 ∃ b0:Nat->Int->Heap->Prop,(∃ b1,b0 b1 c4 d0)/\
 ∀ (b1:Nat) (d1:Int) (d2:Heap),b0 b1 d1 d2->
 Br (decide (d1>=0))
 (∀ c5:Int,c5=IntKind.i64.wrap (d1+(l:Int))->
 ∀ c6:Int,c6=IntKind.i64.wrap (c5+1)->
 ((0:Nat):Int)<=c6/\c6<=(a6:Int)/\
 ((0:Nat):Int)<=d1/\d1<=(((Int.toNat c6):Nat):Int)/\
 CallsU Tryz.prog 210 [.slice (if a6=(Int.toNat d1) then a4 else Option.map (fun x=>Addr.add x ((Int.toNat d1)*1)) a4) ((Int.toNat c6)-(Int.toNat d1)) (a6-(Int.toNat d1)),.slice a7 (Int.toNat (l:Int)) a9] d2 fun f1 f2=>
 ∃ b2,f1 = .int .u32 b2/\
 ∃ b3:Addr,some ⟨c9,0,none⟩=some b3/\0<=d1/\d1<(((Int.toNat c3):Nat):Int)/\
 ∃ b4:Blk,f2 (Addr.block (Addr.add b3 (Int.toNat d1*1)))=some b4/\b4.fz=(0,0)/\Addr.spot (Addr.add b3 (Int.toNat d1*1))=none/\Addr.off (Addr.add b3 (Int.toNat d1*1))+1<=b4.cells.length/\
 ∀ c7:Heap,c7=Heap.put f2 (Addr.block (Addr.add b3 (Int.toNat d1*1))) { b4 with cells:=setSeg b4.cells (Addr.off (Addr.add b3 (Int.toNat d1*1))) [.int .u32 b2] }->
 ∀ c8:Int,c8=IntKind.i64.wrap (d1-1)->
 ∃ b5,b5<b1/\b0 b5 c8 c7)
 (((0:Nat):Int)<=(l:Int)/\(l:Int)<=(a6:Int)/\
 CallsU Tryz.prog 132 [.slice (some ⟨c9,0,none⟩) (Int.toNat c3) (Int.toNat c3)] d2 fun f3 f4=>
 ∃ b6 b7 b8,f3 = .slice b6 b7 b8/\
 CallsU Tryz.prog 211 [.slice a4 (Int.toNat (l:Int)) a6,.int .i64 a3] f4 fun f5 f6=>
 ∃ b9 c0 c1,f5 = .slice b9 c0 c1/\
 R (.tuple #[.slice b6 b7 b8,.slice b9 c0 c1,.bool true]) f6))))
theorem natural_DivMod_ok {a:OA} {b c:Nat} {d:OA} {e f:Nat} {h:Heap} {R:Value->Heap->Prop} (hv:natural_DivMod_vc a b c d e f h R):CallsU Tryz.prog 145 [.slice a b c,.slice d e f] h R:=
 fn_ok Tryz.func145 (fun _=>false) (.two .nil (.two .nil (.two .nil (.two .nil (.two .nil (.two (.ord [0,1,3,4,6,2,5,7,8,9]) (.two .nil (.two (.two .nil (.one (.loop ⟨[(14,Sh.int .i64)],[]⟩ .nil))) (.two (.ord [0,2,3,4,5,1,6,7,8,9]) .nil))))))))) hv
def natural_Gcd_vc (a:OA) (b c:Nat) (d:OA) (e f:Nat) (h:Heap) (R:Value->Heap->Prop):Prop:=
 CallsU Tryz.prog 207 [.slice a b c] h fun a5 a6=>
 ∃ g i j,a5 = .slice g i j/\
 CallsU Tryz.prog 207 [.slice d e f] a6 fun a7 a8=>
 ∃ k l m,a7 = .slice k l m/\
 ∃ n:Nat->OA->Nat->Nat->OA->Nat->Nat->Heap->Prop,(∃ o,n o g i j k l m a8)/\
 ∀ (o:Nat) (y:OA) (z a0:Nat) (a1:OA) (a2 a3:Nat) (a4:Heap),n o y z a0 a1 a2 a3 a4->
 Br (decide ((a2:Int)>0))
 (CallsU Tryz.prog 145 [.slice y z a0,.slice a1 a2 a3] a4 fun a9 b0=>
 ∃ p q r s t u v,a9 = .tuple #[.slice p q r,.slice s t u,.bool v]/\
 ∃ w,w<o/\n w a1 a2 a3 s t u b0)
 (R (.slice y z a0) a4)
theorem natural_Gcd_ok {a:OA} {b c:Nat} {d:OA} {e f:Nat} {h:Heap} {R:Value->Heap->Prop} (hv:natural_Gcd_vc a b c d e f h R):CallsU Tryz.prog 144 [.slice a b c,.slice d e f] h R:=
 fn_ok Tryz.func144 (fun _=>false) (.two .nil (.two .nil (.two (.one (.loop ⟨[(0,Sh.slice),(1,Sh.slice)],[]⟩ .nil)) .nil))) hv
def cmp_Compare_int_vc (a:Int) (b:Int) (h:Heap) (R:Value->Heap->Prop):Prop:=
 CallsU Tryz.prog 248 [.int .i64 a] h fun e f=>
 ∃ c,e = .bool c/\
 CallsU Tryz.prog 248 [.int .i64 b] f fun g i=>
 ∃ d,g = .bool d/\
 Br (c)
 (Br (d)
 (R (.int .i64 0) i)
 (R (.int .i64 (-1)) i))
 (Br (d)
 (R (.int .i64 1) i)
 (Br (decide (a<b))
 (R (.int .i64 (-1)) i)
 (Br (decide (a>b))
 (R (.int .i64 1) i)
 (R (.int .i64 0) i))))
theorem cmp_Compare_int_ok {a:Int} {b:Int} {h:Heap} {R:Value->Heap->Prop} (hv:cmp_Compare_int_vc a b h R):CallsU Tryz.prog 205 [.int .i64 a,.int .i64 b] h R:=
 fn_ok Tryz.func205 (fun _=>false) .nil hv
def cmp_Compare_uint32_vc (a:Int) (b:Int) (h:Heap) (R:Value->Heap->Prop):Prop:=
 CallsU Tryz.prog 249 [.int .u32 a] h fun e f=>
 ∃ c,e = .bool c/\
 CallsU Tryz.prog 249 [.int .u32 b] f fun g i=>
 ∃ d,g = .bool d/\
 Br (c)
 (Br (d)
 (R (.int .i64 0) i)
 (R (.int .i64 (-1)) i))
 (Br (d)
 (R (.int .i64 1) i)
 (Br (decide (a<b))
 (R (.int .i64 (-1)) i)
 (Br (decide (a>b))
 (R (.int .i64 1) i)
 (R (.int .i64 0) i))))
theorem cmp_Compare_uint32_ok {a:Int} {b:Int} {h:Heap} {R:Value->Heap->Prop} (hv:cmp_Compare_uint32_vc a b h R):CallsU Tryz.prog 206 [.int .u32 a,.int .u32 b] h R:=
 fn_ok Tryz.func206 (fun _=>false) .nil hv
def cmp_isNaN_int_vc (a:Int) (h:Heap) (R:Value->Heap->Prop):Prop:=
 R (.bool ((a:Int) != a)) h
theorem cmp_isNaN_int_ok {a:Int} {h:Heap} {R:Value->Heap->Prop} (hv:cmp_isNaN_int_vc a h R):CallsU Tryz.prog 248 [.int .i64 a] h R:=
 fn_ok Tryz.func248 (fun _=>false) .nil hv
def cmp_isNaN_uint32_vc (a:Int) (h:Heap) (R:Value->Heap->Prop):Prop:=
 R (.bool ((a:Int) != a)) h
theorem cmp_isNaN_uint32_ok {a:Int} {h:Heap} {R:Value->Heap->Prop} (hv:cmp_isNaN_uint32_vc a h R):CallsU Tryz.prog 249 [.int .u32 a] h R:=
 fn_ok Tryz.func249 (fun _=>false) .nil hv
def math_bits_LeadingZeros32_vc (a:Int) (h:Heap) (R:Value->Heap->Prop):Prop:=
 CallsU Tryz.prog 155 [.int .u32 a] h fun d e=>
 ∃ b,d = .int .i64 b/\
 ∀ c:Int,c=IntKind.i64.wrap (32-b)->
 R (.int .i64 c) e
theorem math_bits_LeadingZeros32_ok {a:Int} {h:Heap} {R:Value->Heap->Prop} (hv:math_bits_LeadingZeros32_vc a h R):CallsU Tryz.prog 208 [.int .u32 a] h R:=
 fn_ok Tryz.func208 (fun _=>false) .nil hv
def math_bits_Len32_vc (a:Int) (h:Heap) (R:Value->Heap->Prop):Prop:=
 ∃ b:Int->Int->Heap->Prop,(∀ (k:Int) (n:Int) (l:Heap),b k n l->
 Br (decide (k>=256))
 (∀ e:Int,e=(Int.fdiv k (2^(8:Nat)))->
 ∀ f:Int,f=IntKind.i64.wrap (n+8)->
 ∃ c:UInt8,0<=IntKind.u8.wrap e/\(⟨#[0,1,2,2,3,3,3,3,4,4,4,4,4,4,4,4,5,5,5,5,5,5,5,5,5,5,5,5,5,5,5,5,6,6,6,6,6,6,6,6,6,6,6,6,6,6,6,6,6,6,6,6,6,6,6,6,6,6,6,6,6,6,6,6,7,7,7,7,7,7,7,7,7,7,7,7,7,7,7,7,7,7,7,7,7,7,7,7,7,7,7,7,7,7,7,7,7,7,7,7,7,7,7,7,7,7,7,7,7,7,7,7,7,7,7,7,7,7,7,7,7,7,7,7,7,7,7,7,8,8,8,8,8,8,8,8,8,8,8,8,8,8,8,8,8,8,8,8,8,8,8,8,8,8,8,8,8,8,8,8,8,8,8,8,8,8,8,8,8,8,8,8,8,8,8,8,8,8,8,8,8,8,8,8,8,8,8,8,8,8,8,8,8,8,8,8,8,8,8,8,8,8,8,8,8,8,8,8,8,8,8,8,8,8,8,8,8,8,8,8,8,8,8,8,8,8,8,8,8,8,8,8,8,8,8,8,8,8,8,8,8,8,8,8,8,8,8,8,8,8,8,8,8,8,8,8]⟩:ByteArray)[(Int.toNat (IntKind.u8.wrap e):Nat)]?=some c/\
 ∀ g:Int,g=IntKind.i64.wrap (f+(IntKind.i64.wrap (c.toNat:Int)))->
 R (.int .i64 g) l)
 (∃ d:UInt8,0<=IntKind.u8.wrap k/\(⟨#[0,1,2,2,3,3,3,3,4,4,4,4,4,4,4,4,5,5,5,5,5,5,5,5,5,5,5,5,5,5,5,5,6,6,6,6,6,6,6,6,6,6,6,6,6,6,6,6,6,6,6,6,6,6,6,6,6,6,6,6,6,6,6,6,7,7,7,7,7,7,7,7,7,7,7,7,7,7,7,7,7,7,7,7,7,7,7,7,7,7,7,7,7,7,7,7,7,7,7,7,7,7,7,7,7,7,7,7,7,7,7,7,7,7,7,7,7,7,7,7,7,7,7,7,7,7,7,7,8,8,8,8,8,8,8,8,8,8,8,8,8,8,8,8,8,8,8,8,8,8,8,8,8,8,8,8,8,8,8,8,8,8,8,8,8,8,8,8,8,8,8,8,8,8,8,8,8,8,8,8,8,8,8,8,8,8,8,8,8,8,8,8,8,8,8,8,8,8,8,8,8,8,8,8,8,8,8,8,8,8,8,8,8,8,8,8,8,8,8,8,8,8,8,8,8,8,8,8,8,8,8,8,8,8,8,8,8,8,8,8,8,8,8,8,8,8,8,8,8,8,8,8,8,8,8,8]⟩:ByteArray)[(Int.toNat (IntKind.u8.wrap k):Nat)]?=some d/\
 ∀ i:Int,i=IntKind.i64.wrap (n+(IntKind.i64.wrap (d.toNat:Int)))->
 R (.int .i64 i) l))/\
 Br (decide (a>=65536))
 (∀ j:Int,j=(Int.fdiv a (2^(16:Nat)))->
 b j 16 h)
 (b a 0 h)
theorem math_bits_Len32_ok {a:Int} {h:Heap} {R:Value->Heap->Prop} (hv:math_bits_Len32_vc a h R):CallsU Tryz.prog 155 [.int .u32 a] h R:=
 fn_ok Tryz.func155 (fun _=>false) (.two .nil (.cut ⟨[(0,Sh.int .u32),(2,Sh.int .i64)],[]⟩ .nil .nil)) hv
end Go.Proofs.YtfglcgbgaeegaaaGreatDoor

namespace Go.Vcg
open Go
def Le (h h' : Heap):Prop:= ∀ k b,h k=some b->h' k=some b
theorem Le.refl (h:Heap):Le h h:=fun _ _ e=>e
theorem Le.trans {a b c:Heap} (h:Le a b) (k:Le b c):Le a c:=fun i x e=>k i x (h i x e)
theorem Le.put {h0 h:Heap} (l:Le h0 h) {g:Nat} (hg:h0 g=none) (b:Blk):Le h0 (h.put g b):=fun k x e=>by
 have:k≠g:=fun q=>by subst q;rw [hg] at e;cases e
 rw [Heap.put_ne _ _ this];exact l k x e
theorem Le.free {h h' : Heap} (l:Le h h') {g:Nat} (hg:h' g=none):h g=none:=by
 cases e:h g with
 | none=>rfl
 | some b=>rw [l g b e] at hg;cases hg
theorem Le.new {h:Heap} {g:Nat} (hg:h g=none) (b:Blk):Le h (h.put g b):=(Le.refl h).put hg b
theorem wrap_u64 {x:Int} (h0:0<=x) (h1:x<18446744073709551616):IntKind.u64.wrap x=x:=by rw [IntKind.wrap_u64];omega
theorem wrap_u32 {x:Int} (h0:0<=x) (h1:x<4294967296):IntKind.u32.wrap x=x:=by rw [IntKind.wrap_u32];omega
theorem wrap_i64 {x:Int} (h0 : -9223372036854775808<=x) (h1:x<9223372036854775808):IntKind.i64.wrap x=x:=by rw [IntKind.wrap_i64];omega
theorem wrap_u32_mod (x:Int):IntKind.u32.wrap x=x%4294967296:=by rw [IntKind.wrap_u32]
theorem wrap_u64_mod (x:Int):IntKind.u64.wrap x=x%18446744073709551616:=by rw [IntKind.wrap_u64]
abbrev lv (x:Nat):Value:= .int .u32 (x:Int)
structure U32 (h:Heap) (A:Option Addr) (n c:Nat) (xs:List Nat):Prop where
 len:xs.length=n
 cap:n<=c
 lt : ∀ x∈xs,x<4294967296
 mem:0<n-> ∃ ad b,A=some ad/\ad.spot=none/\h ad.block=some b/\(b.cells.drop ad.off).take n=xs.map lv
section
variable {h h' : Heap} {A:Option Addr} {n c:Nat} {xs:List Nat}
theorem U32.mono (u:U32 h A n c xs) (l:Le h h'):U32 h' A n c xs:=
 ⟨u.len,u.cap,u.lt,fun hn=>let ⟨ad,b,e,sp,hb,hc⟩:=u.mem hn;⟨ad,b,e,sp,l _ _ hb,hc⟩⟩
theorem U32.nil (h:Heap) (A:Option Addr) (c:Nat):U32 h A 0 c []:=⟨rfl,Nat.zero_le _,fun _ e=>(by cases e),fun e=>absurd e (Nat.lt_irrefl 0)⟩
theorem addr_off (ad:Addr) (i:Nat):(ad.add i).off=ad.off+i:=by unfold Addr.add;split<;>simp_all
theorem addr_block (ad:Addr) (i:Nat):(ad.add i).block=ad.block:=by unfold Addr.add;split<;>rfl
theorem addr_spot (ad:Addr) (i:Nat) (h:ad.spot=none):(ad.add i).spot=none:=by unfold Addr.add;split<;>simp_all
theorem ld_of {h:Heap} {ad:Addr} {b:Blk} {v:Value} {i:Nat} (sp:ad.spot=none) (hb:h ad.block=some b) (hv:b.cells[ad.off+i]?=some v):LdN h (ad.add i) [v]:=by
 refine ⟨addr_spot _ _ sp,b,by rw [addr_block];exact hb, ?_⟩
 rw [addr_off]
 obtain ⟨hl,e⟩:=List.getElem?_eq_some_iff.1 hv
 rw [List.drop_eq_getElem_cons hl,e]
 simp
theorem U32.get (u:U32 h A n c xs) {i:Nat} (hi:i<n) : ∃ ad,A=some ad/\LdN h (ad.add (i*1)) [lv (xs.getD i 0)]:=by
 obtain ⟨ad,b,e,sp,hb,hc⟩:=u.mem (by omega)
 refine ⟨ad,e, ?_⟩
 rw [Nat.mul_one]
 refine ld_of sp hb ?_
 have h1:((b.cells.drop ad.off).take n)[i]?=(xs.map lv)[i]?:=by rw [hc]
 rw [List.getElem?_take_of_lt hi,List.getElem?_drop] at h1
 rw [h1]
 have:i<xs.length:=by rw [u.len];exact hi
 simp [this]
theorem U32.take (u:U32 h A n c xs) {m:Nat} (hm:m<=n):U32 h A m c (xs.take m) where
 len:=by rw [List.length_take,u.len];omega
 cap:=Nat.le_trans hm u.cap
 lt x hx:=u.lt x (List.mem_of_mem_take hx)
 mem h0:=by
  obtain ⟨ad,b,e,sp,hb,hc⟩:=u.mem (by omega)
  refine ⟨ad,b,e,sp,hb, ?_⟩
  rw [List.map_take,<- hc,List.take_take,Nat.min_eq_left hm]
theorem U32.getD_lt (u:U32 h A n c xs) (i:Nat):xs.getD i 0<4294967296:=by
 rcases Nat.lt_or_ge i xs.length with hl | hg
 ·simp [hl];exact u.lt _ (List.getElem_mem _)
 ·simp [hg]
theorem U32.rds (u:U32 h A n c xs):RdS h A (n*1) (xs.map lv):=by
 refine ⟨by simp [u.len],fun hn=> ?_⟩
 obtain ⟨ad,b,e,sp,hb,hc⟩:=u.mem (by omega)
 exact ⟨ad,e,sp,b,hb,by rw [List.length_map,u.len];exact hc⟩
theorem U32.of_blk {g ty:Nat} {fz:Nat×Nat} {ys:List Nat} {m k:Nat} (hb:h g=some ⟨ys.map lv,ty,fz⟩) (hlt : ∀ x∈ys,x<4294967296) (hm:m<=ys.length) (hk:m<=k):U32 h (some ⟨g,0,none⟩) m k (ys.take m) where
 len:=by rw [List.length_take];omega
 cap:=hk
 lt x hx:=hlt x (List.mem_of_mem_take hx)
 mem _:=⟨_,_,rfl,rfl,hb,by simp [List.map_take]⟩
end
theorem lv_one (l:List Nat) : ∀ x∈l.map lv,one x=true:=by
 intro x hx
 obtain ⟨y,_,rfl⟩:=List.mem_map.1 hx
 rfl
theorem setSeg_one (ys:List Nat) (i y:Nat) (hi:i<ys.length):setSeg (ys.map lv) i [lv y]=(ys.set i y).map lv:=by
 unfold setSeg
 simp only [List.length_singleton]
 rw [List.set_eq_take_append_cons_drop,if_pos hi]
 simp
theorem repV_lv (n:Nat):repV [Value.int .u32 0] n=(List.replicate n 0).map lv:=by
 induction n with
 | zero=>rfl
 | succ n ih=>simp only [repV,ih,List.replicate_succ];rfl
theorem repV_length' (n:Nat):(repV [Value.int .u32 0] n).length=n:=by rw [repV_lv];simp
def B32:Nat:=4294967296
def val:List Nat->Nat
 | []=>0
 | x::r=>x+B32*val r
theorem val_append (a b:List Nat):val (a++b)=val a+B32^a.length*val b:=by
 induction a with
 | nil=>simp [val]
 | cons x r ih=>
  simp only [List.cons_append,val,ih,List.length_cons,Nat.pow_succ]
  rw [Nat.mul_add,Nat.add_assoc,Nat.mul_assoc,Nat.mul_left_comm (B32^r.length)]
theorem val_lt {l:List Nat} (h : ∀ x∈l,x<B32):val l<B32^l.length:=by
 induction l with
 | nil=>simp [val]
 | cons x r ih=>
  have h1:=h x (by simp)
  have h2:=ih fun y hy=>h y (by simp [hy])
  simp only [val,List.length_cons,Nat.pow_succ]
  have:B32*(val r+1)<=B32*B32^r.length:=Nat.mul_le_mul_left _ h2
  rw [Nat.mul_add] at this
  rw [Nat.mul_comm (B32^r.length)]
  omega
def Nrm (l:List Nat):Prop:=l.getLast?≠some 0
theorem nrm_nil:Nrm []:=by simp [Nrm]
theorem nrm_val_pos {l:List Nat} (h:Nrm l) (hne:l≠[]):B32^(l.length-1)<=val l:=by
 obtain ⟨r,x,rfl⟩ : ∃ r x,l=r++[x]:=⟨l.dropLast,l.getLast hne,(List.dropLast_concat_getLast hne).symm⟩
 have hx:x≠0:=fun e=>h (by simp [e])
 rw [val_append]
 simp only [val,List.length_append,List.length_singleton,Nat.add_sub_cancel,Nat.mul_zero,Nat.add_zero]
 have:B32^r.length*1<=B32^r.length*x:=Nat.mul_le_mul_left _ (Nat.one_le_iff_ne_zero.2 hx)
 omega
theorem nrm_zero {l:List Nat} (h:Nrm l) (hv:val l=0):l=[]:=by
 cases hl:l with
 | nil=>rfl
 | cons x r=>
  have:=nrm_val_pos h (by simp [hl])
  have hp:0<B32^(l.length-1):=Nat.pow_pos (by decide)
  omega
theorem nrm_len {l:List Nat} (h:Nrm l) {k:Nat} (hv:val l<B32^k):l.length<=k:=by
 rcases Nat.lt_or_ge k l.length with hk | hk
 ·have hne:l≠[]:=fun e=>by rw [e] at hk;simp at hk
  have h1:=nrm_val_pos h hne
  have h2:B32^k<=B32^(l.length-1):=Nat.pow_le_pow_right (by decide) (by omega)
  omega
 ·exact hk
theorem val_inj_len : ∀ {a b:List Nat},(∀ x∈a,x<B32)->(∀ x∈b,x<B32)->a.length=b.length->val a=val b->a=b
 | [],[],_,_,_,_=>rfl
 | x::r,y::q,ha,hb,hl,hv=>by
  simp only [val] at hv
  have h1:=ha x (by simp)
  have h2:=hb y (by simp)
  have hm:(x+B32*val r)%B32=(y+B32*val q)%B32:=by rw [hv]
  rw [Nat.add_mul_mod_self_left,Nat.add_mul_mod_self_left,Nat.mod_eq_of_lt h1,Nat.mod_eq_of_lt h2] at hm
  subst hm
  have hv2:val r=val q:=by
   have:B32*val r=B32*val q:=by omega
   exact Nat.eq_of_mul_eq_mul_left (by decide) this
  rw [val_inj_len (fun z hz=>ha z (by simp [hz])) (fun z hz=>hb z (by simp [hz])) (by simpa using hl) hv2]
theorem nrm_inj {a b:List Nat} (ha : ∀ x∈a,x<B32) (hb : ∀ x∈b,x<B32) (na:Nrm a) (nb:Nrm b) (hv:val a=val b):a=b:=by
 refine val_inj_len ha hb ?_ hv
 have h1:=nrm_len na (k:=b.length) (by rw [hv];exact val_lt hb)
 have h2:=nrm_len nb (k:=a.length) (by rw [<- hv];exact val_lt ha)
 omega
theorem val_zeros (n:Nat):val (List.replicate n 0)=0:=by
 induction n with
 | zero=>rfl
 | succ n ih=>simp [List.replicate_succ,val,ih]
def trimL:List Nat->List Nat
 | []=>[]
 | x::r=>
  match trimL r with
  | []=>if x=0 then [] else [x]
  | y::t=>x::y::t
theorem trimL_spec : ∀ l:List Nat,∃ n,l=trimL l++List.replicate n 0
 | []=>⟨0,rfl⟩
 | x::r=>by
  obtain ⟨n,h⟩:=trimL_spec r
  simp only [trimL]
  split
  ·rename_i e
   rw [e] at h
   split
   ·rename_i h0;subst h0;exact ⟨n+1,by rw [h];rfl⟩
   ·exact ⟨n,by rw [h];rfl⟩
  ·rename_i y t e
   rw [e] at h
   exact ⟨n,by rw [h];rfl⟩
theorem trimL_nrm : ∀ l:List Nat,Nrm (trimL l)
 | []=>nrm_nil
 | x::r=>by
  have ih:=trimL_nrm r
  simp only [trimL]
  split
  ·split
   ·exact nrm_nil
   ·rename_i h0;simpa [Nrm] using h0
  ·rename_i y t e
   rw [e] at ih
   simpa [Nrm,List.getLast?_cons_cons] using ih
theorem trimL_val (l:List Nat):val (trimL l)=val l:=by
 obtain ⟨n,h⟩:=trimL_spec l
 have h1:val l=val (trimL l++List.replicate n 0):=congrArg val h
 rw [h1,val_append,val_zeros,Nat.mul_zero,Nat.add_zero]
theorem trimL_le (l:List Nat):(trimL l).length<=l.length:=by
 obtain ⟨n,h⟩:=trimL_spec l
 have:=congrArg List.length h
 simp at this
 omega
theorem trimL_take (l:List Nat):trimL l=l.take (trimL l).length:=by
 obtain ⟨n,h⟩:=trimL_spec l
 have h1:l.take (trimL l).length=(trimL l++List.replicate n 0).take (trimL l).length:=congrArg (List.take _) h
 rw [h1,List.take_left']
 rfl
end Go.Vcg

namespace Go.Proofs.YtfglcgbgaeegaaaGreatDoor
open Go Go.Vcg
theorem trimL_snoc_zero : ∀ l:List Nat,trimL (l++[0])=trimL l
 | []=>rfl
 | x::r=>by simp only [List.cons_append,trimL,trimL_snoc_zero r]
theorem trimL_of_nrm {l:List Nat} (h:Nrm l):trimL l=l:=by
 obtain ⟨n,e⟩:=trimL_spec l
 cases n with
 | zero=>simpa using e.symm
 | succ n=>
  exfalso
  apply h
  rw [e,List.replicate_succ', <- List.append_assoc,List.getLast?_append]
  simp
theorem isNaN_int (x:Int) (h:Heap):CallsU Tryz.prog 248 [.int .i64 x] h fun v h' => v = .bool false/\h=h' := by
 apply cmp_isNaN_int_ok
 simp [cmp_isNaN_int_vc]
theorem isNaN_u32 (x:Int) (h:Heap):CallsU Tryz.prog 249 [.int .u32 x] h fun v h' => v = .bool false/\h=h' := by
 apply cmp_isNaN_uint32_ok
 simp [cmp_isNaN_uint32_vc]
def cmpI (x y:Int):Int:=if x<y then -1 else if y<x then 1 else 0
theorem compare_int (x y:Int) (h:Heap):CallsU Tryz.prog 205 [.int .i64 x,.int .i64 y] h fun v h' => v = .int .i64 (cmpI x y)/\h=h' := by
 apply cmp_Compare_int_ok
 refine (isNaN_int x h).mono ?_
 rintro _ _ ⟨rfl,rfl⟩
 refine ⟨_,rfl,(isNaN_int y _).mono ?_⟩
 rintro _ _ ⟨rfl,rfl⟩
 refine ⟨_,rfl,Br.mk (fun h=>(by cases h)) fun _=>Br.mk (fun h=>(by cases h)) fun _=>Br.mk (fun h1=> ?_) fun h1=>Br.mk (fun h2=> ?_) fun h2=> ?_⟩<;>simp at h1<;>refine ⟨?_,rfl⟩<;>unfold cmpI
 ·rw [if_pos h1]
 ·simp at h2;rw [if_neg (by omega),if_pos h2]
 ·simp at h2;rw [if_neg (by omega),if_neg (by omega)]
theorem compare_u32 (x y:Int) (h:Heap):CallsU Tryz.prog 206 [.int .u32 x,.int .u32 y] h fun v h' => v = .int .i64 (cmpI x y)/\h=h' := by
 apply cmp_Compare_uint32_ok
 refine (isNaN_u32 x h).mono ?_
 rintro _ _ ⟨rfl,rfl⟩
 refine ⟨_,rfl,(isNaN_u32 y _).mono ?_⟩
 rintro _ _ ⟨rfl,rfl⟩
 refine ⟨_,rfl,Br.mk (fun h=>(by cases h)) fun _=>Br.mk (fun h=>(by cases h)) fun _=>Br.mk (fun h1=> ?_) fun h1=>Br.mk (fun h2=> ?_) fun h2=> ?_⟩<;>simp at h1<;>refine ⟨?_,rfl⟩<;>unfold cmpI
 ·rw [if_pos h1]
 ·simp at h2;rw [if_neg (by omega),if_pos h2]
 ·simp at h2;rw [if_neg (by omega),if_neg (by omega)]
theorem take_last {xs:List Nat} {m:Nat} (h:m<xs.length):xs.take (m+1)=xs.take m++[xs.getD m 0]:=by
 rw [List.take_succ_eq_append_getElem h]
 simp [h]
theorem trim_c {h:Heap} {A:Option Addr} {n c:Nat} {xs:List Nat} (u:U32 h A n c xs) (hn:n<=4611686018427387904) :
  CallsU Tryz.prog 132 [.slice A n c] h fun v h' => v = .slice A (trimL xs).length c/\h=h' := by
 apply natural_trim_ok
 refine ⟨fun m k h' => h' = h/\k=(m:Int)/\m<=n/\trimL xs=trimL (xs.take m),⟨n,rfl,rfl,Nat.le_refl _,by rw [List.take_of_length_le (Nat.le_of_eq u.len)]⟩, ?_⟩
 rintro m k h' ⟨rfl,rfl,hm,ht⟩
 have hc:=u.cap
 refine Br.mk (fun hp=> ?_) (fun hp=> ?_)
 ·simp at hp
  obtain ⟨m,rfl⟩ : ∃ q,m=q+1:=⟨m-1,by omega⟩
  rintro _ rfl
  rw [wrap_i64 (by omega) (by omega)]
  have e1:((m+1:Nat):Int)-1=(m:Int):=by omega
  rw [e1]
  obtain ⟨ad,hA,hl⟩:=u.get (i:=m) (by omega)
  refine ⟨ad,hA,by omega,by omega,_,hl,Br.mk (fun h0=> ?_) (fun h0=> ?_)⟩
  ·rintro _ rfl
   refine ⟨m,by omega,rfl,rfl,by omega, ?_⟩
   rw [ht,take_last (by rw [u.len];omega)]
   have:xs.getD m 0=0:=by simp at h0;exact_mod_cast h0
   rw [this,trimL_snoc_zero]
  ·refine ⟨by omega,by omega, ?_,rfl⟩
   have hnz:xs.getD m 0≠0:=by
    intro e
    rw [e] at h0
    simp at h0
   have:trimL xs=xs.take (m+1):=by
    rw [ht,trimL_of_nrm]
    rw [take_last (by rw [u.len];omega)]
    simpa [Nrm] using hnz
   rw [this,List.length_take,u.len,Nat.min_eq_left (by omega)]
   simp
 ·simp at hp
  subst hp
  refine ⟨by omega,by omega, ?_,rfl⟩
  rw [ht]
  rfl
def IsN (h:Heap) (A:Option Addr) (n c v:Nat):Prop:= ∃ xs,U32 h A n c xs/\val xs=v
def NmN (h:Heap) (A:Option Addr) (n c v:Nat):Prop:= ∃ xs,U32 h A n c xs/\val xs=v/\Nrm xs
theorem NmN.is {h:Heap} {A:Option Addr} {n c v:Nat} (u:NmN h A n c v):IsN h A n c v:=let ⟨xs,a,b,_⟩:=u;⟨xs,a,b⟩
theorem IsN.mono {h h' : Heap} {A:Option Addr} {n c v:Nat} (u:IsN h A n c v) (l:Le h h'):IsN h' A n c v:=let ⟨xs,a,b⟩:=u;⟨xs,a.mono l,b⟩
theorem NmN.mono {h h' : Heap} {A:Option Addr} {n c v:Nat} (u:NmN h A n c v) (l:Le h h'):NmN h' A n c v:=let ⟨xs,a,b,d⟩:=u;⟨xs,a.mono l,b,d⟩
theorem NmN.len_le {h:Heap} {A:Option Addr} {n c v k:Nat} (u:NmN h A n c v) (hv:v<B32^k):n<=k:=by
 obtain ⟨xs,a,rfl,d⟩:=u
 rw [<- a.len]
 exact nrm_len d hv
theorem NmN.zero_iff {h:Heap} {A:Option Addr} {n c v:Nat} (u:NmN h A n c v):n=0↔v=0:=by
 obtain ⟨xs,a,rfl,d⟩:=u
 constructor
 ·intro e
  have:xs=[]:=List.eq_nil_of_length_eq_zero (by rw [a.len,e])
  rw [this]
  rfl
 ·intro e
  rw [<- a.len,nrm_zero d e]
  rfl
theorem U32.val_lt {h:Heap} {A:Option Addr} {n c:Nat} {xs:List Nat} (u:U32 h A n c xs):val xs<B32^n:=by
 rw [<- u.len];exact Vcg.val_lt u.lt
theorem IsN.lt {h:Heap} {A:Option Addr} {n c v:Nat} (u:IsN h A n c v):v<B32^n:=by
 obtain ⟨xs,a,rfl⟩:=u
 exact U32.val_lt a
theorem trim_n {h:Heap} {A:Option Addr} {n c v:Nat} (u:IsN h A n c v) (hn:n<=4611686018427387904) :
  CallsU Tryz.prog 132 [.slice A n c] h fun r h' => ∃ m,r = .slice A m c/\m<=n/\NmN h A m c v/\h=h' := by
 obtain ⟨xs,a,rfl⟩:=u
 refine (trim_c a hn).mono ?_
 rintro _ _ ⟨rfl,rfl⟩
 have hle:=trimL_le xs
 refine ⟨_,rfl,by rw [<- a.len];exact hle,⟨trimL xs, ?_,trimL_val xs,trimL_nrm xs⟩,rfl⟩
 have:=a.take (m:=(trimL xs).length) (by rw [<- a.len];exact hle)
 rwa [<- trimL_take] at this
theorem of_c (n:Nat) (hn:n<18446744073709551616) (h:Heap) :
  CallsU Tryz.prog 138 [.int .u64 n] h fun r h' => ∃ A m c,r = .slice A m c/\m<=2/\NmN h' A m c n/\Le h h' := by
 apply natural_Of_ok
 rintro _ rfl g h1 hg rfl
 have e1:IntKind.u32.wrap (n:Int)=((n%B32:Nat):Int):=by rw [wrap_u32_mod];unfold B32;omega
 have e2:IntKind.u32.wrap (Int.fdiv (n:Int) (2^(32:Nat)))=((n/B32:Nat):Int):=by
  rw [Int.fdiv_eq_ediv_of_nonneg _ (by decide)]
  have:((2:Int)^(32:Nat))=4294967296:=by decide
  rw [this,wrap_u32 (by omega) (by omega)]
  unfold B32
  omega
 rw [e1,e2]
 have hb:(h.put g ⟨[lv (n%B32),lv (n/B32)],166,(0,0)⟩) g=some ⟨[n%B32,n/B32].map lv,166,(0,0)⟩:=by rw [Heap.put_same];rfl
 have hlt : ∀ x∈[n%B32,n/B32],x<4294967296:=by
  intro x hx
  simp only [List.mem_cons,List.not_mem_nil,or_false] at hx
  unfold B32 at hx
  rcases hx with rfl | rfl<;>omega
 have u:=U32.of_blk (m:=2) (k:=2) hb hlt (by simp) (by omega)
 have hv:val ([n%B32,n/B32].take 2)=n:=by
  simp only [List.take_succ_cons,List.take_zero,val,Nat.mul_zero,Nat.add_zero]
  exact Nat.mod_add_div n B32
 refine (trim_n ⟨_,u,hv⟩ (by omega)).mono ?_
 rintro _ _ ⟨m,rfl,hm,hN,rfl⟩
 exact ⟨_,_,_,rfl,_,_,_,rfl,hm,hN,Le.new hg _⟩
theorem setSeg_all (a b:List Value) (hl:a.length=b.length):setSeg a 0 b=b:=by
 unfold setSeg
 simp [<- hl]
theorem norm_c {h:Heap} {A:Option Addr} {n c v:Nat} (u:IsN h A n c v) (hn:n<=35184372088832) :
  CallsU Tryz.prog 207 [.slice A n c] h fun r h' => ∃ A' m c', r = .slice A' m c' /\ m<=n/\NmN h' A' m c' v/\Le h h' := by
 apply natural_Norm_ok
 refine (trim_n u (by omega)).mono ?_
 rintro _ _ ⟨m,rfl,hm,⟨xs,a,hv,hN⟩,rfl⟩
 refine ⟨_,_,_,rfl,by omega,by omega,by omega,by omega, ?_⟩
 rintro g h2 hg rfl
 simp only [Int.toNat_natCast,Nat.min_self,Nat.mul_one]
 have l1:=Le.new hg ⟨repV [Value.int .u32 0] m,166,(0,0)⟩
 have a' := a.mono l1
 have hr:=a'.rds
 rw [Nat.mul_one] at hr
 refine ⟨_,hr,lv_one _,fun h0=> ?_,fun hp=> ?_⟩
 ·subst h0
  have hx:xs=[]:=List.eq_nil_of_length_eq_zero a.len
  subst hx
  exact ⟨_,_,_,rfl,Nat.zero_le _,⟨[],U32.nil _ _ _,hv,hN⟩,l1⟩
 ·refine ⟨_,_,rfl,rfl,Heap.put_same _ _ _,rfl,by simp [repV_length'], ?_⟩
  rintro h3 rfl
  refine ⟨_,_,_,rfl,hm,⟨xs, ?_,hv,hN⟩,l1.put hg _⟩
  have hs:setSeg (repV [Value.int .u32 0] m) 0 (xs.map lv)=xs.map lv:=setSeg_all _ _ (by rw [repV_length', List.length_map,a.len])
  have hb:(((h.put g ⟨repV [Value.int .u32 0] m,166,(0,0)⟩).put g ⟨setSeg (repV [Value.int .u32 0] m) 0 (xs.map lv),166,(0,0)⟩):Heap) g=some ⟨xs.map lv,166,(0,0)⟩:=by
   rw [Heap.put_same,hs]
  have:=U32.of_blk (m:=m) (k:=m) hb a.lt (by rw [a.len];exact Nat.le_refl _) (Nat.le_refl _)
  rwa [List.take_of_length_le (by rw [a.len];exact Nat.le_refl _)] at this
theorem wi {a:Int} {n:Nat} (h:a=n) (hn:n<9223372036854775808):IntKind.i64.wrap a=n:=by rw [h];exact wrap_i64 (by omega) (by omega)
theorem wu {a:Int} {n:Nat} (h:a=n) (hn:n<18446744073709551616):IntKind.u64.wrap a=n:=by rw [h];exact wrap_u64 (by omega) (by omega)
theorem w32 {a:Int} {n:Nat} (h:a=n):IntKind.u32.wrap a=((n%B32:Nat):Int):=by rw [h,wrap_u32_mod];unfold B32;omega
theorem fdivB {a:Int} {n:Nat} (h:a=n):Int.fdiv a (2^(32:Nat))=((n/B32:Nat):Int):=by
 rw [h,Int.fdiv_eq_ediv_of_nonneg _ (by decide)]
 have:((2:Int)^(32:Nat))=4294967296:=by decide
 rw [this]
 unfold B32
 omega
theorem ld_own {h:Heap} {g ty i:Nat} {fz:Nat×Nat} {rs:List Nat} (hb:h g=some ⟨rs.map lv,ty,fz⟩) (hi:i<rs.length):LdN h (Addr.add ⟨g,0,none⟩ (i*1)) [lv (rs.getD i 0)]:=by
 rw [Nat.mul_one]
 refine ld_of (ad:=⟨g,0,none⟩) rfl hb ?_
 simp [hi]
theorem st_own {h:Heap} {g ty i:Nat} {rs:List Nat} {v:Value} (y:Nat) {K:Heap->Prop} (hb:h g=some ⟨rs.map lv,ty,(0,0)⟩) (hi:i<rs.length) (hv:v=lv y)
  (hk:K (h.put g ⟨(rs.set i y).map lv,ty,(0,0)⟩)) :
  ∃ b:Blk,h (Addr.block (Addr.add ⟨g,0,none⟩ (i*1)))=some b/\b.fz=(0,0)/\Addr.spot (Addr.add ⟨g,0,none⟩ (i*1))=none/\Addr.off (Addr.add ⟨g,0,none⟩ (i*1))+1<=b.cells.length/\
   ∀ h' : Heap,h' = Heap.put h (Addr.block (Addr.add ⟨g,0,none⟩ (i*1))) { b with cells:=setSeg b.cells (Addr.off (Addr.add ⟨g,0,none⟩ (i*1))) [v] }->K h' := by
 rw [Nat.mul_one,addr_block,addr_off,addr_spot _ _ rfl]
 refine ⟨_,hb,rfl,rfl,by simp;omega, ?_⟩
 rintro h' rfl
 subst hv
 simp only [Nat.zero_add]
 rw [setSeg_one rs i y hi]
 exact hk
theorem take_set_ge {rs:List Nat} {i j y:Nat} (h:i<=j):(rs.set j y).take i=rs.take i:=List.take_set_of_le h
theorem val_take_succ {xs:List Nat} {k:Nat} (h:k<xs.length):val (xs.take (k+1))=val (xs.take k)+B32^k*xs.getD k 0:=by
 rw [take_last h,val_append,List.length_take,Nat.min_eq_left (by omega)]
 simp [val]
theorem val_split {xs:List Nat} {k:Nat} (h:k<=xs.length):val xs=val (xs.take k)+B32^k*val (xs.drop k):=by
 have:=val_append (xs.take k) (xs.drop k)
 rw [List.take_append_drop,List.length_take,Nat.min_eq_left h] at this
 exact this
theorem lt_of_len {xs ys:List Nat} (hx : ∀ x∈xs,x<B32) (ny:Nrm ys) (hl:xs.length<ys.length):val xs<val ys:=by
 have h1:=val_lt hx
 have h2:=nrm_val_pos ny (fun e=>by rw [e] at hl;simp at hl)
 have h3:B32^xs.length<=B32^(ys.length-1):=Nat.pow_le_pow_right (by decide) (by omega)
 omega
theorem lt_at {xs ys:List Nat} {k:Nat} (hx : ∀ x∈xs,x<B32) (hkx:k<xs.length) (hky:k<ys.length) (hd:xs.drop (k+1)=ys.drop (k+1)) (hlt:xs.getD k 0<ys.getD k 0):val xs<val ys:=by
 rw [val_split (k:=k+1) hkx,val_split (xs:=ys) (k:=k+1) hky,val_take_succ hkx,val_take_succ hky,hd]
 have h1:val (xs.take k)<B32^k:=by
  have:=val_lt (l:=xs.take k) fun x h=>hx x (List.mem_of_mem_take h)
  rwa [List.length_take,Nat.min_eq_left (by omega)] at this
 have h2:B32^k*(xs.getD k 0+1)<=B32^k*ys.getD k 0:=Nat.mul_le_mul_left _ hlt
 rw [Nat.mul_add] at h2
 omega
theorem cmpI_lt {x y:Nat} (h:x<y):cmpI x y = -1:=by unfold cmpI;rw [if_pos (by omega)]
theorem cmpI_gt {x y:Nat} (h:y<x):cmpI x y=1:=by unfold cmpI;rw [if_neg (by omega),if_pos (by omega)]
theorem cmpI_eq (x:Nat):cmpI x x=0:=by unfold cmpI;rw [if_neg (by omega),if_neg (by omega)]
theorem cmpI_zero {x y:Nat} (h:cmpI x y=0):x=y:=by
 rcases Nat.lt_trichotomy x y with q | q | q
 ·rw [cmpI_lt q] at h;cases h
 ·exact q
 ·rw [cmpI_gt q] at h;cases h
theorem drop_succ_eq {xs ys:List Nat} {k:Nat} (hkx:k<xs.length) (hky:k<ys.length) (he:xs.getD k 0=ys.getD k 0) (hd:xs.drop (k+1)=ys.drop (k+1)):xs.drop k=ys.drop k:=by
 rw [List.drop_eq_getElem_cons hkx,List.drop_eq_getElem_cons hky,hd]
 simp [hkx,hky] at he
 rw [he]
theorem cmp_c {h:Heap} {A B:Option Addr} {n c m d x y:Nat} (ux:IsN h A n c x) (uy:IsN h B m d y) (hn:n<=1099511627776) (hm:m<=1099511627776) :
  CallsU Tryz.prog 140 [.slice A n c,.slice B m d] h fun v h' => v = .int .i64 (cmpI x y)/\h=h' := by
 apply natural_Cmp_ok
 refine (trim_n ux (by omega)).mono ?_
 rintro _ _ ⟨n', rfl,hn', ⟨xs,a,hx,nx⟩,rfl⟩
 refine ⟨_,_,_,rfl,(trim_n uy (by omega)).mono ?_⟩
 rintro _ _ ⟨m', rfl,hm', ⟨ys,b,hy,ny⟩,rfl⟩
 refine ⟨_,_,_,rfl,(compare_int _ _ _).mono ?_⟩
 rintro _ _ ⟨rfl,rfl⟩
 have la:=a.len
 have lb:=b.len
 subst hx hy
 refine ⟨_,rfl,Br.mk (fun hne=>⟨?_,rfl⟩) (fun heq=> ?_)⟩
 ·rcases Nat.lt_trichotomy n' m' with q | q | q
  ·rw [cmpI_lt q,cmpI_lt (lt_of_len a.lt ny (by omega))]
  ·subst q;rw [cmpI_eq] at hne;simp at hne
  ·rw [cmpI_gt q,cmpI_gt (lt_of_len b.lt nx (by omega))]
 ·have hnm:n' = m' := cmpI_zero (by simpa using heq)
  subst hnm
  rintro _ rfl
  rw [wrap_i64 (by omega) (by omega)]
  refine ⟨fun k i h' => h' = h/\i=(k:Int)-1/\k<=n' /\ xs.drop k=ys.drop k,⟨n', rfl,rfl,Nat.le_refl _,by rw [List.drop_of_length_le (by omega),List.drop_of_length_le (by omega)]⟩, ?_⟩
  rintro k i h' ⟨rfl,rfl,hk,hd⟩
  refine Br.mk (fun hp=> ?_) (fun hp=>⟨?_,rfl⟩)
  ·simp at hp
   obtain ⟨k,rfl⟩ : ∃ q,k=q+1:=⟨k-1,by omega⟩
   have e1:((k+1:Nat):Int)-1=(k:Int):=by omega
   rw [e1]
   obtain ⟨ad,hA,hl⟩:=a.get (i:=k) (by omega)
   obtain ⟨ad', hB,hl'⟩:=b.get (i:=k) (by omega)
   refine ⟨ad,hA,by omega,by omega,_,hl,ad', hB,by omega,by omega,_,hl', (compare_u32 _ _ _).mono ?_⟩
   rintro _ _ ⟨rfl,rfl⟩
   refine ⟨_,rfl,Br.mk (fun hne=>⟨?_,rfl⟩) (fun heq=> ?_)⟩
   ·rcases Nat.lt_trichotomy (xs.getD k 0) (ys.getD k 0) with q | q | q
    ·rw [cmpI_lt q,cmpI_lt (lt_at a.lt (by omega) (by omega) hd q)]
    ·rw [q,cmpI_eq] at hne;simp at hne
    ·rw [cmpI_gt q,cmpI_gt (lt_at b.lt (by omega) (by omega) hd.symm q)]
   ·rintro _ rfl
    rw [wrap_i64 (by omega) (by omega)]
    exact ⟨k,by omega,rfl,rfl,by omega,drop_succ_eq (by omega) (by omega) (cmpI_zero (by simpa using heq)) hd⟩
  ·simp at hp
   have hk0:k=0:=by omega
   subst hk0
   simp only [List.drop_zero] at hd
   rw [hd,cmpI_eq]
theorem set_append_mid (rs zs:List Nat) (y z:Nat):(rs++z::zs).set rs.length y=rs++y::zs:=by
 rw [List.set_append_right _ _ (Nat.le_refl _)]
 simp
theorem val_snoc (rs:List Nat) (y:Nat):val (rs++[y])=val rs+B32^rs.length*y:=by rw [val_append];simp [val]
theorem getD_ge {xs:List Nat} {k:Nat} (h:xs.length<=k):xs.getD k 0=0:=by simp [h]
theorem val_take_succ' (xs:List Nat) (k:Nat):val (xs.take (k+1))=val (xs.take k)+B32^k*xs.getD k 0:=by
 rcases Nat.lt_or_ge k xs.length with h | h
 ·exact val_take_succ h
 ·rw [getD_ge h,List.take_of_length_le h,List.take_of_length_le (by omega)];simp
theorem step_add (X Y r p x y c q t:Nat) (h:r+p*c=X+Y) (ht:c+x+y=t) (hq:q=p*B32):(r+p*(t%B32))+q*(t/B32)=(X+p*x)+(Y+p*y):=by
 have:=Nat.mod_add_div t B32
 subst hq
 grind
theorem app_own {h:Heap} {g ty k cap:Nat} {rs zs:List Nat} {z y:Nat} {v:Value} {K1:Heap->Prop} {g1:Nat} (hg1:h g1=none) (hb:h g=some ⟨(rs++z::zs).map lv,ty,(0,0)⟩) (hk:rs.length=k)
  (hcap:k+1<=cap) (hv:v=lv y) {P2:List Value->Prop} (hk1:K1 ((h.put g1 ⟨[v],ty,(0,0)⟩).put g ⟨(rs++y::zs).map lv,ty,(0,0)⟩)) :
  ∃ xs:List Value,RdS (h.put g1 ⟨[v],ty,(0,0)⟩) (some ⟨g1,0,none⟩) (1*1) xs/\(∀ x∈xs,Go.Vcg.one x=true)/\
   (k+1<=cap-> ∃ (ad:Addr) (b:Blk),some (⟨g,0,none⟩:Addr)=some ad/\ad.spot=none/\(h.put g1 ⟨[v],ty,(0,0)⟩) ad.block=some b/\b.fz=(0,0)/\ad.off+k*1+1*1<=b.cells.length/\
    ∀ h' : Heap,h' = Heap.put (h.put g1 ⟨[v],ty,(0,0)⟩) ad.block { b with cells:=setSeg b.cells (ad.off+k*1) xs }->K1 h')/\
   (cap<k+1->P2 xs):=by
 subst hv
 have hne:g≠g1:=fun e=>by rw [e,hg1] at hb;cases hb
 refine ⟨[lv y],⟨rfl,fun _=>⟨_,rfl,rfl,_,Heap.put_same _ _ _,rfl⟩⟩,fun x hx=>by simp at hx;subst hx;rfl,fun _=>⟨_,_,rfl,rfl,(Heap.put_ne _ _ hne).trans hb,rfl,by simp;omega, ?_⟩,fun hc=>by omega⟩
 rintro h' rfl
 simp only [Nat.zero_add,Nat.mul_one]
 rw [setSeg_one _ _ _ (by simp;omega),<- hk,set_append_mid]
 exact hk1
theorem rep_cons {n:Nat} (h:0<n):List.replicate n 0=0::List.replicate (n-1) (0:Nat):=by
 obtain ⟨m,rfl⟩ : ∃ q,n=q+1:=⟨n-1,by omega⟩
 rfl
theorem mem_snoc {rs:List Nat} {y b:Nat} (h : ∀ x∈rs,x<b) (hy:y<b) : ∀ x∈rs++[y],x<b:=by
 intro x hx
 rcases List.mem_append.1 hx with q | q
 ·exact h x q
 ·simp at q;omega
theorem add_c {h:Heap} {A B:Option Addr} {n c m d x y:Nat} (ux:IsN h A n c x) (uy:IsN h B m d y) (hn:n<=1099511627776) (hm:m<=1099511627776) :
  CallsU Tryz.prog 142 [.slice A n c,.slice B m d] h fun r h' => ∃ A' k c', r = .slice A' k c' /\ NmN h' A' k c' (x+y)/\Le h h' := by
 apply natural_Add_ok
 refine (trim_n ux (by omega)).mono ?_
 rintro _ _ ⟨n', rfl,hn', ⟨xs,a,hx,nx⟩,rfl⟩
 refine ⟨_,_,_,rfl,(trim_n uy (by omega)).mono ?_⟩
 rintro _ _ ⟨m', rfl,hm', ⟨ys,b,hy,ny⟩,rfl⟩
 refine ⟨_,_,_,rfl,fun aA an ac bA bn bc h' => h=h' /\ ∃ xs ys,U32 h aA an ac xs/\U32 h bA bn bc ys/\val xs+val ys=x+y/\bn<=an/\an<=1099511627776, ?_,
  Br.mk (fun q=>⟨rfl,ys,xs,b,a,by omega,by simp at q;omega,by omega⟩) (fun q=>⟨rfl,xs,ys,a,b,by omega,by simp at q;omega,by omega⟩)⟩
 clear a b nx ny hx hy xs ys
 rintro aA an ac bA bn bc h3 ⟨rfl,xs,ys,a,b,hv,hle,hb40⟩
 rintro _ rfl
 rw [wi (n:=an+1) (by omega) (by omega)]
 refine ⟨by omega,by omega,by omega,by omega, ?_⟩
 rintro g h4 hg rfl
 simp only [Int.toNat_natCast]
 have la:=a.len
 have lb:=b.len
 refine ⟨fun m rA rn rc carry i h' => ∃ (k cN:Nat) (rs:List Nat),m=an-k/\k<=an/\rA=some ⟨g,0,none⟩/\k=rn/\rc=an+1/\carry=(cN:Int)/\i=(k:Int)/\rs.length=k/\(∀ x∈rs,x<B32)/\cN<B32/\
   h' g=some ⟨(rs++List.replicate (an+1-k) 0).map lv,166,(0,0)⟩/\Le h h' /\ val rs+B32^k*cN=val (xs.take k)+val (ys.take k),
  ⟨an,0,0,[],rfl,by omega,rfl,rfl,rfl,rfl,rfl,rfl,fun _ q=>(by cases q),by decide,by rw [Heap.put_same,repV_lv];rfl,Le.new hg _,by simp [val]⟩, ?_⟩
 rintro _ _ _ _ _ _ h5 ⟨k,cN,rs,rfl,hk,rfl,rfl,rfl,rfl,rfl,hrl,hrs,hc,hb,hl,hval⟩
 refine Br.mk (fun q=> ?_) (fun q=> ?_)
 ·have q' : k<an:=by simpa using q
  have hbx:=(a.mono hl).getD_lt k
  have hby:=(b.mono hl).getD_lt k
  obtain ⟨ad,hA,hld⟩:=(a.mono hl).get (i:=k) q'
  refine ⟨ad,hA,by omega,by omega,_,hld, ?_⟩
  rintro _ rfl
  rw [wu (a:=((xs.getD k 0:Nat):Int)) rfl (by omega),wu (n:=cN+xs.getD k 0) (by omega) (by unfold B32 at hc;omega)]
  refine ⟨fun carry h' => h5=h' /\ carry=((cN+xs.getD k 0+ys.getD k 0:Nat):Int), ?_,Br.mk (fun q2=> ?_) (fun q2=> ?_)⟩
  ·rintro _ h6 ⟨rfl,rfl⟩
   rintro g1 h7 hg1 rfl
   have hrep:=rep_cons (n:=an+1-k) (by omega)
   rw [hrep] at hb
   refine app_own (y:=(cN+xs.getD k 0+ys.getD k 0)%B32) hg1 hb hrl (by omega) (by rw [w32 rfl]) ?_
   rintro _ rfl _ rfl
   rw [fdivB rfl,wi (n:=k+1) (by omega) (by omega)]
   have hg0:h g=none:=hg
   refine ⟨an-(k+1),by omega,k+1,(cN+xs.getD k 0+ys.getD k 0)/B32,rs++[(cN+xs.getD k 0+ys.getD k 0)%B32],rfl,by omega,rfl,rfl,rfl,rfl,rfl,by simp [hrl],
    mem_snoc hrs (Nat.mod_lt _ (by decide)), ?_, ?_,(hl.trans (Le.new hg1 _)).put hg0 _, ?_⟩
   ·unfold B32 at hc ⊢;omega
   ·rw [Heap.put_same]
    have:an+1-(k+1)=an+1-k-1:=by omega
    rw [this]
    simp
   ·rw [val_snoc,hrl,val_take_succ', val_take_succ']
    exact step_add _ _ _ _ _ _ _ _ _ hval rfl (by rw [Nat.pow_succ])
  ·have q2' : k<bn:=by simpa using q2
   obtain ⟨ad', hB,hld'⟩:=(b.mono hl).get (i:=k) q2'
   refine ⟨ad', hB,by omega,by omega,_,hld', ?_⟩
   rintro _ rfl
   rw [wu (a:=((ys.getD k 0:Nat):Int)) rfl (by omega),wu (n:=cN+xs.getD k 0+ys.getD k 0) (by omega) (by unfold B32 at hc;omega)]
   exact ⟨rfl,rfl⟩
  ·have q2' : bn<=k:=by simpa using q2
   exact ⟨rfl,by rw [getD_ge (xs:=ys) (by omega)];simp⟩
 ·have hka:k=an:=by have:an<=k:=(by simpa using q);omega
  subst hka
  rintro g1 h7 hg1 rfl
  have hrep:=rep_cons (n:=k+1-k) (by omega)
  rw [hrep] at hb
  refine app_own (y:=cN) hg1 hb hrl (by omega) (by rw [w32 rfl,Nat.mod_eq_of_lt hc]) ?_
  have hg0:h g=none:=hg
  have hz:k+1-k-1=0:=by omega
  have l2:Le h ((h5.put g1 ⟨[Value.int .u32 (IntKind.u32.wrap (cN:Int))],166,(0,0)⟩).put g ⟨(rs++cN::List.replicate (k+1-k-1) 0).map lv,166,(0,0)⟩):=(hl.trans (Le.new hg1 _)).put hg0 _
  have hblk:((h5.put g1 ⟨[Value.int .u32 (IntKind.u32.wrap (cN:Int))],166,(0,0)⟩).put g ⟨(rs++cN::List.replicate (k+1-k-1) 0).map lv,166,(0,0)⟩) g=some ⟨(rs++[cN]).map lv,166,(0,0)⟩:=by
   rw [Heap.put_same,hz];rfl
  have u:=U32.of_blk (m:=k+1) (k:=k+1) hblk (mem_snoc hrs hc) (by simp [hrl]) (Nat.le_refl _)
  rw [List.take_of_length_le (by simp [hrl])] at u
  have hv2:val (rs++[cN])=x+y:=by
   rw [val_snoc,hrl,hval,List.take_of_length_le (by omega),List.take_of_length_le (by omega)]
   exact hv
  refine (trim_n ⟨_,u,hv2⟩ (by omega)).mono ?_
  rintro _ _ ⟨m2,rfl,hm2,hN,rfl⟩
  exact ⟨_,_,_,rfl,_,_,_,rfl,hN,l2⟩
theorem mul_le_lt {a b c d:Nat} (h1:a<=c) (h2:b<=d):a*b<=c*d:=Nat.mul_le_mul h1 h2
theorem limb_bound {x y r c:Nat} (hx:x<B32) (hy:y<B32) (hr:r<B32) (hc:c<B32):c+(x*y+r)<B32*B32:=by
 have h1:x*y<=(B32-1)*(B32-1):=mul_le_lt (by omega) (by omega)
 have h2:(B32-1)*(B32-1)=18446744065119617025:=by decide
 unfold B32 at *
 omega
theorem mul_step (X r p x y q rk c t Y pi:Nat) (h:r+p*c=X+pi*x*Y) (ht:c+(x*y+rk)=t) (hq:q=p*B32) (pk:Nat) (hp:p=pi*pk) :
  (r+p*(t%B32))+q*(t/B32)=(X+p*rk)+pi*x*(Y+pk*y):=by
 have:=Nat.mod_add_div t B32
 subst hq hp
 grind
theorem getD_set_ne {rs:List Nat} {i j y:Nat} (h:i≠j):(rs.set i y).getD j 0=rs.getD j 0:=by
 simp [List.getElem?_set_ne h]
theorem getD_set_eq {rs:List Nat} {i y:Nat} (h:i<rs.length):(rs.set i y).getD i 0=y:=by
 simp [h]
theorem mem_set {rs:List Nat} {i y b:Nat} (h : ∀ x∈rs,x<b) (hy:y<b) : ∀ x∈rs.set i y,x<b:=by
 intro x hx
 rcases List.mem_or_eq_of_mem_set hx with q | q
 ·exact h x q
 ·omega
theorem getD_lt {rs:List Nat} {b:Nat} (h : ∀ x∈rs,x<b) (hb:0<b) (i:Nat):rs.getD i 0<b:=by
 rcases Nat.lt_or_ge i rs.length with q | q
 ·simp [q];exact h _ (List.getElem_mem _)
 ·simp [q];exact hb
theorem getD_drop {rs rs' : List Nat} {k j:Nat} (h:rs.drop k=rs'.drop k) (hj:k<=j):rs.getD j 0=rs'.getD j 0:=by
 have:rs[j]?=rs'[j]?:=by
  have:=congrArg (fun l=>l[j-k]?) h
  simp only [List.getElem?_drop] at this
  rwa [show k+(j-k)=j from by omega] at this
 simp [List.getD_eq_getElem?_getD,this]
theorem drop_set {rs:List Nat} {i y k:Nat} (h:i<k):(rs.set i y).drop k=rs.drop k:=List.drop_set_of_lt h
theorem mul_c {h:Heap} {A B:Option Addr} {n c m d x y:Nat} (ux:IsN h A n c x) (uy:IsN h B m d y) (hn:n<=1099511627776) (hm:m<=1099511627776) :
  CallsU Tryz.prog 84 [.slice A n c,.slice B m d] h fun r h' => ∃ A' k c', r = .slice A' k c' /\ NmN h' A' k c' (x*y)/\Le h h' := by
 apply natural_Mul_ok
 refine (trim_n ux (by omega)).mono ?_
 rintro _ _ ⟨n', rfl,hn', ⟨xs,a,hx,nx⟩,rfl⟩
 refine ⟨_,_,_,rfl,(trim_n uy (by omega)).mono ?_⟩
 rintro _ _ ⟨m', rfl,hm', ⟨ys,b,hy,ny⟩,rfl⟩
 refine ⟨_,_,_,rfl, ?_⟩
 subst hx hy
 have la:=a.len
 have lb:=b.len
 rintro _ rfl
 rw [wi (n:=n' + m') (by omega) (by omega)]
 refine ⟨by omega,by omega,by omega,by omega, ?_⟩
 rintro g h4 hg rfl
 simp only [Int.toNat_natCast]
 refine ⟨fun m i h' => ∃ (k:Nat) (rs:List Nat),m=n' - k/\k<=n' /\ i=(k:Int)/\rs.length=n' + m' /\ (∀ x∈rs,x<B32)/\(∀ j,k+m' <= j->rs.getD j 0=0)/\
   h' g=some ⟨rs.map lv,166,(0,0)⟩/\Le h h' /\ val (rs.take (k+m'))=val (xs.take k)*val ys,
  ⟨n', 0,List.replicate (n' + m') 0,rfl,by omega,rfl,by simp,fun x hx=>by rw [List.mem_replicate] at hx;rw [hx.2];decide,fun j _=>by simp [List.getElem?_replicate];split<;>rfl,
   by rw [Heap.put_same,repV_lv],Le.new hg _,by rw [List.take_replicate,val_zeros];simp [val]⟩, ?_⟩
 rintro _ _ h5 ⟨k,rs,rfl,hk,rfl,hrl,hrs,hz,hb,hl,hval⟩
 refine Br.mk (fun q=> ?_) (fun q=> ?_)
 ·have q' : k<n' := by simpa using q
  obtain ⟨ad,hA,hld⟩:=(a.mono hl).get (i:=k) q'
  refine ⟨ad,hA,by omega,by omega,_,hld, ?_⟩
  have hxk:=a.getD_lt k
  refine ⟨fun m2 carry i2 h' => ∃ (j cN:Nat) (ss:List Nat),m2=m' - j/\j<=m' /\ i2=(j:Int)/\carry=(cN:Int)/\cN<B32/\ss.length=n' + m' /\ (∀ x∈ss,x<B32)/\ss.drop (k+j)=rs.drop (k+j)/\
    h' g=some ⟨ss.map lv,166,(0,0)⟩/\Le h h' /\ val (ss.take (k+j))+B32^(k+j)*cN=val (rs.take (k+j))+B32^k*xs.getD k 0*val (ys.take j),
   ⟨m', 0,0,rs,rfl,by omega,rfl,rfl,by decide,hrl,hrs,rfl,hb,hl,by simp [val]⟩, ?_⟩
  rintro _ _ _ h6 ⟨j,cN,ss,rfl,hj,rfl,rfl,hc,hsl,hss,hdrop,hb6,hl6,hv6⟩
  refine Br.mk (fun q2=> ?_) (fun q2=> ?_)
  ·have q2' : j<m' := by simpa using q2
   obtain ⟨ad', hB,hld'⟩:=(b.mono hl6).get (i:=j) q2'
   refine ⟨ad', hB,by omega,by omega,_,hld', ?_⟩
   have hyj:=b.getD_lt j
   have hsk:ss.getD (k+j) 0<B32:=getD_lt hss (by decide) _
   have hbd:=limb_bound (x:=xs.getD k 0) (y:=ys.getD j 0) hxk hyj hsk hc
   have hbd2:B32*B32=18446744073709551616:=by decide
   rintro _ rfl _ rfl
   rw [wu (a:=((xs.getD k 0:Nat):Int)) rfl (by omega),wu (a:=((ys.getD j 0:Nat):Int)) rfl (by omega),wu (n:=xs.getD k 0*ys.getD j 0) (by rw [Int.natCast_mul]) (by omega),wi (n:=k+j) (by omega) (by omega)]
   simp only [Int.toNat_natCast]
   refine ⟨_,rfl,by omega,by omega,_,ld_own hb6 (by omega), ?_⟩
   rintro _ rfl _ rfl _ rfl
   rw [wu (a:=((ss.getD (k+j) 0:Nat):Int)) rfl (by unfold B32 at hsk;omega),wu (a:=((xs.getD k 0*ys.getD j 0:Nat):Int)+((ss.getD (k+j) 0:Nat):Int)) (n:=xs.getD k 0*ys.getD j 0+ss.getD (k+j) 0) (Int.natCast_add _ _).symm (by omega),
    wu (n:=cN+(xs.getD k 0*ys.getD j 0+ss.getD (k+j) 0)) (Int.natCast_add _ _).symm (by omega)]
   generalize ht:cN+(xs.getD k 0*ys.getD j 0+ss.getD (k+j) 0)=t at hbd ⊢
   refine ⟨_,rfl,by omega,by omega,st_own (t%B32) hb6 (by omega) (by rw [w32 rfl]) ?_⟩
   rintro _ rfl _ rfl
   rw [fdivB rfl,wi (n:=j+1) (by omega) (by omega)]
   refine ⟨m' - (j+1),by omega,j+1,t/B32,ss.set (k+j) (t%B32),rfl,by omega,rfl,rfl,Nat.div_lt_of_lt_mul hbd,by simp [hsl],mem_set hss (Nat.mod_lt _ (by decide)), ?_,Heap.put_same _ _ _,hl6.put hg _, ?_⟩
   ·rw [drop_set (by omega)]
    have:=congrArg (List.drop 1) hdrop
    simpa [List.drop_drop,Nat.add_assoc] using this
   ·rw [<- Nat.add_assoc,val_take_succ (by simp;omega),take_set_ge (Nat.le_refl _),getD_set_eq (by omega),val_take_succ (xs:=rs) (by omega),val_take_succ (xs:=ys) (by omega),<- getD_drop hdrop (Nat.le_refl _)]
    exact mul_step _ _ _ _ _ _ _ _ _ _ _ hv6 ht (by rw [Nat.pow_succ]) (B32^j) (by rw [Nat.pow_add])
  ·have hjm:j=m' := by have:m' <= j:=(by simpa using q2);omega
   subst hjm
   rintro _ rfl
   rw [wi (n:=k+j) (by omega) (by omega)]
   simp only [Int.toNat_natCast]
   refine ⟨_,rfl,by omega,by omega,st_own cN hb6 (by omega) (by rw [w32 rfl,Nat.mod_eq_of_lt hc]) ?_⟩
   rintro _ rfl
   rw [wi (n:=k+1) (by omega) (by omega)]
   refine ⟨n' - (k+1),by omega,k+1,ss.set (k+j) cN,rfl,by omega,rfl,by simp [hsl],mem_set hss hc,fun i hi=> ?_,Heap.put_same _ _ _,hl6.put hg _, ?_⟩
   ·rw [getD_set_ne (by omega),getD_drop hdrop (by omega)]
    exact hz i (by omega)
   ·have e:k+1+j=k+j+1:=by omega
    rw [e,val_take_succ (by simp;omega),take_set_ge (Nat.le_refl _),getD_set_eq (by omega),hv6,hval,val_take_succ (xs:=xs) (by omega),List.take_of_length_le (l:=ys) (by omega)]
    grind
 ·have hka:k=n' := by have:n' <= k:=(by simpa using q);omega
  subst hka
  have u:=U32.of_blk (m:=k+m') (k:=k+m') hb hrs (by omega) (Nat.le_refl _)
  have hv2:val (rs.take (k+m'))=val xs*val ys:=by rw [hval,List.take_of_length_le (by omega)]
  refine (trim_n ⟨_,u,hv2⟩ (by omega)).mono ?_
  rintro _ _ ⟨m2,rfl,hm2,hN,rfl⟩
  exact ⟨_,_,_,rfl,_,_,_,rfl,hN,hl⟩
theorem or64 {x y:Int} {hi lo:Nat} (hx:x=((hi*B32:Nat):Int)) (hy:y=(lo:Int)) (hlo:lo<B32) (hhi:hi<B32):bitsOf .or .u64 x y=((hi*B32+lo:Nat):Int):=by
 subst hx hy
 have hb:hi*B32+lo<18446744073709551616:=by unfold B32 at *;omega
 have e:hi*B32 ||| lo=hi*B32+lo:=by
  have:=Nat.two_pow_add_eq_or_of_lt (i:=32) (b:=lo) (by simpa [B32] using hlo) hi
  rw [Nat.mul_comm] at this
  exact this.symm
 show IntKind.u64.wrap ((BitVec.ofInt 64 ((hi*B32:Nat):Int) ||| BitVec.ofInt 64 (lo:Int)).toNat:Int)=_
 rw [BitVec.toNat_or,BitVec.ofInt_natCast,BitVec.ofInt_natCast,BitVec.toNat_ofNat,BitVec.toNat_ofNat,Nat.mod_eq_of_lt (by omega),Nat.mod_eq_of_lt (by omega),e]
 exact wu rfl hb
theorem shlB {a:Int} {n:Nat} (h:a=n) (hn:n<B32):IntKind.u64.wrap (a*2^(32:Nat))=((n*B32:Nat):Int):=by
 have e:((2:Int)^(32:Nat))=((B32:Nat):Int):=by decide
 rw [h,e,<- Int.natCast_mul]
 exact wu rfl (by unfold B32 at *;omega)
theorem or64_zero {x y:Int} {hi lo:Nat} (hx:x=(lo:Int)) (hy:y=((hi*B32:Nat):Int)) (hlo:lo<B32) (hhi:hi<B32):bitsOf .or .u64 x y=((hi*B32+lo:Nat):Int):=by
 subst hx hy
 have:=or64 (hi:=hi) (lo:=lo) rfl rfl hlo hhi
 rw [<- this]
 show IntKind.u64.wrap ((BitVec.ofInt 64 (lo:Int) ||| BitVec.ofInt 64 ((hi*B32:Nat):Int)).toNat:Int)=IntKind.u64.wrap ((BitVec.ofInt 64 ((hi*B32:Nat):Int) ||| BitVec.ofInt 64 (lo:Int)).toNat:Int)
 rw [BitVec.or_comm]
theorem tdivN {a b:Int} {x y:Nat} (ha:a=x) (hb:b=y):Int.tdiv a b=((x/y:Nat):Int):=by subst ha hb;exact (Int.ofNat_tdiv x y).symm
theorem tmodN {a b:Int} {x y:Nat} (ha:a=x) (hb:b=y):Int.tmod a b=((x%y:Nat):Int):=by subst ha hb;exact (Int.ofNat_tmod x y).symm
theorem val_drop_cons {xs:List Nat} {k:Nat} (h:k<xs.length):val (xs.drop k)=xs.getD k 0+B32*val (xs.drop (k+1)):=by
 rw [List.drop_eq_getElem_cons h]
 simp [val,h]
theorem div_step (q x d r t:Nat) (X:Nat) (h:q*d+r=X) (ht:r*B32+x=t):(t/d+B32*q)*d+t%d=x+B32*X:=by
 have:=Nat.div_add_mod t d
 grind
theorem short_c {h:Heap} {A:Option Addr} {n c x:Nat} (ux:IsN h A n c x) (hn:n<=1099511627776) {d:Nat} (hd0:0<d) (hd:d<B32) :
  CallsU Tryz.prog 133 [.slice A n c,.int .u32 d] h fun r h' => ∃ A' k c', r = .tuple #[.slice A' k c', .int .u32 ((x%d:Nat):Int)]/\NmN h' A' k c' (x/d)/\Le h h' := by
 apply natural_short_ok
 obtain ⟨xs,a,rfl⟩:=ux
 have la:=a.len
 refine ⟨by omega,by omega,by omega,by omega, ?_⟩
 rintro g h1 hg rfl _ rfl
 simp only [Int.toNat_natCast]
 rw [wrap_i64 (by omega) (by omega)]
 refine ⟨fun m r i h' => ∃ (rN:Nat) (qs:List Nat),i=(m:Int)-1/\m<=n/\r=(rN:Int)/\rN<d/\qs.length=n/\(∀ x∈qs,x<B32)/\h' g=some ⟨qs.map lv,166,(0,0)⟩/\Le h h' /\ val (qs.drop m)*d+rN=val (xs.drop m),
  ⟨n,0,List.replicate n 0,rfl,by omega,rfl,hd0,by simp,fun x hx=>by rw [List.mem_replicate] at hx;rw [hx.2];decide,by rw [Heap.put_same,repV_lv],Le.new hg _,by rw [List.drop_of_length_le (by simp),List.drop_of_length_le (by omega)];simp [val]⟩, ?_⟩
 rintro m _ _ h2 ⟨rN,qs,rfl,hm,rfl,hr,hql,hqs,hb,hl,hval⟩
 refine Br.mk (fun q=> ?_) (fun q=> ?_)
 ·have q' : 1<=m:=by simp at q;omega
  obtain ⟨k,rfl⟩ : ∃ k,m=k+1:=⟨m-1,by omega⟩
  have e1:((k+1:Nat):Int)-1=(k:Int):=by omega
  rw [e1]
  simp only [Int.toNat_natCast]
  have hxk:=a.getD_lt k
  have hdw:IntKind.u64.wrap (d:Int)=(d:Int):=wu rfl (by unfold B32 at hd;omega)
  rintro _ rfl
  rw [shlB rfl (by omega)]
  obtain ⟨ad,hA,hld⟩:=(a.mono hl).get (i:=k) (by omega)
  refine ⟨ad,hA,by omega,by omega,_,hld, ?_⟩
  rintro _ rfl
  rw [or64 rfl (wu rfl (by omega)) hxk (by omega),hdw]
  generalize ht:rN*B32+xs.getD k 0=t
  have htb:t<d*B32:=by
   have:(rN+1)*B32<=d*B32:=Nat.mul_le_mul_right _ hr
   unfold B32 at *
   omega
  refine Br.mk (fun q2=>by simp at q2;omega) (fun _=> ?_)
  rintro _ rfl
  rw [tdivN rfl rfl]
  have hq:t/d<B32:=Nat.div_lt_of_lt_mul htb
  rw [wu (n:=t/d) rfl (by unfold B32 at hq;omega)]
  refine ⟨_,rfl,by omega,by omega,st_own (t/d) hb (by omega) (by rw [w32 rfl,Nat.mod_eq_of_lt hq]) ?_⟩
  refine Br.mk (fun q2=>by simp at q2;omega) (fun _=> ?_)
  rintro _ rfl _ rfl
  rw [tmodN rfl rfl,wrap_i64 (by omega) (by omega)]
  refine ⟨k,by omega,t%d,qs.set k (t/d),rfl,by omega,rfl,Nat.mod_lt _ hd0,by simp [hql],mem_set hqs hq,Heap.put_same _ _ _,hl.put hg _, ?_⟩
  rw [val_drop_cons (by simp;omega),getD_set_eq (by omega),drop_set (by omega),val_drop_cons (xs:=xs) (by omega)]
  exact div_step _ _ _ _ _ _ hval ht
 ·have hm0:m=0:=by simp at q;omega
  subst hm0
  simp only [List.drop_zero] at hval
  have hq:val qs=val xs/d:=by rw [<- hval,Nat.mul_comm,Nat.mul_add_div hd0,Nat.div_eq_of_lt hr,Nat.add_zero]
  have hrm:rN=val xs%d:=by rw [<- hval,Nat.mul_comm,Nat.mul_add_mod,Nat.mod_eq_of_lt hr]
  have u:=U32.of_blk (m:=n) (k:=n) hb hqs (by omega) (Nat.le_refl _)
  rw [List.take_of_length_le (by omega)] at u
  refine (trim_n ⟨_,u,hq⟩ (by omega)).mono ?_
  rintro _ _ ⟨m2,rfl,hm2,hN,rfl⟩
  refine ⟨_,_,_,rfl,_,_,_, ?_,hN,hl⟩
  rw [w32 rfl,Nat.mod_eq_of_lt (by omega),hrm]
theorem shl_s {a:Int} {x sN:Nat} (ha:a=x) (hx:x<B32) (hs' : sN<32):IntKind.u64.wrap (a*2^(min sN 64:Nat))=((x*2^sN:Nat):Int):=by
 subst ha
 rw [Nat.min_eq_left (by omega)]
 have e:((2:Int)^sN)=((2^sN:Nat):Int):=by simp
 rw [e,<- Int.natCast_mul]
 refine wu rfl ?_
 have h1:2^sN<=2^31:=Nat.pow_le_pow_right (by decide) (by omega)
 have h2:x*2^sN<=(B32-1)*2^31:=Nat.mul_le_mul (by omega) h1
 have h3:(B32-1)*2^31=9223372034707292160:=by decide
 omega
theorem or32_disj {x y:Int} {a b k:Nat} (hx:x=(a:Int)) (hy:y=((b*2^k:Nat):Int)) (ha:a<2^k) (hb:b*2^k<B32) (hk:a<B32):bitsOf .or .u32 x y=((b*2^k+a:Nat):Int):=by
 subst hx hy
 have e:b*2^k ||| a=b*2^k+a:=by
  have:=Nat.two_pow_add_eq_or_of_lt (i:=k) (b:=a) ha b
  rw [Nat.mul_comm] at this
  exact this.symm
 have hsum:b*2^k+a<B32:=by
  rw [<- e]
  exact Nat.or_lt_two_pow (n:=32) (by simpa [B32] using hb) (by simpa [B32] using hk)
 show IntKind.u32.wrap ((BitVec.ofInt 32 (a:Int) ||| BitVec.ofInt 32 ((b*2^k:Nat):Int)).toNat:Int)=_
 unfold B32 at *
 rw [BitVec.toNat_or,BitVec.ofInt_natCast,BitVec.ofInt_natCast,BitVec.toNat_ofNat,BitVec.toNat_ofNat,Nat.mod_eq_of_lt (by omega),Nat.mod_eq_of_lt (by omega),Nat.or_comm,e]
 exact wrap_u32 (by omega) (by omega)
theorem left_step (L X p P x t q:Nat) (h:L=X*P) (ht:x*P=t) (r c2:Nat) (hr:L=r+p*c2) (hq:q=p*B32):(r+p*(t%B32+c2))+q*(t/B32)=(X+p*x)*P:=by
 have:=Nat.mod_add_div t B32
 subst hq
 grind
theorem getD_of_drop (ls:List Nat) (k j:Nat):(ls.drop k).getD j 0=ls.getD (k+j) 0:=by
 rw [List.getD_eq_getElem?_getD,List.getD_eq_getElem?_getD,List.getElem?_drop]
theorem mod_pow_mul (x sN:Nat) (h:sN<=32):(x*2^sN)%B32=(x%2^(32-sN))*2^sN:=by
 have e:B32=2^(32-sN)*2^sN:=by rw [<- Nat.pow_add,show 32-sN+sN=32 from by omega];rfl
 rw [e,Nat.mul_mod_mul_right]
theorem div_pow_lt {x sN:Nat} (hx:x<B32):x*2^sN/B32<2^sN:=by
 apply Nat.div_lt_of_lt_mul
 exact Nat.mul_lt_mul_of_pos_right hx (Nat.pow_pos (by decide))
theorem left_c {h:Heap} {A:Option Addr} {n c:Nat} {xs:List Nat} (a:U32 h A n c xs) (hn:n<=1099511627776) {sN:Nat} (hs:sN<32) :
  CallsU Tryz.prog 209 [.slice A n c,.int .i64 sN] h fun r h' => ∃ (g:Nat) (ls:List Nat),r = .slice (some ⟨g,0,none⟩) (n+1) (n+1)/\h g=none/\
   h' = h.put g ⟨ls.map lv,166,(0,0)⟩/\ls.length=n+1/\(∀ x∈ls,x<B32)/\val ls=val xs*2^sN:=by
 apply natural_left_ok
 have la:=a.len
 have hp:2^sN<=2147483648:=Nat.pow_le_pow_right (n:=2) (by decide) (by omega:sN<=31)
 have hp0:0<2^sN:=Nat.pow_pos (by decide)
 rintro _ rfl
 rw [wi (n:=n+1) (by omega) (by omega)]
 refine ⟨by omega,by omega,by omega,by omega, ?_⟩
 rintro g h1 hg rfl
 simp only [Int.toNat_natCast]
 refine ⟨fun m i h' => ∃ (k:Nat) (rs:List Nat),m=n-k/\k<=n/\i=(k:Int)/\rs.length=n+1/\(∀ x∈rs,x<B32)/\(∀ j,k+1<=j->rs.getD j 0=0)/\rs.getD k 0<2^sN/\
   h' = h.put g ⟨rs.map lv,166,(0,0)⟩/\val (rs.take (k+1))=val (xs.take k)*2^sN,
  ⟨n,0,List.replicate (n+1) 0,rfl,by omega,rfl,by simp,fun x hx=>by rw [List.mem_replicate] at hx;rw [hx.2];decide,fun j _=>by simp [List.getElem?_replicate];split<;>rfl,by simp;exact hp0,
   by rw [repV_lv],by rw [List.take_replicate,val_zeros];simp [val]⟩, ?_⟩
 rintro _ _ _ ⟨k,rs,rfl,hk,rfl,hrl,hrs,hz,hck,rfl,hval⟩
 have hb:(h.put g ⟨rs.map lv,166,(0,0)⟩) g=some ⟨rs.map lv,166,(0,0)⟩:=Heap.put_same _ _ _
 have hl:Le h (h.put g ⟨rs.map lv,166,(0,0)⟩):=Le.new hg _
 refine Br.mk (fun q=> ?_) (fun q=> ?_)
 ·have q' : k<n:=by simpa using q
  obtain ⟨ad,hA,hld⟩:=(a.mono hl).get (i:=k) q'
  have hxk:=a.getD_lt k
  refine ⟨ad,hA,by omega,by omega,_,hld,Br.mk (fun q2=>by simp at q2;omega) (fun _=> ?_)⟩
  rintro _ rfl
  rw [shl_s (x:=xs.getD k 0) (wu rfl (by omega)) hxk hs]
  simp only [Int.toNat_natCast]
  refine ⟨_,rfl,by omega,by omega,_,ld_own hb (by omega), ?_⟩
  rintro _ rfl
  generalize ht:xs.getD k 0*2^sN=t
  have hmod:t%B32=(xs.getD k 0%2^(32-sN))*2^sN:=by rw [<- ht];exact mod_pow_mul _ _ (by omega)
  have hlt:=Nat.mod_lt t (show 0<B32 by decide)
  rw [or32_disj (a:=rs.getD k 0) (b:=xs.getD k 0%2^(32-sN)) (k:=sN) rfl (by rw [w32 rfl,hmod]) hck (by rw [<- hmod];exact hlt) (by unfold B32;omega),<- hmod]
  have hsum:t%B32+rs.getD k 0<B32:=by
   rw [hmod]
   have e:B32=2^(32-sN)*2^sN:=by rw [<- Nat.pow_add,show 32-sN+sN=32 from by omega];rfl
   have h1:xs.getD k 0%2^(32-sN)<2^(32-sN):=Nat.mod_lt _ (Nat.pow_pos (by decide))
   have h2:(xs.getD k 0%2^(32-sN)+1)*2^sN<=2^(32-sN)*2^sN:=Nat.mul_le_mul_right _ h1
   rw [<- e,Nat.add_mul] at h2
   omega
  refine ⟨_,rfl,by omega,by omega,st_own (t%B32+rs.getD k 0) hb (by omega) rfl ?_⟩
  rintro _ rfl _ rfl
  rw [wi (n:=k+1) (by omega) (by omega),fdivB rfl]
  simp only [Int.toNat_natCast]
  have hdl:t/B32<2^sN:=by rw [<- ht];exact div_pow_lt hxk
  have hdB:t/B32<B32:=Nat.lt_of_lt_of_le hdl (Nat.le_trans hp (by decide))
  have hb2:((h.put g ⟨rs.map lv,166,(0,0)⟩).put g ⟨(rs.set k (t%B32+rs.getD k 0)).map lv,166,(0,0)⟩) g=some ⟨(rs.set k (t%B32+rs.getD k 0)).map lv,166,(0,0)⟩:=Heap.put_same _ _ _
  refine ⟨_,rfl,by omega,by omega,st_own (t/B32) hb2 (by simp;omega) (by rw [w32 rfl,Nat.mod_eq_of_lt hdB]) ?_⟩
  rintro _ rfl
  refine ⟨n-(k+1),by omega,k+1,(rs.set k (t%B32+rs.getD k 0)).set (k+1) (t/B32),rfl,by omega,rfl,by simp [hrl],mem_set (mem_set hrs hsum) hdB,fun j hj=> ?_, ?_, ?_, ?_⟩
  ·rw [getD_set_ne (by omega),getD_set_ne (by omega)];exact hz j (by omega)
  ·rw [getD_set_eq (by simp;omega)];exact hdl
  ·funext j
   simp only [Heap.put]
   split<;>rfl
  ·rw [val_take_succ (by simp;omega),take_set_ge (Nat.le_refl _),getD_set_eq (by simp;omega),val_take_succ (by simp;omega),take_set_ge (Nat.le_refl _),getD_set_eq (by omega),val_take_succ (xs:=xs) (by omega)]
   rw [val_take_succ (by omega)] at hval
   exact left_step _ _ _ _ _ _ _ hval ht _ _ rfl (by rw [Nat.pow_succ])
 ·have hkn:k=n:=by have:n<=k:=(by simpa using q);omega
  subst hkn
  refine ⟨g,rs,rfl,hg,rfl,hrl,hrs, ?_⟩
  rw [List.take_of_length_le (by omega),List.take_of_length_le (by omega)] at hval
  exact hval
theorem shr_s {a:Int} {x sN:Nat} (ha:a=x) (hs' : sN<64):Int.fdiv a (2^(min sN 64:Nat))=((x/2^sN:Nat):Int):=by
 subst ha
 rw [Nat.min_eq_left (by omega)]
 have e:((2:Int)^sN)=((2^sN:Nat):Int):=by simp
 rw [e,Int.fdiv_eq_ediv_of_nonneg _ (Int.natCast_nonneg _)]
 rfl
theorem right_limb (x y D s:Nat) (hx:x<B32) (hs:s<=32):(x+B32*(y+B32*D))/2^s=((x+B32*y)/2^s)%B32+B32*((y+B32*D)/2^s):=by
 have hp:0<2^s:=Nat.pow_pos (by decide)
 have e:B32=2^(32-s)*2^s:=by rw [<- Nat.pow_add,show 32-s+s=32 from by omega];rfl
 have h1:(x+B32*(y+B32*D))/2^s/B32=(y+B32*D)/2^s:=by
  rw [Nat.div_div_eq_div_mul,Nat.mul_comm (2^s) B32,<- Nat.div_div_eq_div_mul,Nat.add_mul_div_left x (y+B32*D) (show 0<B32 by decide),Nat.div_eq_of_lt hx,Nat.zero_add]
 have h2:(x+B32*(y+B32*D))/2^s%B32=((x+B32*y)/2^s)%B32:=by
  have:x+B32*(y+B32*D)=(x+B32*y)+2^s*(B32*(2^(32-s)*D)):=by
   have:B32*(B32*D)=2^s*(B32*(2^(32-s)*D)):=by
    conv=>lhs;rw [e]
    conv=>rhs;rw [e]
    grind
   rw [Nat.mul_add,this];omega
  rw [this,Nat.add_mul_div_left _ _ hp,Nat.add_mul_mod_self_left]
 have:=Nat.mod_add_div ((x+B32*(y+B32*D))/2^s) B32
 rw [h1,h2] at this
 omega
theorem right_step (r p l T T0 q:Nat) (h:r+p*(l+B32*T)=T0) (hq:q=p*B32):(r+p*l)+q*T=T0:=by subst hq;grind
theorem right_c {h:Heap} {A:Option Addr} {n c x:Nat} (ux:IsN h A n c x) (hn:n<=1099511627776) {sN:Nat} (hs:sN<32) :
  CallsU Tryz.prog 211 [.slice A n c,.int .i64 sN] h fun r h' => ∃ A' k c', r = .slice A' k c' /\ NmN h' A' k c' (x/2^sN)/\Le h h' := by
 apply natural_right_ok
 obtain ⟨xs,a,rfl⟩:=ux
 have la:=a.len
 refine ⟨by omega,by omega,by omega,by omega, ?_⟩
 rintro g h1 hg rfl
 simp only [Int.toNat_natCast]
 refine ⟨fun m i h' => ∃ (k:Nat) (rs:List Nat),m=n-k/\k<=n/\i=(k:Int)/\rs.length=n/\(∀ x∈rs,x<B32)/\h' g=some ⟨rs.map lv,166,(0,0)⟩/\Le h h' /\
   val (rs.take k)+B32^k*(val (xs.drop k)/2^sN)=val xs/2^sN,
  ⟨n,0,List.replicate n 0,rfl,by omega,rfl,by simp,fun x hx=>by rw [List.mem_replicate] at hx;rw [hx.2];decide,by rw [Heap.put_same,repV_lv],Le.new hg _,by simp [val]⟩, ?_⟩
 rintro _ _ h2 ⟨k,rs,rfl,hk,rfl,hrl,hrs,hb,hl,hval⟩
 refine Br.mk (fun q=> ?_) (fun q=> ?_)
 ·have q' : k<n:=by simpa using q
  obtain ⟨ad,hA,hld⟩:=(a.mono hl).get (i:=k) q'
  have hxk:=a.getD_lt k
  have hxk1:=a.getD_lt (k+1)
  refine ⟨ad,hA,by omega,by omega,_,hld, ?_⟩
  rintro _ rfl
  rw [wi (n:=k+1) (by omega) (by omega)]
  have fin : ∀ t:Nat,t=(xs.getD k 0+B32*xs.getD (k+1) 0)/2^sN->(∃ ad_2:Addr,some (⟨g,0,none⟩:Addr)=some ad_2/\0<=(k:Int)/\(k:Int)<(n:Int)/\
    ∃ b:Blk,h2 (Addr.block (Addr.add ad_2 (k*1)))=some b/\b.fz=(0,0)/\Addr.spot (Addr.add ad_2 (k*1))=none/\Addr.off (Addr.add ad_2 (k*1))+1<=b.cells.length/\
    ∀ h_3:Heap,h_3=Heap.put h2 (Addr.block (Addr.add ad_2 (k*1))) { b with cells:=setSeg b.cells (Addr.off (Addr.add ad_2 (k*1))) [Value.int .u32 (IntKind.u32.wrap (t:Int))] }->
    ∀ t42:Int,t42=((k+1:Nat):Int)-> ∃ m_1,m_1<n-k/\ ∃ (k:Nat) (rs:List Nat),m_1=n-k/\k<=n/\t42=(k:Int)/\rs.length=n/\(∀ x∈rs,x<B32)/\h_3 g=some ⟨rs.map lv,166,(0,0)⟩/\Le h h_3/\
     val (rs.take k)+B32^k*(val (xs.drop k)/2^sN)=val xs/2^sN):=by
   intro t ht
   refine ⟨_,rfl,by omega,by omega,st_own (t%B32) hb (by omega) (by rw [w32 rfl]) ?_⟩
   rintro _ rfl
   refine ⟨n-(k+1),by omega,k+1,rs.set k (t%B32),rfl,by omega,rfl,by simp [hrl],mem_set hrs (Nat.mod_lt _ (by decide)),Heap.put_same _ _ _,hl.put hg _, ?_⟩
   rw [val_take_succ (by simp;omega),take_set_ge (Nat.le_refl _),getD_set_eq (by omega)]
   rw [val_drop_cons (xs:=xs) (by omega)] at hval
   have hlimb:(xs.getD k 0+B32*val (xs.drop (k+1)))/2^sN=t%B32+B32*(val (xs.drop (k+1))/2^sN):=by
    rcases Nat.lt_or_ge (k+1) n with hk1 | hk1
    ·rw [val_drop_cons (xs:=xs) (k:=k+1) (by omega),ht]
     exact right_limb _ _ _ _ hxk (by omega)
    ·have h0:xs.drop (k+1)=[]:=List.drop_of_length_le (by omega)
     have hg0:xs.getD (k+1) 0=0:=getD_ge (by omega)
     have:=right_limb (xs.getD k 0) 0 0 sN hxk (by omega)
     rw [h0,ht,hg0]
     simpa [val] using this
   rw [hlimb] at hval
   exact right_step _ _ _ _ _ _ hval (by rw [Nat.pow_succ])
  refine Br.mk (fun q2=> ?_) (fun q2=> ?_)
  ·have q2' : k+1<n:=by simp at q2;omega
   rintro _ rfl
   simp only [Int.toNat_natCast]
   obtain ⟨ad', hA', hld'⟩:=(a.mono hl).get (i:=k+1) q2'
   refine ⟨ad', hA', by omega,by omega,_,hld', ?_⟩
   rintro _ rfl _ rfl
   rw [shlB (n:=xs.getD (k+1) 0) (wu rfl (by omega)) hxk1,or64_zero (hi:=xs.getD (k+1) 0) (lo:=xs.getD k 0) (wu rfl (by omega)) rfl hxk hxk1]
   refine Br.mk (fun q3=>by simp at q3;omega) (fun _=> ?_)
   rintro _ rfl
   rw [shr_s rfl (by omega)]
   exact fin _ (by rw [Nat.mul_comm B32,Nat.add_comm])
  ·have q2' : n<=k+1:=by simp at q2;omega
   refine Br.mk (fun q3=>by simp at q3;omega) (fun _=> ?_)
   rintro _ rfl
   rw [wu (n:=xs.getD k 0) rfl (by omega),shr_s rfl (by omega)]
   simp only [Int.toNat_natCast]
   exact fin _ (by rw [getD_ge (k:=k+1) (by omega)];simp)
 ·have hkn:k=n:=by have:n<=k:=(by simpa using q);omega
  subst hkn
  have u:=U32.of_blk (m:=k) (k:=k) hb hrs (by omega) (Nat.le_refl _)
  rw [List.drop_of_length_le (by omega)] at hval
  have hv2:val (rs.take k)=val xs/2^sN:=by simpa [val] using hval
  refine (trim_n ⟨_,u,hv2⟩ (by omega)).mono ?_
  rintro _ _ ⟨m2,rfl,hm2,hN,rfl⟩
  exact ⟨_,_,_,rfl,_,_,_,rfl,hN,hl⟩
end Go.Proofs.YtfglcgbgaeegaaaGreatDoor
