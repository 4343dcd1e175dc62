/-
  What only computes or loads gives the same wherever it is run.
-/
import Derived.Test.YtfhipkdcekffaaaGreatDoorVcg12
namespace Go.Vcg
open Go

section
variable {P : Program} {nt : Nat} {mb vis : Nat → Bool} {K : St → Prop}

/-- The value of an operation that only computes or loads; it is the same in every state that agrees where it looks. -/
def Again (P : Program) (nt : Nat) (vis mb : Nat → Bool) (see : Bool) (o : Oper) (st : St) (v : SV) : Prop :=
  ∀ (st' : St) (see' : Bool) (K' : St → Prop), (∀ x ∈ o.op.operands.toList, ev st' x = ev st x) → (isLoad o.op = true → (∀ i, i < st.nb → st'.B i = st.B i) ∧ st.nb ≤ st'.nb) →
    (isLoad o.op = true → see = true → see' = true ∧ st'.h = st.h) → K' (putO st' o.dst v) → opV P nt vis mb see' o st' K'

theorem putK_get {d : Option Nat} {v : SV} {st : St} (h : putK nt d v st K) : K (putO st d v) ∧ ∀ (st' : St) (K' : St → Prop), K' (putO st' d v) → putK nt d v st' K' := by
  cases d with
  | none => exact ⟨h, fun _ _ h => h⟩
  | some d =>
    simp only [putK] at h ⊢
    split at h
    · exact ⟨h, fun _ _ h => h⟩
    · exact h.elim

theorem arith_get {k k' : IntKind} {z : Int} {F : Value → Prop} (h : arith k k' z F) : F (.int k z) ∧ ∀ G : Value → Prop, G (.int k z) → arith k k' z G := by
  unfold arith at *
  split at h
  · exact ⟨h _ rfl, fun G hg x e => by rw [e]; exact hg⟩
  · exact h.elim

theorem comp_get {k k' : IntKind} {b : Bool} {F : Value → Prop} (h : comp k k' b F) : F (.bool b) ∧ ∀ G : Value → Prop, G (.bool b) → comp k k' b G := by
  unfold comp at *
  split at h
  · exact ⟨h, fun G hg => hg⟩
  · exact h.elim

theorem binR_get {op : BinOp} {t : TypeId} {x y : Value} {F : Value → Prop} (h : binR P op t x y F) : ∃ z, F z ∧ ∀ G : Value → Prop, G z → binR P op t x y G := by
  cases x <;> cases y <;> simp only [binR] at h ⊢ <;> try exact h.elim
  case int.int k a k' b =>
    cases op <;> simp only at h ⊢
    case shl => obtain ⟨e, h⟩ := br_false h; exact ⟨_, h _ rfl, fun G hg => by rw [e]; exact fun z q => by rw [q]; exact hg⟩
    case shr => obtain ⟨e, h⟩ := br_false h; exact ⟨_, h _ rfl, fun G hg => by rw [e]; exact fun z q => by rw [q]; exact hg⟩
    case quo => obtain ⟨e, h⟩ := br_false h; obtain ⟨h1, h2⟩ := arith_get h; exact ⟨_, h1, fun G hg => by rw [e]; exact h2 G hg⟩
    case rem => obtain ⟨e, h⟩ := br_false h; obtain ⟨h1, h2⟩ := arith_get h; exact ⟨_, h1, fun G hg => by rw [e]; exact h2 G hg⟩
    all_goals first | (obtain ⟨h1, h2⟩ := arith_get h; exact ⟨_, h1, h2⟩) | (obtain ⟨h1, h2⟩ := comp_get h; exact ⟨_, h1, h2⟩)
  case bool.bool a b =>
    split at h
    · rename_i hb
      cases op <;> simp only at h ⊢ <;> first | exact h.elim | exact ⟨_, h, fun G hg => hg⟩
    · exact h.elim
  case string.string a b =>
    cases op <;> simp only at h ⊢ <;> first | exact h.elim | exact ⟨_, h, fun G hg => hg⟩ | exact ⟨_, h.2, fun G hg => ⟨h.1, hg⟩⟩

theorem unR_get {op : UnOp} {x : Value} {F : Value → Prop} (h : unR op x F) : ∃ z, F z ∧ ∀ G : Value → Prop, G z → unR op x G := by
  cases op <;> cases x <;> simp only [unR] at h ⊢ <;> first | exact h.elim | exact ⟨_, h, fun G hg => hg⟩ | exact ⟨_, h _ rfl, fun G hg z e => by rw [e]; exact hg⟩

theorem convR_get {s d : TypeId} {x : Value} {F : Value → Prop} (h : convR P s d x F) : ∃ z, F z ∧ ∀ G : Value → Prop, G z → convR P s d x G := by
  unfold convR at *
  split at h
  · exact ⟨_, h, fun G hg => hg⟩
  · exact ⟨_, h, fun G hg => hg⟩
  · exact h.elim

theorem boundR_get {x : Option Value} {d lo hi : Nat} {F : Nat → Prop} (h : boundR x d lo hi F) : ∃ z, F z ∧ ∀ G : Nat → Prop, G z → boundR x d lo hi G := by
  cases x with
  | none => exact ⟨_, h, fun G hg => hg⟩
  | some v => cases v <;> simp only [boundR] at h ⊢ <;> first | exact h.elim | exact ⟨_, h.2.2, fun G hg => ⟨h.1, h.2.1, hg⟩⟩

theorem sliceR_get {t : TypeId} {x : Value} {lo hi : Option Value} {F : Value → Prop} (h : sliceR P t x lo hi F) : ∃ z, F z ∧ ∀ G : Value → Prop, G z → sliceR P t x lo hi G := by
  unfold sliceR at *
  split at h
  · obtain ⟨a, h, h1⟩ := boundR_get h
    obtain ⟨b, h, h2⟩ := boundR_get h
    exact ⟨_, h, fun G hg => h1 _ (h2 _ hg)⟩
  · split at h
    · split at h
      · obtain ⟨a, h, h1⟩ := boundR_get h
        exact ⟨_, h, fun G hg => h1 _ hg⟩
      · obtain ⟨a, h, h1⟩ := boundR_get h
        obtain ⟨b, h, h2⟩ := boundR_get h
        exact ⟨_, h, fun G hg => h1 _ (h2 _ hg)⟩
    · exact h.elim
  · exact h.elim

theorem partR_get {t : TypeId} {cs : List Value} {off : Nat} {F : Value → Prop} (h : partR P t cs off F) : ∃ z, F z ∧ ∀ G : Value → Prop, G z → partR P t cs off G := by
  unfold partR at *
  split at h
  · rename_i ag n _ _
    split at h
    · cases ag <;> simp only at h ⊢
      · split at h
        · exact ⟨_, h, fun G hg => hg⟩
        · exact h.elim
      · exact ⟨_, h, fun G hg => hg⟩
    · exact h.elim
  · exact h.elim

theorem evs_congr {st st' : St} : ∀ (l : List Operand), (∀ x ∈ l, ev st' x = ev st x) → evs st' l = evs st l
  | [], _ => rfl
  | x :: r, h => by simp only [evs]; rw [h x (by simp), evs_congr r fun y hy => h y (by simp [hy])]

theorem partsV_congr {st st' : St} : ∀ (l : List (Nat × Operand)), (∀ x ∈ l, ev st' x.2 = ev st x.2) → partsV st' l = partsV st l
  | [], _ => rfl
  | (i, x) :: r, h => by simp only [partsV]; rw [h (i, x) (by simp), partsV_congr r fun y hy => h y (by simp [hy])]

theorem exL_shape : ∀ (ss : List Sh) {F : List Value → Prop}, exL ss F → ∃ vs, (∀ G : List Value → Prop, G vs → exL ss G) ∧ F vs
  | [], F, h => ⟨[], fun _ hg => hg, h⟩
  | sh :: r, F, h => by
    cases sh with
    | int k => obtain ⟨n, h⟩ := h; obtain ⟨vs, hl, hF⟩ := exL_shape r h; exact ⟨_, fun G hg => ⟨n, hl _ hg⟩, hF⟩
    | bool => obtain ⟨n, h⟩ := h; obtain ⟨vs, hl, hF⟩ := exL_shape r h; exact ⟨_, fun G hg => ⟨n, hl _ hg⟩, hF⟩
    | str => obtain ⟨n, h⟩ := h; obtain ⟨vs, hl, hF⟩ := exL_shape r h; exact ⟨_, fun G hg => ⟨n, hl _ hg⟩, hF⟩
    | slice => obtain ⟨A, n, c, h⟩ := h; obtain ⟨vs, hl, hF⟩ := exL_shape r h; exact ⟨_, fun G hg => ⟨A, n, c, hl _ hg⟩, hF⟩
    | ptr => obtain ⟨n, h⟩ := h; obtain ⟨vs, hl, hF⟩ := exL_shape r h; exact ⟨_, fun G hg => ⟨n, hl _ hg⟩, hF⟩

set_option maxHeartbeats 1000000 in
theorem still_ev {see : Bool} {o : Oper} {st : St} (hs : (pureOp o.op || isLoad o.op) = true) (h : opV P nt vis mb see o st K) : ∃ v, K (putO st o.dst v) ∧ Again P nt vis mb see o st v := by
  obtain ⟨dst, op, type, pos, after, guard⟩ := o
  cases op <;> simp only [opV] at h <;> try exact h.elim
  case move x =>
    split at h
    · rename_i u hx
      obtain ⟨h1, h2⟩ := putK_get h
      refine ⟨u, h1, fun st' see' K' he _ _ hk => ?_⟩
      simp only [opV, he x (by simp [Op.operands]), hx]
      exact h2 _ _ hk
    · exact h.elim
  case assign x =>
    split at h
    · rename_i u hx
      obtain ⟨h1, h2⟩ := putK_get h
      refine ⟨u, h1, fun st' see' K' he _ _ hk => ?_⟩
      simp only [opV, he x (by simp [Op.operands]), hx]
      exact h2 _ _ hk
    · exact h.elim
  case pick c x y =>
    split at h
    · rename_i t hc
      cases t with
      | true =>
        simp only [Br] at h
        split at h
        · rename_i u hx
          obtain ⟨h1, h2⟩ := putK_get h
          refine ⟨u, h1, fun st' see' K' he _ _ hk => ?_⟩
          simp only [opV, he c (by simp [Op.operands]), he x (by simp [Op.operands]), hc, hx, Br]
          exact h2 _ _ hk
        · exact h.elim
      | false =>
        simp only [Br] at h
        split at h
        · rename_i u hx
          obtain ⟨h1, h2⟩ := putK_get h
          refine ⟨u, h1, fun st' see' K' he _ _ hk => ?_⟩
          simp only [opV, he c (by simp [Op.operands]), he y (by simp [Op.operands]), hc, hx, Br]
          exact h2 _ _ hk
        · exact h.elim
    · exact h.elim
  case binOp op t x y ty =>
    split at h
    · rename_i u z hx hy
      obtain ⟨r, h, h3⟩ := binR_get h
      obtain ⟨h1, h2⟩ := putK_get h
      refine ⟨.v r, h1, fun st' see' K' he _ _ hk => ?_⟩
      simp only [opV, he x (by simp [Op.operands]), he y (by simp [Op.operands]), hx, hy]
      exact h3 _ (h2 _ _ hk)
    · exact h.elim
  case unOp op t x =>
    split at h
    · rename_i u hx
      obtain ⟨r, h, h3⟩ := unR_get h
      obtain ⟨h1, h2⟩ := putK_get h
      refine ⟨.v r, h1, fun st' see' K' he _ _ hk => ?_⟩
      simp only [opV, he x (by simp [Op.operands]), hx]
      exact h3 _ (h2 _ _ hk)
    · exact h.elim
  case convert t t' x =>
    split at h
    · rename_i u hx
      obtain ⟨r, h, h3⟩ := convR_get h
      obtain ⟨h1, h2⟩ := putK_get h
      refine ⟨.v r, h1, fun st' see' K' he _ _ hk => ?_⟩
      simp only [opV, he x (by simp [Op.operands]), hx]
      exact h3 _ (h2 _ _ hk)
    · exact h.elim
  case nilCheck x =>
    split at h
    · rename_i i off hx
      obtain ⟨h1, h2⟩ := putK_get h
      refine ⟨_, h1, fun st' see' K' he _ _ hk => ?_⟩
      simp only [opV, he x (by simp [Op.operands]), hx]
      exact h2 _ _ hk
    · rename_i p hx
      obtain ⟨h1, h2⟩ := putK_get h
      refine ⟨_, h1, fun st' see' K' he _ _ hk => ?_⟩
      simp only [opV, he x (by simp [Op.operands]), hx]
      exact h2 _ _ hk
    · exact h.elim
  case build t ps =>
    split at h
    · rename_i l hl
      split at h
      · rename_i cs hc
        obtain ⟨h1, h2⟩ := putK_get h
        refine ⟨_, h1, fun st' see' K' he _ _ hk => ?_⟩
        simp only [opV]
        rw [partsV_congr _ fun y hy => he y.2 (by simp [Op.operands]; exact ⟨y.1, by simpa using hy⟩), hl]
        simp only [hc]
        exact h2 _ _ hk
      · exact h.elim
    · exact h.elim
  case load t x =>
    split at h
    · rename_i i off ag n hx ha hn
      split at h
      · rename_i hc
        obtain ⟨h1, h2⟩ := putK_get h
        refine ⟨_, h1, fun st' see' K' he hb _ hk => ?_⟩
        obtain ⟨hb1, hb2⟩ := hb rfl
        have hlt : i < st.nb := by
          simp only [Bool.and_eq_true] at hc
          simpa [Nat.blt_eq] using hc.1
        have hlt' : Nat.blt i st'.nb = true := by simp [Nat.blt_eq]; omega
        simp only [Bool.and_eq_true] at hc
        have hB := hb1 i hlt
        simp only [opV, he x (by simp [Op.operands]), hx, ha, hn, hB, hlt', Bool.true_and]
        have hc2 := hc.2
        simp only [← Bool.and_eq_true] at hc2
        rw [hc2]
        exact h2 _ _ hk
      · exact h.elim
    · rename_i p ag n hx ha hn
      split at h
      · rename_i hc
        simp only [Bool.and_eq_true] at hc
        obtain ⟨⟨hsee, hlen⟩, hag⟩ := hc
        have key : ∃ v, K (putO st dst v) ∧ ∀ (hh : Heap) (st' : St) (K' : St → Prop), hh = st.h → K' (putO st' dst v) → exL (tyShs P 12 t) fun vs => LdN hh p vs ∧ putK nt dst (.v (valOf ag vs)) st' K' := by
          clear hlen hag
          revert h
          generalize hF : (fun vs => LdN st.h p vs ∧ putK nt dst (.v (valOf ag vs)) st K) = F
          intro h
          obtain ⟨vs, hpay, hv⟩ := exL_shape _ h
          rw [← hF] at hv
          obtain ⟨hv1, hv2⟩ := hv
          obtain ⟨h1, h2⟩ := putK_get hv2
          exact ⟨_, h1, fun hh st' K' e hk => hpay _ ⟨by rw [e]; exact hv1, h2 _ _ hk⟩⟩
        obtain ⟨v, h1, h2⟩ := key
        refine ⟨v, h1, fun st' see' K' he _ hv hk => ?_⟩
        obtain ⟨e1, e2⟩ := hv rfl hsee
        simp only [opV, he x (by simp [Op.operands]), hx, ha, hn, e1, hlen, hag, Bool.and_self]
        exact h2 _ _ _ e2 hk
      · exact h.elim
    · exact h.elim
  case fieldAddr t x i =>
    split at h
    · rename_i id off fo hx hf
      obtain ⟨h1, h2⟩ := putK_get h
      refine ⟨_, h1, fun st' see' K' he _ _ hk => ?_⟩
      simp only [opV, he x (by simp [Op.operands]), hx, hf]
      exact h2 _ _ hk
    · rename_i p fo hx hf
      obtain ⟨h1, h2⟩ := putK_get h
      refine ⟨_, h1, fun st' see' K' he _ _ hk => ?_⟩
      simp only [opV, he x (by simp [Op.operands]), hx, hf]
      exact h2 _ _ hk
    · exact h.elim
  case field t x i =>
    split at h
    · rename_i cs f hx hf
      obtain ⟨r, h, h3⟩ := partR_get h
      obtain ⟨h1, h2⟩ := putK_get h
      refine ⟨.v r, h1, fun st' see' K' he _ _ hk => ?_⟩
      simp only [opV, he x (by simp [Op.operands]), hx, hf]
      exact h3 _ (h2 _ _ hk)
    · exact h.elim
  case indexAddr t x ix =>
    split at h
    · rename_i A n c k i e hx hix hel
      split at h
      · rename_i sz hsz
        obtain ⟨ad, q1, q2, q3, h⟩ := h
        obtain ⟨h1, h2⟩ := putK_get h
        refine ⟨_, h1, fun st' see' K' he _ _ hk => ?_⟩
        simp only [opV, he x (by simp [Op.operands]), he ix (by simp [Op.operands]), hx, hix, hel, hsz]
        exact ⟨ad, q1, q2, q3, h2 _ _ hk⟩
      · exact h.elim
    · exact h.elim
  case index t x ix =>
    split at h
    · rename_i sx k i hx hix hu
      obtain ⟨b, q1, q2, h⟩ := h
      obtain ⟨h1, h2⟩ := putK_get h
      refine ⟨_, h1, fun st' see' K' he _ _ hk => ?_⟩
      simp only [opV, he x (by simp [Op.operands]), he ix (by simp [Op.operands]), hx, hix, hu]
      exact ⟨b, q1, q2, h2 _ _ hk⟩
    · exact h.elim
  case slice t x lo hi mx =>
    cases mx with
    | some _ => exact h.elim
    | none =>
      simp only at h
      split at h
      · rename_i u l q hx hl hq
        obtain ⟨r, h, h3⟩ := sliceR_get h
        obtain ⟨h1, h2⟩ := putK_get h
        refine ⟨.v r, h1, fun st' see' K' he _ _ hk => ?_⟩
        have el : evO st' lo = evO st lo := by
          cases lo with
          | none => rfl
          | some l => simp only [evO]; rw [he l (by simp [Op.operands])]
        have eh : evO st' hi = evO st hi := by
          cases hi with
          | none => rfl
          | some l => simp only [evO]; rw [he l (by simp [Op.operands])]
        simp only [opV, he x (by simp [Op.operands]), el, eh, hx, hl, hq]
        exact h3 _ (h2 _ _ hk)
      · exact h.elim
  case extract x i =>
    split at h
    · rename_i vs hx
      split at h
      · rename_i z hz
        obtain ⟨h1, h2⟩ := putK_get h
        refine ⟨_, h1, fun st' see' K' he _ _ hk => ?_⟩
        simp only [opV, he x (by simp [Op.operands]), hx, hz]
        exact h2 _ _ hk
      · exact h.elim
    · exact h.elim
  case call c =>
    obtain ⟨callee, as, ats⟩ := c
    simp only at h
    split at h
    · rename_i f args ha; cases hs
    · rename_i b args ha
      obtain ⟨z, h, h3⟩ := builtR_still hs h
      obtain ⟨h1, h2⟩ := putK_get h
      refine ⟨.v z, h1, fun st' see' K' he _ _ hk => ?_⟩
      simp only [opV]
      rw [evs_congr _ fun y hy => he y (by simp only [Op.operands, Call.operands]; simpa using hy), ha]
      exact h3 _ _ (h2 _ _ hk)
    · exact h.elim
  all_goals cases hs
end
end Go.Vcg
