/-
  Rules are monotone; an operation does not mind slots that it does not name.
-/
import Derived.Test.YtfhipkdcekffaaaGreatDoorVcg10
namespace Go.Vcg
open Go

theorem Br.mono {b : Bool} {X Y X' Y' : Prop} (h : Br b X Y) (hx : X → X') (hy : Y → Y') : Br b X' Y' := by
  cases b
  · exact hy h
  · exact hx h

theorem exL_mono : ∀ (ss : List Sh) {F G : List Value → Prop}, exL ss F → (∀ vs, F vs → G vs) → exL ss G
  | [], _, _, h, hm => hm _ h
  | sh :: r, F, G, h, hm => by
    cases sh with
    | int k => obtain ⟨n, h⟩ := h; exact ⟨n, exL_mono r h fun vs => hm _⟩
    | bool => obtain ⟨n, h⟩ := h; exact ⟨n, exL_mono r h fun vs => hm _⟩
    | str => obtain ⟨n, h⟩ := h; exact ⟨n, exL_mono r h fun vs => hm _⟩
    | slice => obtain ⟨A, n, c, h⟩ := h; exact ⟨A, n, c, exL_mono r h fun vs => hm _⟩
    | ptr => obtain ⟨n, h⟩ := h; exact ⟨n, exL_mono r h fun vs => hm _⟩

theorem exC_mono : ∀ (cs : List (Bool × List Sh)) {F G : List Value → Prop}, exC cs F → (∀ vs, F vs → G vs) → exC cs G
  | [], _, _, h, hm => hm _ h
  | (true, ss) :: r, _, _, h, hm => exL_mono ss h fun _ h => exC_mono r h fun _ => hm _
  | (false, ss) :: r, _, _, h, hm => exL_mono ss h fun _ h => exC_mono r h fun _ => hm _

section
variable {P : Program} {K K' : Value → Prop}

theorem resR_mono {t : TypeId} {v : Value} (h : resR P t v K) (hm : ∀ z, K z → K' z) : resR P t v K' := by
  unfold resR at *
  split
  · rename_i cs hc
    simp only [hc] at h
    exact exC_mono _ h fun us ⟨e, h⟩ => ⟨e, hm _ h⟩
  · rename_i cs hc
    simp only [hc] at h
    exact exC_mono _ h fun us ⟨e, h⟩ => ⟨e, hm _ h⟩
  · rename_i hc
    simp only [hc] at h

theorem arith_mono {k k' : IntKind} {z : Int} (h : arith k k' z K) (hm : ∀ z, K z → K' z) : arith k k' z K' := by
  unfold arith at *
  split
  · rename_i hd; simp only [hd] at h; exact fun x e => hm _ (h x e)
  · rename_i hd; simp only [hd] at h

theorem comp_mono {k k' : IntKind} {b : Bool} (h : comp k k' b K) (hm : ∀ z, K z → K' z) : comp k k' b K' := by
  unfold comp at *
  split
  · rename_i hd; simp only [hd] at h; exact hm _ h
  · rename_i hd; simp only [hd] at h

theorem binR_mono {op : BinOp} {t : TypeId} {x y : Value} (h : binR P op t x y K) (hm : ∀ z, K z → K' z) : binR P op t x y K' := by
  cases x <;> cases y <;> simp only [binR] at h ⊢ <;> try exact h
  case int.int k a k' b =>
    cases op <;> simp only at h ⊢
    case shl => exact h.mono id fun h z e => hm _ (h z e)
    case shr => exact h.mono id fun h z e => hm _ (h z e)
    case quo => exact h.mono id fun h => arith_mono h hm
    case rem => exact h.mono id fun h => arith_mono h hm
    all_goals first | exact arith_mono h hm | exact comp_mono h hm
  case bool.bool a b =>
    split
    · rename_i hb
      simp only [hb] at h
      cases op <;> simp only at h ⊢ <;> first | exact h | exact hm _ h
    · rename_i hb
      simp only [hb] at h
  case string.string a b =>
    cases op <;> simp only at h ⊢ <;> first | exact h | exact hm _ h | exact ⟨h.1, hm _ h.2⟩

theorem unR_mono {op : UnOp} {x : Value} (h : unR op x K) (hm : ∀ z, K z → K' z) : unR op x K' := by
  cases op <;> cases x <;> simp only [unR] at h ⊢ <;> first | exact h | exact hm _ h | exact fun z e => hm _ (h z e)

theorem convR_mono {src dst : TypeId} {x : Value} (h : convR P src dst x K) (hm : ∀ z, K z → K' z) : convR P src dst x K' := by
  unfold convR at *
  split
  · rename_i h1 h2; simp only [h1, h2] at h; exact hm _ h
  · rename_i h1 h2; simp only [h1, h2] at h; exact hm _ h
  · rename_i h1 h2
    split at h
    · rename_i a b; exact (h1 _ _ _ _ a b rfl).elim
    · rename_i a b; exact (h2 _ _ a b rfl).elim
    · exact h

theorem boundR_mono {x : Option Value} {d lo hi : Nat} {F G : Nat → Prop} (h : boundR x d lo hi F) (hm : ∀ z, F z → G z) : boundR x d lo hi G := by
  cases x with
  | none => exact hm _ h
  | some v => cases v <;> simp only [boundR] at h ⊢ <;> first | exact h | exact ⟨h.1, h.2.1, hm _ h.2.2⟩

theorem sliceR_mono {t : TypeId} {x : Value} {lo hi : Option Value} (h : sliceR P t x lo hi K) (hm : ∀ z, K z → K' z) : sliceR P t x lo hi K' := by
  unfold sliceR at *
  split
  · rename_i h1; simp only [h1] at h; exact boundR_mono h fun _ h => boundR_mono h fun _ => hm _
  · rename_i h1
    simp only [h1] at h
    split
    · rename_i h2
      simp only [h2] at h
      split
      · exact boundR_mono h fun _ => hm _
      · exact boundR_mono h fun _ h => boundR_mono h fun _ => hm _
    · rename_i h2; simp only [h2] at h
  · rename_i h1 h2
    split at h
    · rename_i a; exact (h1 _ a rfl).elim
    · rename_i a; exact (h2 _ _ _ _ a rfl).elim
    · exact h

theorem partR_mono {t : TypeId} {cs : List Value} {off : Nat} (h : partR P t cs off K) (hm : ∀ z, K z → K' z) : partR P t cs off K' := by
  unfold partR at *
  split
  · rename_i ag n h1 h2
    simp only [h1, h2] at h
    split
    · rename_i h3
      simp only [h3] at h
      cases ag <;> simp only at h ⊢
      · split
        · rename_i h4; simp only [h4] at h; exact hm _ h
        · rename_i h4; simp only [h4] at h
      · exact hm _ h
    · rename_i h3; simp only [h3] at h
  · rename_i h1
    split at h
    · rename_i a b; exact (h1 _ _ a b).elim
    · exact h

theorem builtR_mono {b : Builtin} {ts : List TypeId} {args : List Value} {hh : Heap} {F G : Value → Heap → Prop} (h : builtR P b ts args hh F) (hm : ∀ z h', F z h' → G z h') : builtR P b ts args hh G := by
  unfold builtR at *
  split
  · split
    · rename_i h1; simp only [h1] at h; exact hm _ _ h
    · rename_i h1; simp only [h1] at h; exact hm _ _ h
    · rename_i h1; simp only [h1] at h; exact hm _ _ h
    · simp only at h
  · split
    · rename_i h1; simp only [h1] at h; exact hm _ _ h
    · simp only at h
  · simp only at h
    split
    · rename_i h1; simp only [h1] at h; exact hm _ _ h
    · rename_i h1; simp only [h1] at h
  · simp only at h
    split
    · rename_i h1; simp only [h1] at h; exact hm _ _ h
    · rename_i h1; simp only [h1] at h
  · simp only at h
    split
    · rename_i h1 h2
      simp only [h1, h2] at h
      split
      · rename_i h3
        simp only [h3] at h
        split
        · rename_i h4
          simp only [h4] at h
          split
          · rename_i h5
            simp only [h5] at h
            obtain ⟨xs, a, b, c, d⟩ := h
            exact ⟨xs, a, b, fun e => (c e).mono (hm _ _) fun ⟨ad, bb, q1, q2, q3, q4, q5, q6⟩ => ⟨ad, bb, q1, q2, q3, q4, q5, fun h' e => hm _ _ (q6 h' e)⟩,
              fun e => let ⟨ol, q1, q2, q3⟩ := d e; ⟨ol, q1, q2, fun g c' h' e1 e2 e3 => hm _ _ (q3 g c' h' e1 e2 e3)⟩⟩
          · rename_i h5; simp only [h5] at h
        · rename_i h4; simp only [h4] at h
      · rename_i h3; simp only [h3] at h
    · rename_i h1
      split at h
      · rename_i a b; exact (h1 _ _ a b).elim
      · exact h
  · simp only at h
    split
    · rename_i h1
      simp only [h1] at h
      split
      · rename_i h2
        simp only [h2] at h
        obtain ⟨xs, a, b, c, d⟩ := h
        exact ⟨xs, a, b, fun e => hm _ _ (c e), fun e => let ⟨ad, bb, q1, q2, q3, q4, q5, q6⟩ := d e; ⟨ad, bb, q1, q2, q3, q4, q5, fun h' e => hm _ _ (q6 h' e)⟩⟩
      · rename_i h2; simp only [h2] at h
    · rename_i h1
      split at h
      · rename_i a; exact (h1 _ a).elim
      · exact h
  · split at h <;> first | exact h | (exfalso; simp_all; done) | (exfalso; rename_i q; exact q _ _ _ _ _ _ _ _ rfl rfl rfl) | (exfalso; rename_i q _; exact q _ _ _ _ _ _ _ _ rfl rfl rfl)
end

/-! ### slots that are not named -/
def putO (st : St) (d : Option Nat) (v : SV) : St :=
  match d with
  | none => st
  | some d => st.put d v

theorem putO_h (st : St) (d : Option Nat) (v : SV) : (putO st d v).h = st.h := by cases d <;> rfl
theorem putO_B (st : St) (d : Option Nat) (v : SV) : (putO st d v).B = st.B := by cases d <;> rfl
theorem putO_nb (st : St) (d : Option Nat) (v : SV) : (putO st d v).nb = st.nb := by cases d <;> rfl
theorem putO_setH (st : St) (d : Option Nat) (v : SV) (h : Heap) : (putO st d v).setH h = putO (st.setH h) d v := by cases d <;> rfl
theorem putO_setB (st : St) (d : Option Nat) (v : SV) (i : Nat) (cs : List Value) : (putO st d v).setB i cs = putO (st.setB i cs) d v := by cases d <;> rfl

theorem ev_putO {st : St} {d : Option Nat} {v : SV} {x : Operand} (h : ∀ d', d = some d' → x ≠ .tmp d') : ev (putO st d v) x = ev st x := by
  cases d with
  | none => rfl
  | some d =>
    cases x with
    | tmp t =>
      have : t ≠ d := fun e => h d rfl (by rw [e])
      simp [putO, ev, St.put, beq_ne this]
    | _ => rfl

theorem evs_putO {st : St} {d : Option Nat} {v : SV} : ∀ (l : List Operand), (∀ x ∈ l, ∀ d', d = some d' → x ≠ .tmp d') → evs (putO st d v) l = evs st l
  | [], _ => rfl
  | x :: r, h => by
    simp only [evs]
    rw [ev_putO (h x (by simp)), evs_putO r fun y hy => h y (by simp [hy])]

theorem partsV_putO {st : St} {d : Option Nat} {v : SV} : ∀ (l : List (Nat × Operand)), (∀ x ∈ l, ∀ d', d = some d' → x.2 ≠ .tmp d') → partsV (putO st d v) l = partsV st l
  | [], _ => rfl
  | (i, x) :: r, h => by
    simp only [partsV]
    rw [ev_putO (h (i, x) (by simp)), partsV_putO r fun y hy => h y (by simp [hy])]

theorem put_comm (st : St) {d e : Nat} (v u : SV) (h : d ≠ e) : (st.put d v).put e u = (st.put e u).put d v := by
  simp only [St.put, St.mk.injEq, and_true]
  funext t
  by_cases h1 : t = e
  · subst h1
    have : t ≠ d := fun q => h q.symm
    simp [beq_ne this]
  · by_cases h2 : t = d
    · subst h2; simp [beq_ne h1]
    · simp [beq_ne h1, beq_ne h2]

/-- What an operation leaves of a state. -/
structure Keeps (o : Oper) (st st1 : St) : Prop where
  slots : ∀ t, o.dst ≠ some t → st1.f t = st.f t
  nb : st.nb ≤ st1.nb
  bx : isStore o.op = false → ∀ i, i < st.nb → st1.B i = st.B i
  h : (pureOp o.op || isLoad o.op) = true → st1.h = st.h

theorem putK_shift {nt : Nat} {o : Oper} {st st2 : St} {d : Option Nat} {v u : SV} {K K' : St → Prop} (hm : ∀ st1, K (putO st1 d v) → Keeps o st st1 → K' st1)
    (hne : ∀ d', d = some d' → o.dst ≠ some d') (k : Keeps o st st2) (hk : putK nt o.dst u (putO st2 d v) K) : putK nt o.dst u st2 K' := by
  obtain ⟨dst, op, type, pos, after, guard⟩ := o
  cases dst with
  | none => exact hm _ hk k
  | some e =>
    simp only [putK] at hk ⊢
    split
    · rename_i hb
      simp only [hb] at hk
      refine hm _ ?_ ⟨fun t ht => ?_, k.nb, k.bx, k.h⟩
      · cases d with
        | none => exact hk
        | some d =>
          have : d ≠ e := fun q => hne d rfl (by rw [q])
          simp only [putO] at hk ⊢
          rw [← put_comm _ _ _ this]
          exact hk
      · have hte : t ≠ e := fun q => ht (by rw [q])
        simp only [St.put, beq_ne hte, cond_false]
        exact k.slots t ht
    · rename_i hb
      simp only [hb] at hk

theorem Keeps.refl (o : Oper) (st : St) : Keeps o st st := ⟨fun _ _ => rfl, Nat.le_refl _, fun _ _ _ => rfl, fun _ => rfl⟩
theorem Keeps.setH (o : Oper) (st : St) (h : Heap) (hp : (pureOp o.op || isLoad o.op) = false) : Keeps o st (st.setH h) := ⟨fun _ _ => rfl, Nat.le_refl _, fun _ _ _ => rfl, fun q => by rw [hp] at q; cases q⟩
theorem Keeps.setB (o : Oper) (st : St) (i : Nat) (cs : List Value) (hp : isStore o.op = true) : Keeps o st (st.setB i cs) :=
  ⟨fun _ _ => rfl, Nat.le_refl _, fun q => (by rw [hp] at q; cases q), fun _ => rfl⟩
end Go.Vcg
