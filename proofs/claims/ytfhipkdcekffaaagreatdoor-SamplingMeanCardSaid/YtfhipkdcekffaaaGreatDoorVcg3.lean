/-
  The calculator is sound: operations.
-/
import Derived.Test.YtfhipkdcekffaaaGreatDoorVcg2
namespace Go.Vcg
open Go

theorem beq_ne {a b : Nat} (h : a ≠ b) : Nat.beq a b = false := by
  cases hb : Nat.beq a b with
  | false => rfl
  | true => exact absurd (Nat.eq_of_beq_eq_true hb) h

theorem beq_eq {a b : Nat} (h : Nat.beq a b = true) : a = b := Nat.eq_of_beq_eq_true h

structure Good (nt : Nat) (h0 : Heap) (w0 : World) (s : Nat → Nat) (st : St) (a : Act) (w : World) : Prop where
  defers : a.defers = []
  size : a.tmps.size = nt
  rep : ∀ t x, st.f t = some x → a.tmps.getD t undef = x.val s
  sat : Sat st.h w
  frm : Frm h0 st.h w0 w
  box : ∀ i, i < st.nb → w0.heap.size ≤ s i ∧ st.h (s i) = none ∧ ∃ ty, w.heap[s i]? = some (.cells (st.B i).toArray ty (0, 0))
  inj : ∀ i j, i < st.nb → j < st.nb → s i = s j → i = j
  wfb : ∀ t i off, st.f t = some (.bx i off) → i < st.nb

def SV.ok (st : St) : SV → Prop
  | .v _ => True
  | .bx i _ => i < st.nb

structure Ext (W mb : Nat → Bool) (s : Nat → Nat) (st : St) (a : Act) (s' : Nat → Nat) (st' : St) (a' : Act) : Prop where
  slots : ∀ t, W t = false → a'.tmps.getD t undef = a.tmps.getD t undef
  nb : st.nb ≤ st'.nb
  sig : ∀ i, i < st.nb → s' i = s i
  bx : ∀ i, i < st.nb → mb i = false → st'.B i = st.B i

theorem Ext.refl (W mb : Nat → Bool) (s : Nat → Nat) (st : St) (a : Act) : Ext W mb s st a s st a := ⟨fun _ _ => rfl, Nat.le_refl _, fun _ _ => rfl, fun _ _ _ => rfl⟩

theorem Ext.trans {W W' mb : Nat → Bool} {s s1 s2 : Nat → Nat} {st st1 st2 : St} {a a1 a2 : Act} (h : Ext W mb s st a s1 st1 a1) (k : Ext W' mb s1 st1 a1 s2 st2 a2) :
    Ext (fun t => W t || W' t) mb s st a s2 st2 a2 where
  slots t ht := by
    simp only [Bool.or_eq_false_iff] at ht
    rw [k.slots t ht.2, h.slots t ht.1]
  nb := Nat.le_trans h.nb k.nb
  sig i hi := by rw [k.sig i (Nat.lt_of_lt_of_le hi h.nb), h.sig i hi]
  bx i hi hb := by rw [k.bx i (Nat.lt_of_lt_of_le hi h.nb) hb, h.bx i hi hb]

theorem Ext.mono {W W' mb : Nat → Bool} {s s1 : Nat → Nat} {st st1 : St} {a a1 : Act} (h : Ext W mb s st a s1 st1 a1) (hw : ∀ t, W' t = false → W t = false) : Ext W' mb s st a s1 st1 a1 :=
  ⟨fun t ht => h.slots t (hw t ht), h.nb, h.sig, h.bx⟩

def dstW (d : Option Nat) (t : Nat) : Bool :=
  match d with
  | some d => Nat.beq t d
  | none => false

/-- Behind a step. -/
def NextP (nt : Nat) (h0 : Heap) (w0 : World) (K : St → Prop) (W mb : Nat → Bool) (s : Nat → Nat) (st : St) (a : Act) (a' : Act) (w' : World) : Prop :=
  ∃ st' s', K st' ∧ Good nt h0 w0 s' st' a' w' ∧ Ext W mb s st a s' st' a'

section
variable {P : Program} {nt : Nat} {h0 : Heap} {w0 : World} {s : Nat → Nat} {st : St} {a : Act} {w : World} {K : St → Prop} {mb vis : Nat → Bool}

theorem ev_eval (g : Good nt h0 w0 s st a w) {x : Operand} {v : SV} (h : ev st x = some v) : a.eval x = v.val s := by
  cases x with
  | tmp t => exact g.rep t v h
  | const c => simp only [ev, Option.some.injEq] at h; subst h; rfl
  | global n => simp only [ev, Option.some.injEq] at h; subst h; rfl
  | func f => simp only [ev, Option.some.injEq] at h; subst h; rfl

theorem evs_eval (g : Good nt h0 w0 s st a w) : ∀ (l : List Operand) {vs : List Value}, evs st l = some vs → l.map a.eval = vs
  | [], vs, h => by simp only [evs, Option.some.injEq] at h; subst h; rfl
  | x :: r, vs, h => by
    simp only [evs] at h
    split at h
    · rename_i y l hx hl
      simp only [Option.some.injEq] at h
      subst h
      simp only [List.map_cons, evs_eval g r hl, ev_eval g hx]
      rfl
    · cases h

theorem tmps_put (a : Act) (d t : Nat) (v : Value) (hd : d < a.tmps.size) : (a.put (some d) v).tmps.getD t undef = if t = d then v else a.tmps.getD t undef := by
  simp only [Act.put]
  by_cases h : t = d
  · subst h
    simp [hd]
  · rw [if_neg h]
    simp only [Array.getD_eq_getD_getElem?, Array.getElem?_setIfInBounds]
    rw [if_neg (by omega)]

theorem ev_ok (g : Good nt h0 w0 s st a w) {x : Operand} {v : SV} (h : ev st x = some v) : v.ok st := by
  cases x with
  | tmp t =>
    cases v with
    | v _ => exact trivial
    | bx i off => exact g.wfb t i off h
  | const c => simp only [ev, Option.some.injEq] at h; subst h; exact trivial
  | global n => simp only [ev, Option.some.injEq] at h; subst h; exact trivial
  | func f => simp only [ev, Option.some.injEq] at h; subst h; exact trivial

theorem Good.put (g : Good nt h0 w0 s st a w) {d : Nat} (hd : d < nt) {v : SV} (hv : v.ok st) : Good nt h0 w0 s (st.put d v) (a.put (some d) (v.val s)) w where
  defers := g.defers
  size := by simp [Act.put, g.size]
  rep t x hx := by
    rw [tmps_put a d t _ (by rw [g.size]; exact hd)]
    simp only [St.put] at hx
    by_cases h : t = d
    · subst h
      simp only [Nat.beq_refl, cond_true, Option.some.injEq] at hx
      subst hx
      rw [if_pos rfl]
    · have hb : Nat.beq t d = false := beq_ne h
      rw [hb] at hx
      rw [if_neg h]
      exact g.rep t x hx
  sat := g.sat
  frm := g.frm
  box := g.box
  inj := g.inj
  wfb t i off hx := by
    simp only [St.put] at hx
    by_cases h : t = d
    · subst h
      simp only [Nat.beq_refl, cond_true, Option.some.injEq] at hx
      subst hx
      exact hv
    · rw [beq_ne h] at hx
      exact g.wfb t i off hx

theorem putK_sound {d : Option Nat} {v : SV} {st1 : St} {s1 : Nat → Nat} {w1 : World} (g : Good nt h0 w0 s1 st1 a w1) (e : Ext (fun _ => false) mb s st a s1 st1 a) (hv : v.ok st1)
    (hk : putK nt d v st1 K) : NextP nt h0 w0 K (dstW d) mb s st a (a.put d (v.val s1)) w1 := by
  cases d with
  | none => exact ⟨st1, s1, hk, g, e.mono fun _ _ => rfl⟩
  | some d =>
    simp only [putK] at hk
    split at hk
    · rename_i hlt
      have hd : d < nt := by simpa [Nat.blt_eq] using hlt
      refine ⟨st1.put d v, s1, hk, g.put hd hv, ⟨fun t ht => ?_, e.nb, e.sig, e.bx⟩⟩
      rw [tmps_put a d t _ (by rw [g.size]; exact hd), if_neg]
      intro h
      subst h
      simp [dstW] at ht
    · exact hk.elim

/-- An operation that gives a value, in a world that may have turned. -/
theorem wp_value {o : Oper} {v : SV} {st1 : St} {s1 : Nat → Nat} {w1 : World} {Q : Exit → Act → World → Prop} (hr : (execOp a.eval o).run P w = .ok (.value (v.val s1)) w1)
    (g : Good nt h0 w0 s1 st1 a w1) (e : Ext (fun _ => false) mb s st a s1 st1 a) (hv : v.ok st1) (hk : putK nt o.dst v st1 K) : o.wp P a w (NextP nt h0 w0 K (dstW o.dst) mb s st a) Q := by
  simp only [Oper.wp, hr, Oper.upon]
  exact putK_sound g e hv hk

theorem wp_skip {o : Oper} {st1 : St} {s1 : Nat → Nat} {w1 : World} {Q : Exit → Act → World → Prop} (hr : (execOp a.eval o).run P w = .ok .skip w1)
    (g : Good nt h0 w0 s1 st1 a w1) (e : Ext (fun _ => false) mb s st a s1 st1 a) (hk : putK nt o.dst (.v undef) st1 K) : o.wp P a w (NextP nt h0 w0 K (dstW o.dst) mb s st a) Q := by
  simp only [Oper.wp, hr, Oper.upon]
  exact putK_sound (v := .v undef) g e trivial hk
end

/-! ### plain values -/

theorem br_false {b : Bool} {X : Prop} (h : Br b False X) : b = false ∧ X := by
  cases b
  · exact ⟨rfl, h⟩
  · exact h.elim

section
variable {P : Program} (w : World)

theorem binR_run {op : BinOp} {t : TypeId} {x y : Value} {K : Value → Prop} (xo yo : Operand) (h : binR P op t x y K) :
    ∃ z, (do eqGuard op t xo yo x y; binOp op t x y : Sem Value).run P w = .ok z w ∧ K z := by
  cases x <;> cases y <;> simp only [binR] at h <;> try exact h.elim
  case int.int k a k' b =>
    cases op <;> simp only [arith, comp] at h
    case shl =>
      obtain ⟨hb, h2⟩ := br_false h
      have hb' : ¬ b < 0 := by simpa using hb
      exact ⟨_, by simp [eqGuard, binOp, Op.shift, hb'], h2 _ rfl⟩
    case shr =>
      obtain ⟨hb, h2⟩ := br_false h
      have hb' : ¬ b < 0 := by simpa using hb
      exact ⟨_, by simp [eqGuard, binOp, Op.shift, hb'], h2 _ rfl⟩
    case quo =>
      obtain ⟨hb, h2⟩ := br_false h
      clear h
      have hb' : ¬ b = 0 := by simpa using hb
      split at h2
      · rename_i hk
        have hk' : k = k' := by simpa using hk
        subst hk'
        exact ⟨_, by simp [eqGuard, binOp, Op.intDiv, hb'], h2 _ rfl⟩
      · exact h2.elim
    case rem =>
      obtain ⟨hb, h2⟩ := br_false h
      clear h
      have hb' : ¬ b = 0 := by simpa using hb
      split at h2
      · rename_i hk
        have hk' : k = k' := by simpa using hk
        subst hk'
        exact ⟨_, by simp [eqGuard, binOp, Op.intDiv, hb'], h2 _ rfl⟩
      · exact h2.elim
    all_goals
      split at h
      · rename_i hk
        have hk' : k = k' := by simpa using hk
        subst hk'
        first
          | exact ⟨_, by cases k <;> rfl, h _ rfl⟩
          | exact ⟨_, by cases k <;> rfl, h⟩
      · exact h.elim
  case bool.bool a b =>
    split at h
    · rename_i hb
      have hu : P.underlying t = some .bool := by
        unfold isBoolT at hb
        split at hb
        · assumption
        · cases hb
      have he : ∀ d, (Op.equalIn (d + 1) t (.bool a) (.bool b)).run P w = .ok (a == b) w := fun d => by simp [Op.equalIn, run_underlying hu]
      have he' : (Op.equalIn 10000 t (.bool a) (.bool b)).run P w = .ok (a == b) w := he 9999
      have e1 : (binOp .eql t (.bool a) (.bool b)).run P w = .ok (.bool (a == b)) w := by
        simp only [binOp, Op.equal, Op.maxDepth, Sem.run_bind, he']
        rfl
      have e2 : (binOp .neq t (.bool a) (.bool b)).run P w = .ok (.bool !(a == b)) w := by
        simp only [binOp, Op.equal, Op.maxDepth, Sem.run_bind, he']
        rfl
      cases op <;> try exact h.elim
      · refine ⟨_, ?_, h⟩
        have e0 : (eqGuard .eql t xo yo (.bool a) (.bool b)).run P w = .ok () w := rfl
        rw [Sem.run_bind, e0, Result.andThen_ok, e1]
      · refine ⟨_, ?_, h⟩
        have e0 : (eqGuard .neq t xo yo (.bool a) (.bool b)).run P w = .ok () w := rfl
        rw [Sem.run_bind, e0, Result.andThen_ok, e2]
    · exact h.elim
  case string.string a b =>
    cases op <;> try exact h.elim
    · obtain ⟨h1, h2⟩ := h
      refine ⟨_, ?_, h2⟩
      have : ¬ ((a.size + b.size : Nat) : Int) > IntKind.i64.max := by
        have e : IntKind.i64.max = 9223372036854775807 := by decide
        rw [e]; omega
      simp only [eqGuard, binOp, Op.stringOp, if_neg this]
      rfl
    · exact ⟨_, by simp [eqGuard, binOp, Op.stringOp], h⟩
    · exact ⟨_, by simp [eqGuard, binOp, Op.stringOp], h⟩

theorem unR_run {op : UnOp} {x : Value} {K : Value → Prop} (h : unR op x K) : ∃ z, (Op.unary op x).run P w = .ok z w ∧ K z := by
  cases op <;> cases x <;> simp only [unR] at h <;> try exact h.elim
  · exact ⟨_, by simp [Op.unary, Op.intArith], h _ rfl⟩
  · exact ⟨_, by simp [Op.unary], h⟩

theorem convR_run {src dst : TypeId} {x : Value} {K : Value → Prop} (h : convR P src dst x K) : ∃ z, (convert src dst x).run P w = .ok z w ∧ K z := by
  unfold convR at h
  split at h
  · rename_i d k k' n hs hd
    exact ⟨_, by simp [convert, run_underlying hs, run_underlying hd, Conv.intToInt], h⟩
  · rename_i d b hs hd
    exact ⟨_, by simp [convert, run_underlying hs, run_underlying hd], h⟩
  · exact h.elim
end
end Go.Vcg
