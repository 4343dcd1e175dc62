/-
  The calculator is sound: worlds behind stores, new blocks and calls; operations on memory.
-/
import Derived.Test.YtfhipkdcekffaaaGreatDoorVcg5
namespace Go.Vcg
open Go

theorem Frm.refl (h : Heap) (w : World) : Frm h h w w := ⟨Nat.le_refl _, rfl, rfl, rfl, fun _ _ hk => ⟨hk, rfl⟩⟩

theorem Frm.trans {h0 h1 h2 : Heap} {w0 w1 w2 : World} (a : Frm h0 h1 w0 w1) (b : Frm h1 h2 w1 w2) : Frm h0 h2 w0 w2 where
  size := Nat.le_trans a.size b.size
  os := b.os.trans a.os
  tape := b.tape.trans a.tape
  output := b.output.trans a.output
  keep k hk h := by
    obtain ⟨h1, e1⟩ := a.keep k hk h
    obtain ⟨h2, e2⟩ := b.keep k (Nat.lt_of_lt_of_le hk a.size) h1
    exact ⟨h2, e2.trans e1⟩

theorem Heap.put_same (h : Heap) (g : Nat) (b : Blk) : h.put g b g = some b := by simp [Heap.put]
theorem Heap.put_ne (h : Heap) {g k : Nat} (b : Blk) (hk : k ≠ g) : h.put g b k = h k := by simp [Heap.put, hk]

section
variable {P : Program} {nt : Nat} {h0 : Heap} {w0 : World} {s : Nat → Nat} {st : St} {a : Act} {w : World} {mb : Nat → Bool}

theorem Good.lt (g : Good nt h0 w0 s st a w) {k : Nat} {b : Blk} (h : st.h k = some b) : k < w.heap.size := lt_of_heap (g.sat k b h)

theorem Good.fresh (g : Good nt h0 w0 s st a w) : st.h w.heap.size = none := by
  cases h : st.h w.heap.size with
  | none => rfl
  | some b => exact absurd (g.lt h) (by omega)

/-- The draw's count is no one's business. -/
theorem Good.drawn (g : Good nt h0 w0 s st a w) (n : Nat) : Good nt h0 w0 s st a { w with drawn := n } :=
  ⟨g.defers, g.size, g.rep, g.sat, ⟨g.frm.size, g.frm.os, g.frm.tape, g.frm.output, g.frm.keep⟩, g.box, g.inj, g.wfb⟩

/-- A store into visible memory. -/
theorem Good.putVis (g : Good nt h0 w0 s st a w) {k : Nat} {b b' : Blk} (hk : st.h k = some b) :
    Good nt h0 w0 s (st.setH (st.h.put k b')) a (putB w k (.cells b'.cells.toArray b'.ty b'.fz)) where
  defers := g.defers
  size := g.size
  rep := g.rep
  sat j c hj := by
    simp only [St.setH] at hj
    rw [heap_putB _ _ _ _ (g.lt hk)]
    by_cases h : j = k
    · subst h
      rw [Heap.put_same, Option.some.injEq] at hj
      subst hj
      rw [if_pos rfl]
    · rw [Heap.put_ne _ _ h] at hj
      rw [if_neg h]
      exact g.sat j c hj
  frm := by
    refine g.frm.trans (w1 := w) (h1 := st.h) ⟨by simp [putB], rfl, rfl, rfl, fun j hj hn => ?_⟩
    have h : j ≠ k := fun e => by subst e; rw [hk] at hn; cases hn
    simp only [St.setH]
    rw [Heap.put_ne _ _ h, heap_putB _ _ _ _ (g.lt hk), if_neg h]
    exact ⟨hn, rfl⟩
  box i hi := by
    obtain ⟨h1, h2, ty, h3⟩ := g.box i hi
    have h : s i ≠ k := fun e => by rw [e, hk] at h2; cases h2
    refine ⟨h1, ?_, ty, ?_⟩
    · simp only [St.setH]; rw [Heap.put_ne _ _ h]; exact h2
    · rw [heap_putB _ _ _ _ (g.lt hk), if_neg h]; exact h3
  inj := g.inj
  wfb := g.wfb

/-- A store into a hidden box. -/
theorem Good.putBox (g : Good nt h0 w0 s st a w) {i : Nat} (hi : i < st.nb) {ty : TypeId} (hb : w.heap[s i]? = some (.cells (st.B i).toArray ty (0, 0))) (cs : List Value) :
    Good nt h0 w0 s (st.setB i cs) a (putB w (s i) (.cells cs.toArray ty (0, 0))) where
  defers := g.defers
  size := g.size
  rep := g.rep
  sat j c hj := by
    have h : j ≠ s i := fun e => by
      subst e
      have := (g.box i hi).2.1
      simp only [St.setB] at hj
      rw [this] at hj; cases hj
    rw [heap_putB _ _ _ _ (lt_of_heap hb), if_neg h]
    exact g.sat j c hj
  frm := by
    refine ⟨by simpa [putB] using g.frm.size, g.frm.os, g.frm.tape, g.frm.output, fun j hj hn => ?_⟩
    have h : j ≠ s i := fun e => by have := (g.box i hi).1; omega
    rw [heap_putB _ _ _ _ (lt_of_heap hb), if_neg h]
    exact g.frm.keep j hj hn
  box j hj := by
    obtain ⟨h1, h2, ty', h3⟩ := g.box j hj
    by_cases e : j = i
    · subst e
      refine ⟨h1, h2, ty, ?_⟩
      rw [heap_putB _ _ _ _ (lt_of_heap hb), if_pos rfl]
      simp [St.setB]
    · have hne : s j ≠ s i := fun q => e (g.inj j i hj hi q)
      refine ⟨h1, h2, ty', ?_⟩
      rw [heap_putB _ _ _ _ (lt_of_heap hb), if_neg hne]
      simp only [St.setB, beq_ne e, cond_false]
      exact h3
  inj := g.inj
  wfb := g.wfb

theorem Good.newVis (g : Good nt h0 w0 s st a w) (b : Blk) : Good nt h0 w0 s (st.setH (st.h.put w.heap.size b)) a (addB w (.cells b.cells.toArray b.ty b.fz)) where
  defers := g.defers
  size := g.size
  rep := g.rep
  sat j c hj := by
    simp only [St.setH] at hj
    rw [heap_addB]
    by_cases h : j = w.heap.size
    · subst h
      rw [Heap.put_same, Option.some.injEq] at hj
      subst hj
      rw [if_pos rfl]
    · rw [Heap.put_ne _ _ h] at hj
      rw [if_neg h]
      exact g.sat j c hj
  frm := by
    refine g.frm.trans (w1 := w) (h1 := st.h) ⟨by simp [addB], rfl, rfl, rfl, fun j hj hn => ?_⟩
    have h : j ≠ w.heap.size := by omega
    simp only [St.setH]
    rw [Heap.put_ne _ _ h, heap_addB, if_neg h]
    exact ⟨hn, rfl⟩
  box i hi := by
    obtain ⟨h1, h2, ty, h3⟩ := g.box i hi
    have h : s i ≠ w.heap.size := fun e => by have := lt_of_heap h3; omega
    refine ⟨h1, ?_, ty, ?_⟩
    · simp only [St.setH]; rw [Heap.put_ne _ _ h]; exact h2
    · rw [heap_addB, if_neg h]; exact h3
  inj := g.inj
  wfb := g.wfb

def sigP (s : Nat → Nat) (n g : Nat) : Nat → Nat := fun i => if i = n then g else s i

theorem Good.newBox (g : Good nt h0 w0 s st a w) (cs : List Value) (ty : TypeId) :
    Good nt h0 w0 (sigP s st.nb w.heap.size) { st with nb := st.nb + 1, B := fun i => bif Nat.beq i st.nb then cs else st.B i } a (addB w (.cells cs.toArray ty (0, 0))) where
  defers := g.defers
  size := g.size
  rep t x hx := by
    rw [g.rep t x hx]
    cases x with
    | v _ => rfl
    | bx i off =>
      have := g.wfb t i off hx
      simp only [SV.val, sigP]
      rw [if_neg (by omega)]
  sat j c hj := by
    have h : j ≠ w.heap.size := fun e => by have := g.lt hj; omega
    rw [heap_addB, if_neg h]
    exact g.sat j c hj
  frm := by
    refine ⟨by have := g.frm.size; simp [addB]; omega, g.frm.os, g.frm.tape, g.frm.output, fun j hj hn => ?_⟩
    have h : j ≠ w.heap.size := by have := g.frm.size; omega
    rw [heap_addB, if_neg h]
    exact g.frm.keep j hj hn
  box i hi := by
    by_cases e : i = st.nb
    · subst e
      simp only [sigP, if_true]
      refine ⟨g.frm.size, g.fresh, ty, ?_⟩
      rw [heap_addB, if_pos rfl]
      simp
    · obtain ⟨h1, h2, ty', h3⟩ := g.box i (by simp at hi; omega)
      have h : s i ≠ w.heap.size := fun q => by have := lt_of_heap h3; omega
      simp only [sigP, if_neg e]
      refine ⟨h1, h2, ty', ?_⟩
      rw [heap_addB, if_neg h]
      simp only [beq_ne e, cond_false]
      exact h3
  inj i j hi hj e := by
    simp only at hi hj
    simp only [sigP] at e
    have lt : ∀ k, k < st.nb → s k < w.heap.size := fun k hk => by
      obtain ⟨_, _, _, h3⟩ := g.box k hk
      exact lt_of_heap h3
    split at e <;> split at e
    · omega
    · have := lt j (by omega); omega
    · have := lt i (by omega); omega
    · exact g.inj i j (by omega) (by omega) e
  wfb t i off hx := by
    have := g.wfb t i off hx
    show i < st.nb + 1
    omega

theorem ext_h (h : Heap) : Ext (fun _ => false) mb s st a s (st.setH h) a := ⟨fun _ _ => rfl, Nat.le_refl _, fun _ _ => rfl, fun _ _ _ => rfl⟩

theorem ext_b {i : Nat} (hi : mb i = true) (cs : List Value) : Ext (fun _ => false) mb s st a s (st.setB i cs) a :=
  ⟨fun _ _ => rfl, Nat.le_refl _, fun _ _ => rfl, fun j _ hb => by
    have : j ≠ i := fun e => by subst e; rw [hi] at hb; cases hb
    simp [St.setB, beq_ne this]⟩

theorem ext_new (cs : List Value) (g : Nat) : Ext (fun _ => false) mb s st a (sigP s st.nb g) { st with nb := st.nb + 1, B := fun i => bif Nat.beq i st.nb then cs else st.B i } a :=
  ⟨fun _ _ => rfl, Nat.le_succ _, fun i hi => by simp only [sigP]; rw [if_neg (by omega)], fun j hj _ => by
    have : j ≠ st.nb := by omega
    simp [beq_ne this]⟩

/-- Behind a call. -/
theorem Good.call (g : Good nt h0 w0 s st a w) {h' : Heap} {w' : World} (hs : Sat h' w') (fr : Frm st.h h' w w') : Good nt h0 w0 s (st.setH h') a w' where
  defers := g.defers
  size := g.size
  rep := g.rep
  sat := hs
  frm := g.frm.trans fr
  box i hi := by
    obtain ⟨h1, h2, ty, h3⟩ := g.box i hi
    obtain ⟨k1, k2⟩ := fr.keep (s i) (lt_of_heap h3) h2
    exact ⟨h1, k1, ty, k2.trans h3⟩
  inj := g.inj
  wfb := g.wfb
end
end Go.Vcg
