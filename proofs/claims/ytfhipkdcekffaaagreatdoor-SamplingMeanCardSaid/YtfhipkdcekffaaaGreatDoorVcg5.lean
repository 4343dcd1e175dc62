/-
  The calculator is sound: memory.
-/
import Derived.Test.YtfhipkdcekffaaaGreatDoorVcg3
namespace Go.Vcg
open Go

def putB (w : World) (k : Nat) (o : Obj) : World := { w with heap := w.heap.setIfInBounds k o }
def addB (w : World) (o : Obj) : World := { w with heap := w.heap.push o }

theorem heap_putB (w : World) (k j : Nat) (o : Obj) (hk : k < w.heap.size) : (putB w k o).heap[j]? = if j = k then some o else w.heap[j]? := by
  simp only [putB, Array.getElem?_setIfInBounds]
  by_cases h : k = j
  · subst h; simp [hk]
  · rw [if_neg h, if_neg (fun e => h e.symm)]

theorem heap_addB (w : World) (j : Nat) (o : Obj) : (addB w o).heap[j]? = if j = w.heap.size then some o else w.heap[j]? := by
  simp only [addB, Array.getElem?_push]

theorem lt_of_heap {w : World} {k : Nat} {o : Obj} (h : w.heap[k]? = some o) : k < w.heap.size := by
  rcases Nat.lt_or_ge k w.heap.size with hlt | hge
  · exact hlt
  · rw [Array.getElem?_eq_none hge] at h; cases h

theorem cell_add {w : World} {p : Addr} {cs : List Value} {ty : TypeId} {fz : Nat × Nat} (hb : w.heap[p.block]? = some (.cells cs.toArray ty fz)) (hp : p.spot = none) (i : Nat) :
    w.cell? (p.add i) = cs[p.off + i]? := by
  unfold Addr.add
  split
  · rename_i h0; subst h0; simp [World.cell?, hb, hp]
  · simp [World.cell?, hb]

theorem frozen_add {w : World} {p : Addr} {cs : List Value} {ty : TypeId} (hb : w.heap[p.block]? = some (.cells cs.toArray ty (0, 0))) (i : Nat) : w.frozen? (p.add i) = false := by
  unfold Addr.add
  split <;> simp [World.frozen?, hb]

theorem run_load_some {P : Program} {w : World} {p : Addr} {v : Value} (h : w.cell? p = some v) : (load p).run P w = .ok v w := by
  simp [load, Sem.run, h]

theorem take_drop_get {cs vs : List Value} {off : Nat} (h : (cs.drop off).take vs.length = vs) (i : Nat) (hi : i < vs.length) : cs[off + i]? = some (vs[i]'hi) := by
  have h1 : ((cs.drop off).take vs.length)[i]? = vs[i]? := by rw [h]
  rw [List.getElem?_take_of_lt hi, List.getElem?_drop] at h1
  rw [h1, List.getElem?_eq_getElem hi]

theorem run_loadCellsFrom {P : Program} {w : World} {p : Addr} {cs : List Value} {ty : TypeId} {fz : Nat × Nat} (hb : w.heap[p.block]? = some (.cells cs.toArray ty fz)) (hp : p.spot = none) :
    ∀ (n i : Nat) (acc : Array Value) (vs : List Value), (∀ j (hj : j < vs.length), cs[p.off + (i + j)]? = some (vs[j]'hj)) → vs.length = n →
      (loadCellsFrom p i n acc).run P w = .ok (acc ++ vs.toArray) w
  | 0, i, acc, vs, hv, hn => by
    have : vs = [] := List.eq_nil_of_length_eq_zero hn
    subst this
    simp [loadCellsFrom]
  | n + 1, i, acc, vs, hv, hn => by
    match vs, hn with
    | v :: vs', hn =>
      have h0 := hv 0 (by simp)
      simp only [Nat.add_zero, List.getElem_cons_zero] at h0
      have hl : (load (p.add i)).run P w = .ok v w := run_load_some (by rw [cell_add hb hp]; exact h0)
      have hr := run_loadCellsFrom (P := P) hb hp n (i + 1) (acc.push v) vs' (fun j hj => by
        have h1 := hv (j + 1) (by simp; omega)
        rw [show i + (j + 1) = i + 1 + j from by omega] at h1
        simpa using h1) (by simpa using hn)
      simp only [loadCellsFrom, Sem.run_bind, hl, Result.andThen_ok, hr]
      simp

theorem run_loadCells {P : Program} {w : World} {p : Addr} {cs vs : List Value} {ty : TypeId} {fz : Nat × Nat} (hb : w.heap[p.block]? = some (.cells cs.toArray ty fz)) (hp : p.spot = none)
    (hv : (cs.drop p.off).take vs.length = vs) : (loadCells p vs.length).run P w = .ok vs.toArray w := by
  have := run_loadCellsFrom (P := P) hb hp vs.length 0 #[] vs (fun j hj => by simpa using take_drop_get hv j hj) rfl
  simpa [loadCells] using this

theorem agg_run {P : Program} {t : TypeId} {ag : Bool} (h : tyAgg P t = some ag) (w : World) : (isAgg t).run P w = .ok ag w := by
  unfold tyAgg at h
  unfold isAgg
  split at h
  · rename_i fs hu; cases h; simp [run_underlying hu]
  · rename_i n e hu; cases h; simp [run_underlying hu]
  · rename_i d h1 h2 hu
    cases h
    simp only [Sem.run_bind, run_underlying hu, Result.andThen_ok]
    rfl
  · cases h

theorem size_run {P : Program} {t : TypeId} {n : Nat} (h : tySize P t = some n) (w : World) : (sizeOf t).run P w = .ok n w := by
  unfold tySize at h
  split at h
  · rename_i i hi; cases h; simp [sizeOf, typeInfo, hi]
  · cases h

theorem run_loadVar {P : Program} {w : World} {t : TypeId} {ag : Bool} {p : Addr} {cs vs : List Value} {ty : TypeId} {fz : Nat × Nat} (ha : tyAgg P t = some ag) (hs : tySize P t = some vs.length)
    (hn : ag = true ∨ vs.length = 1) (hb : w.heap[p.block]? = some (.cells cs.toArray ty fz)) (hp : p.spot = none) (hv : (cs.drop p.off).take vs.length = vs) :
    (loadVar t p).run P w = .ok (valOf ag vs) w := by
  simp only [loadVar, Sem.run_bind, agg_run ha, Result.andThen_ok]
  cases ag with
  | true =>
    simp only [if_true, Sem.run_bind, size_run hs, Result.andThen_ok, run_loadCells hb hp hv]
    rfl
  | false =>
    have h1 : vs.length = 1 := by simpa using hn
    match vs, h1 with
    | [v], _ =>
      have h0 := take_drop_get hv 0 (by simp)
      simp only [Nat.add_zero, List.getElem_cons_zero] at h0
      simp only [Bool.false_eq_true, if_false]
      have hc : w.cell? p = some v := by simp [World.cell?, hb, hp, h0]
      rw [run_load_some hc]
      rfl

theorem one_store {v : Value} (h : one v = true) (P : Program) (w : World) (p : Addr) {u : Value} (hc : w.cell? p = some u) (hf : w.frozen? p = false) : (store p v).run P w = .ok () (w.setCell p v) := by
  cases v <;> simp [one] at h <;> simp [store, Sem.run, hc, hf]

theorem setCell_putB {w : World} {p : Addr} {cs : List Value} {ty : TypeId} {fz : Nat × Nat} (hb : w.heap[p.block]? = some (.cells cs.toArray ty fz)) (hp : p.spot = none) (i : Nat) (v : Value) :
    w.setCell (p.add i) v = putB w p.block (.cells (cs.set (p.off + i) v).toArray ty fz) := by
  have hlt := lt_of_heap hb
  have hg : w.heap[p.block] = .cells cs.toArray ty fz := by simpa [Array.getElem?_eq_getElem hlt] using hb
  have e : ∀ q : Addr, q.block = p.block → q.off = p.off + i → q.spot = none → w.setCell q v = putB w p.block (.cells (cs.set (p.off + i) v).toArray ty fz) := by
    intro q h1 h2 h3
    unfold World.setCell putB
    congr 1
    apply Array.ext_getElem?
    intro j
    rw [h1, Array.getElem?_modify, Array.getElem?_setIfInBounds]
    by_cases hj : p.block = j
    · subst hj
      simp [hg, h2, h3, hlt]
    · simp [hj]
  unfold Addr.add
  split
  · rename_i h0; subst h0; exact e p rfl rfl hp
  · exact e _ rfl rfl rfl

theorem putB_putB (w : World) (k : Nat) (o o' : Obj) : putB (putB w k o) k o' = putB w k o' := by
  unfold putB
  congr 1
  apply Array.ext_getElem?
  intro j
  simp only [Array.getElem?_setIfInBounds, Array.size_setIfInBounds]
  split <;> rfl

theorem putB_self {w : World} {k : Nat} {o : Obj} (h : w.heap[k]? = some o) : putB w k o = w := by
  have hlt := lt_of_heap h
  have hg : w.heap[k] = o := by simpa [Array.getElem?_eq_getElem hlt] using h
  have : w.heap.setIfInBounds k o = w.heap := by
    apply Array.ext_getElem?
    intro j
    rw [Array.getElem?_setIfInBounds]
    split
    · rename_i hj; subst hj; rw [h]
    · rfl
  unfold putB
  rw [this]

theorem setSeg_nil (cs : List Value) (off : Nat) : setSeg cs off [] = cs := by simp [setSeg]

theorem setSeg_cons (cs : List Value) (off : Nat) (v : Value) (vs : List Value) (h : off < cs.length) : setSeg (cs.set off v) (off + 1) vs = setSeg cs off (v :: vs) := by
  unfold setSeg
  simp only [List.length_cons]
  have h1 : (cs.set off v).take (off + 1) = cs.take off ++ [v] := by
    rw [List.take_succ_eq_append_getElem (by simpa using h), List.take_set_of_le (Nat.le_refl _)]
    simp
  have h2 : (cs.set off v).drop (off + 1 + vs.length) = cs.drop (off + (vs.length + 1)) := by
    rw [List.drop_set_of_lt (by omega)]
    congr 1
    omega
  rw [h1, h2]
  simp

theorem allOne_spec {l : List Value} (h : allOne l = true) : ∀ x ∈ l, one x = true := by
  induction l with
  | nil => intro x hx; cases hx
  | cons v r ih =>
    simp only [allOne, Bool.and_eq_true] at h
    intro x hx
    cases hx with
    | head => exact h.1
    | tail _ hx => exact ih h.2 x hx

theorem run_storeCells {P : Program} {p : Addr} {ty : TypeId} (hp : p.spot = none) : ∀ (vs cs : List Value) (w : World) (i : Nat), w.heap[p.block]? = some (.cells cs.toArray ty (0, 0)) → (∀ x ∈ vs, one x = true) →
    p.off + i + vs.length ≤ cs.length → (storeCells p vs i).run P w = .ok () (putB w p.block (.cells (setSeg cs (p.off + i) vs).toArray ty (0, 0)))
  | [], cs, w, i, hb, _, _ => by
    rw [setSeg_nil, putB_self hb]
    simp [storeCells]
  | v :: vs, cs, w, i, hb, h1, hl => by
    simp only [List.length_cons] at hl
    have hc : w.cell? (p.add i) = some (cs[p.off + i]'(by omega)) := by rw [cell_add hb hp, List.getElem?_eq_getElem]
    have hs := one_store (h1 v (by simp)) P w (p.add i) hc (frozen_add hb i)
    have hlt := lt_of_heap hb
    have hb' : (putB w p.block (.cells (cs.set (p.off + i) v).toArray ty (0, 0))).heap[p.block]? = some (.cells (cs.set (p.off + i) v).toArray ty (0, 0)) := by
      rw [heap_putB _ _ _ _ hlt, if_pos rfl]
    have hr := run_storeCells (P := P) hp vs (cs.set (p.off + i) v) _ (i + 1) hb' (fun x hx => h1 x (by simp [hx])) (by simp; omega)
    simp only [storeCells, Sem.run_bind, hs, Result.andThen_ok, setCell_putB hb hp]
    rw [hr, putB_putB, ← Nat.add_assoc, setSeg_cons _ _ _ _ (by omega)]

theorem vcells_toList (v : Value) : v.cells.toList = vcells v := by cases v <;> rfl
theorem vcells_size (v : Value) : v.cells.size = (vcells v).length := by rw [← vcells_toList]; simp

theorem run_storeVar {P : Program} {p : Addr} {ty t : TypeId} {n : Nat} {cs : List Value} {v : Value} {w : World} (hs : tySize P t = some n) (hp : p.spot = none) (hb : w.heap[p.block]? = some (.cells cs.toArray ty (0, 0)))
    (h1 : allOne (vcells v) = true) (hn : (vcells v).length = n) (hl : p.off + n ≤ cs.length) : (storeVar t p v).run P w = .ok () (putB w p.block (.cells (setSeg cs p.off (vcells v)).toArray ty (0, 0))) := by
  have hr := run_storeCells (P := P) (ty := ty) hp (vcells v) cs w 0 hb (allOne_spec h1) (by omega)
  simp only [storeVar, Sem.run_bind, size_run hs, Result.andThen_ok, vcells_size, hn, ne_eq, not_true, if_false]
  simpa [vcells_toList] using hr
end Go.Vcg
