/-
  Gathered texts of this proof: Fin2, Fin3.
-/
import Derived.Test.YtdpdaphholileaaGreatDoorG10
import Derived.Test.YtdpdaphholileaaGreatDoorG07
import Derived.ChangeSlices
import Derived.ChangeMaps5
import Derived.MakeChecks
import Derived.Stop.LaidErr
import Derived.Lib.SmallJoins
import Derived.Deep.Strs
import Derived.DataReads

/-
  Arguments that are natural numbers, integers, ratios and strings, and the table of the powers of ten, as the whole visible heap holds them.
-/
namespace Go.Proofs.YtdpdaphholileaaGreatDoor
open Go Go.Vcg Go.RowKit Go.WideShapes Go.ChangeShapes Go.Joins Go.MakeChecks

theorem wf32 {z : Int} (h : (Lit.int .u32 z).wf = true) : 0 ≤ z ∧ z < 4294967296 := by
  unfold Lit.wf at h
  simp only [Bool.and_eq_true, decide_eq_true_eq] at h
  have e1 : IntKind.u32.min = 0 := by decide
  have e2 : IntKind.u32.max = 4294967295 := by decide
  omega

theorem full_of {W : World} {k : Nat} {cs : Array Value} {ty : TypeId} {fz : Nat × Nat} (h : W.heap[k]? = some (.cells cs ty fz)) (hp : 0 < cs.size) : full W k = some ⟨cs.toList, ty, fz⟩ := by
  unfold full
  rw [h]
  have : plainB ⟨cs.toList, ty, fz⟩ = true := by
    unfold plainB
    have : cs.toList.isEmpty = false := by
      cases hc : cs.toList with
      | nil => rw [← Array.length_toList, hc] at hp; simp at hp
      | cons => rfl
    rw [this]; rfl
  simp only [this, cond_true]

theorem tab_laid {x y : String × DataW Unit} {rest : List (String × DataW Unit)} {W : World} (hp : ((x :: y :: ("internal/strconv.uint64pow10", Lib.tabData .u64 Lib.pow10Tab) :: rest).all fun x => x.2.handleName?.isNone) = true)
    (h : laidMetH Tryz.prog (x :: y :: ("internal/strconv.uint64pow10", Lib.tabData .u64 Lib.pow10Tab) :: rest) W) : Tab (full W) := by
  rw [laidMetH_plain _ _ _ hp] at h
  have ht : Lib.TabIs Tryz.prog W "internal/strconv.uint64pow10" .u64 Lib.pow10Tab :=
    Lib.tabIs_of_head (g := 1) (t := 202) (e := 107) (n := 20) (by kernel_rfl) (by kernel_rfl) (by kernel_rfl) (by kernel_rfl) (by kernel_rfl) (by kernel_rfl) h.tail.tail
  unfold Lib.TabIs World.var? at ht
  have hg : Tryz.prog.globalNamed "internal/strconv.uint64pow10" = some 1 := by kernel_rfl
  rw [hg, Option.bind_some] at ht
  split at ht
  · rename_i cs ty fz e
    have hc := Option.some.inj ht
    refine ⟨_, full_of e (by rw [hc]; decide), ?_⟩
    rw [hc]
  · cases ht

section
variable {H : Type} {enc : TypeId × Value → H} {W : World} {base fuel : Nat} {sp : Nat → Bool} {held : Bool}

theorem cell_block {W : World} {a : Addr} {i : Nat} {v : Value} (h : W.cell? (a.add i) = some v) : ∃ cs ty fz, W.heap[a.block]? = some (.cells cs ty fz) ∧ (i = 0 → a.spot = none) ∧ cs[a.off + i]? = some v := by
  unfold World.cell? at h
  have hb : (a.add i).block = a.block := by unfold Addr.add; split <;> rfl
  have ho : (a.add i).off = a.off + i := by unfold Addr.add; split <;> simp_all
  rw [hb, ho] at h
  split at h
  · rename_i cs ty fz e
    split at h
    · cases h
    · rename_i q
      refine ⟨cs, ty, fz, e, fun hi => ?_, h⟩
      subst hi
      unfold Addr.add at q
      simpa using q
  · cases h

/-- A natural number among the arguments. -/
theorem nat_arg {cs : List Value} {y : DataW H × List MemPlace} (h : DataW.trod enc Tryz.prog W base sp held fuel 23 cs = some y) :
    ∃ A n c v, cs = [.slice A n c] ∧ IsN (full W) A n c v := by
  rcases open_ints (k := .u32) (e := 104) Tryz.underlying23 (by kernel_rfl) (by kernel_rfl) h with ⟨rfl, _⟩ | ⟨a, len, cap, zs, rfl, _, hlc, _, hzl, _, hcell, hwf⟩
  · exact ⟨none, 0, 0, _, rfl, (NmN.nil _ none 0).is⟩
  · have hlz : len ≤ zs.length := by rw [hzl]; split <;> omega
    refine ⟨some a, len, cap, _, rfl, ⟨(zs.take len).map Int.toNat, ⟨by simp; omega, hlc, ?_, fun hn => ?_⟩, rfl⟩⟩
    · intro x hx
      obtain ⟨z, hz, rfl⟩ := List.mem_map.1 hx
      have := wf32 (hwf z (List.mem_of_mem_take hz))
      omega
    · obtain ⟨cs, ty, fz, hb, hsp, hc0⟩ := cell_block (hcell 0 (by omega))
      have hsz : 0 < cs.size := by
        have := (Array.getElem?_eq_some_iff.1 hc0).1
        omega
      refine ⟨a, _, rfl, hsp rfl, full_of hb hsz, ?_⟩
      apply List.ext_getElem?
      intro i
      by_cases hi : i < len
      · obtain ⟨cs', ty', fz', hb', _, hci⟩ := cell_block (hcell i (by omega))
        rw [hb] at hb'
        cases hb'
        rw [List.getElem?_take_of_lt hi, List.getElem?_drop, Array.getElem?_toList, hci, List.map_map, List.getElem?_map, List.getElem?_take_of_lt hi]
        have hz : zs[i]? = some (zs.getD i 0) := by
          rw [List.getD_eq_getElem?_getD, List.getElem?_eq_getElem (by omega)]; rfl
        rw [hz]
        simp only [Option.map_some, Function.comp]
        have hw := wf32 (hwf (zs.getD i 0) (List.mem_of_getElem? hz))
        unfold lv
        rw [Int.toNat_of_nonneg hw.1]
      · rw [List.getElem?_eq_none (by simp; omega), List.getElem?_eq_none (by simp; omega)]

end
end Go.Proofs.YtdpdaphholileaaGreatDoor

/-
  Arguments that are trees and measures, as the whole visible heap holds them.
-/
namespace Go.Proofs.YtdpdaphholileaaGreatDoor
open Go Go.Vcg Go.RowKit Go.WideShapes Go.ChangeShapes Go.Joins Go.MakeChecks

section
variable {H : Type} {enc : TypeId × Value → H} {W : World} {base : Nat} {sp : Nat → Bool} {held : Bool}

theorem list3 {α : Type} {l : List α} (h : l.length = 3) : ∃ a b c, l = [a, b, c] := by
  match l, h with
  | [a, b, c], _ => exact ⟨a, b, c, rfl⟩
theorem list4 {α : Type} {l : List α} (h : l.length = 4) : ∃ a b c d, l = [a, b, c, d] := by
  match l, h with
  | [a, b, c, d], _ => exact ⟨a, b, c, d, rfl⟩
theorem list6 {α : Type} {l : List α} (h : l.length = 6) : ∃ a b c d e f, l = [a, b, c, d, e, f] := by
  match l, h with
  | [a, b, c, d, e, f], _ => exact ⟨a, b, c, d, e, f, rfl⟩

set_option maxRecDepth 100000 in
/-- The cells of a ratio. -/
theorem ratio_cells {fuel : Nat} {cs : List Value} {y : DataW H × List MemPlace} (h : DataW.trod enc Tryz.prog W base sp held fuel 27 cs = some y) :
    ∃ s A n c B m e q, cs = [.bool s, .slice A n c, .slice B m e] ∧ IsQ (full W) s A n c B m e q := by
  obtain ⟨y0, y1, n, _, hl, h0, h1⟩ := trod_struct2 Tryz.underlying27 h
  obtain ⟨c0, c1, c2, rfl⟩ := list3 (hl.trans (by kernel_rfl))
  have k0 : Tryz.prog.cellsOf 25 = 2 := by kernel_rfl
  have k1 : Tryz.prog.cellsOf 23 = 1 := by kernel_rfl
  have k2 : Tryz.prog.cellsOf 4 = 1 := by kernel_rfl
  rw [k0] at h0
  rw [k1] at h1
  simp only [List.drop_zero, List.take_succ_cons, List.take_zero, List.drop_succ_cons] at h0 h1
  obtain ⟨z0, z1, n2, _, _, g0, g1⟩ := trod_struct2 Tryz.underlying25 h0
  rw [k2] at g0
  rw [k1] at g1
  simp only [List.drop_zero, List.take_succ_cons, List.take_zero, List.drop_succ_cons] at g0 g1
  obtain ⟨b, hb, _⟩ := DataW.trod_bool (by kernel_rfl) g0
  obtain ⟨A, k, c, x, hA, uA⟩ := nat_arg g1
  obtain ⟨B, k', c', x', hB, uB⟩ := nat_arg h1
  cases hb
  cases hA
  cases hB
  exact ⟨b, A, k, c, B, k', c', _, rfl, _, _, ⟨_, uA, rfl⟩, uB, rfl⟩

theorem add_addr (a : Addr) (i j : Nat) : (a.add i).add j = a.add (i + j) := by
  unfold Addr.add
  by_cases hi : i = 0 <;> by_cases hj : j = 0 <;> simp [hi, hj, Nat.add_assoc]

/-- The block of a row of cells. -/
theorem row_block {a : Addr} {len k : Nat} (hk : 0 < k) (hlen : 0 < len) {C : Nat → List Value} (hc : ∀ i, i < len → W.cells? base (a.add (i * k)) k = some (C i)) :
    ∃ b : Blk, a.spot = none ∧ full W a.block = some b ∧ ∀ i, i < len → (b.cells.drop (a.off + i * k)).take k = C i := by
  have cell : ∀ i j, i < len → j < k → W.cell? (a.add (i * k + j)) = (C i)[j]? := fun i j hi hj => by
    obtain ⟨_, _, h3⟩ := World.cells?_some (hc i hi)
    rw [← add_addr]
    exact h3 j hj
  have clen : ∀ i, i < len → (C i).length = k := fun i hi => (World.cells?_some (hc i hi)).2.1
  have h00 : (C 0)[0]? = some ((C 0)[0]'(by rw [clen 0 hlen]; exact hk)) := List.getElem?_eq_getElem _
  have c00 := cell 0 0 hlen hk
  rw [h00] at c00
  simp only [Nat.zero_mul, Nat.zero_add] at c00
  obtain ⟨cs, ty, fz, hb, hsp, hc0⟩ := cell_block c00
  have hsz : 0 < cs.size := by
    have := (Array.getElem?_eq_some_iff.1 hc0).1
    omega
  refine ⟨⟨cs.toList, ty, fz⟩, hsp rfl, full_of hb hsz, fun i hi => ?_⟩
  apply List.ext_getElem?
  intro j
  rcases Nat.lt_or_ge j k with hj | hj
  · have hjl : j < (C i).length := by rw [clen i hi]; exact hj
    have c1 := cell i j hi hj
    rw [List.getElem?_eq_getElem hjl] at c1
    obtain ⟨cs', ty', fz', hb', _, hci⟩ := cell_block c1
    rw [hb] at hb'
    cases hb'
    rw [List.getElem?_take_of_lt hj, List.getElem?_drop, Array.getElem?_toList, Nat.add_assoc, hci, List.getElem?_eq_getElem hjl]
  · rw [List.getElem?_eq_none (by rw [List.length_take]; omega), List.getElem?_eq_none (by rw [clen i hi]; exact hj)]

theorem IsEs_of {h : Heap} : ∀ {es : List Ex} {cs : List Value}, (∀ i e, es[i]? = some e → IsE h e ((cs.drop (i * 6)).take 6)) → IsEs h es cs
  | [], _, _ => by unfold IsEs; trivial
  | e :: es, cs, hh => by
    unfold IsEs
    refine ⟨by simpa using hh 0 e rfl, IsEs_of fun i x hx => ?_⟩
    rw [List.drop_drop, show 6 + i * 6 = (i + 1) * 6 by omega]
    exact hh (i + 1) x (by simpa using hx)

theorem list_of {α : Type} [Inhabited α] {n : Nat} {p : Nat → α → Prop} (h : ∀ i, i < n → ∃ x, p i x) : ∃ l : List α, l.length = n ∧ ∀ i x, l[i]? = some x → p i x := by
  obtain ⟨f, hf⟩ := Go.Deep.choose_lt h
  refine ⟨(List.range n).map f, by simp, fun i x hx => ?_⟩
  rw [List.getElem?_map] at hx
  rcases Nat.lt_or_ge i n with hi | hi
  · rw [List.getElem?_range hi] at hx
    cases hx
    exact hf i hi
  · rw [List.getElem?_eq_none (by simpa using hi)] at hx
    cases hx

instance : Inhabited Ex := ⟨.mk 0 0 0 0 [] []⟩
instance : Inhabited Meas := ⟨⟨[], 0, 0, 0⟩⟩

theorem str_cells {fuel : Nat} {cs : List Value} {y : DataW H × List MemPlace} (h : DataW.trod enc Tryz.prog W base sp held fuel 9 cs = some y) : ∃ l : List UInt8, cs = [sv l] := by
  obtain ⟨s, rfl, _⟩ := DataW.trod_string Tryz.underlying9 h
  exact ⟨s.data.toList, by cases s; rfl⟩

set_option maxRecDepth 100000 in
/-- A tree among the arguments. -/
theorem expr_cells : ∀ (fuel : Nat) {cs : List Value} {y : DataW H × List MemPlace}, DataW.trod enc Tryz.prog W base sp held fuel 30 cs = some y → ∃ e : Ex, IsE (full W) e cs := by
  intro fuel
  induction fuel using Nat.strongRecOn with
  | _ fuel ih =>
    intro cs y h
    obtain ⟨xs, n, rfl, _, hl, _, hf⟩ := DataW.trod_struct Tryz.underlying30 h
    obtain ⟨c0, c1, c2, c3, c4, c5, rfl⟩ := list6 (hl.trans (by kernel_rfl))
    have k0 : Tryz.prog.cellsOf 3 = 1 := by kernel_rfl
    have k1 : Tryz.prog.cellsOf 27 = 3 := by kernel_rfl
    have k2 : Tryz.prog.cellsOf 9 = 1 := by kernel_rfl
    have k3 : Tryz.prog.cellsOf 28 = 1 := by kernel_rfl
    have hxl : xs.length = 4 := by assumption
    obtain ⟨x0, x1, x2, x3, rfl⟩ := list4 hxl
    have f0 := hf 0 _ rfl
    have f1 := hf 1 _ rfl
    have f2 := hf 2 _ rfl
    have f3 := hf 3 _ rfl
    simp only [List.getElem?_cons_zero, List.getElem?_cons_succ] at f0 f1 f2 f3
    obtain ⟨z, hz, _⟩ := DataW.trod_int Tryz.underlying3 f0
    obtain ⟨s, A, qn, c, B, qm, d, q, hq, uq⟩ := ratio_cells f1
    obtain ⟨nm, hnm⟩ := str_cells f2
    cases hz
    cases hq
    cases hnm
    rcases DataW.trod_slice Tryz.underlying28 f3 with ⟨hs, _⟩ | ⟨a, len, cap, elems, rest, n', rfl, hs, _, _, hlc, _, hel, hcs, _, _⟩
    · cases hs
      refine ⟨.mk z q qn qm nm [], ?_⟩
      unfold IsE
      exact ⟨s, A, c, B, d, none, 0, rfl, uq, Nat.le_refl _, fun hn => absurd rfl hn⟩
    · cases hs
      have k6 : Tryz.prog.cellsOf 30 = 6 := by kernel_rfl
      rw [k6] at hcs
      have hc : ∀ i, i < len → ∃ C : List Value, W.cells? base (a.add (i * 6)) 6 = some C ∧ ∃ e : Ex, IsE (full W) e C := fun i hi => by
        have h1 := hcs i hi
        rw [List.getElem?_eq_getElem (by omega)] at h1
        obtain ⟨C, hC, ht⟩ := Option.bind_eq_some_iff.1 h1
        exact ⟨C, hC, ih n' (by omega) ht⟩
      obtain ⟨C, hC⟩ := Go.Deep.choose_lt hc
      obtain ⟨es, hesl, hes⟩ := list_of (α := Ex) (n := len) (p := fun i e => IsE (full W) e (C i)) (fun i hi => (hC i hi).2)
      refine ⟨.mk z q qn qm nm es, ?_⟩
      unfold IsE
      rw [hesl]
      refine ⟨s, A, c, B, d, some a, cap, rfl, uq, hlc, fun hn => ?_⟩
      have hlen : 0 < len := by
        rw [← hesl]
        exact List.length_pos_iff.2 hn
      obtain ⟨b, hsp, hb, hrow⟩ := row_block (by omega) hlen (fun i hi => (hC i hi).1)
      refine ⟨a, b, rfl, hsp, hb, ?_, IsEs_of fun i e he => ?_⟩
      · have h1 := congrArg List.length (hrow (len - 1) (by omega))
        rw [List.length_take, List.length_drop, (World.cells?_some (hC (len - 1) (by omega)).1).2.1] at h1
        omega
      · have hi : i < len := by rw [← hesl]; exact (List.getElem?_eq_some_iff.1 he).1
        rw [List.drop_drop, hrow i hi]
        exact hes i e he

set_option maxRecDepth 100000 in
theorem expr_arg {r : Reach} {b0 : Nat} {v : Value} {d : DataW H} {p : List MemPlace} (hval : Value.okWide Tryz.prog W r b0 30 v) (h : DataW.Trod enc Tryz.prog W base sp held 30 v d p) :
    ∃ (e : Ex) (vs : List Value), v = .agg vs.toArray ∧ IsE (full W) e vs := by
  obtain ⟨cs, rfl, hsz⟩ := okWide_struct Tryz.underlying30 hval
  obtain ⟨fuel, hf⟩ := h
  obtain ⟨e, he⟩ := expr_cells fuel hf
  exact ⟨e, cs.toList, by simp, he⟩

end
end Go.Proofs.YtdpdaphholileaaGreatDoor
