/-
  Contracts: references 01.Of, 02.Of, 03.Whole; the chapter's examples.
-/
import Derived.Test.YtfhipkdcekffaaaGreatDoorCn14
import Derived.Test.YtfhipkdcekffaaaGreatDoorVcL
import Derived.Laws.Strings
namespace Go.Proofs.YtfhipkdcekffaaaGreatDoor
open Go Go.Vcg
attribute [local irreducible] Br

theorem lv_one1 (y : Nat) : Go.Vcg.one (lv y) = true := rfl

theorem Sl.u32 {h : Heap} {A : Option Addr} {n c : Nat} {xs : List Nat} (u : Sl lv h A n c xs) (hlt : ∀ x ∈ xs, x < 4294967296) : U32 h A n c xs := ⟨u.len, u.cap, hlt, u.mem⟩

theorem r1of_c (n : Nat) (hn : n < 18446744073709551616) (h : Heap) :
    CallsU Tryz.prog 36 [.int .u64 n] h fun r h' => ∃ A m c, r = .slice A m c ∧ m ≤ 2 ∧ NmN h' A m c n ∧ Le h h' := by
  apply ref01_Of_ok
  have hB : B32 = 4294967296 := rfl
  refine ⟨fun m x oA on oc h' => ∃ gs : List Nat, x = (m : Int) ∧ val gs + B32 ^ gs.length * m = n ∧ (∀ y ∈ gs, y < 4294967296) ∧ (m = 0 → Nrm gs) ∧ gs.length ≤ 2 ∧ OwnE lv 76 h h' oA on oc gs ∧ Le h h', ⟨n, [], rfl, by simp [val], by simp, fun _ => nrm_nil, by simp, OwnE.nil h, Le.refl h⟩, ?_⟩
  rintro m _ oA on oc h1 ⟨gs, rfl, hval, hlt, hnz, hlen, own, hle⟩
  have hon := own.1
  refine Br.mk (fun q => ?_) (fun q => ?_)
  · have q' : 0 < m := by simp at q; omega
    have hl1 : gs.length ≤ 1 := by
      rcases Nat.lt_or_ge gs.length 2 with a | a
      · omega
      · exfalso
        have e : gs.length = 2 := by omega
        rw [e, hB] at hval
        omega
    have hm : m ≤ n := by
      have : 1 * m ≤ B32 ^ gs.length * m := Nat.mul_le_mul_right _ (Nat.pow_pos (by decide))
      omega
    rintro _ rfl g0 _ hg0 rfl
    have e1 : IntKind.u32.wrap (Int.tmod (m : Int) 4294967296) = ((m % 4294967296 : Nat) : Int) := by
      rw [Int.tmod_eq_emod_of_nonneg (by omega), wrap_u32_mod]; omega
    rw [e1]
    refine own.app (x := m % 4294967296) (z := 0) (bs := 4) (K := fun A c hh => ∀ t : Int, t = IntKind.u64.wrap (Int.tdiv (m : Int) 4294967296) → ∃ m', m' < m ∧ ∃ gs : List Nat, t = (m' : Int) ∧ val gs + B32 ^ gs.length * m' = n ∧ (∀ y ∈ gs, y < 4294967296) ∧ (m' = 0 → Nrm gs) ∧ gs.length ≤ 2 ∧ OwnE lv 76 h hh A (on + 1) c gs ∧ Le h hh) hle lv_one1 rfl rfl hg0 (by omega) ?_
    intro A' c' h' o l _
    rintro _ rfl
    have e2 : IntKind.u64.wrap (Int.tdiv (m : Int) 4294967296) = ((m / 4294967296 : Nat) : Int) := by
      rw [Int.tdiv_eq_ediv_of_nonneg (by omega), wrap_u64_mod]; omega
    rw [e2]
    refine ⟨_, Nat.div_lt_self q' (by decide), gs ++ [m % 4294967296], rfl, ?_, ?_, ?_, by simp; omega, o, l⟩
    · rw [val_append, List.length_append, List.length_singleton, Nat.pow_succ, ← hval]
      simp only [val, Nat.mul_zero, Nat.add_zero]
      have h2 := Nat.mod_add_div m 4294967296
      rw [hB] at *
      generalize 4294967296 ^ gs.length = M at *
      rw [Nat.mul_assoc, Nat.add_assoc, ← Nat.mul_add, h2]
    · intro y hy
      rcases List.mem_append.1 hy with a | a
      · exact hlt y a
      · rw [List.mem_singleton.1 a]; exact Nat.mod_lt _ (by decide)
    · intro e
      simp only [Nrm, List.getLast?_append, List.getLast?_singleton, Option.some_or, ne_eq, Option.some.injEq]
      omega
  · have q' : m = 0 := by simp at q; omega
    subst q'
    rw [Nat.mul_zero, Nat.add_zero] at hval
    exact ⟨_, _, _, rfl, by omega, ⟨gs, own.sl.u32 hlt, hval, hnz rfl⟩, hle⟩

theorem r2of_c (z : Int) (h1 : -9223372036854775808 ≤ z) (h2 : z < 9223372036854775808) (h : Heap) :
    CallsU Tryz.prog 35 [.int .i64 z] h fun r h' => ∃ s' A' k c', r = .agg #[.bool s', .slice A' k c'] ∧ NmI h' s' A' k c' z ∧ k ≤ 2 ∧ Le h h' := by
  apply ref02_Of_ok
  refine Br.mk (fun q => ?_) (fun q => ?_)
  · have hz : z < 0 := by simpa using q
    rintro _ rfl _ rfl _ rfl
    have e : IntKind.u64.wrap (IntKind.u64.wrap (IntKind.i64.wrap (0 - IntKind.i64.wrap (z + 1))) + 1) = ((z.natAbs : Nat) : Int) := by
      rw [wrap_i64 (x := z + 1) (by omega) (by omega), wrap_i64 (by omega) (by omega), wrap_u64 (x := 0 - (z + 1)) (by omega) (by omega), wrap_u64 (by omega) (by omega)]; omega
    rw [e]
    refine (r1of_c z.natAbs (by omega) h).mono ?_
    rintro _ h1 ⟨A, m, c, rfl, hm, hN, hl⟩
    exact ⟨_, _, _, rfl, _, _, _, _, rfl, ⟨hN, by simp [hz]⟩, hm, hl⟩
  · have hz : 0 ≤ z := by simpa using q
    rw [wu (n := z.natAbs) (by omega) (by omega)]
    refine (r1of_c z.natAbs (by omega) h).mono ?_
    rintro _ h1 ⟨A, m, c, rfl, hm, hN, hl⟩
    exact ⟨_, _, _, rfl, _, _, _, _, rfl, ⟨hN, by simp; omega⟩, hm, hl⟩

theorem whole_c (z : Int) (h1 : -9223372036854775808 ≤ z) (h2 : z < 9223372036854775808) (h : Heap) :
    CallsU Tryz.prog 14 [.int .i64 z] h fun r h' => ∃ s' A' n' c' B' m' d', r = .agg #[.bool s', .slice A' n' c', .slice B' m' d'] ∧ NmQ h' s' A' n' c' B' m' d' (z : Rat) ∧ n' ≤ 2 ∧ m' ≤ 2 ∧ Le h h' := by
  apply ref03_Whole_ok
  refine (r2of_c z h1 h2 h).mono ?_
  rintro _ h1 ⟨s, A, k, c, rfl, hI, hk, hl⟩
  refine ⟨_, _, _, _, rfl, (r1of_c 1 (by omega) h1).mono ?_⟩
  rintro _ h2 ⟨B, m, d, rfl, hm, hN, hl2⟩
  exact ⟨_, _, _, rfl, _, _, _, _, _, _, _, rfl, ⟨hI.mono hl2, hN⟩, hk, hm, hl.trans hl2⟩

theorem toList_mk (l : List UInt8) : (⟨l.toArray⟩ : ByteArray).toList = l := by
  rw [ByteArray.toList_eq]

theorem fmt_any {q : Rat} (hq : max q.num.natAbs q.den < 100) (r : Nat) (h' : Heap) (hr : r ≤ max q.num.natAbs q.den) : CallsU Tryz.prog 69 [.int .u64 r, .int .i64 10] h' fun s h'' => s = sv (Lib.decDigits r) ∧ h' = h'' :=
  fmt_small_c r (by omega) h'

theorem ex_pAc1 : rtx (pAc 3 1 5 2) = [55, 47, 49, 48] := by decide +kernel
theorem ex_pEx : rtx (pEx 3 5 2 2) = [51, 47, 49, 48] := by decide +kernel
theorem ex_pAc2 : rtx (pAc 2 0 4 2) = [49, 47, 54] := by decide +kernel
theorem ex_small1 : max (pAc 3 1 5 2).num.natAbs (pAc 3 1 5 2).den < 100 := by decide +kernel
theorem ex_small2 : max (pEx 3 5 2 2).num.natAbs (pEx 3 5 2 2).den < 100 := by decide +kernel
theorem ex_small3 : max (pAc 2 0 4 2).num.natAbs (pAc 2 0 4 2).den < 100 := by decide +kernel
theorem ex_asc : asc ((shuf 7 3).2.take 3) = [0, 1, 2] := by
  rw [asc_eq (shuf_perm 7 3)]
  have hp := shuf_perm 7 3
  have hl := shuf_len 7 3
  rw [List.take_of_length_le (by omega)]
  rw [List.filter_eq_self.2]
  · rfl
  · intro x hx
    rw [decide_eq_true]
    exact hp.mem_iff.2 hx

theorem example_c (h : Heap) : CallsU Tryz.prog 7 [] h fun r h' => r = .bool true ∧ Le h h' := by
  apply law53_exampleHolds_ok
  refine (accept_c (n := 3) (c := 1) (lot := 5) (def_ := 2) (by decide) (by decide) h).mono ?_
  rintro _ h1 ⟨s1, A1, n1, c1, B1, m1, d1, rfl, q1, b1, b1', l1⟩
  refine ⟨_, _, _, _, _, _, _, _, rfl, (exactly_c (n := 3) (c := 1) (lot := 5) (def_ := 2) (found := 2) (by decide) (by decide) (by decide) h1).mono ?_⟩
  rintro _ h2 ⟨s2, A2, n2, c2, B2, m2, d2, rfl, q2, b2, b2', l2⟩
  refine ⟨_, _, _, _, _, _, _, _, rfl, (accept_c (n := 2) (c := 0) (lot := 4) (def_ := 2) (by decide) (by decide) h2).mono ?_⟩
  rintro _ h3 ⟨s3, A3, n3, c3, B3, m3, d3, rfl, q3, b3, b3', l3⟩
  refine ⟨_, _, _, _, _, _, _, _, rfl, (decide_c 3 1 1 h3).mono ?_⟩
  rintro _ _ ⟨rfl, rfl⟩
  refine ⟨_, _, rfl, (decide_c 3 1 2 h3).mono ?_⟩
  rintro _ _ ⟨rfl, rfl⟩
  refine ⟨_, _, rfl, (draw_c 7 3 1 3 h3).mono ?_⟩
  rintro _ h4 (⟨e, _⟩ | ⟨_, A4, k4, rfl, hs, l4⟩)
  · exact absurd e (by decide)
  have e1 : decR 3 1 1 = (true, 0) := by decide
  have e2 : decR 3 1 2 = (false, 0) := by decide
  rw [e1, e2]
  refine ⟨_, _, _, _, _, rfl, fun b h' => b = false ∧ h4 = h', ?_, ?_⟩
  · rintro _ _ ⟨rfl, rfl⟩
    refine Br.mk (fun q => by cases q) (fun _ => ?_)
    refine (rtext_c ((q1.mono ((l2.trans l3).trans l4)).is) (by omega) (by omega) fun r h' a _ _ => fmt_any ex_small1 r h' a).mono ?_
    rintro _ h5 ⟨rfl, l5⟩
    refine ⟨_, rfl, ?_⟩
    rw [toList_mk, ex_pAc1, ByteArray.toList_eq]
    refine Br.mk (fun _ => ?_) (fun q => by exact absurd q (by decide))
    refine (rtext_c ((q2.mono ((l3.trans l4).trans l5)).is) (by omega) (by omega) fun r h' a _ _ => fmt_any ex_small2 r h' a).mono ?_
    rintro _ h6 ⟨rfl, l6⟩
    refine ⟨_, rfl, ?_⟩
    rw [toList_mk, ex_pEx, ByteArray.toList_eq]
    refine Br.mk (fun _ => ?_) (fun q => by exact absurd q (by decide))
    refine (rtext_c ((q3.mono ((l4.trans l5).trans l6)).is) (by omega) (by omega) fun r h' a _ _ => fmt_any ex_small3 r h' a).mono ?_
    rintro _ h7 ⟨rfl, l7⟩
    refine ⟨_, rfl, ?_⟩
    rw [toList_mk, ex_pAc2, ByteArray.toList_eq]
    refine Br.mk (fun _ => ?_) (fun q => by exact absurd q (by decide))
    refine Br.mk (fun _ => Br.mk (fun _ => ?_) (fun q => by cases q)) (fun q => by cases q)
    rintro g h8 hg rfl
    have l8 := Le.new hg ⟨[Value.int .i64 0, Value.int .i64 1, Value.int .i64 2], 3, (0, 0)⟩
    have s8 : Sl iv (h7.put g ⟨[Value.int .i64 0, Value.int .i64 1, Value.int .i64 2], 3, (0, 0)⟩) (some ⟨g, 0, none⟩) 3 3 [0, 1, 2] :=
      Sl.of_blk (enc := iv) (ys := [0, 1, 2]) (m := 3) (Heap.put_same _ _ _) (by simp) (by omega)
    refine (sameInts_c (hs.mono (((l5.trans l6).trans l7).trans l8)) s8 (by decide)).mono ?_
    rintro _ _ ⟨rfl, rfl⟩
    refine ⟨_, rfl, ?_, (((((((l1.trans l2).trans l3).trans l4).trans l5).trans l6).trans l7).trans l8)⟩
    rw [decide_eq_true]
    exact ex_asc
  · refine Br.mk (fun q => by cases q) (fun _ => Br.mk (fun q => by cases q) (fun _ => Br.mk (fun q => by cases q) (fun _ => Br.mk (fun q => by cases q) (fun _ => Br.mk (fun q => by cases q) (fun _ => Br.mk (fun q => by cases q) (fun _ => ?_))))))
    refine (check_c 3 3 9 h4).mono ?_
    rintro _ _ ⟨rfl, rfl⟩
    refine ⟨_, rfl, ?_⟩
    have e3 : chkR 3 3 9 = 3 := by decide
    have e4 : chkR 3 1 201 = 3 := by decide
    rw [e3]
    refine Br.mk (fun q => by cases q) (fun _ => (check_c 3 1 201 h4).mono ?_)
    rintro _ _ ⟨rfl, rfl⟩
    refine ⟨_, rfl, ?_⟩
    rw [e4]
    exact ⟨rfl, rfl⟩
end Go.Proofs.YtfhipkdcekffaaaGreatDoor
