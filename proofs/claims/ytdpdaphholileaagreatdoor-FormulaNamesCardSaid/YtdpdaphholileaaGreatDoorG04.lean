/-
  Gathered texts of this proof: Cn7, Cn8, VcI, VcQ, Cn9, VcS, Cn10, Lib2, VcX.
-/
import Derived.Test.YtdpdaphholileaaGreatDoorG03
import Derived.Test.YtdpdaphholileaaGreatDoorG02
import Derived.Test.YtdpdaphholileaaGreatDoorChecked

/-
  Contracts: math/bits: Len32, LeadingZeros32.
-/
namespace Go.Proofs.YtdpdaphholileaaGreatDoor
open Go Go.Vcg
attribute [local irreducible] Br

/-- What the table of Len8 says of a byte. -/
def lenOk (b : Nat) (o : Option UInt8) : Bool :=
  match o with
  | some c => decide (b < 2 ^ c.toNat) && decide (c.toNat ≤ 8) && (b == 0 || decide (1 ≤ c.toNat ∧ 2 ^ (c.toNat - 1) ≤ b))
  | none => false

theorem len8_tab : ∀ b, b < 256 → lenOk b ((⟨#[0, 1, 2, 2, 3, 3, 3, 3, 4, 4, 4, 4, 4, 4, 4, 4, 5, 5, 5, 5, 5, 5, 5, 5, 5, 5, 5, 5, 5, 5, 5, 5, 6, 6, 6, 6, 6, 6, 6, 6, 6, 6, 6, 6, 6, 6, 6, 6, 6, 6, 6, 6, 6, 6, 6, 6, 6, 6, 6, 6, 6, 6, 6, 6, 7, 7, 7, 7, 7, 7, 7, 7, 7, 7, 7, 7, 7, 7, 7, 7, 7, 7, 7, 7, 7, 7, 7, 7, 7, 7, 7, 7, 7, 7, 7, 7, 7, 7, 7, 7, 7, 7, 7, 7, 7, 7, 7, 7, 7, 7, 7, 7, 7, 7, 7, 7, 7, 7, 7, 7, 7, 7, 7, 7, 7, 7, 7, 7, 8, 8, 8, 8, 8, 8, 8, 8, 8, 8, 8, 8, 8, 8, 8, 8, 8, 8, 8, 8, 8, 8, 8, 8, 8, 8, 8, 8, 8, 8, 8, 8, 8, 8, 8, 8, 8, 8, 8, 8, 8, 8, 8, 8, 8, 8, 8, 8, 8, 8, 8, 8, 8, 8, 8, 8, 8, 8, 8, 8, 8, 8, 8, 8, 8, 8, 8, 8, 8, 8, 8, 8, 8, 8, 8, 8, 8, 8, 8, 8, 8, 8, 8, 8, 8, 8, 8, 8, 8, 8, 8, 8, 8, 8, 8, 8, 8, 8, 8, 8, 8, 8, 8, 8, 8, 8, 8, 8, 8, 8, 8, 8, 8, 8, 8, 8, 8, 8, 8, 8, 8, 8, 8, 8, 8, 8, 8, 8]⟩ : ByteArray)[b]?) = true := by decide +kernel

theorem len8 {b : Nat} (h : b < 256) : ∃ c : UInt8, (⟨#[0, 1, 2, 2, 3, 3, 3, 3, 4, 4, 4, 4, 4, 4, 4, 4, 5, 5, 5, 5, 5, 5, 5, 5, 5, 5, 5, 5, 5, 5, 5, 5, 6, 6, 6, 6, 6, 6, 6, 6, 6, 6, 6, 6, 6, 6, 6, 6, 6, 6, 6, 6, 6, 6, 6, 6, 6, 6, 6, 6, 6, 6, 6, 6, 7, 7, 7, 7, 7, 7, 7, 7, 7, 7, 7, 7, 7, 7, 7, 7, 7, 7, 7, 7, 7, 7, 7, 7, 7, 7, 7, 7, 7, 7, 7, 7, 7, 7, 7, 7, 7, 7, 7, 7, 7, 7, 7, 7, 7, 7, 7, 7, 7, 7, 7, 7, 7, 7, 7, 7, 7, 7, 7, 7, 7, 7, 7, 7, 8, 8, 8, 8, 8, 8, 8, 8, 8, 8, 8, 8, 8, 8, 8, 8, 8, 8, 8, 8, 8, 8, 8, 8, 8, 8, 8, 8, 8, 8, 8, 8, 8, 8, 8, 8, 8, 8, 8, 8, 8, 8, 8, 8, 8, 8, 8, 8, 8, 8, 8, 8, 8, 8, 8, 8, 8, 8, 8, 8, 8, 8, 8, 8, 8, 8, 8, 8, 8, 8, 8, 8, 8, 8, 8, 8, 8, 8, 8, 8, 8, 8, 8, 8, 8, 8, 8, 8, 8, 8, 8, 8, 8, 8, 8, 8, 8, 8, 8, 8, 8, 8, 8, 8, 8, 8, 8, 8, 8, 8, 8, 8, 8, 8, 8, 8, 8, 8, 8, 8, 8, 8, 8, 8, 8, 8, 8, 8]⟩ : ByteArray)[b]? = some c ∧ b < 2 ^ c.toNat ∧ c.toNat ≤ 8 ∧ (b ≠ 0 → 1 ≤ c.toNat ∧ 2 ^ (c.toNat - 1) ≤ b) := by
  have := len8_tab b h
  generalize (⟨#[0, 1, 2, 2, 3, 3, 3, 3, 4, 4, 4, 4, 4, 4, 4, 4, 5, 5, 5, 5, 5, 5, 5, 5, 5, 5, 5, 5, 5, 5, 5, 5, 6, 6, 6, 6, 6, 6, 6, 6, 6, 6, 6, 6, 6, 6, 6, 6, 6, 6, 6, 6, 6, 6, 6, 6, 6, 6, 6, 6, 6, 6, 6, 6, 7, 7, 7, 7, 7, 7, 7, 7, 7, 7, 7, 7, 7, 7, 7, 7, 7, 7, 7, 7, 7, 7, 7, 7, 7, 7, 7, 7, 7, 7, 7, 7, 7, 7, 7, 7, 7, 7, 7, 7, 7, 7, 7, 7, 7, 7, 7, 7, 7, 7, 7, 7, 7, 7, 7, 7, 7, 7, 7, 7, 7, 7, 7, 7, 8, 8, 8, 8, 8, 8, 8, 8, 8, 8, 8, 8, 8, 8, 8, 8, 8, 8, 8, 8, 8, 8, 8, 8, 8, 8, 8, 8, 8, 8, 8, 8, 8, 8, 8, 8, 8, 8, 8, 8, 8, 8, 8, 8, 8, 8, 8, 8, 8, 8, 8, 8, 8, 8, 8, 8, 8, 8, 8, 8, 8, 8, 8, 8, 8, 8, 8, 8, 8, 8, 8, 8, 8, 8, 8, 8, 8, 8, 8, 8, 8, 8, 8, 8, 8, 8, 8, 8, 8, 8, 8, 8, 8, 8, 8, 8, 8, 8, 8, 8, 8, 8, 8, 8, 8, 8, 8, 8, 8, 8, 8, 8, 8, 8, 8, 8, 8, 8, 8, 8, 8, 8, 8, 8, 8, 8, 8, 8]⟩ : ByteArray)[b]? = o at this
  cases o with
  | none => cases this
  | some c =>
    simp only [lenOk, Bool.and_eq_true, decide_eq_true_eq, Bool.or_eq_true, beq_iff_eq] at this
    exact ⟨c, rfl, this.1.1, this.1.2, fun hb => this.2.resolve_left hb⟩

/-- t is the number of binary digits of x. -/
def IsLen (x t : Nat) : Prop := x < 2 ^ t ∧ (x ≠ 0 → 1 ≤ t ∧ 2 ^ (t - 1) ≤ x)

theorem IsLen.shift {x t k : Nat} (h : IsLen (x / 2 ^ k) t) (hk : 2 ^ k ≤ x) : IsLen x (k + t) := by
  have hp : 0 < 2 ^ k := Nat.pow_pos (by decide)
  have h1 : x / 2 ^ k ≠ 0 := by have := (Nat.le_div_iff_mul_le hp).2 (by rw [Nat.one_mul]; exact hk : 1 * 2 ^ k ≤ x); omega
  have h2 := h.2 h1
  refine ⟨?_, fun _ => ⟨by omega, ?_⟩⟩
  · rw [Nat.pow_add, Nat.mul_comm]; exact (Nat.div_lt_iff_lt_mul hp).1 h.1
  · rw [show k + t - 1 = (t - 1) + k from by omega, Nat.pow_add]
    exact (Nat.le_div_iff_mul_le hp).1 h2.2

theorem fdivP {a : Int} {n k : Nat} (h : a = n) : Int.fdiv a (2 ^ k) = ((n / 2 ^ k : Nat) : Int) := by
  have e : ((2 : Int) ^ k) = ((2 ^ k : Nat) : Int) := by simp
  rw [h, e, Int.fdiv_eq_ediv_of_nonneg _ (Int.natCast_nonneg _)]
  rfl

theorem w8 {a : Int} {n : Nat} (h : a = n) (hn : n < 256) : IntKind.u8.wrap a = n := by rw [h, IntKind.wrap_u8]; omega

theorem len32_c (x : Nat) (hx : x < B32) (h : Heap) : CallsU Tryz.prog 118 [.int .u32 x] h fun r h' => ∃ t : Nat, r = .int .i64 t ∧ t ≤ 32 ∧ IsLen x t ∧ h = h' := by
  have hB : B32 = 4294967296 := rfl
  apply math_bits_Len32_ok
  refine ⟨fun y n h' => ∃ (yN k : Nat), y = (yN : Int) ∧ n = (k : Int) ∧ h = h' ∧ yN < 65536 ∧ k ≤ 16 ∧ (∀ t, IsLen yN t → IsLen x (k + t)), ?_, ?_⟩
  · rintro _ _ _ ⟨y, k, rfl, rfl, rfl, hy, hk, hI⟩
    refine Br.mk (fun q => ?_) (fun q => ?_)
    · have q' : 256 ≤ y := by simp at q; omega
      rintro _ rfl _ rfl
      rw [fdivP rfl, w8 rfl (by omega), Int.toNat_natCast]
      obtain ⟨c, e, c1, c2, c3⟩ := len8 (b := y / 2 ^ 8) (by omega)
      refine ⟨c, by omega, e, ?_⟩
      rintro _ rfl
      clear e
      rw [wi (a := (k : Int) + 8) (n := k + 8) (by omega) (by omega), wi (a := (c.toNat : Int)) (n := c.toNat) (by omega) (by omega), wi (n := k + (8 + c.toNat)) (by omega) (by omega)]
      exact ⟨_, rfl, by omega, hI _ (IsLen.shift ⟨c1, c3⟩ (by omega)), rfl⟩
    · have q' : y < 256 := by simp at q; omega
      rw [w8 rfl (by omega), Int.toNat_natCast]
      obtain ⟨c, e, c1, c2, c3⟩ := len8 (b := y) (by omega)
      refine ⟨c, by omega, e, ?_⟩
      rintro _ rfl
      clear e
      rw [wi (a := (c.toNat : Int)) (n := c.toNat) (by omega) (by omega), wi (n := k + c.toNat) (by omega) (by omega)]
      exact ⟨_, rfl, by omega, hI _ ⟨c1, c3⟩, rfl⟩
  · refine Br.mk (fun q => ?_) (fun q => ?_)
    · have q' : 65536 ≤ x := by simp at q; omega
      rintro _ rfl
      refine ⟨x / 2 ^ 16, 16, by rw [fdivP rfl], rfl, rfl, by omega, by omega, fun t ht => IsLen.shift ht (by omega)⟩
    · have q' : x < 65536 := by simp at q; omega
      exact ⟨x, 0, rfl, rfl, rfl, q', by omega, fun t ht => by rwa [Nat.zero_add]⟩

theorem lead32_c (x : Nat) (hx : x < B32) (h : Heap) : CallsU Tryz.prog 149 [.int .u32 x] h fun r h' => ∃ t : Nat, r = .int .i64 ((32 - t : Nat) : Int) ∧ t ≤ 32 ∧ IsLen x t ∧ h = h' := by
  apply math_bits_LeadingZeros32_ok
  refine (len32_c x hx h).mono ?_
  rintro _ _ ⟨t, rfl, ht, hl, rfl⟩
  refine ⟨_, rfl, ?_⟩
  rintro _ rfl
  exact ⟨t, by rw [wi (n := 32 - t) (by omega) (by omega)], ht, hl, rfl⟩
end Go.Proofs.YtdpdaphholileaaGreatDoor

/-
  Contracts: natural: DivMod.
-/
namespace Go.Proofs.YtdpdaphholileaaGreatDoor
open Go Go.Vcg
attribute [local irreducible] Br

/-! ### the long division, on lists -/
theorem dm_split (us : List Nat) (i k : Nat) : us = us.take i ++ (us.drop i).take k ++ us.drop (i + k) := by
  rw [List.append_assoc, ← List.drop_drop, List.take_append_drop, List.take_append_drop]

theorem dm_win {us : List Nat} {i m V : Nat} (hl : i + m + 1 ≤ us.length) (hus : ∀ x ∈ us, x < B32) (hV : V < B32 ^ m) (hr : val (us.drop (i + 1)) < V) :
    ((us.drop i).take (m + 1)).length = m + 1 ∧ val ((us.drop i).take (m + 1)) < B32 * V ∧ val (us.drop (i + (m + 1))) = 0 := by
  have hwl : ((us.drop i).take (m + 1)).length = m + 1 := by simp; omega
  have hi := getD_ltB hus i
  have e1 : val (us.drop i) = us.getD i 0 + B32 * val (us.drop (i + 1)) := val_drop_cons (by omega)
  have e2 : val (us.drop i) = val ((us.drop i).take (m + 1)) + B32 ^ (m + 1) * val (us.drop (i + (m + 1))) := by
    have := val_split (xs := us.drop i) (k := m + 1) (by simp; omega)
    rwa [List.drop_drop] at this
  have h3 : val (us.drop i) < B32 * V := by
    have : B32 * (val (us.drop (i + 1)) + 1) ≤ B32 * V := Nat.mul_le_mul_left _ hr
    rw [Nat.mul_add] at this
    omega
  have h4 : B32 * V ≤ B32 ^ (m + 1) := by rw [Nat.pow_succ, Nat.mul_comm]; exact Nat.mul_le_mul_right _ (Nat.le_of_lt hV)
  refine ⟨hwl, by omega, ?_⟩
  generalize B32 ^ (m + 1) = M at *
  rcases Nat.eq_zero_or_pos (val (us.drop (i + (m + 1)))) with h0 | h0
  · exact h0
  · have := Nat.mul_le_mul_left M h0
    omega

theorem dm_new {us w' : List Nat} {i m V : Nat} (hl : i + m + 1 ≤ us.length) (hV : 0 < V) (hwl : ((us.drop i).take (m + 1)).length = m + 1) (hs : val (us.drop (i + (m + 1))) = 0) (hw'l : w'.length = m + 1)
    (hw' : val w' = val ((us.drop i).take (m + 1)) % V) :
    val (us.take i ++ w' ++ us.drop (i + (m + 1))) + B32 ^ i * ((val ((us.drop i).take (m + 1)) / V) * V) = val us ∧ val ((us.take i ++ w' ++ us.drop (i + (m + 1))).drop i) < V ∧
      (us.take i ++ w' ++ us.drop (i + (m + 1))).length = us.length := by
  have hti : (us.take i).length = i := by simp; omega
  refine ⟨?_, ?_, ?_⟩
  · conv => rhs; rw [dm_split us i (m + 1)]
    rw [List.append_assoc, List.append_assoc, val_append, val_append, val_append, val_append, hs, hti, Nat.mul_zero, Nat.mul_zero, Nat.add_zero, Nat.add_zero, hw', Nat.add_assoc, ← Nat.mul_add]
    rw [Nat.mul_comm _ V, Nat.mod_add_div]
    simp only [Nat.add_zero]
  · rw [List.append_assoc, List.drop_append_of_le_length (by omega), List.drop_of_length_le (by omega), List.nil_append, val_append, hs, Nat.mul_zero, Nat.add_zero, hw']
    exact Nat.mod_lt _ hV
  · simp [hw'l]; omega

theorem dm_inv {us us' qs : List Nat} {i V q U : Nat} (hq : i < qs.length) (h1 : val us' + B32 ^ i * (q * V) = val us) (hI : val us + B32 ^ (i + 1) * (val (qs.drop (i + 1)) * V) = U) :
    val us' + B32 ^ i * (val ((qs.set i q).drop i) * V) = U := by
  rw [val_drop_cons (by simp; exact hq), getD_set_eq hq, drop_set (by omega), Nat.add_mul, Nat.mul_add, ← Nat.add_assoc, h1]
  rw [Nat.pow_succ] at hI
  rw [← hI]
  congr 1
  generalize B32 ^ i = M
  grind

theorem dm_end {u q x y s : Nat} (hs : 0 < s) (h : u + q * (y * s) = x * s) (hu : u < y * s) : q = x / y ∧ u / s = x % y := by
  have hy : 0 < y := by
    rcases Nat.eq_zero_or_pos y with h0 | h0
    · rw [h0, Nat.zero_mul] at hu; omega
    · exact h0
  have h1 : (x * s) / (y * s) = q := by rw [← h, Nat.add_mul_div_right _ _ (by omega), Nat.div_eq_of_lt hu, Nat.zero_add]
  have h2 : (x * s) % (y * s) = u := by rw [← h, Nat.add_mul_mod_self_right, Nat.mod_eq_of_lt hu]
  rw [Nat.mul_div_mul_right _ _ hs] at h1
  rw [Nat.mul_mod_mul_right] at h2
  exact ⟨h1.symm, by rw [← h2, Nat.mul_div_cancel _ hs]⟩

/-- A number in normal form with two limbs or more. -/
theorem nrm_top {ys : List Nat} {k : Nat} (hy : ∀ x ∈ ys, x < B32) (hn : Nrm ys) (hl : ys.length = k + 1) : ys.getD k 0 ≠ 0 ∧ val ys = val (ys.take k) + B32 ^ k * ys.getD k 0 ∧ val (ys.take k) < B32 ^ k := by
  refine ⟨?_, ?_, val_take_lt hy (by omega)⟩
  · intro h0
    apply hn
    rw [List.getLast?_eq_getElem?, hl, Nat.add_sub_cancel]
    simp only [List.getD_eq_getElem?_getD] at h0
    rw [List.getElem?_eq_getElem (by omega)] at h0 ⊢
    simpa using h0
  · have := val_take_succ (xs := ys) (k := k) (by omega)
    rwa [List.take_of_length_le (by omega)] at this

/-- The divisor, shifted: it fits its limbs, and its top limb is not 0. -/
theorem dm_shift {ys vs : List Nat} {k t : Nat} (hy : ∀ x ∈ ys, x < B32) (hn : Nrm ys) (hl : ys.length = k + 1) (ht : t ≤ 32) (hlen : ys.getD k 0 < 2 ^ t) (hv : val vs = val ys * 2 ^ (32 - t)) (hvs : ∀ x ∈ vs, x < B32) (hvl : vs.length = k + 2) :
    val (vs.take (k + 1)) = val ys * 2 ^ (32 - t) ∧ 1 ≤ (vs.take (k + 1)).getD k 0 ∧ val (vs.take (k + 1)) < B32 ^ (k + 1) ∧ B32 ^ k ≤ val ys := by
  obtain ⟨h1, h2, h3⟩ := nrm_top hy hn hl
  have hp : 0 < 2 ^ (32 - t) := Nat.pow_pos (by decide)
  have hge : B32 ^ k ≤ val ys := by
    have := Nat.mul_le_mul_left (B32 ^ k) (show 1 ≤ ys.getD k 0 by omega)
    omega
  have hlt : val ys * 2 ^ (32 - t) < B32 ^ (k + 1) := by
    have a : val ys < B32 ^ k * 2 ^ t := by
      have := Nat.mul_le_mul_left (B32 ^ k) (show ys.getD k 0 + 1 ≤ 2 ^ t by omega)
      rw [Nat.mul_add] at this
      omega
    have b : val ys * 2 ^ (32 - t) < (B32 ^ k * 2 ^ t) * 2 ^ (32 - t) := Nat.mul_lt_mul_of_pos_right a hp
    rwa [Nat.mul_assoc, ← Nat.pow_add, show t + (32 - t) = 32 from by omega] at b
  have e : val vs = val (vs.take (k + 1)) + B32 ^ (k + 1) * vs.getD (k + 1) 0 := by
    have := val_take_succ (xs := vs) (k := k + 1) (by omega)
    rwa [List.take_of_length_le (by omega)] at this
  have h0 : vs.getD (k + 1) 0 = 0 := by
    rcases Nat.eq_zero_or_pos (vs.getD (k + 1) 0) with z | z
    · exact z
    · have := Nat.mul_le_mul_left (B32 ^ (k + 1)) z
      generalize B32 ^ (k + 1) = M at *
      omega
  rw [h0, Nat.mul_zero, Nat.add_zero] at e
  have e2 : val (vs.take (k + 1)) = val (vs.take k) + B32 ^ k * vs.getD k 0 := val_take_succ (by omega)
  have e3 : val (vs.take k) < B32 ^ k := val_take_lt hvs (by omega)
  have e4 : (vs.take (k + 1)).getD k 0 = vs.getD k 0 := by simp
  refine ⟨by rw [← e, hv], ?_, by rw [← e, hv]; exact hlt, hge⟩
  rw [e4]
  rcases Nat.eq_zero_or_pos (vs.getD k 0) with z | z
  · rw [z, Nat.mul_zero, Nat.add_zero] at e2
    have : val ys * 1 ≤ val ys * 2 ^ (32 - t) := Nat.mul_le_mul_left _ hp
    omega
  · exact z

theorem dm_first {ls : List Nat} {x y s n k : Nat} (hll : ls.length = n + 1) (hv : val ls = x * s) (hx : x < B32 ^ n) (hy : B32 ^ k ≤ y) (hs : 0 < s) (hk : k + 1 ≤ n) : val (ls.drop (n - k)) < y * s := by
  have e := val_split (xs := ls) (k := n - k) (by omega)
  have h1 : B32 ^ (n - k) * val (ls.drop (n - k)) ≤ x * s := by omega
  have h2 : x * s < (B32 ^ (n - k) * B32 ^ k) * s := by
    rw [← Nat.pow_add, show n - k + k = n from by omega]
    exact Nat.mul_lt_mul_of_pos_right hx hs
  have h3 : (B32 ^ (n - k) * B32 ^ k) * s ≤ B32 ^ (n - k) * (y * s) := by
    rw [Nat.mul_assoc]
    exact Nat.mul_le_mul_left _ (Nat.mul_le_mul_right _ hy)
  exact Nat.lt_of_mul_lt_mul_left (Nat.lt_of_le_of_lt h1 (Nat.lt_of_lt_of_le h2 h3))

theorem addr_add0 (g i : Nat) : Addr.add ⟨g, 0, none⟩ (i * 1) = ⟨g, i, none⟩ := by simp [Addr.add]; exact fun e => e.symm

theorem NmN.nil (h : Heap) (A : Option Addr) (c : Nat) : NmN h A 0 c 0 := ⟨[], U32.nil h A c, rfl, nrm_nil⟩

theorem divmod_c {h : Heap} {A B : Option Addr} {n c m d x y : Nat} (ux : IsN h A n c x) (uy : IsN h B m d y) (hn : n ≤ 1099511627776) (hm : m ≤ 1099511627776) (hy : y ≠ 0) :
    CallsU Tryz.prog 100 [.slice A n c, .slice B m d] h fun r h' => ∃ A1 n1 c1 A2 n2 c2, r = .tuple #[.slice A1 n1 c1, .slice A2 n2 c2, .bool true] ∧ NmN h' A1 n1 c1 (x / y) ∧ NmN h' A2 n2 c2 (x % y) ∧ Le h h' := by
  apply natural_DivMod_ok
  have hB : B32 = 4294967296 := rfl
  refine (trim_n ux (by omega)).mono ?_
  rintro _ _ ⟨n', rfl, hn', nx, rfl⟩
  refine ⟨_, _, _, rfl, (trim_n uy (by omega)).mono ?_⟩
  rintro _ _ ⟨m', rfl, hm', ny, rfl⟩
  have hz := NmN.zero_iff ny
  refine ⟨_, _, _, rfl, Br.mk (fun q => by simp at q; omega) (fun q => ?_)⟩
  have hm0 : m' ≠ 0 := fun e => hy (hz.1 e)
  refine (cmp_c nx.is ny.is (by omega) (by omega)).mono ?_
  rintro _ _ ⟨rfl, rfl⟩
  refine ⟨_, rfl, Br.mk (fun q1 => ?_) (fun q1 => ?_)⟩
  · have hlt : x < y := by unfold cmpI at q1; simp at q1; omega
    refine (norm_c nx.is (by omega)).mono ?_
    rintro _ _ ⟨A', k, c', rfl, _, hN, hl⟩
    exact ⟨_, _, _, rfl, _, _, _, _, _, _, rfl, by rw [Nat.div_eq_of_lt hlt]; exact NmN.nil _ _ _, by rw [Nat.mod_eq_of_lt hlt]; exact hN, hl⟩
  · have hge : y ≤ x := by unfold cmpI at q1; simp at q1; omega
    refine Br.mk (fun q2 => ?_) (fun q2 => ?_)
    · have h1 : m' = 1 := by simp at q2; omega
      subst h1
      obtain ⟨ys, uy', ey, _⟩ := ny
      obtain ⟨ad, hA, hld⟩ := uy'.get (i := 0) (by omega)
      have ly := uy'.len
      have hyl : ys.getD 0 0 = y := by
        rw [← ey]
        match ys, ly with
        | [a], _ => simp [val]
      have hyB : y < B32 := by rw [← hyl]; exact uy'.getD_lt 0
      rw [hyl] at hld
      refine ⟨ad, hA, by omega, by omega, _, hld, (short_c nx.is (by omega) (by omega) hyB).mono ?_⟩
      rintro _ h2 ⟨A', k, c', rfl, hN, hl⟩
      refine ⟨_, _, _, _, rfl, ?_⟩
      have hr : x % y < y := Nat.mod_lt _ (by omega)
      rw [wu (n := x % y) rfl (by omega)]
      refine (of_c (x % y) (by omega) h2).mono ?_
      rintro _ h3 ⟨A2, k2, c2, rfl, _, hN2, hl2⟩
      exact ⟨_, _, _, rfl, _, _, _, _, _, _, rfl, hN.mono hl2, hN2, hl.trans hl2⟩
    · have h2 : m' ≠ 1 := by simp at q2; omega
      obtain ⟨k, rfl⟩ : ∃ k, m' = k + 2 := ⟨m' - 2, by omega⟩
      obtain ⟨xs, ux', ex, nrx⟩ := nx
      obtain ⟨ys, uy', ey, nry⟩ := ny
      have lx := ux'.len
      have ly := uy'.len
      have hxs : ∀ z ∈ xs, z < B32 := ux'.lt
      have hys : ∀ z ∈ ys, z < B32 := uy'.lt
      have ht0 := (nrm_top hys nry ly).1
      rintro _ rfl
      rw [wi (n := k + 1) (by omega) (by omega)]
      simp only [Int.toNat_natCast]
      obtain ⟨ad, hA, hld⟩ := uy'.get (i := k + 1) (by omega)
      refine ⟨ad, hA, by omega, by omega, _, hld, (lead32_c _ (uy'.getD_lt _) _).mono ?_⟩
      rintro _ _ ⟨t, rfl, ht, hlen, rfl⟩
      have ht1 := (hlen.2 ht0).1
      refine ⟨_, rfl, (left_c ux' (by omega) (sN := 32 - t) (by omega)).mono ?_⟩
      rintro _ _ ⟨gu, ls, rfl, hgu, rfl, lll, hls, hlv⟩
      refine ⟨_, _, _, rfl, (left_c (uy'.mono (Le.new hgu _)) (by omega) (sN := 32 - t) (by omega)).mono ?_⟩
      rintro _ _ ⟨gv, vs, rfl, hgv, rfl, lvl, hvs, hvv⟩
      obtain ⟨e1, e2, e3, e4⟩ := dm_shift hys nry ly ht hlen.1 hvv hvs lvl
      have hp : 0 < 2 ^ (32 - t) := Nat.pow_pos (by decide)
      have hnk : k + 1 < n' := by
        have h1 : B32 ^ (k + 1) < B32 ^ n' := Nat.lt_of_le_of_lt e4 (by rw [ey]; exact Nat.lt_of_le_of_lt hge (by rw [← ex, ← lx]; exact val_lt hxs))
        exact (Nat.pow_lt_pow_iff_right (by decide)).1 h1
      have hfirst := dm_first (x := x) (y := y) (n := n') (k := k + 1) lll (by rw [hlv, ex]) (by rw [← ex, ← lx]; exact val_lt hxs) (by rw [← ey]; exact e4) hp hnk
      rw [ey] at e1
      rw [ex] at hlv
      have hV0 : 0 < val (vs.take (k + 2)) := by rw [e1]; exact Nat.mul_pos (by omega) hp
      have hvl2 : (vs.take (k + 2)).length = k + 2 := by simp; omega
      have hVlt := e3
      rw [← e1] at hfirst
      refine ⟨_, _, _, rfl, by omega, by omega, ?_⟩
      rintro _ rfl
      rw [wi (n := n' - (k + 1)) (by omega) (by omega)]
      simp only [Int.toNat_natCast]
      refine ⟨by omega, by omega, by omega, by omega, ?_⟩
      rintro g _ hg rfl _ rfl
      have hguv : gu ≠ gv := fun e => by rw [e, Heap.put_same] at hgv; cases hgv
      have hgg : g ≠ gv := fun e => by rw [e, Heap.put_same] at hg; cases hg
      have hggu : g ≠ gu := fun e => by rw [Heap.put_ne _ _ hgg, e, Heap.put_same] at hg; cases hg
      have hg0 : h gv = none := by rw [Heap.put_ne _ _ hguv.symm] at hgv; exact hgv
      have hg1 : h g = none := by rw [Heap.put_ne _ _ hgg, Heap.put_ne _ _ hggu] at hg; exact hg
      have hwin : ∀ (us : List Nat) (i : Nat), i + (k + 2) + 1 ≤ us.length → (∀ x ∈ us, x < B32) → val (us.drop (i + 1)) < val (vs.take (k + 2)) → _ := fun us i a b c => dm_win (m := k + 2) a b e3 c
      have hend : ∀ us : List Nat, us.length = n' + 1 → val us < val (vs.take (k + 2)) → val (us.take (k + 2)) = val us := fun us a b => by
        have e := val_split (xs := us) (k := k + 2) (by omega)
        have e3' : val (vs.take (k + 2)) < B32 ^ (k + 2) := e3
        rcases Nat.eq_zero_or_pos (val (us.drop (k + 2))) with z | z
        · rw [z, Nat.mul_zero, Nat.add_zero] at e; exact e.symm
        · have := Nat.mul_le_mul_left (B32 ^ (k + 2)) z
          generalize B32 ^ (k + 2) = M at *
          omega
      clear e3 e4 hVlt
      generalize hVd : val (vs.take (k + 2)) = V at *
      refine ⟨fun mm i h' => ∃ (us qs : List Nat), i = (mm : Int) - 1 ∧ mm ≤ n' - (k + 1) ∧ us.length = n' + 1 ∧ (∀ z ∈ us, z < B32) ∧ qs.length = n' - (k + 1) ∧ (∀ z ∈ qs, z < B32) ∧
          h' gu = some ⟨us.map lv, 104, (0, 0)⟩ ∧ h' gv = some ⟨vs.map lv, 104, (0, 0)⟩ ∧ h' g = some ⟨qs.map lv, 104, (0, 0)⟩ ∧ Le h h' ∧
          val (us.drop mm) < V ∧ val us + B32 ^ mm * (val (qs.drop mm) * V) = x * 2 ^ (32 - t),
        ⟨n' - (k + 1), ls, List.replicate (n' - (k + 1)) 0, by rw [wrap_i64 (by omega) (by omega)], by omega, lll, hls, by simp, fun x hx => by rw [List.mem_replicate] at hx; rw [hx.2]; decide,
          by rw [Heap.put_ne _ _ hggu.symm, Heap.put_ne _ _ hguv, Heap.put_same], by rw [Heap.put_ne _ _ hgg.symm, Heap.put_same], by rw [Heap.put_same, repV_lv],
          (((Le.new hgu _).put hg0 _).put hg1 _), hfirst, by rw [List.drop_of_length_le (by simp), hlv]; simp [val]⟩, ?_⟩
      rintro mm _ h' ⟨us, qs, rfl, hmm, hul, hus, hql, hqs, hbu, hbv, hbq, hl, hlt, hI⟩
      refine Br.mk (fun z => ?_) (fun z => ?_)
      · have z' : 1 ≤ mm := by simp at z; omega
        obtain ⟨i, rfl⟩ : ∃ i, mm = i + 1 := ⟨mm - 1, by omega⟩
        rw [show ((i + 1 : Nat) : Int) - 1 = (i : Int) from by omega]
        rintro _ rfl _ rfl
        rw [wi (a := (i : Int) + ((k + 2 : Nat) : Int)) (n := i + (k + 2)) (by omega) (by omega), wi (n := i + (k + 2) + 1) (by omega) (by omega)]
        simp only [Int.toNat_natCast]
        rw [show i + (k + 2) + 1 - i = k + 2 + 1 from by omega, if_neg (by omega), Option.map_some, addr_add0]
        obtain ⟨w1, w2, w3⟩ := hwin us i (by omega) hus hlt
        have hbw : h' gu = some (blkW (us.take i) ((us.drop i).take (k + 2 + 1)) (us.drop (i + (k + 2 + 1)))) := by
          show h' gu = some ⟨(us.take i ++ (us.drop i).take (k + 2 + 1) ++ us.drop (i + (k + 2 + 1))).map lv, _, _⟩
          rw [← dm_split]; exact hbu
        have huv := U32.of_blk (m := k + 2) (k := k + 2 + 1) hbv hvs (by omega) (by omega)
        have hdig := digit_c (c := n' + 1 - i) hbw (fun x hx => hus x (List.mem_of_mem_drop (List.mem_of_mem_take hx))) w1 huv (fun ad e => by cases e; exact hguv.symm) (by omega) (by omega) (by simpa using e2) (by rw [hVd]; exact w2)
        rw [show (us.take i).length = i from by simp; omega, hVd] at hdig
        refine ⟨by omega, by omega, by omega, by omega, hdig.mono ?_⟩
        rintro _ _ ⟨rfl, hqlt, w', hw'l, hw', rfl, hw'v⟩
        obtain ⟨n1, n2, n3⟩ := dm_new (by omega) hV0 w1 w3 hw'l hw'v
        generalize val ((us.drop i).take (k + 2 + 1)) / V = q at *
        refine ⟨_, rfl, _, rfl, by omega, by omega, st_own q (rs := qs) ((Heap.put_ne _ _ hggu).trans hbq) (by omega) rfl ?_⟩
        rintro _ rfl
        rw [wrap_i64 (by omega) (by omega)]
        refine ⟨i, by omega, us.take i ++ w' ++ us.drop (i + (k + 2 + 1)), qs.set i q, rfl, by omega, by rw [n3, hul], ?_, by simp [hql], mem_set hqs hqlt, ?_, ?_, Heap.put_same _ _ _, ?_, n2, dm_inv (by omega) n1 hI⟩
        · intro y hy'
          rcases List.mem_append.1 hy' with z1 | z1
          · rcases List.mem_append.1 z1 with z2 | z2
            · exact hus _ (List.mem_of_mem_take z2)
            · exact hw' _ z2
          · exact hus _ (List.mem_of_mem_drop z1)
        · rw [Heap.put_ne _ _ hggu.symm, Heap.put_same]
        · rw [Heap.put_ne _ _ hgg.symm, Heap.put_ne _ _ hguv.symm]; exact hbv
        · exact (hl.put hgu _).put hg1 _
      · have z' : mm = 0 := by simp at z; omega
        subst z'
        rw [List.drop_zero] at hlt hI
        rw [Nat.pow_zero, Nat.one_mul] at hI
        rw [e1] at hlt hI
        obtain ⟨r1, r2⟩ := dm_end hp hI hlt
        have uq := U32.of_blk (m := n' - (k + 1)) (k := n' - (k + 1)) hbq hqs (by omega) (Nat.le_refl _)
        rw [List.take_of_length_le (by omega)] at uq
        refine ⟨by omega, by omega, (trim_n ⟨_, uq, rfl⟩ (by omega)).mono ?_⟩
        rintro _ _ ⟨m2, rfl, hm2, hN, rfl⟩
        have uu := U32.of_blk (m := k + 2) (k := n' + 1) hbu hus (by omega) (by omega)
        refine ⟨_, _, _, rfl, (right_c ⟨_, uu, rfl⟩ (by omega) (by omega)).mono ?_⟩
        rintro _ _ ⟨A2, k2, c2, rfl, hN2, hl2⟩
        rw [hend us hul (by rw [e1]; exact hlt), r2] at hN2
        rw [r1] at hN
        exact ⟨_, _, _, rfl, _, _, _, _, _, _, rfl, hN.mono hl2, hN2, hl.trans hl2⟩
end Go.Proofs.YtdpdaphholileaaGreatDoor

/- Made by vcgen.py: verification conditions of functions, each held against the calculator by the kernel. -/
namespace Go.Proofs.YtdpdaphholileaaGreatDoor
open Go Go.Vcg

def integer_Cmp_vc (a_0 : Bool) (a_1A : Option Addr) (a_1n a_1c : Nat) (b_0 : Bool) (b_1A : Option Addr) (b_1n b_1c : Nat) (h : Heap) (R : Value → Heap → Prop) : Prop :=
 CallsU Tryz.prog 94 [Value.agg #[Value.bool a_0, Value.slice a_1A a_1n a_1c]] h fun v h_1 =>
 ∃ t6_0 : Bool, ∃ t6_1A : Option Addr, ∃ t6_1n t6_1c : Nat, v = Value.agg #[Value.bool t6_0, Value.slice t6_1A t6_1n t6_1c] ∧
 LeH h h_1 ∧
 CallsU Tryz.prog 94 [Value.agg #[Value.bool b_0, Value.slice b_1A b_1n b_1c]] h_1 fun v_1 h_2 =>
 ∃ t8_0 : Bool, ∃ t8_1A : Option Addr, ∃ t8_1n t8_1c : Nat, v_1 = Value.agg #[Value.bool t8_0, Value.slice t8_1A t8_1n t8_1c] ∧
 ∃ C : Bool → Heap → Prop, (∀ (t9 : Bool) (h_3 : Heap), C t9 h_3 →
 Br (t9)
  (R (Value.int .i64 (-1)) h_3)
  (∃ C_1 : Bool → Heap → Prop, (∀ (t17 : Bool) (h_4 : Heap), C_1 t17 h_4 →
 Br (t17)
  (R (Value.int .i64 1) h_4)
  (Br (t6_0)
  (CallsU Tryz.prog 95 [Value.slice t8_1A t8_1n t8_1c, Value.slice t6_1A t6_1n t6_1c] h_4 fun v_2 h_5 =>
 ∃ t32 : Int, v_2 = Value.int .i64 t32 ∧
 R (Value.int .i64 t32) h_5)
  (CallsU Tryz.prog 95 [Value.slice t6_1A t6_1n t6_1c, Value.slice t8_1A t8_1n t8_1c] h_4 fun v_3 h_6 =>
 ∃ t37 : Int, v_3 = Value.int .i64 t37 ∧
 R (Value.int .i64 t37) h_6))) ∧
 Br (!t6_0)
  (C_1 t8_0 h_3)
  (C_1 false h_3))) ∧
 Br (t6_0)
  (C (!t8_0) h_2)
  (C false h_2)

set_option maxRecDepth 100000 in
theorem integer_Cmp_ok {a_0 : Bool} {a_1A : Option Addr} {a_1n a_1c : Nat} {b_0 : Bool} {b_1A : Option Addr} {b_1n b_1c : Nat} {h : Heap} {R : Value → Heap → Prop} (hv : integer_Cmp_vc a_0 a_1A a_1n a_1c b_0 b_1A b_1n b_1c h R) : CallsU Tryz.prog 56 [Value.agg #[Value.bool a_0, Value.slice a_1A a_1n a_1c], Value.agg #[Value.bool b_0, Value.slice b_1A b_1n b_1c]] h R :=
  fn_sound Tryz.func56 (by kernel_rfl) (by kernel_rfl) (by kernel_rfl) (fun _ => false) (.two .nil (.two (.ord [0, 2, 1, 3, 4, 5]) (.two (.one (.cut ⟨[(9, Sh.bool)], []⟩ .nil (.two .nil (.cut ⟨[(17, Sh.bool)], []⟩ .nil .nil)))) .nil))) [Value.agg #[Value.bool a_0, Value.slice a_1A a_1n a_1c], Value.agg #[Value.bool b_0, Value.slice b_1A b_1n b_1c]] h R (by kernel_rfl)
    (Eq.mp (show integer_Cmp_vc a_0 a_1A a_1n a_1c b_0 b_1A b_1n b_1c h R = fnV Tryz.prog Tryz.f56 (fun _ => false) (.two .nil (.two (.ord [0, 2, 1, 3, 4, 5]) (.two (.one (.cut ⟨[(9, Sh.bool)], []⟩ .nil (.two .nil (.cut ⟨[(17, Sh.bool)], []⟩ .nil .nil)))) .nil))) [Value.agg #[Value.bool a_0, Value.slice a_1A a_1n a_1c], Value.agg #[Value.bool b_0, Value.slice b_1A b_1n b_1c]] h R by kernel_rfl) hv)

def integer_Mul_vc (a_0 : Bool) (a_1A : Option Addr) (a_1n a_1c : Nat) (b_0 : Bool) (b_1A : Option Addr) (b_1n b_1c : Nat) (h : Heap) (R : Value → Heap → Prop) : Prop :=
 CallsU Tryz.prog 61 [Value.slice a_1A a_1n a_1c, Value.slice b_1A b_1n b_1c] h fun v h_1 =>
 ∃ t14A : Option Addr, ∃ t14n t14c : Nat, v = Value.slice t14A t14n t14c ∧
 LeH h h_1 ∧
 CallsU Tryz.prog 96 [Value.bool (!(a_0 == b_0)), Value.slice t14A t14n t14c] h_1 fun v_1 h_2 =>
 ∃ t15_0 : Bool, ∃ t15_1A : Option Addr, ∃ t15_1n t15_1c : Nat, v_1 = Value.agg #[Value.bool t15_0, Value.slice t15_1A t15_1n t15_1c] ∧
 R (Value.agg #[Value.bool t15_0, Value.slice t15_1A t15_1n t15_1c]) h_2

set_option maxRecDepth 100000 in
theorem integer_Mul_ok {a_0 : Bool} {a_1A : Option Addr} {a_1n a_1c : Nat} {b_0 : Bool} {b_1A : Option Addr} {b_1n b_1c : Nat} {h : Heap} {R : Value → Heap → Prop} (hv : integer_Mul_vc a_0 a_1A a_1n a_1c b_0 b_1A b_1n b_1c h R) : CallsU Tryz.prog 57 [Value.agg #[Value.bool a_0, Value.slice a_1A a_1n a_1c], Value.agg #[Value.bool b_0, Value.slice b_1A b_1n b_1c]] h R :=
  fn_sound Tryz.func57 (by kernel_rfl) (by kernel_rfl) (by kernel_rfl) (fun _ => false) (.two .nil (.two (.ord [0, 1, 2, 3, 4, 5, 6, 7, 8, 9, 10, 11]) .nil)) [Value.agg #[Value.bool a_0, Value.slice a_1A a_1n a_1c], Value.agg #[Value.bool b_0, Value.slice b_1A b_1n b_1c]] h R (by kernel_rfl)
    (Eq.mp (show integer_Mul_vc a_0 a_1A a_1n a_1c b_0 b_1A b_1n b_1c h R = fnV Tryz.prog Tryz.f57 (fun _ => false) (.two .nil (.two (.ord [0, 1, 2, 3, 4, 5, 6, 7, 8, 9, 10, 11]) .nil)) [Value.agg #[Value.bool a_0, Value.slice a_1A a_1n a_1c], Value.agg #[Value.bool b_0, Value.slice b_1A b_1n b_1c]] h R by kernel_rfl) hv)

def integer_Add_vc (a_0 : Bool) (a_1A : Option Addr) (a_1n a_1c : Nat) (b_0 : Bool) (b_1A : Option Addr) (b_1n b_1c : Nat) (h : Heap) (R : Value → Heap → Prop) : Prop :=
 Br (a_0 == b_0)
  (CallsU Tryz.prog 97 [Value.slice a_1A a_1n a_1c, Value.slice b_1A b_1n b_1c] h fun v h_1 =>
 ∃ t20A : Option Addr, ∃ t20n t20c : Nat, v = Value.slice t20A t20n t20c ∧
 LeH h h_1 ∧
 CallsU Tryz.prog 96 [Value.bool a_0, Value.slice t20A t20n t20c] h_1 fun v_1 h_2 =>
 ∃ t21_0 : Bool, ∃ t21_1A : Option Addr, ∃ t21_1n t21_1c : Nat, v_1 = Value.agg #[Value.bool t21_0, Value.slice t21_1A t21_1n t21_1c] ∧
 R (Value.agg #[Value.bool t21_0, Value.slice t21_1A t21_1n t21_1c]) h_2)
  (CallsU Tryz.prog 98 [Value.slice a_1A a_1n a_1c, Value.slice b_1A b_1n b_1c] h fun v_2 h_3 =>
 ∃ t27_0A : Option Addr, ∃ t27_0n t27_0c : Nat, ∃ t27_1 : Bool, v_2 = Value.tuple #[Value.slice t27_0A t27_0n t27_0c, Value.bool t27_1] ∧
 Br (t27_1)
  (CallsU Tryz.prog 96 [Value.bool a_0, Value.slice t27_0A t27_0n t27_0c] h_3 fun v_3 h_4 =>
 ∃ t34_0 : Bool, ∃ t34_1A : Option Addr, ∃ t34_1n t34_1c : Nat, v_3 = Value.agg #[Value.bool t34_0, Value.slice t34_1A t34_1n t34_1c] ∧
 R (Value.agg #[Value.bool t34_0, Value.slice t34_1A t34_1n t34_1c]) h_4)
  (CallsU Tryz.prog 98 [Value.slice b_1A b_1n b_1c, Value.slice a_1A a_1n a_1c] h_3 fun v_4 h_5 =>
 ∃ t40_0A : Option Addr, ∃ t40_0n t40_0c : Nat, ∃ t40_1 : Bool, v_4 = Value.tuple #[Value.slice t40_0A t40_0n t40_0c, Value.bool t40_1] ∧
 CallsU Tryz.prog 96 [Value.bool b_0, Value.slice t40_0A t40_0n t40_0c] h_5 fun v_5 h_6 =>
 ∃ t46_0 : Bool, ∃ t46_1A : Option Addr, ∃ t46_1n t46_1c : Nat, v_5 = Value.agg #[Value.bool t46_0, Value.slice t46_1A t46_1n t46_1c] ∧
 R (Value.agg #[Value.bool t46_0, Value.slice t46_1A t46_1n t46_1c]) h_6))

set_option maxRecDepth 100000 in
theorem integer_Add_ok {a_0 : Bool} {a_1A : Option Addr} {a_1n a_1c : Nat} {b_0 : Bool} {b_1A : Option Addr} {b_1n b_1c : Nat} {h : Heap} {R : Value → Heap → Prop} (hv : integer_Add_vc a_0 a_1A a_1n a_1c b_0 b_1A b_1n b_1c h R) : CallsU Tryz.prog 59 [Value.agg #[Value.bool a_0, Value.slice a_1A a_1n a_1c], Value.agg #[Value.bool b_0, Value.slice b_1A b_1n b_1c]] h R :=
  fn_sound Tryz.func59 (by kernel_rfl) (by kernel_rfl) (by kernel_rfl) (fun _ => false) (.two .nil (.two (.two .nil (.two (.two (.ord [0, 1, 2, 3, 4, 5, 6, 7, 8]) .nil) .nil)) .nil)) [Value.agg #[Value.bool a_0, Value.slice a_1A a_1n a_1c], Value.agg #[Value.bool b_0, Value.slice b_1A b_1n b_1c]] h R (by kernel_rfl)
    (Eq.mp (show integer_Add_vc a_0 a_1A a_1n a_1c b_0 b_1A b_1n b_1c h R = fnV Tryz.prog Tryz.f59 (fun _ => false) (.two .nil (.two (.two .nil (.two (.two (.ord [0, 1, 2, 3, 4, 5, 6, 7, 8]) .nil) .nil)) .nil)) [Value.agg #[Value.bool a_0, Value.slice a_1A a_1n a_1c], Value.agg #[Value.bool b_0, Value.slice b_1A b_1n b_1c]] h R by kernel_rfl) hv)

def integer_Norm_vc (a_0 : Bool) (a_1A : Option Addr) (a_1n a_1c : Nat) (h : Heap) (R : Value → Heap → Prop) : Prop :=
 CallsU Tryz.prog 96 [Value.bool a_0, Value.slice a_1A a_1n a_1c] h fun v h_1 =>
 ∃ t7_0 : Bool, ∃ t7_1A : Option Addr, ∃ t7_1n t7_1c : Nat, v = Value.agg #[Value.bool t7_0, Value.slice t7_1A t7_1n t7_1c] ∧
 R (Value.agg #[Value.bool t7_0, Value.slice t7_1A t7_1n t7_1c]) h_1

set_option maxRecDepth 100000 in
theorem integer_Norm_ok {a_0 : Bool} {a_1A : Option Addr} {a_1n a_1c : Nat} {h : Heap} {R : Value → Heap → Prop} (hv : integer_Norm_vc a_0 a_1A a_1n a_1c h R) : CallsU Tryz.prog 94 [Value.agg #[Value.bool a_0, Value.slice a_1A a_1n a_1c]] h R :=
  fn_sound Tryz.func94 (by kernel_rfl) (by kernel_rfl) (by kernel_rfl) (fun _ => false) .nil [Value.agg #[Value.bool a_0, Value.slice a_1A a_1n a_1c]] h R (by kernel_rfl)
    (Eq.mp (show integer_Norm_vc a_0 a_1A a_1n a_1c h R = fnV Tryz.prog Tryz.f94 (fun _ => false) .nil [Value.agg #[Value.bool a_0, Value.slice a_1A a_1n a_1c]] h R by kernel_rfl) hv)

def integer_signed_vc (neg : Bool) (magA : Option Addr) (magn magc : Nat) (h : Heap) (R : Value → Heap → Prop) : Prop :=
 CallsU Tryz.prog 147 [Value.slice magA magn magc] h fun v h_1 =>
 ∃ t6A : Option Addr, ∃ t6n t6c : Nat, v = Value.slice t6A t6n t6c ∧
 Br (neg)
  (R (Value.agg #[Value.bool (decide (((t6n : Nat) : Int) > 0)), Value.slice t6A t6n t6c]) h_1)
  (R (Value.agg #[Value.bool false, Value.slice t6A t6n t6c]) h_1)

set_option maxRecDepth 100000 in
theorem integer_signed_ok {neg : Bool} {magA : Option Addr} {magn magc : Nat} {h : Heap} {R : Value → Heap → Prop} (hv : integer_signed_vc neg magA magn magc h R) : CallsU Tryz.prog 96 [Value.bool neg, Value.slice magA magn magc] h R :=
  fn_sound Tryz.func96 (by kernel_rfl) (by kernel_rfl) (by kernel_rfl) (fun _ => false) .nil [Value.bool neg, Value.slice magA magn magc] h R (by kernel_rfl)
    (Eq.mp (show integer_signed_vc neg magA magn magc h R = fnV Tryz.prog Tryz.f96 (fun _ => false) .nil [Value.bool neg, Value.slice magA magn magc] h R by kernel_rfl) hv)

def integer_Neg_vc (a_0 : Bool) (a_1A : Option Addr) (a_1n a_1c : Nat) (h : Heap) (R : Value → Heap → Prop) : Prop :=
 CallsU Tryz.prog 96 [Value.bool (!a_0), Value.slice a_1A a_1n a_1c] h fun v h_1 =>
 ∃ t8_0 : Bool, ∃ t8_1A : Option Addr, ∃ t8_1n t8_1c : Nat, v = Value.agg #[Value.bool t8_0, Value.slice t8_1A t8_1n t8_1c] ∧
 R (Value.agg #[Value.bool t8_0, Value.slice t8_1A t8_1n t8_1c]) h_1

set_option maxRecDepth 100000 in
theorem integer_Neg_ok {a_0 : Bool} {a_1A : Option Addr} {a_1n a_1c : Nat} {h : Heap} {R : Value → Heap → Prop} (hv : integer_Neg_vc a_0 a_1A a_1n a_1c h R) : CallsU Tryz.prog 102 [Value.agg #[Value.bool a_0, Value.slice a_1A a_1n a_1c]] h R :=
  fn_sound Tryz.func102 (by kernel_rfl) (by kernel_rfl) (by kernel_rfl) (fun _ => false) .nil [Value.agg #[Value.bool a_0, Value.slice a_1A a_1n a_1c]] h R (by kernel_rfl)
    (Eq.mp (show integer_Neg_vc a_0 a_1A a_1n a_1c h R = fnV Tryz.prog Tryz.f102 (fun _ => false) .nil [Value.agg #[Value.bool a_0, Value.slice a_1A a_1n a_1c]] h R by kernel_rfl) hv)

def integer_Small_vc (a_0 : Bool) (a_1A : Option Addr) (a_1n a_1c : Nat) (h : Heap) (R : Value → Heap → Prop) : Prop :=
 CallsU Tryz.prog 94 [Value.agg #[Value.bool a_0, Value.slice a_1A a_1n a_1c]] h fun v h_1 =>
 ∃ t8_0 : Bool, ∃ t8_1A : Option Addr, ∃ t8_1n t8_1c : Nat, v = Value.agg #[Value.bool t8_0, Value.slice t8_1A t8_1n t8_1c] ∧
 Br (decide (((t8_1n : Nat) : Int) > 2))
  (R (Value.tuple #[Value.int .i64 0, Value.bool false]) h_1)
  (∃ J : Nat → Int → Int → Heap → Prop, (∃ m, J m 0 0 h_1) ∧
 ∀ (m : Nat) (n : Int) (t16 : Int) (h_2 : Heap), J m n t16 h_2 →
 Br (decide (t16 < ((t8_1n : Nat) : Int)))
  (∃ ad : Addr, t8_1A = some ad ∧ 0 ≤ t16 ∧ t16 < ((t8_1n : Nat) : Int) ∧
 ∃ t20 : Int, LdN h_2 (Addr.add ad (Int.toNat t16 * 1)) [Value.int .u32 t20] ∧
 ∀ t25 : Int, t25 = IntKind.i64.wrap (32 * t16) →
 Br (decide (t25 < 0)) False
  (∀ t26 : Int, t26 = IntKind.u64.wrap ((IntKind.u64.wrap t20) * 2 ^ (min (Int.toNat t25) 64 : Nat)) →
 ∀ t27 : Int, t27 = bitsOf .or .u64 n t26 →
 ∀ t28 : Int, t28 = IntKind.i64.wrap (t16 + 1) →
 ∃ m_1, m_1 < m ∧ J m_1 t27 t28 h_2))
  (∃ C : Bool → Heap → Prop, (∀ (t29 : Bool) (h_3 : Heap), C t29 h_3 →
 Br (t29)
  (∀ t37 : Int, t37 = IntKind.u64.wrap (0 - n) →
 R (Value.tuple #[Value.int .i64 (IntKind.i64.wrap t37), Value.bool true]) h_3)
  (Br (!t8_0)
  (Br (decide (n < 9223372036854775808))
  (R (Value.tuple #[Value.int .i64 (IntKind.i64.wrap n), Value.bool true]) h_3)
  (R (Value.tuple #[Value.int .i64 0, Value.bool false]) h_3))
  (R (Value.tuple #[Value.int .i64 0, Value.bool false]) h_3))) ∧
 Br (t8_0)
  (C (decide (n ≤ 9223372036854775808)) h_2)
  (C false h_2)))

set_option maxRecDepth 100000 in
theorem integer_Small_ok {a_0 : Bool} {a_1A : Option Addr} {a_1n a_1c : Nat} {h : Heap} {R : Value → Heap → Prop} (hv : integer_Small_vc a_0 a_1A a_1n a_1c h R) : CallsU Tryz.prog 155 [Value.agg #[Value.bool a_0, Value.slice a_1A a_1n a_1c]] h R :=
  fn_sound Tryz.func155 (by kernel_rfl) (by kernel_rfl) (by kernel_rfl) (fun _ => false) (.two .nil (.two .nil (.two .nil (.two .nil (.two (.two .nil (.one (.loop ⟨[(4, Sh.int .u64), (16, Sh.int .i64)], []⟩ .nil))) (.two (.one (.cut ⟨[(29, Sh.bool)], []⟩ .nil .nil)) .nil)))))) [Value.agg #[Value.bool a_0, Value.slice a_1A a_1n a_1c]] h R (by kernel_rfl)
    (Eq.mp (show integer_Small_vc a_0 a_1A a_1n a_1c h R = fnV Tryz.prog Tryz.f155 (fun _ => false) (.two .nil (.two .nil (.two .nil (.two .nil (.two (.two .nil (.one (.loop ⟨[(4, Sh.int .u64), (16, Sh.int .i64)], []⟩ .nil))) (.two (.one (.cut ⟨[(29, Sh.bool)], []⟩ .nil .nil)) .nil)))))) [Value.agg #[Value.bool a_0, Value.slice a_1A a_1n a_1c]] h R by kernel_rfl) hv)

def integer_Of_vc (n : Int) (h : Heap) (R : Value → Heap → Prop) : Prop :=
 Br (decide (n < 0))
  (∀ t7 : Int, t7 = IntKind.u64.wrap (0 - (IntKind.u64.wrap n)) →
 CallsU Tryz.prog 93 [Value.int .u64 t7] h fun v h_1 =>
 ∃ t8A : Option Addr, ∃ t8n t8c : Nat, v = Value.slice t8A t8n t8c ∧
 CallsU Tryz.prog 96 [Value.bool true, Value.slice t8A t8n t8c] h_1 fun v_1 h_2 =>
 ∃ t9_0 : Bool, ∃ t9_1A : Option Addr, ∃ t9_1n t9_1c : Nat, v_1 = Value.agg #[Value.bool t9_0, Value.slice t9_1A t9_1n t9_1c] ∧
 R (Value.agg #[Value.bool t9_0, Value.slice t9_1A t9_1n t9_1c]) h_2)
  (CallsU Tryz.prog 93 [Value.int .u64 (IntKind.u64.wrap n)] h fun v_2 h_3 =>
 ∃ t12A : Option Addr, ∃ t12n t12c : Nat, v_2 = Value.slice t12A t12n t12c ∧
 CallsU Tryz.prog 96 [Value.bool false, Value.slice t12A t12n t12c] h_3 fun v_3 h_4 =>
 ∃ t13_0 : Bool, ∃ t13_1A : Option Addr, ∃ t13_1n t13_1c : Nat, v_3 = Value.agg #[Value.bool t13_0, Value.slice t13_1A t13_1n t13_1c] ∧
 R (Value.agg #[Value.bool t13_0, Value.slice t13_1A t13_1n t13_1c]) h_4)

set_option maxRecDepth 100000 in
theorem integer_Of_ok {n : Int} {h : Heap} {R : Value → Heap → Prop} (hv : integer_Of_vc n h R) : CallsU Tryz.prog 187 [Value.int .i64 n] h R :=
  fn_sound Tryz.func187 (by kernel_rfl) (by kernel_rfl) (by kernel_rfl) (fun _ => false) .nil [Value.int .i64 n] h R (by kernel_rfl)
    (Eq.mp (show integer_Of_vc n h R = fnV Tryz.prog Tryz.f187 (fun _ => false) .nil [Value.int .i64 n] h R by kernel_rfl) hv)

end Go.Proofs.YtdpdaphholileaaGreatDoor

/- Made by vcgen.py: verification conditions of functions, each held against the calculator by the kernel. -/
namespace Go.Proofs.YtdpdaphholileaaGreatDoor
open Go Go.Vcg

def ratio_Cmp_vc (a_0 : Bool) (a_1A : Option Addr) (a_1n a_1c : Nat) (a_2A : Option Addr) (a_2n a_2c : Nat) (b_0 : Bool) (b_1A : Option Addr) (b_1n b_1c : Nat) (b_2A : Option Addr) (b_2n b_2c : Nat) (h : Heap) (R : Value → Heap → Prop) : Prop :=
 CallsU Tryz.prog 55 [Value.agg #[Value.bool a_0, Value.slice a_1A a_1n a_1c, Value.slice a_2A a_2n a_2c]] h fun v h_1 =>
 ∃ t6_0 : Bool, ∃ t6_1A : Option Addr, ∃ t6_1n t6_1c : Nat, ∃ t6_2A : Option Addr, ∃ t6_2n t6_2c : Nat, v = Value.agg #[Value.bool t6_0, Value.slice t6_1A t6_1n t6_1c, Value.slice t6_2A t6_2n t6_2c] ∧
 LeH h h_1 ∧
 CallsU Tryz.prog 55 [Value.agg #[Value.bool b_0, Value.slice b_1A b_1n b_1c, Value.slice b_2A b_2n b_2c]] h_1 fun v_1 h_2 =>
 ∃ t8_0 : Bool, ∃ t8_1A : Option Addr, ∃ t8_1n t8_1c : Nat, ∃ t8_2A : Option Addr, ∃ t8_2n t8_2c : Nat, v_1 = Value.agg #[Value.bool t8_0, Value.slice t8_1A t8_1n t8_1c, Value.slice t8_2A t8_2n t8_2c] ∧
 CallsU Tryz.prog 58 [Value.slice t8_2A t8_2n t8_2c] h_2 fun v_2 h_3 =>
 ∃ t13_0 : Bool, ∃ t13_1A : Option Addr, ∃ t13_1n t13_1c : Nat, v_2 = Value.agg #[Value.bool t13_0, Value.slice t13_1A t13_1n t13_1c] ∧
 LeH h_2 h_3 ∧
 CallsU Tryz.prog 57 [Value.agg #[Value.bool t6_0, Value.slice t6_1A t6_1n t6_1c], Value.agg #[Value.bool t13_0, Value.slice t13_1A t13_1n t13_1c]] h_3 fun v_3 h_4 =>
 ∃ t14_0 : Bool, ∃ t14_1A : Option Addr, ∃ t14_1n t14_1c : Nat, v_3 = Value.agg #[Value.bool t14_0, Value.slice t14_1A t14_1n t14_1c] ∧
 LeH h_3 h_4 ∧
 CallsU Tryz.prog 58 [Value.slice t6_2A t6_2n t6_2c] h_4 fun v_4 h_5 =>
 ∃ t19_0 : Bool, ∃ t19_1A : Option Addr, ∃ t19_1n t19_1c : Nat, v_4 = Value.agg #[Value.bool t19_0, Value.slice t19_1A t19_1n t19_1c] ∧
 LeH h_4 h_5 ∧
 CallsU Tryz.prog 57 [Value.agg #[Value.bool t8_0, Value.slice t8_1A t8_1n t8_1c], Value.agg #[Value.bool t19_0, Value.slice t19_1A t19_1n t19_1c]] h_5 fun v_5 h_6 =>
 ∃ t20_0 : Bool, ∃ t20_1A : Option Addr, ∃ t20_1n t20_1c : Nat, v_5 = Value.agg #[Value.bool t20_0, Value.slice t20_1A t20_1n t20_1c] ∧
 CallsU Tryz.prog 56 [Value.agg #[Value.bool t14_0, Value.slice t14_1A t14_1n t14_1c], Value.agg #[Value.bool t20_0, Value.slice t20_1A t20_1n t20_1c]] h_6 fun v_6 h_7 =>
 ∃ t21 : Int, v_6 = Value.int .i64 t21 ∧
 R (Value.int .i64 t21) h_7

set_option maxRecDepth 100000 in
theorem ratio_Cmp_ok {a_0 : Bool} {a_1A : Option Addr} {a_1n a_1c : Nat} {a_2A : Option Addr} {a_2n a_2c : Nat} {b_0 : Bool} {b_1A : Option Addr} {b_1n b_1c : Nat} {b_2A : Option Addr} {b_2n b_2c : Nat} {h : Heap} {R : Value → Heap → Prop} (hv : ratio_Cmp_vc a_0 a_1A a_1n a_1c a_2A a_2n a_2c b_0 b_1A b_1n b_1c b_2A b_2n b_2c h R) : CallsU Tryz.prog 29 [Value.agg #[Value.bool a_0, Value.slice a_1A a_1n a_1c, Value.slice a_2A a_2n a_2c], Value.agg #[Value.bool b_0, Value.slice b_1A b_1n b_1c, Value.slice b_2A b_2n b_2c]] h R :=
  fn_sound Tryz.func29 (by kernel_rfl) (by kernel_rfl) (by kernel_rfl) (fun _ => false) (.two .nil (.two (.ord [0, 2, 1, 3, 4, 5]) (.two (.ord [0, 1, 2, 3, 6, 7, 8, 9, 4, 5, 10, 11, 12, 13]) .nil))) [Value.agg #[Value.bool a_0, Value.slice a_1A a_1n a_1c, Value.slice a_2A a_2n a_2c], Value.agg #[Value.bool b_0, Value.slice b_1A b_1n b_1c, Value.slice b_2A b_2n b_2c]] h R (by kernel_rfl)
    (Eq.mp (show ratio_Cmp_vc a_0 a_1A a_1n a_1c a_2A a_2n a_2c b_0 b_1A b_1n b_1c b_2A b_2n b_2c h R = fnV Tryz.prog Tryz.f29 (fun _ => false) (.two .nil (.two (.ord [0, 2, 1, 3, 4, 5]) (.two (.ord [0, 1, 2, 3, 6, 7, 8, 9, 4, 5, 10, 11, 12, 13]) .nil))) [Value.agg #[Value.bool a_0, Value.slice a_1A a_1n a_1c, Value.slice a_2A a_2n a_2c], Value.agg #[Value.bool b_0, Value.slice b_1A b_1n b_1c, Value.slice b_2A b_2n b_2c]] h R by kernel_rfl) hv)

def ratio_Add_vc (a_0 : Bool) (a_1A : Option Addr) (a_1n a_1c : Nat) (a_2A : Option Addr) (a_2n a_2c : Nat) (b_0 : Bool) (b_1A : Option Addr) (b_1n b_1c : Nat) (b_2A : Option Addr) (b_2n b_2c : Nat) (h : Heap) (R : Value → Heap → Prop) : Prop :=
 CallsU Tryz.prog 55 [Value.agg #[Value.bool a_0, Value.slice a_1A a_1n a_1c, Value.slice a_2A a_2n a_2c]] h fun v h_1 =>
 ∃ t7_0 : Bool, ∃ t7_1A : Option Addr, ∃ t7_1n t7_1c : Nat, ∃ t7_2A : Option Addr, ∃ t7_2n t7_2c : Nat, v = Value.agg #[Value.bool t7_0, Value.slice t7_1A t7_1n t7_1c, Value.slice t7_2A t7_2n t7_2c] ∧
 LeH h h_1 ∧
 CallsU Tryz.prog 55 [Value.agg #[Value.bool b_0, Value.slice b_1A b_1n b_1c, Value.slice b_2A b_2n b_2c]] h_1 fun v_1 h_2 =>
 ∃ t9_0 : Bool, ∃ t9_1A : Option Addr, ∃ t9_1n t9_1c : Nat, ∃ t9_2A : Option Addr, ∃ t9_2n t9_2c : Nat, v_1 = Value.agg #[Value.bool t9_0, Value.slice t9_1A t9_1n t9_1c, Value.slice t9_2A t9_2n t9_2c] ∧
 CallsU Tryz.prog 58 [Value.slice t9_2A t9_2n t9_2c] h_2 fun v_2 h_3 =>
 ∃ t14_0 : Bool, ∃ t14_1A : Option Addr, ∃ t14_1n t14_1c : Nat, v_2 = Value.agg #[Value.bool t14_0, Value.slice t14_1A t14_1n t14_1c] ∧
 LeH h_2 h_3 ∧
 CallsU Tryz.prog 57 [Value.agg #[Value.bool t7_0, Value.slice t7_1A t7_1n t7_1c], Value.agg #[Value.bool t14_0, Value.slice t14_1A t14_1n t14_1c]] h_3 fun v_3 h_4 =>
 ∃ t15_0 : Bool, ∃ t15_1A : Option Addr, ∃ t15_1n t15_1c : Nat, v_3 = Value.agg #[Value.bool t15_0, Value.slice t15_1A t15_1n t15_1c] ∧
 LeH h_3 h_4 ∧
 CallsU Tryz.prog 58 [Value.slice t7_2A t7_2n t7_2c] h_4 fun v_4 h_5 =>
 ∃ t20_0 : Bool, ∃ t20_1A : Option Addr, ∃ t20_1n t20_1c : Nat, v_4 = Value.agg #[Value.bool t20_0, Value.slice t20_1A t20_1n t20_1c] ∧
 LeH h_4 h_5 ∧
 CallsU Tryz.prog 57 [Value.agg #[Value.bool t9_0, Value.slice t9_1A t9_1n t9_1c], Value.agg #[Value.bool t20_0, Value.slice t20_1A t20_1n t20_1c]] h_5 fun v_5 h_6 =>
 ∃ t21_0 : Bool, ∃ t21_1A : Option Addr, ∃ t21_1n t21_1c : Nat, v_5 = Value.agg #[Value.bool t21_0, Value.slice t21_1A t21_1n t21_1c] ∧
 CallsU Tryz.prog 59 [Value.agg #[Value.bool t15_0, Value.slice t15_1A t15_1n t15_1c], Value.agg #[Value.bool t21_0, Value.slice t21_1A t21_1n t21_1c]] h_6 fun v_6 h_7 =>
 ∃ t22_0 : Bool, ∃ t22_1A : Option Addr, ∃ t22_1n t22_1c : Nat, v_6 = Value.agg #[Value.bool t22_0, Value.slice t22_1A t22_1n t22_1c] ∧
 CallsU Tryz.prog 61 [Value.slice t7_2A t7_2n t7_2c, Value.slice t9_2A t9_2n t9_2c] h_7 fun v_7 h_8 =>
 ∃ t28A : Option Addr, ∃ t28n t28c : Nat, v_7 = Value.slice t28A t28n t28c ∧
 LeH h_7 h_8 ∧
 CallsU Tryz.prog 60 [Value.agg #[Value.bool t22_0, Value.slice t22_1A t22_1n t22_1c], Value.slice t28A t28n t28c] h_8 fun v_8 h_9 =>
 ∃ t29_0 : Bool, ∃ t29_1A : Option Addr, ∃ t29_1n t29_1c : Nat, ∃ t29_2A : Option Addr, ∃ t29_2n t29_2c : Nat, v_8 = Value.agg #[Value.bool t29_0, Value.slice t29_1A t29_1n t29_1c, Value.slice t29_2A t29_2n t29_2c] ∧
 R (Value.agg #[Value.bool t29_0, Value.slice t29_1A t29_1n t29_1c, Value.slice t29_2A t29_2n t29_2c]) h_9

set_option maxRecDepth 100000 in
theorem ratio_Add_ok {a_0 : Bool} {a_1A : Option Addr} {a_1n a_1c : Nat} {a_2A : Option Addr} {a_2n a_2c : Nat} {b_0 : Bool} {b_1A : Option Addr} {b_1n b_1c : Nat} {b_2A : Option Addr} {b_2n b_2c : Nat} {h : Heap} {R : Value → Heap → Prop} (hv : ratio_Add_vc a_0 a_1A a_1n a_1c a_2A a_2n a_2c b_0 b_1A b_1n b_1c b_2A b_2n b_2c h R) : CallsU Tryz.prog 30 [Value.agg #[Value.bool a_0, Value.slice a_1A a_1n a_1c, Value.slice a_2A a_2n a_2c], Value.agg #[Value.bool b_0, Value.slice b_1A b_1n b_1c, Value.slice b_2A b_2n b_2c]] h R :=
  fn_sound Tryz.func30 (by kernel_rfl) (by kernel_rfl) (by kernel_rfl) (fun _ => false) (.two .nil (.two (.ord [0, 2, 1, 3, 4, 5]) (.two (.ord [0, 1, 2, 3, 6, 7, 8, 9, 4, 5, 10, 11, 12, 13, 14]) (.two (.ord [0, 1, 2, 3, 4, 5, 6, 7]) .nil)))) [Value.agg #[Value.bool a_0, Value.slice a_1A a_1n a_1c, Value.slice a_2A a_2n a_2c], Value.agg #[Value.bool b_0, Value.slice b_1A b_1n b_1c, Value.slice b_2A b_2n b_2c]] h R (by kernel_rfl)
    (Eq.mp (show ratio_Add_vc a_0 a_1A a_1n a_1c a_2A a_2n a_2c b_0 b_1A b_1n b_1c b_2A b_2n b_2c h R = fnV Tryz.prog Tryz.f30 (fun _ => false) (.two .nil (.two (.ord [0, 2, 1, 3, 4, 5]) (.two (.ord [0, 1, 2, 3, 6, 7, 8, 9, 4, 5, 10, 11, 12, 13, 14]) (.two (.ord [0, 1, 2, 3, 4, 5, 6, 7]) .nil)))) [Value.agg #[Value.bool a_0, Value.slice a_1A a_1n a_1c, Value.slice a_2A a_2n a_2c], Value.agg #[Value.bool b_0, Value.slice b_1A b_1n b_1c, Value.slice b_2A b_2n b_2c]] h R by kernel_rfl) hv)

def ratio_Sub_vc (a_0 : Bool) (a_1A : Option Addr) (a_1n a_1c : Nat) (a_2A : Option Addr) (a_2n a_2c : Nat) (b_0 : Bool) (b_1A : Option Addr) (b_1n b_1c : Nat) (b_2A : Option Addr) (b_2n b_2c : Nat) (h : Heap) (R : Value → Heap → Prop) : Prop :=
 CallsU Tryz.prog 62 [Value.agg #[Value.bool b_0, Value.slice b_1A b_1n b_1c, Value.slice b_2A b_2n b_2c]] h fun v h_1 =>
 ∃ t7_0 : Bool, ∃ t7_1A : Option Addr, ∃ t7_1n t7_1c : Nat, ∃ t7_2A : Option Addr, ∃ t7_2n t7_2c : Nat, v = Value.agg #[Value.bool t7_0, Value.slice t7_1A t7_1n t7_1c, Value.slice t7_2A t7_2n t7_2c] ∧
 LeH h h_1 ∧
 CallsU Tryz.prog 30 [Value.agg #[Value.bool a_0, Value.slice a_1A a_1n a_1c, Value.slice a_2A a_2n a_2c], Value.agg #[Value.bool t7_0, Value.slice t7_1A t7_1n t7_1c, Value.slice t7_2A t7_2n t7_2c]] h_1 fun v_1 h_2 =>
 ∃ t8_0 : Bool, ∃ t8_1A : Option Addr, ∃ t8_1n t8_1c : Nat, ∃ t8_2A : Option Addr, ∃ t8_2n t8_2c : Nat, v_1 = Value.agg #[Value.bool t8_0, Value.slice t8_1A t8_1n t8_1c, Value.slice t8_2A t8_2n t8_2c] ∧
 R (Value.agg #[Value.bool t8_0, Value.slice t8_1A t8_1n t8_1c, Value.slice t8_2A t8_2n t8_2c]) h_2

set_option maxRecDepth 100000 in
theorem ratio_Sub_ok {a_0 : Bool} {a_1A : Option Addr} {a_1n a_1c : Nat} {a_2A : Option Addr} {a_2n a_2c : Nat} {b_0 : Bool} {b_1A : Option Addr} {b_1n b_1c : Nat} {b_2A : Option Addr} {b_2n b_2c : Nat} {h : Heap} {R : Value → Heap → Prop} (hv : ratio_Sub_vc a_0 a_1A a_1n a_1c a_2A a_2n a_2c b_0 b_1A b_1n b_1c b_2A b_2n b_2c h R) : CallsU Tryz.prog 31 [Value.agg #[Value.bool a_0, Value.slice a_1A a_1n a_1c, Value.slice a_2A a_2n a_2c], Value.agg #[Value.bool b_0, Value.slice b_1A b_1n b_1c, Value.slice b_2A b_2n b_2c]] h R :=
  fn_sound Tryz.func31 (by kernel_rfl) (by kernel_rfl) (by kernel_rfl) (fun _ => false) (.two .nil (.two (.ord [0, 1, 2, 3, 4]) .nil)) [Value.agg #[Value.bool a_0, Value.slice a_1A a_1n a_1c, Value.slice a_2A a_2n a_2c], Value.agg #[Value.bool b_0, Value.slice b_1A b_1n b_1c, Value.slice b_2A b_2n b_2c]] h R (by kernel_rfl)
    (Eq.mp (show ratio_Sub_vc a_0 a_1A a_1n a_1c a_2A a_2n a_2c b_0 b_1A b_1n b_1c b_2A b_2n b_2c h R = fnV Tryz.prog Tryz.f31 (fun _ => false) (.two .nil (.two (.ord [0, 1, 2, 3, 4]) .nil)) [Value.agg #[Value.bool a_0, Value.slice a_1A a_1n a_1c, Value.slice a_2A a_2n a_2c], Value.agg #[Value.bool b_0, Value.slice b_1A b_1n b_1c, Value.slice b_2A b_2n b_2c]] h R by kernel_rfl) hv)

def ratio_Mul_vc (a_0 : Bool) (a_1A : Option Addr) (a_1n a_1c : Nat) (a_2A : Option Addr) (a_2n a_2c : Nat) (b_0 : Bool) (b_1A : Option Addr) (b_1n b_1c : Nat) (b_2A : Option Addr) (b_2n b_2c : Nat) (h : Heap) (R : Value → Heap → Prop) : Prop :=
 CallsU Tryz.prog 55 [Value.agg #[Value.bool a_0, Value.slice a_1A a_1n a_1c, Value.slice a_2A a_2n a_2c]] h fun v h_1 =>
 ∃ t6_0 : Bool, ∃ t6_1A : Option Addr, ∃ t6_1n t6_1c : Nat, ∃ t6_2A : Option Addr, ∃ t6_2n t6_2c : Nat, v = Value.agg #[Value.bool t6_0, Value.slice t6_1A t6_1n t6_1c, Value.slice t6_2A t6_2n t6_2c] ∧
 LeH h h_1 ∧
 CallsU Tryz.prog 55 [Value.agg #[Value.bool b_0, Value.slice b_1A b_1n b_1c, Value.slice b_2A b_2n b_2c]] h_1 fun v_1 h_2 =>
 ∃ t8_0 : Bool, ∃ t8_1A : Option Addr, ∃ t8_1n t8_1c : Nat, ∃ t8_2A : Option Addr, ∃ t8_2n t8_2c : Nat, v_1 = Value.agg #[Value.bool t8_0, Value.slice t8_1A t8_1n t8_1c, Value.slice t8_2A t8_2n t8_2c] ∧
 CallsU Tryz.prog 57 [Value.agg #[Value.bool t6_0, Value.slice t6_1A t6_1n t6_1c], Value.agg #[Value.bool t8_0, Value.slice t8_1A t8_1n t8_1c]] h_2 fun v_2 h_3 =>
 ∃ t13_0 : Bool, ∃ t13_1A : Option Addr, ∃ t13_1n t13_1c : Nat, v_2 = Value.agg #[Value.bool t13_0, Value.slice t13_1A t13_1n t13_1c] ∧
 LeH h_2 h_3 ∧
 CallsU Tryz.prog 61 [Value.slice t6_2A t6_2n t6_2c, Value.slice t8_2A t8_2n t8_2c] h_3 fun v_3 h_4 =>
 ∃ t18A : Option Addr, ∃ t18n t18c : Nat, v_3 = Value.slice t18A t18n t18c ∧
 CallsU Tryz.prog 60 [Value.agg #[Value.bool t13_0, Value.slice t13_1A t13_1n t13_1c], Value.slice t18A t18n t18c] h_4 fun v_4 h_5 =>
 ∃ t19_0 : Bool, ∃ t19_1A : Option Addr, ∃ t19_1n t19_1c : Nat, ∃ t19_2A : Option Addr, ∃ t19_2n t19_2c : Nat, v_4 = Value.agg #[Value.bool t19_0, Value.slice t19_1A t19_1n t19_1c, Value.slice t19_2A t19_2n t19_2c] ∧
 R (Value.agg #[Value.bool t19_0, Value.slice t19_1A t19_1n t19_1c, Value.slice t19_2A t19_2n t19_2c]) h_5

set_option maxRecDepth 100000 in
theorem ratio_Mul_ok {a_0 : Bool} {a_1A : Option Addr} {a_1n a_1c : Nat} {a_2A : Option Addr} {a_2n a_2c : Nat} {b_0 : Bool} {b_1A : Option Addr} {b_1n b_1c : Nat} {b_2A : Option Addr} {b_2n b_2c : Nat} {h : Heap} {R : Value → Heap → Prop} (hv : ratio_Mul_vc a_0 a_1A a_1n a_1c a_2A a_2n a_2c b_0 b_1A b_1n b_1c b_2A b_2n b_2c h R) : CallsU Tryz.prog 32 [Value.agg #[Value.bool a_0, Value.slice a_1A a_1n a_1c, Value.slice a_2A a_2n a_2c], Value.agg #[Value.bool b_0, Value.slice b_1A b_1n b_1c, Value.slice b_2A b_2n b_2c]] h R :=
  fn_sound Tryz.func32 (by kernel_rfl) (by kernel_rfl) (by kernel_rfl) (fun _ => false) (.two .nil (.two (.ord [0, 2, 1, 3, 4, 5]) (.two (.ord [0, 1, 2, 3, 5, 6, 7, 8, 4, 9, 10, 11]) .nil))) [Value.agg #[Value.bool a_0, Value.slice a_1A a_1n a_1c, Value.slice a_2A a_2n a_2c], Value.agg #[Value.bool b_0, Value.slice b_1A b_1n b_1c, Value.slice b_2A b_2n b_2c]] h R (by kernel_rfl)
    (Eq.mp (show ratio_Mul_vc a_0 a_1A a_1n a_1c a_2A a_2n a_2c b_0 b_1A b_1n b_1c b_2A b_2n b_2c h R = fnV Tryz.prog Tryz.f32 (fun _ => false) (.two .nil (.two (.ord [0, 2, 1, 3, 4, 5]) (.two (.ord [0, 1, 2, 3, 5, 6, 7, 8, 4, 9, 10, 11]) .nil))) [Value.agg #[Value.bool a_0, Value.slice a_1A a_1n a_1c, Value.slice a_2A a_2n a_2c], Value.agg #[Value.bool b_0, Value.slice b_1A b_1n b_1c, Value.slice b_2A b_2n b_2c]] h R by kernel_rfl) hv)

def ratio_value_vc (a_0 : Bool) (a_1A : Option Addr) (a_1n a_1c : Nat) (a_2A : Option Addr) (a_2n a_2c : Nat) (h : Heap) (R : Value → Heap → Prop) : Prop :=
 CallsU Tryz.prog 92 [Value.slice a_2A a_2n a_2c] h fun v h_1 =>
 ∃ t5 : Bool, v = Value.bool t5 ∧
 Br (t5)
  (CallsU Tryz.prog 93 [Value.int .u64 1] h_1 fun v_1 h_2 =>
 ∃ t6A : Option Addr, ∃ t6n t6c : Nat, v_1 = Value.slice t6A t6n t6c ∧
 R (Value.agg #[Value.bool false, Value.slice none 0 0, Value.slice t6A t6n t6c]) h_2)
  (R (Value.agg #[Value.bool a_0, Value.slice a_1A a_1n a_1c, Value.slice a_2A a_2n a_2c]) h_1)

set_option maxRecDepth 100000 in
theorem ratio_value_ok {a_0 : Bool} {a_1A : Option Addr} {a_1n a_1c : Nat} {a_2A : Option Addr} {a_2n a_2c : Nat} {h : Heap} {R : Value → Heap → Prop} (hv : ratio_value_vc a_0 a_1A a_1n a_1c a_2A a_2n a_2c h R) : CallsU Tryz.prog 55 [Value.agg #[Value.bool a_0, Value.slice a_1A a_1n a_1c, Value.slice a_2A a_2n a_2c]] h R :=
  fn_sound Tryz.func55 (by kernel_rfl) (by kernel_rfl) (by kernel_rfl) (fun _ => false) .nil [Value.agg #[Value.bool a_0, Value.slice a_1A a_1n a_1c, Value.slice a_2A a_2n a_2c]] h R (by kernel_rfl)
    (Eq.mp (show ratio_value_vc a_0 a_1A a_1n a_1c a_2A a_2n a_2c h R = fnV Tryz.prog Tryz.f55 (fun _ => false) .nil [Value.agg #[Value.bool a_0, Value.slice a_1A a_1n a_1c, Value.slice a_2A a_2n a_2c]] h R by kernel_rfl) hv)

def ratio_positive_vc (aA : Option Addr) (an ac : Nat) (h : Heap) (R : Value → Heap → Prop) : Prop :=
 R (Value.agg #[Value.bool false, Value.slice aA an ac]) h

set_option maxRecDepth 100000 in
theorem ratio_positive_ok {aA : Option Addr} {an ac : Nat} {h : Heap} {R : Value → Heap → Prop} (hv : ratio_positive_vc aA an ac h R) : CallsU Tryz.prog 58 [Value.slice aA an ac] h R :=
  fn_sound Tryz.func58 (by kernel_rfl) (by kernel_rfl) (by kernel_rfl) (fun _ => false) .nil [Value.slice aA an ac] h R (by kernel_rfl)
    (Eq.mp (show ratio_positive_vc aA an ac h R = fnV Tryz.prog Tryz.f58 (fun _ => false) .nil [Value.slice aA an ac] h R by kernel_rfl) hv)

def ratio_reduce_vc (num_0 : Bool) (num_1A : Option Addr) (num_1n num_1c : Nat) (denA : Option Addr) (denn denc : Nat) (h : Heap) (R : Value → Heap → Prop) : Prop :=
 CallsU Tryz.prog 99 [Value.slice num_1A num_1n num_1c, Value.slice denA denn denc] h fun v h_1 =>
 ∃ t15A : Option Addr, ∃ t15n t15c : Nat, v = Value.slice t15A t15n t15c ∧
 CallsU Tryz.prog 100 [Value.slice num_1A num_1n num_1c, Value.slice t15A t15n t15c] h_1 fun v_1 h_2 =>
 ∃ t20_0A : Option Addr, ∃ t20_0n t20_0c : Nat, ∃ t20_1A : Option Addr, ∃ t20_1n t20_1c : Nat, ∃ t20_2 : Bool, v_1 = Value.tuple #[Value.slice t20_0A t20_0n t20_0c, Value.slice t20_1A t20_1n t20_1c, Value.bool t20_2] ∧
 CallsU Tryz.prog 100 [Value.slice denA denn denc, Value.slice t15A t15n t15c] h_2 fun v_2 h_3 =>
 ∃ t27_0A : Option Addr, ∃ t27_0n t27_0c : Nat, ∃ t27_1A : Option Addr, ∃ t27_1n t27_1c : Nat, ∃ t27_2 : Bool, v_2 = Value.tuple #[Value.slice t27_0A t27_0n t27_0c, Value.slice t27_1A t27_1n t27_1c, Value.bool t27_2] ∧
 CallsU Tryz.prog 94 [Value.agg #[Value.bool num_0, Value.slice t20_0A t20_0n t20_0c]] h_3 fun v_3 h_4 =>
 ∃ t35_0 : Bool, ∃ t35_1A : Option Addr, ∃ t35_1n t35_1c : Nat, v_3 = Value.agg #[Value.bool t35_0, Value.slice t35_1A t35_1n t35_1c] ∧
 R (Value.agg #[Value.bool t35_0, Value.slice t35_1A t35_1n t35_1c, Value.slice t27_0A t27_0n t27_0c]) h_4

set_option maxRecDepth 100000 in
theorem ratio_reduce_ok {num_0 : Bool} {num_1A : Option Addr} {num_1n num_1c : Nat} {denA : Option Addr} {denn denc : Nat} {h : Heap} {R : Value → Heap → Prop} (hv : ratio_reduce_vc num_0 num_1A num_1n num_1c denA denn denc h R) : CallsU Tryz.prog 60 [Value.agg #[Value.bool num_0, Value.slice num_1A num_1n num_1c], Value.slice denA denn denc] h R :=
  fn_sound Tryz.func60 (by kernel_rfl) (by kernel_rfl) (by kernel_rfl) (fun _ => false) .nil [Value.agg #[Value.bool num_0, Value.slice num_1A num_1n num_1c], Value.slice denA denn denc] h R (by kernel_rfl)
    (Eq.mp (show ratio_reduce_vc num_0 num_1A num_1n num_1c denA denn denc h R = fnV Tryz.prog Tryz.f60 (fun _ => false) .nil [Value.agg #[Value.bool num_0, Value.slice num_1A num_1n num_1c], Value.slice denA denn denc] h R by kernel_rfl) hv)

def ratio_Neg_vc (a_0 : Bool) (a_1A : Option Addr) (a_1n a_1c : Nat) (a_2A : Option Addr) (a_2n a_2c : Nat) (h : Heap) (R : Value → Heap → Prop) : Prop :=
 CallsU Tryz.prog 55 [Value.agg #[Value.bool a_0, Value.slice a_1A a_1n a_1c, Value.slice a_2A a_2n a_2c]] h fun v h_1 =>
 ∃ t4_0 : Bool, ∃ t4_1A : Option Addr, ∃ t4_1n t4_1c : Nat, ∃ t4_2A : Option Addr, ∃ t4_2n t4_2c : Nat, v = Value.agg #[Value.bool t4_0, Value.slice t4_1A t4_1n t4_1c, Value.slice t4_2A t4_2n t4_2c] ∧
 CallsU Tryz.prog 102 [Value.agg #[Value.bool t4_0, Value.slice t4_1A t4_1n t4_1c]] h_1 fun v_1 h_2 =>
 ∃ t7_0 : Bool, ∃ t7_1A : Option Addr, ∃ t7_1n t7_1c : Nat, v_1 = Value.agg #[Value.bool t7_0, Value.slice t7_1A t7_1n t7_1c] ∧
 LeH h_1 h_2 ∧
 CallsU Tryz.prog 60 [Value.agg #[Value.bool t7_0, Value.slice t7_1A t7_1n t7_1c], Value.slice t4_2A t4_2n t4_2c] h_2 fun v_2 h_3 =>
 ∃ t10_0 : Bool, ∃ t10_1A : Option Addr, ∃ t10_1n t10_1c : Nat, ∃ t10_2A : Option Addr, ∃ t10_2n t10_2c : Nat, v_2 = Value.agg #[Value.bool t10_0, Value.slice t10_1A t10_1n t10_1c, Value.slice t10_2A t10_2n t10_2c] ∧
 R (Value.agg #[Value.bool t10_0, Value.slice t10_1A t10_1n t10_1c, Value.slice t10_2A t10_2n t10_2c]) h_3

set_option maxRecDepth 100000 in
theorem ratio_Neg_ok {a_0 : Bool} {a_1A : Option Addr} {a_1n a_1c : Nat} {a_2A : Option Addr} {a_2n a_2c : Nat} {h : Heap} {R : Value → Heap → Prop} (hv : ratio_Neg_vc a_0 a_1A a_1n a_1c a_2A a_2n a_2c h R) : CallsU Tryz.prog 62 [Value.agg #[Value.bool a_0, Value.slice a_1A a_1n a_1c, Value.slice a_2A a_2n a_2c]] h R :=
  fn_sound Tryz.func62 (by kernel_rfl) (by kernel_rfl) (by kernel_rfl) (fun _ => false) (.two .nil (.two .nil (.two (.ord [0, 1, 3, 4, 2, 5, 6]) .nil))) [Value.agg #[Value.bool a_0, Value.slice a_1A a_1n a_1c, Value.slice a_2A a_2n a_2c]] h R (by kernel_rfl)
    (Eq.mp (show ratio_Neg_vc a_0 a_1A a_1n a_1c a_2A a_2n a_2c h R = fnV Tryz.prog Tryz.f62 (fun _ => false) (.two .nil (.two .nil (.two (.ord [0, 1, 3, 4, 2, 5, 6]) .nil))) [Value.agg #[Value.bool a_0, Value.slice a_1A a_1n a_1c, Value.slice a_2A a_2n a_2c]] h R by kernel_rfl) hv)

def ratio_Norm_vc (a_0 : Bool) (a_1A : Option Addr) (a_1n a_1c : Nat) (a_2A : Option Addr) (a_2n a_2c : Nat) (h : Heap) (R : Value → Heap → Prop) : Prop :=
 CallsU Tryz.prog 55 [Value.agg #[Value.bool a_0, Value.slice a_1A a_1n a_1c, Value.slice a_2A a_2n a_2c]] h fun v h_1 =>
 ∃ t4_0 : Bool, ∃ t4_1A : Option Addr, ∃ t4_1n t4_1c : Nat, ∃ t4_2A : Option Addr, ∃ t4_2n t4_2c : Nat, v = Value.agg #[Value.bool t4_0, Value.slice t4_1A t4_1n t4_1c, Value.slice t4_2A t4_2n t4_2c] ∧
 CallsU Tryz.prog 60 [Value.agg #[Value.bool t4_0, Value.slice t4_1A t4_1n t4_1c], Value.slice t4_2A t4_2n t4_2c] h_1 fun v_1 h_2 =>
 ∃ t9_0 : Bool, ∃ t9_1A : Option Addr, ∃ t9_1n t9_1c : Nat, ∃ t9_2A : Option Addr, ∃ t9_2n t9_2c : Nat, v_1 = Value.agg #[Value.bool t9_0, Value.slice t9_1A t9_1n t9_1c, Value.slice t9_2A t9_2n t9_2c] ∧
 R (Value.agg #[Value.bool t9_0, Value.slice t9_1A t9_1n t9_1c, Value.slice t9_2A t9_2n t9_2c]) h_2

set_option maxRecDepth 100000 in
theorem ratio_Norm_ok {a_0 : Bool} {a_1A : Option Addr} {a_1n a_1c : Nat} {a_2A : Option Addr} {a_2n a_2c : Nat} {h : Heap} {R : Value → Heap → Prop} (hv : ratio_Norm_vc a_0 a_1A a_1n a_1c a_2A a_2n a_2c h R) : CallsU Tryz.prog 86 [Value.agg #[Value.bool a_0, Value.slice a_1A a_1n a_1c, Value.slice a_2A a_2n a_2c]] h R :=
  fn_sound Tryz.func86 (by kernel_rfl) (by kernel_rfl) (by kernel_rfl) (fun _ => false) .nil [Value.agg #[Value.bool a_0, Value.slice a_1A a_1n a_1c, Value.slice a_2A a_2n a_2c]] h R (by kernel_rfl)
    (Eq.mp (show ratio_Norm_vc a_0 a_1A a_1n a_1c a_2A a_2n a_2c h R = fnV Tryz.prog Tryz.f86 (fun _ => false) .nil [Value.agg #[Value.bool a_0, Value.slice a_1A a_1n a_1c, Value.slice a_2A a_2n a_2c]] h R by kernel_rfl) hv)

def ratio_Div_vc (a_0 : Bool) (a_1A : Option Addr) (a_1n a_1c : Nat) (a_2A : Option Addr) (a_2n a_2c : Nat) (b_0 : Bool) (b_1A : Option Addr) (b_1n b_1c : Nat) (b_2A : Option Addr) (b_2n b_2c : Nat) (h : Heap) (R : Value → Heap → Prop) : Prop :=
 CallsU Tryz.prog 55 [Value.agg #[Value.bool a_0, Value.slice a_1A a_1n a_1c, Value.slice a_2A a_2n a_2c]] h fun v h_1 =>
 ∃ t8_0 : Bool, ∃ t8_1A : Option Addr, ∃ t8_1n t8_1c : Nat, ∃ t8_2A : Option Addr, ∃ t8_2n t8_2c : Nat, v = Value.agg #[Value.bool t8_0, Value.slice t8_1A t8_1n t8_1c, Value.slice t8_2A t8_2n t8_2c] ∧
 LeH h h_1 ∧
 CallsU Tryz.prog 55 [Value.agg #[Value.bool b_0, Value.slice b_1A b_1n b_1c, Value.slice b_2A b_2n b_2c]] h_1 fun v_1 h_2 =>
 ∃ t10_0 : Bool, ∃ t10_1A : Option Addr, ∃ t10_1n t10_1c : Nat, ∃ t10_2A : Option Addr, ∃ t10_2n t10_2c : Nat, v_1 = Value.agg #[Value.bool t10_0, Value.slice t10_1A t10_1n t10_1c, Value.slice t10_2A t10_2n t10_2c] ∧
 CallsU Tryz.prog 92 [Value.slice t10_1A t10_1n t10_1c] h_2 fun v_2 h_3 =>
 ∃ t14 : Bool, v_2 = Value.bool t14 ∧
 Br (t14)
  (R (Value.tuple #[Value.agg #[Value.bool false, Value.slice none 0 0, Value.slice none 0 0], Value.bool false]) h_3)
  (CallsU Tryz.prog 61 [Value.slice t8_1A t8_1n t8_1c, Value.slice t10_2A t10_2n t10_2c] h_3 fun v_3 h_4 =>
 ∃ t28A : Option Addr, ∃ t28n t28c : Nat, v_3 = Value.slice t28A t28n t28c ∧
 LeH h_3 h_4 ∧
 CallsU Tryz.prog 61 [Value.slice t8_2A t8_2n t8_2c, Value.slice t10_1A t10_1n t10_1c] h_4 fun v_4 h_5 =>
 ∃ t36A : Option Addr, ∃ t36n t36c : Nat, v_4 = Value.slice t36A t36n t36c ∧
 LeH h_4 h_5 ∧
 CallsU Tryz.prog 60 [Value.agg #[Value.bool (!(t8_0 == t10_0)), Value.slice t28A t28n t28c], Value.slice t36A t36n t36c] h_5 fun v_5 h_6 =>
 ∃ t37_0 : Bool, ∃ t37_1A : Option Addr, ∃ t37_1n t37_1c : Nat, ∃ t37_2A : Option Addr, ∃ t37_2n t37_2c : Nat, v_5 = Value.agg #[Value.bool t37_0, Value.slice t37_1A t37_1n t37_1c, Value.slice t37_2A t37_2n t37_2c] ∧
 R (Value.tuple #[Value.agg #[Value.bool t37_0, Value.slice t37_1A t37_1n t37_1c, Value.slice t37_2A t37_2n t37_2c], Value.bool true]) h_6)

set_option maxRecDepth 100000 in
theorem ratio_Div_ok {a_0 : Bool} {a_1A : Option Addr} {a_1n a_1c : Nat} {a_2A : Option Addr} {a_2n a_2c : Nat} {b_0 : Bool} {b_1A : Option Addr} {b_1n b_1c : Nat} {b_2A : Option Addr} {b_2n b_2c : Nat} {h : Heap} {R : Value → Heap → Prop} (hv : ratio_Div_vc a_0 a_1A a_1n a_1c a_2A a_2n a_2c b_0 b_1A b_1n b_1c b_2A b_2n b_2c h R) : CallsU Tryz.prog 88 [Value.agg #[Value.bool a_0, Value.slice a_1A a_1n a_1c, Value.slice a_2A a_2n a_2c], Value.agg #[Value.bool b_0, Value.slice b_1A b_1n b_1c, Value.slice b_2A b_2n b_2c]] h R :=
  fn_sound Tryz.func88 (by kernel_rfl) (by kernel_rfl) (by kernel_rfl) (fun _ => false) (.two .nil (.two (.ord [0, 2, 1, 3, 4, 5]) (.two .nil (.two (.ord [0, 1, 2, 3, 4, 5, 6, 7, 8, 9, 10, 11, 12, 13, 14, 15]) (.two (.ord [0, 1, 2, 3, 4, 5, 6, 7, 8, 9]) .nil))))) [Value.agg #[Value.bool a_0, Value.slice a_1A a_1n a_1c, Value.slice a_2A a_2n a_2c], Value.agg #[Value.bool b_0, Value.slice b_1A b_1n b_1c, Value.slice b_2A b_2n b_2c]] h R (by kernel_rfl)
    (Eq.mp (show ratio_Div_vc a_0 a_1A a_1n a_1c a_2A a_2n a_2c b_0 b_1A b_1n b_1c b_2A b_2n b_2c h R = fnV Tryz.prog Tryz.f88 (fun _ => false) (.two .nil (.two (.ord [0, 2, 1, 3, 4, 5]) (.two .nil (.two (.ord [0, 1, 2, 3, 4, 5, 6, 7, 8, 9, 10, 11, 12, 13, 14, 15]) (.two (.ord [0, 1, 2, 3, 4, 5, 6, 7, 8, 9]) .nil))))) [Value.agg #[Value.bool a_0, Value.slice a_1A a_1n a_1c, Value.slice a_2A a_2n a_2c], Value.agg #[Value.bool b_0, Value.slice b_1A b_1n b_1c, Value.slice b_2A b_2n b_2c]] h R by kernel_rfl) hv)

def ratio_zero_vc (aA : Option Addr) (an ac : Nat) (h : Heap) (R : Value → Heap → Prop) : Prop :=
 CallsU Tryz.prog 95 [Value.slice aA an ac, Value.slice none 0 0] h fun v h_1 =>
 ∃ t4 : Int, v = Value.int .i64 t4 ∧
 R (Value.bool ((t4 : Int) == 0)) h_1

set_option maxRecDepth 100000 in
theorem ratio_zero_ok {aA : Option Addr} {an ac : Nat} {h : Heap} {R : Value → Heap → Prop} (hv : ratio_zero_vc aA an ac h R) : CallsU Tryz.prog 92 [Value.slice aA an ac] h R :=
  fn_sound Tryz.func92 (by kernel_rfl) (by kernel_rfl) (by kernel_rfl) (fun _ => false) .nil [Value.slice aA an ac] h R (by kernel_rfl)
    (Eq.mp (show ratio_zero_vc aA an ac h R = fnV Tryz.prog Tryz.f92 (fun _ => false) .nil [Value.slice aA an ac] h R by kernel_rfl) hv)

def ratio_Of_vc (num : Int) (den : Int) (h : Heap) (R : Value → Heap → Prop) : Prop :=
 Br ((den : Int) == 0)
  (R (Value.tuple #[Value.agg #[Value.bool false, Value.slice none 0 0, Value.slice none 0 0], Value.bool false]) h)
  (CallsU Tryz.prog 187 [Value.int .i64 num] h fun v h_1 =>
 ∃ t12_0 : Bool, ∃ t12_1A : Option Addr, ∃ t12_1n t12_1c : Nat, v = Value.agg #[Value.bool t12_0, Value.slice t12_1A t12_1n t12_1c] ∧
 CallsU Tryz.prog 187 [Value.int .i64 den] h_1 fun v_1 h_2 =>
 ∃ t14_0 : Bool, ∃ t14_1A : Option Addr, ∃ t14_1n t14_1c : Nat, v_1 = Value.agg #[Value.bool t14_0, Value.slice t14_1A t14_1n t14_1c] ∧
 CallsU Tryz.prog 60 [Value.agg #[Value.bool (!(t12_0 == t14_0)), Value.slice t12_1A t12_1n t12_1c], Value.slice t14_1A t14_1n t14_1c] h_2 fun v_2 h_3 =>
 ∃ t24_0 : Bool, ∃ t24_1A : Option Addr, ∃ t24_1n t24_1c : Nat, ∃ t24_2A : Option Addr, ∃ t24_2n t24_2c : Nat, v_2 = Value.agg #[Value.bool t24_0, Value.slice t24_1A t24_1n t24_1c, Value.slice t24_2A t24_2n t24_2c] ∧
 R (Value.tuple #[Value.agg #[Value.bool t24_0, Value.slice t24_1A t24_1n t24_1c, Value.slice t24_2A t24_2n t24_2c], Value.bool true]) h_3)

set_option maxRecDepth 100000 in
theorem ratio_Of_ok {num : Int} {den : Int} {h : Heap} {R : Value → Heap → Prop} (hv : ratio_Of_vc num den h R) : CallsU Tryz.prog 154 [Value.int .i64 num, Value.int .i64 den] h R :=
  fn_sound Tryz.func154 (by kernel_rfl) (by kernel_rfl) (by kernel_rfl) (fun _ => false) .nil [Value.int .i64 num, Value.int .i64 den] h R (by kernel_rfl)
    (Eq.mp (show ratio_Of_vc num den h R = fnV Tryz.prog Tryz.f154 (fun _ => false) .nil [Value.int .i64 num, Value.int .i64 den] h R by kernel_rfl) hv)

end Go.Proofs.YtdpdaphholileaaGreatDoor

/-
  Contracts: natural: Gcd; integer: signed, Norm, Of, Mul, Cmp; ratio: zero, value, positive, reduce, Norm, Of, Cmp.
-/
namespace Go.Proofs.YtdpdaphholileaaGreatDoor
open Go Go.Vcg
attribute [local irreducible] Br

/-- A number that has at most k limbs. -/
def Sz (v k : Nat) : Prop := v < B32 ^ k

theorem Sz.mono {v k j : Nat} (h : Sz v k) (hk : k ≤ j) : Sz v j := Nat.lt_of_lt_of_le h (Nat.pow_le_pow_right (by decide) hk)
theorem Sz.le {v w k : Nat} (h : Sz v k) (hw : w ≤ v) : Sz w k := Nat.lt_of_le_of_lt hw h
theorem Sz.mul {v w k j : Nat} (h : Sz v k) (g : Sz w j) : Sz (v * w) (k + j) := by
  unfold Sz at *
  rw [Nat.pow_add]
  exact Nat.mul_lt_mul'' h g
theorem Sz.add {v w k : Nat} (h : Sz v k) (g : Sz w k) : Sz (v + w) (k + 1) := by
  unfold Sz at *
  rw [Nat.pow_succ]
  generalize B32 ^ k = M at *
  have : M * 2 ≤ M * B32 := Nat.mul_le_mul_left _ (by decide)
  omega
theorem Sz.one : Sz 1 1 := by unfold Sz; decide
theorem Sz.zero (k : Nat) : Sz 0 k := Nat.pow_pos (by decide)
theorem Sz.u64 {v : Nat} (h : v < 18446744073709551616) : Sz v 2 := by unfold Sz B32; omega
theorem IsN.sz {h : Heap} {A : Option Addr} {n c v : Nat} (u : IsN h A n c v) : Sz v n := IsN.lt u
theorem NmN.sz {h : Heap} {A : Option Addr} {n c v : Nat} (u : NmN h A n c v) : Sz v n := IsN.lt u.is
theorem NmN.le_of {h : Heap} {A : Option Addr} {n c v k : Nat} (u : NmN h A n c v) (hs : Sz v k) : n ≤ k := NmN.len_le u hs

theorem gcd_c {h : Heap} {A B : Option Addr} {n c m d x y : Nat} (ux : IsN h A n c x) (uy : IsN h B m d y) (hn : n ≤ 1099511627776) (hm : m ≤ 1099511627776) :
    CallsU Tryz.prog 99 [.slice A n c, .slice B m d] h fun r h' => ∃ A' k c', r = .slice A' k c' ∧ NmN h' A' k c' (Nat.gcd x y) ∧ k ≤ max n m ∧ Le h h' := by
  apply natural_Gcd_ok
  refine (norm_c ux (by omega)).mono ?_
  rintro _ h1 ⟨A1, n1, c1, rfl, hn1, nx, hl1⟩
  refine ⟨_, _, _, rfl, (norm_c (uy.mono hl1) (by omega)).mono ?_⟩
  rintro _ h2 ⟨A2, n2, c2, rfl, hn2, ny, hl2⟩
  refine ⟨_, _, _, rfl, fun v aA an ac bA bn bc h' => ∃ u, NmN h' aA an ac u ∧ NmN h' bA bn bc v ∧ Nat.gcd u v = Nat.gcd x y ∧ an ≤ max n m ∧ bn ≤ max n m ∧ Le h h', ⟨y, x, nx.mono hl2, ny, rfl, by omega, by omega, hl1.trans hl2⟩, ?_⟩
  rintro v aA an ac bA bn bc h' ⟨u, nu, nv, hg, ha, hb, hl⟩
  have hz := NmN.zero_iff nv
  refine Br.mk (fun q => ?_) (fun q => ?_)
  · have hv : v ≠ 0 := by simp at q; omega
    refine (divmod_c nu.is nv.is (by omega) (by omega) hv).mono ?_
    rintro _ h4 ⟨A3, n3, c3, A4, n4, c4, rfl, _, hN, hl'⟩
    have hlt : u % v < v := Nat.mod_lt _ (by omega)
    refine ⟨_, _, _, _, _, _, _, rfl, u % v, hlt, v, nv.mono hl', hN, ?_, hb, ?_, hl.trans hl'⟩
    · rw [← hg, Nat.gcd_comm v, Nat.gcd_comm u, ← Nat.gcd_rec]
    · have := NmN.le_of hN (nv.sz.le (Nat.le_of_lt hlt)); omega
  · have hv : v = 0 := by simp at q; omega
    subst hv
    rw [Nat.gcd_zero_right] at hg
    subst hg
    exact ⟨_, _, _, rfl, nu, ha, hl⟩

/-! ### integers -/
/-- A sign and limbs that denote an integer. -/
def IsI (h : Heap) (s : Bool) (A : Option Addr) (n c : Nat) (z : Int) : Prop := ∃ v : Nat, IsN h A n c v ∧ z = if s then -(v : Int) else v
/-- .. in normal form. -/
def NmI (h : Heap) (s : Bool) (A : Option Addr) (n c : Nat) (z : Int) : Prop := NmN h A n c z.natAbs ∧ s = decide (z < 0)

theorem NmI.is {h : Heap} {s : Bool} {A : Option Addr} {n c : Nat} {z : Int} (u : NmI h s A n c z) : IsI h s A n c z := by
  refine ⟨z.natAbs, u.1.is, ?_⟩
  rw [u.2]
  by_cases hz : z < 0 <;> simp [hz] <;> omega
theorem IsI.mono {h h' : Heap} {s : Bool} {A : Option Addr} {n c : Nat} {z : Int} (u : IsI h s A n c z) (l : Le h h') : IsI h' s A n c z := let ⟨v, a, b⟩ := u; ⟨v, a.mono l, b⟩
theorem NmI.mono {h h' : Heap} {s : Bool} {A : Option Addr} {n c : Nat} {z : Int} (u : NmI h s A n c z) (l : Le h h') : NmI h' s A n c z := ⟨u.1.mono l, u.2⟩
theorem IsI.natAbs {h : Heap} {s : Bool} {A : Option Addr} {n c : Nat} {z : Int} (u : IsI h s A n c z) : IsN h A n c z.natAbs := by
  obtain ⟨v, a, rfl⟩ := u
  cases s
  · simpa using a
  · simpa using a
theorem IsI.pos {h : Heap} {A : Option Addr} {n c v : Nat} (u : IsN h A n c v) : IsI h false A n c v := ⟨v, u, by simp⟩
theorem IsI.sz {h : Heap} {s : Bool} {A : Option Addr} {n c : Nat} {z : Int} (u : IsI h s A n c z) : Sz z.natAbs n := IsN.lt u.natAbs

theorem signed_c {h : Heap} {s : Bool} {A : Option Addr} {n c : Nat} {z : Int} (u : IsI h s A n c z) (hn : n ≤ 1099511627776) :
    CallsU Tryz.prog 96 [.bool s, .slice A n c] h fun r h' => ∃ s' A' k c', r = .agg #[.bool s', .slice A' k c'] ∧ NmI h' s' A' k c' z ∧ k ≤ n ∧ Le h h' := by
  apply integer_signed_ok
  obtain ⟨v, uv, ez⟩ := u
  have ev : z.natAbs = v := by subst ez; cases s <;> simp
  refine (norm_c uv (by omega)).mono ?_
  rintro _ h1 ⟨A', k, c', rfl, hk, hN, hl⟩
  have hz := NmN.zero_iff hN
  rw [← ev] at hN
  refine ⟨_, _, _, rfl, Br.mk (fun q => ?_) (fun q => ?_)⟩
  · subst q
    refine ⟨_, _, _, _, rfl, ⟨hN, ?_⟩, hk, hl⟩
    simp only [if_true] at ez
    apply decide_eq_decide.2
    omega
  · subst q
    refine ⟨_, _, _, _, rfl, ⟨hN, ?_⟩, hk, hl⟩
    simp only [Bool.false_eq_true, if_false] at ez
    symm
    apply decide_eq_false
    omega

theorem inorm_c {h : Heap} {s : Bool} {A : Option Addr} {n c : Nat} {z : Int} (u : IsI h s A n c z) (hn : n ≤ 1099511627776) :
    CallsU Tryz.prog 94 [.agg #[.bool s, .slice A n c]] h fun r h' => ∃ s' A' k c', r = .agg #[.bool s', .slice A' k c'] ∧ NmI h' s' A' k c' z ∧ k ≤ n ∧ Le h h' := by
  apply integer_Norm_ok
  refine (signed_c u hn).mono ?_
  rintro _ _ ⟨s', A', k, c', rfl, r⟩
  exact ⟨_, _, _, _, rfl, _, _, _, _, rfl, r⟩

theorem mul_sign (a b : Bool) (x y : Nat) : (if a then -(x : Int) else x) * (if b then -(y : Int) else y) = if !(a == b) then -((x * y : Nat) : Int) else ((x * y : Nat) : Int) := by
  cases a <;> cases b <;> simp [Int.natCast_mul, Int.neg_mul, Int.mul_neg]

theorem imul_c {h : Heap} {s s2 : Bool} {A B : Option Addr} {n c m d : Nat} {z w : Int} (u : IsI h s A n c z) (v : IsI h s2 B m d w) (hn : n ≤ 549755813888) (hm : m ≤ 549755813888) :
    CallsU Tryz.prog 57 [.agg #[.bool s, .slice A n c], .agg #[.bool s2, .slice B m d]] h fun r h' => ∃ s' A' k c', r = .agg #[.bool s', .slice A' k c'] ∧ NmI h' s' A' k c' (z * w) ∧ k ≤ n + m ∧ Le h h' := by
  apply integer_Mul_ok
  obtain ⟨x, ux, rfl⟩ := u
  obtain ⟨y, uy, rfl⟩ := v
  refine (mul_c ux uy (by omega) (by omega)).mono ?_
  rintro _ h1 ⟨A', k, c', rfl, hN, hl⟩
  have hk := NmN.le_of hN (ux.sz.mul uy.sz)
  refine ⟨_, _, _, rfl, hl, (signed_c ⟨_, hN.is, rfl⟩ (by omega)).mono ?_⟩
  rintro _ _ ⟨s', A', k, c', rfl, r, hk', hl'⟩
  exact ⟨_, _, _, _, rfl, _, _, _, _, rfl, by rw [mul_sign]; exact r, by omega, hl.trans hl'⟩

theorem icmp_c {h : Heap} {s s2 : Bool} {A B : Option Addr} {n c m d : Nat} {z w : Int} (u : IsI h s A n c z) (v : IsI h s2 B m d w) (hn : n ≤ 1099511627776) (hm : m ≤ 1099511627776) :
    CallsU Tryz.prog 56 [.agg #[.bool s, .slice A n c], .agg #[.bool s2, .slice B m d]] h fun r h' => r = .int .i64 (cmpI z w) ∧ Le h h' := by
  apply integer_Cmp_ok
  refine (inorm_c u hn).mono ?_
  rintro _ h1 ⟨s1, A1, k1, c1, rfl, n1, hk1, hl1⟩
  refine ⟨_, _, _, _, rfl, (by first | assumption | exact Le.refl _), (inorm_c (v.mono hl1) hm).mono ?_⟩
  rintro _ h2 ⟨s3, A2, k2, c2, rfl, n2, hk2, hl2⟩
  have n1' := n1.mono hl2
  have hl := hl1.trans hl2
  have e1 := n1.2
  have e2 := n2.2
  refine ⟨_, _, _, _, rfl, fun b h' => b = (s1 && !s3) ∧ h2 = h', ?_, ?_⟩
  · rintro _ _ ⟨rfl, rfl⟩
    refine Br.mk (fun q => ?_) (fun q => ⟨fun b h' => b = (!s1 && s3) ∧ h2 = h', ?_, ?_⟩)
    · rw [e1, e2] at q; simp at q
      refine ⟨?_, hl⟩
      unfold cmpI
      rw [if_pos (by omega)]
    · rintro _ _ ⟨rfl, rfl⟩
      refine Br.mk (fun q2 => ?_) (fun q2 => Br.mk (fun q3 => ?_) (fun q3 => ?_))
      · rw [e1, e2] at q2; simp at q2
        refine ⟨?_, hl⟩
        unfold cmpI
        rw [if_neg (by omega), if_pos (by omega)]
      · refine (cmp_c n2.1.is n1'.1.is (by omega) (by omega)).mono ?_
        rintro _ _ ⟨rfl, rfl⟩
        refine ⟨_, rfl, ?_, hl⟩
        rw [e1] at q3; simp at q3
        rw [e1, e2] at q; simp [q3] at q
        have a1 : (z.natAbs : Int) = -z := by omega
        have a2 : (w.natAbs : Int) = -w := by omega
        rw [a1, a2]
        unfold cmpI
        split <;> split <;> (try split) <;> (try split) <;> first | rfl | omega
      · refine (cmp_c n1'.1.is n2.1.is (by omega) (by omega)).mono ?_
        rintro _ _ ⟨rfl, rfl⟩
        refine ⟨_, rfl, ?_, hl⟩
        rw [e1] at q3; simp at q3
        rw [e1, e2] at q2; simp [q3] at q2
        have a1 : (z.natAbs : Int) = z := by omega
        have a2 : (w.natAbs : Int) = w := by omega
        rw [a1, a2]
    · refine Br.mk (fun q2 => ⟨?_, rfl⟩) (fun q2 => ⟨?_, rfl⟩)
      · simp at q2; simp [q2]
      · simp at q2; simp [q2]
  · refine Br.mk (fun q2 => ⟨?_, rfl⟩) (fun q2 => ⟨?_, rfl⟩)
    · simp [q2]
    · simp [q2]

theorem iof_c (z : Int) (h1 : -9223372036854775808 ≤ z) (h2 : z < 9223372036854775808) (h : Heap) :
    CallsU Tryz.prog 187 [.int .i64 z] h fun r h' => ∃ s' A' k c', r = .agg #[.bool s', .slice A' k c'] ∧ NmI h' s' A' k c' z ∧ k ≤ 2 ∧ Le h h' := by
  apply integer_Of_ok
  refine Br.mk (fun q => ?_) (fun q => ?_)
  · have hz : z < 0 := by simpa using q
    rintro _ rfl
    have e : IntKind.u64.wrap (0 - IntKind.u64.wrap z) = ((z.natAbs : Nat) : Int) := by simp only [wrap_u64_mod]; omega
    rw [e]
    refine (of_c z.natAbs (by omega) h).mono ?_
    rintro _ h1 ⟨A, m, c, rfl, hm, hN, hl⟩
    refine ⟨_, _, _, rfl, (signed_c (s := true) (z := z) ⟨_, hN.is, by simp; omega⟩ (by omega)).mono ?_⟩
    rintro _ _ ⟨s', A', k, c', rfl, r, hk', hl'⟩
    exact ⟨_, _, _, _, rfl, _, _, _, _, rfl, r, by omega, hl.trans hl'⟩
  · have hz : 0 ≤ z := by simpa using q
    rw [wu (n := z.natAbs) (by omega) (by omega)]
    refine (of_c z.natAbs (by omega) h).mono ?_
    rintro _ h1 ⟨A, m, c, rfl, hm, hN, hl⟩
    refine ⟨_, _, _, rfl, (signed_c (s := false) (z := z) ⟨_, hN.is, by simp; omega⟩ (by omega)).mono ?_⟩
    rintro _ _ ⟨s', A', k, c', rfl, r, hk', hl'⟩
    exact ⟨_, _, _, _, rfl, _, _, _, _, rfl, r, by omega, hl.trans hl'⟩

/-! ### ratios -/
/-- A numerator and a denominator that denote a rational number; the denominator 0 makes it 0. -/
def IsQ (h : Heap) (s : Bool) (A : Option Addr) (n c : Nat) (B : Option Addr) (m d : Nat) (q : Rat) : Prop := ∃ (z : Int) (v : Nat), IsI h s A n c z ∧ IsN h B m d v ∧ mkRat z v = q
/-- .. in normal form. -/
def NmQ (h : Heap) (s : Bool) (A : Option Addr) (n c : Nat) (B : Option Addr) (m d : Nat) (q : Rat) : Prop := NmI h s A n c q.num ∧ NmN h B m d q.den

section
variable {h h' : Heap} {s : Bool} {A B : Option Addr} {n c m d : Nat} {q : Rat}
theorem NmQ.is (u : NmQ h s A n c B m d q) : IsQ h s A n c B m d q := ⟨q.num, q.den, u.1.is, u.2.is, Rat.mkRat_self q⟩
theorem NmQ.mono (u : NmQ h s A n c B m d q) (l : Le h h') : NmQ h' s A n c B m d q := ⟨u.1.mono l, u.2.mono l⟩
theorem IsQ.mono (u : IsQ h s A n c B m d q) (l : Le h h') : IsQ h' s A n c B m d q := let ⟨z, v, a, b, e⟩ := u; ⟨z, v, a.mono l, b.mono l, e⟩
end

theorem rzero_c {h : Heap} {A : Option Addr} {n c v : Nat} (u : IsN h A n c v) (hn : n ≤ 1099511627776) :
    CallsU Tryz.prog 92 [.slice A n c] h fun r h' => r = .bool (decide (v = 0)) ∧ h = h' := by
  apply ratio_zero_ok
  refine (cmp_c u (NmN.nil h none 0).is hn (by omega)).mono ?_
  rintro _ _ ⟨rfl, rfl⟩
  refine ⟨_, rfl, ?_, rfl⟩
  congr 1
  unfold cmpI
  rcases Nat.eq_zero_or_pos v with e | e
  · subst e; rfl
  · rw [if_neg (by omega), if_pos (by omega), decide_eq_false (by omega)]; rfl

theorem rpos_c {h : Heap} {A : Option Addr} {n c v : Nat} (u : IsN h A n c v) :
    CallsU Tryz.prog 58 [.slice A n c] h fun r h' => r = .agg #[.bool false, .slice A n c] ∧ IsI h false A n c v ∧ h = h' := by
  apply ratio_positive_ok
  exact ⟨rfl, IsI.pos u, rfl⟩

/-- A ratio as value returns it: the denominator is not 0. -/
def VlQ (h : Heap) (s : Bool) (A : Option Addr) (n c : Nat) (B : Option Addr) (m d : Nat) (q : Rat) : Prop := ∃ (z : Int) (v : Nat), v ≠ 0 ∧ IsI h s A n c z ∧ IsN h B m d v ∧ mkRat z v = q

theorem rvalue_c {h : Heap} {s : Bool} {A B : Option Addr} {n c m d : Nat} {q : Rat} (u : IsQ h s A n c B m d q) (hm : m ≤ 1099511627776) :
    CallsU Tryz.prog 55 [.agg #[.bool s, .slice A n c, .slice B m d]] h fun r h' => ∃ s' A' n' c' B' m' d', r = .agg #[.bool s', .slice A' n' c', .slice B' m' d'] ∧ VlQ h' s' A' n' c' B' m' d' q ∧ n' ≤ n ∧ m' ≤ max m 2 ∧ Le h h' := by
  apply ratio_value_ok
  obtain ⟨z, v, uz, uv, e⟩ := u
  refine (rzero_c uv hm).mono ?_
  rintro _ _ ⟨rfl, rfl⟩
  refine ⟨_, rfl, Br.mk (fun q0 => ?_) (fun q0 => ?_)⟩
  · have hv : v = 0 := by simpa using q0
    subst hv
    refine (of_c 1 (by omega) h).mono ?_
    rintro _ h1 ⟨A', k, c', rfl, hk, hN, hl⟩
    refine ⟨_, _, _, rfl, _, _, _, _, _, _, _, rfl, ⟨0, 1, by omega, IsI.pos (NmN.nil _ none 0).is, hN.is, ?_⟩, by omega, by omega, hl⟩
    rw [← e]; simp
  · have hv : v ≠ 0 := by simpa using q0
    exact ⟨_, _, _, _, _, _, _, rfl, ⟨z, v, hv, uz, uv, e⟩, by omega, by omega, Le.refl _⟩

theorem mkRat_num {z : Int} {v : Nat} (hv : v ≠ 0) : (mkRat z v).num.natAbs = z.natAbs / Nat.gcd z.natAbs v ∧ (mkRat z v).den = v / Nat.gcd z.natAbs v := by
  rw [Rat.num_mkRat, Rat.den_mkRat, if_neg hv, if_neg hv, Nat.gcd_comm v]
  refine ⟨?_, rfl⟩
  have hd : ((Nat.gcd z.natAbs v : Nat) : Int) ∣ z := Int.ofNat_dvd_left.2 (Nat.gcd_dvd_left _ _)
  rw [Int.natAbs_ediv_of_dvd hd]
  simp

theorem mkRat_sign {z : Int} {v : Nat} (hv : v ≠ 0) : ((mkRat z v).num < 0 ↔ z < 0) := by
  rw [Rat.num_mkRat, if_neg hv]
  have hg : 0 < v.gcd z.natAbs := Nat.gcd_pos_of_pos_left _ (by omega)
  have hd : ((v.gcd z.natAbs : Nat) : Int) ∣ z := Int.ofNat_dvd_left.2 (Nat.gcd_dvd_right _ _)
  obtain ⟨k, hk⟩ := hd
  generalize v.gcd z.natAbs = g at *
  subst hk
  rw [Int.mul_ediv_cancel_left _ (by omega)]
  constructor
  · intro h; exact Int.mul_neg_of_pos_of_neg (by omega) h
  · intro h
    rcases Int.lt_or_le k 0 with a | a
    · exact a
    · have := Int.mul_nonneg (show 0 ≤ (g : Int) by omega) a; omega

theorem reduce_c {h : Heap} {s : Bool} {A B : Option Addr} {n c m d : Nat} {z : Int} {v : Nat} (u : IsI h s A n c z) (w : IsN h B m d v) (hv : v ≠ 0) (hn : n ≤ 1099511627776) (hm : m ≤ 1099511627776) :
    CallsU Tryz.prog 60 [.agg #[.bool s, .slice A n c], .slice B m d] h fun r h' => ∃ s' A' n' c' B' m' d', r = .agg #[.bool s', .slice A' n' c', .slice B' m' d'] ∧ NmQ h' s' A' n' c' B' m' d' (mkRat z v) ∧ n' ≤ n ∧ m' ≤ m ∧ Le h h' := by
  apply ratio_reduce_ok
  have un := u.natAbs
  obtain ⟨e1, e2⟩ := mkRat_num (z := z) hv
  refine (gcd_c un w hn hm).mono ?_
  rintro _ h1 ⟨A1, k1, c1, rfl, hN1, hk1, hl1⟩
  have hg : Nat.gcd z.natAbs v ≠ 0 := by have := Nat.gcd_pos_of_pos_right z.natAbs (show 0 < v by omega); omega
  refine ⟨_, _, _, rfl, (divmod_c (un.mono hl1) hN1.is hn (by omega) hg).mono ?_⟩
  rintro _ h2 ⟨A2, k2, c2, A3, k3, c3, rfl, hN2, _, hl2⟩
  refine ⟨_, _, _, _, _, _, _, rfl, (divmod_c (w.mono (hl1.trans hl2)) (hN1.mono hl2).is hm (by omega) hg).mono ?_⟩
  rintro _ h3 ⟨A4, k4, c4, A5, k5, c5, rfl, hN4, _, hl3⟩
  have hk2 := NmN.le_of hN2 (un.sz.le (Nat.div_le_self _ _))
  have hk4 := NmN.le_of hN4 (w.sz.le (Nat.div_le_self _ _))
  have hI : IsI h3 s A2 k2 c2 (mkRat z v).num := by
    refine ⟨_, (hN2.mono hl3).is, ?_⟩
    rw [← e1]
    have hs := mkRat_sign (z := z) hv
    obtain ⟨x, _, ez⟩ := u
    have : (mkRat z v).num = 0 ↔ z = 0 := by rw [Rat.num_eq_zero]; exact Rat.mkRat_eq_zero hv
    cases s <;> simp at ez ⊢ <;> omega
  refine ⟨_, _, _, _, _, _, _, rfl, (inorm_c hI (by omega)).mono ?_⟩
  rintro _ h4 ⟨s', A6, k6, c6, rfl, hN6, hk6, hl4⟩
  refine ⟨_, _, _, _, rfl, _, _, _, _, _, _, _, rfl, ⟨hN6, ?_⟩, by omega, hk4, ((hl1.trans hl2).trans hl3).trans hl4⟩
  rw [e2]
  exact hN4.mono hl4

theorem rnorm_c {h : Heap} {s : Bool} {A B : Option Addr} {n c m d : Nat} {q : Rat} (u : IsQ h s A n c B m d q) (hn : n ≤ 1099511627776) (hm : m ≤ 1099511627776) :
    CallsU Tryz.prog 86 [.agg #[.bool s, .slice A n c, .slice B m d]] h fun r h' => ∃ s' A' n' c' B' m' d', r = .agg #[.bool s', .slice A' n' c', .slice B' m' d'] ∧ NmQ h' s' A' n' c' B' m' d' q ∧ n' ≤ n ∧ m' ≤ max m 2 ∧ Le h h' := by
  apply ratio_Norm_ok
  refine (rvalue_c u hm).mono ?_
  rintro _ h1 ⟨s1, A1, n1, c1, B1, m1, d1, rfl, ⟨z, v, hv, uz, uv, e⟩, hn1, hm1, hl1⟩
  refine ⟨_, _, _, _, _, _, _, rfl, (reduce_c uz uv hv (by omega) (by omega)).mono ?_⟩
  rintro _ h2 ⟨s2, A2, n2, c2, B2, m2, d2, rfl, hN, hn2, hm2, hl2⟩
  rw [e] at hN
  exact ⟨_, _, _, _, _, _, _, rfl, _, _, _, _, _, _, _, rfl, hN, by omega, by omega, hl1.trans hl2⟩

/-- How two rational numbers compare. -/
def cmpQ (x y : Rat) : Int := if x < y then -1 else if y < x then 1 else 0

theorem mkRat_lt {z w : Int} {v u : Nat} (hv : v ≠ 0) (hu : u ≠ 0) : mkRat z v < mkRat w u ↔ z * u < w * v := by
  rw [Rat.mkRat_eq_div, Rat.mkRat_eq_div]
  have h1 : (0 : Rat) < (v : Rat) := Rat.natCast_pos.2 (by omega)
  have h2 : (0 : Rat) < (u : Rat) := Rat.natCast_pos.2 (by omega)
  have h3 : (u : Rat) ≠ 0 := (Rat.ne_of_lt h2).symm
  rw [Rat.div_lt_iff h1]
  have e : (w : Rat) / (u : Rat) * (v : Rat) = ((w : Rat) * (v : Rat)) / (u : Rat) := by grind
  rw [e, Rat.lt_div_iff h2]
  rw [← Rat.intCast_natCast, ← Rat.intCast_natCast, ← Rat.intCast_mul, ← Rat.intCast_mul, Rat.intCast_lt_intCast]

theorem cmpQ_mk {z w : Int} {v u : Nat} (hv : v ≠ 0) (hu : u ≠ 0) : cmpI (z * u) (w * v) = cmpQ (mkRat z v) (mkRat w u) := by
  unfold cmpI cmpQ
  simp only [mkRat_lt hv hu, mkRat_lt hu hv]

theorem rcmp_c {h : Heap} {s s2 : Bool} {A B C D : Option Addr} {n c m d n2 c2 m2 d2 : Nat} {q p : Rat} (u : IsQ h s A n c B m d q) (w : IsQ h s2 C n2 c2 D m2 d2 p) (hn : n ≤ 274877906944) (hm : m ≤ 274877906944) (hn2 : n2 ≤ 274877906944) (hm2 : m2 ≤ 274877906944) :
    CallsU Tryz.prog 29 [.agg #[.bool s, .slice A n c, .slice B m d], .agg #[.bool s2, .slice C n2 c2, .slice D m2 d2]] h fun r h' => r = .int .i64 (cmpQ q p) ∧ Le h h' := by
  apply ratio_Cmp_ok
  refine (rvalue_c u (by omega)).mono ?_
  rintro _ h1 ⟨s1, A1, n1, c1, B1, m1, d1, rfl, ⟨z, v, hv, uz, uv, rfl⟩, hn1, hm1, hl1⟩
  refine ⟨_, _, _, _, _, _, _, rfl, (by first | assumption | exact Le.refl _), (rvalue_c (w.mono hl1) (by omega)).mono ?_⟩
  rintro _ h2 ⟨s3, A3, n3, c3, B3, m3, d3, rfl, ⟨y, t, ht, uy, ut, rfl⟩, hn3, hm3, hl2⟩
  refine ⟨_, _, _, _, _, _, _, rfl, (rpos_c ut).mono ?_⟩
  rintro _ _ ⟨rfl, pt, rfl⟩
  refine ⟨_, _, _, _, rfl, (by first | assumption | exact Le.refl _), (imul_c (uz.mono hl2) pt (by omega) (by omega)).mono ?_⟩
  rintro _ h3 ⟨s4, A4, k4, c4, rfl, hN4, hk4, hl4⟩
  refine ⟨_, _, _, _, rfl, (by first | assumption | exact Le.refl _), (rpos_c ((uv.mono hl2).mono hl4)).mono ?_⟩
  rintro _ _ ⟨rfl, pv, rfl⟩
  refine ⟨_, _, _, _, rfl, (by first | assumption | exact Le.refl _), (imul_c (uy.mono hl4) pv (by omega) (by omega)).mono ?_⟩
  rintro _ h5 ⟨s6, A6, k6, c6, rfl, hN6, hk6, hl6⟩
  refine ⟨_, _, _, _, rfl, (icmp_c (hN4.mono hl6).is hN6.is (by omega) (by omega)).mono ?_⟩
  rintro _ h7 ⟨rfl, hl7⟩
  exact ⟨_, rfl, by rw [cmpQ_mk hv ht], (((hl1.trans hl2).trans hl4).trans hl6).trans hl7⟩

theorem rof_c (z w : Int) (hz1 : -9223372036854775808 ≤ z) (hz2 : z < 9223372036854775808) (hw1 : -9223372036854775808 ≤ w) (hw2 : w < 9223372036854775808) (hw : w ≠ 0) (h : Heap) :
    CallsU Tryz.prog 154 [.int .i64 z, .int .i64 w] h fun r h' => ∃ s' A' n' c' B' m' d', r = .tuple #[.agg #[.bool s', .slice A' n' c', .slice B' m' d'], .bool true] ∧ NmQ h' s' A' n' c' B' m' d' ((z : Rat) / (w : Rat)) ∧ n' ≤ 2 ∧ m' ≤ 2 ∧ Le h h' := by
  apply ratio_Of_ok
  refine Br.mk (fun q => by simp at q; omega) (fun _ => ?_)
  refine (iof_c z hz1 hz2 h).mono ?_
  rintro _ h1 ⟨s1, A1, k1, c1, rfl, n1, hk1, hl1⟩
  refine ⟨_, _, _, _, rfl, (iof_c w hw1 hw2 h1).mono ?_⟩
  rintro _ h2 ⟨s2, A2, k2, c2, rfl, n2, hk2, hl2⟩
  have e1 := n1.2
  have e2 := n2.2
  have hI : IsI h2 (!(s1 == s2)) A1 k1 c1 (if w < 0 then -z else z) := by
    refine ⟨_, (n1.mono hl2).1.is, ?_⟩
    rw [e1, e2]
    by_cases a : z < 0 <;> by_cases b : w < 0 <;> simp [a, b] <;> omega
  refine ⟨_, _, _, _, rfl, (reduce_c hI n2.1.is (by omega) (by omega) (by omega)).mono ?_⟩
  rintro _ h3 ⟨s3, A3, n3, c3, B3, m3, d3, rfl, hN, hn3, hm3, hl3⟩
  have e : mkRat (if w < 0 then -z else z) w.natAbs = (z : Rat) / (w : Rat) := by
    rw [Rat.mkRat_eq_div]
    by_cases b : w < 0
    · simp only [b, if_true]
      have : ((w.natAbs : Nat) : Rat) = -(w : Rat) := by rw [← Rat.intCast_natCast, ← Rat.intCast_neg]; congr 1; omega
      rw [this, Rat.intCast_neg]
      grind
    · simp only [b, if_false]
      have : ((w.natAbs : Nat) : Rat) = (w : Rat) := by rw [← Rat.intCast_natCast]; congr 1; omega
      rw [this]
  rw [e] at hN
  exact ⟨_, _, _, _, _, _, _, rfl, _, _, _, _, _, _, _, rfl, hN, by omega, by omega, (hl1.trans hl2).trans hl3⟩
end Go.Proofs.YtdpdaphholileaaGreatDoor

/- Made by vcgen.py: verification conditions of functions, each held against the calculator by the kernel. -/
namespace Go.Proofs.YtdpdaphholileaaGreatDoor
open Go Go.Vcg

end Go.Proofs.YtdpdaphholileaaGreatDoor

/-
  Contracts: sampling: Check, Decide, choose, sets, share, Exactly, Accept.
-/
namespace Go.Proofs.YtdpdaphholileaaGreatDoor
open Go Go.Vcg
attribute [local irreducible] Br

/-! ### binomial coefficients -/
def chs : Nat → Nat → Nat
  | _, 0 => 1
  | 0, _ + 1 => 0
  | n + 1, k + 1 => chs n k + chs n (k + 1)

/-! ### the functions -/
end Go.Proofs.YtdpdaphholileaaGreatDoor

/-
  Slices of values of one cell each, for any encoding; a slice that grows by append.
-/
namespace Go.Proofs.YtdpdaphholileaaGreatDoor
open Go Go.Vcg
attribute [local irreducible] Br

abbrev sv (x : List UInt8) : Value := .string ⟨x.toArray⟩

structure Sl {α : Type} (enc : α → Value) (h : Heap) (A : Option Addr) (n c : Nat) (xs : List α) : Prop where
  len : xs.length = n
  cap : n ≤ c
  mem : 0 < n → ∃ ad b, A = some ad ∧ ad.spot = none ∧ h ad.block = some b ∧ (b.cells.drop ad.off).take n = xs.map enc

section
variable {α : Type} {enc : α → Value} {h h' : Heap} {A : Option Addr} {n c : Nat} {xs : List α}

theorem Sl.mono (u : Sl enc h A n c xs) (l : Le h h') : Sl enc h' A n c xs :=
  ⟨u.len, u.cap, fun hn => let ⟨ad, b, e, sp, hb, hc⟩ := u.mem hn; ⟨ad, b, e, sp, l _ _ hb, hc⟩⟩

theorem Sl.nil (h : Heap) (A : Option Addr) (c : Nat) : Sl enc h A 0 c [] := ⟨rfl, Nat.zero_le _, fun e => absurd e (Nat.lt_irrefl 0)⟩

theorem Sl.get (u : Sl enc h A n c xs) {i : Nat} {x : α} (hx : xs[i]? = some x) : ∃ ad, A = some ad ∧ LdN h (ad.add (i * 1)) [enc x] := by
  have hi : i < n := by rw [← u.len]; exact (List.getElem?_eq_some_iff.1 hx).1
  obtain ⟨ad, b, e, sp, hb, hc⟩ := u.mem (by omega)
  refine ⟨ad, e, ?_⟩
  rw [Nat.mul_one]
  refine ld_of sp hb ?_
  have h1 : ((b.cells.drop ad.off).take n)[i]? = (xs.map enc)[i]? := by rw [hc]
  rw [List.getElem?_take_of_lt hi, List.getElem?_drop] at h1
  rw [h1, List.getElem?_map, hx]
  rfl

theorem Sl.take (u : Sl enc h A n c xs) {m : Nat} (hm : m ≤ n) : Sl enc h A m c (xs.take m) where
  len := by rw [List.length_take, u.len]; omega
  cap := Nat.le_trans hm u.cap
  mem h0 := by
    obtain ⟨ad, b, e, sp, hb, hc⟩ := u.mem (by omega)
    refine ⟨ad, b, e, sp, hb, ?_⟩
    rw [List.map_take, ← hc, List.take_take, Nat.min_eq_left hm]

theorem Sl.rds (u : Sl enc h A n c xs) : RdS h A (n * 1) (xs.map enc) := by
  refine ⟨by simp [u.len], fun hn => ?_⟩
  obtain ⟨ad, b, e, sp, hb, hc⟩ := u.mem (by omega)
  exact ⟨ad, e, sp, b, hb, by rw [List.length_map, u.len]; exact hc⟩

theorem Sl.of_blk {g ty : Nat} {fz : Nat × Nat} {ys : List α} {m k : Nat} (hb : h g = some ⟨ys.map enc, ty, fz⟩) (hm : m ≤ ys.length) (hk : m ≤ k) : Sl enc h (some ⟨g, 0, none⟩) m k (ys.take m) where
  len := by rw [List.length_take]; omega
  cap := hk
  mem _ := ⟨_, _, rfl, rfl, hb, by simp [List.map_take]⟩

theorem Sl.agree (u : Sl enc h A n c xs) (ha : ∀ ad b, 0 < n → A = some ad → h ad.block = some b → (b.cells.drop ad.off).take n = xs.map enc → h' ad.block = some b) : Sl enc h' A n c xs :=
  ⟨u.len, u.cap, fun hn => let ⟨ad, b, e, sp, hb, hc⟩ := u.mem hn; ⟨ad, b, e, sp, ha ad b hn e hb hc, hc⟩⟩
end

theorem repV_map {α : Type} (enc : α → Value) (z : α) (n : Nat) : repV [enc z] n = (List.replicate n z).map enc := by
  induction n with
  | zero => rfl
  | succ n ih => simp only [repV, ih, List.replicate_succ]; rfl

/-- The elements gathered so far: the slice's first elements, in a block that the call owns (it is none of h). -/
def OwnE {α : Type} (enc : α → Value) (ty : Nat) (h h' : Heap) (A : Option Addr) (n c : Nat) (gs : List α) : Prop :=
  n = gs.length ∧ ((A = none ∧ n = 0 ∧ c = 0) ∨ ∃ g zs, A = some ⟨g, 0, none⟩ ∧ h g = none ∧ h' g = some ⟨(gs ++ zs).map enc, ty, (0, 0)⟩ ∧ c = (gs ++ zs).length)

section
variable {α : Type} {enc : α → Value} {ty : Nat} {h h' h'' : Heap} {A : Option Addr} {n c : Nat} {gs : List α}

theorem OwnE.nil (h : Heap) : OwnE enc ty h h none 0 0 [] := ⟨rfl, Or.inl ⟨rfl, rfl, rfl⟩⟩
theorem OwnE.start : OwnE enc ty h h' none 0 0 [] := ⟨rfl, Or.inl ⟨rfl, rfl, rfl⟩⟩

theorem OwnE.le (o : OwnE enc ty h h' A n c gs) (l : Le h' h'') : OwnE enc ty h h'' A n c gs := by
  obtain ⟨a, b⟩ := o
  refine ⟨a, b.imp id ?_⟩
  rintro ⟨g, zs, e, h0, hb, hc⟩
  exact ⟨g, zs, e, h0, l _ _ hb, hc⟩

theorem OwnE.sl (o : OwnE enc ty h h' A n c gs) : Sl enc h' A n c gs := by
  obtain ⟨a, b⟩ := o
  rcases b with ⟨e1, e2, e3⟩ | ⟨g, zs, e, h0, hb, hc⟩
  · have : gs = [] := List.length_eq_zero_iff.1 (by omega)
    subst this e1 e2 e3
    exact Sl.nil _ _ _
  · subst e a
    have := Sl.of_blk (m := gs.length) (k := c) hb (by simp) (by rw [hc]; simp)
    rwa [List.take_left] at this

/-- append of one element. -/
theorem OwnE.app {h4 : Heap} {x z : α} {bs : Nat} {v zv : Value} {K : Option Addr → Nat → Heap → Prop} (o : OwnE enc ty h h4 A n c gs) (hl : Le h h4) (h1 : ∀ y : α, Go.Vcg.one (enc y) = true) (hv : v = enc x) (hz : zv = enc z) {g0 : Nat} (hg0 : h4 g0 = none) (hn : (n + 1) * bs ≤ 140737488355328)
    (hK : ∀ A' c' h', OwnE enc ty h h' A' (n + 1) c' (gs ++ [x]) → Le h h' → (∀ k, k ≠ g0 → h4 k ≠ none → (∀ ad, A = some ad → k ≠ ad.block) → h' k = h4 k) → K A' c' h') :
    ∃ xs : List Value, RdS (h4.put g0 ⟨[v], ty, (0, 0)⟩) (some ⟨g0, 0, none⟩) (1 * 1) xs ∧ (∀ y ∈ xs, Go.Vcg.one y = true) ∧
      (n + 1 ≤ c → ∃ (ad : Addr) (b : Blk), A = some ad ∧ ad.spot = none ∧ (h4.put g0 ⟨[v], ty, (0, 0)⟩) ad.block = some b ∧ b.fz = (0, 0) ∧ ad.off + n * 1 + 1 * 1 ≤ b.cells.length ∧
        ∀ h' : Heap, h' = Heap.put (h4.put g0 ⟨[v], ty, (0, 0)⟩) ad.block { b with cells := setSeg b.cells (ad.off + n * 1) xs } → K A c h') ∧
      (c < n + 1 → ∃ olds : List Value, RdS (h4.put g0 ⟨[v], ty, (0, 0)⟩) A (n * 1) olds ∧ (n + 1) * bs ≤ 140737488355328 ∧
        ∀ (g1 cap : Nat) (h' : Heap), (h4.put g0 ⟨[v], ty, (0, 0)⟩) g1 = none → n + 1 ≤ cap → h' = Heap.put (h4.put g0 ⟨[v], ty, (0, 0)⟩) g1 ⟨olds ++ xs ++ repV [zv] (cap - (n + 1)), ty, (0, 0)⟩ → K (some ⟨g1, 0, none⟩) cap h') := by
  subst hv hz
  obtain ⟨en, o⟩ := o
  have hg0h : h g0 = none := hl.free hg0
  refine ⟨[enc x], ⟨rfl, fun _ => ⟨_, rfl, rfl, _, Heap.put_same _ _ _, rfl⟩⟩, fun y hy => by simp at hy; subst hy; exact h1 x, fun hc => ?_, fun hc => ?_⟩
  · rcases o with ⟨_, _, e⟩ | ⟨g, zs, rfl, h0, hb, rfl⟩
    · omega
    · have hne : g ≠ g0 := fun e => by rw [e, hg0] at hb; cases hb
      have hzl : 0 < zs.length := by simp at hc; omega
      obtain ⟨z', zs', rfl⟩ : ∃ z zs', zs = z :: zs' := by
        cases zs with
        | nil => simp at hzl
        | cons z r => exact ⟨z, r, rfl⟩
      refine ⟨_, _, rfl, rfl, (Heap.put_ne _ _ hne).trans hb, rfl, by simp; omega, ?_⟩
      rintro h' rfl
      have e : setSeg ((gs ++ z' :: zs').map enc) (0 + n * 1) [enc x] = ((gs ++ [x]) ++ zs').map enc := by
        unfold setSeg
        subst en
        simp [List.drop_append]
      refine hK _ _ _ ⟨by simp [en], Or.inr ⟨g, zs', rfl, h0, ?_, by simp⟩⟩ ((hl.put hg0h _).put h0 _) (fun k k0 _ kA => ?_)
      · rw [Heap.put_same]; simp only [e]
      · rw [Heap.put_ne _ _ (kA _ rfl), Heap.put_ne _ _ k0]
  · refine ⟨gs.map enc, ?_, hn, ?_⟩
    · refine ⟨by simp [en], fun h0 => ?_⟩
      rcases o with ⟨_, e, _⟩ | ⟨g, zs, rfl, h0, hb, _⟩
      · omega
      · have hne : g ≠ g0 := fun e => by rw [e, hg0] at hb; cases hb
        exact ⟨_, rfl, rfl, _, (Heap.put_ne _ _ hne).trans hb, by simp⟩
    · rintro g1 cap h' hg1 hcap rfl
      have hne : g1 ≠ g0 := fun e => by rw [e, Heap.put_same] at hg1; cases hg1
      have hg1' : h4 g1 = none := by rw [Heap.put_ne _ _ hne] at hg1; exact hg1
      refine hK _ _ _ ⟨by simp [en], Or.inr ⟨g1, List.replicate (cap - (n + 1)) z, rfl, hl.free hg1', ?_, by simp [en]; omega⟩⟩ ((hl.put hg0h _).put (hl.free hg1') _) (fun k k0 kn _ => ?_)
      · rw [Heap.put_same, repV_map]; simp
      · rw [Heap.put_ne _ _ (fun e => kn (by rw [e]; exact hg1')), Heap.put_ne _ _ k0]
end

/-- What stays where one element was appended to a slice whose block is none of hs. -/
theorem Le.app {h hs h4 h' : Heap} {α : Type} {enc : α → Value} {ty : Nat} {A : Option Addr} {n c g0 : Nat} {gs : List α} (o : OwnE enc ty h h4 A n c gs) (hg0 : h4 g0 = none) (l : Le hs h4) (hs0 : ∀ k, h k = none → hs k = none)
    (ha : ∀ k, k ≠ g0 → h4 k ≠ none → (∀ ad, A = some ad → k ≠ ad.block) → h' k = h4 k) : Le hs h' := fun k b hb => by
  have h4k := l k b hb
  rw [ha k (fun e => by rw [e, hg0] at h4k; cases h4k) (fun e => by rw [e] at h4k; cases h4k) (fun ad e q => ?_)]
  · exact h4k
  · rcases o.2 with ⟨e1, _, _⟩ | ⟨g, zs, e1, h0, _, _⟩
    · rw [e1] at e; cases e
    · rw [e1] at e
      cases e
      have := hs0 g h0
      rw [q] at hb
      rw [this] at hb
      cases hb
end Go.Proofs.YtdpdaphholileaaGreatDoor

/- Made by vcgen.py: verification conditions of functions, each held against the calculator by the kernel. -/
namespace Go.Proofs.YtdpdaphholileaaGreatDoor
open Go Go.Vcg

end Go.Proofs.YtdpdaphholileaaGreatDoor
