/-
  Contracts: math/bits: Len32, LeadingZeros32.
-/
import Derived.Test.YtfhipkdcekffaaaGreatDoorCn6
namespace Go.Proofs.YtfhipkdcekffaaaGreatDoor
open Go Go.Vcg
attribute [local irreducible] Br

/-- What the table of Len8 says of a byte. -/
def lenOk (b : Nat) (o : Option UInt8) : Bool :=
  match o with
  | some c => decide (b < 2 ^ c.toNat) && decide (c.toNat ≤ 8) && (b == 0 || decide (1 ≤ c.toNat ∧ 2 ^ (c.toNat - 1) ≤ b))
  | none => false

theorem len8_tab : ∀ b, b < 256 → lenOk b ((⟨#[0, 1, 2, 2, 3, 3, 3, 3, 4, 4, 4, 4, 4, 4, 4, 4, 5, 5, 5, 5, 5, 5, 5, 5, 5, 5, 5, 5, 5, 5, 5, 5, 6, 6, 6, 6, 6, 6, 6, 6, 6, 6, 6, 6, 6, 6, 6, 6, 6, 6, 6, 6, 6, 6, 6, 6, 6, 6, 6, 6, 6, 6, 6, 6, 7, 7, 7, 7, 7, 7, 7, 7, 7, 7, 7, 7, 7, 7, 7, 7, 7, 7, 7, 7, 7, 7, 7, 7, 7, 7, 7, 7, 7, 7, 7, 7, 7, 7, 7, 7, 7, 7, 7, 7, 7, 7, 7, 7, 7, 7, 7, 7, 7, 7, 7, 7, 7, 7, 7, 7, 7, 7, 7, 7, 7, 7, 7, 7, 8, 8, 8, 8, 8, 8, 8, 8, 8, 8, 8, 8, 8, 8, 8, 8, 8, 8, 8, 8, 8, 8, 8, 8, 8, 8, 8, 8, 8, 8, 8, 8, 8, 8, 8, 8, 8, 8, 8, 8, 8, 8, 8, 8, 8, 8, 8, 8, 8, 8, 8, 8, 8, 8, 8, 8, 8, 8, 8, 8, 8, 8, 8, 8, 8, 8, 8, 8, 8, 8, 8, 8, 8, 8, 8, 8, 8, 8, 8, 8, 8, 8, 8, 8, 8, 8, 8, 8, 8, 8, 8, 8, 8, 8, 8, 8, 8, 8, 8, 8, 8, 8, 8, 8, 8, 8, 8, 8, 8, 8, 8, 8, 8, 8, 8, 8, 8, 8, 8, 8, 8, 8, 8, 8, 8, 8, 8, 8]⟩ : ByteArray)[b]?) = true := by decide +kernel

theorem len8 {b : Nat} (h : b < 256) : ∃ c : UInt8, (⟨#[0, 1, 2, 2, 3, 3, 3, 3, 4, 4, 4, 4, 4, 4, 4, 4, 5, 5, 5, 5, 5, 5, 5, 5, 5, 5, 5, 5, 5, 5, 5, 5, 6, 6, 6, 6, 6, 6, 6, 6, 6, 6, 6, 6, 6, 6, 6, 6, 6, 6, 6, 6, 6, 6, 6, 6, 6, 6, 6, 6, 6, 6, 6, 6, 7, 7, 7, 7, 7, 7, 7, 7, 7, 7, 7, 7, 7, 7, 7, 7, 7, 7, 7, 7, 7, 7, 7, 7, 7, 7, 7, 7, 7, 7, 7, 7, 7, 7, 7, 7, 7, 7, 7, 7, 7, 7, 7, 7, 7, 7, 7, 7, 7, 7, 7, 7, 7, 7, 7, 7, 7, 7, 7, 7, 7, 7, 7, 7, 8, 8, 8, 8, 8, 8, 8, 8, 8, 8, 8, 8, 8, 8, 8, 8, 8, 8, 8, 8, 8, 8, 8, 8, 8, 8, 8, 8, 8, 8, 8, 8, 8, 8, 8, 8, 8, 8, 8, 8, 8, 8, 8, 8, 8, 8, 8, 8, 8, 8, 8, 8, 8, 8, 8, 8, 8, 8, 8, 8, 8, 8, 8, 8, 8, 8, 8, 8, 8, 8, 8, 8, 8, 8, 8, 8, 8, 8, 8, 8, 8, 8, 8, 8, 8, 8, 8, 8, 8, 8, 8, 8, 8, 8, 8, 8, 8, 8, 8, 8, 8, 8, 8, 8, 8, 8, 8, 8, 8, 8, 8, 8, 8, 8, 8, 8, 8, 8, 8, 8, 8, 8, 8, 8, 8, 8, 8, 8]⟩ : ByteArray)[b]? = some c ∧ b < 2 ^ c.toNat ∧ c.toNat ≤ 8 ∧ (b ≠ 0 → 1 ≤ c.toNat ∧ 2 ^ (c.toNat - 1) ≤ b) := by
  have := len8_tab b h
  generalize (⟨#[0, 1, 2, 2, 3, 3, 3, 3, 4, 4, 4, 4, 4, 4, 4, 4, 5, 5, 5, 5, 5, 5, 5, 5, 5, 5, 5, 5, 5, 5, 5, 5, 6, 6, 6, 6, 6, 6, 6, 6, 6, 6, 6, 6, 6, 6, 6, 6, 6, 6, 6, 6, 6, 6, 6, 6, 6, 6, 6, 6, 6, 6, 6, 6, 7, 7, 7, 7, 7, 7, 7, 7, 7, 7, 7, 7, 7, 7, 7, 7, 7, 7, 7, 7, 7, 7, 7, 7, 7, 7, 7, 7, 7, 7, 7, 7, 7, 7, 7, 7, 7, 7, 7, 7, 7, 7, 7, 7, 7, 7, 7, 7, 7, 7, 7, 7, 7, 7, 7, 7, 7, 7, 7, 7, 7, 7, 7, 7, 8, 8, 8, 8, 8, 8, 8, 8, 8, 8, 8, 8, 8, 8, 8, 8, 8, 8, 8, 8, 8, 8, 8, 8, 8, 8, 8, 8, 8, 8, 8, 8, 8, 8, 8, 8, 8, 8, 8, 8, 8, 8, 8, 8, 8, 8, 8, 8, 8, 8, 8, 8, 8, 8, 8, 8, 8, 8, 8, 8, 8, 8, 8, 8, 8, 8, 8, 8, 8, 8, 8, 8, 8, 8, 8, 8, 8, 8, 8, 8, 8, 8, 8, 8, 8, 8, 8, 8, 8, 8, 8, 8, 8, 8, 8, 8, 8, 8, 8, 8, 8, 8, 8, 8, 8, 8, 8, 8, 8, 8, 8, 8, 8, 8, 8, 8, 8, 8, 8, 8, 8, 8, 8, 8, 8, 8, 8, 8]⟩ : ByteArray)[b]? = o at this
  cases o with
  | none => cases this
  | some c =>
    simp only [lenOk, Bool.and_eq_true, decide_eq_true_eq, Bool.or_eq_true, beq_iff_eq] at this
    exact ⟨c, rfl, this.1.1, this.1.2, fun hb => this.2.resolve_left hb⟩

/-- t is the number of binary digits of x. -/
def IsLen (x t : Nat) : Prop := x < 2 ^ t ∧ (x ≠ 0 → 1 ≤ t ∧ 2 ^ (t - 1) ≤ x)

theorem IsLen.shift {x t k : Nat} (h : IsLen (x / 2 ^ k) t) (hk : 2 ^ k ≤ x) : IsLen x (k + t) := by
  have hp : 0 < 2 ^ k := Nat.pow_pos (by decide)
  have h1 : x / 2 ^ k ≠ 0 := by have := (Nat.le_div_iff_mul_le hp).2 (by rw [Nat.one_mul]; exact hk : 1 * 2 ^ k ≤ x); omega
  have h2 := h.2 h1
  refine ⟨?_, fun _ => ⟨by omega, ?_⟩⟩
  · rw [Nat.pow_add, Nat.mul_comm]; exact (Nat.div_lt_iff_lt_mul hp).1 h.1
  · rw [show k + t - 1 = (t - 1) + k from by omega, Nat.pow_add]
    exact (Nat.le_div_iff_mul_le hp).1 h2.2

theorem fdivP {a : Int} {n k : Nat} (h : a = n) : Int.fdiv a (2 ^ k) = ((n / 2 ^ k : Nat) : Int) := by
  have e : ((2 : Int) ^ k) = ((2 ^ k : Nat) : Int) := by simp
  rw [h, e, Int.fdiv_eq_ediv_of_nonneg _ (Int.natCast_nonneg _)]
  rfl

theorem w8 {a : Int} {n : Nat} (h : a = n) (hn : n < 256) : IntKind.u8.wrap a = n := by rw [h, IntKind.wrap_u8]; omega

theorem len32_c (x : Nat) (hx : x < B32) (h : Heap) : CallsU Tryz.prog 98 [.int .u32 x] h fun r h' => ∃ t : Nat, r = .int .i64 t ∧ t ≤ 32 ∧ IsLen x t ∧ h = h' := by
  have hB : B32 = 4294967296 := rfl
  apply math_bits_Len32_ok
  refine ⟨fun y n h' => ∃ (yN k : Nat), y = (yN : Int) ∧ n = (k : Int) ∧ h = h' ∧ yN < 65536 ∧ k ≤ 16 ∧ (∀ t, IsLen yN t → IsLen x (k + t)), ?_, ?_⟩
  · rintro _ _ _ ⟨y, k, rfl, rfl, rfl, hy, hk, hI⟩
    refine Br.mk (fun q => ?_) (fun q => ?_)
    · have q' : 256 ≤ y := by simp at q; omega
      rintro _ rfl _ rfl
      rw [fdivP rfl, w8 rfl (by omega), Int.toNat_natCast]
      obtain ⟨c, e, c1, c2, c3⟩ := len8 (b := y / 2 ^ 8) (by omega)
      refine ⟨c, by omega, e, ?_⟩
      rintro _ rfl
      clear e
      rw [wi (a := (k : Int) + 8) (n := k + 8) (by omega) (by omega), wi (a := (c.toNat : Int)) (n := c.toNat) (by omega) (by omega), wi (n := k + (8 + c.toNat)) (by omega) (by omega)]
      exact ⟨_, rfl, by omega, hI _ (IsLen.shift ⟨c1, c3⟩ (by omega)), rfl⟩
    · have q' : y < 256 := by simp at q; omega
      rw [w8 rfl (by omega), Int.toNat_natCast]
      obtain ⟨c, e, c1, c2, c3⟩ := len8 (b := y) (by omega)
      refine ⟨c, by omega, e, ?_⟩
      rintro _ rfl
      clear e
      rw [wi (a := (c.toNat : Int)) (n := c.toNat) (by omega) (by omega), wi (n := k + c.toNat) (by omega) (by omega)]
      exact ⟨_, rfl, by omega, hI _ ⟨c1, c3⟩, rfl⟩
  · refine Br.mk (fun q => ?_) (fun q => ?_)
    · have q' : 65536 ≤ x := by simp at q; omega
      rintro _ rfl
      refine ⟨x / 2 ^ 16, 16, by rw [fdivP rfl], rfl, rfl, by omega, by omega, fun t ht => IsLen.shift ht (by omega)⟩
    · have q' : x < 65536 := by simp at q; omega
      exact ⟨x, 0, rfl, rfl, rfl, q', by omega, fun t ht => by rwa [Nat.zero_add]⟩

theorem lead32_c (x : Nat) (hx : x < B32) (h : Heap) : CallsU Tryz.prog 74 [.int .u32 x] h fun r h' => ∃ t : Nat, r = .int .i64 ((32 - t : Nat) : Int) ∧ t ≤ 32 ∧ IsLen x t ∧ h = h' := by
  apply math_bits_LeadingZeros32_ok
  refine (len32_c x hx h).mono ?_
  rintro _ _ ⟨t, rfl, ht, hl, rfl⟩
  refine ⟨_, rfl, ?_⟩
  rintro _ rfl
  exact ⟨t, by rw [wi (n := 32 - t) (by omega) (by omega)], ht, hl, rfl⟩
end Go.Proofs.YtfhipkdcekffaaaGreatDoor
