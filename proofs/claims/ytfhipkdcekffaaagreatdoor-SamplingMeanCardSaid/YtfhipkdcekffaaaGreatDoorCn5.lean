/-
  Contracts: natural: right; math/bits: Len32, LeadingZeros32.
-/
import Derived.Test.YtfhipkdcekffaaaGreatDoorCn4
namespace Go.Proofs.YtfhipkdcekffaaaGreatDoor
open Go Go.Vcg

theorem shr_s {a : Int} {x sN : Nat} (ha : a = x) (hs' : sN < 64) : Int.fdiv a (2 ^ (min sN 64 : Nat)) = ((x / 2 ^ sN : Nat) : Int) := by
  subst ha
  rw [Nat.min_eq_left (by omega)]
  have e : ((2 : Int) ^ sN) = ((2 ^ sN : Nat) : Int) := by simp
  rw [e, Int.fdiv_eq_ediv_of_nonneg _ (Int.natCast_nonneg _)]
  rfl

/-- The limbs of a number shifted right. -/
theorem right_limb (x y D s : Nat) (hx : x < B32) (hs : s ≤ 32) : (x + B32 * (y + B32 * D)) / 2 ^ s = ((x + B32 * y) / 2 ^ s) % B32 + B32 * ((y + B32 * D) / 2 ^ s) := by
  have hp : 0 < 2 ^ s := Nat.pow_pos (by decide)
  have e : B32 = 2 ^ (32 - s) * 2 ^ s := by rw [← Nat.pow_add, show 32 - s + s = 32 from by omega]; rfl
  have h1 : (x + B32 * (y + B32 * D)) / 2 ^ s / B32 = (y + B32 * D) / 2 ^ s := by
    rw [Nat.div_div_eq_div_mul, Nat.mul_comm (2 ^ s) B32, ← Nat.div_div_eq_div_mul, Nat.add_mul_div_left x (y + B32 * D) (show 0 < B32 by decide), Nat.div_eq_of_lt hx, Nat.zero_add]
  have h2 : (x + B32 * (y + B32 * D)) / 2 ^ s % B32 = ((x + B32 * y) / 2 ^ s) % B32 := by
    have : x + B32 * (y + B32 * D) = (x + B32 * y) + 2 ^ s * (B32 * (2 ^ (32 - s) * D)) := by
      have : B32 * (B32 * D) = 2 ^ s * (B32 * (2 ^ (32 - s) * D)) := by
        conv => lhs; rw [e]
        conv => rhs; rw [e]
        grind
      rw [Nat.mul_add, this]; omega
    rw [this, Nat.add_mul_div_left _ _ hp, Nat.add_mul_mod_self_left]
  have := Nat.mod_add_div ((x + B32 * (y + B32 * D)) / 2 ^ s) B32
  rw [h1, h2] at this
  omega

theorem right_step (r p l T T0 q : Nat) (h : r + p * (l + B32 * T) = T0) (hq : q = p * B32) : (r + p * l) + q * T = T0 := by subst hq; grind

theorem right_c {h : Heap} {A : Option Addr} {n c x : Nat} (ux : IsN h A n c x) (hn : n ≤ 1099511627776) {sN : Nat} (hs : sN < 32) :
    CallsU Tryz.prog 77 [.slice A n c, .int .i64 sN] h fun r h' => ∃ A' k c', r = .slice A' k c' ∧ NmN h' A' k c' (x / 2 ^ sN) ∧ Le h h' := by
  apply natural_right_ok
  obtain ⟨xs, a, rfl⟩ := ux
  have la := a.len
  refine ⟨by omega, by omega, by omega, by omega, ?_⟩
  rintro g h1 hg rfl
  simp only [Int.toNat_natCast]
  refine ⟨fun m i h' => ∃ (k : Nat) (rs : List Nat), m = n - k ∧ k ≤ n ∧ i = (k : Int) ∧ rs.length = n ∧ (∀ x ∈ rs, x < B32) ∧ h' g = some ⟨rs.map lv, 76, (0, 0)⟩ ∧ Le h h' ∧
      val (rs.take k) + B32 ^ k * (val (xs.drop k) / 2 ^ sN) = val xs / 2 ^ sN,
    ⟨n, 0, List.replicate n 0, rfl, by omega, rfl, by simp, fun x hx => by rw [List.mem_replicate] at hx; rw [hx.2]; decide, by rw [Heap.put_same, repV_lv], Le.new hg _, by simp [val]⟩, ?_⟩
  rintro _ _ h2 ⟨k, rs, rfl, hk, rfl, hrl, hrs, hb, hl, hval⟩
  refine Br.mk (fun q => ?_) (fun q => ?_)
  · have q' : k < n := by simpa using q
    obtain ⟨ad, hA, hld⟩ := (a.mono hl).get (i := k) q'
    have hxk := a.getD_lt k
    have hxk1 := a.getD_lt (k + 1)
    refine ⟨ad, hA, by omega, by omega, _, hld, ?_⟩
    rintro _ rfl
    rw [wi (n := k + 1) (by omega) (by omega)]
    -- what both ways end in
    have fin : ∀ t : Nat, t = (xs.getD k 0 + B32 * xs.getD (k + 1) 0) / 2 ^ sN → (∃ ad_2 : Addr, some (⟨g, 0, none⟩ : Addr) = some ad_2 ∧ 0 ≤ (k : Int) ∧ (k : Int) < (n : Int) ∧
        ∃ b : Blk, h2 (Addr.block (Addr.add ad_2 (k * 1))) = some b ∧ b.fz = (0, 0) ∧ Addr.spot (Addr.add ad_2 (k * 1)) = none ∧ Addr.off (Addr.add ad_2 (k * 1)) + 1 ≤ b.cells.length ∧
        ∀ h_3 : Heap, h_3 = Heap.put h2 (Addr.block (Addr.add ad_2 (k * 1))) { b with cells := setSeg b.cells (Addr.off (Addr.add ad_2 (k * 1))) [Value.int .u32 (IntKind.u32.wrap (t : Int))] } →
        ∀ t42 : Int, t42 = ((k + 1 : Nat) : Int) → ∃ m_1, m_1 < n - k ∧ ∃ (k : Nat) (rs : List Nat), m_1 = n - k ∧ k ≤ n ∧ t42 = (k : Int) ∧ rs.length = n ∧ (∀ x ∈ rs, x < B32) ∧ h_3 g = some ⟨rs.map lv, 76, (0, 0)⟩ ∧ Le h h_3 ∧
          val (rs.take k) + B32 ^ k * (val (xs.drop k) / 2 ^ sN) = val xs / 2 ^ sN) := by
      intro t ht
      refine ⟨_, rfl, by omega, by omega, st_own (t % B32) hb (by omega) (by rw [w32 rfl]) ?_⟩
      rintro _ rfl
      refine ⟨n - (k + 1), by omega, k + 1, rs.set k (t % B32), rfl, by omega, rfl, by simp [hrl], mem_set hrs (Nat.mod_lt _ (by decide)), Heap.put_same _ _ _, hl.put hg _, ?_⟩
      rw [val_take_succ (by simp; omega), take_set_ge (Nat.le_refl _), getD_set_eq (by omega)]
      rw [val_drop_cons (xs := xs) (by omega)] at hval
      have hlimb : (xs.getD k 0 + B32 * val (xs.drop (k + 1))) / 2 ^ sN = t % B32 + B32 * (val (xs.drop (k + 1)) / 2 ^ sN) := by
        rcases Nat.lt_or_ge (k + 1) n with hk1 | hk1
        · rw [val_drop_cons (xs := xs) (k := k + 1) (by omega), ht]
          exact right_limb _ _ _ _ hxk (by omega)
        · have h0 : xs.drop (k + 1) = [] := List.drop_of_length_le (by omega)
          have hg0 : xs.getD (k + 1) 0 = 0 := getD_ge (by omega)
          have := right_limb (xs.getD k 0) 0 0 sN hxk (by omega)
          rw [h0, ht, hg0]
          simpa [val] using this
      rw [hlimb] at hval
      exact right_step _ _ _ _ _ _ hval (by rw [Nat.pow_succ])
    refine Br.mk (fun q2 => ?_) (fun q2 => ?_)
    · have q2' : k + 1 < n := by simp at q2; omega
      rintro _ rfl
      simp only [Int.toNat_natCast]
      obtain ⟨ad', hA', hld'⟩ := (a.mono hl).get (i := k + 1) q2'
      refine ⟨ad', hA', by omega, by omega, _, hld', ?_⟩
      rintro _ rfl _ rfl
      rw [shlB (n := xs.getD (k + 1) 0) (wu rfl (by omega)) hxk1, or64_zero (hi := xs.getD (k + 1) 0) (lo := xs.getD k 0) (wu rfl (by omega)) rfl hxk hxk1]
      refine Br.mk (fun q3 => by simp at q3; omega) (fun _ => ?_)
      rintro _ rfl
      rw [shr_s rfl (by omega)]
      exact fin _ (by rw [Nat.mul_comm B32, Nat.add_comm])
    · have q2' : n ≤ k + 1 := by simp at q2; omega
      refine Br.mk (fun q3 => by simp at q3; omega) (fun _ => ?_)
      rintro _ rfl
      rw [wu (n := xs.getD k 0) rfl (by omega), shr_s rfl (by omega)]
      simp only [Int.toNat_natCast]
      exact fin _ (by rw [getD_ge (k := k + 1) (by omega)]; simp)
  · have hkn : k = n := by have : n ≤ k := by simpa using q
                           omega
    subst hkn
    have u := U32.of_blk (m := k) (k := k) hb hrs (by omega) (Nat.le_refl _)
    rw [List.drop_of_length_le (by omega)] at hval
    have hv2 : val (rs.take k) = val xs / 2 ^ sN := by simpa [val] using hval
    refine (trim_n ⟨_, u, hv2⟩ (by omega)).mono ?_
    rintro _ _ ⟨m2, rfl, hm2, hN, rfl⟩
    exact ⟨_, _, _, rfl, _, _, _, rfl, hN, hl⟩

/-! ### leading zeros -/
/-- The number of binary digits. -/
def blen (x : Nat) : Nat := if x = 0 then 0 else Nat.log2 x + 1

theorem blen_lt (x : Nat) : x < 2 ^ blen x := by
  unfold blen
  split
  · rename_i h; subst h; decide
  · exact Nat.lt_log2_self

theorem le_blen {x : Nat} (h : x ≠ 0) : 2 ^ (blen x - 1) ≤ x := by
  unfold blen
  rw [if_neg h, Nat.add_sub_cancel]
  exact Nat.log2_self_le h
end Go.Proofs.YtfhipkdcekffaaaGreatDoor
