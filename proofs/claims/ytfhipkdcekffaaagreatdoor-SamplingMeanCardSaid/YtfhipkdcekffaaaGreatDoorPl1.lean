/-
  Plain laws on binomial coefficients: Vandermonde, acceptance, exchange, mean, sets as bits.
-/
import Derived.Test.YtfhipkdcekffaaaGreatDoorCn10
namespace Go.Proofs.YtfhipkdcekffaaaGreatDoor
/-! ### sums -/
def sm (f : Nat → Nat) : Nat → Nat
  | 0 => 0
  | n + 1 => sm f n + f n

theorem sm_congr {f g : Nat → Nat} : ∀ {n : Nat}, (∀ i, i < n → f i = g i) → sm f n = sm g n
  | 0, _ => rfl
  | n + 1, h => by rw [sm, sm, sm_congr fun i hi => h i (by omega), h n (by omega)]
theorem sm_head (f : Nat → Nat) : ∀ n : Nat, sm f (n + 1) = f 0 + sm (fun i => f (i + 1)) n
  | 0 => by simp [sm]
  | n + 1 => by rw [sm, sm_head f n, sm, Nat.add_assoc]
theorem sm_add (f g : Nat → Nat) : ∀ n : Nat, sm (fun i => f i + g i) n = sm f n + sm g n
  | 0 => rfl
  | n + 1 => by rw [sm, sm, sm, sm_add f g n]; omega
theorem sm_mul (f : Nat → Nat) (c : Nat) : ∀ n : Nat, sm (fun i => c * f i) n = c * sm f n
  | 0 => by simp [sm]
  | n + 1 => by rw [sm, sm, sm_mul f c n, Nat.mul_add]
theorem sm_zero {f : Nat → Nat} {n : Nat} (h : ∀ i, i < n → f i = 0) : sm f n = 0 := by
  rw [sm_congr (g := fun _ => 0) h]
  induction n with
  | zero => rfl
  | succ n ih => rw [sm, ih fun i hi => h i (by omega)]
theorem sm_le {f : Nat → Nat} {n m : Nat} (h : n ≤ m) : sm f n ≤ sm f m := by
  induction m with
  | zero => have : n = 0 := by omega
            subst this; exact Nat.le_refl _
  | succ m ih =>
    rcases Nat.lt_or_ge m n with a | a
    · have : n = m + 1 := by omega
      subst this; exact Nat.le_refl _
    · have := ih a; rw [sm]; omega

/-- The sets of n of lot things with exactly f of d marked ones. -/
def stf (d M n f : Nat) : Nat := chs d f * chs M (n - f)

theorem vander : ∀ (d M n : Nat), sm (stf d M n) (n + 1) = chs (d + M) n
  | 0, M, n => by
    rw [sm_head, sm_zero (f := fun i => stf 0 M n (i + 1))]
    · simp [stf, chs_zero]
    · intro i _; simp [stf, chs_gt (show 0 < i + 1 by omega)]
  | d + 1, M, 0 => by simp [sm, stf, chs_zero]
  | d + 1, M, n + 1 => by
    have h1 := vander d M (n + 1)
    have h2 := vander d M n
    rw [sm_head] at h1 ⊢
    rw [show d + 1 + M = d + M + 1 from by omega, chs_succ, ← h1, ← h2]
    have e : sm (fun i => stf (d + 1) M (n + 1) (i + 1)) (n + 1) = sm (fun i => stf d M n i + stf d M (n + 1) (i + 1)) (n + 1) := sm_congr fun i hi => by
      unfold stf
      rw [chs_succ, Nat.add_mul, show n + 1 - (i + 1) = n - i from by omega]
    rw [e, sm_add]
    simp only [stf, chs_zero]
    omega

/-- Acceptance: at most c marked ones. -/
def acc (n c d M : Nat) : Nat := sm (stf d M n) (c + 1)

theorem acc_step (n d M : Nat) : ∀ c, c < n → acc n c d (M + 1) = acc n c (d + 1) M + chs d c * chs M (n - c - 1)
  | 0, h => by
    obtain ⟨k, rfl⟩ : ∃ k, n = k + 1 := ⟨n - 1, by omega⟩
    simp only [acc, sm, stf, chs_zero, Nat.sub_zero, Nat.add_sub_cancel]
    rw [chs_succ]
    omega
  | c + 1, h => by
    have ih := acc_step n d M c (by omega)
    have e1 : acc n (c + 1) d (M + 1) = acc n c d (M + 1) + stf d (M + 1) n (c + 1) := rfl
    have e2 : acc n (c + 1) (d + 1) M = acc n c (d + 1) M + stf (d + 1) M n (c + 1) := rfl
    rw [e1, e2, ih]
    unfold stf
    rw [chs_succ d c]
    obtain ⟨k, hk⟩ : ∃ k, n - (c + 1) = k + 1 := ⟨n - (c + 1) - 1, by omega⟩
    rw [show n - c - 1 = n - (c + 1) from by omega, hk, chs_succ M k, show k + 1 - 1 = k from by omega]
    rw [Nat.mul_add, Nat.add_mul]
    omega

theorem acc_mono {n c d M : Nat} (h : c < n) : acc n c (d + 1) M ≤ acc n c d (M + 1) := by
  rw [acc_step n d M c h]; omega

theorem acc_none {n c M : Nat} : acc n c 0 M = chs M n := by
  unfold acc
  rw [sm_head, sm_zero]
  · simp [stf, chs_zero]
  · intro i _; simp [stf, chs_gt (show 0 < i + 1 by omega)]

theorem acc_all {n c L : Nat} (h : c < n) : acc n c L 0 = 0 :=
  sm_zero fun i hi => by unfold stf; rw [chs_gt (n := 0) (by omega), Nat.mul_zero]

/-! ### factorials -/
def fct : Nat → Nat
  | 0 => 1
  | n + 1 => (n + 1) * fct n
theorem fct_pos : ∀ n, 0 < fct n
  | 0 => by decide
  | n + 1 => Nat.mul_pos (by omega) (fct_pos n)
theorem chs_fct : ∀ (a b : Nat), chs (a + b) a * (fct a * fct b) = fct (a + b)
  | 0, b => by simp [chs_zero, fct]
  | a + 1, b => by
    have ih := chs_fct a b
    have hm := chs_mul (a + b) a
    rw [show a + 1 + b = a + b + 1 from by omega]
    simp only [fct]
    rw [← ih, ← Nat.mul_assoc (a + b + 1), ← hm]
    simp only [Nat.mul_assoc, Nat.mul_left_comm]

/-- Four parts. -/
theorem four (x y z w : Nat) : chs (x + y + z + w) (x + y) * (chs (x + y) x * chs (z + w) z) = chs (x + y + z + w) (x + z) * (chs (x + z) x * chs (y + w) y) := by
  have h1 := chs_fct (x + y) (z + w)
  have h2 := chs_fct x y
  have h3 := chs_fct z w
  have k1 := chs_fct (x + z) (y + w)
  have k2 := chs_fct x z
  have k3 := chs_fct y w
  rw [show x + y + (z + w) = x + y + z + w from by omega] at h1
  rw [show x + z + (y + w) = x + y + z + w from by omega] at k1
  rw [← h2, ← h3] at h1
  rw [← k2, ← k3] at k1
  have hp : 0 < fct x * fct y * (fct z * fct w) := Nat.mul_pos (Nat.mul_pos (fct_pos _) (fct_pos _)) (Nat.mul_pos (fct_pos _) (fct_pos _))
  refine Nat.eq_of_mul_eq_mul_right hp ?_
  have e1 : chs (x + y + z + w) (x + y) * (chs (x + y) x * chs (z + w) z) * (fct x * fct y * (fct z * fct w)) = fct (x + y + z + w) := by
    rw [← h1]; simp only [Nat.mul_assoc, Nat.mul_left_comm, Nat.mul_comm]
  have e2 : chs (x + y + z + w) (x + z) * (chs (x + z) x * chs (y + w) y) * (fct x * fct y * (fct z * fct w)) = fct (x + y + z + w) := by
    rw [← k1]; simp only [Nat.mul_assoc, Nat.mul_left_comm, Nat.mul_comm]
  rw [e1, e2]

/-- The size of the sample and the number of defective garments may be exchanged. -/
theorem exchange {L n d f : Nat} (hn : n ≤ L) (hd : d ≤ L) (hf : f ≤ n) (hg : f ≤ d) :
    chs L d * stf d (L - d) n f = chs L n * stf n (L - n) d f := by
  unfold stf
  by_cases h : n + d ≤ L + f
  · obtain ⟨y, rfl⟩ : ∃ y, d = f + y := ⟨d - f, by omega⟩
    obtain ⟨z, rfl⟩ : ∃ z, n = f + z := ⟨n - f, by omega⟩
    obtain ⟨w, rfl⟩ : ∃ w, L = f + y + z + w := ⟨L - (f + y + z), by omega⟩
    have := four f y z w
    rw [show f + y + z + w - (f + y) = z + w from by omega, show f + y + z + w - (f + z) = y + w from by omega, show f + z - f = z from by omega, show f + y - f = y from by omega]
    exact this
  · rw [chs_gt (n := L - d) (by omega), chs_gt (n := L - n) (by omega)]
    simp

/-! ### the mean -/
theorem mean_sum (d M n : Nat) : sm (fun f => stf (d + 1) M (n + 1) f * f) (n + 1 + 1) = (d + 1) * chs (d + M) n := by
  rw [sm_head, ← vander, ← sm_mul]
  simp only [Nat.mul_zero, Nat.zero_add]
  refine sm_congr fun i hi => ?_
  unfold stf
  have := chs_mul d i
  rw [show n + 1 - (i + 1) = n - i from by omega, Nat.mul_right_comm, Nat.mul_comm (chs (d + 1) (i + 1)), this, Nat.mul_assoc]

theorem mean {L d n : Nat} (hL : 1 ≤ L) (hn : 1 ≤ n) (hd : d ≤ L) : L * sm (fun f => stf d (L - d) n f * f) (n + 1) = n * d * chs L n := by
  obtain ⟨n, rfl⟩ : ∃ k, n = k + 1 := ⟨n - 1, by omega⟩
  rcases d with _ | d
  · rw [sm_head, sm_zero]
    · simp
    · intro i _; simp [stf, chs_gt (show 0 < i + 1 by omega)]
  · obtain ⟨M, rfl⟩ : ∃ k, L = d + 1 + k := ⟨L - (d + 1), by omega⟩
    rw [show d + 1 + M - (d + 1) = M from by omega, mean_sum, show d + 1 + M = d + M + 1 from by omega]
    have := chs_mul (d + M) n
    rw [show (n + 1) * (d + 1) * chs (d + M + 1) (n + 1) = (d + 1) * ((n + 1) * chs (d + M + 1) (n + 1)) from by simp only [Nat.mul_assoc, Nat.mul_left_comm], this]
    simp only [Nat.mul_left_comm]

/-! ### sets as bits -/
/-- How many of the first n bits are set. -/
def onesB (m : Nat) : Nat → Nat
  | 0 => 0
  | n + 1 => onesB m n + m / 2 ^ n % 2

/-- How many numbers below k have property p. -/
def cnt (p : Nat → Bool) : Nat → Nat
  | 0 => 0
  | k + 1 => cnt p k + if p k then 1 else 0

theorem cnt_congr {p q : Nat → Bool} : ∀ {k : Nat}, (∀ i, i < k → p i = q i) → cnt p k = cnt q k
  | 0, _ => rfl
  | k + 1, h => by rw [cnt, cnt, cnt_congr fun i hi => h i (by omega), h k (by omega)]
theorem cnt_add (p : Nat → Bool) (a : Nat) : ∀ b : Nat, cnt p (a + b) = cnt p a + cnt (fun i => p (a + i)) b
  | 0 => rfl
  | b + 1 => by rw [← Nat.add_assoc, cnt, cnt, cnt_add p a b]; omega
theorem cnt_zero {p : Nat → Bool} {k : Nat} (h : ∀ i, i < k → p i = false) : cnt p k = 0 := by
  rw [cnt_congr (q := fun _ => false) h]
  induction k with
  | zero => rfl
  | succ k ih => rw [cnt, ih fun i hi => h i (by omega)]; rfl

theorem onesB_low {m a : Nat} : ∀ {n : Nat}, n ≤ a → onesB (2 ^ a + m) n = onesB m n
  | 0, _ => rfl
  | n + 1, h => by
    rw [onesB, onesB, onesB_low (n := n) (by omega)]
    obtain ⟨k, rfl⟩ : ∃ k, a = n + 1 + k := ⟨a - (n + 1), by omega⟩
    have : (2 ^ (n + 1 + k) + m) / 2 ^ n % 2 = m / 2 ^ n % 2 := by
      rw [show 2 ^ (n + 1 + k) = 2 ^ n * (2 * 2 ^ k) from by rw [Nat.pow_add, Nat.pow_succ, Nat.mul_assoc], Nat.mul_add_div (Nat.pow_pos (by decide)), Nat.mul_add_mod]
    rw [this]

theorem onesB_top {m a : Nat} (h : m < 2 ^ a) : onesB m (a + 1) = onesB m a ∧ onesB (2 ^ a + m) (a + 1) = onesB m a + 1 := by
  have hp : 0 < 2 ^ a := Nat.pow_pos (by decide)
  refine ⟨?_, ?_⟩
  · rw [onesB, Nat.div_eq_of_lt h, Nat.zero_mod, Nat.add_zero]
  · rw [onesB, onesB_low (Nat.le_refl a), Nat.add_div_left _ hp, Nat.div_eq_of_lt h]

theorem cnt_one : ∀ (d n : Nat), cnt (fun m => onesB m d == n) (2 ^ d) = chs d n
  | 0, 0 => rfl
  | 0, n + 1 => rfl
  | d + 1, n => by
    rw [Nat.pow_succ, Nat.mul_two, cnt_add]
    have e1 : cnt (fun m => onesB m (d + 1) == n) (2 ^ d) = chs d n := by
      rw [← cnt_one d n]; exact cnt_congr fun i hi => by rw [(onesB_top hi).1]
    rw [e1]
    rcases n with _ | n
    · rw [cnt_zero]
      · simp [chs_zero]
      · intro i hi; rw [(onesB_top hi).2]; simp
    · have e2 : cnt (fun m => onesB (2 ^ d + m) (d + 1) == n + 1) (2 ^ d) = chs d n := by
        rw [← cnt_one d n]; exact cnt_congr fun i hi => by rw [(onesB_top hi).2]; simp
      rw [e2, chs_succ]; omega

/-- The numbers below 2 ^ (d + M) with n bits set, f of them among the first d. -/
theorem cnt_sets (d f : Nat) : ∀ (M n : Nat), cnt (fun m => (onesB m (d + M) == n) && (onesB m d == f)) (2 ^ (d + M)) = if f ≤ n then chs d f * chs M (n - f) else 0
  | 0, n => by
    rw [Nat.add_zero]
    by_cases h : n = f
    · subst h
      rw [if_pos (Nat.le_refl _), Nat.sub_self, chs_zero, Nat.mul_one, ← cnt_one d n]
      exact cnt_congr fun i _ => by simp
    · rw [cnt_zero]
      · split
        · rw [chs_gt (n := 0) (by omega), Nat.mul_zero]
        · rfl
      · intro i _
        by_cases a : onesB i d = n
        · simp [a, h]
        · simp [a]
  | M + 1, n => by
    rw [show d + (M + 1) = d + M + 1 from by omega, Nat.pow_succ, Nat.mul_two, cnt_add]
    have e1 : cnt (fun m => (onesB m (d + M + 1) == n) && (onesB m d == f)) (2 ^ (d + M)) = if f ≤ n then chs d f * chs M (n - f) else 0 := by
      rw [← cnt_sets d f M n]; exact cnt_congr fun i hi => by rw [(onesB_top hi).1]
    rw [e1]
    rcases n with _ | n
    · rw [cnt_zero]
      · simp only [Nat.le_zero, Nat.zero_sub, chs_zero, Nat.add_zero]
      · intro i hi; rw [(onesB_top hi).2]; simp
    · have e2 : cnt (fun m => (onesB (2 ^ (d + M) + m) (d + M + 1) == n + 1) && (onesB (2 ^ (d + M) + m) d == f)) (2 ^ (d + M)) = if f ≤ n then chs d f * chs M (n - f) else 0 := by
        rw [← cnt_sets d f M n]; exact cnt_congr fun i hi => by rw [(onesB_top hi).2, onesB_low (by omega)]; simp
      rw [e2]
      by_cases h : f ≤ n
      · rw [if_pos h, if_pos (by omega), if_pos (by omega), show n + 1 - f = n - f + 1 from by omega, chs_succ, Nat.mul_add]
        omega
      · rw [if_neg h]
        by_cases g : f ≤ n + 1
        · rw [if_pos g, if_pos g, show n + 1 - f = 0 from by omega, chs_zero, chs_zero, Nat.add_zero]
        · rw [if_neg g, if_neg g]
end Go.Proofs.YtfhipkdcekffaaaGreatDoor
