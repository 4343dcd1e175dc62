/-
  Contracts: sampling: Check, Decide, choose, sets, share, Exactly, Accept.
-/
import Derived.Test.YtfhipkdcekffaaaGreatDoorCn9
import Derived.Test.YtfhipkdcekffaaaGreatDoorVcS
namespace Go.Proofs.YtfhipkdcekffaaaGreatDoor
open Go Go.Vcg
attribute [local irreducible] Br

/-! ### binomial coefficients -/
def chs : Nat → Nat → Nat
  | _, 0 => 1
  | 0, _ + 1 => 0
  | n + 1, k + 1 => chs n k + chs n (k + 1)

theorem chs_zero (n : Nat) : chs n 0 = 1 := by cases n <;> rfl
theorem chs_succ (n k : Nat) : chs (n + 1) (k + 1) = chs n k + chs n (k + 1) := rfl
theorem chs_gt : ∀ {n k : Nat}, n < k → chs n k = 0
  | _, 0, h => by omega
  | 0, _ + 1, _ => rfl
  | n + 1, k + 1, h => by rw [chs_succ, chs_gt (by omega), chs_gt (by omega)]
theorem chs_self : ∀ n : Nat, chs n n = 1
  | 0 => rfl
  | n + 1 => by rw [chs_succ, chs_self n, chs_gt (by omega)]
theorem chs_pos : ∀ {n k : Nat}, k ≤ n → 0 < chs n k
  | _, 0, _ => by rw [chs_zero]; omega
  | 0, _ + 1, h => by omega
  | n + 1, k + 1, h => by rw [chs_succ]; have := chs_pos (n := n) (k := k) (by omega); omega
theorem chs_mul : ∀ (n k : Nat), (k + 1) * chs (n + 1) (k + 1) = (n + 1) * chs n k
  | 0, 0 => rfl
  | 0, k + 1 => by rw [chs_gt (n := 0 + 1) (by omega), chs_gt (n := 0) (by omega), Nat.mul_zero, Nat.mul_zero]
  | n + 1, 0 => by
    have := chs_mul n 0
    have e : chs (n + 1 + 1) (0 + 1) = chs (n + 1) 0 + chs (n + 1) (0 + 1) := rfl
    rw [e, chs_zero]
    rw [chs_zero] at this
    omega
  | n + 1, k + 1 => by
    have h1 := chs_mul n k
    have h2 := chs_mul n (k + 1)
    have e1 : chs (n + 1 + 1) (k + 1 + 1) = chs (n + 1) (k + 1) + chs (n + 1) (k + 1 + 1) := rfl
    have e2 : chs (n + 1) (k + 1) = chs n k + chs n (k + 1) := rfl
    rw [e1]
    grind
theorem chs_symm_add : ∀ (a b : Nat), chs (a + b) a = chs (a + b) b
  | 0, b => by rw [chs_zero, Nat.zero_add, chs_self]
  | a + 1, 0 => by rw [Nat.add_zero, chs_self, chs_zero]
  | a + 1, b + 1 => by
    have h1 := chs_symm_add a (b + 1)
    have h2 := chs_symm_add (a + 1) b
    have e1 : chs (a + b + 1 + 1) (a + 1) = chs (a + b + 1) a + chs (a + b + 1) (a + 1) := rfl
    have e2 : chs (a + b + 1 + 1) (b + 1) = chs (a + b + 1) b + chs (a + b + 1) (b + 1) := rfl
    rw [show a + 1 + (b + 1) = (a + b + 1) + 1 from by omega, e1, e2]
    rw [show a + (b + 1) = a + b + 1 from by omega] at h1
    rw [show a + 1 + b = a + b + 1 from by omega] at h2
    omega
theorem chs_symm {n k : Nat} (h : k ≤ n) : chs n (n - k) = chs n k := by
  have := chs_symm_add k (n - k)
  rw [show k + (n - k) = n from by omega] at this
  exact this.symm
theorem chs_le : ∀ (n k : Nat), chs n k ≤ 2 ^ n
  | _, 0 => by rw [chs_zero]; exact Nat.pow_pos (by decide)
  | 0, _ + 1 => by simp [chs]
  | n + 1, k + 1 => by
    have h1 := chs_le n k
    have h2 := chs_le n (k + 1)
    rw [chs_succ, Nat.pow_succ]
    omega
theorem chs_sz {n : Nat} (k : Nat) (h : n ≤ 200) : Sz (chs n k) 7 := by
  have h1 := chs_le n k
  have h2 : 2 ^ n ≤ 2 ^ 200 := Nat.pow_le_pow_right (by decide) h
  have h3 : 2 ^ 200 < B32 ^ 7 := by decide
  unfold Sz
  exact Nat.lt_of_le_of_lt (Nat.le_trans h1 h2) h3

/-! ### the functions -/
def okP (n c lot : Int) : Bool := decide (1 ≤ n) && decide (n ≤ lot) && decide (lot ≤ 200) && decide (0 ≤ c) && decide (c < n)

theorem okP_iff {n c lot : Int} : okP n c lot = true ↔ 1 ≤ n ∧ n ≤ lot ∧ lot ≤ 200 ∧ 0 ≤ c ∧ c < n := by
  simp [okP, and_assoc]

/-- What Check returns. -/
def chkR (n c lot : Int) : Int := if okP n c lot then 0 else 3

theorem check_c (n c lot : Int) (h : Heap) : CallsU Tryz.prog 21 [.agg #[.int .i64 n, .int .i64 c], .int .i64 lot] h fun r h' => r = .int .i64 (chkR n c lot) ∧ h = h' := by
  apply sampling_Check_ok
  have no : ¬ (1 ≤ n ∧ n ≤ lot ∧ lot ≤ 200 ∧ 0 ≤ c ∧ c < n) → chkR n c lot = 3 := fun q => by
    unfold chkR
    rw [if_neg (fun e => q (okP_iff.1 e))]
  refine Br.mk (fun q => ?_) (fun q => Br.mk (fun q1 => ?_) (fun q1 => Br.mk (fun q2 => ?_) (fun q2 => Br.mk (fun q3 => ?_) (fun q3 => Br.mk (fun q4 => ?_) (fun q4 => ?_)))))
  · simp at q; exact ⟨by rw [no (by omega)], rfl⟩
  · simp at q1; exact ⟨by rw [no (by omega)], rfl⟩
  · simp at q2; exact ⟨by rw [no (by omega)], rfl⟩
  · simp at q3; exact ⟨by rw [no (by omega)], rfl⟩
  · simp at q4; exact ⟨by rw [no (by omega)], rfl⟩
  · simp at q q1 q2 q3 q4
    refine ⟨?_, rfl⟩
    unfold chkR
    rw [if_pos (okP_iff.2 (by omega))]

theorem chk_bne (n c lot : Int) : ((chkR n c lot : Int) != 0) = !okP n c lot := by
  unfold chkR
  cases okP n c lot <;> rfl

/-- What Decide returns. -/
def decR (n c found : Int) : Bool × Int := if okP n c n && decide (0 ≤ found) && decide (found ≤ n) then (decide (found ≤ c), 0) else (false, 3)

theorem decide_c (n c found : Int) (h : Heap) : CallsU Tryz.prog 15 [.agg #[.int .i64 n, .int .i64 c], .int .i64 found] h fun r h' => r = .tuple #[.bool (decR n c found).1, .int .i64 (decR n c found).2] ∧ h = h' := by
  apply sampling_Decide_ok
  refine (check_c n c n h).mono ?_
  rintro _ _ ⟨rfl, rfl⟩
  refine ⟨_, rfl, ?_⟩
  rw [chk_bne]
  unfold decR
  refine Br.mk (fun q => ?_) (fun q => Br.mk (fun q1 => ?_) (fun q1 => Br.mk (fun q2 => ?_) (fun q2 => ?_)))
  · simp at q; simp [q]
  · simp at q q1; rw [if_neg (by simp; intro _ _; omega)]; exact ⟨rfl, rfl⟩
  · simp at q q1 q2; rw [if_neg (by simp; intro _ _; omega)]; exact ⟨rfl, rfl⟩
  · simp at q q1 q2; rw [if_pos (by simp [q]; omega)]; exact ⟨rfl, rfl⟩

theorem choose_c (n k : Nat) (hn : n ≤ 200) (h : Heap) (hk : k ≤ 200) :
    CallsU Tryz.prog 26 [.int .i64 n, .int .i64 k] h fun r h' => ∃ A m c, r = .slice A m c ∧ NmN h' A m c (chs n k) ∧ Le h h' := by
  apply sampling_choose_ok
  refine Br.mk (fun q => ?_) (fun q => ?_)
  · have q' : n < k := by simp at q; omega
    refine (of_c 0 (by omega) h).mono ?_
    rintro _ h1 ⟨A, m, c, rfl, hm, hN, hl⟩
    exact ⟨_, _, _, rfl, _, _, _, rfl, by rw [chs_gt q']; exact hN, hl⟩
  · have q' : k ≤ n := by simp at q; omega
    rintro _ rfl
    rw [wi (n := n - k) (by omega) (by omega)]
    have ek : (if decide (((n - k : Nat) : Int) < (k : Int)) then ((n - k : Nat) : Int) else (k : Int)) = ((min k (n - k) : Nat) : Int) := by
      by_cases a : ((n - k : Nat) : Int) < (k : Int)
      · rw [if_pos (by simpa using a)]; omega
      · rw [if_neg (by simpa using a)]; omega
    rw [ek]
    have ec : chs n (min k (n - k)) = chs n k := by
      rcases Nat.le_total k (n - k) with a | a
      · rw [Nat.min_eq_left a]
      · rw [Nat.min_eq_right a, chs_symm q']
    rw [← ec]
    have hj : min k (n - k) ≤ n := by omega
    generalize min k (n - k) = j at *
    refine (of_c 1 (by omega) h).mono ?_
    rintro _ h1 ⟨A, m, c, rfl, hm, hN, hl⟩
    refine ⟨_, _, _, rfl, fun mm rA rn rc i h' => ∃ iN : Nat, mm = j + 1 - iN ∧ i = (iN : Int) + 1 ∧ iN ≤ j ∧ NmN h' rA rn rc (chs (n - j + iN) iN) ∧ Le h h', ⟨j + 1, 0, rfl, rfl, by omega, by rw [chs_zero]; exact hN, hl⟩, ?_⟩
    rintro _ rA rn rc _ h2 ⟨i, rfl, rfl, hi, hN2, hl2⟩
    have hs := chs_sz (n := n - j + i) i (by omega)
    have hlen := NmN.le_of hN2 hs
    refine Br.mk (fun q2 => ?_) (fun q2 => ?_)
    · have q3 : i + 1 ≤ j := by simp at q2; omega
      rintro _ rfl _ rfl
      rw [wi (a := (n : Int) - (j : Int)) (n := n - j) (by omega) (by omega), wi (n := n - j + i + 1) (by omega) (by omega), wu (n := n - j + i + 1) rfl (by omega)]
      refine (of_c _ (by omega) h2).mono ?_
      rintro _ h3 ⟨A3, m3, c3, rfl, hm3, hN3, hl3⟩
      refine ⟨_, _, _, rfl, (mul_c (hN2.mono hl3).is hN3.is (by omega) (by omega)).mono ?_⟩
      rintro _ h4 ⟨A4, m4, c4, rfl, hN4, hl4⟩
      have hlen4 := NmN.le_of hN4 (hs.mul (Sz.u64 (show n - j + i + 1 < 18446744073709551616 by omega)))
      rw [wu (n := i + 1) (by omega) (by omega)]
      refine ⟨_, _, _, rfl, (of_c _ (by omega) h4).mono ?_⟩
      rintro _ h5 ⟨A5, m5, c5, rfl, hm5, hN5, hl5⟩
      refine ⟨_, _, _, rfl, (divmod_c (hN4.mono hl5).is hN5.is (by omega) (by omega) (by omega)).mono ?_⟩
      rintro _ h6 ⟨A6, m6, c6, A7, m7, c7, rfl, hN6, _, hl6⟩
      refine ⟨_, _, _, _, _, _, _, rfl, ?_⟩
      rintro _ rfl
      rw [wi (n := i + 1 + 1) (by omega) (by omega)]
      refine ⟨j + 1 - (i + 1), by omega, i + 1, rfl, rfl, q3, ?_, (((hl2.trans hl3).trans hl4).trans hl5).trans hl6⟩
      have e : chs (n - j + i) i * (n - j + i + 1) / (i + 1) = chs (n - j + (i + 1)) (i + 1) := by
        rw [Nat.mul_comm, ← chs_mul, Nat.mul_div_cancel_left _ (by omega)]
        rfl
      rw [← e]
      exact hN6
    · have q3 : i = j := by simp at q2; omega
      subst q3
      rw [show n - i + i = n from by omega] at hN2
      exact ⟨_, _, _, rfl, hN2, hl2⟩

theorem sets_c (n lot def_ found : Nat) (hl1 : lot ≤ 200) (hd : def_ ≤ lot) (hf : found ≤ n) (hn : n ≤ 200) (h : Heap) :
    CallsU Tryz.prog 25 [.int .i64 n, .int .i64 lot, .int .i64 def_, .int .i64 found] h fun r h' => ∃ A m c, r = .slice A m c ∧ NmN h' A m c (chs def_ found * chs (lot - def_) (n - found)) ∧ Le h h' := by
  apply sampling_sets_ok
  refine (choose_c def_ found (by omega) h (by omega)).mono ?_
  rintro _ h1 ⟨A, m, c, rfl, hN, hl⟩
  refine ⟨_, _, _, rfl, ?_⟩
  rintro _ rfl _ rfl
  rw [wi (n := lot - def_) (by omega) (by omega), wi (n := n - found) (by omega) (by omega)]
  refine (choose_c (lot - def_) (n - found) (by omega) h1 (by omega)).mono ?_
  rintro _ h2 ⟨A2, m2, c2, rfl, hN2, hl2⟩
  have l1 := NmN.le_of hN (chs_sz found (by omega))
  have l2 := NmN.le_of hN2 (chs_sz (n - found) (by omega))
  refine ⟨_, _, _, rfl, (mul_c (hN.mono hl2).is hN2.is (by omega) (by omega)).mono ?_⟩
  rintro _ h3 ⟨A3, m3, c3, rfl, hN3, hl3⟩
  exact ⟨_, _, _, rfl, _, _, _, rfl, hN3, (hl.trans hl2).trans hl3⟩

theorem share_c {h : Heap} {A B : Option Addr} {n c m d x y : Nat} (ux : IsN h A n c x) (uy : IsN h B m d y) (hn : n ≤ 1099511627776) (hm : m ≤ 1099511627776) :
    CallsU Tryz.prog 24 [.slice A n c, .slice B m d] h fun r h' => ∃ s' A' n' c' B' m' d', r = .agg #[.bool s', .slice A' n' c', .slice B' m' d'] ∧ NmQ h' s' A' n' c' B' m' d' (mkRat x y) ∧ n' ≤ n ∧ m' ≤ max m 2 ∧ Le h h' := by
  apply sampling_share_ok
  refine (rnorm_c (q := mkRat x y) ⟨x, y, IsI.pos ux, uy, rfl⟩ hn hm).mono ?_
  rintro _ h1 ⟨s', A', n', c', B', m', d', rfl, r⟩
  exact ⟨_, _, _, _, _, _, _, rfl, _, _, _, _, _, _, _, rfl, r⟩

/-- The probability of exactly found defective garments. -/
def pEx (n lot def_ found : Nat) : Rat := mkRat ((chs def_ found * chs (lot - def_) (n - found) : Nat) : Int) (chs lot n)

/-- The ratio that comes with an error. -/
abbrev zeroQ : Value := .agg #[.bool false, .slice none 0 0, .slice none 0 0]

theorem exactly_bad {n c lot def_ found : Int} (hbad : ¬ (okP n c lot = true ∧ 0 ≤ def_ ∧ def_ ≤ lot ∧ 0 ≤ found ∧ found ≤ n)) (h : Heap) :
    CallsU Tryz.prog 8 [.agg #[.int .i64 n, .int .i64 c], .int .i64 lot, .int .i64 def_, .int .i64 found] h fun r h' => r = .tuple #[zeroQ, .int .i64 3] ∧ h = h' := by
  apply sampling_Exactly_ok
  refine ⟨fun b h' => b = true ∧ h = h', ?_, (check_c n c lot h).mono ?_⟩
  · rintro _ _ ⟨rfl, rfl⟩
    exact Br.mk (fun _ => ⟨rfl, rfl⟩) (fun q => by cases q)
  · rintro _ _ ⟨rfl, rfl⟩
    refine ⟨_, rfl, ?_⟩
    rw [chk_bne]
    refine Br.mk (fun _ => ⟨rfl, rfl⟩) (fun q => Br.mk (fun _ => ⟨rfl, rfl⟩) (fun q1 => Br.mk (fun _ => ⟨rfl, rfl⟩) (fun q2 => Br.mk (fun _ => ⟨rfl, rfl⟩) (fun q3 => ⟨?_, rfl⟩))))
    simp at q q1 q2 q3 ⊢
    rcases Int.lt_or_le n found with a | a
    · exact a
    · exact absurd ⟨q, q1, q2, q3, a⟩ hbad

theorem exactly_c {n c lot def_ found : Nat} (hok : okP n c lot = true) (hd : def_ ≤ lot) (hf : found ≤ n) (h : Heap) :
    CallsU Tryz.prog 8 [.agg #[.int .i64 n, .int .i64 c], .int .i64 lot, .int .i64 def_, .int .i64 found] h fun r h' => ∃ s' A' n' c' B' m' d', r = .tuple #[.agg #[.bool s', .slice A' n' c', .slice B' m' d'], .int .i64 0] ∧ NmQ h' s' A' n' c' B' m' d' (pEx n lot def_ found) ∧ n' ≤ 14 ∧ m' ≤ 7 ∧ Le h h' := by
  apply sampling_Exactly_ok
  have hk := okP_iff.1 hok
  refine ⟨fun b h' => b = false ∧ h = h', ?_, (check_c n c lot h).mono ?_⟩
  · rintro _ _ ⟨rfl, rfl⟩
    refine Br.mk (fun q => by cases q) (fun _ => (sets_c n lot def_ found (by omega) hd hf (by omega) h).mono ?_)
    rintro _ h1 ⟨A, m, c', rfl, hN, hl⟩
    refine ⟨_, _, _, rfl, (choose_c lot n (by omega) h1 (by omega)).mono ?_⟩
    rintro _ h2 ⟨A2, m2, c2, rfl, hN2, hl2⟩
    have l1 := NmN.le_of hN ((chs_sz found (by omega)).mul (chs_sz (n - found) (by omega)))
    have l2 := NmN.le_of hN2 (chs_sz n (by omega))
    refine ⟨_, _, _, rfl, (share_c (hN.mono hl2).is hN2.is (by omega) (by omega)).mono ?_⟩
    rintro _ h3 ⟨s', A', n', c', B', m', d', rfl, hQ, a1, a2, hl3⟩
    exact ⟨_, _, _, _, _, _, _, rfl, _, _, _, _, _, _, _, rfl, hQ, by omega, by omega, (hl.trans hl2).trans hl3⟩
  · rintro _ _ ⟨rfl, rfl⟩
    refine ⟨_, rfl, ?_⟩
    rw [chk_bne, hok]
    refine Br.mk (fun q => by cases q) (fun _ => Br.mk (fun q => by simp at q; omega) (fun _ => Br.mk (fun q => by simp at q; omega) (fun _ => Br.mk (fun q => by simp at q; omega) (fun _ => ⟨?_, rfl⟩))))
    simp; omega
end Go.Proofs.YtfhipkdcekffaaaGreatDoor
