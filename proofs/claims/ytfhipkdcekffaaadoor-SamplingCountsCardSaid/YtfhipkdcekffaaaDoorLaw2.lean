/-
  The laws SamplingMonotone, SamplingExchange, SamplingCounts return true, for every input.
-/
import Derived.Test.YtfhipkdcekffaaaDoorCn15
namespace Go.Proofs.YtfhipkdcekffaaaDoor
open Go Go.Vcg
attribute [local irreducible] Br

theorem cmpQ_self (q : Rat) : cmpQ q q = 0 := by
  unfold cmpQ
  rw [if_neg Rat.lt_irrefl, if_neg Rat.lt_irrefl]

theorem cmpQ_nat {a b v : Nat} (hv : v ≠ 0) : cmpQ (mkRat a v) (mkRat b v) = cmpI a b := by
  rw [← cmpQ_mk hv hv]
  have hp : (0 : Int) < (v : Int) := by omega
  unfold cmpI
  have e1 : ((a : Int) * (v : Int) < (b : Int) * (v : Int)) ↔ ((a : Int) < (b : Int)) := Int.mul_lt_mul_right hp
  have e2 : ((b : Int) * (v : Int) < (a : Int) * (v : Int)) ↔ ((b : Int) < (a : Int)) := Int.mul_lt_mul_right hp
  simp only [e1, e2]

theorem pAc_zero {n c L : Nat} (h : n ≤ L) : pAc n c L 0 = 1 := by
  unfold pAc
  have hp := chs_pos h
  rw [Nat.sub_zero, acc_none, Rat.mkRat_eq_div, Rat.intCast_natCast]
  have : ((chs L n : Nat) : Rat) ≠ 0 := fun e => by
    have := Rat.natCast_eq_zero_iff.1 e
    omega
  rw [Rat.div_def, Rat.mul_inv_cancel _ this]

theorem pAc_full {n c L : Nat} (h : c < n) : pAc n c L L = 0 := by
  unfold pAc
  rw [Nat.sub_self, acc_all h]
  simp

theorem monotone_law (n c size d x : Int) (h : Heap) : CallsU Tryd.prog 6 [.agg #[.int .i64 n, .int .i64 c], .agg #[.int .i64 size, .int .i64 d, .int .i64 x]] h fun r h' => r = .bool true ∧ Le h h' := by
  apply law53_SamplingMonotone_ok
  have exa : ∀ {h1 : Heap} {K : Bool → Heap → Prop}, (∀ h2, Le h1 h2 → K true h2) → CallsU Tryd.prog 13 [] h1 fun v h2 => ∃ t : Bool, v = Value.bool t ∧ K t h2 := fun {h1 K} k => (example_c h1).mono (by rintro _ h3 ⟨rfl, hl⟩; exact ⟨_, rfl, k _ hl⟩)
  refine ⟨fun b h' => h = h' ∧ (b = false → okP n c size = true ∧ size ≤ 25 ∧ 0 ≤ d ∧ d < size), ?_, ?_⟩
  · rintro b _ ⟨rfl, hb⟩
    refine Br.mk (fun _ => exa fun h2 hl => ⟨rfl, hl⟩) (fun q => ?_)
    obtain ⟨ok, hs, hd0, hd1⟩ := hb q
    have hk := okP_iff.1 ok
    obtain ⟨nN, rfl⟩ := Int.eq_ofNat_of_zero_le (show 0 ≤ n by omega)
    obtain ⟨cN, rfl⟩ := Int.eq_ofNat_of_zero_le (show 0 ≤ c by omega)
    obtain ⟨L, rfl⟩ := Int.eq_ofNat_of_zero_le (show 0 ≤ size by omega)
    obtain ⟨dN, rfl⟩ := Int.eq_ofNat_of_zero_le hd0
    have hv : chs L nN ≠ 0 := by have := chs_pos (show nN ≤ L by omega); omega
    refine (accept_c ok (by omega) h).mono ?_
    rintro _ h1 ⟨s1, A1, n1, c1, B1, m1, d1, rfl, q1, b1, b1', l1⟩
    refine ⟨_, _, _, _, _, _, _, _, rfl, ?_⟩
    rintro _ rfl
    rw [wi (n := dN + 1) (by omega) (by omega)]
    refine (accept_c ok (by omega) h1).mono ?_
    rintro _ h2 ⟨s2, A2, n2, c2, B2, m2, d2, rfl, q2, b2, b2', l2⟩
    refine ⟨_, _, _, _, _, _, _, _, rfl, (accept_c (def_ := 0) ok (by omega) h2).mono ?_⟩
    rintro _ h3 ⟨s3, A3, n3, c3, B3, m3, d3, rfl, q3, b3, b3', l3⟩
    refine ⟨_, _, _, _, _, _, _, _, rfl, (accept_c ok (Nat.le_refl L) h3).mono ?_⟩
    rintro _ h4 ⟨s4, A4, n4, c4, B4, m4, d4, rfl, q4, b4, b4', l4⟩
    rw [pAc_zero (by omega)] at q3
    rw [pAc_full (by omega)] at q4
    have l14 := ((l1.trans l2).trans l3).trans l4
    refine ⟨_, _, _, _, _, _, _, _, rfl, fun b h' => b = false ∧ Le h4 h', ?_, ?_⟩
    · rintro _ h5 ⟨rfl, l5⟩
      refine Br.mk (fun q => by cases q) (fun _ => ?_)
      rintro _ rfl
      rw [wi (n := cN + 1) (by omega) (by omega)]
      refine (rcheck_c _ _ _ h5).mono ?_
      rintro _ _ ⟨rfl, rfl⟩
      refine ⟨_, rfl, ?_⟩
      rw [chk_bne]
      refine Br.mk (fun _ => exa fun h2 hl => ⟨rfl, (l14.trans l5).trans hl⟩) (fun q => ?_)
      have ok2 : okP nN (cN + 1 : Nat) L = true := by simpa using q
      refine (accept_c ok2 (by omega) h5).mono ?_
      rintro _ h6 ⟨s6, A6, n6, c6, B6, m6, d6, rfl, q6, b6, b6', l6⟩
      refine ⟨_, _, _, _, _, _, _, _, rfl, Br.mk (fun _ => ?_) (fun q => by cases q)⟩
      refine (rcmp_c (q1.mono ((((l2.trans l3).trans l4).trans l5).trans l6)).is q6.is (by omega) (by omega) (by omega) (by omega)).mono ?_
      rintro _ h7 ⟨rfl, l7⟩
      refine ⟨_, rfl, Br.mk (fun _ => exa fun h2 hl => ⟨rfl, (((l14.trans l5).trans l6).trans l7).trans hl⟩) (fun q => ?_)⟩
      exfalso
      have q' := of_decide_eq_false q
      unfold pAc at q'
      rw [cmpQ_nat hv] at q'
      have := sm_le (f := stf dN (L - dN) nN) (show cN + 1 ≤ cN + 1 + 1 by omega)
      unfold cmpI acc at q'
      split at q' <;> (try split at q') <;> omega
    · refine Br.mk (fun q => by cases q) (fun _ => Br.mk (fun q => by cases q) (fun _ => Br.mk (fun q => by cases q) (fun _ => Br.mk (fun q => by cases q) (fun _ => ?_))))
      refine (rcmp_c (q2.mono (l3.trans l4)).is (q1.mono ((l2.trans l3).trans l4)).is (by omega) (by omega) (by omega) (by omega)).mono ?_
      rintro _ h5 ⟨rfl, l5⟩
      refine ⟨_, rfl, Br.mk (fun q => ?_) (fun _ => ?_)⟩
      · exfalso
        have q' := of_decide_eq_true q
        unfold pAc at q'
        rw [cmpQ_nat hv] at q'
        have hm := acc_mono (n := nN) (c := cN) (d := dN) (M := L - (dN + 1)) (by omega)
        rw [show L - (dN + 1) + 1 = L - dN from by omega] at hm
        unfold cmpI at q'
        split at q' <;> (try split at q') <;> omega
      · refine (whole_c 1 (by omega) (by omega) h5).mono ?_
        rintro _ h6 ⟨s6, A6, n6, c6, B6, m6, d6, rfl, q6, b6, b6', l6⟩
        refine ⟨_, _, _, _, _, _, _, rfl, (rcmp_c (q3.mono ((l4.trans l5).trans l6)).is q6.is (by omega) (by omega) (by omega) (by omega)).mono ?_⟩
        rintro _ h7 ⟨rfl, l7⟩
        rw [show cmpQ 1 ((1 : Int) : Rat) = 0 from cmpQ_self 1]
        refine ⟨_, rfl, Br.mk (fun q => by cases q) (fun _ => ?_)⟩
        refine (whole_c 0 (by omega) (by omega) h7).mono ?_
        rintro _ h8 ⟨s8, A8, n8, c8, B8, m8, d8, rfl, q8, b8, b8', l8⟩
        refine ⟨_, _, _, _, _, _, _, rfl, (rcmp_c (q4.mono (((l5.trans l6).trans l7).trans l8)).is q8.is (by omega) (by omega) (by omega) (by omega)).mono ?_⟩
        rintro _ h9 ⟨rfl, l9⟩
        rw [show cmpQ 0 ((0 : Int) : Rat) = 0 from cmpQ_self 0]
        exact ⟨_, rfl, rfl, (((l5.trans l6).trans l7).trans l8).trans l9⟩
  · refine Br.mk (fun _ => ⟨rfl, fun e => by cases e⟩) (fun q0 => (rcheck_c n c size h).mono ?_)
    rintro _ _ ⟨rfl, rfl⟩
    refine ⟨_, rfl, ?_⟩
    rw [chk_bne]
    refine Br.mk (fun _ => ⟨rfl, fun e => by cases e⟩) (fun q1 => Br.mk (fun _ => ⟨rfl, fun e => by cases e⟩) (fun q2 => ⟨rfl, fun q3 => ?_⟩))
    simp at q0 q1 q2 q3
    exact ⟨q1, q0, q2, q3⟩

theorem exchange_law (n c size d f : Int) (h : Heap) : CallsU Tryd.prog 7 [.agg #[.int .i64 n, .int .i64 c], .agg #[.int .i64 size, .int .i64 d, .int .i64 f]] h fun r h' => r = .bool true ∧ Le h h' := by
  apply law53_SamplingExchange_ok
  have exa : ∀ {h1 : Heap} {K : Bool → Heap → Prop}, (∀ h2, Le h1 h2 → K true h2) → CallsU Tryd.prog 13 [] h1 fun v h2 => ∃ t : Bool, v = Value.bool t ∧ K t h2 := fun {h1 K} k => (example_c h1).mono (by rintro _ h3 ⟨rfl, hl⟩; exact ⟨_, rfl, k _ hl⟩)
  refine ⟨fun b h' => h = h' ∧ (b = false → okP n c size = true ∧ okP d 0 size = true ∧ size ≤ 30 ∧ 0 ≤ f ∧ f ≤ n ∧ f ≤ d), ?_, ?_⟩
  · rintro b _ ⟨rfl, hb⟩
    refine Br.mk (fun _ => exa fun h2 hl => ⟨rfl, hl⟩) (fun q => ?_)
    obtain ⟨ok, ok2, hs, hf0, hf1, hf2⟩ := hb q
    have hk := okP_iff.1 ok
    have hk2 := okP_iff.1 ok2
    obtain ⟨nN, rfl⟩ := Int.eq_ofNat_of_zero_le (show 0 ≤ n by omega)
    obtain ⟨cN, rfl⟩ := Int.eq_ofNat_of_zero_le (show 0 ≤ c by omega)
    obtain ⟨L, rfl⟩ := Int.eq_ofNat_of_zero_le (show 0 ≤ size by omega)
    obtain ⟨dN, rfl⟩ := Int.eq_ofNat_of_zero_le (show 0 ≤ d by omega)
    obtain ⟨fN, rfl⟩ := Int.eq_ofNat_of_zero_le hf0
    refine (exactly_c ok (by omega) (by omega) h).mono ?_
    rintro _ h1 ⟨s1, A1, n1, c1, B1, m1, d1, rfl, q1, b1, b1', l1⟩
    refine ⟨_, _, _, _, _, _, _, _, rfl, (exactly_c (c := 0) ok2 (by omega) (by omega) h1).mono ?_⟩
    rintro _ h2 ⟨s2, A2, n2, c2, B2, m2, d2, rfl, q2, b2, b2', l2⟩
    have hv : chs L nN ≠ 0 := by have := chs_pos (show nN ≤ L by omega); omega
    have hv2 : chs L dN ≠ 0 := by have := chs_pos (show dN ≤ L by omega); omega
    have e : pEx nN L dN fN = pEx dN L nN fN := by
      unfold pEx
      rw [Rat.mkRat_eq_iff hv hv2]
      have := exchange (L := L) (n := nN) (d := dN) (f := fN) (by omega) (by omega) (by omega) (by omega)
      unfold stf at this
      rw [Nat.mul_comm, Nat.mul_comm (chs L nN)] at this
      exact_mod_cast this
    rw [e] at q1
    refine ⟨_, _, _, _, _, _, _, _, rfl, Br.mk (fun _ => Br.mk (fun _ => ?_) (fun q => by cases q)) (fun q => by cases q)⟩
    refine (rcmp_c (q1.mono l2).is q2.is (by omega) (by omega) (by omega) (by omega)).mono ?_
    rintro _ h3 ⟨rfl, l3⟩
    rw [cmpQ_self]
    exact ⟨_, rfl, Br.mk (fun _ => exa fun h2 hl => ⟨rfl, ((l1.trans l2).trans l3).trans hl⟩) (fun q => by cases q)⟩
  · refine Br.mk (fun _ => ⟨rfl, fun e => by cases e⟩) (fun q0 => (rcheck_c n c size h).mono ?_)
    rintro _ _ ⟨rfl, rfl⟩
    refine ⟨_, rfl, ?_⟩
    rw [chk_bne]
    refine Br.mk (fun _ => ⟨rfl, fun e => by cases e⟩) (fun q1 => (rcheck_c d 0 size h).mono ?_)
    rintro _ _ ⟨rfl, rfl⟩
    refine ⟨_, rfl, ?_⟩
    rw [chk_bne]
    refine Br.mk (fun _ => ⟨rfl, fun e => by cases e⟩) (fun q2 => Br.mk (fun _ => ⟨rfl, fun e => by cases e⟩) (fun q3 => Br.mk (fun _ => ⟨rfl, fun e => by cases e⟩) (fun q4 => ⟨rfl, fun q5 => ?_⟩)))
    simp at q0 q1 q2 q3 q4 q5
    exact ⟨q1, q2, q0, q3, q4, q5⟩

/-! ### sets as bits -/
theorem and_one (a : Nat) (ha : a < 9223372036854775808) : bitsOf .and .i64 (a : Int) 1 = ((a % 2 : Nat) : Int) := by
  unfold bitsOf
  have e1 : (BitVec.ofInt IntKind.i64.bits (a : Int) &&& BitVec.ofInt IntKind.i64.bits 1).toNat = a % 2 := by
    have e2 : BitVec.ofInt IntKind.i64.bits (a : Int) = BitVec.ofNat 64 a := by rw [BitVec.ofInt_natCast]; rfl
    have e3 : BitVec.ofInt IntKind.i64.bits 1 = BitVec.ofNat 64 1 := rfl
    rw [e2, e3]
    show (BitVec.ofNat 64 a &&& BitVec.ofNat 64 1).toNat = a % 2
    rw [BitVec.toNat_and, BitVec.toNat_ofNat, BitVec.toNat_ofNat, Nat.mod_eq_of_lt (by omega), Nat.mod_eq_of_lt (by omega : 1 < 2 ^ 64), Nat.and_one_is_mod]
  show IntKind.i64.wrap _ = _
  rw [e1, wrap_i64 (by omega) (by omega)]

theorem onesB_le (m : Nat) : ∀ n, onesB m n ≤ n
  | 0 => Nat.le_refl 0
  | n + 1 => by rw [onesB]; have := onesB_le m n; omega

theorem ones_c (m n : Nat) (hm : m < 9223372036854775808) (hn : n ≤ 60) (h : Heap) : CallsU Tryd.prog 21 [.int .u64 m, .int .i64 n] h fun r h' => r = .int .i64 (onesB m n) ∧ h = h' := by
  apply law53_ones_ok
  refine ⟨fun mm k i h' => ∃ j : Nat, mm = n - j ∧ j ≤ n ∧ i = (j : Int) ∧ k = (onesB m j : Int) ∧ h = h', ⟨_, 0, rfl, by omega, rfl, rfl, rfl⟩, ?_⟩
  rintro _ _ _ _ ⟨j, rfl, hj, rfl, rfl, rfl⟩
  have hle := onesB_le m j
  refine Br.mk (fun q => ?_) (fun q => ?_)
  · have q' : j < n := by simp at q; omega
    rw [wu (n := j) rfl (by omega), Int.toNat_natCast, Nat.min_eq_left (by omega)]
    refine Br.mk (fun q1 => by simp at q1; omega) (fun _ => ?_)
    rintro _ rfl _ rfl _ rfl _ rfl
    have hd : m / 2 ^ j ≤ m := Nat.div_le_self _ _
    rw [fdivP rfl, wi (n := m / 2 ^ j) rfl (by omega), and_one _ (by omega), wi (n := onesB m j + m / 2 ^ j % 2) (by omega) (by omega), wi (n := j + 1) (by omega) (by omega)]
    exact ⟨_, by omega, j + 1, rfl, by omega, rfl, rfl, rfl⟩
  · have q' : j = n := by simp at q; omega
    subst q'
    exact ⟨rfl, rfl⟩

theorem cnt_le (p : Nat → Bool) : ∀ k, cnt p k ≤ k
  | 0 => Nat.le_refl 0
  | k + 1 => by rw [cnt]; have := cnt_le p k; split <;> omega

theorem counts_law (n c size d f : Int) (h : Heap) : CallsU Tryd.prog 8 [.agg #[.int .i64 n, .int .i64 c], .agg #[.int .i64 size, .int .i64 d, .int .i64 f]] h fun r h' => r = .bool true ∧ Le h h' := by
  apply law53_SamplingCounts_ok
  have exa : ∀ {h1 : Heap} {K : Bool → Heap → Prop}, (∀ h2, Le h1 h2 → K true h2) → CallsU Tryd.prog 13 [] h1 fun v h2 => ∃ t : Bool, v = Value.bool t ∧ K t h2 := fun {h1 K} k => (example_c h1).mono (by rintro _ h3 ⟨rfl, hl⟩; exact ⟨_, rfl, k _ hl⟩)
  refine ⟨fun b h' => h = h' ∧ (b = false → okP n c size = true ∧ size ≤ 10 ∧ 0 ≤ d ∧ d ≤ size ∧ 0 ≤ f ∧ f ≤ n), ?_, ?_⟩
  · rintro b _ ⟨rfl, hb⟩
    refine Br.mk (fun _ => exa fun h2 hl => ⟨rfl, hl⟩) (fun q => ?_)
    obtain ⟨ok, hs, hd0, hd1, hf0, hf1⟩ := hb q
    have hk := okP_iff.1 ok
    obtain ⟨nN, rfl⟩ := Int.eq_ofNat_of_zero_le (show 0 ≤ n by omega)
    obtain ⟨cN, rfl⟩ := Int.eq_ofNat_of_zero_le (show 0 ≤ c by omega)
    obtain ⟨L, rfl⟩ := Int.eq_ofNat_of_zero_le (show 0 ≤ size by omega)
    obtain ⟨dN, rfl⟩ := Int.eq_ofNat_of_zero_le (show 0 ≤ d by omega)
    obtain ⟨fN, rfl⟩ := Int.eq_ofNat_of_zero_le hf0
    have hpow : 2 ^ L ≤ 2 ^ 10 := Nat.pow_le_pow_right (by decide) (by omega)
    have hpow2 : (2 : Nat) ^ 10 = 1024 := rfl
    have hpI : ((2 : Int) ^ L) = ((2 ^ L : Nat) : Int) := by simp
    refine ⟨fun m all some_ i h' => ∃ k : Nat, m = 2 ^ L - k ∧ k ≤ 2 ^ L ∧ i = (k : Int) ∧ all = (cnt (fun m => onesB m L == nN) k : Int) ∧ some_ = (cnt (fun m => (onesB m L == nN) && (onesB m dN == fN)) k : Int) ∧ h = h', ⟨_, 0, rfl, Nat.zero_le _, rfl, rfl, rfl, rfl⟩, ?_⟩
    rintro _ _ _ _ _ ⟨k, rfl, hkL, rfl, rfl, rfl, rfl⟩
    have c1 := cnt_le (fun m => onesB m L == nN) k
    have c2 := cnt_le (fun m => (onesB m L == nN) && (onesB m dN == fN)) k
    rw [wu (n := L) rfl (by omega), Int.toNat_natCast, Nat.min_eq_left (by omega)]
    refine Br.mk (fun q1 => by simp at q1; omega) (fun _ => ?_)
    rintro _ rfl
    rw [Int.one_mul, hpI, wu (n := 2 ^ L) rfl (by omega)]
    refine Br.mk (fun q => ?_) (fun q => ?_)
    · have q' : k < 2 ^ L := by have := of_decide_eq_true q; omega
      refine (ones_c k L (by omega) (by omega) h).mono ?_
      rintro _ _ ⟨rfl, rfl⟩
      refine ⟨_, rfl, Br.mk (fun q1 => ?_) (fun q1 => ?_)⟩
      · have q2 : onesB k L ≠ nN := by simp at q1; omega
        rintro _ rfl
        rw [wu (n := k + 1) (by omega) (by omega)]
        refine ⟨_, by omega, k + 1, rfl, by omega, rfl, ?_, ?_, rfl⟩
        · rw [cnt]; simp [q2]
        · rw [cnt]; simp [q2]
      · have q2 : onesB k L = nN := by simp at q1; omega
        rintro _ rfl
        refine (ones_c k dN (by omega) (by omega) h).mono ?_
        rintro _ _ ⟨rfl, rfl⟩
        rw [wi (a := ((cnt (fun m => onesB m L == nN) k : Nat) : Int) + 1) (n := cnt (fun m => onesB m L == nN) k + 1) (by omega) (by omega)]
        refine ⟨_, rfl, Br.mk (fun q3 => ?_) (fun q3 => ?_)⟩
        · have q4 : onesB k dN = fN := by simp at q3; omega
          rintro _ rfl _ rfl
          rw [wu (n := k + 1) (by omega) (by omega), wi (a := ((cnt (fun m => (onesB m L == nN) && (onesB m dN == fN)) k : Nat) : Int) + 1) (n := cnt (fun m => (onesB m L == nN) && (onesB m dN == fN)) k + 1) (by omega) (by omega)]
          refine ⟨_, by omega, k + 1, rfl, by omega, rfl, ?_, ?_, rfl⟩
          · rw [cnt]; simp [q2]
          · rw [cnt]; simp [q2, q4]
        · have q4 : onesB k dN ≠ fN := by simp at q3; omega
          rintro _ rfl
          rw [wu (n := k + 1) (by omega) (by omega)]
          refine ⟨_, by omega, k + 1, rfl, by omega, rfl, ?_, ?_, rfl⟩
          · rw [cnt]; simp [q2]
          · rw [cnt]; simp [q2, q4]
    · have q' : k = 2 ^ L := by have := of_decide_eq_false q; omega
      subst q'
      have hv : chs L nN ≠ 0 := by have := chs_pos (show nN ≤ L by omega); omega
      have hc1 : cnt (fun m => onesB m L == nN) (2 ^ L) = chs L nN := cnt_one L nN
      have hc2 : cnt (fun m => (onesB m L == nN) && (onesB m dN == fN)) (2 ^ L) = chs dN fN * chs (L - dN) (nN - fN) := by
        have := cnt_sets dN fN (L - dN) nN
        rw [show dN + (L - dN) = L from by omega, if_pos (by omega)] at this
        exact this
      rw [hc1] at c1 ⊢
      rw [hc2] at c2 ⊢
      refine (exactly_c ok (by omega) (by omega) h).mono ?_
      rintro _ h1 ⟨s1, A1, n1, c1, B1, m1, d1, rfl, q1, b1, b1', l1⟩
      refine ⟨_, _, _, _, _, _, _, _, rfl, (rof_c _ _ (by omega) (by omega) (by omega) (by omega) (by omega) h1).mono ?_⟩
      rintro _ h2 ⟨s2, A2, n2, c2, B2, m2, d2, rfl, q2, b2, b2', l2⟩
      have e : pEx nN L dN fN = (((chs dN fN * chs (L - dN) (nN - fN) : Nat) : Int) : Rat) / (((chs L nN : Nat) : Int) : Rat) := by
        unfold pEx
        rw [Rat.mkRat_eq_div]
        rfl
      rw [← e] at q2
      refine ⟨_, _, _, _, _, _, _, _, rfl, Br.mk (fun _ => Br.mk (fun _ => ?_) (fun q => by cases q)) (fun q => by cases q)⟩
      refine (rcmp_c (q1.mono l2).is q2.is (by omega) (by omega) (by omega) (by omega)).mono ?_
      rintro _ h3 ⟨rfl, l3⟩
      rw [cmpQ_self]
      exact ⟨_, rfl, Br.mk (fun _ => exa fun h2 hl => ⟨rfl, ((l1.trans l2).trans l3).trans hl⟩) (fun q => by cases q)⟩
  · refine Br.mk (fun _ => ⟨rfl, fun e => by cases e⟩) (fun q0 => (rcheck_c n c size h).mono ?_)
    rintro _ _ ⟨rfl, rfl⟩
    refine ⟨_, rfl, ?_⟩
    rw [chk_bne]
    refine Br.mk (fun _ => ⟨rfl, fun e => by cases e⟩) (fun q1 => Br.mk (fun _ => ⟨rfl, fun e => by cases e⟩) (fun q2 => Br.mk (fun _ => ⟨rfl, fun e => by cases e⟩) (fun q3 => Br.mk (fun _ => ⟨rfl, fun e => by cases e⟩) (fun q4 => ⟨rfl, fun q5 => ?_⟩))))
    simp at q0 q1 q2 q3 q4 q5
    exact ⟨q1, q0, q2, q3, q4, q5⟩
end Go.Proofs.YtfhipkdcekffaaaDoor
