/-
  Contracts: reference 02: make1, Norm, Add, Mul; reference 03: reduce, Zero, Norm, Add, limbs, SameInt, Same.
-/
import Derived.Test.YtfhipkdcekffaaaGreatDoorRf3
namespace Go.Proofs.YtfhipkdcekffaaaGreatDoor
open Go Go.Vcg
attribute [local irreducible] Br

theorem make1_c {h : Heap} {s : Bool} {A : Option Addr} {n c : Nat} {z : Int} (u : IsI h s A n c z) (hn : n ≤ 1099511627776) :
    CallsU Tryz.prog 84 [.bool s, .slice A n c] h fun r h' => ∃ s' A' k c', r = .agg #[.bool s', .slice A' k c'] ∧ NmI h' s' A' k c' z ∧ k ≤ n ∧ Le h h' := by
  apply ref02_make1_ok
  obtain ⟨v, uv, ez⟩ := u
  have ev : z.natAbs = v := by subst ez; cases s <;> simp
  refine (r1norm_c uv (by omega)).mono ?_
  rintro _ h1 ⟨A', k, c', rfl, hk, hN, hl⟩
  have hz := NmN.zero_iff hN
  rw [← ev] at hN
  refine ⟨_, _, _, rfl, Br.mk (fun q => ?_) (fun q => ?_)⟩
  · subst q
    refine ⟨_, _, _, _, rfl, ⟨hN, ?_⟩, hk, hl⟩
    simp only [if_true] at ez
    apply decide_eq_decide.2
    omega
  · subst q
    refine ⟨_, _, _, _, rfl, ⟨hN, ?_⟩, hk, hl⟩
    simp only [Bool.false_eq_true, if_false] at ez
    symm
    apply decide_eq_false
    omega

theorem r2norm_c {h : Heap} {s : Bool} {A : Option Addr} {n c : Nat} {z : Int} (u : IsI h s A n c z) (hn : n ≤ 1099511627776) :
    CallsU Tryz.prog 83 [.agg #[.bool s, .slice A n c]] h fun r h' => ∃ s' A' k c', r = .agg #[.bool s', .slice A' k c'] ∧ NmI h' s' A' k c' z ∧ k ≤ n ∧ Le h h' := by
  apply ref02_Norm_ok
  refine (make1_c u hn).mono ?_
  rintro _ _ ⟨s', A', k, c', rfl, r⟩
  exact ⟨_, _, _, _, rfl, _, _, _, _, rfl, r⟩

theorem r2mul_c {h : Heap} {s s2 : Bool} {A B : Option Addr} {n c m d : Nat} {z w : Int} (u : IsI h s A n c z) (v : IsI h s2 B m d w) (hn : n ≤ 549755813888) (hm : m ≤ 549755813888) :
    CallsU Tryz.prog 58 [.agg #[.bool s, .slice A n c], .agg #[.bool s2, .slice B m d]] h fun r h' => ∃ s' A' k c', r = .agg #[.bool s', .slice A' k c'] ∧ NmI h' s' A' k c' (z * w) ∧ k ≤ n + m ∧ Le h h' := by
  apply ref02_Mul_ok
  obtain ⟨x, ux, rfl⟩ := u
  obtain ⟨y, uy, rfl⟩ := v
  refine (r1mul_c ux uy (by omega) (by omega)).mono ?_
  rintro _ h1 ⟨A', k, c', rfl, hN, hl⟩
  have hk := NmN.le_of hN (ux.sz.mul uy.sz)
  refine ⟨_, _, _, rfl, (make1_c ⟨_, hN.is, rfl⟩ (by omega)).mono ?_⟩
  rintro _ _ ⟨s', A', k, c', rfl, r, hk', hl'⟩
  exact ⟨_, _, _, _, rfl, _, _, _, _, rfl, by rw [mul_sign]; exact r, by omega, hl.trans hl'⟩

theorem r2add_c {h : Heap} {s s2 : Bool} {A B : Option Addr} {n c m d : Nat} {z w : Int} (u : IsI h s A n c z) (v : IsI h s2 B m d w) (hn : n ≤ 549755813888) (hm : m ≤ 549755813888) :
    CallsU Tryz.prog 57 [.agg #[.bool s, .slice A n c], .agg #[.bool s2, .slice B m d]] h fun r h' => ∃ s' A' k c', r = .agg #[.bool s', .slice A' k c'] ∧ NmI h' s' A' k c' (z + w) ∧ k ≤ max n m + 1 ∧ Le h h' := by
  apply ref02_Add_ok
  obtain ⟨x, ux, rfl⟩ := u
  obtain ⟨y, uy, rfl⟩ := v
  have hsx : Sz x (max n m) := ux.sz.mono (by omega)
  have hsy : Sz y (max n m) := uy.sz.mono (by omega)
  refine Br.mk (fun q => ?_) (fun q => ?_)
  · have e : s = s2 := by simpa using q
    subst e
    refine (r1add_c ux uy (by omega) (by omega)).mono ?_
    rintro _ h1 ⟨A', k, c', rfl, hN, hl⟩
    have hk := NmN.le_of hN (hsx.add hsy)
    refine ⟨_, _, _, rfl, (make1_c (s := s) (z := (if s then -(x : Int) else x) + (if s then -(y : Int) else y)) ⟨_, hN.is, by cases s <;> simp <;> omega⟩ (by omega)).mono ?_⟩
    rintro _ _ ⟨s', A', k, c', rfl, r, hk', hl'⟩
    exact ⟨_, _, _, _, rfl, _, _, _, _, rfl, r, by omega, hl.trans hl'⟩
  · have e : s2 = !s := by cases s <;> cases s2 <;> simp at q ⊢
    subst e
    refine (r1sub_c ux uy (by omega) (by omega)).mono ?_
    rintro _ h1 (⟨hlt, rfl, rfl⟩ | ⟨hge, A1, k1, c1, rfl, hN, hl⟩)
    · refine ⟨_, _, _, _, rfl, Br.mk (fun q => by cases q) (fun _ => ?_)⟩
      refine (r1sub_c uy ux (by omega) (by omega)).mono ?_
      rintro _ h1 (⟨hlt2, _⟩ | ⟨hge, A1, k1, c1, rfl, hN, hl⟩)
      · omega
      · have hk := NmN.le_of hN (hsy.le (Nat.sub_le _ _))
        refine ⟨_, _, _, _, rfl, (make1_c (s := !s) (z := (if s then -(x : Int) else x) + (if (!s) = true then -(y : Int) else y)) ⟨_, hN.is, by cases s <;> simp <;> omega⟩ (by omega)).mono ?_⟩
        rintro _ _ ⟨s', A', k, c', rfl, r, hk', hl'⟩
        exact ⟨_, _, _, _, rfl, _, _, _, _, rfl, r, by omega, hl.trans hl'⟩
    · have hk := NmN.le_of hN (hsx.le (Nat.sub_le _ _))
      refine ⟨_, _, _, _, rfl, Br.mk (fun _ => ?_) (fun q => by cases q)⟩
      refine (make1_c (s := s) (z := (if s then -(x : Int) else x) + (if (!s) = true then -(y : Int) else y)) ⟨_, hN.is, by cases s <;> simp <;> omega⟩ (by omega)).mono ?_
      rintro _ _ ⟨s', A', k, c', rfl, r, hk', hl'⟩
      exact ⟨_, _, _, _, rfl, _, _, _, _, rfl, r, by omega, hl.trans hl'⟩

/-! ### ratios -/
theorem r3reduce_c {h : Heap} {s : Bool} {A B : Option Addr} {n c m d : Nat} {z : Int} {v : Nat} (u : IsI h s A n c z) (w : IsN h B m d v) (hv : v ≠ 0) (hn : n ≤ 1073741824) (hm : m ≤ 1073741824) :
    CallsU Tryz.prog 55 [.bool s, .slice A n c, .slice B m d] h fun r h' => ∃ s' A' n' c' B' m' d', r = .agg #[.bool s', .slice A' n' c', .slice B' m' d'] ∧ NmQ h' s' A' n' c' B' m' d' (mkRat z v) ∧ n' ≤ n ∧ m' ≤ m ∧ Le h h' := by
  apply ref03_reduce_ok
  have un := u.natAbs
  obtain ⟨e1, e2⟩ := mkRat_num (z := z) hv
  refine (r1gcd_c un w hn hm).mono ?_
  rintro _ h1 ⟨A1, k1, c1, rfl, hN1, hk1, hl1⟩
  have hg : Nat.gcd z.natAbs v ≠ 0 := by have := Nat.gcd_pos_of_pos_right z.natAbs (show 0 < v by omega); omega
  refine ⟨_, _, _, rfl, (r1divmod_c (un.mono hl1) hN1.is hn (by omega) hg).mono ?_⟩
  rintro _ h2 ⟨A2, k2, c2, A3, k3, c3, rfl, hN2, _, hl2⟩
  refine ⟨_, _, _, _, _, _, _, rfl, (r1divmod_c (w.mono (hl1.trans hl2)) (hN1.mono hl2).is hm (by omega) hg).mono ?_⟩
  rintro _ h3 ⟨A4, k4, c4, A5, k5, c5, rfl, hN4, _, hl3⟩
  have hk2 := NmN.le_of hN2 (un.sz.le (Nat.div_le_self _ _))
  have hk4 := NmN.le_of hN4 (w.sz.le (Nat.div_le_self _ _))
  have hI : IsI h3 s A2 k2 c2 (mkRat z v).num := by
    refine ⟨_, (hN2.mono hl3).is, ?_⟩
    rw [← e1]
    have hs := mkRat_sign (z := z) hv
    obtain ⟨x, _, ez⟩ := u
    have : (mkRat z v).num = 0 ↔ z = 0 := by rw [Rat.num_eq_zero]; exact Rat.mkRat_eq_zero hv
    cases s <;> simp at ez ⊢ <;> omega
  refine ⟨_, _, _, _, _, _, _, rfl, (r2norm_c hI (by omega)).mono ?_⟩
  rintro _ h4 ⟨s', A6, k6, c6, rfl, hN6, hk6, hl4⟩
  refine ⟨_, _, _, _, rfl, _, _, _, _, _, _, _, rfl, ⟨hN6, ?_⟩, by omega, hk4, ((hl1.trans hl2).trans hl3).trans hl4⟩
  rw [e2]
  exact hN4.mono hl4

theorem r3zero_c {h : Heap} {s : Bool} {A B : Option Addr} {n c m d : Nat} {z : Int} {v : Nat} (u : IsI h s A n c z) (w : IsN h B m d v) (hn : n ≤ 1099511627776) (hm : m ≤ 1099511627776) :
    CallsU Tryz.prog 54 [.agg #[.bool s, .slice A n c, .slice B m d]] h fun r h' => r = .bool (decide (z = 0 ∨ v = 0)) ∧ Le h h' := by
  apply ref03_Zero_ok
  refine (r1norm_c u.natAbs (by omega)).mono ?_
  rintro _ h1 ⟨A1, k1, c1, rfl, _, hN1, hl1⟩
  have hz1 := NmN.zero_iff hN1
  refine ⟨_, _, _, rfl, Br.mk (fun q => ?_) (fun q => ?_)⟩
  · have q' : k1 = 0 := by have := beq_iff_eq.1 q; omega
    have := hz1.1 q'
    rw [decide_eq_true (Or.inl (by omega))]
    exact ⟨rfl, hl1⟩
  · have q' : k1 ≠ 0 := by have := beq_eq_false_iff_ne.1 q; omega
    refine (r1norm_c (w.mono hl1) (by omega)).mono ?_
    rintro _ h2 ⟨A2, k2, c2, rfl, _, hN2, hl2⟩
    have hz2 := NmN.zero_iff hN2
    refine ⟨_, _, _, rfl, ?_, hl1.trans hl2⟩
    congr 1
    rw [Bool.eq_iff_iff, beq_iff_eq, decide_eq_true_eq]
    omega

theorem r3norm_c {h : Heap} {s : Bool} {A B : Option Addr} {n c m d : Nat} {q : Rat} (u : IsQ h s A n c B m d q) (hn : n ≤ 1073741824) (hm : m ≤ 1073741824) :
    CallsU Tryz.prog 29 [.agg #[.bool s, .slice A n c, .slice B m d]] h fun r h' => ∃ s' A' n' c' B' m' d', r = .agg #[.bool s', .slice A' n' c', .slice B' m' d'] ∧ NmQ h' s' A' n' c' B' m' d' q ∧ n' ≤ max n 2 ∧ m' ≤ max m 2 ∧ Le h h' := by
  apply ref03_Norm_ok
  obtain ⟨z, v, uz, uv, rfl⟩ := u
  refine (r3zero_c uz uv (by omega) (by omega)).mono ?_
  rintro _ h1 ⟨rfl, hl1⟩
  refine ⟨_, rfl, Br.mk (fun b => ?_) (fun b => ?_)⟩
  · have b' := of_decide_eq_true b
    refine (whole_c 0 (by omega) (by omega) h1).mono ?_
    rintro _ h2 ⟨s2, A2, n2, c2, B2, m2, d2, rfl, hN, hn2, hm2, hl2⟩
    have e : mkRat z v = ((0 : Int) : Rat) := by
      rcases b' with e | e
      · rw [e]; simp
      · rw [e]; simp
    rw [← e] at hN
    exact ⟨_, _, _, _, _, _, _, rfl, _, _, _, _, _, _, _, rfl, hN, by omega, by omega, hl1.trans hl2⟩
  · have b' := of_decide_eq_false b
    refine (r3reduce_c (uz.mono hl1) (uv.mono hl1) (fun e => b' (Or.inr e)) hn hm).mono ?_
    rintro _ h2 ⟨s2, A2, n2, c2, B2, m2, d2, rfl, hN, hn2, hm2, hl2⟩
    exact ⟨_, _, _, _, _, _, _, rfl, _, _, _, _, _, _, _, rfl, hN, by omega, by omega, hl1.trans hl2⟩

theorem mkRat_add {z w : Int} {v u : Nat} (hv : v ≠ 0) (hu : u ≠ 0) : mkRat (z * u + w * v) (v * u) = mkRat z v + mkRat w u := by
  rw [Rat.mkRat_add_mkRat _ _ hv hu]

theorem r3add_c {h : Heap} {s s2 : Bool} {A B C D : Option Addr} {n c m d n2 c2 m2 d2 : Nat} {q p : Rat} (u : IsQ h s A n c B m d q) (w : IsQ h s2 C n2 c2 D m2 d2 p) (hn : n ≤ 134217728) (hm : m ≤ 134217728) (hn2 : n2 ≤ 134217728) (hm2 : m2 ≤ 134217728) :
    CallsU Tryz.prog 32 [.agg #[.bool s, .slice A n c, .slice B m d], .agg #[.bool s2, .slice C n2 c2, .slice D m2 d2]] h fun r h' => ∃ s' A' n' c' B' m' d', r = .agg #[.bool s', .slice A' n' c', .slice B' m' d'] ∧ NmQ h' s' A' n' c' B' m' d' (q + p) ∧ Le h h' := by
  apply ref03_Add_ok
  refine (r3norm_c u (by omega) (by omega)).mono ?_
  rintro _ h1 ⟨s1, A1, n1, c1, B1, m1, d1, rfl, nq, hn1, hm1, hl1⟩
  refine ⟨_, _, _, _, _, _, _, rfl, (r3norm_c (w.mono hl1) (by omega) (by omega)).mono ?_⟩
  rintro _ h2 ⟨s3, A3, n3, c3, B3, m3, d3, rfl, np, hn3, hm3, hl2⟩
  have nq2 := nq.mono hl2
  refine ⟨_, _, _, _, _, _, _, rfl, (r2mul_c nq2.1.is (IsI.pos np.2.is) (by omega) (by omega)).mono ?_⟩
  rintro _ h3 ⟨s4, A4, k4, c4, rfl, hN4, hk4, hl3⟩
  refine ⟨_, _, _, _, rfl, (r2mul_c (np.1.mono hl3).is (IsI.pos (nq2.2.mono hl3).is) (by omega) (by omega)).mono ?_⟩
  rintro _ h4 ⟨s5, A5, k5, c5, rfl, hN5, hk5, hl4⟩
  refine ⟨_, _, _, _, rfl, (r2add_c (hN4.mono hl4).is hN5.is (by omega) (by omega)).mono ?_⟩
  rintro _ h5 ⟨s6, A6, k6, c6, rfl, hN6, hk6, hl5⟩
  have hl25 := (hl3.trans hl4).trans hl5
  refine ⟨_, _, _, _, rfl, (r1mul_c (nq2.2.mono hl25).is (np.2.mono hl25).is (by omega) (by omega)).mono ?_⟩
  rintro _ h6 ⟨A7, k7, c7, rfl, hN7, hl6⟩
  have hk7 := NmN.le_of hN7 (nq2.2.sz.mul np.2.sz)
  refine ⟨_, _, _, rfl, (r3reduce_c (hN6.mono hl6).is hN7.is (Nat.mul_ne_zero q.den_nz p.den_nz) (by omega) (by omega)).mono ?_⟩
  rintro _ h7 ⟨s8, A8, n8, c8, B8, m8, d8, rfl, hN8, _, _, hl7⟩
  rw [mkRat_add q.den_nz p.den_nz, Rat.mkRat_self, Rat.mkRat_self] at hN8
  exact ⟨_, _, _, _, _, _, _, rfl, _, _, _, _, _, _, _, rfl, hN8, ((hl1.trans hl2).trans hl25).trans (hl6.trans hl7)⟩

/-! ### equality field by field -/
theorem limbs_c {h : Heap} {A B : Option Addr} {n c m d : Nat} {xs ys : List Nat} (u : U32 h A n c xs) (w : U32 h B m d ys) (hn : n ≤ 1099511627776) :
    CallsU Tryz.prog 34 [.slice A n c, .slice B m d] h fun r h' => r = .bool (decide (xs = ys)) ∧ h = h' := by
  apply ref03_limbs_ok
  have l1 := u.len
  have l2 := w.len
  refine Br.mk (fun q => ?_) (fun q => ?_)
  · have q' : n ≠ m := by have := bne_iff_ne.1 q; omega
    rw [decide_eq_false (fun e => q' (by rw [← l1, ← l2, e]))]
    exact ⟨rfl, rfl⟩
  · have q' : n = m := by have := bne_eq_false_iff_eq.1 q; omega
    subst q'
    refine ⟨fun m i h' => ∃ k : Nat, m = n - k ∧ k ≤ n ∧ i = (k : Int) ∧ h = h' ∧ xs.take k = ys.take k, ⟨_, 0, rfl, by omega, rfl, rfl, by simp⟩, ?_⟩
    rintro _ _ _ ⟨k, rfl, hk, rfl, rfl, he⟩
    refine Br.mk (fun q => ?_) (fun q => ?_)
    · have q' : k < n := by have := of_decide_eq_true q; omega
      obtain ⟨ad, hA, hl⟩ := u.get q'
      obtain ⟨ad2, hB, hl2⟩ := w.get q'
      rw [Int.toNat_natCast]
      refine ⟨ad, hA, by omega, by omega, _, hl, ad2, hB, by omega, by omega, _, hl2, Br.mk (fun q1 => ?_) (fun q1 => ?_)⟩
      · have q2 : xs.getD k 0 ≠ ys.getD k 0 := by have := bne_iff_ne.1 q1; omega
        rw [decide_eq_false (fun e => q2 (by rw [e]))]
        exact ⟨rfl, rfl⟩
      · have q2 : xs.getD k 0 = ys.getD k 0 := by have := bne_eq_false_iff_eq.1 q1; omega
        rintro _ rfl
        rw [wi (n := k + 1) (by omega) (by omega)]
        refine ⟨_, by omega, k + 1, rfl, by omega, rfl, rfl, ?_⟩
        rw [take_last (by omega), take_last (by omega), he, q2]
    · have q' : k = n := by have := of_decide_eq_false q; omega
      subst q'
      rw [List.take_of_length_le (by omega), List.take_of_length_le (by omega)] at he
      rw [decide_eq_true he]
      exact ⟨rfl, rfl⟩

theorem same_limbs {h : Heap} {A B : Option Addr} {n c m d x : Nat} (u : NmN h A n c x) (w : NmN h B m d x) (hn : n ≤ 1099511627776) :
    CallsU Tryz.prog 34 [.slice A n c, .slice B m d] h fun r h' => r = .bool true ∧ h = h' := by
  obtain ⟨xs, a, e1, n1⟩ := u
  obtain ⟨ys, b, e2, n2⟩ := w
  refine (limbs_c a b hn).mono ?_
  rintro _ _ ⟨rfl, rfl⟩
  rw [decide_eq_true (nrm_inj a.lt b.lt n1 n2 (by rw [e1, e2]))]
  exact ⟨rfl, rfl⟩

/-- Two normal forms of one rational number are the same. -/
theorem same_c {h : Heap} {s s2 : Bool} {A B C D : Option Addr} {n c m d n2 c2 m2 d2 : Nat} {q : Rat} (u : NmQ h s A n c B m d q) (w : NmQ h s2 C n2 c2 D m2 d2 q) (hn : n ≤ 1099511627776) (hm : m ≤ 1099511627776) :
    CallsU Tryz.prog 12 [.agg #[.bool s, .slice A n c, .slice B m d], .agg #[.bool s2, .slice C n2 c2, .slice D m2 d2]] h fun r h' => r = .bool true ∧ h = h' := by
  apply ref03_Same_ok
  have hin : CallsU Tryz.prog 33 [.agg #[.bool s, .slice A n c], .agg #[.bool s2, .slice C n2 c2]] h fun r h' => r = .bool true ∧ h = h' := by
    apply ref03_SameInt_ok
    have e : s = s2 := by rw [u.1.2, w.1.2]
    refine Br.mk (fun _ => (same_limbs u.1.1 w.1.1 hn).mono ?_) (fun q => by simp [e] at q)
    rintro _ _ ⟨rfl, rfl⟩
    exact ⟨_, rfl, rfl, rfl⟩
  refine hin.mono ?_
  rintro _ _ ⟨rfl, rfl⟩
  refine ⟨_, rfl, Br.mk (fun _ => (same_limbs u.2 w.2 hm).mono ?_) (fun q => by cases q)⟩
  rintro _ _ ⟨rfl, rfl⟩
  exact ⟨_, rfl, rfl, rfl⟩

theorem same_zero (h : Heap) : CallsU Tryz.prog 12 [zeroQ, zeroQ] h fun r h' => r = .bool true ∧ h = h' := by
  apply ref03_Same_ok
  have hl : CallsU Tryz.prog 34 [.slice none 0 0, .slice none 0 0] h fun r h' => r = .bool true ∧ h = h' := (limbs_c (U32.nil h none 0) (U32.nil h none 0) (by omega)).mono (by rintro _ _ ⟨rfl, rfl⟩; exact ⟨rfl, rfl⟩)
  have hin : CallsU Tryz.prog 33 [.agg #[.bool false, .slice none 0 0], .agg #[.bool false, .slice none 0 0]] h fun r h' => r = .bool true ∧ h = h' := by
    apply ref03_SameInt_ok
    refine Br.mk (fun _ => hl.mono ?_) (fun q => by cases q)
    rintro _ _ ⟨rfl, rfl⟩
    exact ⟨_, rfl, rfl, rfl⟩
  refine hin.mono ?_
  rintro _ _ ⟨rfl, rfl⟩
  refine ⟨_, rfl, Br.mk (fun _ => hl.mono ?_) (fun q => by cases q)⟩
  rintro _ _ ⟨rfl, rfl⟩
  exact ⟨_, rfl, rfl, rfl⟩
end Go.Proofs.YtfhipkdcekffaaaGreatDoor
