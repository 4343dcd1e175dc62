/-
  Gathered texts of this proof: Rf4, Bd1, Lib3, VcB, Bd2, Bd3, Bd4, Pl3, VcMe, Me1, Me2, Me3, Me4, Me5, Cn16.
-/
import Derived.Test.YtccplhjglhdopaaGreatDoorG07
import Derived.Lib.Builder
import Derived.Lib.UnsafeStr
import Derived.Shelf.RegionOpenPlain
import Derived.Laws.Externs
import Derived.Test.YtccplhjglhdopaaGreatDoorG04
import Derived.Test.YtccplhjglhdopaaGreatDoorG02
import Derived.Test.YtccplhjglhdopaaGreatDoorChecked
import Derived.Lib.AtoiErrMem
import Derived.Lib.LastIndexByte

/-
  Contracts: reference 02: make1, Norm, Add, Mul; reference 03: reduce, Zero, Norm, Add, limbs, SameInt, Same.
-/
namespace Go.Proofs.YtccplhjglhdopaaGreatDoor
open Go Go.Vcg
attribute [local irreducible] Br

theorem make1_c {h : Heap} {s : Bool} {A : Option Addr} {n c : Nat} {z : Int} (u : IsI h s A n c z) (hn : n ≤ 1099511627776) :
    CallsU Tryz.prog 136 [.bool s, .slice A n c] h fun r h' => ∃ s' A' k c', r = .agg #[.bool s', .slice A' k c'] ∧ NmI h' s' A' k c' z ∧ k ≤ n ∧ Le h h' := by
  apply ref02_make1_ok
  obtain ⟨v, uv, ez⟩ := u
  have ev : z.natAbs = v := by subst ez; cases s <;> simp
  refine (r1norm_c uv (by omega)).mono ?_
  rintro _ h1 ⟨A', k, c', rfl, hk, hN, hl⟩
  have hz := NmN.zero_iff hN
  rw [← ev] at hN
  refine ⟨_, _, _, rfl, Br.mk (fun q => ?_) (fun q => ?_)⟩
  · subst q
    refine ⟨_, _, _, _, rfl, ⟨hN, ?_⟩, hk, hl⟩
    simp only [if_true] at ez
    apply decide_eq_decide.2
    omega
  · subst q
    refine ⟨_, _, _, _, rfl, ⟨hN, ?_⟩, hk, hl⟩
    simp only [Bool.false_eq_true, if_false] at ez
    symm
    apply decide_eq_false
    omega

theorem r2norm_c {h : Heap} {s : Bool} {A : Option Addr} {n c : Nat} {z : Int} (u : IsI h s A n c z) (hn : n ≤ 1099511627776) :
    CallsU Tryz.prog 109 [.agg #[.bool s, .slice A n c]] h fun r h' => ∃ s' A' k c', r = .agg #[.bool s', .slice A' k c'] ∧ NmI h' s' A' k c' z ∧ k ≤ n ∧ Le h h' := by
  apply ref02_Norm_ok
  refine (make1_c u hn).mono ?_
  rintro _ _ ⟨s', A', k, c', rfl, r⟩
  exact ⟨_, _, _, _, rfl, _, _, _, _, rfl, r⟩

theorem r2mul_c {h : Heap} {s s2 : Bool} {A B : Option Addr} {n c m d : Nat} {z w : Int} (u : IsI h s A n c z) (v : IsI h s2 B m d w) (hn : n ≤ 549755813888) (hm : m ≤ 549755813888) :
    CallsU Tryz.prog 139 [.agg #[.bool s, .slice A n c], .agg #[.bool s2, .slice B m d]] h fun r h' => ∃ s' A' k c', r = .agg #[.bool s', .slice A' k c'] ∧ NmI h' s' A' k c' (z * w) ∧ k ≤ n + m ∧ Le h h' := by
  apply ref02_Mul_ok
  obtain ⟨x, ux, rfl⟩ := u
  obtain ⟨y, uy, rfl⟩ := v
  refine (r1mul_c ux uy (by omega) (by omega)).mono ?_
  rintro _ h1 ⟨A', k, c', rfl, hN, hl⟩
  have hk := NmN.le_of hN (ux.sz.mul uy.sz)
  refine ⟨_, _, _, rfl, (by first | assumption | exact Le.refl _), (make1_c ⟨_, hN.is, rfl⟩ (by omega)).mono ?_⟩
  rintro _ _ ⟨s', A', k, c', rfl, r, hk', hl'⟩
  exact ⟨_, _, _, _, rfl, _, _, _, _, rfl, by rw [mul_sign]; exact r, by omega, hl.trans hl'⟩

theorem r2add_c {h : Heap} {s s2 : Bool} {A B : Option Addr} {n c m d : Nat} {z w : Int} (u : IsI h s A n c z) (v : IsI h s2 B m d w) (hn : n ≤ 549755813888) (hm : m ≤ 549755813888) :
    CallsU Tryz.prog 138 [.agg #[.bool s, .slice A n c], .agg #[.bool s2, .slice B m d]] h fun r h' => ∃ s' A' k c', r = .agg #[.bool s', .slice A' k c'] ∧ NmI h' s' A' k c' (z + w) ∧ k ≤ max n m + 1 ∧ Le h h' := by
  apply ref02_Add_ok
  obtain ⟨x, ux, rfl⟩ := u
  obtain ⟨y, uy, rfl⟩ := v
  have hsx : Sz x (max n m) := ux.sz.mono (by omega)
  have hsy : Sz y (max n m) := uy.sz.mono (by omega)
  refine Br.mk (fun q => ?_) (fun q => ?_)
  · have e : s = s2 := by simpa using q
    subst e
    refine (r1add_c ux uy (by omega) (by omega)).mono ?_
    rintro _ h1 ⟨A', k, c', rfl, hN, hl⟩
    have hk := NmN.le_of hN (hsx.add hsy)
    refine ⟨_, _, _, rfl, (by first | assumption | exact Le.refl _), (make1_c (s := s) (z := (if s then -(x : Int) else x) + (if s then -(y : Int) else y)) ⟨_, hN.is, by cases s <;> simp <;> omega⟩ (by omega)).mono ?_⟩
    rintro _ _ ⟨s', A', k, c', rfl, r, hk', hl'⟩
    exact ⟨_, _, _, _, rfl, _, _, _, _, rfl, r, by omega, hl.trans hl'⟩
  · have e : s2 = !s := by cases s <;> cases s2 <;> simp at q ⊢
    subst e
    refine (r1sub_c ux uy (by omega) (by omega)).mono ?_
    rintro _ h1 (⟨hlt, rfl, rfl⟩ | ⟨hge, A1, k1, c1, rfl, hN, hl⟩)
    · refine ⟨_, _, _, _, rfl, Br.mk (fun q => by cases q) (fun _ => ?_)⟩
      refine (r1sub_c uy ux (by omega) (by omega)).mono ?_
      rintro _ h1 (⟨hlt2, _⟩ | ⟨hge, A1, k1, c1, rfl, hN, hl⟩)
      · omega
      · have hk := NmN.le_of hN (hsy.le (Nat.sub_le _ _))
        refine ⟨_, _, _, _, rfl, (make1_c (s := !s) (z := (if s then -(x : Int) else x) + (if (!s) = true then -(y : Int) else y)) ⟨_, hN.is, by cases s <;> simp <;> omega⟩ (by omega)).mono ?_⟩
        rintro _ _ ⟨s', A', k, c', rfl, r, hk', hl'⟩
        exact ⟨_, _, _, _, rfl, _, _, _, _, rfl, r, by omega, hl.trans hl'⟩
    · have hk := NmN.le_of hN (hsx.le (Nat.sub_le _ _))
      refine ⟨_, _, _, _, rfl, Br.mk (fun _ => ?_) (fun q => by cases q)⟩
      refine (make1_c (s := s) (z := (if s then -(x : Int) else x) + (if (!s) = true then -(y : Int) else y)) ⟨_, hN.is, by cases s <;> simp <;> omega⟩ (by omega)).mono ?_
      rintro _ _ ⟨s', A', k, c', rfl, r, hk', hl'⟩
      exact ⟨_, _, _, _, rfl, _, _, _, _, rfl, r, by omega, hl.trans hl'⟩

/-! ### ratios -/
theorem r3reduce_c {h : Heap} {s : Bool} {A B : Option Addr} {n c m d : Nat} {z : Int} {v : Nat} (u : IsI h s A n c z) (w : IsN h B m d v) (hv : v ≠ 0) (hn : n ≤ 1073741824) (hm : m ≤ 1073741824) :
    CallsU Tryz.prog 70 [.bool s, .slice A n c, .slice B m d] h fun r h' => ∃ s' A' n' c' B' m' d', r = .agg #[.bool s', .slice A' n' c', .slice B' m' d'] ∧ NmQ h' s' A' n' c' B' m' d' (mkRat z v) ∧ n' ≤ n ∧ m' ≤ m ∧ Le h h' := by
  apply ref03_reduce_ok
  have un := u.natAbs
  obtain ⟨e1, e2⟩ := mkRat_num (z := z) hv
  refine (r1gcd_c un w hn hm).mono ?_
  rintro _ h1 ⟨A1, k1, c1, rfl, hN1, hk1, hl1⟩
  have hg : Nat.gcd z.natAbs v ≠ 0 := by have := Nat.gcd_pos_of_pos_right z.natAbs (show 0 < v by omega); omega
  refine ⟨_, _, _, rfl, (r1divmod_c (un.mono hl1) hN1.is hn (by omega) hg).mono ?_⟩
  rintro _ h2 ⟨A2, k2, c2, A3, k3, c3, rfl, hN2, _, hl2⟩
  refine ⟨_, _, _, _, _, _, _, rfl, (r1divmod_c (w.mono (hl1.trans hl2)) (hN1.mono hl2).is hm (by omega) hg).mono ?_⟩
  rintro _ h3 ⟨A4, k4, c4, A5, k5, c5, rfl, hN4, _, hl3⟩
  have hk2 := NmN.le_of hN2 (un.sz.le (Nat.div_le_self _ _))
  have hk4 := NmN.le_of hN4 (w.sz.le (Nat.div_le_self _ _))
  have hI : IsI h3 s A2 k2 c2 (mkRat z v).num := by
    refine ⟨_, (hN2.mono hl3).is, ?_⟩
    rw [← e1]
    have hs := mkRat_sign (z := z) hv
    obtain ⟨x, _, ez⟩ := u
    have : (mkRat z v).num = 0 ↔ z = 0 := by rw [Rat.num_eq_zero]; exact Rat.mkRat_eq_zero hv
    cases s <;> simp at ez ⊢ <;> omega
  refine ⟨_, _, _, _, _, _, _, rfl, (r2norm_c hI (by omega)).mono ?_⟩
  rintro _ h4 ⟨s', A6, k6, c6, rfl, hN6, hk6, hl4⟩
  refine ⟨_, _, _, _, rfl, _, _, _, _, _, _, _, rfl, ⟨hN6, ?_⟩, by omega, hk4, ((hl1.trans hl2).trans hl3).trans hl4⟩
  rw [e2]
  exact hN4.mono hl4

theorem r3zero_c {h : Heap} {s : Bool} {A B : Option Addr} {n c m d : Nat} {z : Int} {v : Nat} (u : IsI h s A n c z) (w : IsN h B m d v) (hn : n ≤ 1099511627776) (hm : m ≤ 1099511627776) :
    CallsU Tryz.prog 101 [.agg #[.bool s, .slice A n c, .slice B m d]] h fun r h' => r = .bool (decide (z = 0 ∨ v = 0)) ∧ Le h h' := by
  apply ref03_Zero_ok
  refine (r1norm_c u.natAbs (by omega)).mono ?_
  rintro _ h1 ⟨A1, k1, c1, rfl, _, hN1, hl1⟩
  have hz1 := NmN.zero_iff hN1
  refine ⟨_, _, _, rfl, Br.mk (fun q => ?_) (fun q => ?_)⟩
  · have q' : k1 = 0 := by have := beq_iff_eq.1 q; omega
    have := hz1.1 q'
    rw [decide_eq_true (Or.inl (by omega))]
    exact ⟨rfl, hl1⟩
  · have q' : k1 ≠ 0 := by have := beq_eq_false_iff_ne.1 q; omega
    refine (r1norm_c (w.mono hl1) (by omega)).mono ?_
    rintro _ h2 ⟨A2, k2, c2, rfl, _, hN2, hl2⟩
    have hz2 := NmN.zero_iff hN2
    refine ⟨_, _, _, rfl, ?_, hl1.trans hl2⟩
    congr 1
    rw [Bool.eq_iff_iff, beq_iff_eq, decide_eq_true_eq]
    omega

theorem r3norm_c {h : Heap} {s : Bool} {A B : Option Addr} {n c m d : Nat} {q : Rat} (u : IsQ h s A n c B m d q) (hn : n ≤ 1073741824) (hm : m ≤ 1073741824) :
    CallsU Tryz.prog 102 [.agg #[.bool s, .slice A n c, .slice B m d]] h fun r h' => ∃ s' A' n' c' B' m' d', r = .agg #[.bool s', .slice A' n' c', .slice B' m' d'] ∧ NmQ h' s' A' n' c' B' m' d' q ∧ n' ≤ max n 2 ∧ m' ≤ max m 2 ∧ Le h h' := by
  apply ref03_Norm_ok
  obtain ⟨z, v, uz, uv, rfl⟩ := u
  refine (r3zero_c uz uv (by omega) (by omega)).mono ?_
  rintro _ h1 ⟨rfl, hl1⟩
  refine ⟨_, rfl, Br.mk (fun b => ?_) (fun b => ?_)⟩
  · have b' := of_decide_eq_true b
    refine (whole_c 0 (by omega) (by omega) h1).mono ?_
    rintro _ h2 ⟨s2, A2, n2, c2, B2, m2, d2, rfl, hN, hn2, hm2, hl2⟩
    have e : mkRat z v = ((0 : Int) : Rat) := by
      rcases b' with e | e
      · rw [e]; simp
      · rw [e]; simp
    rw [← e] at hN
    exact ⟨_, _, _, _, _, _, _, rfl, _, _, _, _, _, _, _, rfl, hN, by omega, by omega, hl1.trans hl2⟩
  · have b' := of_decide_eq_false b
    refine (r3reduce_c (uz.mono hl1) (uv.mono hl1) (fun e => b' (Or.inr e)) hn hm).mono ?_
    rintro _ h2 ⟨s2, A2, n2, c2, B2, m2, d2, rfl, hN, hn2, hm2, hl2⟩
    exact ⟨_, _, _, _, _, _, _, rfl, _, _, _, _, _, _, _, rfl, hN, by omega, by omega, hl1.trans hl2⟩

theorem mkRat_add {z w : Int} {v u : Nat} (hv : v ≠ 0) (hu : u ≠ 0) : mkRat (z * u + w * v) (v * u) = mkRat z v + mkRat w u := by
  rw [Rat.mkRat_add_mkRat _ _ hv hu]

theorem r3add_b {h : Heap} {s s2 : Bool} {A B C D : Option Addr} {n c m d n2 c2 m2 d2 : Nat} {q p : Rat} (u : IsQ h s A n c B m d q) (w : IsQ h s2 C n2 c2 D m2 d2 p) (hn : n ≤ 134217728) (hm : m ≤ 134217728) (hn2 : n2 ≤ 134217728) (hm2 : m2 ≤ 134217728) :
    CallsU Tryz.prog 106 [.agg #[.bool s, .slice A n c, .slice B m d], .agg #[.bool s2, .slice C n2 c2, .slice D m2 d2]] h fun r h' => ∃ s' A' n' c' B' m' d', r = .agg #[.bool s', .slice A' n' c', .slice B' m' d'] ∧ NmQ h' s' A' n' c' B' m' d' (q + p) ∧ n' ≤ max (max n 2 + max m2 2) (max n2 2 + max m 2) + 1 ∧ m' ≤ max m 2 + max m2 2 ∧ Le h h' := by
  apply ref03_Add_ok
  refine (r3norm_c u (by omega) (by omega)).mono ?_
  rintro _ h1 ⟨s1, A1, n1, c1, B1, m1, d1, rfl, nq, hn1, hm1, hl1⟩
  refine ⟨_, _, _, _, _, _, _, rfl, (by first | assumption | exact Le.refl _), (r3norm_c (w.mono hl1) (by omega) (by omega)).mono ?_⟩
  rintro _ h2 ⟨s3, A3, n3, c3, B3, m3, d3, rfl, np, hn3, hm3, hl2⟩
  have nq2 := nq.mono hl2
  refine ⟨_, _, _, _, _, _, _, rfl, (r2mul_c nq2.1.is (IsI.pos np.2.is) (by omega) (by omega)).mono ?_⟩
  rintro _ h3 ⟨s4, A4, k4, c4, rfl, hN4, hk4, hl3⟩
  refine ⟨_, _, _, _, rfl, (by first | assumption | exact Le.refl _), (r2mul_c (np.1.mono hl3).is (IsI.pos (nq2.2.mono hl3).is) (by omega) (by omega)).mono ?_⟩
  rintro _ h4 ⟨s5, A5, k5, c5, rfl, hN5, hk5, hl4⟩
  refine ⟨_, _, _, _, rfl, (r2add_c (hN4.mono hl4).is hN5.is (by omega) (by omega)).mono ?_⟩
  rintro _ h5 ⟨s6, A6, k6, c6, rfl, hN6, hk6, hl5⟩
  have hl25 := (hl3.trans hl4).trans hl5
  refine ⟨_, _, _, _, rfl, (r1mul_c (nq2.2.mono hl25).is (np.2.mono hl25).is (by omega) (by omega)).mono ?_⟩
  rintro _ h6 ⟨A7, k7, c7, rfl, hN7, hl6⟩
  have hk7 := NmN.le_of hN7 (nq2.2.sz.mul np.2.sz)
  refine ⟨_, _, _, rfl, (by first | assumption | exact Le.refl _), (r3reduce_c (hN6.mono hl6).is hN7.is (Nat.mul_ne_zero q.den_nz p.den_nz) (by omega) (by omega)).mono ?_⟩
  rintro _ h7 ⟨s8, A8, n8, c8, B8, m8, d8, rfl, hN8, b1, b2, hl7⟩
  rw [mkRat_add q.den_nz p.den_nz, Rat.mkRat_self, Rat.mkRat_self] at hN8
  exact ⟨_, _, _, _, _, _, _, rfl, _, _, _, _, _, _, _, rfl, hN8, by omega, by omega, ((hl1.trans hl2).trans hl25).trans (hl6.trans hl7)⟩

theorem r3add_c {h : Heap} {s s2 : Bool} {A B C D : Option Addr} {n c m d n2 c2 m2 d2 : Nat} {q p : Rat} (u : IsQ h s A n c B m d q) (w : IsQ h s2 C n2 c2 D m2 d2 p) (hn : n ≤ 134217728) (hm : m ≤ 134217728) (hn2 : n2 ≤ 134217728) (hm2 : m2 ≤ 134217728) :
    CallsU Tryz.prog 106 [.agg #[.bool s, .slice A n c, .slice B m d], .agg #[.bool s2, .slice C n2 c2, .slice D m2 d2]] h fun r h' => ∃ s' A' n' c' B' m' d', r = .agg #[.bool s', .slice A' n' c', .slice B' m' d'] ∧ NmQ h' s' A' n' c' B' m' d' (q + p) ∧ Le h h' := by
  refine (r3add_b u w hn hm hn2 hm2).mono ?_
  rintro _ _ ⟨s9, A9, n9, c9, B9, m9, d9, rfl, a, _, _, b⟩
  exact ⟨_, _, _, _, _, _, _, rfl, a, b⟩

/-! ### equality field by field -/
theorem limbs_c {h : Heap} {A B : Option Addr} {n c m d : Nat} {xs ys : List Nat} (u : U32 h A n c xs) (w : U32 h B m d ys) (hn : n ≤ 1099511627776) :
    CallsU Tryz.prog 37 [.slice A n c, .slice B m d] h fun r h' => r = .bool (decide (xs = ys)) ∧ h = h' := by
  apply ref03_limbs_ok
  have l1 := u.len
  have l2 := w.len
  refine Br.mk (fun q => ?_) (fun q => ?_)
  · have q' : n ≠ m := by have := bne_iff_ne.1 q; omega
    rw [decide_eq_false (fun e => q' (by rw [← l1, ← l2, e]))]
    exact ⟨rfl, rfl⟩
  · have q' : n = m := by have := bne_eq_false_iff_eq.1 q; omega
    subst q'
    refine ⟨fun m i h' => ∃ k : Nat, m = n - k ∧ k ≤ n ∧ i = (k : Int) ∧ h = h' ∧ xs.take k = ys.take k, ⟨_, 0, rfl, by omega, rfl, rfl, by simp⟩, ?_⟩
    rintro _ _ _ ⟨k, rfl, hk, rfl, rfl, he⟩
    refine Br.mk (fun q => ?_) (fun q => ?_)
    · have q' : k < n := by have := of_decide_eq_true q; omega
      obtain ⟨ad, hA, hl⟩ := u.get q'
      obtain ⟨ad2, hB, hl2⟩ := w.get q'
      rw [Int.toNat_natCast]
      refine ⟨ad, hA, by omega, by omega, _, hl, ad2, hB, by omega, by omega, _, hl2, Br.mk (fun q1 => ?_) (fun q1 => ?_)⟩
      · have q2 : xs.getD k 0 ≠ ys.getD k 0 := by have := bne_iff_ne.1 q1; omega
        rw [decide_eq_false (fun e => q2 (by rw [e]))]
        exact ⟨rfl, rfl⟩
      · have q2 : xs.getD k 0 = ys.getD k 0 := by have := bne_eq_false_iff_eq.1 q1; omega
        rintro _ rfl
        rw [wi (n := k + 1) (by omega) (by omega)]
        refine ⟨_, by omega, k + 1, rfl, by omega, rfl, rfl, ?_⟩
        rw [take_last (by omega), take_last (by omega), he, q2]
    · have q' : k = n := by have := of_decide_eq_false q; omega
      subst q'
      rw [List.take_of_length_le (by omega), List.take_of_length_le (by omega)] at he
      rw [decide_eq_true he]
      exact ⟨rfl, rfl⟩

theorem same_limbs {h : Heap} {A B : Option Addr} {n c m d x : Nat} (u : NmN h A n c x) (w : NmN h B m d x) (hn : n ≤ 1099511627776) :
    CallsU Tryz.prog 37 [.slice A n c, .slice B m d] h fun r h' => r = .bool true ∧ h = h' := by
  obtain ⟨xs, a, e1, n1⟩ := u
  obtain ⟨ys, b, e2, n2⟩ := w
  refine (limbs_c a b hn).mono ?_
  rintro _ _ ⟨rfl, rfl⟩
  rw [decide_eq_true (nrm_inj a.lt b.lt n1 n2 (by rw [e1, e2]))]
  exact ⟨rfl, rfl⟩

/-- Two normal forms of one rational number are the same. -/
theorem same_c {h : Heap} {s s2 : Bool} {A B C D : Option Addr} {n c m d n2 c2 m2 d2 : Nat} {q : Rat} (u : NmQ h s A n c B m d q) (w : NmQ h s2 C n2 c2 D m2 d2 q) (hn : n ≤ 1099511627776) (hm : m ≤ 1099511627776) :
    CallsU Tryz.prog 14 [.agg #[.bool s, .slice A n c, .slice B m d], .agg #[.bool s2, .slice C n2 c2, .slice D m2 d2]] h fun r h' => r = .bool true ∧ h = h' := by
  apply ref03_Same_ok
  have hin : CallsU Tryz.prog 36 [.agg #[.bool s, .slice A n c], .agg #[.bool s2, .slice C n2 c2]] h fun r h' => r = .bool true ∧ h = h' := by
    apply ref03_SameInt_ok
    have e : s = s2 := by rw [u.1.2, w.1.2]
    refine Br.mk (fun _ => (same_limbs u.1.1 w.1.1 hn).mono ?_) (fun q => by simp [e] at q)
    rintro _ _ ⟨rfl, rfl⟩
    exact ⟨_, rfl, rfl, rfl⟩
  refine hin.mono ?_
  rintro _ _ ⟨rfl, rfl⟩
  refine ⟨_, rfl, Br.mk (fun _ => (same_limbs u.2 w.2 hm).mono ?_) (fun q => by cases q)⟩
  rintro _ _ ⟨rfl, rfl⟩
  exact ⟨_, rfl, rfl, rfl⟩

theorem same_zero (h : Heap) : CallsU Tryz.prog 14 [zeroQ, zeroQ] h fun r h' => r = .bool true ∧ h = h' := by
  apply ref03_Same_ok
  have hl : CallsU Tryz.prog 37 [.slice none 0 0, .slice none 0 0] h fun r h' => r = .bool true ∧ h = h' := (limbs_c (U32.nil h none 0) (U32.nil h none 0) (by omega)).mono (by rintro _ _ ⟨rfl, rfl⟩; exact ⟨rfl, rfl⟩)
  have hin : CallsU Tryz.prog 36 [.agg #[.bool false, .slice none 0 0], .agg #[.bool false, .slice none 0 0]] h fun r h' => r = .bool true ∧ h = h' := by
    apply ref03_SameInt_ok
    refine Br.mk (fun _ => hl.mono ?_) (fun q => by cases q)
    rintro _ _ ⟨rfl, rfl⟩
    exact ⟨_, rfl, rfl, rfl⟩
  refine hin.mono ?_
  rintro _ _ ⟨rfl, rfl⟩
  refine ⟨_, rfl, Br.mk (fun _ => hl.mono ?_) (fun q => by cases q)⟩
  rintro _ _ ⟨rfl, rfl⟩
  exact ⟨_, rfl, rfl, rfl⟩
end Go.Proofs.YtccplhjglhdopaaGreatDoor

/-
  Contracts: strings.Builder: copyCheck, String (with the world behind it).
-/
namespace Go.Proofs.YtccplhjglhdopaaGreatDoor
open Go Go.Vcg Go.RowKit
attribute [local irreducible] Br

set_option maxHeartbeats 1000000 in
set_option maxRecDepth 100000 in
theorem check_used_w (b : Nat) (w : World) (h0 : w.cell? ⟨b, 0, none⟩ = some (.pointer (some ⟨b, 0, none⟩))) :
    Calls Tryz.prog 119 #[.pointer (some ⟨b, 0, none⟩)] w fun e w' => e = .returned (.tuple #[]) ∧ w' = w := by
  obtain ⟨j, hj, _⟩ := Option.map_eq_some_iff.1 (show (Tryz.prog.info? 89).map (·.size) = some 2 by kernel_rfl)
  have L := Tryz.lays169
  have mixed : Tryz.prog.follows .mixedOrders = true := L.mixed
  have t72 : Tryz.prog.underlying 89 = _ := L.t72
  rw [show Tryz.lays169_ren.t 70 = 86 from rfl, show Tryz.lays169_ren.t 37 = 87 from rfl] at t72
  have a72 : ∀ w, (isAgg 89).run Tryz.prog w = _ := L.a72
  have z72 : ∀ w, (Go.sizeOf 89).run Tryz.prog w = _ := L.z72
  have u72 := run_underlying t72
  have t70 : Tryz.prog.underlying 86 = some (.pointer 89) := L.t70
  have a70 : ∀ w, (isAgg 86).run Tryz.prog w = _ := L.a70
  have z70 : ∀ w, (Go.sizeOf 86).run Tryz.prog w = _ := L.z70
  have u70 := run_underlying t70
  go_enter Tryz.func119, Tryz.ntmps119
  go_wp2
  rw [Lib.run_neq_ptr_same w _ t70 hj]
  go_wp2
  go_end0
  exact ⟨rfl, rfl⟩

set_option maxHeartbeats 1000000 in
set_option maxRecDepth 100000 in
theorem check_fresh_w (b : Nat) (w : World) (h0 : w.cell? ⟨b, 0, none⟩ = some (.pointer none)) (hsh : w.shape? b = some (89, 2)) (hfz : w.frozen? ⟨b, 0, none⟩ = false) :
    Calls Tryz.prog 119 #[.pointer (some ⟨b, 0, none⟩)] w fun e w' => e = .returned (.tuple #[]) ∧ w' = w.setCell ⟨b, 0, none⟩ (.pointer (some ⟨b, 0, none⟩)) := by
  obtain ⟨j, hj, hjs⟩ := Option.map_eq_some_iff.1 (show (Tryz.prog.info? 89).map (·.size) = some 2 by kernel_rfl)
  have L := Tryz.lays169
  have mixed : Tryz.prog.follows .mixedOrders = true := L.mixed
  have t72 : Tryz.prog.underlying 89 = _ := L.t72
  rw [show Tryz.lays169_ren.t 70 = 86 from rfl, show Tryz.lays169_ren.t 37 = 87 from rfl] at t72
  have a72 : ∀ w, (isAgg 89).run Tryz.prog w = _ := L.a72
  have z72 : ∀ w, (Go.sizeOf 89).run Tryz.prog w = _ := L.z72
  have u72 := run_underlying t72
  have t70 : Tryz.prog.underlying 86 = some (.pointer 89) := L.t70
  have a70 : ∀ w, (isAgg 86).run Tryz.prog w = _ := L.a70
  have z70 : ∀ w, (Go.sizeOf 86).run Tryz.prog w = _ := L.z70
  have u70 := run_underlying t70
  have t164 : Tryz.prog.underlying 148 = some .unsafePointer := by kernel_rfl
  have u164 := run_underlying t164
  go_enter Tryz.func119, Tryz.ntmps119
  go_wp2
  rw [Lib.run_to_unsafe w ⟨b, 0, none⟩ t70 t164 hj (by rw [hjs]; decide) hsh (Nat.zero_lt_succ 1)]
  simp only [Result.andThen]
  rw [Oper.upon_value]
  go_wp2
  rw [run_callFunc_extern Tryz.func143 (by kernel_rfl) (by kernel_rfl) (by kernel_rfl) (e := Extern.AbiNoEscape.same) (by kernel_rfl)]
  rw [Lib.run_noEscape]
  simp only [Result.andThen]
  rw [Oper.upon_value]
  go_wp2
  rw [Lib.run_from_unsafe w ⟨b, 0, none⟩ t164 t70 hj hsh (by kernel_rfl)]
  simp only [Result.andThen]
  rw [Oper.upon_value]
  go_wp2
  go_end0
  exact ⟨rfl, rfl⟩

set_option maxHeartbeats 2000000 in
set_option maxRecDepth 100000 in
theorem str_w (b g cap : Nat) (p : Value) (l : List UInt8) (cur : Array Value) (fz : Nat × Nat) (w : World) (hbk : w.heap[b]? = some (.cells #[p, .slice (some ⟨g, 0, none⟩) l.length cap] 89 (0, 0)))
    (hg : w.heap[g]? = some (.cells cur 5 fz)) (h0 : l ≠ []) (hn : l.length ≤ cur.size) (hc : l.length ≤ cap) (h63 : l.length ≤ 140737488355328) (hcell : ∀ (j : Nat) (x : UInt8), l[j]? = some x → cur[j]? = some (Value.int .u8 (x.toNat : Int))) :
    Calls Tryz.prog 74 #[.pointer (some ⟨b, 0, none⟩)] w fun e w' => e = .returned (.string ⟨l.toArray⟩) ∧ w' = w.drew.freeze ⟨g, 0, none⟩ l.length := by
  have hl0 : l.length ≠ 0 := by simpa using h0
  have c1 : w.drew.cell? ⟨b, 1, none⟩ = some (.slice (some ⟨g, 0, none⟩) l.length cap) := by
    have : w.drew.heap[b]? = some (.cells #[p, .slice (some ⟨g, 0, none⟩) l.length cap] 89 (0, 0)) := hbk
    rw [Lib.cell_of_heap this]; rfl
  have hSD : (Builtin.unsafeSliceData_ #[87] 134 #[.slice (some ⟨g, 0, none⟩) l.length cap]).run Tryz.prog w.drew = .ok (.pointer (some ⟨g, 0, none⟩)) w.drew :=
    Lib.run_unsafeSliceData_row _ _ _ _ _ _ (by omega)
  have hg' : w.drew.heap[g]? = some (.cells cur 5 fz) := hg
  have hUS : (Builtin.unsafeString_ #[134, 3] 9 #[.pointer (some ⟨g, 0, none⟩), .int .i64 l.length]).run Tryz.prog w.drew = .ok (.string ⟨l.toArray⟩) (w.drew.freeze ⟨g, 0, none⟩ l.length) := by
    refine Lib.run_unsafeString_row w.drew 134 3 9 5 (by kernel_rfl) (by kernel_rfl) g cur.size (by simp [World.shape?, hg']) l h0 hn (by omega) ?_
    intro j x hx
    have e : (⟨g, 0, none⟩ : Addr).add j = ⟨g, j, none⟩ := by rw [addr_add_box]; simp
    rw [e]
    simp only [World.cell?, hg']
    simpa using hcell j x hx
  have L := Tryz.lays169
  have mixed : Tryz.prog.follows .mixedOrders = true := L.mixed
  have t72 : Tryz.prog.underlying 89 = _ := L.t72
  rw [show Tryz.lays169_ren.t 70 = 86 from rfl, show Tryz.lays169_ren.t 37 = 87 from rfl] at t72
  have a72 : ∀ w, (isAgg 89).run Tryz.prog w = _ := L.a72
  have z72 : ∀ w, (Go.sizeOf 89).run Tryz.prog w = _ := L.z72
  have u72 := run_underlying t72
  have t70 : Tryz.prog.underlying 86 = some (.pointer 89) := L.t70
  have a70 : ∀ w, (isAgg 86).run Tryz.prog w = _ := L.a70
  have z70 : ∀ w, (Go.sizeOf 86).run Tryz.prog w = _ := L.z70
  have u70 := run_underlying t70
  have t37 : Tryz.prog.underlying 87 = some (.slice 5) := L.t37
  have a37 : ∀ w, (isAgg 87).run Tryz.prog w = _ := L.a37
  have z37 : ∀ w, (Go.sizeOf 87).run Tryz.prog w = _ := L.z37
  have u37 := run_underlying t37
  go_enter Tryz.func74, Tryz.ntmps74
  go_wp2
  go_region_o
  all_goals (go_wp2; go_ret; exact ⟨rfl, rfl⟩)

set_option maxHeartbeats 2000000 in
set_option maxRecDepth 100000 in
theorem str_nil_w (b : Nat) (p : Value) (w : World) (hbk : w.heap[b]? = some (.cells #[p, .slice none 0 0] 89 (0, 0))) :
    Calls Tryz.prog 74 #[.pointer (some ⟨b, 0, none⟩)] w fun e w' => e = .returned (.string ⟨#[]⟩) ∧ w' = w.drew := by
  have hUS : ∀ (W : World) (q : Option Addr), (Builtin.unsafeString_ #[134, 3] 9 #[.pointer q, .int .i64 0]).run Tryz.prog W = .ok (.string .empty) W := fun W q => Lib.run_unsafeString_none W _ _ _ q
  have c1 : w.drew.cell? ⟨b, 1, none⟩ = some (.slice none 0 0) := by
    have : w.drew.heap[b]? = some (.cells #[p, .slice none 0 0] 89 (0, 0)) := hbk
    rw [Lib.cell_of_heap this]; rfl
  have hSD : (Builtin.unsafeSliceData_ #[87] 134 #[.slice none 0 0]).run Tryz.prog w.drew = .ok (.pointer none) w.drew := rfl
  have L := Tryz.lays169
  have mixed : Tryz.prog.follows .mixedOrders = true := L.mixed
  have t72 : Tryz.prog.underlying 89 = _ := L.t72
  rw [show Tryz.lays169_ren.t 70 = 86 from rfl, show Tryz.lays169_ren.t 37 = 87 from rfl] at t72
  have a72 : ∀ w, (isAgg 89).run Tryz.prog w = _ := L.a72
  have z72 : ∀ w, (Go.sizeOf 89).run Tryz.prog w = _ := L.z72
  have u72 := run_underlying t72
  have t70 : Tryz.prog.underlying 86 = some (.pointer 89) := L.t70
  have a70 : ∀ w, (isAgg 86).run Tryz.prog w = _ := L.a70
  have z70 : ∀ w, (Go.sizeOf 86).run Tryz.prog w = _ := L.z70
  have u70 := run_underlying t70
  have t37 : Tryz.prog.underlying 87 = some (.slice 5) := L.t37
  have a37 : ∀ w, (isAgg 87).run Tryz.prog w = _ := L.a37
  have z37 : ∀ w, (Go.sizeOf 87).run Tryz.prog w = _ := L.z37
  have u37 := run_underlying t37
  go_enter Tryz.func74, Tryz.ntmps74
  go_wp2
  go_region_o
  all_goals (go_wp2; go_ret; exact ⟨rfl, rfl⟩)
end Go.Proofs.YtccplhjglhdopaaGreatDoor

/-
  A slice that grows by append of some elements; bytes.
-/
namespace Go.Proofs.YtccplhjglhdopaaGreatDoor
open Go Go.Vcg
attribute [local irreducible] Br

abbrev bv (x : UInt8) : Value := .int .u8 (x.toNat : Int)

theorem bv_one (x : UInt8) : Go.Vcg.one (bv x) = true := rfl

theorem bv_of {c : Int} (h0 : 0 ≤ c) (h1 : c < 256) : Value.int .u8 c = bv (UInt8.ofNat c.toNat) := by
  unfold bv
  congr 1
  have e : (UInt8.ofNat c.toNat).toNat = c.toNat := UInt8.toNat_ofNat_of_lt' (by show c.toNat < 256; omega)
  rw [e]
  omega

section
variable {α : Type} {enc : α → Value} {ty : Nat} {h h' h'' : Heap} {A : Option Addr} {n c : Nat} {gs : List α}

/-- append of some elements. -/
theorem OwnE.appN {h4 : Heap} {z : α} {bs m : Nat} {vs : List Value} {zv : Value} {K : Option Addr → Nat → Heap → Prop} (ys : List α) (o : OwnE enc ty h h4 A n c gs) (hl : Le h h4) (h1 : ∀ y : α, Go.Vcg.one (enc y) = true) (hv : vs = ys.map enc) (hm : ys.length = m) (hm0 : 0 < m) (hz : zv = enc z) {g0 : Nat} (hg0 : h4 g0 = none) (hn : (n + m) * bs ≤ 140737488355328)
    (hK : ∀ A' c' h', OwnE enc ty h h' A' (n + m) c' (gs ++ ys) → Le h h' → (∀ k, k ≠ g0 → h4 k ≠ none → (∀ ad, A = some ad → k ≠ ad.block) → h' k = h4 k) → K A' c' h') :
    ∃ xs : List Value, RdS (h4.put g0 ⟨vs, ty, (0, 0)⟩) (some ⟨g0, 0, none⟩) (m * 1) xs ∧ (∀ y ∈ xs, Go.Vcg.one y = true) ∧
      (n + m ≤ c → ∃ (ad : Addr) (b : Blk), A = some ad ∧ ad.spot = none ∧ (h4.put g0 ⟨vs, ty, (0, 0)⟩) ad.block = some b ∧ b.fz = (0, 0) ∧ ad.off + n * 1 + m * 1 ≤ b.cells.length ∧
        ∀ h' : Heap, h' = Heap.put (h4.put g0 ⟨vs, ty, (0, 0)⟩) ad.block { b with cells := setSeg b.cells (ad.off + n * 1) xs } → K A c h') ∧
      (c < n + m → ∃ olds : List Value, RdS (h4.put g0 ⟨vs, ty, (0, 0)⟩) A (n * 1) olds ∧ (n + m) * bs ≤ 140737488355328 ∧
        ∀ (g1 cap : Nat) (h' : Heap), (h4.put g0 ⟨vs, ty, (0, 0)⟩) g1 = none → n + m ≤ cap → h' = Heap.put (h4.put g0 ⟨vs, ty, (0, 0)⟩) g1 ⟨olds ++ xs ++ repV [zv] (cap - (n + m)), ty, (0, 0)⟩ → K (some ⟨g1, 0, none⟩) cap h') := by
  subst hv hz
  obtain ⟨en, o⟩ := o
  have hg0h : h g0 = none := hl.free hg0
  refine ⟨ys.map enc, ⟨by simp [hm], fun _ => ⟨_, rfl, rfl, _, Heap.put_same _ _ _, by simp [List.take_of_length_le]⟩⟩, fun y hy => by obtain ⟨a, _, rfl⟩ := List.mem_map.1 hy; exact h1 a, fun hc => ?_, fun hc => ?_⟩
  · rcases o with ⟨_, _, e⟩ | ⟨g, zs, rfl, h0, hb, rfl⟩
    · omega
    · have hne : g ≠ g0 := fun e => by rw [e, hg0] at hb; cases hb
      have hzl : m ≤ zs.length := by simp at hc; omega
      refine ⟨_, _, rfl, rfl, (Heap.put_ne _ _ hne).trans hb, rfl, by simp; omega, ?_⟩
      rintro h' rfl
      have e : setSeg ((gs ++ zs).map enc) (0 + n * 1) (ys.map enc) = ((gs ++ ys) ++ zs.drop m).map enc := by
        unfold setSeg
        subst en
        have e1 : (gs ++ zs).map enc = gs.map enc ++ zs.map enc := by simp
        rw [e1, Nat.zero_add, Nat.mul_one, List.take_left' (by simp), List.length_map, hm, List.drop_append, List.drop_eq_nil_of_le (by simp)]
        simp
      refine hK _ _ _ ⟨by simp [en, hm], Or.inr ⟨g, zs.drop m, rfl, h0, ?_, by simp; omega⟩⟩ ((hl.put hg0h _).put h0 _) (fun k k0 _ kA => ?_)
      · rw [Heap.put_same]; simp only [e]
      · rw [Heap.put_ne _ _ (kA _ rfl), Heap.put_ne _ _ k0]
  · refine ⟨gs.map enc, ?_, hn, ?_⟩
    · refine ⟨by simp [en], fun h0 => ?_⟩
      rcases o with ⟨_, e, _⟩ | ⟨g, zs, rfl, h0, hb, _⟩
      · omega
      · have hne : g ≠ g0 := fun e => by rw [e, hg0] at hb; cases hb
        exact ⟨_, rfl, rfl, _, (Heap.put_ne _ _ hne).trans hb, by simp⟩
    · rintro g1 cap h' hg1 hcap rfl
      have hne : g1 ≠ g0 := fun e => by rw [e, Heap.put_same] at hg1; cases hg1
      have hg1' : h4 g1 = none := by rw [Heap.put_ne _ _ hne] at hg1; exact hg1
      refine hK _ _ _ ⟨by simp [en, hm], Or.inr ⟨g1, List.replicate (cap - (n + m)) z, rfl, hl.free hg1', ?_, by simp [en, hm]; omega⟩⟩ ((hl.put hg0h _).put (hl.free hg1') _) (fun k k0 kn _ => ?_)
      · rw [Heap.put_same, repV_map]; simp
      · rw [Heap.put_ne _ _ (fun e => kn (by rw [e]; exact hg1')), Heap.put_ne _ _ k0]
end
end Go.Proofs.YtccplhjglhdopaaGreatDoor

/- Made by vcgen.py: verification conditions of functions, each held against the calculator by the kernel. -/
namespace Go.Proofs.YtccplhjglhdopaaGreatDoor
open Go Go.Vcg

def strings_Builder_WriteByte_vc (b : Addr) (c : Int) (h : Heap) (R : Value → Heap → Prop) : Prop :=
 CallsU Tryz.prog 119 [Value.pointer (some b)] h fun v h_1 =>
 v = Value.tuple #[] ∧
 ∃ t11A : Option Addr, ∃ t11n t11c : Nat, LdN h_1 (Addr.add b 1) [Value.slice t11A t11n t11c] ∧
 ∀ (g : Nat) (h_2 : Heap), h_1 g = none → h_2 = Heap.put h_1 g ⟨[Value.int .u8 c], 5, (0, 0)⟩ →
 ∃ xs : List Value, RdS h_2 (some ⟨g, 0, none⟩) (1 * 1) xs ∧ (∀ x ∈ xs, one x = true) ∧
 (t11n + 1 ≤ t11c → ∃ (ad : Addr) (b_1 : Blk), t11A = some ad ∧ ad.spot = none ∧ h_2 ad.block = some b_1 ∧ b_1.fz = (0, 0) ∧ ad.off + t11n * 1 + 1 * 1 ≤ b_1.cells.length ∧
 ∀ h_4 : Heap, h_4 = Heap.put h_2 ad.block { b_1 with cells := setSeg b_1.cells (ad.off + t11n * 1) xs } →
 ∃ b_2 : Blk, h_4 (Addr.block (Addr.add b 1)) = some b_2 ∧ b_2.fz = (0, 0) ∧ Addr.spot (Addr.add b 1) = none ∧ Addr.off (Addr.add b 1) + 1 ≤ b_2.cells.length ∧
 ∀ h_6 : Heap, h_6 = Heap.put h_4 (Addr.block (Addr.add b 1)) { b_2 with cells := setSeg b_2.cells (Addr.off (Addr.add b 1)) [Value.slice t11A (t11n + 1) t11c] } →
 R (Value.nilIface) h_6) ∧
 (t11c < t11n + 1 → ∃ olds : List Value, RdS h_2 t11A (t11n * 1) olds ∧ (t11n + 1) * 1 ≤ 140737488355328 ∧
 ∀ (g_1 cap : Nat) (h_5 : Heap), h_2 g_1 = none → t11n + 1 ≤ cap → h_5 = Heap.put h_2 g_1 ⟨olds ++ xs ++ repV [Value.int .u8 0] (cap - (t11n + 1)), 5, (0, 0)⟩ →
 ∃ b_3 : Blk, h_5 (Addr.block (Addr.add b 1)) = some b_3 ∧ b_3.fz = (0, 0) ∧ Addr.spot (Addr.add b 1) = none ∧ Addr.off (Addr.add b 1) + 1 ≤ b_3.cells.length ∧
 ∀ h_7 : Heap, h_7 = Heap.put h_5 (Addr.block (Addr.add b 1)) { b_3 with cells := setSeg b_3.cells (Addr.off (Addr.add b 1)) [Value.slice (some ⟨g_1, 0, none⟩) (t11n + 1) cap] } →
 R (Value.nilIface) h_7)

set_option maxRecDepth 100000 in
theorem strings_Builder_WriteByte_ok {b : Addr} {c : Int} {h : Heap} {R : Value → Heap → Prop} (hv : strings_Builder_WriteByte_vc b c h R) : CallsU Tryz.prog 73 [Value.pointer (some b), Value.int .u8 c] h R :=
  fn_sound Tryz.func73 (by kernel_rfl) (by kernel_rfl) (by kernel_rfl) (fun _ => false) .nil [Value.pointer (some b), Value.int .u8 c] h R (by kernel_rfl)
    (Eq.mp (show strings_Builder_WriteByte_vc b c h R = fnV Tryz.prog Tryz.f73 (fun _ => false) .nil [Value.pointer (some b), Value.int .u8 c] h R by kernel_rfl) hv)

def strings_Builder_WriteRune_vc (b : Addr) (r : Int) (h : Heap) (R : Value → Heap → Prop) : Prop :=
 CallsU Tryz.prog 119 [Value.pointer (some b)] h fun v h_1 =>
 v = Value.tuple #[] ∧
 ∃ t12A : Option Addr, ∃ t12n t12c : Nat, LdN h_1 (Addr.add b 1) [Value.slice t12A t12n t12c] ∧
 ∃ t18A : Option Addr, ∃ t18n t18c : Nat, LdN h_1 (Addr.add b 1) [Value.slice t18A t18n t18c] ∧
 CallsU Tryz.prog 120 [Value.slice t18A t18n t18c, Value.int .i32 r] h_1 fun v_1 h_2 =>
 ∃ t20A : Option Addr, ∃ t20n t20c : Nat, v_1 = Value.slice t20A t20n t20c ∧
 ∃ b_1 : Blk, h_2 (Addr.block (Addr.add b 1)) = some b_1 ∧ b_1.fz = (0, 0) ∧ Addr.spot (Addr.add b 1) = none ∧ Addr.off (Addr.add b 1) + 1 ≤ b_1.cells.length ∧
 ∀ h_3 : Heap, h_3 = Heap.put h_2 (Addr.block (Addr.add b 1)) { b_1 with cells := setSeg b_1.cells (Addr.off (Addr.add b 1)) [Value.slice t20A t20n t20c] } →
 ∃ t26A : Option Addr, ∃ t26n t26c : Nat, LdN h_3 (Addr.add b 1) [Value.slice t26A t26n t26c] ∧
 ∀ t29 : Int, t29 = IntKind.i64.wrap (((t26n : Nat) : Int) - ((t12n : Nat) : Int)) →
 R (Value.tuple #[Value.int .i64 t29, Value.nilIface]) h_3

set_option maxRecDepth 100000 in
theorem strings_Builder_WriteRune_ok {b : Addr} {r : Int} {h : Heap} {R : Value → Heap → Prop} (hv : strings_Builder_WriteRune_vc b r h R) : CallsU Tryz.prog 72 [Value.pointer (some b), Value.int .i32 r] h R :=
  fn_sound Tryz.func72 (by kernel_rfl) (by kernel_rfl) (by kernel_rfl) (fun _ => false) .nil [Value.pointer (some b), Value.int .i32 r] h R (by kernel_rfl)
    (Eq.mp (show strings_Builder_WriteRune_vc b r h R = fnV Tryz.prog Tryz.f72 (fun _ => false) .nil [Value.pointer (some b), Value.int .i32 r] h R by kernel_rfl) hv)

def strings_Builder_Len_vc (b : Addr) (h : Heap) (R : Value → Heap → Prop) : Prop :=
 ∃ t6A : Option Addr, ∃ t6n t6c : Nat, LdN h (Addr.add b 1) [Value.slice t6A t6n t6c] ∧
 R (Value.int .i64 ((t6n : Nat) : Int)) h

set_option maxRecDepth 100000 in
theorem strings_Builder_Len_ok {b : Addr} {h : Heap} {R : Value → Heap → Prop} (hv : strings_Builder_Len_vc b h R) : CallsU Tryz.prog 132 [Value.pointer (some b)] h R :=
  fn_sound Tryz.func132 (by kernel_rfl) (by kernel_rfl) (by kernel_rfl) (fun _ => false) .nil [Value.pointer (some b)] h R (by kernel_rfl)
    (Eq.mp (show strings_Builder_Len_vc b h R = fnV Tryz.prog Tryz.f132 (fun _ => false) .nil [Value.pointer (some b)] h R by kernel_rfl) hv)

def unicode_utf8_AppendRune_vc (pA : Option Addr) (pn pc : Nat) (r : Int) (h : Heap) (R : Value → Heap → Prop) : Prop :=
 Br (decide (IntKind.u32.wrap r ≤ 127))
  (∀ (g : Nat) (h_1 : Heap), h g = none → h_1 = Heap.put h g ⟨[Value.int .u8 (IntKind.u8.wrap r)], 5, (0, 0)⟩ →
 ∃ xs : List Value, RdS h_1 (some ⟨g, 0, none⟩) (1 * 1) xs ∧ (∀ x ∈ xs, one x = true) ∧
 (pn + 1 ≤ pc → ∃ (ad : Addr) (b : Blk), pA = some ad ∧ ad.spot = none ∧ h_1 ad.block = some b ∧ b.fz = (0, 0) ∧ ad.off + pn * 1 + 1 * 1 ≤ b.cells.length ∧
 ∀ h_3 : Heap, h_3 = Heap.put h_1 ad.block { b with cells := setSeg b.cells (ad.off + pn * 1) xs } →
 R (Value.slice pA (pn + 1) pc) h_3) ∧
 (pc < pn + 1 → ∃ olds : List Value, RdS h_1 pA (pn * 1) olds ∧ (pn + 1) * 1 ≤ 140737488355328 ∧
 ∀ (g_1 cap : Nat) (h_4 : Heap), h_1 g_1 = none → pn + 1 ≤ cap → h_4 = Heap.put h_1 g_1 ⟨olds ++ xs ++ repV [Value.int .u8 0] (cap - (pn + 1)), 5, (0, 0)⟩ →
 R (Value.slice (some ⟨g_1, 0, none⟩) (pn + 1) cap) h_4))
  (CallsU Tryz.prog 144 [Value.slice pA pn pc, Value.int .i32 r] h fun v_1 h_5 =>
 ∃ t15A : Option Addr, ∃ t15n t15c : Nat, v_1 = Value.slice t15A t15n t15c ∧
 R (Value.slice t15A t15n t15c) h_5)

set_option maxRecDepth 100000 in
theorem unicode_utf8_AppendRune_ok {pA : Option Addr} {pn pc : Nat} {r : Int} {h : Heap} {R : Value → Heap → Prop} (hv : unicode_utf8_AppendRune_vc pA pn pc r h R) : CallsU Tryz.prog 120 [Value.slice pA pn pc, Value.int .i32 r] h R :=
  fn_sound Tryz.func120 (by kernel_rfl) (by kernel_rfl) (by kernel_rfl) (fun _ => false) .nil [Value.slice pA pn pc, Value.int .i32 r] h R (by kernel_rfl)
    (Eq.mp (show unicode_utf8_AppendRune_vc pA pn pc r h R = fnV Tryz.prog Tryz.f120 (fun _ => false) .nil [Value.slice pA pn pc, Value.int .i32 r] h R by kernel_rfl) hv)

def unicode_utf8_appendRuneNonASCII_vc (pA : Option Addr) (pn pc : Nat) (r : Int) (h : Heap) (R : Value → Heap → Prop) : Prop :=
 Br (decide (IntKind.u32.wrap r ≤ 2047))
  (∀ t16 : Int, t16 = (Int.fdiv r (2 ^ (6 : Nat))) →
 ∀ t18 : Int, t18 = bitsOf .or .u8 192 (IntKind.u8.wrap t16) →
 ∀ t21 : Int, t21 = bitsOf .and .u8 (IntKind.u8.wrap r) 63 →
 ∀ t22 : Int, t22 = bitsOf .or .u8 128 t21 →
 ∀ (g : Nat) (h_1 : Heap), h g = none → h_1 = Heap.put h g ⟨[Value.int .u8 t18, Value.int .u8 t22], 5, (0, 0)⟩ →
 ∃ xs : List Value, RdS h_1 (some ⟨g, 0, none⟩) (2 * 1) xs ∧ (∀ x ∈ xs, one x = true) ∧
 (pn + 2 ≤ pc → ∃ (ad : Addr) (b : Blk), pA = some ad ∧ ad.spot = none ∧ h_1 ad.block = some b ∧ b.fz = (0, 0) ∧ ad.off + pn * 1 + 2 * 1 ≤ b.cells.length ∧
 ∀ h_3 : Heap, h_3 = Heap.put h_1 ad.block { b with cells := setSeg b.cells (ad.off + pn * 1) xs } →
 R (Value.slice pA (pn + 2) pc) h_3) ∧
 (pc < pn + 2 → ∃ olds : List Value, RdS h_1 pA (pn * 1) olds ∧ (pn + 2) * 1 ≤ 140737488355328 ∧
 ∀ (g_1 cap : Nat) (h_4 : Heap), h_1 g_1 = none → pn + 2 ≤ cap → h_4 = Heap.put h_1 g_1 ⟨olds ++ xs ++ repV [Value.int .u8 0] (cap - (pn + 2)), 5, (0, 0)⟩ →
 R (Value.slice (some ⟨g_1, 0, none⟩) (pn + 2) cap) h_4))
  (∃ C : Bool → Heap → Prop, (∀ (t25 : Bool) (h_5 : Heap), C t25 h_5 →
 Br (t25)
  (∀ t36 : Int, t36 = (Int.fdiv r (2 ^ (12 : Nat))) →
 ∀ t38 : Int, t38 = bitsOf .or .u8 224 (IntKind.u8.wrap t36) →
 ∀ t40 : Int, t40 = (Int.fdiv r (2 ^ (6 : Nat))) →
 ∀ t42 : Int, t42 = bitsOf .and .u8 (IntKind.u8.wrap t40) 63 →
 ∀ t43 : Int, t43 = bitsOf .or .u8 128 t42 →
 ∀ t46 : Int, t46 = bitsOf .and .u8 (IntKind.u8.wrap r) 63 →
 ∀ t47 : Int, t47 = bitsOf .or .u8 128 t46 →
 ∀ (g_2 : Nat) (h_6 : Heap), h_5 g_2 = none → h_6 = Heap.put h_5 g_2 ⟨[Value.int .u8 t38, Value.int .u8 t43, Value.int .u8 t47], 5, (0, 0)⟩ →
 ∃ xs_1 : List Value, RdS h_6 (some ⟨g_2, 0, none⟩) (3 * 1) xs_1 ∧ (∀ x ∈ xs_1, one x = true) ∧
 (pn + 3 ≤ pc → ∃ (ad_1 : Addr) (b_1 : Blk), pA = some ad_1 ∧ ad_1.spot = none ∧ h_6 ad_1.block = some b_1 ∧ b_1.fz = (0, 0) ∧ ad_1.off + pn * 1 + 3 * 1 ≤ b_1.cells.length ∧
 ∀ h_8 : Heap, h_8 = Heap.put h_6 ad_1.block { b_1 with cells := setSeg b_1.cells (ad_1.off + pn * 1) xs_1 } →
 R (Value.slice pA (pn + 3) pc) h_8) ∧
 (pc < pn + 3 → ∃ olds_1 : List Value, RdS h_6 pA (pn * 1) olds_1 ∧ (pn + 3) * 1 ≤ 140737488355328 ∧
 ∀ (g_3 cap_1 : Nat) (h_9 : Heap), h_6 g_3 = none → pn + 3 ≤ cap_1 → h_9 = Heap.put h_6 g_3 ⟨olds_1 ++ xs_1 ++ repV [Value.int .u8 0] (cap_1 - (pn + 3)), 5, (0, 0)⟩ →
 R (Value.slice (some ⟨g_3, 0, none⟩) (pn + 3) cap_1) h_9))
  (∃ C_1 : Bool → Heap → Prop, (∀ (t50 : Bool) (h_10 : Heap), C_1 t50 h_10 →
 Br (t50)
  (∀ t59 : Int, t59 = (Int.fdiv r (2 ^ (18 : Nat))) →
 ∀ t61 : Int, t61 = bitsOf .or .u8 240 (IntKind.u8.wrap t59) →
 ∀ t63 : Int, t63 = (Int.fdiv r (2 ^ (12 : Nat))) →
 ∀ t65 : Int, t65 = bitsOf .and .u8 (IntKind.u8.wrap t63) 63 →
 ∀ t66 : Int, t66 = bitsOf .or .u8 128 t65 →
 ∀ t68 : Int, t68 = (Int.fdiv r (2 ^ (6 : Nat))) →
 ∀ t70 : Int, t70 = bitsOf .and .u8 (IntKind.u8.wrap t68) 63 →
 ∀ t71 : Int, t71 = bitsOf .or .u8 128 t70 →
 ∀ t74 : Int, t74 = bitsOf .and .u8 (IntKind.u8.wrap r) 63 →
 ∀ t75 : Int, t75 = bitsOf .or .u8 128 t74 →
 ∀ (g_4 : Nat) (h_11 : Heap), h_10 g_4 = none → h_11 = Heap.put h_10 g_4 ⟨[Value.int .u8 t61, Value.int .u8 t66, Value.int .u8 t71, Value.int .u8 t75], 5, (0, 0)⟩ →
 ∃ xs_2 : List Value, RdS h_11 (some ⟨g_4, 0, none⟩) (4 * 1) xs_2 ∧ (∀ x ∈ xs_2, one x = true) ∧
 (pn + 4 ≤ pc → ∃ (ad_2 : Addr) (b_2 : Blk), pA = some ad_2 ∧ ad_2.spot = none ∧ h_11 ad_2.block = some b_2 ∧ b_2.fz = (0, 0) ∧ ad_2.off + pn * 1 + 4 * 1 ≤ b_2.cells.length ∧
 ∀ h_13 : Heap, h_13 = Heap.put h_11 ad_2.block { b_2 with cells := setSeg b_2.cells (ad_2.off + pn * 1) xs_2 } →
 R (Value.slice pA (pn + 4) pc) h_13) ∧
 (pc < pn + 4 → ∃ olds_2 : List Value, RdS h_11 pA (pn * 1) olds_2 ∧ (pn + 4) * 1 ≤ 140737488355328 ∧
 ∀ (g_5 cap_2 : Nat) (h_14 : Heap), h_11 g_5 = none → pn + 4 ≤ cap_2 → h_14 = Heap.put h_11 g_5 ⟨olds_2 ++ xs_2 ++ repV [Value.int .u8 0] (cap_2 - (pn + 4)), 5, (0, 0)⟩ →
 R (Value.slice (some ⟨g_5, 0, none⟩) (pn + 4) cap_2) h_14))
  (∀ (g_6 : Nat) (h_15 : Heap), h_10 g_6 = none → h_15 = Heap.put h_10 g_6 ⟨[Value.int .u8 239, Value.int .u8 191, Value.int .u8 189], 5, (0, 0)⟩ →
 ∃ xs_3 : List Value, RdS h_15 (some ⟨g_6, 0, none⟩) (3 * 1) xs_3 ∧ (∀ x ∈ xs_3, one x = true) ∧
 (pn + 3 ≤ pc → ∃ (ad_3 : Addr) (b_3 : Blk), pA = some ad_3 ∧ ad_3.spot = none ∧ h_15 ad_3.block = some b_3 ∧ b_3.fz = (0, 0) ∧ ad_3.off + pn * 1 + 3 * 1 ≤ b_3.cells.length ∧
 ∀ h_17 : Heap, h_17 = Heap.put h_15 ad_3.block { b_3 with cells := setSeg b_3.cells (ad_3.off + pn * 1) xs_3 } →
 R (Value.slice pA (pn + 3) pc) h_17) ∧
 (pc < pn + 3 → ∃ olds_3 : List Value, RdS h_15 pA (pn * 1) olds_3 ∧ (pn + 3) * 1 ≤ 140737488355328 ∧
 ∀ (g_7 cap_3 : Nat) (h_18 : Heap), h_15 g_7 = none → pn + 3 ≤ cap_3 → h_18 = Heap.put h_15 g_7 ⟨olds_3 ++ xs_3 ++ repV [Value.int .u8 0] (cap_3 - (pn + 3)), 5, (0, 0)⟩ →
 R (Value.slice (some ⟨g_7, 0, none⟩) (pn + 3) cap_3) h_18))) ∧
 Br (decide (IntKind.u32.wrap r > 65535))
  (C_1 (decide (IntKind.u32.wrap r ≤ 1114111)) h_5)
  (C_1 false h_5))) ∧
 Br (decide (IntKind.u32.wrap r < 55296))
  (C (decide (IntKind.u32.wrap r < 55296)) h)
  (Br (decide ((57343 : Int) < IntKind.u32.wrap r))
  (C (decide (IntKind.u32.wrap r ≤ 65535)) h)
  (C false h)))

set_option maxRecDepth 100000 in
theorem unicode_utf8_appendRuneNonASCII_ok {pA : Option Addr} {pn pc : Nat} {r : Int} {h : Heap} {R : Value → Heap → Prop} (hv : unicode_utf8_appendRuneNonASCII_vc pA pn pc r h R) : CallsU Tryz.prog 144 [Value.slice pA pn pc, Value.int .i32 r] h R :=
  fn_sound Tryz.func144 (by kernel_rfl) (by kernel_rfl) (by kernel_rfl) (fun _ => false) (.two .nil (.two .nil (.one (.two .nil (.two .nil (.cut ⟨[(25, Sh.bool)], []⟩ .nil (.two .nil (.cut ⟨[(50, Sh.bool)], []⟩ .nil .nil)))))))) [Value.slice pA pn pc, Value.int .i32 r] h R (by kernel_rfl)
    (Eq.mp (show unicode_utf8_appendRuneNonASCII_vc pA pn pc r h R = fnV Tryz.prog Tryz.f144 (fun _ => false) (.two .nil (.two .nil (.one (.two .nil (.two .nil (.cut ⟨[(25, Sh.bool)], []⟩ .nil (.two .nil (.cut ⟨[(50, Sh.bool)], []⟩ .nil .nil)))))))) [Value.slice pA pn pc, Value.int .i32 r] h R by kernel_rfl) hv)

end Go.Proofs.YtccplhjglhdopaaGreatDoor

/-
  Contracts: utf8.appendRuneNonASCII, AppendRune; strings.Builder: copyCheck, WriteByte, WriteRune, String.
-/
namespace Go.Proofs.YtccplhjglhdopaaGreatDoor
open Go Go.Vcg
attribute [local irreducible] Br

theorem or_high {a x : Int} (ha : a = 128 ∨ a = 192 ∨ a = 224 ∨ a = 240) : ∃ y : UInt8, Value.int .u8 (bitsOf .or .u8 a x) = bv y ∧ 128 ≤ y.toNat := by
  have key : ∀ y : BitVec 8, 128 ≤ (BitVec.ofNat 8 128 ||| y).toNat ∧ 128 ≤ (BitVec.ofNat 8 192 ||| y).toNat ∧ 128 ≤ (BitVec.ofNat 8 224 ||| y).toNat ∧ 128 ≤ (BitVec.ofNat 8 240 ||| y).toNat := by decide
  have k := key (BitVec.ofInt 8 x)
  have e : ∀ n : Nat, n < 256 → IntKind.u8.wrap (n : Int) = (n : Int) := fun n hn => by rw [IntKind.wrap_u8]; omega
  have gen : ∀ b : BitVec 8, BitVec.ofInt 8 a = b → 128 ≤ (b ||| BitVec.ofInt 8 x).toNat → ∃ y : UInt8, Value.int .u8 (bitsOf .or .u8 a x) = bv y ∧ 128 ≤ y.toNat := fun b hb hk => by
    have hlt := (b ||| BitVec.ofInt 8 x).isLt
    have hw : bitsOf .or .u8 a x = (((b ||| BitVec.ofInt 8 x).toNat : Nat) : Int) := by
      show IntKind.u8.wrap (((BitVec.ofInt 8 a ||| BitVec.ofInt 8 x).toNat : Nat) : Int) = _
      rw [hb, e _ (by omega)]
    have hn : (UInt8.ofNat (b ||| BitVec.ofInt 8 x).toNat).toNat = (b ||| BitVec.ofInt 8 x).toNat := UInt8.toNat_ofNat_of_lt' hlt
    refine ⟨UInt8.ofNat (b ||| BitVec.ofInt 8 x).toNat, ?_, by rw [hn]; exact hk⟩
    rw [hw]
    unfold bv
    rw [hn]
  rcases ha with rfl | rfl | rfl | rfl
  · exact gen (BitVec.ofNat 8 128) rfl k.1
  · exact gen (BitVec.ofNat 8 192) rfl k.2.1
  · exact gen (BitVec.ofNat 8 224) rfl k.2.2.1
  · exact gen (BitVec.ofNat 8 240) rfl k.2.2.2

/-- What stays: all but the slice's own block. -/
def Stays (h h' : Heap) (A : Option Addr) : Prop := ∀ k, h k ≠ none → (∀ ad, A = some ad → k ≠ ad.block) → h' k = h k

theorem runeNA_c {h0 h : Heap} {A : Option Addr} {n c : Nat} {gs : List UInt8} (r : Int) (o : OwnE bv 5 h0 h A n c gs) (hl : Le h0 h) (hn : n + 4 ≤ 140737488355328) :
    CallsU Tryz.prog 144 [.slice A n c, .int .i32 r] h fun v h' => ∃ A' n' c' ys, v = .slice A' n' c' ∧ OwnE bv 5 h0 h' A' n' c' (gs ++ ys) ∧ ys ≠ [] ∧ (∀ y ∈ ys, 128 ≤ y.toNat) ∧ ys.length ≤ 4 ∧ Le h0 h' ∧ Stays h h' A := by
  have stays : ∀ {g0 : Nat} {h' : Heap}, h g0 = none → (∀ k, k ≠ g0 → h k ≠ none → (∀ ad, A = some ad → k ≠ ad.block) → h' k = h k) → Stays h h' A := fun hg q k hk ha => q k (fun e => by subst e; exact hk hg) hk ha
  apply unicode_utf8_appendRuneNonASCII_ok
  refine Br.mk (fun q => ?_) (fun q => ?_)
  · rintro _ rfl t18 e18 _ rfl t22 e22 g _ hg rfl
    obtain ⟨y1, f1, b1⟩ := or_high (a := 192) (x := IntKind.u8.wrap (Int.fdiv r (2 ^ (6 : Nat)))) (by simp)
    obtain ⟨y2, f2, b2⟩ := or_high (a := 128) (x := bitsOf .and .u8 (IntKind.u8.wrap r) 63) (by simp)
    rw [← e18] at f1
    rw [← e22] at f2
    refine OwnE.appN (m := 2) (z := 0) (K := fun A' c' h' => ∃ A'' n' c'' ys, Value.slice A' (n + 2) c' = .slice A'' n' c'' ∧ OwnE bv 5 h0 h' A'' n' c'' (gs ++ ys) ∧ ys ≠ [] ∧ (∀ y ∈ ys, 128 ≤ y.toNat) ∧ ys.length ≤ 4 ∧ Le h0 h' ∧ Stays h h' A) [y1, y2] o hl bv_one (by rw [f1, f2]; rfl) rfl (by omega) rfl hg (by omega) ?_
    intro A' c' h' o' l' s'
    exact ⟨_, _, _, _, rfl, o', by simp, by simp; omega, by simp, l', stays hg s'⟩
  · refine ⟨fun _ h' => h = h', ?_, Br.mk (fun _ => rfl) (fun _ => Br.mk (fun _ => rfl) (fun _ => rfl))⟩
    rintro t25 _ rfl
    refine Br.mk (fun q2 => ?_) (fun q2 => ?_)
    · rintro _ rfl t38 e38 _ rfl _ rfl t43 e43 _ rfl t47 e47 g _ hg rfl
      obtain ⟨y1, f1, b1⟩ := or_high (a := 224) (x := IntKind.u8.wrap (Int.fdiv r (2 ^ (12 : Nat)))) (by simp)
      obtain ⟨y2, f2, b2⟩ := or_high (a := 128) (x := bitsOf .and .u8 (IntKind.u8.wrap (Int.fdiv r (2 ^ (6 : Nat)))) 63) (by simp)
      obtain ⟨y3, f3, b3⟩ := or_high (a := 128) (x := bitsOf .and .u8 (IntKind.u8.wrap r) 63) (by simp)
      rw [← e38] at f1
      rw [← e43] at f2
      rw [← e47] at f3
      refine OwnE.appN (m := 3) (z := 0) (K := fun A' c' h' => ∃ A'' n' c'' ys, Value.slice A' (n + 3) c' = .slice A'' n' c'' ∧ OwnE bv 5 h0 h' A'' n' c'' (gs ++ ys) ∧ ys ≠ [] ∧ (∀ y ∈ ys, 128 ≤ y.toNat) ∧ ys.length ≤ 4 ∧ Le h0 h' ∧ Stays h h' A) [y1, y2, y3] o hl bv_one (by rw [f1, f2, f3]; rfl) rfl (by omega) rfl hg (by omega) ?_
      intro A' c' h' o' l' s'
      exact ⟨_, _, _, _, rfl, o', by simp, by simp; omega, by simp, l', stays hg s'⟩
    · refine ⟨fun _ h' => h = h', ?_, Br.mk (fun _ => rfl) (fun _ => rfl)⟩
      rintro t50 _ rfl
      refine Br.mk (fun q3 => ?_) (fun q3 => ?_)
      · rintro _ rfl t61 e61 _ rfl _ rfl t66 e66 _ rfl _ rfl t71 e71 _ rfl t75 e75 g _ hg rfl
        obtain ⟨y1, f1, b1⟩ := or_high (a := 240) (x := IntKind.u8.wrap (Int.fdiv r (2 ^ (18 : Nat)))) (by simp)
        obtain ⟨y2, f2, b2⟩ := or_high (a := 128) (x := bitsOf .and .u8 (IntKind.u8.wrap (Int.fdiv r (2 ^ (12 : Nat)))) 63) (by simp)
        obtain ⟨y3, f3, b3⟩ := or_high (a := 128) (x := bitsOf .and .u8 (IntKind.u8.wrap (Int.fdiv r (2 ^ (6 : Nat)))) 63) (by simp)
        obtain ⟨y4, f4, b4⟩ := or_high (a := 128) (x := bitsOf .and .u8 (IntKind.u8.wrap r) 63) (by simp)
        rw [← e61] at f1
        rw [← e66] at f2
        rw [← e71] at f3
        rw [← e75] at f4
        refine OwnE.appN (m := 4) (z := 0) (K := fun A' c' h' => ∃ A'' n' c'' ys, Value.slice A' (n + 4) c' = .slice A'' n' c'' ∧ OwnE bv 5 h0 h' A'' n' c'' (gs ++ ys) ∧ ys ≠ [] ∧ (∀ y ∈ ys, 128 ≤ y.toNat) ∧ ys.length ≤ 4 ∧ Le h0 h' ∧ Stays h h' A) [y1, y2, y3, y4] o hl bv_one (by rw [f1, f2, f3, f4]; rfl) rfl (by omega) rfl hg (by omega) ?_
        intro A' c' h' o' l' s'
        exact ⟨_, _, _, _, rfl, o', by simp, by simp; omega, by simp, l', stays hg s'⟩
      · rintro g _ hg rfl
        refine OwnE.appN (m := 3) (z := 0) (K := fun A' c' h' => ∃ A'' n' c'' ys, Value.slice A' (n + 3) c' = .slice A'' n' c'' ∧ OwnE bv 5 h0 h' A'' n' c'' (gs ++ ys) ∧ ys ≠ [] ∧ (∀ y ∈ ys, 128 ≤ y.toNat) ∧ ys.length ≤ 4 ∧ Le h0 h' ∧ Stays h h' A) [239, 191, 189] o hl bv_one rfl rfl (by omega) rfl hg (by omega) ?_
        intro A' c' h' o' l' s'
        exact ⟨_, _, _, _, rfl, o', by simp, by decide, by simp, l', stays hg s'⟩

/-- The bytes that are appended for a rune: itself below 128, else some from 128 on. -/
def RuneB (r : Int) (ys : List UInt8) : Prop := (0 ≤ r ∧ r < 128 ∧ ys = [UInt8.ofNat r.toNat]) ∨ ((r < 0 ∨ 128 ≤ r) ∧ ys ≠ [] ∧ (∀ y ∈ ys, 128 ≤ y.toNat) ∧ ys.length ≤ 4)

theorem rune_c {h0 h : Heap} {A : Option Addr} {n c : Nat} {gs : List UInt8} (r : Int) (hr0 : -2147483648 ≤ r) (hr1 : r < 2147483648) (o : OwnE bv 5 h0 h A n c gs) (hl : Le h0 h) (hn : n + 4 ≤ 140737488355328) :
    CallsU Tryz.prog 120 [.slice A n c, .int .i32 r] h fun v h' => ∃ A' n' c' ys, v = .slice A' n' c' ∧ OwnE bv 5 h0 h' A' n' c' (gs ++ ys) ∧ RuneB r ys ∧ Le h0 h' ∧ Stays h h' A := by
  apply unicode_utf8_AppendRune_ok
  have hw : IntKind.u32.wrap r ≤ 127 ↔ 0 ≤ r ∧ r < 128 := by rw [IntKind.wrap_u32]; omega
  refine Br.mk (fun q => ?_) (fun q => ?_)
  · have hr := hw.1 (of_decide_eq_true q)
    rintro g _ hg rfl
    have e : IntKind.u8.wrap r = r := by rw [IntKind.wrap_u8]; omega
    rw [e]
    refine OwnE.appN (m := 1) (z := 0) (K := fun A' c' h' => ∃ A'' n' c'' ys, Value.slice A' (n + 1) c' = .slice A'' n' c'' ∧ OwnE bv 5 h0 h' A'' n' c'' (gs ++ ys) ∧ RuneB r ys ∧ Le h0 h' ∧ Stays h h' A) [UInt8.ofNat r.toNat] o hl bv_one (by rw [bv_of hr.1 (by omega)]; rfl) rfl (by omega) rfl hg (by omega) ?_
    intro A' c' h' o' l' s'
    exact ⟨_, _, _, _, rfl, o', .inl ⟨hr.1, hr.2, rfl⟩, l', fun k hk ha => s' k (fun e => by subst e; exact hk hg) hk ha⟩
  · have hr : ¬ (0 ≤ r ∧ r < 128) := fun q2 => of_decide_eq_false q (hw.2 q2)
    refine (runeNA_c r o hl hn).mono ?_
    rintro _ h' ⟨A', n', c', ys, rfl, a, b, d, e, f, g⟩
    exact ⟨_, _, _, rfl, _, _, _, _, rfl, a, .inr ⟨by omega, b, d, e⟩, f, g⟩
end Go.Proofs.YtccplhjglhdopaaGreatDoor

/-
  Contracts: strings.Builder: copyCheck, WriteByte, WriteRune, String, as a builder b whose bytes lie in the block q.
-/
namespace Go.Proofs.YtccplhjglhdopaaGreatDoor
open Go Go.Vcg
attribute [local irreducible] Br

def adQ (q : Option Nat) : Option Addr := q.map fun g => ⟨g, 0, none⟩

def bdB (p : Option Addr) (q : Option Nat) (n c : Nat) : Blk := ⟨[.pointer p, .slice (adQ q) n c], 89, (0, 0)⟩

structure IsB (h : Heap) (b : Nat) (q : Option Nat) (gs : List UInt8) : Prop where
  blk : ∃ p c, h b = some (bdB p q gs.length c) ∧ (p = none ∨ p = some ⟨b, 0, none⟩) ∧ (q = none → gs = [] ∧ c = 0) ∧ ∀ g, q = some g → ∃ zs, h g = some ⟨(gs ++ zs).map bv, 5, (0, 0)⟩ ∧ c = (gs ++ zs).length

/-- What stays beside a builder. -/
def Rest (h h' : Heap) (b : Nat) (q q' : Option Nat) : Prop := (∀ k x, h k = some x → k ≠ b → q ≠ some k → h' k = some x) ∧ (∀ g, q' = some g → q = some g ∨ h g = none)

theorem bcheck_c {h : Heap} {b : Nat} {p : Option Addr} {q : Option Nat} {n c : Nat} (hb : h b = some (bdB p q n c)) (hp : p = none ∨ p = some ⟨b, 0, none⟩) :
    CallsU Tryz.prog 119 [.pointer (some ⟨b, 0, none⟩)] h fun r h' => r = .tuple #[] ∧ h' = h.put b (bdB (some ⟨b, 0, none⟩) q n c) := by
  refine ⟨⟨_, Tryz.func119, by kernel_rfl, by kernel_rfl⟩, fun w s => ?_⟩
  have sb := (s b _ hb).cells (plain_fz rfl)
  have hlt := (s b _ hb).lt
  rcases hp with rfl | rfl
  · refine (check_fresh_w b w (by simp [World.cell?, sb, bdB]) (by simp [World.shape?, sb, bdB]) (by simp [World.frozen?, sb, bdB])).mono ?_
    rintro _ _ ⟨rfl, rfl⟩
    have hg : (w.setCell ⟨b, 0, none⟩ (.pointer (some ⟨b, 0, none⟩))).heap[b]? = some (.cells (bdB (some ⟨b, 0, none⟩) q n c).cells.toArray 89 (0, 0)) := by
      simp only [World.setCell]
      rw [Array.getElem?_modify, if_pos rfl, sb]
      simp [bdB]
    have hne : ∀ k, k ≠ b → (w.setCell ⟨b, 0, none⟩ (.pointer (some ⟨b, 0, none⟩))).heap[k]? = w.heap[k]? := fun k hk => by
      simp only [World.setCell]
      rw [Array.getElem?_modify, if_neg (fun e => hk e.symm)]
    refine ⟨_, _, rfl, ⟨rfl, rfl⟩, fun k x hk => ?_, ⟨by simp [World.setCell], rfl, rfl, rfl, fun k hk h0 => ?_⟩⟩
    · by_cases e : k = b
      · subst e
        rw [Heap.put_same] at hk
        cases hk
        exact .mk' (plain_fz rfl) hg
      · rw [Heap.put_ne _ _ e] at hk
        exact (s k x hk).same (hne k e)
    · have e : k ≠ b := fun e => by rw [e, hb] at h0; cases h0
      exact ⟨by rw [Heap.put_ne _ _ e]; exact h0, hne k e⟩
  · refine (check_used_w b w (by simp [World.cell?, sb, bdB])).mono ?_
    rintro _ _ ⟨rfl, rfl⟩
    have e : h.put b (bdB (some ⟨b, 0, none⟩) q n c) = h := by
      funext k
      by_cases e : k = b
      · subst e; rw [Heap.put_same, hb]
      · rw [Heap.put_ne _ _ e]
    rw [e]
    exact ⟨_, _, rfl, ⟨rfl, rfl⟩, s, Frm.refl _ _⟩

/-- All but the builder. -/
def baseB (h : Heap) (b : Nat) (q : Option Nat) : Heap := fun k => if k = b ∨ q = some k then none else h k

theorem baseB_le (h : Heap) (b : Nat) (q : Option Nat) : Le (baseB h b q) h := fun k x hk => by
  unfold baseB at hk
  split at hk
  · cases hk
  · exact hk

theorem baseB_put {h : Heap} {b : Nat} {q : Option Nat} (x : Blk) : baseB (h.put b x) b q = baseB h b q := by
  funext k
  unfold baseB
  split
  · rfl
  · rename_i e
    rw [Heap.put_ne _ _ (fun q => e (.inl q))]


theorem IsB.own {h : Heap} {b c : Nat} {q : Option Nat} {gs : List UInt8} (h1 : q = none → gs = [] ∧ c = 0) (h2 : ∀ g, q = some g → ∃ zs, h g = some ⟨(gs ++ zs).map bv, 5, (0, 0)⟩ ∧ c = (gs ++ zs).length) :
    OwnE bv 5 (baseB h b q) h (adQ q) gs.length c gs := by
  refine ⟨rfl, ?_⟩
  cases q with
  | none =>
    obtain ⟨rfl, rfl⟩ := h1 rfl
    exact .inl ⟨rfl, rfl, rfl⟩
  | some g =>
    obtain ⟨zs, e1, e2⟩ := h2 g rfl
    exact .inr ⟨g, zs, rfl, by simp [baseB], e1, e2⟩

theorem own_q {h0 h : Heap} {A : Option Addr} {n c : Nat} {gs : List UInt8} (o : OwnE bv 5 h0 h A n c gs) : ∃ q, A = adQ q ∧ n = gs.length ∧ (q = none → gs = [] ∧ c = 0) ∧ (∀ g, q = some g → h0 g = none ∧ ∃ zs, h g = some ⟨(gs ++ zs).map bv, 5, (0, 0)⟩ ∧ c = (gs ++ zs).length) := by
  obtain ⟨e, o⟩ := o
  rcases o with ⟨e1, e2, e3⟩ | ⟨g, zs, e1, e2, e3, e4⟩
  · exact ⟨none, e1, e, fun _ => ⟨List.length_eq_zero_iff.1 (by omega), e3⟩, fun g q => by cases q⟩
  · exact ⟨some g, e1, e, (fun q => by cases q), fun g' q => by cases q; exact ⟨e2, zs, e3, e4⟩⟩

theorem not_bd {h : Heap} {b : Nat} {p : Option Addr} {q : Option Nat} {n c g : Nat} {zs : List UInt8} (hb : h b = some (bdB p q n c)) (hg : h g = some ⟨zs.map bv, 5, (0, 0)⟩) : g ≠ b := fun e => by
  subst e
  rw [hb] at hg
  simp only [Option.some.injEq, bdB, Blk.mk.injEq] at hg
  exact absurd hg.2.1 (by decide)

/-- Behind a write: the slice stands in the builder again. -/
theorem IsB.back {h h2 : Heap} {b n' c' : Nat} {q : Option Nat} {A' : Option Addr} {gs ys : List UInt8} {p' : Option Addr} {cc : Nat} (hb : h b = some (bdB p' q gs.length cc)) (h1 : q = none → gs = [] ∧ cc = 0)
    (hq : ∀ g, q = some g → ∃ zs, h g = some ⟨(gs ++ zs).map bv, 5, (0, 0)⟩ ∧ cc = (gs ++ zs).length) (hp : p' = some ⟨b, 0, none⟩) (o : OwnE bv 5 (baseB h b q) h2 A' n' c' (gs ++ ys)) (l : Le (baseB h b q) h2) (hs : Stays h h2 (adQ q)) :
    h2 b = some (bdB p' q gs.length cc) ∧ ∃ q', A' = adQ q' ∧ n' = (gs ++ ys).length ∧ IsB (h2.put b (bdB p' q' n' c')) b q' (gs ++ ys) ∧ Rest h (h2.put b (bdB p' q' n' c')) b q q' := by
  have hb2 : h2 b = some (bdB p' q gs.length cc) := by
    rw [hs b (by rw [hb]; simp) (fun ad e => ?_), hb]
    cases q with
    | none => cases e
    | some g =>
      cases e
      obtain ⟨zs, e1, _⟩ := hq g rfl
      exact (not_bd hb e1).symm
  obtain ⟨q', eA, en, e1, e2⟩ := own_q o
  have hgb : ∀ g, q' = some g → g ≠ b := fun g e => by
    obtain ⟨_, zs, e3, _⟩ := e2 g e
    exact not_bd hb2 e3
  refine ⟨hb2, q', eA, en, ⟨p', c', by rw [Heap.put_same, en], .inr hp, e1, fun g e => ?_⟩, fun k x hk kb kq => ?_, fun g e => ?_⟩
  · obtain ⟨_, zs, e3, e4⟩ := e2 g e
    exact ⟨zs, by rw [Heap.put_ne _ _ (hgb g e)]; exact e3, e4⟩
  · rw [Heap.put_ne _ _ kb]
    refine l k x ?_
    unfold baseB
    rw [if_neg (by intro e; rcases e with e | e; exact kb e; exact kq e)]
    exact hk
  · obtain ⟨e0, _⟩ := e2 g e
    unfold baseB at e0
    split at e0
    · rename_i e3
      rcases e3 with e3 | e3
      · exact absurd e3 (hgb g e)
      · exact .inl e3
    · exact .inr e0
end Go.Proofs.YtccplhjglhdopaaGreatDoor

/-
  Contracts: strings.Builder: WriteByte, WriteRune, String.
-/
namespace Go.Proofs.YtccplhjglhdopaaGreatDoor
open Go Go.Vcg
attribute [local irreducible] Br

section
variable {h : Heap} {b : Nat} {q : Option Nat} {gs : List UInt8}

theorem bd_ld {h1 : Heap} {p : Option Addr} {n c : Nat} (hb : h1 b = some (bdB p q n c)) : LdN h1 (Addr.add ⟨b, 0, none⟩ 1) [.slice (adQ q) n c] := ld_of (ad := ⟨b, 0, none⟩) (i := 1) rfl hb rfl

theorem bd_st {h1 : Heap} {p : Option Addr} {n c n' c' : Nat} {q' : Option Nat} {K : Heap → Prop} (hb : h1 b = some (bdB p q n c)) (hk : K (h1.put b (bdB p q' n' c'))) :
    ∃ b_1 : Blk, h1 (Addr.block (Addr.add ⟨b, 0, none⟩ 1)) = some b_1 ∧ b_1.fz = (0, 0) ∧ Addr.spot (Addr.add ⟨b, 0, none⟩ 1) = none ∧ Addr.off (Addr.add ⟨b, 0, none⟩ 1) + 1 ≤ b_1.cells.length ∧
      ∀ h_3 : Heap, h_3 = Heap.put h1 (Addr.block (Addr.add ⟨b, 0, none⟩ 1)) { b_1 with cells := setSeg b_1.cells (Addr.off (Addr.add ⟨b, 0, none⟩ 1)) [Value.slice (adQ q') n' c'] } → K h_3 := by
  rw [addr_block, addr_off, addr_spot _ _ rfl]
  refine ⟨_, hb, rfl, rfl, by simp [bdB], ?_⟩
  rintro _ rfl
  exact hk

/-- Behind copyCheck. -/
theorem IsB.checked {p : Option Addr} {c : Nat} (hb : h b = some (bdB p q gs.length c)) (h2 : ∀ g, q = some g → ∃ zs, h g = some ⟨(gs ++ zs).map bv, 5, (0, 0)⟩ ∧ c = (gs ++ zs).length) :
    ∀ g, q = some g → ∃ zs, (h.put b (bdB (some ⟨b, 0, none⟩) q gs.length c)) g = some ⟨(gs ++ zs).map bv, 5, (0, 0)⟩ ∧ c = (gs ++ zs).length := fun g e => by
  obtain ⟨zs, e1, e2⟩ := h2 g e
  exact ⟨zs, by rw [Heap.put_ne _ _ (not_bd hb e1)]; exact e1, e2⟩

theorem Rest.checked {h3 : Heap} {x y : Blk} {q' : Option Nat} (hb : h b = some y) (r : Rest (h.put b x) h3 b q q') : Rest h h3 b q q' := by
  refine ⟨fun k z hk kb kq => r.1 k z (by rw [Heap.put_ne _ _ kb]; exact hk) kb kq, fun g e => ?_⟩
  rcases r.2 g e with e | e
  · exact .inl e
  · by_cases gb : g = b
    · subst gb; rw [Heap.put_same] at e; cases e
    · rw [Heap.put_ne _ _ gb] at e; exact .inr e

theorem wrune_c (u : IsB h b q gs) (r : Int) (hr0 : -2147483648 ≤ r) (hr1 : r < 2147483648) (hn : gs.length + 4 ≤ 140737488355328) :
    CallsU Tryz.prog 72 [.pointer (some ⟨b, 0, none⟩), .int .i32 r] h fun v h' => ∃ k q' ys, v = .tuple #[.int .i64 k, .nilIface] ∧ IsB h' b q' (gs ++ ys) ∧ RuneB r ys ∧ Rest h h' b q q' := by
  obtain ⟨p, c, hb, hp, h1, h2⟩ := u.blk
  apply strings_Builder_WriteRune_ok
  refine (bcheck_c hb hp).mono ?_
  rintro _ _ ⟨rfl, rfl⟩
  have hb' : (h.put b (bdB (some ⟨b, 0, none⟩) q gs.length c)) b = some (bdB (some ⟨b, 0, none⟩) q gs.length c) := Heap.put_same _ _ _
  have h2' := IsB.checked hb h2
  refine ⟨rfl, _, _, _, bd_ld hb', _, _, _, bd_ld hb', ?_⟩
  refine (rune_c r hr0 hr1 (IsB.own (b := b) h1 h2') (baseB_le _ _ _) hn).mono ?_
  rintro _ h3 ⟨A', n', c', ys, rfl, o', hr, l', s'⟩
  obtain ⟨hb3, q', rfl, en, u', r'⟩ := IsB.back hb' h1 h2' rfl o' l' s'
  refine ⟨_, _, _, rfl, bd_st (n' := n') (c' := c') hb3 ?_⟩
  refine ⟨_, _, _, bd_ld (Heap.put_same _ _ _), ?_⟩
  rintro _ rfl
  exact ⟨_, _, _, rfl, u', hr, r'.checked hb⟩

theorem wbyte_c (u : IsB h b q gs) (x : UInt8) (hn : gs.length + 1 ≤ 140737488355328) :
    CallsU Tryz.prog 73 [.pointer (some ⟨b, 0, none⟩), bv x] h fun v h' => ∃ q', v = .nilIface ∧ IsB h' b q' (gs ++ [x]) ∧ Rest h h' b q q' := by
  obtain ⟨p, c, hb, hp, h1, h2⟩ := u.blk
  apply strings_Builder_WriteByte_ok
  refine (bcheck_c hb hp).mono ?_
  rintro _ _ ⟨rfl, rfl⟩
  have hb' : (h.put b (bdB (some ⟨b, 0, none⟩) q gs.length c)) b = some (bdB (some ⟨b, 0, none⟩) q gs.length c) := Heap.put_same _ _ _
  have h2' := IsB.checked hb h2
  refine ⟨rfl, _, _, _, bd_ld hb', ?_⟩
  rintro g _ hg rfl
  have goal : ∀ A' c' h3, OwnE bv 5 (baseB (h.put b (bdB (some ⟨b, 0, none⟩) q gs.length c)) b q) h3 A' (gs.length + 1) c' (gs ++ [x]) → Le (baseB (h.put b (bdB (some ⟨b, 0, none⟩) q gs.length c)) b q) h3 →
      (∀ k, k ≠ g → (h.put b (bdB (some ⟨b, 0, none⟩) q gs.length c)) k ≠ none → (∀ ad, adQ q = some ad → k ≠ ad.block) → h3 k = (h.put b (bdB (some ⟨b, 0, none⟩) q gs.length c)) k) →
      ∃ b_2 : Blk, h3 (Addr.block (Addr.add ⟨b, 0, none⟩ 1)) = some b_2 ∧ b_2.fz = (0, 0) ∧ Addr.spot (Addr.add ⟨b, 0, none⟩ 1) = none ∧ Addr.off (Addr.add ⟨b, 0, none⟩ 1) + 1 ≤ b_2.cells.length ∧
      ∀ h_6 : Heap, h_6 = Heap.put h3 (Addr.block (Addr.add ⟨b, 0, none⟩ 1)) { b_2 with cells := setSeg b_2.cells (Addr.off (Addr.add ⟨b, 0, none⟩ 1)) [Value.slice A' (gs.length + 1) c'] } → ∃ q', Value.nilIface = .nilIface ∧ IsB h_6 b q' (gs ++ [x]) ∧ Rest h h_6 b q q' := by
    intro A' c' h3 o' l' s'
    obtain ⟨hb3, q', rfl, en, u', r'⟩ := IsB.back hb' h1 h2' rfl o' l' (fun k hk ha => s' k (fun e => by subst e; exact hk hg) hk ha)
    exact bd_st (n' := gs.length + 1) (c' := c') hb3 ⟨_, rfl, u', r'.checked hb⟩
  exact OwnE.appN (m := 1) (z := 0) (K := fun A' c' h3 => ∃ b_2 : Blk, h3 (Addr.block (Addr.add ⟨b, 0, none⟩ 1)) = some b_2 ∧ b_2.fz = (0, 0) ∧ Addr.spot (Addr.add ⟨b, 0, none⟩ 1) = none ∧ Addr.off (Addr.add ⟨b, 0, none⟩ 1) + 1 ≤ b_2.cells.length ∧
      ∀ h_6 : Heap, h_6 = Heap.put h3 (Addr.block (Addr.add ⟨b, 0, none⟩ 1)) { b_2 with cells := setSeg b_2.cells (Addr.off (Addr.add ⟨b, 0, none⟩ 1)) [Value.slice A' (gs.length + 1) c'] } → ∃ q', Value.nilIface = .nilIface ∧ IsB h_6 b q' (gs ++ [x]) ∧ Rest h h_6 b q q')
    [x] (IsB.own (b := b) h1 h2') (baseB_le _ _ _) bv_one rfl rfl (by omega) rfl hg (by omega) goal

theorem bstring_c (u : IsB h b q gs) (hq : q = none ∨ gs ≠ []) (hn : gs.length ≤ 140737488355328) :
    CallsU Tryz.prog 74 [.pointer (some ⟨b, 0, none⟩)] h fun v h' => v = .string ⟨gs.toArray⟩ ∧ ∀ k x, h k = some x → q ≠ some k → h' k = some x := by
  obtain ⟨p, c, hb, hp, h1, h2⟩ := u.blk
  refine ⟨⟨_, Tryz.func74, by kernel_rfl, by kernel_rfl⟩, fun w s => ?_⟩
  have sb := (s b _ hb).cells (plain_fz rfl)
  cases q with
  | none =>
    obtain ⟨rfl, rfl⟩ := h1 rfl
    refine (str_nil_w b (.pointer p) w sb).mono ?_
    rintro _ _ ⟨rfl, rfl⟩
    exact ⟨_, h, rfl, ⟨rfl, fun _ _ q _ => q⟩, fun k x hk => (s k x hk).same rfl, ⟨Nat.le_refl _, rfl, rfl, rfl, fun _ _ q => ⟨q, rfl⟩⟩⟩
  | some g =>
    have hne : gs ≠ [] := hq.resolve_left (by simp)
    obtain ⟨zs, hg, hc⟩ := h2 g rfl
    have sg := (s g _ hg).cells (plain_fz rfl)
    have hlt := (s g _ hg).lt
    refine (str_w b g c (.pointer p) gs _ (0, 0) w sb sg hne (by simp) (by rw [hc]; simp) hn (fun j x hx => ?_)).mono ?_
    · have hj : j < gs.length := (List.getElem?_eq_some_iff.1 hx).1
      simp only [List.getElem?_toArray, List.getElem?_map]
      rw [List.getElem?_append_left hj, hx]
      rfl
    rintro _ _ ⟨rfl, rfl⟩
    have hl0 : gs.length ≠ 0 := by simpa using hne
    have hh : (w.drew.freeze ⟨g, 0, none⟩ gs.length).heap[g]? = some (.cells ((gs ++ zs).map bv).toArray 5 (0, 0 + gs.length)) := by
      simp only [World.freeze, if_neg hl0]
      rw [Array.getElem?_modify, if_pos rfl]
      have sg' : w.drew.heap[g]? = _ := sg
      rw [sg']
      rfl
    have hk : ∀ k, k ≠ g → (w.drew.freeze ⟨g, 0, none⟩ gs.length).heap[k]? = w.heap[k]? := fun k hk => by
      simp only [World.freeze, if_neg hl0]
      rw [Array.getElem?_modify, if_neg (fun e => hk e.symm)]
      rfl
    have hpl : plainB ⟨(gs ++ zs).map bv, 5, (0, 0 + gs.length)⟩ = true := by
      unfold plainB
      cases gs with
      | nil => exact absurd rfl hne
      | cons _ _ => rfl
    refine ⟨_, h.put g ⟨(gs ++ zs).map bv, 5, (0, 0 + gs.length)⟩, rfl, ⟨rfl, fun k x q e => ?_⟩, fun k x q => ?_, ⟨by simp [World.freeze, hl0], ?_, ?_, ?_, fun k hk' q => ?_⟩⟩
    · rw [Heap.put_ne _ _ (fun e' => e (by rw [e'])), q]
    · by_cases e : k = g
      · subst e
        rw [Heap.put_same] at q
        cases q
        exact .mk' hpl hh
      · rw [Heap.put_ne _ _ e] at q
        exact (s k x q).same (hk k e)
    · simp only [World.freeze, if_neg hl0]; rfl
    · simp only [World.freeze, if_neg hl0]; rfl
    · simp only [World.freeze, if_neg hl0]; rfl
    · have e : k ≠ g := fun e => by rw [e, hg] at q; cases q
      exact ⟨by rw [Heap.put_ne _ _ e]; exact q, hk k e⟩
end
end Go.Proofs.YtccplhjglhdopaaGreatDoor

/-
  Plain laws: what a walk over a string gives; the form of a text and its runs of digits.
-/
namespace Go.Proofs.YtccplhjglhdopaaGreatDoor
open Go Go.Vcg

theorem decode_low {s : ByteArray} {i : Nat} {x : UInt8} (hx : s.data.toList[i]? = some x) (h : x.toNat < 128) : Utf8.decode s i = (x.toNat, 1) := by
  have hg : s.get! i = x := by
    have h1 : s.data[i]? = some x := by simpa using hx
    show s.data[i]! = x
    rw [getElem!_def, h1]
  unfold Utf8.decode
  simp only [Nat.add_zero, hg]
  rw [if_pos h]

theorem decode_high {s : ByteArray} {i : Nat} {x : UInt8} (hx : s.data.toList[i]? = some x) (h : 128 ≤ x.toNat) : 128 ≤ (Utf8.decode s i).1 ∧ (Utf8.decode s i).1 < 2147483648 ∧ 1 ≤ (Utf8.decode s i).2 ∧ i + (Utf8.decode s i).2 ≤ s.size := by
  have hg : s.get! i = x := by
    have h1 : s.data[i]? = some x := by simpa using hx
    show s.data[i]! = x
    rw [getElem!_def, h1]
  have hi : i < s.size := by
    have := (List.getElem?_eq_some_iff.1 hx).1
    simpa using this
  have e0 : Utf8.runeError = 65533 := rfl
  unfold Utf8.decode
  simp only [Nat.add_zero, hg]
  rw [if_neg (by omega)]
  have b1 := (s.get! (i + 1)).toNat_lt
  have b2 := (s.get! (i + 2)).toNat_lt
  have b3 := (s.get! (i + 3)).toNat_lt
  have b0 := x.toNat_lt
  generalize (s.get! (i + 1)).toNat = c1 at *
  generalize (s.get! (i + 2)).toNat = c2 at *
  generalize (s.get! (i + 3)).toNat = c3 at *
  generalize x.toNat = c0 at *
  split
  · rename_i q
    simp only [Bool.and_eq_true, beq_iff_eq, decide_eq_true_eq] at q
    split
    · simp only; omega
    · simp only [e0]; omega
  · split
    · rename_i q
      simp only [Bool.and_eq_true, beq_iff_eq, decide_eq_true_eq] at q
      split
      · rename_i q2
        simp only [Bool.and_eq_true, decide_eq_true_eq, ge_iff_le] at q2
        simp only; omega
      · simp only [e0]; omega
    · split
      · rename_i q
        simp only [Bool.and_eq_true, beq_iff_eq, decide_eq_true_eq] at q
        split
        · rename_i q2
          simp only [Bool.and_eq_true, decide_eq_true_eq, ge_iff_le] at q2
          simp only; omega
        · simp only [e0]; omega
      · simp only [e0]; omega

theorem encode_low {n : Nat} (h : n < 128) : Utf8.encode (n : Int) = ⟨#[UInt8.ofNat n]⟩ := by
  unfold Utf8.encode
  have hv : Utf8.valid (n : Int) = true := by unfold Utf8.valid; simp; omega
  simp only [hv, if_true, Int.toNat_natCast]
  rw [if_pos (by omega)]

/-! ### the form of a text -/
def isDg (x : UInt8) : Bool := decide (48 ≤ x.toNat ∧ x.toNat ≤ 57)

structure Sc where
  form : List UInt8
  runs : List (List UInt8)
  inRun : Bool

def addLast (rs : List (List UInt8)) (x : UInt8) : List (List UInt8) := rs.set (rs.length - 1) (rs.getD (rs.length - 1) [] ++ [x])

def Sc.step (t : Sc) (x : UInt8) : Sc :=
  if isDg x then (if t.inRun then ⟨t.form, addLast t.runs x, true⟩ else ⟨t.form ++ [48], t.runs ++ [[x]], true⟩) else ⟨t.form ++ [x], t.runs, false⟩

def scanL (l : List UInt8) : Sc := l.foldl Sc.step ⟨[], [], false⟩

def low (l : List UInt8) : Prop := ∀ x ∈ l, x.toNat < 128
end Go.Proofs.YtccplhjglhdopaaGreatDoor

/- Made by vcgen.py: verification conditions of functions, each held against the calculator by the kernel. -/
namespace Go.Proofs.YtccplhjglhdopaaGreatDoor
open Go Go.Vcg

def measure_Parse_vc (s : ByteArray) (h : Heap) (R : Value → Heap → Prop) : Prop :=
 Br (decide (((s.size : Nat) : Int) > 24))
  (R (Value.tuple #[Value.agg #[Value.bool false, Value.slice none 0 0, Value.slice none 0 0], Value.int .i64 5]) h)
  (CallsU Tryz.prog 29 [Value.string s] h fun v h_1 =>
 ∃ t17_0 : ByteArray, ∃ t17_1A : Option Addr, ∃ t17_1n t17_1c : Nat, v = Value.tuple #[Value.string t17_0, Value.slice t17_1A t17_1n t17_1c] ∧
 CallsU Tryz.prog 30 [Value.string t17_0, Value.string (⟨#[45]⟩ : ByteArray)] h_1 fun v_1 h_2 =>
 ∃ t22_0 : ByteArray, ∃ t22_1 : Bool, v_1 = Value.tuple #[Value.string t22_0, Value.bool t22_1] ∧
 CallsU Tryz.prog 31 [Value.string t22_0, Value.int .u8 48] h_2 fun v_2 h_3 =>
 ∃ t26 : Int, v_2 = Value.int .i64 t26 ∧
 ∀ t27 : Int, t27 = IntKind.i64.wrap (t26 + 1) →
 ((0 : Nat) : Int) ≤ t27 ∧ t27 ≤ ((t22_0.size : Nat) : Int) ∧
 CallsU Tryz.prog 32 [Value.string (ByteArray.extract t22_0 0 (Int.toNat t27)), Value.slice t17_1A t17_1n t17_1c] h_3 fun v_3 h_4 =>
 ∃ t33_0_0 : Bool, ∃ t33_0_1A : Option Addr, ∃ t33_0_1n t33_0_1c : Nat, ∃ t33_0_2A : Option Addr, ∃ t33_0_2n t33_0_2c : Nat, ∃ t33_1 : Bool, v_3 = Value.tuple #[Value.agg #[Value.bool t33_0_0, Value.slice t33_0_1A t33_0_1n t33_0_1c, Value.slice t33_0_2A t33_0_2n t33_0_2c], Value.bool t33_1] ∧
 Br (!t33_1)
  (R (Value.tuple #[Value.agg #[Value.bool false, Value.slice none 0 0, Value.slice none 0 0], Value.int .i64 2]) h_4)
  (((0 : Nat) : Int) ≤ t27 ∧ t27 ≤ ((t22_0.size : Nat) : Int) ∧
 CallsU Tryz.prog 33 [Value.string (ByteArray.extract t22_0 (Int.toNat t27) t22_0.size)] h_4 fun v_4 h_5 =>
 ∃ t43_0_0 : Bool, ∃ t43_0_1A : Option Addr, ∃ t43_0_1n t43_0_1c : Nat, ∃ t43_0_2A : Option Addr, ∃ t43_0_2n t43_0_2c : Nat, ∃ t43_1 : Bool, v_4 = Value.tuple #[Value.agg #[Value.bool t43_0_0, Value.slice t43_0_1A t43_0_1n t43_0_1c, Value.slice t43_0_2A t43_0_2n t43_0_2c], Value.bool t43_1] ∧
 Br (!t43_1)
  (R (Value.tuple #[Value.agg #[Value.bool false, Value.slice none 0 0, Value.slice none 0 0], Value.int .i64 2]) h_5)
  (CallsU Tryz.prog 23 [Value.agg #[Value.bool t33_0_0, Value.slice t33_0_1A t33_0_1n t33_0_1c, Value.slice t33_0_2A t33_0_2n t33_0_2c], Value.agg #[Value.bool t43_0_0, Value.slice t43_0_1A t43_0_1n t43_0_1c, Value.slice t43_0_2A t43_0_2n t43_0_2c]] h_5 fun v_5 h_6 =>
 ∃ t51_0 : Bool, ∃ t51_1A : Option Addr, ∃ t51_1n t51_1c : Nat, ∃ t51_2A : Option Addr, ∃ t51_2n t51_2c : Nat, v_5 = Value.agg #[Value.bool t51_0, Value.slice t51_1A t51_1n t51_1c, Value.slice t51_2A t51_2n t51_2c] ∧
 Br (t22_1)
  (CallsU Tryz.prog 21 [Value.agg #[Value.bool t51_0, Value.slice t51_1A t51_1n t51_1c, Value.slice t51_2A t51_2n t51_2c]] h_6 fun v_6 h_7 =>
 ∃ t54_0 : Bool, ∃ t54_1A : Option Addr, ∃ t54_1n t54_1c : Nat, ∃ t54_2A : Option Addr, ∃ t54_2n t54_2c : Nat, v_6 = Value.agg #[Value.bool t54_0, Value.slice t54_1A t54_1n t54_1c, Value.slice t54_2A t54_2n t54_2c] ∧
 R (Value.tuple #[Value.agg #[Value.bool t54_0, Value.slice t54_1A t54_1n t54_1c, Value.slice t54_2A t54_2n t54_2c], Value.int .i64 0]) h_7)
  (R (Value.tuple #[Value.agg #[Value.bool t51_0, Value.slice t51_1A t51_1n t51_1c, Value.slice t51_2A t51_2n t51_2c], Value.int .i64 0]) h_6))))

set_option maxRecDepth 100000 in
theorem measure_Parse_ok {s : ByteArray} {h : Heap} {R : Value → Heap → Prop} (hv : measure_Parse_vc s h R) : CallsU Tryz.prog 12 [Value.string s] h R :=
  fn_sound Tryz.func12 (by kernel_rfl) (by kernel_rfl) (by kernel_rfl) (fun _ => false) .nil [Value.string s] h R (by kernel_rfl)
    (Eq.mp (show measure_Parse_vc s h R = fnV Tryz.prog Tryz.f12 (fun _ => false) .nil [Value.string s] h R by kernel_rfl) hv)

def measure_Format_vc (r_0 : Bool) (r_1A : Option Addr) (r_1n r_1c : Nat) (r_2A : Option Addr) (r_2n r_2c : Nat) (h : Heap) (R : Value → Heap → Prop) : Prop :=
 CallsU Tryz.prog 22 [Value.int .i64 1, Value.int .i64 100] h fun v h_1 =>
 ∃ t18_0_0 : Bool, ∃ t18_0_1A : Option Addr, ∃ t18_0_1n t18_0_1c : Nat, ∃ t18_0_2A : Option Addr, ∃ t18_0_2n t18_0_2c : Nat, ∃ t18_1 : Bool, v = Value.tuple #[Value.agg #[Value.bool t18_0_0, Value.slice t18_0_1A t18_0_1n t18_0_1c, Value.slice t18_0_2A t18_0_2n t18_0_2c], Value.bool t18_1] ∧
 CallsU Tryz.prog 23 [Value.agg #[Value.bool r_0, Value.slice r_1A r_1n r_1c, Value.slice r_2A r_2n r_2c], Value.agg #[Value.bool t18_0_0, Value.slice t18_0_1A t18_0_1n t18_0_1c, Value.slice t18_0_2A t18_0_2n t18_0_2c]] h_1 fun v_1 h_2 =>
 ∃ t23_0 : Bool, ∃ t23_1A : Option Addr, ∃ t23_1n t23_1c : Nat, ∃ t23_2A : Option Addr, ∃ t23_2n t23_2c : Nat, v_1 = Value.agg #[Value.bool t23_0, Value.slice t23_1A t23_1n t23_1c, Value.slice t23_2A t23_2n t23_2c] ∧
 CallsU Tryz.prog 38 [Value.slice t23_1A t23_1n t23_1c, Value.slice t23_2A t23_2n t23_2c] h_2 fun v_2 h_3 =>
 ∃ t30_0A : Option Addr, ∃ t30_0n t30_0c : Nat, ∃ t30_1A : Option Addr, ∃ t30_1n t30_1c : Nat, ∃ t30_2 : Bool, v_2 = Value.tuple #[Value.slice t30_0A t30_0n t30_0c, Value.slice t30_1A t30_1n t30_1c, Value.bool t30_2] ∧
 CallsU Tryz.prog 40 [Value.int .u64 9999999] h_3 fun v_3 h_4 =>
 ∃ t35A : Option Addr, ∃ t35n t35c : Nat, v_3 = Value.slice t35A t35n t35c ∧
 CallsU Tryz.prog 39 [Value.slice t30_0A t30_0n t30_0c, Value.slice t35A t35n t35c] h_4 fun v_4 h_5 =>
 ∃ t36 : Int, v_4 = Value.int .i64 t36 ∧
 Br (decide (t36 > 0))
  (R (Value.tuple #[Value.string (⟨#[]⟩ : ByteArray), Value.int .i64 3]) h_5)
  (CallsU Tryz.prog 41 [Value.slice t30_0A t30_0n t30_0c] h_5 fun v_5 h_6 =>
 ∃ t39 : ByteArray, v_5 = Value.string t39 ∧
 CallsU Tryz.prog 40 [Value.int .u64 10000] h_6 fun v_6 h_7 =>
 ∃ t40A : Option Addr, ∃ t40n t40c : Nat, v_6 = Value.slice t40A t40n t40c ∧
 CallsU Tryz.prog 42 [Value.slice t30_1A t30_1n t30_1c, Value.slice t40A t40n t40c] h_7 fun v_7 h_8 =>
 ∃ t44A : Option Addr, ∃ t44n t44c : Nat, v_7 = Value.slice t44A t44n t44c ∧
 LeH h_7 h_8 ∧
 CallsU Tryz.prog 38 [Value.slice t44A t44n t44c, Value.slice t23_2A t23_2n t23_2c] h_8 fun v_8 h_9 =>
 ∃ t47_0A : Option Addr, ∃ t47_0n t47_0c : Nat, ∃ t47_1A : Option Addr, ∃ t47_1n t47_1c : Nat, ∃ t47_2 : Bool, v_8 = Value.tuple #[Value.slice t47_0A t47_0n t47_0c, Value.slice t47_1A t47_1n t47_1c, Value.bool t47_2] ∧
 Br ((((t30_1n : Nat) : Int) : Int) == 0)
  (Br (t23_0)
  ((((⟨#[45]⟩ : ByteArray).size + t39.size : Nat) : Int) ≤ 9223372036854775807 ∧
 ((((⟨#[45]⟩ : ByteArray) ++ t39).size + (⟨#[109, 109]⟩ : ByteArray).size : Nat) : Int) ≤ 9223372036854775807 ∧
 R (Value.tuple #[Value.string (((⟨#[45]⟩ : ByteArray) ++ t39) ++ (⟨#[109, 109]⟩ : ByteArray)), Value.int .i64 0]) h_9)
  (((t39.size + (⟨#[109, 109]⟩ : ByteArray).size : Nat) : Int) ≤ 9223372036854775807 ∧
 R (Value.tuple #[Value.string (t39 ++ (⟨#[109, 109]⟩ : ByteArray)), Value.int .i64 0]) h_9))
  (Br ((((t47_1n : Nat) : Int) : Int) == 0)
  (CallsU Tryz.prog 43 [Value.slice t40A t40n t40c, Value.slice t47_0A t47_0n t47_0c] h_9 fun v_9 h_10 =>
 ∃ t76A : Option Addr, ∃ t76n t76c : Nat, v_9 = Value.slice t76A t76n t76c ∧
 CallsU Tryz.prog 41 [Value.slice t76A t76n t76c] h_10 fun v_10 h_11 =>
 ∃ t77 : ByteArray, v_10 = Value.string t77 ∧
 ((0 : Nat) : Int) ≤ (1 : Int) ∧ 1 ≤ ((t77.size : Nat) : Int) ∧
 CallsU Tryz.prog 44 [Value.string (ByteArray.extract t77 1 t77.size), Value.string (⟨#[48]⟩ : ByteArray)] h_11 fun v_11 h_12 =>
 ∃ t81 : ByteArray, v_11 = Value.string t81 ∧
 (((⟨#[46]⟩ : ByteArray).size + t81.size : Nat) : Int) ≤ 9223372036854775807 ∧
 ((t39.size + ((⟨#[46]⟩ : ByteArray) ++ t81).size : Nat) : Int) ≤ 9223372036854775807 ∧
 Br (t23_0)
  ((((⟨#[45]⟩ : ByteArray).size + (t39 ++ ((⟨#[46]⟩ : ByteArray) ++ t81)).size : Nat) : Int) ≤ 9223372036854775807 ∧
 ((((⟨#[45]⟩ : ByteArray) ++ (t39 ++ ((⟨#[46]⟩ : ByteArray) ++ t81))).size + (⟨#[109, 109]⟩ : ByteArray).size : Nat) : Int) ≤ 9223372036854775807 ∧
 R (Value.tuple #[Value.string (((⟨#[45]⟩ : ByteArray) ++ (t39 ++ ((⟨#[46]⟩ : ByteArray) ++ t81))) ++ (⟨#[109, 109]⟩ : ByteArray)), Value.int .i64 0]) h_12)
  ((((t39 ++ ((⟨#[46]⟩ : ByteArray) ++ t81)).size + (⟨#[109, 109]⟩ : ByteArray).size : Nat) : Int) ≤ 9223372036854775807 ∧
 R (Value.tuple #[Value.string ((t39 ++ ((⟨#[46]⟩ : ByteArray) ++ t81)) ++ (⟨#[109, 109]⟩ : ByteArray)), Value.int .i64 0]) h_12))
  (CallsU Tryz.prog 40 [Value.int .u64 999] h_9 fun v_12 h_13 =>
 ∃ t87A : Option Addr, ∃ t87n t87c : Nat, v_12 = Value.slice t87A t87n t87c ∧
 LeH h_9 h_13 ∧
 CallsU Tryz.prog 39 [Value.slice t23_2A t23_2n t23_2c, Value.slice t87A t87n t87c] h_13 fun v_13 h_14 =>
 ∃ t88 : Int, v_13 = Value.int .i64 t88 ∧
 Br (decide (t88 > 0))
  (R (Value.tuple #[Value.string (⟨#[]⟩ : ByteArray), Value.int .i64 3]) h_14)
  (CallsU Tryz.prog 41 [Value.slice t30_1A t30_1n t30_1c] h_14 fun v_14 h_15 =>
 ∃ t52 : ByteArray, v_14 = Value.string t52 ∧
 LeH h_14 h_15 ∧
 ((t52.size + (⟨#[47]⟩ : ByteArray).size : Nat) : Int) ≤ 9223372036854775807 ∧
 CallsU Tryz.prog 41 [Value.slice t23_2A t23_2n t23_2c] h_15 fun v_15 h_16 =>
 ∃ t56 : ByteArray, v_15 = Value.string t56 ∧
 (((t52 ++ (⟨#[47]⟩ : ByteArray)).size + t56.size : Nat) : Int) ≤ 9223372036854775807 ∧
 Br ((((t30_0n : Nat) : Int) : Int) == 0)
  (Br (t23_0)
  ((((⟨#[45]⟩ : ByteArray).size + ((t52 ++ (⟨#[47]⟩ : ByteArray)) ++ t56).size : Nat) : Int) ≤ 9223372036854775807 ∧
 ((((⟨#[45]⟩ : ByteArray) ++ ((t52 ++ (⟨#[47]⟩ : ByteArray)) ++ t56)).size + (⟨#[109, 109]⟩ : ByteArray).size : Nat) : Int) ≤ 9223372036854775807 ∧
 R (Value.tuple #[Value.string (((⟨#[45]⟩ : ByteArray) ++ ((t52 ++ (⟨#[47]⟩ : ByteArray)) ++ t56)) ++ (⟨#[109, 109]⟩ : ByteArray)), Value.int .i64 0]) h_16)
  (((((t52 ++ (⟨#[47]⟩ : ByteArray)) ++ t56).size + (⟨#[109, 109]⟩ : ByteArray).size : Nat) : Int) ≤ 9223372036854775807 ∧
 R (Value.tuple #[Value.string (((t52 ++ (⟨#[47]⟩ : ByteArray)) ++ t56) ++ (⟨#[109, 109]⟩ : ByteArray)), Value.int .i64 0]) h_16))
  ((((⟨#[32]⟩ : ByteArray).size + ((t52 ++ (⟨#[47]⟩ : ByteArray)) ++ t56).size : Nat) : Int) ≤ 9223372036854775807 ∧
 ((t39.size + ((⟨#[32]⟩ : ByteArray) ++ ((t52 ++ (⟨#[47]⟩ : ByteArray)) ++ t56)).size : Nat) : Int) ≤ 9223372036854775807 ∧
 Br (t23_0)
  ((((⟨#[45]⟩ : ByteArray).size + (t39 ++ ((⟨#[32]⟩ : ByteArray) ++ ((t52 ++ (⟨#[47]⟩ : ByteArray)) ++ t56))).size : Nat) : Int) ≤ 9223372036854775807 ∧
 ((((⟨#[45]⟩ : ByteArray) ++ (t39 ++ ((⟨#[32]⟩ : ByteArray) ++ ((t52 ++ (⟨#[47]⟩ : ByteArray)) ++ t56)))).size + (⟨#[109, 109]⟩ : ByteArray).size : Nat) : Int) ≤ 9223372036854775807 ∧
 R (Value.tuple #[Value.string (((⟨#[45]⟩ : ByteArray) ++ (t39 ++ ((⟨#[32]⟩ : ByteArray) ++ ((t52 ++ (⟨#[47]⟩ : ByteArray)) ++ t56)))) ++ (⟨#[109, 109]⟩ : ByteArray)), Value.int .i64 0]) h_16)
  ((((t39 ++ ((⟨#[32]⟩ : ByteArray) ++ ((t52 ++ (⟨#[47]⟩ : ByteArray)) ++ t56))).size + (⟨#[109, 109]⟩ : ByteArray).size : Nat) : Int) ≤ 9223372036854775807 ∧
 R (Value.tuple #[Value.string ((t39 ++ ((⟨#[32]⟩ : ByteArray) ++ ((t52 ++ (⟨#[47]⟩ : ByteArray)) ++ t56))) ++ (⟨#[109, 109]⟩ : ByteArray)), Value.int .i64 0]) h_16))))))

set_option maxRecDepth 100000 in
theorem measure_Format_ok {r_0 : Bool} {r_1A : Option Addr} {r_1n r_1c : Nat} {r_2A : Option Addr} {r_2n r_2c : Nat} {h : Heap} {R : Value → Heap → Prop} (hv : measure_Format_vc r_0 r_1A r_1n r_1c r_2A r_2n r_2c h R) : CallsU Tryz.prog 16 [Value.agg #[Value.bool r_0, Value.slice r_1A r_1n r_1c, Value.slice r_2A r_2n r_2c]] h R :=
  fn_sound Tryz.func16 (by kernel_rfl) (by kernel_rfl) (by kernel_rfl) (fun _ => false) (.two .nil (.two .nil (.two .nil (.two .nil (.two .nil (.two .nil (.two .nil (.two (.ord [0, 1, 3, 4, 2, 5, 6, 7, 8, 9, 10, 11, 12]) (.two (.one (.two .nil (.two .nil (.two .nil (.two .nil (.two (.ord [0, 1, 2, 3, 4, 5]) (.two .nil (.two (.ord [0, 3, 4, 1, 2, 5, 6, 7]) .nil)))))))) .nil))))))))) [Value.agg #[Value.bool r_0, Value.slice r_1A r_1n r_1c, Value.slice r_2A r_2n r_2c]] h R (by kernel_rfl)
    (Eq.mp (show measure_Format_vc r_0 r_1A r_1n r_1c r_2A r_2n r_2c h R = fnV Tryz.prog Tryz.f16 (fun _ => false) (.two .nil (.two .nil (.two .nil (.two .nil (.two .nil (.two .nil (.two .nil (.two (.ord [0, 1, 3, 4, 2, 5, 6, 7, 8, 9, 10, 11, 12]) (.two (.one (.two .nil (.two .nil (.two .nil (.two .nil (.two (.ord [0, 1, 2, 3, 4, 5]) (.two .nil (.two (.ord [0, 3, 4, 1, 2, 5, 6, 7]) .nil)))))))) .nil))))))))) [Value.agg #[Value.bool r_0, Value.slice r_1A r_1n r_1c, Value.slice r_2A r_2n r_2c]] h R by kernel_rfl) hv)

def measure_Units_vc (r_0 : Bool) (r_1A : Option Addr) (r_1n r_1c : Nat) (r_2A : Option Addr) (r_2n r_2c : Nat) (h : Heap) (R : Value → Heap → Prop) : Prop :=
 CallsU Tryz.prog 57 [Value.agg #[Value.bool r_0, Value.slice r_1A r_1n r_1c, Value.slice r_2A r_2n r_2c]] h fun v h_1 =>
 ∃ t8_0 : Bool, ∃ t8_1A : Option Addr, ∃ t8_1n t8_1c : Nat, v = Value.agg #[Value.bool t8_0, Value.slice t8_1A t8_1n t8_1c] ∧
 CallsU Tryz.prog 56 [Value.agg #[Value.bool t8_0, Value.slice t8_1A t8_1n t8_1c]] h_1 fun v_1 h_2 =>
 ∃ t9_0 : Int, ∃ t9_1 : Bool, v_1 = Value.tuple #[Value.int .i64 t9_0, Value.bool t9_1] ∧
 Br (!t9_1)
  (R (Value.tuple #[Value.int .i64 0, Value.int .i64 3]) h_2)
  (Br (decide (t9_0 < (-1048576)))
  (R (Value.tuple #[Value.int .i64 0, Value.int .i64 3]) h_2)
  (Br (decide (t9_0 > 1048576))
  (R (Value.tuple #[Value.int .i64 0, Value.int .i64 3]) h_2)
  (R (Value.tuple #[Value.int .i64 t9_0, Value.int .i64 0]) h_2)))

set_option maxRecDepth 100000 in
theorem measure_Units_ok {r_0 : Bool} {r_1A : Option Addr} {r_1n r_1c : Nat} {r_2A : Option Addr} {r_2n r_2c : Nat} {h : Heap} {R : Value → Heap → Prop} (hv : measure_Units_vc r_0 r_1A r_1n r_1c r_2A r_2n r_2c h R) : CallsU Tryz.prog 18 [Value.agg #[Value.bool r_0, Value.slice r_1A r_1n r_1c, Value.slice r_2A r_2n r_2c]] h R :=
  fn_sound Tryz.func18 (by kernel_rfl) (by kernel_rfl) (by kernel_rfl) (fun _ => false) .nil [Value.agg #[Value.bool r_0, Value.slice r_1A r_1n r_1c, Value.slice r_2A r_2n r_2c]] h R (by kernel_rfl)
    (Eq.mp (show measure_Units_vc r_0 r_1A r_1n r_1c r_2A r_2n r_2c h R = fnV Tryz.prog Tryz.f18 (fun _ => false) .nil [Value.agg #[Value.bool r_0, Value.slice r_1A r_1n r_1c, Value.slice r_2A r_2n r_2c]] h R by kernel_rfl) hv)

def measure_scan_vc (s : ByteArray) (h : Heap) (R : Value → Heap → Prop) : Prop :=
 ∀ (g : Nat) (h_1 : Heap), h g = none → h_1 = Heap.put h g ⟨[Value.pointer none, Value.slice none 0 0], 89, (0, 0)⟩ →
 ∀ (g_1 : Nat) (h_2 : Heap), h_1 g_1 = none → h_2 = Heap.put h_1 g_1 (itB s 0) →
 ∃ J : Nat → Option Addr → Nat → Nat → Bool → Heap → Prop, (∃ m, J m none 0 0 false h_2) ∧
 ∀ (m : Nat) (runsA : Option Addr) (runsn runsc : Nat) (inRun : Bool) (h_3 : Heap), J m runsA runsn runsc inRun h_3 →
 ∃ (s_1 : ByteArray) (i : Nat), Addr.off (⟨g_1, 0, none⟩) = 0 ∧ h_3 (Addr.block (⟨g_1, 0, none⟩)) = some (itB s_1 i) ∧
 Br (decide (i < s_1.size))
  (∀ h_4 : Heap, h_4 = Heap.put h_3 (Addr.block (⟨g_1, 0, none⟩)) (itB s_1 (i + (Utf8.decode s_1 i).2)) →
 CallsU Tryz.prog 71 [Value.int .i32 ((Utf8.decode s_1 i).1 : Int)] h_4 fun v h_5 =>
 ∃ t22 : Bool, v = Value.bool t22 ∧
 Br (!t22)
  (CallsU Tryz.prog 72 [Value.pointer (some (⟨g, 0, none⟩)), Value.int .i32 ((Utf8.decode s_1 i).1 : Int)] h_5 fun v_1 h_6 =>
 ∃ t25_0 : Int, ∃ t25_1 : Value, v_1 = Value.tuple #[Value.int .i64 t25_0, t25_1] ∧
 CallsU Tryz.prog 71 [Value.int .i32 ((Utf8.decode s_1 i).1 : Int)] h_6 fun v_2 h_7 =>
 ∃ t39 : Bool, v_2 = Value.bool t39 ∧
 ∃ m_1, m_1 < m ∧ J m_1 runsA runsn runsc t39 h_7)
  (Br (inRun)
  (∀ t31 : Int, t31 = IntKind.i64.wrap (((runsn : Nat) : Int) - 1) →
 ∃ ad : Addr, runsA = some ad ∧ 0 ≤ t31 ∧ t31 < ((runsn : Nat) : Int) ∧
 ∃ t33 : ByteArray, LdN h_5 (Addr.add ad (Int.toNat t31 * 1)) [Value.string t33] ∧
 ((t33.size + (Utf8.encode ((Utf8.decode s_1 i).1 : Int)).size : Nat) : Int) ≤ 9223372036854775807 ∧
 ∃ ad_1 : Addr, runsA = some ad_1 ∧ 0 ≤ t31 ∧ t31 < ((runsn : Nat) : Int) ∧
 ∃ b : Blk, h_5 (Addr.block (Addr.add ad_1 (Int.toNat t31 * 1))) = some b ∧ b.fz = (0, 0) ∧ Addr.spot (Addr.add ad_1 (Int.toNat t31 * 1)) = none ∧ Addr.off (Addr.add ad_1 (Int.toNat t31 * 1)) + 1 ≤ b.cells.length ∧
 ∀ h_8 : Heap, h_8 = Heap.put h_5 (Addr.block (Addr.add ad_1 (Int.toNat t31 * 1))) { b with cells := setSeg b.cells (Addr.off (Addr.add ad_1 (Int.toNat t31 * 1))) [Value.string (t33 ++ (Utf8.encode ((Utf8.decode s_1 i).1 : Int)))] } →
 CallsU Tryz.prog 71 [Value.int .i32 ((Utf8.decode s_1 i).1 : Int)] h_8 fun v_3 h_9 =>
 ∃ t39_1 : Bool, v_3 = Value.bool t39_1 ∧
 ∃ m_1, m_1 < m ∧ J m_1 runsA runsn runsc t39_1 h_9)
  (CallsU Tryz.prog 73 [Value.pointer (some (⟨g, 0, none⟩)), Value.int .u8 48] h_5 fun v_4 h_10 =>
 ∃ t14 : Value, v_4 = t14 ∧
 ∀ (g_2 : Nat) (h_11 : Heap), h_10 g_2 = none → h_11 = Heap.put h_10 g_2 ⟨[Value.string (Utf8.encode ((Utf8.decode s_1 i).1 : Int))], 9, (0, 0)⟩ →
 ∃ xs : List Value, RdS h_11 (some ⟨g_2, 0, none⟩) (1 * 1) xs ∧ (∀ x ∈ xs, one x = true) ∧
 (runsn + 1 ≤ runsc → ∃ (ad_2 : Addr) (b_1 : Blk), runsA = some ad_2 ∧ ad_2.spot = none ∧ h_11 ad_2.block = some b_1 ∧ b_1.fz = (0, 0) ∧ ad_2.off + runsn * 1 + 1 * 1 ≤ b_1.cells.length ∧
 ∀ h_13 : Heap, h_13 = Heap.put h_11 ad_2.block { b_1 with cells := setSeg b_1.cells (ad_2.off + runsn * 1) xs } →
 CallsU Tryz.prog 71 [Value.int .i32 ((Utf8.decode s_1 i).1 : Int)] h_13 fun v_6 h_15 =>
 ∃ t39_2 : Bool, v_6 = Value.bool t39_2 ∧
 ∃ m_1, m_1 < m ∧ J m_1 runsA (runsn + 1) runsc t39_2 h_15) ∧
 (runsc < runsn + 1 → ∃ olds : List Value, RdS h_11 runsA (runsn * 1) olds ∧ (runsn + 1) * 16 ≤ 140737488355328 ∧
 ∀ (g_3 cap : Nat) (h_14 : Heap), h_11 g_3 = none → runsn + 1 ≤ cap → h_14 = Heap.put h_11 g_3 ⟨olds ++ xs ++ repV [Value.string ByteArray.empty] (cap - (runsn + 1)), 9, (0, 0)⟩ →
 CallsU Tryz.prog 71 [Value.int .i32 ((Utf8.decode s_1 i).1 : Int)] h_14 fun v_7 h_16 =>
 ∃ t39_3 : Bool, v_7 = Value.bool t39_3 ∧
 ∃ m_1, m_1 < m ∧ J m_1 (some ⟨g_3, 0, none⟩) (runsn + 1) cap t39_3 h_16))))
  (CallsU Tryz.prog 74 [Value.pointer (some (⟨g, 0, none⟩))] h_3 fun v_8 h_17 =>
 ∃ t40 : ByteArray, v_8 = Value.string t40 ∧
 R (Value.tuple #[Value.string t40, Value.slice runsA runsn runsc]) h_17)

set_option maxRecDepth 100000 in
theorem measure_scan_ok {s : ByteArray} {h : Heap} {R : Value → Heap → Prop} (hv : measure_scan_vc s h R) : CallsU Tryz.prog 29 [Value.string s] h R :=
  fn_sound Tryz.func29 (by kernel_rfl) (by kernel_rfl) (by kernel_rfl) (fun t => Nat.beq t 4) (.two .nil (.two .nil (.two .nil (.two .nil (.two (.two .nil (.one (.loop ⟨[(5, Sh.slice), (6, Sh.bool)], []⟩ .nil))) .nil))))) [Value.string s] h R (by kernel_rfl)
    (Eq.mp (show measure_scan_vc s h R = fnV Tryz.prog Tryz.f29 (fun t => Nat.beq t 4) (.two .nil (.two .nil (.two .nil (.two .nil (.two (.two .nil (.one (.loop ⟨[(5, Sh.slice), (6, Sh.bool)], []⟩ .nil))) .nil))))) [Value.string s] h R by kernel_rfl) hv)

def measure_number_vc (form : ByteArray) (runsA : Option Addr) (runsn _runsc : Nat) (h : Heap) (R : Value → Heap → Prop) : Prop :=
 Br (form.toList == (⟨#[48]⟩ : ByteArray).toList)
  (∃ ad : Addr, runsA = some ad ∧ 0 ≤ (0 : Int) ∧ (0 : Int) < ((runsn : Nat) : Int) ∧
 ∃ t20 : ByteArray, LdN h (Addr.add ad (0 * 1)) [Value.string t20] ∧
 CallsU Tryz.prog 77 [Value.string t20] h fun v h_1 =>
 ∃ t21_0 : Int, ∃ t21_1 : Bool, v = Value.tuple #[Value.int .i64 t21_0, Value.bool t21_1] ∧
 Br (!t21_1)
  (R (Value.tuple #[Value.agg #[Value.bool false, Value.slice none 0 0, Value.slice none 0 0], Value.bool false]) h_1)
  (CallsU Tryz.prog 22 [Value.int .i64 t21_0, Value.int .i64 1] h_1 fun v_1 h_2 =>
 ∃ t28_0_0 : Bool, ∃ t28_0_1A : Option Addr, ∃ t28_0_1n t28_0_1c : Nat, ∃ t28_0_2A : Option Addr, ∃ t28_0_2n t28_0_2c : Nat, ∃ t28_1 : Bool, v_1 = Value.tuple #[Value.agg #[Value.bool t28_0_0, Value.slice t28_0_1A t28_0_1n t28_0_1c, Value.slice t28_0_2A t28_0_2n t28_0_2c], Value.bool t28_1] ∧
 R (Value.tuple #[Value.agg #[Value.bool t28_0_0, Value.slice t28_0_1A t28_0_1n t28_0_1c, Value.slice t28_0_2A t28_0_2n t28_0_2c], Value.bool t28_1]) h_2))
  (Br (form.toList == (⟨#[48, 46, 48]⟩ : ByteArray).toList)
  (∃ ad_1 : Addr, runsA = some ad_1 ∧ 0 ≤ (0 : Int) ∧ (0 : Int) < ((runsn : Nat) : Int) ∧
 ∃ t35 : ByteArray, LdN h (Addr.add ad_1 (0 * 1)) [Value.string t35] ∧
 ∃ ad_2 : Addr, runsA = some ad_2 ∧ 0 ≤ (1 : Int) ∧ (1 : Int) < ((runsn : Nat) : Int) ∧
 ∃ t38 : ByteArray, LdN h (Addr.add ad_2 (1 * 1)) [Value.string t38] ∧
 CallsU Tryz.prog 78 [Value.string t35, Value.string t38] h fun v_2 h_3 =>
 ∃ t39_0_0 : Bool, ∃ t39_0_1A : Option Addr, ∃ t39_0_1n t39_0_1c : Nat, ∃ t39_0_2A : Option Addr, ∃ t39_0_2n t39_0_2c : Nat, ∃ t39_1 : Bool, v_2 = Value.tuple #[Value.agg #[Value.bool t39_0_0, Value.slice t39_0_1A t39_0_1n t39_0_1c, Value.slice t39_0_2A t39_0_2n t39_0_2c], Value.bool t39_1] ∧
 R (Value.tuple #[Value.agg #[Value.bool t39_0_0, Value.slice t39_0_1A t39_0_1n t39_0_1c, Value.slice t39_0_2A t39_0_2n t39_0_2c], Value.bool t39_1]) h_3)
  (Br (form.toList == (⟨#[48, 47, 48]⟩ : ByteArray).toList)
  (∃ ad_3 : Addr, runsA = some ad_3 ∧ 0 ≤ (0 : Int) ∧ (0 : Int) < ((runsn : Nat) : Int) ∧
 ∃ t46 : ByteArray, LdN h (Addr.add ad_3 (0 * 1)) [Value.string t46] ∧
 ∃ ad_4 : Addr, runsA = some ad_4 ∧ 0 ≤ (1 : Int) ∧ (1 : Int) < ((runsn : Nat) : Int) ∧
 ∃ t49 : ByteArray, LdN h (Addr.add ad_4 (1 * 1)) [Value.string t49] ∧
 CallsU Tryz.prog 79 [Value.string t46, Value.string t49] h fun v_3 h_4 =>
 ∃ t50_0_0 : Bool, ∃ t50_0_1A : Option Addr, ∃ t50_0_1n t50_0_1c : Nat, ∃ t50_0_2A : Option Addr, ∃ t50_0_2n t50_0_2c : Nat, ∃ t50_1 : Bool, v_3 = Value.tuple #[Value.agg #[Value.bool t50_0_0, Value.slice t50_0_1A t50_0_1n t50_0_1c, Value.slice t50_0_2A t50_0_2n t50_0_2c], Value.bool t50_1] ∧
 R (Value.tuple #[Value.agg #[Value.bool t50_0_0, Value.slice t50_0_1A t50_0_1n t50_0_1c, Value.slice t50_0_2A t50_0_2n t50_0_2c], Value.bool t50_1]) h_4)
  (Br (form.toList == (⟨#[48, 32, 48, 47, 48]⟩ : ByteArray).toList)
  (∃ ad_5 : Addr, runsA = some ad_5 ∧ 0 ≤ (0 : Int) ∧ (0 : Int) < ((runsn : Nat) : Int) ∧
 ∃ t58 : ByteArray, LdN h (Addr.add ad_5 (0 * 1)) [Value.string t58] ∧
 CallsU Tryz.prog 77 [Value.string t58] h fun v_4 h_5 =>
 ∃ t59_0 : Int, ∃ t59_1 : Bool, v_4 = Value.tuple #[Value.int .i64 t59_0, Value.bool t59_1] ∧
 ∃ ad_6 : Addr, runsA = some ad_6 ∧ 0 ≤ (1 : Int) ∧ (1 : Int) < ((runsn : Nat) : Int) ∧
 ∃ t65 : ByteArray, LdN h_5 (Addr.add ad_6 (1 * 1)) [Value.string t65] ∧
 ∃ ad_7 : Addr, runsA = some ad_7 ∧ 0 ≤ (2 : Int) ∧ (2 : Int) < ((runsn : Nat) : Int) ∧
 ∃ t68 : ByteArray, LdN h_5 (Addr.add ad_7 (2 * 1)) [Value.string t68] ∧
 CallsU Tryz.prog 79 [Value.string t65, Value.string t68] h_5 fun v_5 h_6 =>
 ∃ t69_0_0 : Bool, ∃ t69_0_1A : Option Addr, ∃ t69_0_1n t69_0_1c : Nat, ∃ t69_0_2A : Option Addr, ∃ t69_0_2n t69_0_2c : Nat, ∃ t69_1 : Bool, v_5 = Value.tuple #[Value.agg #[Value.bool t69_0_0, Value.slice t69_0_1A t69_0_1n t69_0_1c, Value.slice t69_0_2A t69_0_2n t69_0_2c], Value.bool t69_1] ∧
 ∃ C : Bool → Heap → Prop, (∀ (t77 : Bool) (h_7 : Heap), C t77 h_7 →
 Br (t77)
  (R (Value.tuple #[Value.agg #[Value.bool false, Value.slice none 0 0, Value.slice none 0 0], Value.bool false]) h_7)
  (CallsU Tryz.prog 22 [Value.int .i64 t59_0, Value.int .i64 1] h_7 fun v_6 h_8 =>
 ∃ t81_0_0 : Bool, ∃ t81_0_1A : Option Addr, ∃ t81_0_1n t81_0_1c : Nat, ∃ t81_0_2A : Option Addr, ∃ t81_0_2n t81_0_2c : Nat, ∃ t81_1 : Bool, v_6 = Value.tuple #[Value.agg #[Value.bool t81_0_0, Value.slice t81_0_1A t81_0_1n t81_0_1c, Value.slice t81_0_2A t81_0_2n t81_0_2c], Value.bool t81_1] ∧
 CallsU Tryz.prog 25 [Value.agg #[Value.bool t81_0_0, Value.slice t81_0_1A t81_0_1n t81_0_1c, Value.slice t81_0_2A t81_0_2n t81_0_2c], Value.agg #[Value.bool t69_0_0, Value.slice t69_0_1A t69_0_1n t69_0_1c, Value.slice t69_0_2A t69_0_2n t69_0_2c]] h_8 fun v_7 h_9 =>
 ∃ t86_0 : Bool, ∃ t86_1A : Option Addr, ∃ t86_1n t86_1c : Nat, ∃ t86_2A : Option Addr, ∃ t86_2n t86_2c : Nat, v_7 = Value.agg #[Value.bool t86_0, Value.slice t86_1A t86_1n t86_1c, Value.slice t86_2A t86_2n t86_2c] ∧
 R (Value.tuple #[Value.agg #[Value.bool t86_0, Value.slice t86_1A t86_1n t86_1c, Value.slice t86_2A t86_2n t86_2c], Value.bool true]) h_9)) ∧
 Br (!t59_1)
  (C true h_6)
  (C (!t69_1) h_6))
  (R (Value.tuple #[Value.agg #[Value.bool false, Value.slice none 0 0, Value.slice none 0 0], Value.bool false]) h))))

set_option maxRecDepth 100000 in
theorem measure_number_ok {form : ByteArray} {runsA : Option Addr} {runsn runsc : Nat} {h : Heap} {R : Value → Heap → Prop} (hv : measure_number_vc form runsA runsn runsc h R) : CallsU Tryz.prog 32 [Value.string form, Value.slice runsA runsn runsc] h R :=
  fn_sound Tryz.func32 (by kernel_rfl) (by kernel_rfl) (by kernel_rfl) (fun _ => false) (.two .nil (.two (.two .nil (.one (.two .nil (.two .nil (.two .nil (.two (.two (.ord [0, 1, 2, 3, 4, 5, 6, 7, 8, 9, 10]) .nil) (.two .nil (.two (.two (.ord [0, 1, 2, 3, 4, 5, 6, 7, 8, 9, 10]) .nil) (.two .nil (.two (.two .nil (.two (.ord [0, 1, 2, 3, 4, 5, 6, 7, 8, 9, 10, 11, 12]) (.two (.cut ⟨[(77, Sh.bool)], []⟩ .nil .nil) .nil))) .nil)))))))))) .nil)) [Value.string form, Value.slice runsA runsn runsc] h R (by kernel_rfl)
    (Eq.mp (show measure_number_vc form runsA runsn runsc h R = fnV Tryz.prog Tryz.f32 (fun _ => false) (.two .nil (.two (.two .nil (.one (.two .nil (.two .nil (.two .nil (.two (.two (.ord [0, 1, 2, 3, 4, 5, 6, 7, 8, 9, 10]) .nil) (.two .nil (.two (.two (.ord [0, 1, 2, 3, 4, 5, 6, 7, 8, 9, 10]) .nil) (.two .nil (.two (.two .nil (.two (.ord [0, 1, 2, 3, 4, 5, 6, 7, 8, 9, 10, 11, 12]) (.two (.cut ⟨[(77, Sh.bool)], []⟩ .nil .nil) .nil))) .nil)))))))))) .nil)) [Value.string form, Value.slice runsA runsn runsc] h R by kernel_rfl) hv)

def measure_unit_vc (name : ByteArray) (h : Heap) (R : Value → Heap → Prop) : Prop :=
 Br (name.toList == (⟨#[109, 109]⟩ : ByteArray).toList)
  (CallsU Tryz.prog 22 [Value.int .i64 100, Value.int .i64 1] h fun v h_1 =>
 ∃ t7_0_0 : Bool, ∃ t7_0_1A : Option Addr, ∃ t7_0_1n t7_0_1c : Nat, ∃ t7_0_2A : Option Addr, ∃ t7_0_2n t7_0_2c : Nat, ∃ t7_1 : Bool, v = Value.tuple #[Value.agg #[Value.bool t7_0_0, Value.slice t7_0_1A t7_0_1n t7_0_1c, Value.slice t7_0_2A t7_0_2n t7_0_2c], Value.bool t7_1] ∧
 R (Value.tuple #[Value.agg #[Value.bool t7_0_0, Value.slice t7_0_1A t7_0_1n t7_0_1c, Value.slice t7_0_2A t7_0_2n t7_0_2c], Value.bool t7_1]) h_1)
  (Br (name.toList == (⟨#[99, 109]⟩ : ByteArray).toList)
  (CallsU Tryz.prog 22 [Value.int .i64 1000, Value.int .i64 1] h fun v_1 h_2 =>
 ∃ t12_0_0 : Bool, ∃ t12_0_1A : Option Addr, ∃ t12_0_1n t12_0_1c : Nat, ∃ t12_0_2A : Option Addr, ∃ t12_0_2n t12_0_2c : Nat, ∃ t12_1 : Bool, v_1 = Value.tuple #[Value.agg #[Value.bool t12_0_0, Value.slice t12_0_1A t12_0_1n t12_0_1c, Value.slice t12_0_2A t12_0_2n t12_0_2c], Value.bool t12_1] ∧
 R (Value.tuple #[Value.agg #[Value.bool t12_0_0, Value.slice t12_0_1A t12_0_1n t12_0_1c, Value.slice t12_0_2A t12_0_2n t12_0_2c], Value.bool t12_1]) h_2)
  (Br (name.toList == (⟨#[109]⟩ : ByteArray).toList)
  (CallsU Tryz.prog 22 [Value.int .i64 100000, Value.int .i64 1] h fun v_2 h_3 =>
 ∃ t17_0_0 : Bool, ∃ t17_0_1A : Option Addr, ∃ t17_0_1n t17_0_1c : Nat, ∃ t17_0_2A : Option Addr, ∃ t17_0_2n t17_0_2c : Nat, ∃ t17_1 : Bool, v_2 = Value.tuple #[Value.agg #[Value.bool t17_0_0, Value.slice t17_0_1A t17_0_1n t17_0_1c, Value.slice t17_0_2A t17_0_2n t17_0_2c], Value.bool t17_1] ∧
 R (Value.tuple #[Value.agg #[Value.bool t17_0_0, Value.slice t17_0_1A t17_0_1n t17_0_1c, Value.slice t17_0_2A t17_0_2n t17_0_2c], Value.bool t17_1]) h_3)
  (Br (name.toList == (⟨#[105, 110]⟩ : ByteArray).toList)
  (CallsU Tryz.prog 22 [Value.int .i64 2540, Value.int .i64 1] h fun v_3 h_4 =>
 ∃ t22_0_0 : Bool, ∃ t22_0_1A : Option Addr, ∃ t22_0_1n t22_0_1c : Nat, ∃ t22_0_2A : Option Addr, ∃ t22_0_2n t22_0_2c : Nat, ∃ t22_1 : Bool, v_3 = Value.tuple #[Value.agg #[Value.bool t22_0_0, Value.slice t22_0_1A t22_0_1n t22_0_1c, Value.slice t22_0_2A t22_0_2n t22_0_2c], Value.bool t22_1] ∧
 R (Value.tuple #[Value.agg #[Value.bool t22_0_0, Value.slice t22_0_1A t22_0_1n t22_0_1c, Value.slice t22_0_2A t22_0_2n t22_0_2c], Value.bool t22_1]) h_4)
  (R (Value.tuple #[Value.agg #[Value.bool false, Value.slice none 0 0, Value.slice none 0 0], Value.bool false]) h))))

set_option maxRecDepth 100000 in
theorem measure_unit_ok {name : ByteArray} {h : Heap} {R : Value → Heap → Prop} (hv : measure_unit_vc name h R) : CallsU Tryz.prog 33 [Value.string name] h R :=
  fn_sound Tryz.func33 (by kernel_rfl) (by kernel_rfl) (by kernel_rfl) (fun _ => false) .nil [Value.string name] h R (by kernel_rfl)
    (Eq.mp (show measure_unit_vc name h R = fnV Tryz.prog Tryz.f33 (fun _ => false) .nil [Value.string name] h R by kernel_rfl) hv)

def measure_isDigit_vc (c : Int) (h : Heap) (R : Value → Heap → Prop) : Prop :=
 Br (decide (c ≥ 48))
  (R (Value.bool (decide (c ≤ 57))) h)
  (R (Value.bool false) h)

set_option maxRecDepth 100000 in
theorem measure_isDigit_ok {c : Int} {h : Heap} {R : Value → Heap → Prop} (hv : measure_isDigit_vc c h R) : CallsU Tryz.prog 71 [Value.int .i32 c] h R :=
  fn_sound Tryz.func71 (by kernel_rfl) (by kernel_rfl) (by kernel_rfl) (fun _ => false) .nil [Value.int .i32 c] h R (by kernel_rfl)
    (Eq.mp (show measure_isDigit_vc c h R = fnV Tryz.prog Tryz.f71 (fun _ => false) .nil [Value.int .i32 c] h R by kernel_rfl) hv)

def measure_whole_vc (digits : ByteArray) (h : Heap) (R : Value → Heap → Prop) : Prop :=
 ∃ C : Heap → Prop, (∀  (h_1 : Heap), C h_1 →
 CallsU Tryz.prog 122 [Value.string digits] h_1 fun v h_2 =>
 ∃ t21_0 : Int, ∃ t21_1 : Value, v = Value.tuple #[Value.int .i64 t21_0, t21_1] ∧
 isIf t21_1 = true ∧
 R (Value.tuple #[Value.int .i64 t21_0, Value.bool (isNilI t21_1)]) h_2) ∧
 Br (decide (((digits.size : Nat) : Int) > 7))
  (R (Value.tuple #[Value.int .i64 0, Value.bool false]) h)
  (Br (decide (((digits.size : Nat) : Int) > 1))
  (∃ c : UInt8, 0 ≤ (0 : Int) ∧ digits[(0 : Nat)]? = some c ∧
 Br (((c.toNat : Int) : Int) == 48)
  (R (Value.tuple #[Value.int .i64 0, Value.bool false]) h)
  (C h))
  (C h))

set_option maxRecDepth 100000 in
theorem measure_whole_ok {digits : ByteArray} {h : Heap} {R : Value → Heap → Prop} (hv : measure_whole_vc digits h R) : CallsU Tryz.prog 77 [Value.string digits] h R :=
  fn_sound Tryz.func77 (by kernel_rfl) (by kernel_rfl) (by kernel_rfl) (fun _ => false) (.two .nil (.cut ⟨[], []⟩ .nil (.two .nil (.two (.ord [0, 1, 2, 3, 4]) .nil)))) [Value.string digits] h R (by kernel_rfl)
    (Eq.mp (show measure_whole_vc digits h R = fnV Tryz.prog Tryz.f77 (fun _ => false) (.two .nil (.cut ⟨[], []⟩ .nil (.two .nil (.two (.ord [0, 1, 2, 3, 4]) .nil)))) [Value.string digits] h R by kernel_rfl) hv)

def measure_decimal_vc (before : ByteArray) (behind : ByteArray) (h : Heap) (R : Value → Heap → Prop) : Prop :=
 CallsU Tryz.prog 77 [Value.string before] h fun v h_1 =>
 ∃ t12_0 : Int, ∃ t12_1 : Bool, v = Value.tuple #[Value.int .i64 t12_0, Value.bool t12_1] ∧
 ∃ C : Bool → Heap → Prop, (∀ (t21 : Bool) (h_2 : Heap), C t21 h_2 →
 Br (t21)
  (R (Value.tuple #[Value.agg #[Value.bool false, Value.slice none 0 0, Value.slice none 0 0], Value.bool false]) h_2)
  (∃ J : Nat → Int → Int → Int → Heap → Prop, (∃ m, J m t12_0 1 0 h_2) ∧
 ∀ (m : Nat) (n : Int) (den : Int) (t25 : Int) (h_3 : Heap), J m n den t25 h_3 →
 Br (decide (t25 < ((behind.size : Nat) : Int)))
  (∀ t29 : Int, t29 = IntKind.i64.wrap (10 * n) →
 ∃ c : UInt8, 0 ≤ t25 ∧ behind[(Int.toNat t25 : Nat)]? = some c ∧
 ∀ t33 : Int, t33 = IntKind.u8.wrap ((c.toNat : Int) - 48) →
 ∀ t35 : Int, t35 = IntKind.i64.wrap (t29 + (IntKind.i64.wrap t33)) →
 ∀ t37 : Int, t37 = IntKind.i64.wrap (den * 10) →
 ∀ t38 : Int, t38 = IntKind.i64.wrap (t25 + 1) →
 ∃ m_1, m_1 < m ∧ J m_1 t35 t37 t38 h_3)
  (CallsU Tryz.prog 22 [Value.int .i64 n, Value.int .i64 den] h_3 fun v_1 h_4 =>
 ∃ t41_0_0 : Bool, ∃ t41_0_1A : Option Addr, ∃ t41_0_1n t41_0_1c : Nat, ∃ t41_0_2A : Option Addr, ∃ t41_0_2n t41_0_2c : Nat, ∃ t41_1 : Bool, v_1 = Value.tuple #[Value.agg #[Value.bool t41_0_0, Value.slice t41_0_1A t41_0_1n t41_0_1c, Value.slice t41_0_2A t41_0_2n t41_0_2c], Value.bool t41_1] ∧
 R (Value.tuple #[Value.agg #[Value.bool t41_0_0, Value.slice t41_0_1A t41_0_1n t41_0_1c, Value.slice t41_0_2A t41_0_2n t41_0_2c], Value.bool t41_1]) h_4))) ∧
 Br (!t12_1)
  (C true h_1)
  (C (decide (((behind.size : Nat) : Int) > 4)) h_1)

set_option maxRecDepth 100000 in
theorem measure_decimal_ok {before : ByteArray} {behind : ByteArray} {h : Heap} {R : Value → Heap → Prop} (hv : measure_decimal_vc before behind h R) : CallsU Tryz.prog 78 [Value.string before, Value.string behind] h R :=
  fn_sound Tryz.func78 (by kernel_rfl) (by kernel_rfl) (by kernel_rfl) (fun _ => false) (.two .nil (.two .nil (.two (.cut ⟨[(21, Sh.bool)], []⟩ .nil .nil) (.two .nil (.two (.two .nil (.one (.loop ⟨[(6, Sh.int .i64), (8, Sh.int .i64), (25, Sh.int .i64)], []⟩ .nil))) .nil))))) [Value.string before, Value.string behind] h R (by kernel_rfl)
    (Eq.mp (show measure_decimal_vc before behind h R = fnV Tryz.prog Tryz.f78 (fun _ => false) (.two .nil (.two .nil (.two (.cut ⟨[(21, Sh.bool)], []⟩ .nil .nil) (.two .nil (.two (.two .nil (.one (.loop ⟨[(6, Sh.int .i64), (8, Sh.int .i64), (25, Sh.int .i64)], []⟩ .nil))) .nil))))) [Value.string before, Value.string behind] h R by kernel_rfl) hv)

def measure_fraction_vc (above : ByteArray) (below : ByteArray) (h : Heap) (R : Value → Heap → Prop) : Prop :=
 CallsU Tryz.prog 77 [Value.string above] h fun v h_1 =>
 ∃ t12_0 : Int, ∃ t12_1 : Bool, v = Value.tuple #[Value.int .i64 t12_0, Value.bool t12_1] ∧
 CallsU Tryz.prog 77 [Value.string below] h_1 fun v_1 h_2 =>
 ∃ t17_0 : Int, ∃ t17_1 : Bool, v_1 = Value.tuple #[Value.int .i64 t17_0, Value.bool t17_1] ∧
 Br (!t12_1)
  (R (Value.tuple #[Value.agg #[Value.bool false, Value.slice none 0 0, Value.slice none 0 0], Value.bool false]) h_2)
  (Br (!t17_1)
  (R (Value.tuple #[Value.agg #[Value.bool false, Value.slice none 0 0, Value.slice none 0 0], Value.bool false]) h_2)
  (Br (decide (t17_0 < 1))
  (R (Value.tuple #[Value.agg #[Value.bool false, Value.slice none 0 0, Value.slice none 0 0], Value.bool false]) h_2)
  (Br (decide (t17_0 > 999))
  (R (Value.tuple #[Value.agg #[Value.bool false, Value.slice none 0 0, Value.slice none 0 0], Value.bool false]) h_2)
  (CallsU Tryz.prog 22 [Value.int .i64 t12_0, Value.int .i64 t17_0] h_2 fun v_2 h_3 =>
 ∃ t37_0_0 : Bool, ∃ t37_0_1A : Option Addr, ∃ t37_0_1n t37_0_1c : Nat, ∃ t37_0_2A : Option Addr, ∃ t37_0_2n t37_0_2c : Nat, ∃ t37_1 : Bool, v_2 = Value.tuple #[Value.agg #[Value.bool t37_0_0, Value.slice t37_0_1A t37_0_1n t37_0_1c, Value.slice t37_0_2A t37_0_2n t37_0_2c], Value.bool t37_1] ∧
 R (Value.tuple #[Value.agg #[Value.bool t37_0_0, Value.slice t37_0_1A t37_0_1n t37_0_1c, Value.slice t37_0_2A t37_0_2n t37_0_2c], Value.bool t37_1]) h_3))))

set_option maxRecDepth 100000 in
theorem measure_fraction_ok {above : ByteArray} {below : ByteArray} {h : Heap} {R : Value → Heap → Prop} (hv : measure_fraction_vc above below h R) : CallsU Tryz.prog 79 [Value.string above, Value.string below] h R :=
  fn_sound Tryz.func79 (by kernel_rfl) (by kernel_rfl) (by kernel_rfl) (fun _ => false) .nil [Value.string above, Value.string below] h R (by kernel_rfl)
    (Eq.mp (show measure_fraction_vc above below h R = fnV Tryz.prog Tryz.f79 (fun _ => false) .nil [Value.string above, Value.string below] h R by kernel_rfl) hv)

end Go.Proofs.YtccplhjglhdopaaGreatDoor

/-
  Contracts: measure: isDigit, scan.
-/
namespace Go.Proofs.YtccplhjglhdopaaGreatDoor
open Go Go.Vcg
attribute [local irreducible] Br

theorem isDigit_c (c : Int) (h : Heap) : CallsU Tryz.prog 71 [.int .i32 c] h fun r h' => r = .bool (decide (48 ≤ c ∧ c ≤ 57)) ∧ h = h' := by
  apply measure_isDigit_ok
  refine Br.mk (fun q => ⟨?_, rfl⟩) (fun q => ⟨?_, rfl⟩)
  · have := of_decide_eq_true q
    congr 1
    by_cases e : c ≤ 57
    · rw [decide_eq_true e, decide_eq_true ⟨this, e⟩]
    · rw [decide_eq_false e, decide_eq_false (fun q => e q.2)]
  · have := of_decide_eq_false q
    congr 1
    rw [decide_eq_false (fun q => this q.1)]

/-! ### the plain side of a step -/
def ScC (l : List UInt8) (i : Nat) (t : Sc) : Prop :=
  i ≤ l.length ∧ (low (l.take i) → t = scanL (l.take i)) ∧ (¬ low (l.take i) → ∃ x ∈ t.form, 128 ≤ x.toNat) ∧ t.form.count 48 = t.runs.length ∧ (t.inRun = true → t.runs ≠ []) ∧ t.form.length ≤ 4 * i ∧ t.runs.length ≤ i ∧ (∀ r ∈ t.runs, r.length ≤ i) ∧ ∀ r ∈ t.runs, r ≠ [] ∧ ∀ y ∈ r, isDg y = true

theorem ScC.init (l : List UInt8) : ScC l 0 ⟨[], [], false⟩ :=
  ⟨Nat.zero_le _, fun _ => by simp [scanL], fun q => absurd (by simp [low]) q, rfl, (fun q => by cases q), by simp, by simp, by simp, by simp⟩

theorem scanL_snoc (l : List UInt8) (x : UInt8) : scanL (l ++ [x]) = (scanL l).step x := by simp [scanL, List.foldl_append]

theorem low_snoc {l : List UInt8} {x : UInt8} : low (l ++ [x]) ↔ low l ∧ x.toNat < 128 := by
  unfold low
  constructor
  · intro h; exact ⟨fun y hy => h y (by simp [hy]), h x (by simp)⟩
  · rintro ⟨h1, h2⟩ y hy
    rcases List.mem_append.1 hy with q | q
    · exact h1 y q
    · rw [List.mem_singleton.1 q]; exact h2

theorem addLast_len (rs : List (List UInt8)) (x : UInt8) : (addLast rs x).length = rs.length := by simp [addLast]

theorem ScC.lo {l : List UInt8} {i : Nat} {t : Sc} {x : UInt8} (h : ScC l i t) (hx : l[i]? = some x) (hl : x.toNat < 128) : ScC l (i + 1) (t.step x) := by
  obtain ⟨h1, h2, h3, h4, h5, h6, h7, h8, h9⟩ := h
  have hi : i < l.length := (List.getElem?_eq_some_iff.1 hx).1
  have et : l.take (i + 1) = l.take i ++ [x] := by rw [List.take_add_one, hx]; rfl
  have hform : ∀ y ∈ t.form, y ∈ (t.step x).form := fun y hy => by
    unfold Sc.step
    split
    · split
      · exact hy
      · simp [hy]
    · simp [hy]
  refine ⟨hi, fun q => ?_, fun q => ?_, ?_⟩
  · rw [et] at q ⊢
    rw [scanL_snoc, ← h2 (low_snoc.1 q).1]
  · rw [et, low_snoc] at q
    obtain ⟨y, hy, hh⟩ := h3 (fun q2 => q ⟨q2, hl⟩)
    exact ⟨y, hform y hy, hh⟩
  · unfold Sc.step
    by_cases hd : isDg x = true
    · rw [if_pos hd]
      by_cases hr : t.inRun = true
      · rw [if_pos hr]
        have hne := h5 hr
        refine ⟨by simp only [addLast_len]; exact h4, fun _ => ?_, by simp only; omega, by simp only [addLast_len]; omega, fun r hm => ?_, fun r hm => ?_⟩
        · intro e
          have := congrArg List.length e
          rw [addLast_len] at this
          exact hne (List.length_eq_zero_iff.1 (by simpa using this))
        · simp only [addLast] at hm
          rcases List.mem_or_eq_of_mem_set hm with hm | rfl
          · have := h8 r hm; omega
          · rw [List.length_append]
            have : (t.runs.getD (t.runs.length - 1) []).length ≤ i := by
              rw [List.getD_eq_getElem?_getD]
              cases hg : t.runs[t.runs.length - 1]? with
              | none => simp
              | some y => exact h8 y (List.mem_of_getElem? hg)
            simp only [List.length_singleton]; omega
        · simp only [addLast] at hm
          rcases List.mem_or_eq_of_mem_set hm with hm | rfl
          · exact h9 r hm
          · refine ⟨by simp, fun y hy => ?_⟩
            rcases List.mem_append.1 hy with hy | hy
            · rw [List.getD_eq_getElem?_getD] at hy
              cases hg : t.runs[t.runs.length - 1]? with
              | none => rw [hg] at hy; simp at hy
              | some z => rw [hg] at hy; exact (h9 z (List.mem_of_getElem? hg)).2 y hy
            · rw [List.mem_singleton.1 hy]; exact hd
      · rw [if_neg hr]
        refine ⟨by simp [List.count_append, h4], fun _ => by simp, by simp; omega, by simp; omega, fun r hm => ?_, fun r hm => ?_⟩
        · simp only [List.mem_append, List.mem_singleton] at hm
          rcases hm with hm | rfl
          · have := h8 r hm; omega
          · simp
        · simp only [List.mem_append, List.mem_singleton] at hm
          rcases hm with hm | rfl
          · exact h9 r hm
          · exact ⟨by simp, fun y hy => by rw [List.mem_singleton.1 hy]; exact hd⟩
    · rw [if_neg hd]
      have h48 : x ≠ 48 := fun e => by subst e; exact hd (by decide)
      refine ⟨?_, (fun q => by cases q), by simp; omega, by simp only; omega, fun r hm => by have := h8 r hm; omega, h9⟩
      simp only [List.count_append, List.count_singleton]
      rw [if_neg (by simpa using h48)]
      simpa using h4

theorem ScC.hi {l : List UInt8} {i w : Nat} {t : Sc} {x : UInt8} {ys : List UInt8} (h : ScC l i t) (hx : l[i]? = some x) (hl : 128 ≤ x.toNat) (hw : 1 ≤ w) (hle : i + w ≤ l.length) (hne : ys ≠ []) (hy : ∀ y ∈ ys, 128 ≤ y.toNat) (hy4 : ys.length ≤ 4) :
    ScC l (i + w) ⟨t.form ++ ys, t.runs, false⟩ := by
  obtain ⟨h1, h2, h3, h4, h5, h6, h7, h8, h9⟩ := h
  have hnl : ¬ low (l.take (i + w)) := fun q => by
    have : x ∈ l.take (i + w) := by
      refine List.mem_of_getElem? (i := i) ?_
      rw [List.getElem?_take_of_lt (by omega), hx]
    have := q x this
    omega
  refine ⟨hle, fun q => absurd q hnl, fun _ => ?_, ?_, (fun q => by cases q), by simp; omega, by simp only; omega, fun r hm => by have := h8 r hm; omega, h9⟩
  · obtain ⟨y, r, rfl⟩ := List.exists_cons_of_ne_nil hne
    exact ⟨y, by simp, hy y (by simp)⟩
  · simp only [List.count_append]
    rw [List.count_eq_zero_of_not_mem (l := ys) fun q => by have := hy 48 q; revert this; decide]
    simpa using h4
end Go.Proofs.YtccplhjglhdopaaGreatDoor

/-
  Contract: measure.scan.
-/
namespace Go.Proofs.YtccplhjglhdopaaGreatDoor
open Go Go.Vcg
attribute [local irreducible] Br

theorem it_ne {h : Heap} {g k i : Nat} {s : ByteArray} {x : Blk} (h1 : h g = some (itB s i)) (h2 : h k = some x) (hf : x.fz = (0, 0)) : k ≠ g := fun e => by
  subst e
  rw [h1] at h2
  cases h2
  simp [itB] at hf

theorem IsB.q_blk {h : Heap} {b k : Nat} {q : Option Nat} {gs : List UInt8} (u : IsB h b q gs) (e : q = some k) : ∃ zs : List UInt8, h k = some ⟨zs.map bv, 5, (0, 0)⟩ := by
  obtain ⟨p, c, hb, hp, h1, h2⟩ := u.blk
  obtain ⟨zs, e1, _⟩ := h2 k e
  exact ⟨_, e1⟩

theorem IsB.b_blk {h : Heap} {b : Nat} {q : Option Nat} {gs : List UInt8} (u : IsB h b q gs) : ∃ x, h b = some x ∧ x.ty = 89 ∧ x.fz = (0, 0) := by
  obtain ⟨p, c, hb, _⟩ := u.blk
  exact ⟨_, hb, rfl, rfl⟩

theorem IsB.agree {h h' : Heap} {b : Nat} {q : Option Nat} {gs : List UInt8} (u : IsB h b q gs) (hb : h' b = h b) (hq : ∀ k, q = some k → h' k = h k) : IsB h' b q gs := by
  obtain ⟨p, c, e, hp, h1, h2⟩ := u.blk
  exact ⟨p, c, by rw [hb]; exact e, hp, h1, fun g q => by obtain ⟨zs, e1, e2⟩ := h2 g q; exact ⟨zs, by rw [hq g q]; exact e1, e2⟩⟩

theorem OwnE.agree {α : Type} {enc : α → Value} {ty : Nat} {h0 h h' : Heap} {A : Option Addr} {n c : Nat} {gs : List α} (o : OwnE enc ty h0 h A n c gs) (ha : ∀ g, A = some ⟨g, 0, none⟩ → h' g = h g) : OwnE enc ty h0 h' A n c gs := by
  obtain ⟨a, b⟩ := o
  refine ⟨a, b.imp id ?_⟩
  rintro ⟨g, zs, e, h0, hb, hc⟩
  exact ⟨g, zs, e, h0, by rw [ha g e]; exact hb, hc⟩

theorem OwnE.blk {α : Type} {enc : α → Value} {ty : Nat} {h0 h : Heap} {A : Option Addr} {n c g : Nat} {gs : List α} (o : OwnE enc ty h0 h A n c gs) (e : A = some ⟨g, 0, none⟩) : h0 g = none ∧ ∃ zs : List α, h g = some ⟨zs.map enc, ty, (0, 0)⟩ := by
  rcases o.2 with ⟨q, _, _⟩ | ⟨g', zs, q, q0, q1, _⟩
  · rw [q] at e; cases e
  · rw [q] at e; cases e; exact ⟨q0, _, q1⟩

theorem OwnE.set {α : Type} {enc : α → Value} {ty : Nat} {h0 h : Heap} {A : Option Addr} {n c i : Nat} {gs : List α} (o : OwnE enc ty h0 h A n c gs) (hi : i < n) (y : α) :
    ∃ g zs, A = some ⟨g, 0, none⟩ ∧ h g = some ⟨(gs ++ zs).map enc, ty, (0, 0)⟩ ∧ i < (gs ++ zs).length ∧ OwnE enc ty h0 (h.put g ⟨((gs ++ zs).set i y).map enc, ty, (0, 0)⟩) A n c (gs.set i y) := by
  obtain ⟨a, b⟩ := o
  rcases b with ⟨_, e, _⟩ | ⟨g, zs, e, q0, hb, hc⟩
  · omega
  · refine ⟨g, zs, e, hb, by rw [List.length_append]; omega, by simp [a], .inr ⟨g, zs, e, q0, ?_, by simp [hc]⟩⟩
    rw [Heap.put_same, List.set_append_left _ _ (by omega)]

structure ScI (h0 h : Heap) (g g1 : Nat) (s : ByteArray) (i : Nat) (t : Sc) (A : Option Addr) (n c : Nat) (q : Option Nat) : Prop where
  it : h g1 = some (itB s i)
  n1 : h0 g1 = none
  n0 : h0 g = none
  ne : g ≠ g1
  bd : IsB h g q t.form
  qn : ∀ k, q = some k → h0 k = none
  qe : q = none ∨ t.form ≠ []
  ow : OwnE sv 9 h0 h A n c t.runs
  le : Le h0 h

section
variable {h0 h : Heap} {g g1 : Nat} {s : ByteArray} {i : Nat} {t : Sc} {A : Option Addr} {n c : Nat} {q : Option Nat}

theorem ScI.q1 (u : ScI h0 h g g1 s i t A n c q) : ∀ k, q = some k → k ≠ g1 := fun k e => by
  obtain ⟨zs, e1⟩ := u.bd.q_blk e
  exact it_ne u.it e1 rfl
theorem ScI.a1 (u : ScI h0 h g g1 s i t A n c q) : ∀ k, A = some ⟨k, 0, none⟩ → k ≠ g1 ∧ k ≠ g ∧ q ≠ some k := fun k e => by
  obtain ⟨_, zs, e1⟩ := u.ow.blk e
  refine ⟨it_ne u.it e1 rfl, fun e2 => ?_, fun e2 => ?_⟩
  · obtain ⟨x, e3, e4, _⟩ := u.bd.b_blk
    subst e2
    rw [e1] at e3
    cases e3
    exact absurd (show 9 = 89 from e4) (by decide)
  · obtain ⟨ys, e3⟩ := u.bd.q_blk e2
    rw [e1] at e3
    simp only [Option.some.injEq, Blk.mk.injEq] at e3
    exact absurd e3.2.1 (by decide)

theorem ScI.adv (u : ScI h0 h g g1 s i t A n c q) (j : Nat) : ScI h0 (h.put g1 (itB s j)) g g1 s j t A n c q where
  it := Heap.put_same _ _ _
  n1 := u.n1
  n0 := u.n0
  ne := u.ne
  bd := u.bd.agree (Heap.put_ne _ _ u.ne) fun k e => Heap.put_ne _ _ (u.q1 k e)
  qn := u.qn
  qe := u.qe
  ow := u.ow.agree fun k e => Heap.put_ne _ _ (u.a1 k e).1
  le := fun k x hk => by rw [Heap.put_ne _ _ (fun e => by rw [e, u.n1] at hk; cases hk)]; exact u.le k x hk

theorem ScI.wrote {h' : Heap} {q' : Option Nat} {f : List UInt8} {b : Bool} (u : ScI h0 h g g1 s i t A n c q) (hb : IsB h' g q' f) (r : Rest h h' g q q') (hf : f ≠ []) : ScI h0 h' g g1 s i ⟨f, t.runs, b⟩ A n c q' where
  it := r.1 g1 _ u.it u.ne.symm fun e => u.q1 g1 e rfl
  n1 := u.n1
  n0 := u.n0
  ne := u.ne
  bd := hb
  qn := fun k e => by
    rcases r.2 k e with e | e
    · exact u.qn k e
    · exact u.le.free e
  qe := .inr hf
  ow := u.ow.agree fun k e => by
    obtain ⟨_, zs, e1⟩ := u.ow.blk e
    rw [e1]
    exact r.1 k _ e1 (u.a1 k e).2.1 (u.a1 k e).2.2
  le := fun k x hk => r.1 k x (u.le k x hk) (fun e => by rw [e, u.n0] at hk; cases hk) (fun e => by rw [u.qn k e] at hk; cases hk)

/-- Behind a change of the runs' block alone. -/
theorem ScI.ran {h' : Heap} {A' : Option Addr} {n' c' : Nat} {rs : List (List UInt8)} {b : Bool} (u : ScI h0 h g g1 s i t A n c q) (o : OwnE sv 9 h0 h' A' n' c' rs) (l : Le h0 h') (hs : ∀ k, h k ≠ none → (∀ ad, A = some ad → k ≠ ad.block) → h' k = h k) :
    ScI h0 h' g g1 s i ⟨t.form, rs, b⟩ A' n' c' q := by
  have blk : ∀ k, h k ≠ none → (∀ k', A = some ⟨k', 0, none⟩ → k' ≠ k) → h' k = h k := fun k hk ha => hs k hk fun ad e => by
    rcases u.ow.2 with ⟨e1, _, _⟩ | ⟨k', zs, e1, _, _, _⟩
    · rw [e1] at e; cases e
    · rw [e1] at e; cases e; exact (ha k' e1).symm
  have hg1 : h' g1 = h g1 := blk g1 (by rw [u.it]; simp) fun k e => (u.a1 k e).1
  have hg : h' g = h g := blk g (by obtain ⟨x, e, _⟩ := u.bd.b_blk; rw [e]; simp) fun k e => (u.a1 k e).2.1
  refine ⟨by rw [hg1]; exact u.it, u.n1, u.n0, u.ne, u.bd.agree hg fun k e => blk k (by obtain ⟨zs, e1⟩ := u.bd.q_blk e; rw [e1]; simp) fun k' e' e2 => (u.a1 k' e').2.2 (by rw [e2]; exact e), u.qn, u.qe, o, l⟩
end
end Go.Proofs.YtccplhjglhdopaaGreatDoor

/-
  Contract: measure.scan.
-/
namespace Go.Proofs.YtccplhjglhdopaaGreatDoor
open Go Go.Vcg
attribute [local irreducible] Br

theorem get_dg {x : UInt8} : decide (48 ≤ ((x.toNat : Nat) : Int) ∧ ((x.toNat : Nat) : Int) ≤ 57) = isDg x := by
  unfold isDg
  apply decide_eq_decide.2
  omega

theorem scan_c (l : List UInt8) (hl : l.length ≤ 1000000) (h : Heap) :
    CallsU Tryz.prog 29 [sv l] h fun v h' => ∃ t A n c, v = .tuple #[sv t.form, .slice A n c] ∧ ScC l l.length t ∧ Sl sv h' A n c t.runs ∧ Le h h' := by
  apply measure_scan_ok
  rintro g _ hg rfl g1 _ hg1 rfl
  have hne : g ≠ g1 := fun e => by rw [← e, Heap.put_same] at hg1; cases hg1
  have hg1' : h g1 = none := by rw [Heap.put_ne _ _ hne.symm] at hg1; exact hg1
  have hsz : (⟨l.toArray⟩ : ByteArray).size = l.length := ba_size l
  refine ⟨fun m A n c b h' => ∃ i t q, m = l.length - i ∧ t.inRun = b ∧ ScC l i t ∧ ScI h h' g g1 ⟨l.toArray⟩ i t A n c q, ⟨l.length, 0, ⟨[], [], false⟩, none, by omega, rfl, ScC.init l, ?_⟩, ?_⟩
  · refine ⟨Heap.put_same _ _ _, hg1', hg, hne, ⟨none, 0, ?_, .inl rfl, fun _ => ⟨rfl, rfl⟩, fun _ e => by cases e⟩, (fun _ e => by cases e), .inl rfl, OwnE.start, ?_⟩
    · rw [Heap.put_ne _ _ hne, Heap.put_same]
      rfl
    · exact ((Le.refl h).put hg _).put hg1' _
  rintro m A n c b h3 ⟨i, t, q, rfl, rfl, hc, u⟩
  refine ⟨_, i, rfl, u.it, Br.mk (fun e => ?_) (fun e => ?_)⟩
  · have hi : i < l.length := by rw [← hsz]; exact of_decide_eq_true e
    obtain ⟨x, hx⟩ : ∃ x, l[i]? = some x := ⟨_, List.getElem?_eq_getElem hi⟩
    have hx' : (⟨l.toArray⟩ : ByteArray).data.toList[i]? = some x := by simpa using hx
    have hform : t.form.length ≤ 4 * i := hc.2.2.2.2.2.1
    rintro _ rfl
    refine (isDigit_c _ _).mono ?_
    rintro _ _ ⟨rfl, rfl⟩
    refine ⟨_, rfl, ?_⟩
    rcases Nat.lt_or_ge x.toNat 128 with hlow | hhigh
    · -- a byte below 128
      have hd := decode_low hx' hlow
      have hst := hc.lo hx hlow
      have u' := u.adv (i + 1)
      simp only [hd, get_dg]
      refine Br.mk (fun e2 => ?_) (fun e2 => Br.mk (fun e3 => ?_) (fun e3 => ?_))
      · have hdg : isDg x = false := by simpa using e2
        refine (wrune_c u'.bd (x.toNat : Int) (by omega) (by omega) (by omega)).mono ?_
        rintro _ h6 ⟨k, q', ys, rfl, ub, hr, rest⟩
        refine ⟨_, _, rfl, (isDigit_c _ _).mono ?_⟩
        rintro _ _ ⟨rfl, rfl⟩
        have hys : ys = [x] := by
          rcases hr with ⟨_, _, e⟩ | ⟨e, _⟩
          · rw [e]; simp
          · omega
        subst hys
        have es : t.step x = ⟨t.form ++ [x], t.runs, false⟩ := by unfold Sc.step; rw [if_neg (by rw [hdg]; decide)]
        rw [es] at hst
        refine ⟨_, rfl, l.length - (i + 1), by omega, i + 1, _, q', rfl, ?_, hst, u'.wrote ub rest (by simp)⟩
        rw [get_dg, hdg]
      · have hdg : isDg x = true := by simpa using e2
        have es : t.step x = ⟨t.form, addLast t.runs x, true⟩ := by unfold Sc.step; rw [if_pos hdg, if_pos e3]
        rw [es] at hst
        have hne' := hc.2.2.2.2.1 e3
        have en := u.ow.1
        have hpos : 0 < t.runs.length := List.length_pos_iff.2 hne'
        have hrl : t.runs.length ≤ i := hc.2.2.2.2.2.2.1
        rintro _ rfl
        have ew : IntKind.i64.wrap ((n : Int) - 1) = ((t.runs.length - 1 : Nat) : Int) := by rw [IntKind.wrap_i64]; omega
        rw [ew, Int.toNat_natCast]
        obtain ⟨r, hr⟩ : ∃ r, t.runs[t.runs.length - 1]? = some r := ⟨_, List.getElem?_eq_getElem (by omega)⟩
        have hrlen : r.length ≤ i := hc.2.2.2.2.2.2.2.1 r (List.mem_of_getElem? hr)
        obtain ⟨ad, eA, ld⟩ := u'.ow.sl.get hr
        obtain ⟨k, zs, eA2, hk, hlt, ow'⟩ := u'.ow.set (i := t.runs.length - 1) (by omega) (r ++ [x])
        have ead : ad = ⟨k, 0, none⟩ := by rw [eA] at eA2; simpa using eA2
        subst ead
        refine ⟨_, eA, by omega, by omega, _, ld, ?_, _, eA, by omega, by omega, ?_⟩
        · rw [encode_low hlow, show (⟨#[UInt8.ofNat x.toNat]⟩ : ByteArray) = ⟨[UInt8.ofNat x.toNat].toArray⟩ from rfl, ba_size, ba_size]
          simp; omega
        rw [encode_low hlow, show (⟨#[UInt8.ofNat x.toNat]⟩ : ByteArray) = ⟨[UInt8.ofNat x.toNat].toArray⟩ from rfl, ba_append, UInt8.ofNat_toNat]
        refine st_blk (enc := sv) (r ++ [x]) hk hlt rfl ?_
        refine (isDigit_c _ _).mono ?_
        rintro _ _ ⟨rfl, rfl⟩
        have eal : addLast t.runs x = t.runs.set (t.runs.length - 1) (r ++ [x]) := by
          unfold addLast
          rw [List.getD_eq_getElem?_getD, hr]
          rfl
        rw [← eal] at ow'
        refine ⟨_, rfl, l.length - (i + 1), by omega, i + 1, _, q, rfl, ?_, hst, u'.ran ow' ?_ ?_⟩
        · rw [get_dg, hdg]
        · exact u'.le.put (u'.ow.blk eA).1 _
        · intro k' _ ha
          exact Heap.put_ne _ _ (ha _ eA)
      · have hdg : isDg x = true := by simpa using e2
        have es : t.step x = ⟨t.form ++ [48], t.runs ++ [[x]], true⟩ := by unfold Sc.step; rw [if_pos hdg, if_neg (by rw [e3]; decide)]
        rw [es] at hst
        have hrl : t.runs.length ≤ i := hc.2.2.2.2.2.2.1
        have en := u.ow.1
        refine (wbyte_c u'.bd 48 (by omega)).mono ?_
        rintro _ h6 ⟨q', rfl, ub, rest⟩
        have u2 := u'.wrote (b := true) ub rest (by simp)
        refine ⟨_, rfl, ?_⟩
        rintro g2 _ hg2 rfl
        rw [encode_low hlow, show (⟨#[UInt8.ofNat x.toNat]⟩ : ByteArray) = ⟨[UInt8.ofNat x.toNat].toArray⟩ from rfl, UInt8.ofNat_toNat]
        refine OwnE.app (x := [x]) (z := []) (K := fun A' c' h' => CallsU Tryz.prog 71 [Value.int .i32 (x.toNat : Int)] h' fun v_6 h_15 => ∃ t39 : Bool, v_6 = Value.bool t39 ∧ ∃ m_1, m_1 < l.length - i ∧ ∃ i t q, m_1 = l.length - i ∧ t.inRun = t39 ∧ ScC l i t ∧ ScI h h_15 g g1 ⟨l.toArray⟩ i t A' (n + 1) c' q) u2.ow u2.le (fun _ => rfl) rfl rfl hg2 (by omega) ?_
        intro A' c' h' o' l' s'
        refine (isDigit_c _ _).mono ?_
        rintro _ _ ⟨rfl, rfl⟩
        refine ⟨_, rfl, l.length - (i + 1), by omega, i + 1, _, q', rfl, ?_, hst, u2.ran o' l' fun k hk ha => s' k (fun e => by subst e; exact hk hg2) hk ha⟩
        rw [get_dg, hdg]
    · -- a byte from 128 on
      obtain ⟨d1, d2, d3, d4⟩ := decode_high hx' hhigh
      generalize Utf8.decode ⟨l.toArray⟩ i = dc at d1 d2 d3 d4 ⊢
      obtain ⟨cc, w⟩ := dc
      simp only at d1 d2 d3 d4 ⊢
      have hnd : decide (48 ≤ ((cc : Nat) : Int) ∧ ((cc : Nat) : Int) ≤ 57) = false := decide_eq_false (by omega)
      have u' := u.adv (i + w)
      rw [hnd]
      refine Br.mk (fun e2 => ?_) (fun e2 => by cases e2)
      refine (wrune_c u'.bd (cc : Int) (by omega) (by omega) (by omega)).mono ?_
      rintro _ h6 ⟨k, q', ys, rfl, ub, hr, rest⟩
      refine ⟨_, _, rfl, (isDigit_c _ _).mono ?_⟩
      rintro _ _ ⟨rfl, rfl⟩
      have hys : ys ≠ [] ∧ (∀ y ∈ ys, 128 ≤ y.toNat) ∧ ys.length ≤ 4 := by
        rcases hr with ⟨_, e, _⟩ | ⟨_, e⟩
        · omega
        · exact e
      rw [hsz] at d4
      refine ⟨_, rfl, l.length - (i + w), by omega, i + w, _, q', rfl, ?_, hc.hi hx hhigh d3 d4 hys.1 hys.2.1 hys.2.2, u'.wrote ub rest (by simp [hys.1])⟩
      rw [hnd]
  · have hi : l.length ≤ i := by rw [← hsz]; exact Nat.le_of_not_lt (of_decide_eq_false e)
    have ei : i = l.length := Nat.le_antisymm hc.1 hi
    subst ei
    have hform : t.form.length ≤ 4 * l.length := hc.2.2.2.2.2.1
    refine (bstring_c u.bd u.qe (by omega)).mono ?_
    rintro _ h6 ⟨rfl, rest⟩
    refine ⟨_, rfl, t, A, n, c, rfl, hc, ?_, fun k x hk => rest k x (u.le k x hk) fun e => by rw [u.qn k e] at hk; cases hk⟩
    refine (u.ow.agree (h' := h6) fun k e => ?_).sl
    obtain ⟨_, zs, e1⟩ := u.ow.blk e
    rw [e1]
    exact rest k _ e1 (u.a1 k e).2.2
end Go.Proofs.YtccplhjglhdopaaGreatDoor

/-
  Contracts of the library: strconv.Atoi of digits, strings.CutPrefix, LastIndexByte.
-/
namespace Go.Proofs.YtccplhjglhdopaaGreatDoor
open Go Go.Vcg Go.RowKit
attribute [local irreducible] Br

/-- The number that digits denote. -/
def dgV (l : List UInt8) : Nat := l.foldl (fun a x => a * 10 + (x.toNat - 48)) 0

theorem dgV_from (l : List UInt8) : ∀ a : Nat, l.foldl (fun a x => a * 10 + (x.toNat - 48)) a = a * 10 ^ l.length + dgV l := by
  unfold dgV
  induction l with
  | nil => intro a; simp
  | cons x r ih =>
    intro a
    simp only [List.foldl_cons, List.length_cons]
    rw [ih, ih (0 * 10 + (x.toNat - 48)), Nat.pow_succ]
    have : (a * 10 + (x.toNat - 48)) * 10 ^ r.length = a * (10 ^ r.length * 10) + (0 * 10 + (x.toNat - 48)) * 10 ^ r.length := by
      rw [Nat.add_mul, Nat.zero_mul, Nat.zero_add, Nat.mul_assoc, Nat.mul_comm 10]
    omega

theorem dgV_append (a b : List UInt8) : dgV (a ++ b) = dgV a * 10 ^ b.length + dgV b := by
  rw [dgV, List.foldl_append, dgV_from]
  rfl

theorem isDg_iff {x : UInt8} : isDg x = true ↔ 48 ≤ x.toNat ∧ x.toNat ≤ 57 := by unfold isDg; exact decide_eq_true_iff

theorem dgV_lt (l : List UInt8) (h : ∀ x ∈ l, isDg x = true) : dgV l < 10 ^ l.length := by
  induction l with
  | nil => simp [dgV]
  | cons x r ih =>
    have h1 := ih fun y hy => h y (by simp [hy])
    have h2 := isDg_iff.1 (h x (by simp))
    have e : dgV (x :: r) = (x.toNat - 48) * 10 ^ r.length + dgV r := by
      have := dgV_append [x] r
      simp only [List.singleton_append] at this
      rw [this]
      simp [dgV]
    rw [e, List.length_cons, Nat.pow_succ]
    have : (x.toNat - 48) * 10 ^ r.length ≤ 9 * 10 ^ r.length := Nat.mul_le_mul_right _ (by omega)
    omega

theorem parse_dg (l : List UInt8) (h : ∀ x ∈ l, isDg x = true) : ∀ acc : Nat, (acc + 1) * 10 ^ l.length ≤ 1000000000000000000 → Lib.parseUint10 acc l = .ok (l.foldl (fun a x => a * 10 + (x.toNat - 48)) acc) := by
  induction l with
  | nil => intro acc _; rfl
  | cons x r ih =>
    intro acc ha
    have h2 := isDg_iff.1 (h x (by simp))
    rw [List.length_cons, Nat.pow_succ] at ha
    have hp : 1 ≤ 10 ^ r.length := Nat.pow_pos (by decide)
    have hm : (acc + 1) * 10 * 10 ^ r.length ≤ 1000000000000000000 := by rw [Nat.mul_assoc, Nat.mul_comm 10]; exact ha
    have hs : (acc + 1) * 10 ≤ 1000000000000000000 := Nat.le_trans (Nat.le_mul_of_pos_right _ hp) hm
    simp only [Lib.parseUint10, List.foldl_cons]
    rw [if_pos h2, if_neg (by omega), if_neg (by omega)]
    refine ih (fun y hy => h y (by simp [hy])) _ (Nat.le_trans (Nat.mul_le_mul_right _ (by omega)) hm)

theorem atoi_dg {l : List UInt8} (h : ∀ x ∈ l, isDg x = true) (hne : l ≠ []) (hl : l.length ≤ 18) : Lib.atoiAll l = .ok (dgV l : Int) := by
  obtain ⟨x, r, rfl⟩ := List.exists_cons_of_ne_nil hne
  have h2 := isDg_iff.1 (h x (by simp))
  have hp : (10 : Nat) ^ (x :: r).length ≤ 10 ^ 18 := Nat.pow_le_pow_right (by decide) hl
  have hlt := dgV_lt _ h
  have h3 := parse_dg (x :: r) h 0 (by simpa using hp)
  unfold Lib.atoiAll
  simp only
  rw [if_neg (by omega)]
  unfold Lib.parseMag
  rw [if_neg (by simp), h3]
  simp only
  rw [if_neg (by unfold dgV at hlt; omega), if_neg (by omega), if_neg (by omega)]
  rfl

theorem atoi_c {l : List UInt8} (hd : ∀ x ∈ l, isDg x = true) (hne : l ≠ []) (hl : l.length ≤ 18) (h : Heap) :
    CallsU Tryz.prog 122 [sv l] h fun r h' => r = .tuple #[.int .i64 (dgV l), .nilIface] ∧ h = h' := by
  refine callsU_below ⟨_, Tryz.func122, by kernel_rfl, by kernel_rfl⟩ fun w _ => ?_
  refine (Tryz.strconv_Atoi_ok ⟨l.toArray⟩ (by rw [ba_size]; omega) (dgV l) (by simpa using atoi_dg hd hne hl) w).mono ?_
  rintro _ _ ⟨rfl, hw⟩
  refine ⟨rfl, ?_⟩
  rcases hw with rfl | ⟨t, rfl⟩
  · exact Below.refl _ _
  · exact Lib.bytesWorld_below _ _ _

theorem cutPrefix_c (l p : List UInt8) (h : Heap) :
    CallsU Tryz.prog 30 [sv l, sv p] h fun r h' => r = .tuple #[sv (Lib.trimPrefix l p), .bool (Lib.hasPrefix l p)] ∧ h = h' :=
  callsU_same ⟨_, Tryz.func30, by kernel_rfl, by kernel_rfl⟩ fun w _ => by simpa using Tryz.strings_CutPrefix ⟨l.toArray⟩ ⟨p.toArray⟩ w

theorem lastByte_c (l : List UInt8) (hl : l.length ≤ 1000000) (c : Int) (h : Heap) :
    CallsU Tryz.prog 31 [sv l, .int .u8 c] h fun r h' => r = .int .i64 (Lib.lastIndexByte ⟨l.toArray⟩ c) ∧ h = h' :=
  callsU_same ⟨_, Tryz.func31, by kernel_rfl, by kernel_rfl⟩ fun w _ => Tryz.strings_LastIndexByte ⟨l.toArray⟩ c (by rw [ba_size]; omega) w
end Go.Proofs.YtccplhjglhdopaaGreatDoor

/-
  Contracts: measure: whole, fraction, decimal.
-/
namespace Go.Proofs.YtccplhjglhdopaaGreatDoor
open Go Go.Vcg
attribute [local irreducible] Br

/-- Some digits. -/
def Dgs (l : List UInt8) : Prop := l ≠ [] ∧ ∀ y ∈ l, isDg y = true

def wholeV (l : List UInt8) : Option Nat := if l.length ≤ 7 ∧ ¬ (1 < l.length ∧ l[0]? = some 48) then some (dgV l) else none

theorem wholeV_lt {l : List UInt8} {n : Nat} (hd : Dgs l) (h : wholeV l = some n) : n < 10000000 := by
  unfold wholeV at h
  split at h
  · rename_i q
    cases h
    have := dgV_lt l hd.2
    have hp : (10 : Nat) ^ l.length ≤ 10 ^ 7 := Nat.pow_le_pow_right (by decide) q.1
    omega
  · cases h

theorem ba_get (l : List UInt8) (i : Nat) : (⟨l.toArray⟩ : ByteArray)[i]? = l[i]? := by
  rcases Nat.lt_or_ge i l.length with h | h
  · have h' : i < (⟨l.toArray⟩ : ByteArray).size := by rw [ba_size]; exact h
    rw [List.getElem?_eq_getElem h]
    exact (getElem?_pos (⟨l.toArray⟩ : ByteArray) i h').trans rfl
  · have h' : ¬ i < (⟨l.toArray⟩ : ByteArray).size := by rw [ba_size]; omega
    rw [List.getElem?_eq_none h]
    exact getElem?_neg (⟨l.toArray⟩ : ByteArray) i h'

theorem mwhole_c {l : List UInt8} (hd : Dgs l) (h : Heap) :
    CallsU Tryz.prog 77 [sv l] h fun r h' => r = .tuple #[.int .i64 ((wholeV l).getD 0 : Nat), .bool (wholeV l).isSome] ∧ h = h' := by
  apply measure_whole_ok
  refine ⟨fun h' => h = h' ∧ wholeV l = some (dgV l) ∧ l.length ≤ 7, ?_, ?_⟩
  · rintro _ ⟨rfl, e, hl⟩
    refine (atoi_c hd.2 hd.1 (by omega) h).mono ?_
    rintro _ _ ⟨rfl, rfl⟩
    rw [e]
    exact ⟨_, _, rfl, rfl, rfl, rfl⟩
  · rw [ba_size]
    obtain ⟨x, r, rfl⟩ := List.exists_cons_of_ne_nil hd.1
    refine Br.mk (fun q => ?_) (fun q => Br.mk (fun q2 => ?_) (fun q2 => ?_))
    · have := of_decide_eq_true q
      have e : wholeV (x :: r) = none := if_neg (by omega)
      rw [e]
      exact ⟨rfl, rfl⟩
    · have h7 := of_decide_eq_false q
      have h1 := of_decide_eq_true q2
      refine ⟨x, by omega, by rw [ba_get]; rfl, Br.mk (fun q3 => ?_) (fun q3 => ?_)⟩
      · have e : wholeV (x :: r) = none := if_neg (by
          have : x = 48 := UInt8.toNat_inj.1 (by have := beq_iff_eq.1 q3; show x.toNat = 48; omega)
          subst this
          intro q4
          exact q4.2 ⟨by omega, rfl⟩)
        rw [e]
        exact ⟨rfl, rfl⟩
      · refine ⟨rfl, if_pos ⟨by omega, fun q4 => ?_⟩, by omega⟩
        have h2 := q4.2
        simp only [List.getElem?_cons_zero, Option.some.injEq] at h2
        subst h2
        exact absurd q3 (by decide)
    · have h7 := of_decide_eq_false q
      have h1 := of_decide_eq_false q2
      exact ⟨rfl, if_pos ⟨by omega, fun q4 => by omega⟩, by omega⟩

/-- A ratio and whether it is one. -/
def RatR (o : Option Rat) (v : Value) (h' : Heap) : Prop :=
  ∃ s A n c B m d, v = .tuple #[.agg #[.bool s, .slice A n c, .slice B m d], .bool o.isSome] ∧ ∀ q, o = some q → NmQ h' s A n c B m d q ∧ n ≤ 8 ∧ m ≤ 8

theorem RatR.none (h' : Heap) : RatR none (.tuple #[.agg #[.bool false, .slice Option.none 0 0, .slice Option.none 0 0], .bool false]) h' := ⟨_, _, _, _, _, _, _, rfl, fun _ e => by cases e⟩

def fracV (a b : List UInt8) : Option Rat :=
  match wholeV a, wholeV b with
  | some x, some y => if 1 ≤ y ∧ y ≤ 999 then some ((x : Rat) / (y : Rat)) else none
  | _, _ => none

theorem fraction_c {a b : List UInt8} (ha : Dgs a) (hb : Dgs b) (h : Heap) :
    CallsU Tryz.prog 79 [sv a, sv b] h fun r h' => RatR (fracV a b) r h' ∧ Le h h' := by
  apply measure_fraction_ok
  refine (mwhole_c ha h).mono ?_
  rintro _ _ ⟨rfl, rfl⟩
  refine ⟨_, _, rfl, (mwhole_c hb h).mono ?_⟩
  rintro _ _ ⟨rfl, rfl⟩
  refine ⟨_, _, rfl, ?_⟩
  cases ea : wholeV a with
  | none =>
    have e : fracV a b = none := by unfold fracV; rw [ea]
    rw [e]
    exact Br.mk (fun _ => ⟨RatR.none _, Le.refl _⟩) (fun q => by cases q)
  | some x =>
    cases eb : wholeV b with
    | none =>
      have e : fracV a b = none := by unfold fracV; rw [ea, eb]
      rw [e]
      exact Br.mk (fun q => by cases q) (fun _ => Br.mk (fun _ => ⟨RatR.none _, Le.refl _⟩) (fun q => by cases q))
    | some y =>
      have hx := wholeV_lt ha ea
      have hy := wholeV_lt hb eb
      have e : fracV a b = if 1 ≤ y ∧ y ≤ 999 then some ((x : Rat) / (y : Rat)) else none := by unfold fracV; rw [ea, eb]
      rw [e]
      simp only [Option.getD_some]
      refine Br.mk (fun q => by cases q) (fun _ => Br.mk (fun q => by cases q) (fun _ => Br.mk (fun q => ?_) (fun q => Br.mk (fun q2 => ?_) (fun q2 => ?_))))
      · have := of_decide_eq_true q
        rw [if_neg (by omega)]
        exact ⟨RatR.none _, Le.refl _⟩
      · have := of_decide_eq_true q2
        rw [if_neg (by omega)]
        exact ⟨RatR.none _, Le.refl _⟩
      · have h1 := of_decide_eq_false q
        have h2 := of_decide_eq_false q2
        rw [if_pos (by omega)]
        refine (rof_c (x : Int) (y : Int) (by omega) (by omega) (by omega) (by omega) (by omega) h).mono ?_
        rintro _ h3 ⟨s', A', n', c', B', m', d', rfl, hN, hn, hm, hl⟩
        refine ⟨_, _, _, _, _, _, _, _, rfl, ⟨_, _, _, _, _, _, _, rfl, fun q e => ?_⟩, hl⟩
        cases e
        refine ⟨?_, by omega, by omega⟩
        rw [Rat.intCast_natCast, Rat.intCast_natCast] at hN
        exact hN
end Go.Proofs.YtccplhjglhdopaaGreatDoor

/-
  Contracts: natural.Sub; integer.Add; ratio.Add, ratio.Mul.
-/
namespace Go.Proofs.YtccplhjglhdopaaGreatDoor
open Go Go.Vcg
attribute [local irreducible] Br

theorem sub_digit {x y b : Nat} (hx : x < 4294967296) (hy : y < 4294967296) (hb : b ≤ 1) :
    ∃ r b' : Nat, IntKind.u32.wrap (IntKind.u64.wrap ((x : Int) - b - y)) = (r : Int) ∧ Int.fdiv (IntKind.u64.wrap ((x : Int) - b - y)) (2 ^ (63 : Nat)) = (b' : Int) ∧ x + B32 * b' = r + y + b ∧ r < 4294967296 ∧ b' ≤ 1 := by
  have e63 : ((2 : Int) ^ (63 : Nat)) = 9223372036854775808 := by decide
  rw [Int.fdiv_eq_ediv_of_nonneg _ (by decide), e63, wrap_u64_mod, wrap_u32_mod]
  have hB : B32 = 4294967296 := rfl
  rw [hB]
  rcases Nat.lt_or_ge x (y + b) with q | q
  · exact ⟨4294967296 + x - y - b, 1, by omega, by omega, by omega, by omega, by omega⟩
  · exact ⟨x - y - b, 0, by omega, by omega, by omega, by omega, by omega⟩

theorem sub_val {G X Y p q x y r b b' : Nat} (h : G + Y = X + p * b) (hd : x + B32 * b' = r + y + b) (hq : q = p * B32) : (G + p * r) + (Y + p * y) = (X + p * x) + q * b' := by
  subst hq
  have : p * x + p * (B32 * b') = p * r + p * y + p * b := by rw [← Nat.mul_add, hd, Nat.mul_add, Nat.mul_add]
  rw [Nat.mul_assoc]
  omega

theorem sub_c {h : Heap} {A B : Option Addr} {n c m d x y : Nat} (ux : IsN h A n c x) (uy : IsN h B m d y) (hn : n ≤ 1099511627776) (hm : m ≤ 1099511627776) :
    CallsU Tryz.prog 117 [.slice A n c, .slice B m d] h fun r h' => (x < y ∧ r = .tuple #[.slice none 0 0, .bool false] ∧ h = h') ∨ (y ≤ x ∧ ∃ A' k c', r = .tuple #[.slice A' k c', .bool true] ∧ NmN h' A' k c' (x - y) ∧ Le h h') := by
  apply natural_Sub_ok
  refine (trim_n ux (by omega)).mono ?_
  rintro _ _ ⟨n', rfl, hn', nx, rfl⟩
  refine ⟨_, _, _, rfl, (trim_n uy (by omega)).mono ?_⟩
  rintro _ _ ⟨m', rfl, hm', ny, rfl⟩
  refine ⟨_, _, _, rfl, (cmp_c nx.is ny.is (by omega) (by omega)).mono ?_⟩
  rintro _ _ ⟨rfl, rfl⟩
  refine ⟨_, rfl, Br.mk (fun b => ?_) (fun b => ?_)⟩
  · have b' := of_decide_eq_true b
    refine Or.inl ⟨?_, rfl, rfl⟩
    unfold cmpI at b'
    split at b'
    · omega
    · split at b' <;> omega
  · have b' := of_decide_eq_false b
    have hyx : y ≤ x := by
      unfold cmpI at b'
      split at b'
      · omega
      · omega
    have hmn : m' ≤ n' := NmN.le_of ny (nx.sz.le hyx)
    obtain ⟨xs, u, hx, _⟩ := nx
    obtain ⟨ys, w, hy, _⟩ := ny
    subst hx hy
    have lu := u.len
    have lw := w.len
    refine ⟨by omega, by omega, by omega, by omega, ?_⟩
    rintro g _ hg rfl
    simp only [Int.toNat_natCast]
    refine ⟨fun q bo i h' => ∃ (k bN : Nat) (rs : List Nat), q = n' - k ∧ k ≤ n' ∧ i = (k : Int) ∧ bo = (bN : Int) ∧ bN ≤ 1 ∧ rs.length = n' ∧ (∀ z ∈ rs, z < 4294967296) ∧ h' g = some ⟨rs.map lv, 46, (0, 0)⟩ ∧ Le h h' ∧
        val (rs.take k) + val (ys.take k) = val (xs.take k) + B32 ^ k * bN,
      ⟨_, 0, 0, List.replicate n' 0, rfl, by omega, rfl, rfl, by omega, by simp, fun z hz => by rw [(List.mem_replicate.1 hz).2]; decide, by rw [Heap.put_same, repV_lv], Le.new hg _, by simp [val]⟩, ?_⟩
    rintro _ _ _ h5 ⟨k, bN, rs, rfl, hk, rfl, rfl, hb, hrl, hrlt, hbk, hle, hv⟩
    refine Br.mk (fun q => ?_) (fun q => ?_)
    · have q' : k < n' := by have := of_decide_eq_true q; omega
      obtain ⟨ad, hA, hld⟩ := (u.mono hle).get q'
      have lx := u.getD_lt k
      have ly := w.getD_lt k
      rw [Int.toNat_natCast]
      refine ⟨ad, hA, by omega, by omega, _, hld, ?_⟩
      rintro _ rfl
      rw [wu (n := xs.getD k 0) rfl (by omega)]
      obtain ⟨r, b2, d1, d2, d3, d4, d5⟩ := sub_digit lx ly hb
      refine ⟨fun dd h' => h5 = h' ∧ dd = IntKind.u64.wrap (((xs.getD k 0 : Nat) : Int) - bN - ((ys.getD k 0 : Nat) : Int)), ?_, ?_⟩
      · rintro _ _ ⟨rfl, rfl⟩
        refine ⟨_, rfl, by omega, by omega, st_own r hbk (by omega) (by rw [d1]) ?_⟩
        rintro _ rfl _ rfl
        rw [d2, wi (n := k + 1) (by omega) (by omega)]
        refine ⟨_, by omega, k + 1, b2, rs.set k r, rfl, by omega, rfl, rfl, d5, by simp [hrl], mem_set hrlt d4, Heap.put_same _ _ _, hle.put hg _, ?_⟩
        rw [val_take_succ (by simp; omega), take_set_ge (Nat.le_refl _), getD_set_eq (by omega), val_take_succ', val_take_succ']
        exact sub_val hv d3 (Nat.pow_succ _ _)
      · refine Br.mk (fun q2 => ?_) (fun q2 => ?_)
        · have q3 : k < m' := by have := of_decide_eq_true q2; omega
          obtain ⟨ad2, hB, hld2⟩ := (w.mono hle).get q3
          refine ⟨ad2, hB, by omega, by omega, _, hld2, ?_⟩
          rintro _ rfl
          rw [wu (a := ((ys.getD k 0 : Nat) : Int)) (n := ys.getD k 0) rfl (by omega)]
          refine ⟨rfl, ?_⟩
          rw [wrap_u64_mod, wrap_u64_mod, wrap_u64_mod]
          omega
        · have q3 : m' ≤ k := by have := of_decide_eq_false q2; omega
          refine ⟨rfl, ?_⟩
          rw [getD_ge (xs := ys) (k := k) (by omega)]
          congr 1
          omega
    · have q' : k = n' := by have := of_decide_eq_false q; omega
      subst q'
      have hg1 := val_lt (l := rs) hrlt
      rw [List.take_of_length_le (by omega), List.take_of_length_le (by omega), List.take_of_length_le (by omega)] at hv
      rw [hrl] at hg1
      have b0 : bN = 0 := by
        rcases Nat.eq_zero_or_pos bN with e | e
        · exact e
        · exfalso
          have : bN = 1 := by omega
          subst this
          omega
      subst b0
      have us := U32.of_blk (m := k) (k := k) hbk hrlt (by omega) (Nat.le_refl _)
      rw [List.take_of_length_le (by omega)] at us
      refine (trim_n ⟨_, us, rfl⟩ (by omega)).mono ?_
      rintro _ _ ⟨m2, rfl, _, hN, rfl⟩
      rw [show val rs = val xs - val ys from by omega] at hN
      exact ⟨_, _, _, rfl, Or.inr ⟨hyx, _, _, _, rfl, hN, hle⟩⟩

theorem iadd_c {h : Heap} {s s2 : Bool} {A B : Option Addr} {n c m d : Nat} {z w : Int} (u : IsI h s A n c z) (v : IsI h s2 B m d w) (hn : n ≤ 549755813888) (hm : m ≤ 549755813888) :
    CallsU Tryz.prog 68 [.agg #[.bool s, .slice A n c], .agg #[.bool s2, .slice B m d]] h fun r h' => ∃ s' A' k c', r = .agg #[.bool s', .slice A' k c'] ∧ NmI h' s' A' k c' (z + w) ∧ k ≤ max n m + 1 ∧ Le h h' := by
  apply integer_Add_ok
  obtain ⟨x, ux, rfl⟩ := u
  obtain ⟨y, uy, rfl⟩ := v
  have hsx : Sz x (max n m) := ux.sz.mono (by omega)
  have hsy : Sz y (max n m) := uy.sz.mono (by omega)
  refine Br.mk (fun q => ?_) (fun q => ?_)
  · have e : s = s2 := by simpa using q
    subst e
    refine (add_c ux uy (by omega) (by omega)).mono ?_
    rintro _ h1 ⟨A', k, c', rfl, hN, hl⟩
    have hk := NmN.le_of hN (hsx.add hsy)
    refine ⟨_, _, _, rfl, (by first | assumption | exact Le.refl _), (signed_c (s := s) (z := (if s then -(x : Int) else x) + (if s then -(y : Int) else y)) ⟨_, hN.is, by cases s <;> simp <;> omega⟩ (by omega)).mono ?_⟩
    rintro _ _ ⟨s', A', k, c', rfl, r, hk', hl'⟩
    exact ⟨_, _, _, _, rfl, _, _, _, _, rfl, r, by omega, hl.trans hl'⟩
  · have e : s2 = !s := by cases s <;> cases s2 <;> simp at q ⊢
    subst e
    refine (sub_c ux uy (by omega) (by omega)).mono ?_
    rintro _ h1 (⟨hlt, rfl, rfl⟩ | ⟨hge, A1, k1, c1, rfl, hN, hl⟩)
    · refine ⟨_, _, _, _, rfl, Br.mk (fun q => by cases q) (fun _ => ?_)⟩
      refine (sub_c uy ux (by omega) (by omega)).mono ?_
      rintro _ h1 (⟨hlt2, _⟩ | ⟨hge, A1, k1, c1, rfl, hN, hl⟩)
      · omega
      · have hk := NmN.le_of hN (hsy.le (Nat.sub_le _ _))
        refine ⟨_, _, _, _, rfl, (signed_c (s := !s) (z := (if s then -(x : Int) else x) + (if (!s) = true then -(y : Int) else y)) ⟨_, hN.is, by cases s <;> simp <;> omega⟩ (by omega)).mono ?_⟩
        rintro _ _ ⟨s', A', k, c', rfl, r, hk', hl'⟩
        exact ⟨_, _, _, _, rfl, _, _, _, _, rfl, r, by omega, hl.trans hl'⟩
    · have hk := NmN.le_of hN (hsx.le (Nat.sub_le _ _))
      refine ⟨_, _, _, _, rfl, Br.mk (fun _ => ?_) (fun q => by cases q)⟩
      refine (signed_c (s := s) (z := (if s then -(x : Int) else x) + (if (!s) = true then -(y : Int) else y)) ⟨_, hN.is, by cases s <;> simp <;> omega⟩ (by omega)).mono ?_
      rintro _ _ ⟨s', A', k, c', rfl, r, hk', hl'⟩
      exact ⟨_, _, _, _, rfl, _, _, _, _, rfl, r, by omega, hl.trans hl'⟩

theorem radd_b {h : Heap} {s s2 : Bool} {A B C D : Option Addr} {n c m d n2 c2 m2 d2 : Nat} {q p : Rat} (u : IsQ h s A n c B m d q) (w : IsQ h s2 C n2 c2 D m2 d2 p) (hn : n ≤ 134217728) (hm : m ≤ 134217728) (hn2 : n2 ≤ 134217728) (hm2 : m2 ≤ 134217728) :
    CallsU Tryz.prog 25 [.agg #[.bool s, .slice A n c, .slice B m d], .agg #[.bool s2, .slice C n2 c2, .slice D m2 d2]] h fun r h' => ∃ s' A' n' c' B' m' d', r = .agg #[.bool s', .slice A' n' c', .slice B' m' d'] ∧ NmQ h' s' A' n' c' B' m' d' (q + p) ∧ n' ≤ max (n + max m2 2) (n2 + max m 2) + 1 ∧ m' ≤ max m 2 + max m2 2 ∧ Le h h' := by
  apply ratio_Add_ok
  refine (rvalue_c u (by omega)).mono ?_
  rintro _ h1 ⟨s1, A1, n1, c1, B1, m1, d1, rfl, ⟨z, v, hv, uz, uv, rfl⟩, hn1, hm1, hl1⟩
  refine ⟨_, _, _, _, _, _, _, rfl, (by first | assumption | exact Le.refl _), (rvalue_c (w.mono hl1) (by omega)).mono ?_⟩
  rintro _ h2 ⟨s3, A3, n3, c3, B3, m3, d3, rfl, ⟨y, t, ht, uy, ut, rfl⟩, hn3, hm3, hl2⟩
  refine ⟨_, _, _, _, _, _, _, rfl, (rpos_c ut).mono ?_⟩
  rintro _ _ ⟨rfl, pt, rfl⟩
  refine ⟨_, _, _, _, rfl, (by first | assumption | exact Le.refl _), (imul_c (uz.mono hl2) pt (by omega) (by omega)).mono ?_⟩
  rintro _ h3 ⟨s4, A4, k4, c4, rfl, hN4, hk4, hl4⟩
  refine ⟨_, _, _, _, rfl, (by first | assumption | exact Le.refl _), (rpos_c ((uv.mono hl2).mono hl4)).mono ?_⟩
  rintro _ _ ⟨rfl, pv, rfl⟩
  refine ⟨_, _, _, _, rfl, (by first | assumption | exact Le.refl _), (imul_c (uy.mono hl4) pv (by omega) (by omega)).mono ?_⟩
  rintro _ h5 ⟨s6, A6, k6, c6, rfl, hN6, hk6, hl6⟩
  refine ⟨_, _, _, _, rfl, (iadd_c (hN4.mono hl6).is hN6.is (by omega) (by omega)).mono ?_⟩
  rintro _ h6 ⟨s7, A7, k7, c7, rfl, hN7, hk7, hl7⟩
  have hl27 := (hl4.trans hl6).trans hl7
  refine ⟨_, _, _, _, rfl, (mul_c ((uv.mono hl2).mono hl27) (ut.mono hl27) (by omega) (by omega)).mono ?_⟩
  rintro _ h7 ⟨A8, k8, c8, rfl, hN8, hl8⟩
  have hk8 := NmN.le_of hN8 (uv.sz.mul ut.sz)
  refine ⟨_, _, _, rfl, (by first | assumption | exact Le.refl _), (reduce_c (hN7.mono hl8).is hN8.is (Nat.mul_ne_zero hv ht) (by omega) (by omega)).mono ?_⟩
  rintro _ h8 ⟨s9, A9, n9, c9, B9, m9, d9, rfl, hN9, b1, b2, hl9⟩
  rw [← Rat.mkRat_add_mkRat _ _ hv ht] at hN9
  exact ⟨_, _, _, _, _, _, _, rfl, _, _, _, _, _, _, _, rfl, hN9, by omega, by omega, ((hl1.trans hl2).trans hl27).trans (hl8.trans hl9)⟩

theorem radd_c {h : Heap} {s s2 : Bool} {A B C D : Option Addr} {n c m d n2 c2 m2 d2 : Nat} {q p : Rat} (u : IsQ h s A n c B m d q) (w : IsQ h s2 C n2 c2 D m2 d2 p) (hn : n ≤ 134217728) (hm : m ≤ 134217728) (hn2 : n2 ≤ 134217728) (hm2 : m2 ≤ 134217728) :
    CallsU Tryz.prog 25 [.agg #[.bool s, .slice A n c, .slice B m d], .agg #[.bool s2, .slice C n2 c2, .slice D m2 d2]] h fun r h' => ∃ s' A' n' c' B' m' d', r = .agg #[.bool s', .slice A' n' c', .slice B' m' d'] ∧ NmQ h' s' A' n' c' B' m' d' (q + p) ∧ Le h h' := by
  refine (radd_b u w hn hm hn2 hm2).mono ?_
  rintro _ _ ⟨s9, A9, n9, c9, B9, m9, d9, rfl, a, _, _, b⟩
  exact ⟨_, _, _, _, _, _, _, rfl, a, b⟩

theorem rmul_c {h : Heap} {s s2 : Bool} {A B C D : Option Addr} {n c m d n2 c2 m2 d2 : Nat} {q p : Rat} (u : IsQ h s A n c B m d q) (w : IsQ h s2 C n2 c2 D m2 d2 p) (hn : n ≤ 134217728) (hm : m ≤ 134217728) (hn2 : n2 ≤ 134217728) (hm2 : m2 ≤ 134217728) :
    CallsU Tryz.prog 23 [.agg #[.bool s, .slice A n c, .slice B m d], .agg #[.bool s2, .slice C n2 c2, .slice D m2 d2]] h fun r h' => ∃ s' A' n' c' B' m' d', r = .agg #[.bool s', .slice A' n' c', .slice B' m' d'] ∧ NmQ h' s' A' n' c' B' m' d' (q * p) ∧ n' ≤ n + n2 ∧ m' ≤ max m 2 + max m2 2 ∧ Le h h' := by
  apply ratio_Mul_ok
  refine (rvalue_c u (by omega)).mono ?_
  rintro _ h1 ⟨s1, A1, n1, c1, B1, m1, d1, rfl, ⟨z, v, hv, uz, uv, rfl⟩, hn1, hm1, hl1⟩
  refine ⟨_, _, _, _, _, _, _, rfl, (by first | assumption | exact Le.refl _), (rvalue_c (w.mono hl1) (by omega)).mono ?_⟩
  rintro _ h2 ⟨s3, A3, n3, c3, B3, m3, d3, rfl, ⟨y, t, ht, uy, ut, rfl⟩, hn3, hm3, hl2⟩
  refine ⟨_, _, _, _, _, _, _, rfl, (imul_c (uz.mono hl2) uy (by omega) (by omega)).mono ?_⟩
  rintro _ h3 ⟨s4, A4, k4, c4, rfl, hN4, hk4, hl4⟩
  refine ⟨_, _, _, _, rfl, (by first | assumption | exact Le.refl _), (mul_c ((uv.mono hl2).mono hl4) (ut.mono hl4) (by omega) (by omega)).mono ?_⟩
  rintro _ h7 ⟨A8, k8, c8, rfl, hN8, hl8⟩
  have hk8 := NmN.le_of hN8 (uv.sz.mul ut.sz)
  refine ⟨_, _, _, rfl, (reduce_c (hN4.mono hl8).is hN8.is (Nat.mul_ne_zero hv ht) (by omega) (by omega)).mono ?_⟩
  rintro _ h8 ⟨s9, A9, n9, c9, B9, m9, d9, rfl, hN9, b1, b2, hl9⟩
  rw [← Rat.mkRat_mul_mkRat] at hN9
  exact ⟨_, _, _, _, _, _, _, rfl, _, _, _, _, _, _, _, rfl, hN9, by omega, by omega, ((hl1.trans hl2).trans hl4).trans (hl8.trans hl9)⟩
end Go.Proofs.YtccplhjglhdopaaGreatDoor
