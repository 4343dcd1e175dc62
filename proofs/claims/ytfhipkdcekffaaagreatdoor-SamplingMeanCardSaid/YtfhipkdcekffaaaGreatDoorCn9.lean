/-
  Contracts: natural: Gcd; integer: signed, Norm, Of, Mul, Cmp; ratio: zero, value, positive, reduce, Norm, Of, Cmp.
-/
import Derived.Test.YtfhipkdcekffaaaGreatDoorCn8
import Derived.Test.YtfhipkdcekffaaaGreatDoorVcI
import Derived.Test.YtfhipkdcekffaaaGreatDoorVcQ
namespace Go.Proofs.YtfhipkdcekffaaaGreatDoor
open Go Go.Vcg
attribute [local irreducible] Br

/-- A number that has at most k limbs. -/
def Sz (v k : Nat) : Prop := v < B32 ^ k

theorem Sz.mono {v k j : Nat} (h : Sz v k) (hk : k ≤ j) : Sz v j := Nat.lt_of_lt_of_le h (Nat.pow_le_pow_right (by decide) hk)
theorem Sz.le {v w k : Nat} (h : Sz v k) (hw : w ≤ v) : Sz w k := Nat.lt_of_le_of_lt hw h
theorem Sz.mul {v w k j : Nat} (h : Sz v k) (g : Sz w j) : Sz (v * w) (k + j) := by
  unfold Sz at *
  rw [Nat.pow_add]
  exact Nat.mul_lt_mul'' h g
theorem Sz.add {v w k : Nat} (h : Sz v k) (g : Sz w k) : Sz (v + w) (k + 1) := by
  unfold Sz at *
  rw [Nat.pow_succ]
  generalize B32 ^ k = M at *
  have : M * 2 ≤ M * B32 := Nat.mul_le_mul_left _ (by decide)
  omega
theorem Sz.one : Sz 1 1 := by unfold Sz; decide
theorem Sz.zero (k : Nat) : Sz 0 k := Nat.pow_pos (by decide)
theorem Sz.u64 {v : Nat} (h : v < 18446744073709551616) : Sz v 2 := by unfold Sz B32; omega
theorem IsN.sz {h : Heap} {A : Option Addr} {n c v : Nat} (u : IsN h A n c v) : Sz v n := IsN.lt u
theorem NmN.sz {h : Heap} {A : Option Addr} {n c v : Nat} (u : NmN h A n c v) : Sz v n := IsN.lt u.is
theorem NmN.le_of {h : Heap} {A : Option Addr} {n c v k : Nat} (u : NmN h A n c v) (hs : Sz v k) : n ≤ k := NmN.len_le u hs

theorem gcd_c {h : Heap} {A B : Option Addr} {n c m d x y : Nat} (ux : IsN h A n c x) (uy : IsN h B m d y) (hn : n ≤ 1099511627776) (hm : m ≤ 1099511627776) :
    CallsU Tryz.prog 63 [.slice A n c, .slice B m d] h fun r h' => ∃ A' k c', r = .slice A' k c' ∧ NmN h' A' k c' (Nat.gcd x y) ∧ k ≤ max n m ∧ Le h h' := by
  apply natural_Gcd_ok
  refine (norm_c ux (by omega)).mono ?_
  rintro _ h1 ⟨A1, n1, c1, rfl, hn1, nx, hl1⟩
  refine ⟨_, _, _, rfl, (norm_c (uy.mono hl1) (by omega)).mono ?_⟩
  rintro _ h2 ⟨A2, n2, c2, rfl, hn2, ny, hl2⟩
  refine ⟨_, _, _, rfl, fun v aA an ac bA bn bc h' => ∃ u, NmN h' aA an ac u ∧ NmN h' bA bn bc v ∧ Nat.gcd u v = Nat.gcd x y ∧ an ≤ max n m ∧ bn ≤ max n m ∧ Le h h', ⟨y, x, nx.mono hl2, ny, rfl, by omega, by omega, hl1.trans hl2⟩, ?_⟩
  rintro v aA an ac bA bn bc h' ⟨u, nu, nv, hg, ha, hb, hl⟩
  have hz := NmN.zero_iff nv
  refine Br.mk (fun q => ?_) (fun q => ?_)
  · have hv : v ≠ 0 := by simp at q; omega
    refine (divmod_c nu.is nv.is (by omega) (by omega) hv).mono ?_
    rintro _ h4 ⟨A3, n3, c3, A4, n4, c4, rfl, _, hN, hl'⟩
    have hlt : u % v < v := Nat.mod_lt _ (by omega)
    refine ⟨_, _, _, _, _, _, _, rfl, u % v, hlt, v, nv.mono hl', hN, ?_, hb, ?_, hl.trans hl'⟩
    · rw [← hg, Nat.gcd_comm v, Nat.gcd_comm u, ← Nat.gcd_rec]
    · have := NmN.le_of hN (nv.sz.le (Nat.le_of_lt hlt)); omega
  · have hv : v = 0 := by simp at q; omega
    subst hv
    rw [Nat.gcd_zero_right] at hg
    subst hg
    exact ⟨_, _, _, rfl, nu, ha, hl⟩

/-! ### integers -/
/-- A sign and limbs that denote an integer. -/
def IsI (h : Heap) (s : Bool) (A : Option Addr) (n c : Nat) (z : Int) : Prop := ∃ v : Nat, IsN h A n c v ∧ z = if s then -(v : Int) else v
/-- .. in normal form. -/
def NmI (h : Heap) (s : Bool) (A : Option Addr) (n c : Nat) (z : Int) : Prop := NmN h A n c z.natAbs ∧ s = decide (z < 0)

theorem NmI.is {h : Heap} {s : Bool} {A : Option Addr} {n c : Nat} {z : Int} (u : NmI h s A n c z) : IsI h s A n c z := by
  refine ⟨z.natAbs, u.1.is, ?_⟩
  rw [u.2]
  by_cases hz : z < 0 <;> simp [hz] <;> omega
theorem IsI.mono {h h' : Heap} {s : Bool} {A : Option Addr} {n c : Nat} {z : Int} (u : IsI h s A n c z) (l : Le h h') : IsI h' s A n c z := let ⟨v, a, b⟩ := u; ⟨v, a.mono l, b⟩
theorem NmI.mono {h h' : Heap} {s : Bool} {A : Option Addr} {n c : Nat} {z : Int} (u : NmI h s A n c z) (l : Le h h') : NmI h' s A n c z := ⟨u.1.mono l, u.2⟩
theorem IsI.natAbs {h : Heap} {s : Bool} {A : Option Addr} {n c : Nat} {z : Int} (u : IsI h s A n c z) : IsN h A n c z.natAbs := by
  obtain ⟨v, a, rfl⟩ := u
  cases s
  · simpa using a
  · simpa using a
theorem IsI.pos {h : Heap} {A : Option Addr} {n c v : Nat} (u : IsN h A n c v) : IsI h false A n c v := ⟨v, u, by simp⟩
theorem IsI.sz {h : Heap} {s : Bool} {A : Option Addr} {n c : Nat} {z : Int} (u : IsI h s A n c z) : Sz z.natAbs n := IsN.lt u.natAbs

theorem signed_c {h : Heap} {s : Bool} {A : Option Addr} {n c : Nat} {z : Int} (u : IsI h s A n c z) (hn : n ≤ 1099511627776) :
    CallsU Tryz.prog 61 [.bool s, .slice A n c] h fun r h' => ∃ s' A' k c', r = .agg #[.bool s', .slice A' k c'] ∧ NmI h' s' A' k c' z ∧ k ≤ n ∧ Le h h' := by
  apply integer_signed_ok
  obtain ⟨v, uv, ez⟩ := u
  have ev : z.natAbs = v := by subst ez; cases s <;> simp
  refine (norm_c uv (by omega)).mono ?_
  rintro _ h1 ⟨A', k, c', rfl, hk, hN, hl⟩
  have hz := NmN.zero_iff hN
  rw [← ev] at hN
  refine ⟨_, _, _, rfl, Br.mk (fun q => ?_) (fun q => ?_)⟩
  · subst q
    refine ⟨_, _, _, _, rfl, ⟨hN, ?_⟩, hk, hl⟩
    simp only [if_true] at ez
    apply decide_eq_decide.2
    omega
  · subst q
    refine ⟨_, _, _, _, rfl, ⟨hN, ?_⟩, hk, hl⟩
    simp only [Bool.false_eq_true, if_false] at ez
    symm
    apply decide_eq_false
    omega

theorem inorm_c {h : Heap} {s : Bool} {A : Option Addr} {n c : Nat} {z : Int} (u : IsI h s A n c z) (hn : n ≤ 1099511627776) :
    CallsU Tryz.prog 60 [.agg #[.bool s, .slice A n c]] h fun r h' => ∃ s' A' k c', r = .agg #[.bool s', .slice A' k c'] ∧ NmI h' s' A' k c' z ∧ k ≤ n ∧ Le h h' := by
  apply integer_Norm_ok
  refine (signed_c u hn).mono ?_
  rintro _ _ ⟨s', A', k, c', rfl, r⟩
  exact ⟨_, _, _, _, rfl, _, _, _, _, rfl, r⟩

theorem mul_sign (a b : Bool) (x y : Nat) : (if a then -(x : Int) else x) * (if b then -(y : Int) else y) = if !(a == b) then -((x * y : Nat) : Int) else ((x * y : Nat) : Int) := by
  cases a <;> cases b <;> simp [Int.natCast_mul, Int.neg_mul, Int.mul_neg]

theorem imul_c {h : Heap} {s s2 : Bool} {A B : Option Addr} {n c m d : Nat} {z w : Int} (u : IsI h s A n c z) (v : IsI h s2 B m d w) (hn : n ≤ 549755813888) (hm : m ≤ 549755813888) :
    CallsU Tryz.prog 39 [.agg #[.bool s, .slice A n c], .agg #[.bool s2, .slice B m d]] h fun r h' => ∃ s' A' k c', r = .agg #[.bool s', .slice A' k c'] ∧ NmI h' s' A' k c' (z * w) ∧ k ≤ n + m ∧ Le h h' := by
  apply integer_Mul_ok
  obtain ⟨x, ux, rfl⟩ := u
  obtain ⟨y, uy, rfl⟩ := v
  refine (mul_c ux uy (by omega) (by omega)).mono ?_
  rintro _ h1 ⟨A', k, c', rfl, hN, hl⟩
  have hk := NmN.le_of hN (ux.sz.mul uy.sz)
  refine ⟨_, _, _, rfl, (signed_c ⟨_, hN.is, rfl⟩ (by omega)).mono ?_⟩
  rintro _ _ ⟨s', A', k, c', rfl, r, hk', hl'⟩
  exact ⟨_, _, _, _, rfl, _, _, _, _, rfl, by rw [mul_sign]; exact r, by omega, hl.trans hl'⟩

theorem icmp_c {h : Heap} {s s2 : Bool} {A B : Option Addr} {n c m d : Nat} {z w : Int} (u : IsI h s A n c z) (v : IsI h s2 B m d w) (hn : n ≤ 1099511627776) (hm : m ≤ 1099511627776) :
    CallsU Tryz.prog 38 [.agg #[.bool s, .slice A n c], .agg #[.bool s2, .slice B m d]] h fun r h' => r = .int .i64 (cmpI z w) ∧ Le h h' := by
  apply integer_Cmp_ok
  refine (inorm_c u hn).mono ?_
  rintro _ h1 ⟨s1, A1, k1, c1, rfl, n1, hk1, hl1⟩
  refine ⟨_, _, _, _, rfl, (inorm_c (v.mono hl1) hm).mono ?_⟩
  rintro _ h2 ⟨s3, A2, k2, c2, rfl, n2, hk2, hl2⟩
  have n1' := n1.mono hl2
  have hl := hl1.trans hl2
  have e1 := n1.2
  have e2 := n2.2
  refine ⟨_, _, _, _, rfl, fun b h' => b = (s1 && !s3) ∧ h2 = h', ?_, ?_⟩
  · rintro _ _ ⟨rfl, rfl⟩
    refine Br.mk (fun q => ?_) (fun q => ⟨fun b h' => b = (!s1 && s3) ∧ h2 = h', ?_, ?_⟩)
    · rw [e1, e2] at q; simp at q
      refine ⟨?_, hl⟩
      unfold cmpI
      rw [if_pos (by omega)]
    · rintro _ _ ⟨rfl, rfl⟩
      refine Br.mk (fun q2 => ?_) (fun q2 => Br.mk (fun q3 => ?_) (fun q3 => ?_))
      · rw [e1, e2] at q2; simp at q2
        refine ⟨?_, hl⟩
        unfold cmpI
        rw [if_neg (by omega), if_pos (by omega)]
      · refine (cmp_c n2.1.is n1'.1.is (by omega) (by omega)).mono ?_
        rintro _ _ ⟨rfl, rfl⟩
        refine ⟨_, rfl, ?_, hl⟩
        rw [e1] at q3; simp at q3
        rw [e1, e2] at q; simp [q3] at q
        have a1 : (z.natAbs : Int) = -z := by omega
        have a2 : (w.natAbs : Int) = -w := by omega
        rw [a1, a2]
        unfold cmpI
        split <;> split <;> (try split) <;> (try split) <;> first | rfl | omega
      · refine (cmp_c n1'.1.is n2.1.is (by omega) (by omega)).mono ?_
        rintro _ _ ⟨rfl, rfl⟩
        refine ⟨_, rfl, ?_, hl⟩
        rw [e1] at q3; simp at q3
        rw [e1, e2] at q2; simp [q3] at q2
        have a1 : (z.natAbs : Int) = z := by omega
        have a2 : (w.natAbs : Int) = w := by omega
        rw [a1, a2]
    · refine Br.mk (fun q2 => ⟨?_, rfl⟩) (fun q2 => ⟨?_, rfl⟩)
      · simp at q2; simp [q2]
      · simp at q2; simp [q2]
  · refine Br.mk (fun q2 => ⟨?_, rfl⟩) (fun q2 => ⟨?_, rfl⟩)
    · simp [q2]
    · simp [q2]

theorem iof_c (z : Int) (h1 : -9223372036854775808 ≤ z) (h2 : z < 9223372036854775808) (h : Heap) :
    CallsU Tryz.prog 44 [.int .i64 z] h fun r h' => ∃ s' A' k c', r = .agg #[.bool s', .slice A' k c'] ∧ NmI h' s' A' k c' z ∧ k ≤ 2 ∧ Le h h' := by
  apply integer_Of_ok
  refine Br.mk (fun q => ?_) (fun q => ?_)
  · have hz : z < 0 := by simpa using q
    rintro _ rfl
    have e : IntKind.u64.wrap (0 - IntKind.u64.wrap z) = ((z.natAbs : Nat) : Int) := by simp only [wrap_u64_mod]; omega
    rw [e]
    refine (of_c z.natAbs (by omega) h).mono ?_
    rintro _ h1 ⟨A, m, c, rfl, hm, hN, hl⟩
    refine ⟨_, _, _, rfl, (signed_c (s := true) (z := z) ⟨_, hN.is, by simp; omega⟩ (by omega)).mono ?_⟩
    rintro _ _ ⟨s', A', k, c', rfl, r, hk', hl'⟩
    exact ⟨_, _, _, _, rfl, _, _, _, _, rfl, r, by omega, hl.trans hl'⟩
  · have hz : 0 ≤ z := by simpa using q
    rw [wu (n := z.natAbs) (by omega) (by omega)]
    refine (of_c z.natAbs (by omega) h).mono ?_
    rintro _ h1 ⟨A, m, c, rfl, hm, hN, hl⟩
    refine ⟨_, _, _, rfl, (signed_c (s := false) (z := z) ⟨_, hN.is, by simp; omega⟩ (by omega)).mono ?_⟩
    rintro _ _ ⟨s', A', k, c', rfl, r, hk', hl'⟩
    exact ⟨_, _, _, _, rfl, _, _, _, _, rfl, r, by omega, hl.trans hl'⟩

/-! ### ratios -/
/-- A numerator and a denominator that denote a rational number; the denominator 0 makes it 0. -/
def IsQ (h : Heap) (s : Bool) (A : Option Addr) (n c : Nat) (B : Option Addr) (m d : Nat) (q : Rat) : Prop := ∃ (z : Int) (v : Nat), IsI h s A n c z ∧ IsN h B m d v ∧ mkRat z v = q
/-- .. in normal form. -/
def NmQ (h : Heap) (s : Bool) (A : Option Addr) (n c : Nat) (B : Option Addr) (m d : Nat) (q : Rat) : Prop := NmI h s A n c q.num ∧ NmN h B m d q.den

section
variable {h h' : Heap} {s : Bool} {A B : Option Addr} {n c m d : Nat} {q : Rat}
theorem NmQ.is (u : NmQ h s A n c B m d q) : IsQ h s A n c B m d q := ⟨q.num, q.den, u.1.is, u.2.is, Rat.mkRat_self q⟩
theorem NmQ.mono (u : NmQ h s A n c B m d q) (l : Le h h') : NmQ h' s A n c B m d q := ⟨u.1.mono l, u.2.mono l⟩
theorem IsQ.mono (u : IsQ h s A n c B m d q) (l : Le h h') : IsQ h' s A n c B m d q := let ⟨z, v, a, b, e⟩ := u; ⟨z, v, a.mono l, b.mono l, e⟩
end

theorem rzero_c {h : Heap} {A : Option Addr} {n c v : Nat} (u : IsN h A n c v) (hn : n ≤ 1099511627776) :
    CallsU Tryz.prog 59 [.slice A n c] h fun r h' => r = .bool (decide (v = 0)) ∧ h = h' := by
  apply ratio_zero_ok
  refine (cmp_c u (NmN.nil h none 0).is hn (by omega)).mono ?_
  rintro _ _ ⟨rfl, rfl⟩
  refine ⟨_, rfl, ?_, rfl⟩
  congr 1
  unfold cmpI
  rcases Nat.eq_zero_or_pos v with e | e
  · subst e; rfl
  · rw [if_neg (by omega), if_pos (by omega), decide_eq_false (by omega)]; rfl

theorem rpos_c {h : Heap} {A : Option Addr} {n c v : Nat} (u : IsN h A n c v) :
    CallsU Tryz.prog 40 [.slice A n c] h fun r h' => r = .agg #[.bool false, .slice A n c] ∧ IsI h false A n c v ∧ h = h' := by
  apply ratio_positive_ok
  exact ⟨rfl, IsI.pos u, rfl⟩

/-- A ratio as value returns it: the denominator is not 0. -/
def VlQ (h : Heap) (s : Bool) (A : Option Addr) (n c : Nat) (B : Option Addr) (m d : Nat) (q : Rat) : Prop := ∃ (z : Int) (v : Nat), v ≠ 0 ∧ IsI h s A n c z ∧ IsN h B m d v ∧ mkRat z v = q

theorem rvalue_c {h : Heap} {s : Bool} {A B : Option Addr} {n c m d : Nat} {q : Rat} (u : IsQ h s A n c B m d q) (hm : m ≤ 1099511627776) :
    CallsU Tryz.prog 37 [.agg #[.bool s, .slice A n c, .slice B m d]] h fun r h' => ∃ s' A' n' c' B' m' d', r = .agg #[.bool s', .slice A' n' c', .slice B' m' d'] ∧ VlQ h' s' A' n' c' B' m' d' q ∧ n' ≤ n ∧ m' ≤ max m 2 ∧ Le h h' := by
  apply ratio_value_ok
  obtain ⟨z, v, uz, uv, e⟩ := u
  refine (rzero_c uv hm).mono ?_
  rintro _ _ ⟨rfl, rfl⟩
  refine ⟨_, rfl, Br.mk (fun q0 => ?_) (fun q0 => ?_)⟩
  · have hv : v = 0 := by simpa using q0
    subst hv
    refine (of_c 1 (by omega) h).mono ?_
    rintro _ h1 ⟨A', k, c', rfl, hk, hN, hl⟩
    refine ⟨_, _, _, rfl, _, _, _, _, _, _, _, rfl, ⟨0, 1, by omega, IsI.pos (NmN.nil _ none 0).is, hN.is, ?_⟩, by omega, by omega, hl⟩
    rw [← e]; simp
  · have hv : v ≠ 0 := by simpa using q0
    exact ⟨_, _, _, _, _, _, _, rfl, ⟨z, v, hv, uz, uv, e⟩, by omega, by omega, Le.refl _⟩

theorem mkRat_num {z : Int} {v : Nat} (hv : v ≠ 0) : (mkRat z v).num.natAbs = z.natAbs / Nat.gcd z.natAbs v ∧ (mkRat z v).den = v / Nat.gcd z.natAbs v := by
  rw [Rat.num_mkRat, Rat.den_mkRat, if_neg hv, if_neg hv, Nat.gcd_comm v]
  refine ⟨?_, rfl⟩
  have hd : ((Nat.gcd z.natAbs v : Nat) : Int) ∣ z := Int.ofNat_dvd_left.2 (Nat.gcd_dvd_left _ _)
  rw [Int.natAbs_ediv_of_dvd hd]
  simp

theorem mkRat_sign {z : Int} {v : Nat} (hv : v ≠ 0) : ((mkRat z v).num < 0 ↔ z < 0) := by
  rw [Rat.num_mkRat, if_neg hv]
  have hg : 0 < v.gcd z.natAbs := Nat.gcd_pos_of_pos_left _ (by omega)
  have hd : ((v.gcd z.natAbs : Nat) : Int) ∣ z := Int.ofNat_dvd_left.2 (Nat.gcd_dvd_right _ _)
  obtain ⟨k, hk⟩ := hd
  generalize v.gcd z.natAbs = g at *
  subst hk
  rw [Int.mul_ediv_cancel_left _ (by omega)]
  constructor
  · intro h; exact Int.mul_neg_of_pos_of_neg (by omega) h
  · intro h
    rcases Int.lt_or_le k 0 with a | a
    · exact a
    · have := Int.mul_nonneg (show 0 ≤ (g : Int) by omega) a; omega

theorem mkRat_le {z : Int} {v : Nat} : (mkRat z v).num.natAbs ≤ z.natAbs ∧ (v ≠ 0 → (mkRat z v).den ≤ v) := by
  rcases Nat.eq_zero_or_pos v with e | e
  · subst e; simp
  · obtain ⟨a, b⟩ := mkRat_num (z := z) (v := v) (by omega)
    rw [a, b]
    exact ⟨Nat.div_le_self _ _, fun _ => Nat.div_le_self _ _⟩

theorem reduce_c {h : Heap} {s : Bool} {A B : Option Addr} {n c m d : Nat} {z : Int} {v : Nat} (u : IsI h s A n c z) (w : IsN h B m d v) (hv : v ≠ 0) (hn : n ≤ 1099511627776) (hm : m ≤ 1099511627776) :
    CallsU Tryz.prog 42 [.agg #[.bool s, .slice A n c], .slice B m d] h fun r h' => ∃ s' A' n' c' B' m' d', r = .agg #[.bool s', .slice A' n' c', .slice B' m' d'] ∧ NmQ h' s' A' n' c' B' m' d' (mkRat z v) ∧ n' ≤ n ∧ m' ≤ m ∧ Le h h' := by
  apply ratio_reduce_ok
  have un := u.natAbs
  obtain ⟨e1, e2⟩ := mkRat_num (z := z) hv
  refine (gcd_c un w hn hm).mono ?_
  rintro _ h1 ⟨A1, k1, c1, rfl, hN1, hk1, hl1⟩
  have hg : Nat.gcd z.natAbs v ≠ 0 := by have := Nat.gcd_pos_of_pos_right z.natAbs (show 0 < v by omega); omega
  refine ⟨_, _, _, rfl, (divmod_c (un.mono hl1) hN1.is hn (by omega) hg).mono ?_⟩
  rintro _ h2 ⟨A2, k2, c2, A3, k3, c3, rfl, hN2, _, hl2⟩
  refine ⟨_, _, _, _, _, _, _, rfl, (divmod_c (w.mono (hl1.trans hl2)) (hN1.mono hl2).is hm (by omega) hg).mono ?_⟩
  rintro _ h3 ⟨A4, k4, c4, A5, k5, c5, rfl, hN4, _, hl3⟩
  have hk2 := NmN.le_of hN2 (un.sz.le (Nat.div_le_self _ _))
  have hk4 := NmN.le_of hN4 (w.sz.le (Nat.div_le_self _ _))
  have hI : IsI h3 s A2 k2 c2 (mkRat z v).num := by
    refine ⟨_, (hN2.mono hl3).is, ?_⟩
    rw [← e1]
    have hs := mkRat_sign (z := z) hv
    obtain ⟨x, _, ez⟩ := u
    have : (mkRat z v).num = 0 ↔ z = 0 := by rw [Rat.num_eq_zero]; exact Rat.mkRat_eq_zero hv
    cases s <;> simp at ez ⊢ <;> omega
  refine ⟨_, _, _, _, _, _, _, rfl, (inorm_c hI (by omega)).mono ?_⟩
  rintro _ h4 ⟨s', A6, k6, c6, rfl, hN6, hk6, hl4⟩
  refine ⟨_, _, _, _, rfl, _, _, _, _, _, _, _, rfl, ⟨hN6, ?_⟩, by omega, hk4, ((hl1.trans hl2).trans hl3).trans hl4⟩
  rw [e2]
  exact hN4.mono hl4

theorem rnorm_c {h : Heap} {s : Bool} {A B : Option Addr} {n c m d : Nat} {q : Rat} (u : IsQ h s A n c B m d q) (hn : n ≤ 1099511627776) (hm : m ≤ 1099511627776) :
    CallsU Tryz.prog 46 [.agg #[.bool s, .slice A n c, .slice B m d]] h fun r h' => ∃ s' A' n' c' B' m' d', r = .agg #[.bool s', .slice A' n' c', .slice B' m' d'] ∧ NmQ h' s' A' n' c' B' m' d' q ∧ n' ≤ n ∧ m' ≤ max m 2 ∧ Le h h' := by
  apply ratio_Norm_ok
  refine (rvalue_c u hm).mono ?_
  rintro _ h1 ⟨s1, A1, n1, c1, B1, m1, d1, rfl, ⟨z, v, hv, uz, uv, e⟩, hn1, hm1, hl1⟩
  refine ⟨_, _, _, _, _, _, _, rfl, (reduce_c uz uv hv (by omega) (by omega)).mono ?_⟩
  rintro _ h2 ⟨s2, A2, n2, c2, B2, m2, d2, rfl, hN, hn2, hm2, hl2⟩
  rw [e] at hN
  exact ⟨_, _, _, _, _, _, _, rfl, _, _, _, _, _, _, _, rfl, hN, by omega, by omega, hl1.trans hl2⟩

/-- How two rational numbers compare. -/
def cmpQ (x y : Rat) : Int := if x < y then -1 else if y < x then 1 else 0

theorem mkRat_lt {z w : Int} {v u : Nat} (hv : v ≠ 0) (hu : u ≠ 0) : mkRat z v < mkRat w u ↔ z * u < w * v := by
  rw [Rat.mkRat_eq_div, Rat.mkRat_eq_div]
  have h1 : (0 : Rat) < (v : Rat) := Rat.natCast_pos.2 (by omega)
  have h2 : (0 : Rat) < (u : Rat) := Rat.natCast_pos.2 (by omega)
  have h3 : (u : Rat) ≠ 0 := (Rat.ne_of_lt h2).symm
  rw [Rat.div_lt_iff h1]
  have e : (w : Rat) / (u : Rat) * (v : Rat) = ((w : Rat) * (v : Rat)) / (u : Rat) := by grind
  rw [e, Rat.lt_div_iff h2]
  rw [← Rat.intCast_natCast, ← Rat.intCast_natCast, ← Rat.intCast_mul, ← Rat.intCast_mul, Rat.intCast_lt_intCast]

theorem cmpQ_mk {z w : Int} {v u : Nat} (hv : v ≠ 0) (hu : u ≠ 0) : cmpI (z * u) (w * v) = cmpQ (mkRat z v) (mkRat w u) := by
  unfold cmpI cmpQ
  simp only [mkRat_lt hv hu, mkRat_lt hu hv]

theorem rcmp_c {h : Heap} {s s2 : Bool} {A B C D : Option Addr} {n c m d n2 c2 m2 d2 : Nat} {q p : Rat} (u : IsQ h s A n c B m d q) (w : IsQ h s2 C n2 c2 D m2 d2 p) (hn : n ≤ 274877906944) (hm : m ≤ 274877906944) (hn2 : n2 ≤ 274877906944) (hm2 : m2 ≤ 274877906944) :
    CallsU Tryz.prog 16 [.agg #[.bool s, .slice A n c, .slice B m d], .agg #[.bool s2, .slice C n2 c2, .slice D m2 d2]] h fun r h' => r = .int .i64 (cmpQ q p) ∧ Le h h' := by
  apply ratio_Cmp_ok
  refine (rvalue_c u (by omega)).mono ?_
  rintro _ h1 ⟨s1, A1, n1, c1, B1, m1, d1, rfl, ⟨z, v, hv, uz, uv, rfl⟩, hn1, hm1, hl1⟩
  refine ⟨_, _, _, _, _, _, _, rfl, (rvalue_c (w.mono hl1) (by omega)).mono ?_⟩
  rintro _ h2 ⟨s3, A3, n3, c3, B3, m3, d3, rfl, ⟨y, t, ht, uy, ut, rfl⟩, hn3, hm3, hl2⟩
  refine ⟨_, _, _, _, _, _, _, rfl, (rpos_c ut).mono ?_⟩
  rintro _ _ ⟨rfl, pt, rfl⟩
  refine ⟨_, _, _, _, rfl, (imul_c (uz.mono hl2) pt (by omega) (by omega)).mono ?_⟩
  rintro _ h3 ⟨s4, A4, k4, c4, rfl, hN4, hk4, hl4⟩
  refine ⟨_, _, _, _, rfl, (rpos_c ((uv.mono hl2).mono hl4)).mono ?_⟩
  rintro _ _ ⟨rfl, pv, rfl⟩
  refine ⟨_, _, _, _, rfl, (imul_c (uy.mono hl4) pv (by omega) (by omega)).mono ?_⟩
  rintro _ h5 ⟨s6, A6, k6, c6, rfl, hN6, hk6, hl6⟩
  refine ⟨_, _, _, _, rfl, (icmp_c (hN4.mono hl6).is hN6.is (by omega) (by omega)).mono ?_⟩
  rintro _ h7 ⟨rfl, hl7⟩
  exact ⟨_, rfl, by rw [cmpQ_mk hv ht], (((hl1.trans hl2).trans hl4).trans hl6).trans hl7⟩

theorem rof_c (z w : Int) (hz1 : -9223372036854775808 ≤ z) (hz2 : z < 9223372036854775808) (hw1 : -9223372036854775808 ≤ w) (hw2 : w < 9223372036854775808) (hw : w ≠ 0) (h : Heap) :
    CallsU Tryz.prog 19 [.int .i64 z, .int .i64 w] h fun r h' => ∃ s' A' n' c' B' m' d', r = .tuple #[.agg #[.bool s', .slice A' n' c', .slice B' m' d'], .bool true] ∧ NmQ h' s' A' n' c' B' m' d' ((z : Rat) / (w : Rat)) ∧ n' ≤ 2 ∧ m' ≤ 2 ∧ Le h h' := by
  apply ratio_Of_ok
  refine Br.mk (fun q => by simp at q; omega) (fun _ => ?_)
  refine (iof_c z hz1 hz2 h).mono ?_
  rintro _ h1 ⟨s1, A1, k1, c1, rfl, n1, hk1, hl1⟩
  refine ⟨_, _, _, _, rfl, (iof_c w hw1 hw2 h1).mono ?_⟩
  rintro _ h2 ⟨s2, A2, k2, c2, rfl, n2, hk2, hl2⟩
  have e1 := n1.2
  have e2 := n2.2
  have hI : IsI h2 (!(s1 == s2)) A1 k1 c1 (if w < 0 then -z else z) := by
    refine ⟨_, (n1.mono hl2).1.is, ?_⟩
    rw [e1, e2]
    by_cases a : z < 0 <;> by_cases b : w < 0 <;> simp [a, b] <;> omega
  refine ⟨_, _, _, _, rfl, (reduce_c hI n2.1.is (by omega) (by omega) (by omega)).mono ?_⟩
  rintro _ h3 ⟨s3, A3, n3, c3, B3, m3, d3, rfl, hN, hn3, hm3, hl3⟩
  have e : mkRat (if w < 0 then -z else z) w.natAbs = (z : Rat) / (w : Rat) := by
    rw [Rat.mkRat_eq_div]
    by_cases b : w < 0
    · simp only [b, if_true]
      have : ((w.natAbs : Nat) : Rat) = -(w : Rat) := by rw [← Rat.intCast_natCast, ← Rat.intCast_neg]; congr 1; omega
      rw [this, Rat.intCast_neg]
      grind
    · simp only [b, if_false]
      have : ((w.natAbs : Nat) : Rat) = (w : Rat) := by rw [← Rat.intCast_natCast]; congr 1; omega
      rw [this]
  rw [e] at hN
  exact ⟨_, _, _, _, _, _, _, rfl, _, _, _, _, _, _, _, rfl, hN, by omega, by omega, (hl1.trans hl2).trans hl3⟩
end Go.Proofs.YtfhipkdcekffaaaGreatDoor
