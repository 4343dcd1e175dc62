/-
  Contracts: reference 01: Mul, Half, Shift, Bits, DivMod, Gcd.
-/
import Derived.Test.YtfhipkdcekffaaaGreatDoorRf1
namespace Go.Proofs.YtfhipkdcekffaaaGreatDoor
open Go Go.Vcg
attribute [local irreducible] Br

/-! ### Mul -/
theorem r1mul_c {h : Heap} {A B : Option Addr} {n c m d x y : Nat} (ux : IsN h A n c x) (uy : IsN h B m d y) (hn : n ≤ 1099511627776) (hm : m ≤ 1099511627776) :
    CallsU Tryz.prog 27 [.slice A n c, .slice B m d] h fun r h' => ∃ A' k c', r = .slice A' k c' ∧ NmN h' A' k c' (x * y) ∧ Le h h' := by
  apply ref01_Mul_ok
  obtain ⟨xs, a, rfl⟩ := ux
  obtain ⟨ys, b, rfl⟩ := uy
  have la := a.len
  have lb := b.len
  have hbd2 : B32 * B32 = 18446744073709551616 := by decide
  rintro _ rfl
  rw [wi (n := n + m) (by omega) (by omega)]
  refine ⟨by omega, by omega, by omega, by omega, ?_⟩
  rintro g h4 hg rfl
  simp only [Int.toNat_natCast]
  refine ⟨fun q i h' => ∃ (k : Nat) (rs : List Nat), q = n - k ∧ k ≤ n ∧ i = (k : Int) ∧ rs.length = n + m ∧ (∀ x ∈ rs, x < B32) ∧ (∀ j, k + m ≤ j → rs.getD j 0 = 0) ∧
      h' g = some ⟨rs.map lv, 76, (0, 0)⟩ ∧ Le h h' ∧ val (rs.take (k + m)) = val (xs.take k) * val ys,
    ⟨n, 0, List.replicate (n + m) 0, rfl, by omega, rfl, by simp, fun x hx => by rw [List.mem_replicate] at hx; rw [hx.2]; decide, fun j _ => by simp [List.getElem?_replicate]; split <;> rfl,
      by rw [Heap.put_same, repV_lv], Le.new hg _, by rw [List.take_replicate, val_zeros]; simp [val]⟩, ?_⟩
  rintro _ _ h5 ⟨k, rs, rfl, hk, rfl, hrl, hrs, hz, hb, hl, hval⟩
  refine Br.mk (fun q => ?_) (fun q => ?_)
  · have q' : k < n := by have := of_decide_eq_true q; omega
    have hxk := a.getD_lt k
    refine ⟨fun m2 carry i2 h' => ∃ (j cN : Nat) (ss : List Nat), m2 = m - j ∧ j ≤ m ∧ i2 = (j : Int) ∧ carry = (cN : Int) ∧ cN < B32 ∧ ss.length = n + m ∧ (∀ x ∈ ss, x < B32) ∧ ss.drop (k + j) = rs.drop (k + j) ∧
        h' g = some ⟨ss.map lv, 76, (0, 0)⟩ ∧ Le h h' ∧ val (ss.take (k + j)) + B32 ^ (k + j) * cN = val (rs.take (k + j)) + B32 ^ k * xs.getD k 0 * val (ys.take j),
      ⟨m, 0, 0, rs, rfl, by omega, rfl, rfl, by decide, hrl, hrs, rfl, hb, hl, by simp [val]⟩, ?_⟩
    rintro _ _ _ h6 ⟨j, cN, ss, rfl, hj, rfl, rfl, hc, hsl, hss, hdrop, hb6, hl6, hv6⟩
    refine Br.mk (fun q2 => ?_) (fun q2 => ?_)
    · have q2' : j < m := by have := of_decide_eq_true q2; omega
      have hyj := b.getD_lt j
      have hsk : ss.getD (k + j) 0 < B32 := getD_lt hss (by decide) _
      have hbd := limb_bound (x := xs.getD k 0) (y := ys.getD j 0) hxk hyj hsk hc
      refine (limb_c (a.mono hl6) k).mono ?_
      rintro _ _ ⟨rfl, rfl⟩
      refine ⟨_, rfl, (limb_c (b.mono hl6) j).mono ?_⟩
      rintro _ _ ⟨rfl, rfl⟩
      refine ⟨_, rfl, ?_⟩
      rintro _ rfl _ rfl
      rw [wi (n := k + j) (by omega) (by omega)]
      have us := U32.of_blk (m := n + m) (k := n + m) hb6 hss (by omega) (Nat.le_refl _)
      rw [List.take_of_length_le (by omega)] at us
      refine (limb_c us (k + j)).mono ?_
      rintro _ _ ⟨rfl, rfl⟩
      refine ⟨_, rfl, ?_⟩
      rintro _ rfl _ rfl _ rfl _ rfl
      rw [wu (a := ((xs.getD k 0 : Nat) : Int) * ((ys.getD j 0 : Nat) : Int)) (n := xs.getD k 0 * ys.getD j 0) (by rw [Int.natCast_mul]) (by omega), wu (a := ((xs.getD k 0 * ys.getD j 0 : Nat) : Int) + ((ss.getD (k + j) 0 : Nat) : Int)) (n := xs.getD k 0 * ys.getD j 0 + ss.getD (k + j) 0) (Int.natCast_add _ _).symm (by omega),
        wu (a := ((xs.getD k 0 * ys.getD j 0 + ss.getD (k + j) 0 : Nat) : Int) + (cN : Int)) (n := xs.getD k 0 * ys.getD j 0 + ss.getD (k + j) 0 + cN) (Int.natCast_add _ _).symm (by omega), w32t rfl]
      have ht : cN + (xs.getD k 0 * ys.getD j 0 + ss.getD (k + j) 0) = xs.getD k 0 * ys.getD j 0 + ss.getD (k + j) 0 + cN := by omega
      rw [← ht]
      generalize ht2 : cN + (xs.getD k 0 * ys.getD j 0 + ss.getD (k + j) 0) = t at hbd ⊢
      simp only [Int.toNat_natCast]
      refine ⟨_, rfl, by omega, by omega, st_own (t % B32) hb6 (by omega) rfl ?_⟩
      rintro _ rfl _ rfl
      rw [wdiv rfl (by omega), wi (n := j + 1) (by omega) (by omega)]
      refine ⟨m - (j + 1), by omega, j + 1, t / B32, ss.set (k + j) (t % B32), rfl, by omega, rfl, rfl, Nat.div_lt_of_lt_mul hbd, by simp [hsl], mem_set hss (Nat.mod_lt _ (by decide)), ?_, Heap.put_same _ _ _, hl6.put hg _, ?_⟩
      · rw [drop_set (by omega)]
        have := congrArg (List.drop 1) hdrop
        simpa [List.drop_drop, Nat.add_assoc] using this
      · rw [← Nat.add_assoc, val_take_succ (by simp; omega), take_set_ge (Nat.le_refl _), getD_set_eq (by omega), val_take_succ (xs := rs) (by omega), val_take_succ (xs := ys) (by omega), ← getD_drop hdrop (Nat.le_refl _)]
        exact mul_step _ _ _ _ _ _ _ _ _ _ _ hv6 ht2 (by rw [Nat.pow_succ]) (B32 ^ j) (by rw [Nat.pow_add])
    · have hjm : j = m := by have := of_decide_eq_false q2; omega
      subst hjm
      rintro _ rfl
      rw [wi (n := k + j) (by omega) (by omega)]
      simp only [Int.toNat_natCast]
      refine ⟨_, rfl, by omega, by omega, st_own cN hb6 (by omega) (by rw [w32 rfl, Nat.mod_eq_of_lt hc]) ?_⟩
      rintro _ rfl
      rw [wi (n := k + 1) (by omega) (by omega)]
      refine ⟨n - (k + 1), by omega, k + 1, ss.set (k + j) cN, rfl, by omega, rfl, by simp [hsl], mem_set hss hc, fun i hi => ?_, Heap.put_same _ _ _, hl6.put hg _, ?_⟩
      · rw [getD_set_ne (by omega), getD_drop hdrop (by omega)]
        exact hz i (by omega)
      · have e : k + 1 + j = k + j + 1 := by omega
        rw [e, val_take_succ (by simp; omega), take_set_ge (Nat.le_refl _), getD_set_eq (by omega), hv6, hval, val_take_succ (xs := xs) (by omega), List.take_of_length_le (l := ys) (by omega)]
        grind
  · have hka : k = n := by have := of_decide_eq_false q; omega
    subst hka
    have u := U32.of_blk (m := k + m) (k := k + m) hb hrs (by omega) (Nat.le_refl _)
    have hv2 : val (rs.take (k + m)) = val xs * val ys := by rw [hval, List.take_of_length_le (by omega)]
    refine (r1norm_c ⟨_, u, hv2⟩ (by omega)).mono ?_
    rintro _ _ ⟨A', m2, c', rfl, hm2, hN, hl2⟩
    exact ⟨_, _, _, rfl, _, _, _, rfl, hN, hl.trans hl2⟩

/-! ### Half -/
def HalfI (h : Heap) (xs : List Nat) (n : Nat) (m : Nat) (oA : Option Addr) (on oc : Nat) (i : Int) (h' : Heap) : Prop :=
  ∃ (k : Nat) (gs : List Nat), m = n - k ∧ i = (k : Int) ∧ k ≤ n ∧ gs.length = k ∧ (∀ x ∈ gs, x < 4294967296) ∧
    val gs * 2 + xs.getD 0 0 % 2 = val (xs.take k) + B32 ^ k * (xs.getD k 0 % 2) ∧ OwnE lv 76 h h' oA on oc gs ∧ Le h h'

theorem half_step {G X p q r x y : Nat} (h : G * 2 + r = X + p * (x % 2)) (hq : q = p * B32) : (G + p * (x / 2 + y % 2 * 2147483648)) * 2 + r = (X + p * x) + q * (y % 2) := by
  have h1 := Nat.mod_add_div x 2
  subst hq
  have hB : B32 = 2147483648 * 2 := rfl
  rw [hB]
  generalize x % 2 = a at *
  generalize x / 2 = b at *
  subst h1
  generalize y % 2 = e at *
  grind

theorem r1half_c {h : Heap} {A : Option Addr} {n c x : Nat} (ux : IsN h A n c x) (hn : n ≤ 1099511627776) :
    CallsU Tryz.prog 81 [.slice A n c] h fun r h' => ∃ A' k c', r = .slice A' k c' ∧ NmN h' A' k c' (x / 2) ∧ Le h h' := by
  apply ref01_Half_ok
  obtain ⟨xs, u, rfl⟩ := ux
  refine ⟨HalfI h xs n, ⟨_, 0, [], rfl, rfl, by omega, rfl, by simp, by simp [val], OwnE.nil h, Le.refl h⟩, ?_⟩
  rintro _ oA on oc _ h1 ⟨k, gs, rfl, rfl, hk, hgl, hlt, hv, own, hle⟩
  have hon := own.1
  refine Br.mk (fun q => ?_) (fun q => ?_)
  · have q' : k < n := by have := of_decide_eq_true q; omega
    have lx := u.getD_lt k
    have ly := u.getD_lt (k + 1)
    refine (limb_c (u.mono hle) k).mono ?_
    rintro _ _ ⟨rfl, rfl⟩
    refine ⟨_, rfl, ?_⟩
    rintro _ rfl _ rfl
    rw [wi (n := k + 1) (by omega) (by omega)]
    refine (limb_c (u.mono hle) (k + 1)).mono ?_
    rintro _ _ ⟨rfl, rfl⟩
    refine ⟨_, rfl, ?_⟩
    rintro _ rfl _ rfl _ rfl g0 _ hg0 rfl
    have e1 : Int.tdiv ((xs.getD k 0 : Nat) : Int) 2 = ((xs.getD k 0 / 2 : Nat) : Int) := by rw [Int.tdiv_eq_ediv_of_nonneg (by omega)]; omega
    have e2 : Int.tmod ((xs.getD (k + 1) 0 : Nat) : Int) 2 = ((xs.getD (k + 1) 0 % 2 : Nat) : Int) := by rw [Int.tmod_eq_emod_of_nonneg (by omega)]; omega
    rw [e1, e2, wu (a := ((xs.getD k 0 / 2 : Nat) : Int)) (n := xs.getD k 0 / 2) rfl (by omega), wu (a := ((xs.getD (k + 1) 0 % 2 : Nat) : Int) * 2147483648) (n := xs.getD (k + 1) 0 % 2 * 2147483648) (by omega) (by omega), wu (a := ((xs.getD k 0 / 2 : Nat) : Int) + ((xs.getD (k + 1) 0 % 2 * 2147483648 : Nat) : Int)) (n := xs.getD k 0 / 2 + xs.getD (k + 1) 0 % 2 * 2147483648) (by omega) (by omega), w32 rfl, Nat.mod_eq_of_lt (by unfold B32; omega)]
    refine own.app (x := xs.getD k 0 / 2 + xs.getD (k + 1) 0 % 2 * 2147483648) (z := 0) (bs := 4) (K := fun A c hh => ∀ t10 : Int, t10 = ((k + 1 : Nat) : Int) → ∃ m', m' < n - k ∧ HalfI h xs n m' A (on + 1) c t10 hh) hle lv_one1 rfl rfl hg0 (by omega) ?_
    intro A' c' h' o l _
    rintro _ rfl
    refine ⟨_, by omega, k + 1, _, rfl, rfl, by omega, by simp [hgl], mem_snoc32 hlt (by omega), ?_, o, l⟩
    rw [val_snoc32, hgl, val_take_succ']
    exact half_step hv (Nat.pow_succ _ _)
  · have q' : k = n := by have := of_decide_eq_false q; omega
    rw [val_take_le _ (by rw [u.len]; omega), getD_ge (xs := xs) (k := k) (by rw [u.len]; omega), Nat.zero_mod, Nat.mul_zero, Nat.add_zero] at hv
    refine (r1norm_c (own_is own hlt) (by omega)).mono ?_
    rintro _ h2 ⟨A', k', c', rfl, _, hN, hl⟩
    rw [show val gs = val xs / 2 from by omega] at hN
    exact ⟨_, _, _, rfl, _, _, _, rfl, hN, hle.trans hl⟩

/-! ### Shift -/
def ShiftI (h : Heap) (xs : List Nat) (n qd r : Nat) (m : Nat) (oA : Option Addr) (on oc : Nat) (carry i : Int) (h' : Heap) : Prop :=
  ∃ (k cN : Nat) (ds : List Nat), m = n + 1 - k ∧ i = (k : Int) ∧ carry = (cN : Int) ∧ cN < 2 ^ r ∧ k ≤ n + 1 ∧ ds.length = k ∧ (∀ x ∈ ds, x < 4294967296) ∧
    val ds + B32 ^ k * cN = 2 ^ r * val (xs.take k) ∧ OwnE lv 76 h h' oA on oc (List.replicate qd 0 ++ ds) ∧ Le h h'

theorem shift_step {D X p q s x c t : Nat} (h : D + p * c = s * X) (ht : x * s + c = t) (hq : q = p * B32) : (D + p * (t % B32)) + q * (t / B32) = s * (X + p * x) := by
  have := Nat.mod_add_div t B32
  subst hq
  grind

theorem r1shift_c {h : Heap} {A : Option Addr} {n c x : Nat} (ux : IsN h A n c x) (hn : n ≤ 1099511627776) (s : Nat) (hs : s ≤ 35184372088832) :
    CallsU Tryz.prog 79 [.slice A n c, .int .i64 s] h fun r h' => ∃ A' k c', r = .slice A' k c' ∧ NmN h' A' k c' (x * 2 ^ s) ∧ Le h h' := by
  apply ref01_Shift_ok
  obtain ⟨xs, u, rfl⟩ := ux
  have hB : B32 = 2 ^ 32 := by decide
  have hB' : B32 = 4294967296 := rfl
  have e1 : Int.tdiv ((s : Nat) : Int) 32 = ((s / 32 : Nat) : Int) := by rw [Int.tdiv_eq_ediv_of_nonneg (by omega)]; omega
  have e2 : Int.tmod ((s : Nat) : Int) 32 = ((s % 32 : Nat) : Int) := by rw [Int.tmod_eq_emod_of_nonneg (by omega)]; omega
  rintro _ rfl
  rw [e1, wi (n := s / 32) rfl (by omega)]
  refine ⟨by omega, by omega, by omega, by omega, ?_⟩
  rintro g _ hg rfl
  rw [Int.toNat_natCast]
  have hs2 : s = 32 * (s / 32) + s % 32 := by omega
  have hr : s % 32 < 32 := Nat.mod_lt _ (by decide)
  have hp : 0 < 2 ^ (s % 32) := Nat.pow_pos (by decide)
  have hp2 : 2 ^ (s % 32) ≤ 2 ^ 31 := Nat.pow_le_pow_right (by decide) (by omega)
  have hp3 : (2 : Nat) ^ 31 = 2147483648 := by decide
  have hqd : s / 32 ≤ 1099511627776 := by omega
  have hpow : (2 : Nat) ^ s = B32 ^ (s / 32) * 2 ^ (s % 32) := by
    rw [hB, ← Nat.pow_mul, ← Nat.pow_add, ← hs2]
  rw [hpow]
  generalize s / 32 = qd at *
  generalize s % 32 = r at *
  refine ⟨ShiftI h xs n qd r, ⟨_, 0, 0, [], rfl, rfl, rfl, hp, by omega, rfl, by simp, by simp [val], ?_, Le.new hg _⟩, ?_⟩
  · refine ⟨by simp, Or.inr ⟨g, [], rfl, hg, ?_, by simp⟩⟩
    rw [Heap.put_same, repV_lv]
    simp
  rintro _ oA on oc _ _ h1 ⟨k, cN, ds, rfl, rfl, rfl, hc, hk, hdl, hlt, hv, own, hle⟩
  have hon := own.1
  rw [List.length_append, List.length_replicate, hdl] at hon
  refine Br.mk (fun q => ?_) (fun q => ?_)
  · have q' : k ≤ n := by have := of_decide_eq_true q; omega
    have lx := u.getD_lt k
    refine (limb_c (u.mono hle) k).mono ?_
    rintro _ _ ⟨rfl, rfl⟩
    refine ⟨_, rfl, ?_⟩
    rintro _ rfl
    rw [e2, wu (n := r) rfl (by omega), Int.toNat_natCast, Nat.min_eq_left (by omega)]
    refine Br.mk (fun q1 => by have := of_decide_eq_true q1; omega) (fun _ => ?_)
    rintro _ rfl _ rfl _ rfl g0 _ hg0 rfl
    have hpI : ((2 : Int) ^ r) = ((2 ^ r : Nat) : Int) := by simp
    have hxs : xs.getD k 0 * 2 ^ r + 2 ^ r ≤ 4294967296 * 2 ^ r := by
      have : (xs.getD k 0 + 1) * 2 ^ r ≤ 4294967296 * 2 ^ r := Nat.mul_le_mul_right _ lx
      rw [Nat.add_mul, Nat.one_mul] at this
      exact this
    rw [hpI, wu (a := ((xs.getD k 0 : Nat) : Int) * ((2 ^ r : Nat) : Int)) (n := xs.getD k 0 * 2 ^ r) (by rw [Int.natCast_mul]) (by omega), wu (a := ((xs.getD k 0 * 2 ^ r : Nat) : Int) + (cN : Int)) (n := xs.getD k 0 * 2 ^ r + cN) (Int.natCast_add _ _).symm (by omega), w32t rfl]
    generalize ht : xs.getD k 0 * 2 ^ r + cN = t
    have htl : t < 2 ^ r * B32 := by rw [hB', Nat.mul_comm (2 ^ r)]; omega
    refine own.app (x := t % B32) (z := 0) (bs := 4) (K := fun A c hh => ∀ t34 : Int, t34 = IntKind.u64.wrap (Int.tdiv (t : Int) 4294967296) → ∀ t17 : Int, t17 = IntKind.i64.wrap ((k : Int) + 1) → ∃ m', m' < n + 1 - k ∧ ShiftI h xs n qd r m' A (on + 1) c t34 t17 hh) hle lv_one1 rfl rfl hg0 (by omega) ?_
    intro A' c' h' o l _
    rintro _ rfl _ rfl
    rw [wdiv rfl (by omega), wi (n := k + 1) (by omega) (by omega)]
    refine ⟨_, by omega, k + 1, t / B32, ds ++ [t % B32], rfl, rfl, rfl, Nat.div_lt_of_lt_mul (by rw [Nat.mul_comm]; exact htl), by omega, by simp [hdl], mem_snoc32 hlt (modB t), ?_, by rw [← List.append_assoc]; exact o, l⟩
    rw [val_snoc32, hdl, val_take_succ']
    exact shift_step hv ht (Nat.pow_succ _ _)
  · have q' : k = n + 1 := by have := of_decide_eq_false q; omega
    subst q'
    have hzero : cN = 0 := by
      rw [val_take_le _ (by rw [u.len]; omega)] at hv
      have hx := val_lt (l := xs) u.lt
      rw [u.len] at hx
      rcases Nat.eq_zero_or_pos cN with e | e
      · exact e
      · exfalso
        have h1 : B32 * B32 ^ n ≤ B32 ^ (n + 1) * cN := by
          have := Nat.mul_le_mul_left (B32 ^ (n + 1)) e
          rw [show B32 * B32 ^ n = B32 ^ (n + 1) * (0 + 1) from by rw [Nat.pow_succ, Nat.mul_comm, Nat.zero_add, Nat.mul_one]]
          exact this
        have h2 : 2 ^ r * val xs < 2 ^ r * B32 ^ n := Nat.mul_lt_mul_of_pos_left hx hp
        have h3 : 2 ^ r * B32 ^ n ≤ B32 * B32 ^ n := Nat.mul_le_mul_right _ (by omega)
        omega
    subst hzero
    rw [val_take_le _ (by rw [u.len]; omega), Nat.mul_zero, Nat.add_zero] at hv
    have hlt2 : ∀ x ∈ List.replicate qd 0 ++ ds, x < 4294967296 := fun x hx => by
      rcases List.mem_append.1 hx with a | a
      · rw [(List.mem_replicate.1 a).2]; decide
      · exact hlt x a
    refine (r1norm_c (own_is own hlt2) (by omega)).mono ?_
    rintro _ h2 ⟨A', k', c', rfl, _, hN, hl⟩
    rw [val_append, val_zeros, List.length_replicate, Nat.zero_add, hv, show B32 ^ qd * (2 ^ r * val xs) = val xs * (B32 ^ qd * 2 ^ r) from by rw [Nat.mul_comm (val xs), Nat.mul_assoc]] at hN
    exact ⟨_, _, _, rfl, _, _, _, rfl, hN, hle.trans hl⟩

/-! ### Bits -/
theorem r1bits_c {h : Heap} {A : Option Addr} {n c x : Nat} (ux : IsN h A n c x) (hn : n ≤ 1099511627776) :
    CallsU Tryz.prog 78 [.slice A n c] h fun r h' => ∃ t : Nat, r = .int .i64 t ∧ x < 2 ^ t ∧ (x ≠ 0 → 1 ≤ t ∧ 2 ^ (t - 1) ≤ x) ∧ (x = 0 → t = 0) ∧ t ≤ 32 * n ∧ Le h h' := by
  apply ref01_Bits_ok
  have hB : B32 = 2 ^ 32 := by decide
  refine (r1norm_c ux (by omega)).mono ?_
  rintro _ h1 ⟨A1, m, c1, rfl, hm, hN, hl⟩
  have hz := NmN.zero_iff hN
  refine ⟨_, _, _, rfl, Br.mk (fun q => ?_) (fun q => ?_)⟩
  · have q' : m = 0 := by have := beq_iff_eq.1 q; omega
    have x0 := hz.1 q'
    subst x0
    exact ⟨0, rfl, by decide, fun e => absurd rfl e, fun _ => rfl, by omega, hl⟩
  · have q' : 0 < m := by have := beq_eq_false_iff_ne.1 q; omega
    obtain ⟨xs, u, hv, nr⟩ := hN
    have lu := u.len
    obtain ⟨m, rfl⟩ : ∃ k, m = k + 1 := ⟨m - 1, by omega⟩
    have hne : xs ≠ [] := fun e => by rw [e] at lu; simp at lu
    have hval : val xs = val (xs.take m) + B32 ^ m * xs.getD m 0 := by rw [← val_take_succ', val_take_le _ (by omega)]
    have hlow := val_take_lt' (xs := xs) u.lt m
    have htop : xs.getD m 0 ≠ 0 := fun e => by
      have h2 := nrm_val_pos nr hne
      rw [lu, Nat.add_sub_cancel] at h2
      rw [e, Nat.mul_zero] at hval
      omega
    have htl := u.getD_lt m
    rintro _ rfl _ rfl _ rfl
    rw [wi (a := (((m + 1 : Nat) : Int) - 1)) (n := m) (by omega) (by omega), wi (n := 32 * m) (by omega) (by omega)]
    obtain ⟨ad, hA, hld⟩ := u.get (i := m) (by omega)
    rw [Int.toNat_natCast]
    refine ⟨ad, hA, by omega, by omega, _, hld, ?_⟩
    generalize xs.getD m 0 = top at *
    refine ⟨fun q nn tt h' => ∃ (j : Nat), tt = (q : Int) ∧ nn = ((32 * m + j : Nat) : Int) ∧ j ≤ 32 ∧ q = top / 2 ^ j ∧ h1 = h' ∧ (0 < j → 2 ^ (j - 1) ≤ top), ⟨top, 0, rfl, rfl, by omega, by simp, rfl, fun e => absurd e (Nat.lt_irrefl 0)⟩, ?_⟩
    rintro q _ _ _ ⟨j, rfl, rfl, hj, rfl, rfl, hpos⟩
    refine Br.mk (fun b => ?_) (fun b => ?_)
    · have b' : 0 < top / 2 ^ j := by have := of_decide_eq_true b; omega
      have hge : 2 ^ j ≤ top := by
        rcases Nat.lt_or_ge top (2 ^ j) with e | e
        · rw [Nat.div_eq_of_lt e] at b'; omega
        · exact e
      have hj32 : j < 32 := by
        rcases Nat.lt_or_ge j 32 with e | e
        · exact e
        · have : 2 ^ 32 ≤ 2 ^ j := Nat.pow_le_pow_right (by decide) e
          have e2 : (2 : Nat) ^ 32 = 4294967296 := by decide
          omega
      rintro _ rfl _ rfl
      have hdl : top / 2 ^ j ≤ top := Nat.div_le_self _ _
      have e1 : Int.tdiv ((top / 2 ^ j : Nat) : Int) 2 = ((top / 2 ^ j / 2 : Nat) : Int) := by rw [Int.tdiv_eq_ediv_of_nonneg (by omega)]; omega
      rw [wi (n := 32 * m + j + 1) (by omega) (by omega), e1, w32 rfl, Nat.mod_eq_of_lt (by unfold B32; omega)]
      refine ⟨top / 2 ^ j / 2, by omega, j + 1, rfl, by rw [Nat.add_assoc], by omega, by rw [Nat.div_div_eq_div_mul, ← Nat.pow_succ], rfl, fun _ => by rw [Nat.add_sub_cancel]; exact hge⟩
    · have b' : top / 2 ^ j = 0 := by
        have := of_decide_eq_false b
        generalize top / 2 ^ j = z at this ⊢
        omega
      have hlt : top < 2 ^ j := by
        rcases Nat.lt_or_ge top (2 ^ j) with e | e
        · exact e
        · have := Nat.div_pos e (Nat.pow_pos (by decide)); omega
      have hj0 : 0 < j := by
        rcases Nat.eq_zero_or_pos j with e | e
        · rw [e] at hlt; simp at hlt; omega
        · exact e
      have hp := hpos hj0
      have hpm : B32 ^ m = 2 ^ (32 * m) := by rw [hB, ← Nat.pow_mul]
      refine ⟨32 * m + j, rfl, ?_, fun _ => ⟨by omega, ?_⟩, fun e => ?_, by omega, hl⟩
      · rw [← hv, hval, Nat.pow_add, ← hpm]
        have : B32 ^ m * (top + 1) ≤ B32 ^ m * 2 ^ j := Nat.mul_le_mul_left _ hlt
        rw [Nat.mul_add] at this
        omega
      · rw [← hv, hval, show 32 * m + j - 1 = 32 * m + (j - 1) from by omega, Nat.pow_add, ← hpm]
        have : B32 ^ m * 2 ^ (j - 1) ≤ B32 ^ m * top := Nat.mul_le_mul_left _ hp
        omega
      · exfalso
        have h3 : B32 ^ m * 1 ≤ B32 ^ m * top := Nat.mul_le_mul_left _ (by omega)
        have h4 : 0 < B32 ^ m := Nat.pow_pos (by decide)
        omega
end Go.Proofs.YtfhipkdcekffaaaGreatDoor
