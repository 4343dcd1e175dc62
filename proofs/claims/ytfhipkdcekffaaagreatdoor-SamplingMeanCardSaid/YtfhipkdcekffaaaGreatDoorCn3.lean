/-
  Contracts: natural: Mul, short, left, right.
-/
import Derived.Test.YtfhipkdcekffaaaGreatDoorCn2
namespace Go.Proofs.YtfhipkdcekffaaaGreatDoor
open Go Go.Vcg

theorem mul_le_lt {a b c d : Nat} (h1 : a ≤ c) (h2 : b ≤ d) : a * b ≤ c * d := Nat.mul_le_mul h1 h2

theorem limb_bound {x y r c : Nat} (hx : x < B32) (hy : y < B32) (hr : r < B32) (hc : c < B32) : c + (x * y + r) < B32 * B32 := by
  have h1 : x * y ≤ (B32 - 1) * (B32 - 1) := mul_le_lt (by omega) (by omega)
  have h2 : (B32 - 1) * (B32 - 1) = 18446744065119617025 := by decide
  unfold B32 at *
  omega

theorem mul_step (X r p x y q rk c t Y pi : Nat) (h : r + p * c = X + pi * x * Y) (ht : c + (x * y + rk) = t) (hq : q = p * B32) (pk : Nat) (hp : p = pi * pk) :
    (r + p * (t % B32)) + q * (t / B32) = (X + p * rk) + pi * x * (Y + pk * y) := by
  have := Nat.mod_add_div t B32
  subst hq hp
  grind

theorem getD_set_ne {rs : List Nat} {i j y : Nat} (h : i ≠ j) : (rs.set i y).getD j 0 = rs.getD j 0 := by
  simp [List.getElem?_set_ne h]

theorem getD_set_eq {rs : List Nat} {i y : Nat} (h : i < rs.length) : (rs.set i y).getD i 0 = y := by
  simp [h]

theorem mem_set {rs : List Nat} {i y b : Nat} (h : ∀ x ∈ rs, x < b) (hy : y < b) : ∀ x ∈ rs.set i y, x < b := by
  intro x hx
  rcases List.mem_or_eq_of_mem_set hx with q | q
  · exact h x q
  · omega

theorem getD_lt {rs : List Nat} {b : Nat} (h : ∀ x ∈ rs, x < b) (hb : 0 < b) (i : Nat) : rs.getD i 0 < b := by
  rcases Nat.lt_or_ge i rs.length with q | q
  · simp [q]; exact h _ (List.getElem_mem _)
  · simp [q]; exact hb

theorem getD_drop {rs rs' : List Nat} {k j : Nat} (h : rs.drop k = rs'.drop k) (hj : k ≤ j) : rs.getD j 0 = rs'.getD j 0 := by
  have : rs[j]? = rs'[j]? := by
    have := congrArg (fun l => l[j - k]?) h
    simp only [List.getElem?_drop] at this
    rwa [show k + (j - k) = j from by omega] at this
  simp [List.getD_eq_getElem?_getD, this]

theorem drop_set {rs : List Nat} {i y k : Nat} (h : i < k) : (rs.set i y).drop k = rs.drop k := List.drop_set_of_lt h

theorem mul_c {h : Heap} {A B : Option Addr} {n c m d x y : Nat} (ux : IsN h A n c x) (uy : IsN h B m d y) (hn : n ≤ 1099511627776) (hm : m ≤ 1099511627776) :
    CallsU Tryz.prog 43 [.slice A n c, .slice B m d] h fun r h' => ∃ A' k c', r = .slice A' k c' ∧ NmN h' A' k c' (x * y) ∧ Le h h' := by
  apply natural_Mul_ok
  refine (trim_n ux (by omega)).mono ?_
  rintro _ _ ⟨n', rfl, hn', ⟨xs, a, hx, nx⟩, rfl⟩
  refine ⟨_, _, _, rfl, (trim_n uy (by omega)).mono ?_⟩
  rintro _ _ ⟨m', rfl, hm', ⟨ys, b, hy, ny⟩, rfl⟩
  refine ⟨_, _, _, rfl, ?_⟩
  subst hx hy
  have la := a.len
  have lb := b.len
  rintro _ rfl
  rw [wi (n := n' + m') (by omega) (by omega)]
  refine ⟨by omega, by omega, by omega, by omega, ?_⟩
  rintro g h4 hg rfl
  simp only [Int.toNat_natCast]
  refine ⟨fun m i h' => ∃ (k : Nat) (rs : List Nat), m = n' - k ∧ k ≤ n' ∧ i = (k : Int) ∧ rs.length = n' + m' ∧ (∀ x ∈ rs, x < B32) ∧ (∀ j, k + m' ≤ j → rs.getD j 0 = 0) ∧
      h' g = some ⟨rs.map lv, 76, (0, 0)⟩ ∧ Le h h' ∧ val (rs.take (k + m')) = val (xs.take k) * val ys,
    ⟨n', 0, List.replicate (n' + m') 0, rfl, by omega, rfl, by simp, fun x hx => by rw [List.mem_replicate] at hx; rw [hx.2]; decide, fun j _ => by simp [List.getElem?_replicate]; split <;> rfl,
      by rw [Heap.put_same, repV_lv], Le.new hg _, by rw [List.take_replicate, val_zeros]; simp [val]⟩, ?_⟩
  rintro _ _ h5 ⟨k, rs, rfl, hk, rfl, hrl, hrs, hz, hb, hl, hval⟩
  refine Br.mk (fun q => ?_) (fun q => ?_)
  · have q' : k < n' := by simpa using q
    obtain ⟨ad, hA, hld⟩ := (a.mono hl).get (i := k) q'
    refine ⟨ad, hA, by omega, by omega, _, hld, ?_⟩
    have hxk := a.getD_lt k
    -- the inner loop
    refine ⟨fun m2 carry i2 h' => ∃ (j cN : Nat) (ss : List Nat), m2 = m' - j ∧ j ≤ m' ∧ i2 = (j : Int) ∧ carry = (cN : Int) ∧ cN < B32 ∧ ss.length = n' + m' ∧ (∀ x ∈ ss, x < B32) ∧ ss.drop (k + j) = rs.drop (k + j) ∧
        h' g = some ⟨ss.map lv, 76, (0, 0)⟩ ∧ Le h h' ∧ val (ss.take (k + j)) + B32 ^ (k + j) * cN = val (rs.take (k + j)) + B32 ^ k * xs.getD k 0 * val (ys.take j),
      ⟨m', 0, 0, rs, rfl, by omega, rfl, rfl, by decide, hrl, hrs, rfl, hb, hl, by simp [val]⟩, ?_⟩
    rintro _ _ _ h6 ⟨j, cN, ss, rfl, hj, rfl, rfl, hc, hsl, hss, hdrop, hb6, hl6, hv6⟩
    refine Br.mk (fun q2 => ?_) (fun q2 => ?_)
    · have q2' : j < m' := by simpa using q2
      obtain ⟨ad', hB, hld'⟩ := (b.mono hl6).get (i := j) q2'
      refine ⟨ad', hB, by omega, by omega, _, hld', ?_⟩
      have hyj := b.getD_lt j
      have hsk : ss.getD (k + j) 0 < B32 := getD_lt hss (by decide) _
      have hbd := limb_bound (x := xs.getD k 0) (y := ys.getD j 0) hxk hyj hsk hc
      have hbd2 : B32 * B32 = 18446744073709551616 := by decide
      rintro _ rfl _ rfl
      rw [wu (a := ((xs.getD k 0 : Nat) : Int)) rfl (by omega), wu (a := ((ys.getD j 0 : Nat) : Int)) rfl (by omega), wu (n := xs.getD k 0 * ys.getD j 0) (by rw [Int.natCast_mul]) (by omega), wi (n := k + j) (by omega) (by omega)]
      simp only [Int.toNat_natCast]
      refine ⟨_, rfl, by omega, by omega, _, ld_own hb6 (by omega), ?_⟩
      rintro _ rfl _ rfl _ rfl
      rw [wu (a := ((ss.getD (k + j) 0 : Nat) : Int)) rfl (by unfold B32 at hsk; omega), wu (a := ((xs.getD k 0 * ys.getD j 0 : Nat) : Int) + ((ss.getD (k + j) 0 : Nat) : Int)) (n := xs.getD k 0 * ys.getD j 0 + ss.getD (k + j) 0) (Int.natCast_add _ _).symm (by omega),
        wu (n := cN + (xs.getD k 0 * ys.getD j 0 + ss.getD (k + j) 0)) (Int.natCast_add _ _).symm (by omega)]
      generalize ht : cN + (xs.getD k 0 * ys.getD j 0 + ss.getD (k + j) 0) = t at hbd ⊢
      refine ⟨_, rfl, by omega, by omega, st_own (t % B32) hb6 (by omega) (by rw [w32 rfl]) ?_⟩
      rintro _ rfl _ rfl
      rw [fdivB rfl, wi (n := j + 1) (by omega) (by omega)]
      refine ⟨m' - (j + 1), by omega, j + 1, t / B32, ss.set (k + j) (t % B32), rfl, by omega, rfl, rfl, Nat.div_lt_of_lt_mul hbd, by simp [hsl], mem_set hss (Nat.mod_lt _ (by decide)), ?_, Heap.put_same _ _ _, hl6.put hg _, ?_⟩
      · rw [drop_set (by omega)]
        have := congrArg (List.drop 1) hdrop
        simpa [List.drop_drop, Nat.add_assoc] using this
      · rw [← Nat.add_assoc, val_take_succ (by simp; omega), take_set_ge (Nat.le_refl _), getD_set_eq (by omega), val_take_succ (xs := rs) (by omega), val_take_succ (xs := ys) (by omega), ← getD_drop hdrop (Nat.le_refl _)]
        exact mul_step _ _ _ _ _ _ _ _ _ _ _ hv6 ht (by rw [Nat.pow_succ]) (B32 ^ j) (by rw [Nat.pow_add])
    · have hjm : j = m' := by have : m' ≤ j := by simpa using q2
                              omega
      subst hjm
      rintro _ rfl
      rw [wi (n := k + j) (by omega) (by omega)]
      simp only [Int.toNat_natCast]
      refine ⟨_, rfl, by omega, by omega, st_own cN hb6 (by omega) (by rw [w32 rfl, Nat.mod_eq_of_lt hc]) ?_⟩
      rintro _ rfl
      rw [wi (n := k + 1) (by omega) (by omega)]
      refine ⟨n' - (k + 1), by omega, k + 1, ss.set (k + j) cN, rfl, by omega, rfl, by simp [hsl], mem_set hss hc, fun i hi => ?_, Heap.put_same _ _ _, hl6.put hg _, ?_⟩
      · rw [getD_set_ne (by omega), getD_drop hdrop (by omega)]
        exact hz i (by omega)
      · have e : k + 1 + j = k + j + 1 := by omega
        rw [e, val_take_succ (by simp; omega), take_set_ge (Nat.le_refl _), getD_set_eq (by omega), hv6, hval, val_take_succ (xs := xs) (by omega), List.take_of_length_le (l := ys) (by omega)]
        grind
  · have hka : k = n' := by have : n' ≤ k := by simpa using q
                            omega
    subst hka
    have u := U32.of_blk (m := k + m') (k := k + m') hb hrs (by omega) (Nat.le_refl _)
    have hv2 : val (rs.take (k + m')) = val xs * val ys := by rw [hval, List.take_of_length_le (by omega)]
    refine (trim_n ⟨_, u, hv2⟩ (by omega)).mono ?_
    rintro _ _ ⟨m2, rfl, hm2, hN, rfl⟩
    exact ⟨_, _, _, rfl, _, _, _, rfl, hN, hl⟩
end Go.Proofs.YtfhipkdcekffaaaGreatDoor
