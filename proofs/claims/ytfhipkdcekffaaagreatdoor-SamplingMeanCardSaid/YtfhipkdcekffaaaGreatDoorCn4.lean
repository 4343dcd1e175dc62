/-
  Contracts: natural: short, left, right.
-/
import Derived.Test.YtfhipkdcekffaaaGreatDoorCn3
namespace Go.Proofs.YtfhipkdcekffaaaGreatDoor
open Go Go.Vcg

theorem or64 {x y : Int} {hi lo : Nat} (hx : x = ((hi * B32 : Nat) : Int)) (hy : y = (lo : Int)) (hlo : lo < B32) (hhi : hi < B32) : bitsOf .or .u64 x y = ((hi * B32 + lo : Nat) : Int) := by
  subst hx hy
  have hb : hi * B32 + lo < 18446744073709551616 := by unfold B32 at *; omega
  have e : hi * B32 ||| lo = hi * B32 + lo := by
    have := Nat.two_pow_add_eq_or_of_lt (i := 32) (b := lo) (by simpa [B32] using hlo) hi
    rw [Nat.mul_comm] at this
    exact this.symm
  show IntKind.u64.wrap ((BitVec.ofInt 64 ((hi * B32 : Nat) : Int) ||| BitVec.ofInt 64 (lo : Int)).toNat : Int) = _
  rw [BitVec.toNat_or, BitVec.ofInt_natCast, BitVec.ofInt_natCast, BitVec.toNat_ofNat, BitVec.toNat_ofNat, Nat.mod_eq_of_lt (by omega), Nat.mod_eq_of_lt (by omega), e]
  exact wu rfl hb

theorem shlB {a : Int} {n : Nat} (h : a = n) (hn : n < B32) : IntKind.u64.wrap (a * 2 ^ (32 : Nat)) = ((n * B32 : Nat) : Int) := by
  have e : ((2 : Int) ^ (32 : Nat)) = ((B32 : Nat) : Int) := by decide
  rw [h, e, ← Int.natCast_mul]
  exact wu rfl (by unfold B32 at *; omega)

theorem or64_zero {x y : Int} {hi lo : Nat} (hx : x = (lo : Int)) (hy : y = ((hi * B32 : Nat) : Int)) (hlo : lo < B32) (hhi : hi < B32) : bitsOf .or .u64 x y = ((hi * B32 + lo : Nat) : Int) := by
  subst hx hy
  have := or64 (hi := hi) (lo := lo) rfl rfl hlo hhi
  rw [← this]
  show IntKind.u64.wrap ((BitVec.ofInt 64 (lo : Int) ||| BitVec.ofInt 64 ((hi * B32 : Nat) : Int)).toNat : Int) = IntKind.u64.wrap ((BitVec.ofInt 64 ((hi * B32 : Nat) : Int) ||| BitVec.ofInt 64 (lo : Int)).toNat : Int)
  rw [BitVec.or_comm]

theorem tdivN {a b : Int} {x y : Nat} (ha : a = x) (hb : b = y) : Int.tdiv a b = ((x / y : Nat) : Int) := by subst ha hb; exact (Int.ofNat_tdiv x y).symm
theorem tmodN {a b : Int} {x y : Nat} (ha : a = x) (hb : b = y) : Int.tmod a b = ((x % y : Nat) : Int) := by subst ha hb; exact (Int.ofNat_tmod x y).symm

theorem val_drop_cons {xs : List Nat} {k : Nat} (h : k < xs.length) : val (xs.drop k) = xs.getD k 0 + B32 * val (xs.drop (k + 1)) := by
  rw [List.drop_eq_getElem_cons h]
  simp [val, h]

theorem div_step (q x d r t : Nat) (X : Nat) (h : q * d + r = X) (ht : r * B32 + x = t) : (t / d + B32 * q) * d + t % d = x + B32 * X := by
  have := Nat.div_add_mod t d
  grind

theorem short_c {h : Heap} {A : Option Addr} {n c x : Nat} (ux : IsN h A n c x) (hn : n ≤ 1099511627776) {d : Nat} (hd0 : 0 < d) (hd : d < B32) :
    CallsU Tryz.prog 68 [.slice A n c, .int .u32 d] h fun r h' => ∃ A' k c', r = .tuple #[.slice A' k c', .int .u32 ((x % d : Nat) : Int)] ∧ NmN h' A' k c' (x / d) ∧ Le h h' := by
  apply natural_short_ok
  obtain ⟨xs, a, rfl⟩ := ux
  have la := a.len
  refine ⟨by omega, by omega, by omega, by omega, ?_⟩
  rintro g h1 hg rfl _ rfl
  simp only [Int.toNat_natCast]
  rw [wrap_i64 (by omega) (by omega)]
  refine ⟨fun m r i h' => ∃ (rN : Nat) (qs : List Nat), i = (m : Int) - 1 ∧ m ≤ n ∧ r = (rN : Int) ∧ rN < d ∧ qs.length = n ∧ (∀ x ∈ qs, x < B32) ∧ h' g = some ⟨qs.map lv, 76, (0, 0)⟩ ∧ Le h h' ∧ val (qs.drop m) * d + rN = val (xs.drop m),
    ⟨n, 0, List.replicate n 0, rfl, by omega, rfl, hd0, by simp, fun x hx => by rw [List.mem_replicate] at hx; rw [hx.2]; decide, by rw [Heap.put_same, repV_lv], Le.new hg _, by rw [List.drop_of_length_le (by simp), List.drop_of_length_le (by omega)]; simp [val]⟩, ?_⟩
  rintro m _ _ h2 ⟨rN, qs, rfl, hm, rfl, hr, hql, hqs, hb, hl, hval⟩
  refine Br.mk (fun q => ?_) (fun q => ?_)
  · have q' : 1 ≤ m := by simp at q; omega
    obtain ⟨k, rfl⟩ : ∃ k, m = k + 1 := ⟨m - 1, by omega⟩
    have e1 : ((k + 1 : Nat) : Int) - 1 = (k : Int) := by omega
    rw [e1]
    simp only [Int.toNat_natCast]
    have hxk := a.getD_lt k
    have hdw : IntKind.u64.wrap (d : Int) = (d : Int) := wu rfl (by unfold B32 at hd; omega)
    rintro _ rfl
    rw [shlB rfl (by omega)]
    obtain ⟨ad, hA, hld⟩ := (a.mono hl).get (i := k) (by omega)
    refine ⟨ad, hA, by omega, by omega, _, hld, ?_⟩
    rintro _ rfl
    rw [or64 rfl (wu rfl (by omega)) hxk (by omega), hdw]
    generalize ht : rN * B32 + xs.getD k 0 = t
    have htb : t < d * B32 := by
      have : (rN + 1) * B32 ≤ d * B32 := Nat.mul_le_mul_right _ hr
      unfold B32 at *
      omega
    refine Br.mk (fun q2 => by simp at q2; omega) (fun _ => ?_)
    rintro _ rfl
    rw [tdivN rfl rfl]
    have hq : t / d < B32 := Nat.div_lt_of_lt_mul htb
    rw [wu (n := t / d) rfl (by unfold B32 at hq; omega)]
    refine ⟨_, rfl, by omega, by omega, st_own (t / d) hb (by omega) (by rw [w32 rfl, Nat.mod_eq_of_lt hq]) ?_⟩
    refine Br.mk (fun q2 => by simp at q2; omega) (fun _ => ?_)
    rintro _ rfl _ rfl
    rw [tmodN rfl rfl, wrap_i64 (by omega) (by omega)]
    refine ⟨k, by omega, t % d, qs.set k (t / d), rfl, by omega, rfl, Nat.mod_lt _ hd0, by simp [hql], mem_set hqs hq, Heap.put_same _ _ _, hl.put hg _, ?_⟩
    rw [val_drop_cons (by simp; omega), getD_set_eq (by omega), drop_set (by omega), val_drop_cons (xs := xs) (by omega)]
    exact div_step _ _ _ _ _ _ hval ht
  · have hm0 : m = 0 := by simp at q; omega
    subst hm0
    simp only [List.drop_zero] at hval
    have hq : val qs = val xs / d := by rw [← hval, Nat.mul_comm, Nat.mul_add_div hd0, Nat.div_eq_of_lt hr, Nat.add_zero]
    have hrm : rN = val xs % d := by rw [← hval, Nat.mul_comm, Nat.mul_add_mod, Nat.mod_eq_of_lt hr]
    have u := U32.of_blk (m := n) (k := n) hb hqs (by omega) (Nat.le_refl _)
    rw [List.take_of_length_le (by omega)] at u
    refine (trim_n ⟨_, u, hq⟩ (by omega)).mono ?_
    rintro _ _ ⟨m2, rfl, hm2, hN, rfl⟩
    refine ⟨_, _, _, rfl, _, _, _, ?_, hN, hl⟩
    rw [w32 rfl, Nat.mod_eq_of_lt (by omega), hrm]

/-! ### shifts -/
theorem shl_s {a : Int} {x sN : Nat} (ha : a = x) (hx : x < B32) (hs' : sN < 32) : IntKind.u64.wrap (a * 2 ^ (min sN 64 : Nat)) = ((x * 2 ^ sN : Nat) : Int) := by
  subst ha
  rw [Nat.min_eq_left (by omega)]
  have e : ((2 : Int) ^ sN) = ((2 ^ sN : Nat) : Int) := by simp
  rw [e, ← Int.natCast_mul]
  refine wu rfl ?_
  have h1 : 2 ^ sN ≤ 2 ^ 31 := Nat.pow_le_pow_right (by decide) (by omega)
  have h2 : x * 2 ^ sN ≤ (B32 - 1) * 2 ^ 31 := Nat.mul_le_mul (by omega) h1
  have h3 : (B32 - 1) * 2 ^ 31 = 9223372034707292160 := by decide
  omega

theorem or32_disj {x y : Int} {a b k : Nat} (hx : x = (a : Int)) (hy : y = ((b * 2 ^ k : Nat) : Int)) (ha : a < 2 ^ k) (hb : b * 2 ^ k < B32) (hk : a < B32) : bitsOf .or .u32 x y = ((b * 2 ^ k + a : Nat) : Int) := by
  subst hx hy
  have e : b * 2 ^ k ||| a = b * 2 ^ k + a := by
    have := Nat.two_pow_add_eq_or_of_lt (i := k) (b := a) ha b
    rw [Nat.mul_comm] at this
    exact this.symm
  have hsum : b * 2 ^ k + a < B32 := by
    rw [← e]
    exact Nat.or_lt_two_pow (n := 32) (by simpa [B32] using hb) (by simpa [B32] using hk)
  show IntKind.u32.wrap ((BitVec.ofInt 32 (a : Int) ||| BitVec.ofInt 32 ((b * 2 ^ k : Nat) : Int)).toNat : Int) = _
  unfold B32 at *
  rw [BitVec.toNat_or, BitVec.ofInt_natCast, BitVec.ofInt_natCast, BitVec.toNat_ofNat, BitVec.toNat_ofNat, Nat.mod_eq_of_lt (by omega), Nat.mod_eq_of_lt (by omega), Nat.or_comm, e]
  exact wrap_u32 (by omega) (by omega)

theorem left_step (L X p P x t q : Nat) (h : L = X * P) (ht : x * P = t) (r c2 : Nat) (hr : L = r + p * c2) (hq : q = p * B32) : (r + p * (t % B32 + c2)) + q * (t / B32) = (X + p * x) * P := by
  have := Nat.mod_add_div t B32
  subst hq
  grind

theorem val_all_zero : ∀ {l : List Nat}, (∀ j, l.getD j 0 = 0) → val l = 0
  | [], _ => rfl
  | x :: r, h => by
    have h0 : x = 0 := h 0
    have hr : val r = 0 := val_all_zero fun j => h (j + 1)
    simp only [val, h0, hr, Nat.mul_zero, Nat.add_zero]

theorem getD_of_drop (ls : List Nat) (k j : Nat) : (ls.drop k).getD j 0 = ls.getD (k + j) 0 := by
  rw [List.getD_eq_getElem?_getD, List.getD_eq_getElem?_getD, List.getElem?_drop]

theorem getD_zero_of {ls : List Nat} {k : Nat} (h : ∀ j, k ≤ j → ls.getD j 0 = 0) (hl : k ≤ ls.length) : val ls = val (ls.take k) := by
  rw [val_split hl, val_all_zero (l := ls.drop k) fun j => by rw [getD_of_drop]; exact h _ (by omega)]
  simp

theorem mod_pow_mul (x sN : Nat) (h : sN ≤ 32) : (x * 2 ^ sN) % B32 = (x % 2 ^ (32 - sN)) * 2 ^ sN := by
  have e : B32 = 2 ^ (32 - sN) * 2 ^ sN := by rw [← Nat.pow_add, show 32 - sN + sN = 32 from by omega]; rfl
  rw [e, Nat.mul_mod_mul_right]

theorem div_pow_lt {x sN : Nat} (hx : x < B32) : x * 2 ^ sN / B32 < 2 ^ sN := by
  apply Nat.div_lt_of_lt_mul
  exact Nat.mul_lt_mul_of_pos_right hx (Nat.pow_pos (by decide))

theorem left_c {h : Heap} {A : Option Addr} {n c : Nat} {xs : List Nat} (a : U32 h A n c xs) (hn : n ≤ 1099511627776) {sN : Nat} (hs : sN < 32) :
    CallsU Tryz.prog 75 [.slice A n c, .int .i64 sN] h fun r h' => ∃ (g : Nat) (ls : List Nat), r = .slice (some ⟨g, 0, none⟩) (n + 1) (n + 1) ∧ h g = none ∧
      h' = h.put g ⟨ls.map lv, 76, (0, 0)⟩ ∧ ls.length = n + 1 ∧ (∀ x ∈ ls, x < B32) ∧ val ls = val xs * 2 ^ sN := by
  apply natural_left_ok
  have la := a.len
  have hp : 2 ^ sN ≤ 2147483648 := Nat.pow_le_pow_right (n := 2) (by decide) (by omega : sN ≤ 31)
  have hp0 : 0 < 2 ^ sN := Nat.pow_pos (by decide)
  rintro _ rfl
  rw [wi (n := n + 1) (by omega) (by omega)]
  refine ⟨by omega, by omega, by omega, by omega, ?_⟩
  rintro g h1 hg rfl
  simp only [Int.toNat_natCast]
  refine ⟨fun m i h' => ∃ (k : Nat) (rs : List Nat), m = n - k ∧ k ≤ n ∧ i = (k : Int) ∧ rs.length = n + 1 ∧ (∀ x ∈ rs, x < B32) ∧ (∀ j, k + 1 ≤ j → rs.getD j 0 = 0) ∧ rs.getD k 0 < 2 ^ sN ∧
      h' = h.put g ⟨rs.map lv, 76, (0, 0)⟩ ∧ val (rs.take (k + 1)) = val (xs.take k) * 2 ^ sN,
    ⟨n, 0, List.replicate (n + 1) 0, rfl, by omega, rfl, by simp, fun x hx => by rw [List.mem_replicate] at hx; rw [hx.2]; decide, fun j _ => by simp [List.getElem?_replicate]; split <;> rfl, by simp; exact hp0,
      by rw [repV_lv], by rw [List.take_replicate, val_zeros]; simp [val]⟩, ?_⟩
  rintro _ _ _ ⟨k, rs, rfl, hk, rfl, hrl, hrs, hz, hck, rfl, hval⟩
  have hb : (h.put g ⟨rs.map lv, 76, (0, 0)⟩) g = some ⟨rs.map lv, 76, (0, 0)⟩ := Heap.put_same _ _ _
  have hl : Le h (h.put g ⟨rs.map lv, 76, (0, 0)⟩) := Le.new hg _
  refine Br.mk (fun q => ?_) (fun q => ?_)
  · have q' : k < n := by simpa using q
    obtain ⟨ad, hA, hld⟩ := (a.mono hl).get (i := k) q'
    have hxk := a.getD_lt k
    refine ⟨ad, hA, by omega, by omega, _, hld, Br.mk (fun q2 => by simp at q2; omega) (fun _ => ?_)⟩
    rintro _ rfl
    rw [shl_s (x := xs.getD k 0) (wu rfl (by omega)) hxk hs]
    simp only [Int.toNat_natCast]
    refine ⟨_, rfl, by omega, by omega, _, ld_own hb (by omega), ?_⟩
    rintro _ rfl
    generalize ht : xs.getD k 0 * 2 ^ sN = t
    have hmod : t % B32 = (xs.getD k 0 % 2 ^ (32 - sN)) * 2 ^ sN := by rw [← ht]; exact mod_pow_mul _ _ (by omega)
    have hlt := Nat.mod_lt t (show 0 < B32 by decide)
    rw [or32_disj (a := rs.getD k 0) (b := xs.getD k 0 % 2 ^ (32 - sN)) (k := sN) rfl (by rw [w32 rfl, hmod]) hck (by rw [← hmod]; exact hlt) (by unfold B32; omega), ← hmod]
    have hsum : t % B32 + rs.getD k 0 < B32 := by
      rw [hmod]
      have e : B32 = 2 ^ (32 - sN) * 2 ^ sN := by rw [← Nat.pow_add, show 32 - sN + sN = 32 from by omega]; rfl
      have h1 : xs.getD k 0 % 2 ^ (32 - sN) < 2 ^ (32 - sN) := Nat.mod_lt _ (Nat.pow_pos (by decide))
      have h2 : (xs.getD k 0 % 2 ^ (32 - sN) + 1) * 2 ^ sN ≤ 2 ^ (32 - sN) * 2 ^ sN := Nat.mul_le_mul_right _ h1
      rw [← e, Nat.add_mul] at h2
      omega
    refine ⟨_, rfl, by omega, by omega, st_own (t % B32 + rs.getD k 0) hb (by omega) rfl ?_⟩
    rintro _ rfl _ rfl
    rw [wi (n := k + 1) (by omega) (by omega), fdivB rfl]
    simp only [Int.toNat_natCast]
    have hdl : t / B32 < 2 ^ sN := by rw [← ht]; exact div_pow_lt hxk
    have hdB : t / B32 < B32 := Nat.lt_of_lt_of_le hdl (Nat.le_trans hp (by decide))
    have hb2 : ((h.put g ⟨rs.map lv, 76, (0, 0)⟩).put g ⟨(rs.set k (t % B32 + rs.getD k 0)).map lv, 76, (0, 0)⟩) g = some ⟨(rs.set k (t % B32 + rs.getD k 0)).map lv, 76, (0, 0)⟩ := Heap.put_same _ _ _
    refine ⟨_, rfl, by omega, by omega, st_own (t / B32) hb2 (by simp; omega) (by rw [w32 rfl, Nat.mod_eq_of_lt hdB]) ?_⟩
    rintro _ rfl
    refine ⟨n - (k + 1), by omega, k + 1, (rs.set k (t % B32 + rs.getD k 0)).set (k + 1) (t / B32), rfl, by omega, rfl, by simp [hrl], mem_set (mem_set hrs hsum) hdB, fun j hj => ?_, ?_, ?_, ?_⟩
    · rw [getD_set_ne (by omega), getD_set_ne (by omega)]; exact hz j (by omega)
    · rw [getD_set_eq (by simp; omega)]; exact hdl
    · funext j
      simp only [Heap.put]
      split <;> rfl
    · rw [val_take_succ (by simp; omega), take_set_ge (Nat.le_refl _), getD_set_eq (by simp; omega), val_take_succ (by simp; omega), take_set_ge (Nat.le_refl _), getD_set_eq (by omega), val_take_succ (xs := xs) (by omega)]
      rw [val_take_succ (by omega)] at hval
      exact left_step _ _ _ _ _ _ _ hval ht _ _ rfl (by rw [Nat.pow_succ])
  · have hkn : k = n := by have : n ≤ k := by simpa using q
                           omega
    subst hkn
    refine ⟨g, rs, rfl, hg, rfl, hrl, hrs, ?_⟩
    rw [List.take_of_length_le (by omega), List.take_of_length_le (by omega)] at hval
    exact hval
end Go.Proofs.YtfhipkdcekffaaaGreatDoor
