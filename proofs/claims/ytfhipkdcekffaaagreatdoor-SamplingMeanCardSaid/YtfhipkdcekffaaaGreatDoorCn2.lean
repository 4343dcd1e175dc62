/-
  Contracts: natural: Cmp, Add, Mul.
-/
import Derived.Test.YtfhipkdcekffaaaGreatDoorCn1
namespace Go.Proofs.YtfhipkdcekffaaaGreatDoor
open Go Go.Vcg

/-! ### helpers -/
theorem wi {a : Int} {n : Nat} (h : a = n) (hn : n < 9223372036854775808) : IntKind.i64.wrap a = n := by rw [h]; exact wrap_i64 (by omega) (by omega)
theorem wu {a : Int} {n : Nat} (h : a = n) (hn : n < 18446744073709551616) : IntKind.u64.wrap a = n := by rw [h]; exact wrap_u64 (by omega) (by omega)
theorem w32 {a : Int} {n : Nat} (h : a = n) : IntKind.u32.wrap a = ((n % B32 : Nat) : Int) := by rw [h, wrap_u32_mod]; unfold B32; omega
theorem fdivB {a : Int} {n : Nat} (h : a = n) : Int.fdiv a (2 ^ (32 : Nat)) = ((n / B32 : Nat) : Int) := by
  rw [h, Int.fdiv_eq_ediv_of_nonneg _ (by decide)]
  have : ((2 : Int) ^ (32 : Nat)) = 4294967296 := by decide
  rw [this]
  unfold B32
  omega

theorem ld_own {h : Heap} {g ty i : Nat} {fz : Nat × Nat} {rs : List Nat} (hb : h g = some ⟨rs.map lv, ty, fz⟩) (hi : i < rs.length) : LdN h (Addr.add ⟨g, 0, none⟩ (i * 1)) [lv (rs.getD i 0)] := by
  rw [Nat.mul_one]
  refine ld_of (ad := ⟨g, 0, none⟩) rfl hb ?_
  simp [hi]

theorem st_own {h : Heap} {g ty i : Nat} {rs : List Nat} {v : Value} (y : Nat) {K : Heap → Prop} (hb : h g = some ⟨rs.map lv, ty, (0, 0)⟩) (hi : i < rs.length) (hv : v = lv y)
    (hk : K (h.put g ⟨(rs.set i y).map lv, ty, (0, 0)⟩)) :
    ∃ b : Blk, h (Addr.block (Addr.add ⟨g, 0, none⟩ (i * 1))) = some b ∧ b.fz = (0, 0) ∧ Addr.spot (Addr.add ⟨g, 0, none⟩ (i * 1)) = none ∧ Addr.off (Addr.add ⟨g, 0, none⟩ (i * 1)) + 1 ≤ b.cells.length ∧
      ∀ h' : Heap, h' = Heap.put h (Addr.block (Addr.add ⟨g, 0, none⟩ (i * 1))) { b with cells := setSeg b.cells (Addr.off (Addr.add ⟨g, 0, none⟩ (i * 1))) [v] } → K h' := by
  rw [Nat.mul_one, addr_block, addr_off, addr_spot _ _ rfl]
  refine ⟨_, hb, rfl, rfl, by simp; omega, ?_⟩
  rintro h' rfl
  subst hv
  simp only [Nat.zero_add]
  rw [setSeg_one rs i y hi]
  exact hk

theorem take_set_ge {rs : List Nat} {i j y : Nat} (h : i ≤ j) : (rs.set j y).take i = rs.take i := List.take_set_of_le h

/-- The value up to one more limb. -/
theorem val_take_succ {xs : List Nat} {k : Nat} (h : k < xs.length) : val (xs.take (k + 1)) = val (xs.take k) + B32 ^ k * xs.getD k 0 := by
  rw [take_last h, val_append, List.length_take, Nat.min_eq_left (by omega)]
  simp [val]

theorem val_split {xs : List Nat} {k : Nat} (h : k ≤ xs.length) : val xs = val (xs.take k) + B32 ^ k * val (xs.drop k) := by
  have := val_append (xs.take k) (xs.drop k)
  rw [List.take_append_drop, List.length_take, Nat.min_eq_left h] at this
  exact this

/-! ### Cmp -/
theorem lt_of_len {xs ys : List Nat} (hx : ∀ x ∈ xs, x < B32) (ny : Nrm ys) (hl : xs.length < ys.length) : val xs < val ys := by
  have h1 := val_lt hx
  have h2 := nrm_val_pos ny (fun e => by rw [e] at hl; simp at hl)
  have h3 : B32 ^ xs.length ≤ B32 ^ (ys.length - 1) := Nat.pow_le_pow_right (by decide) (by omega)
  omega

theorem lt_at {xs ys : List Nat} {k : Nat} (hx : ∀ x ∈ xs, x < B32) (hkx : k < xs.length) (hky : k < ys.length) (hd : xs.drop (k + 1) = ys.drop (k + 1)) (hlt : xs.getD k 0 < ys.getD k 0) : val xs < val ys := by
  rw [val_split (k := k + 1) hkx, val_split (xs := ys) (k := k + 1) hky, val_take_succ hkx, val_take_succ hky, hd]
  have h1 : val (xs.take k) < B32 ^ k := by
    have := val_lt (l := xs.take k) fun x h => hx x (List.mem_of_mem_take h)
    rwa [List.length_take, Nat.min_eq_left (by omega)] at this
  have h2 : B32 ^ k * (xs.getD k 0 + 1) ≤ B32 ^ k * ys.getD k 0 := Nat.mul_le_mul_left _ hlt
  rw [Nat.mul_add] at h2
  omega

theorem cmpI_lt {x y : Nat} (h : x < y) : cmpI x y = -1 := by unfold cmpI; rw [if_pos (by omega)]
theorem cmpI_gt {x y : Nat} (h : y < x) : cmpI x y = 1 := by unfold cmpI; rw [if_neg (by omega), if_pos (by omega)]
theorem cmpI_eq (x : Nat) : cmpI x x = 0 := by unfold cmpI; rw [if_neg (by omega), if_neg (by omega)]

theorem cmpI_zero {x y : Nat} (h : cmpI x y = 0) : x = y := by
  rcases Nat.lt_trichotomy x y with q | q | q
  · rw [cmpI_lt q] at h; cases h
  · exact q
  · rw [cmpI_gt q] at h; cases h

theorem drop_succ_eq {xs ys : List Nat} {k : Nat} (hkx : k < xs.length) (hky : k < ys.length) (he : xs.getD k 0 = ys.getD k 0) (hd : xs.drop (k + 1) = ys.drop (k + 1)) : xs.drop k = ys.drop k := by
  rw [List.drop_eq_getElem_cons hkx, List.drop_eq_getElem_cons hky, hd]
  simp [hkx, hky] at he
  rw [he]

theorem cmp_c {h : Heap} {A B : Option Addr} {n c m d x y : Nat} (ux : IsN h A n c x) (uy : IsN h B m d y) (hn : n ≤ 1099511627776) (hm : m ≤ 1099511627776) :
    CallsU Tryz.prog 47 [.slice A n c, .slice B m d] h fun v h' => v = .int .i64 (cmpI x y) ∧ h = h' := by
  apply natural_Cmp_ok
  refine (trim_n ux (by omega)).mono ?_
  rintro _ _ ⟨n', rfl, hn', ⟨xs, a, hx, nx⟩, rfl⟩
  refine ⟨_, _, _, rfl, (trim_n uy (by omega)).mono ?_⟩
  rintro _ _ ⟨m', rfl, hm', ⟨ys, b, hy, ny⟩, rfl⟩
  refine ⟨_, _, _, rfl, (compare_int _ _ _).mono ?_⟩
  rintro _ _ ⟨rfl, rfl⟩
  have la := a.len
  have lb := b.len
  subst hx hy
  refine ⟨_, rfl, Br.mk (fun hne => ⟨?_, rfl⟩) (fun heq => ?_)⟩
  · rcases Nat.lt_trichotomy n' m' with q | q | q
    · rw [cmpI_lt q, cmpI_lt (lt_of_len a.lt ny (by omega))]
    · subst q; rw [cmpI_eq] at hne; simp at hne
    · rw [cmpI_gt q, cmpI_gt (lt_of_len b.lt nx (by omega))]
  · have hnm : n' = m' := cmpI_zero (by simpa using heq)
    subst hnm
    rintro _ rfl
    rw [wrap_i64 (by omega) (by omega)]
    refine ⟨fun k i h' => h' = h ∧ i = (k : Int) - 1 ∧ k ≤ n' ∧ xs.drop k = ys.drop k, ⟨n', rfl, rfl, Nat.le_refl _, by rw [List.drop_of_length_le (by omega), List.drop_of_length_le (by omega)]⟩, ?_⟩
    rintro k i h' ⟨rfl, rfl, hk, hd⟩
    refine Br.mk (fun hp => ?_) (fun hp => ⟨?_, rfl⟩)
    · simp at hp
      obtain ⟨k, rfl⟩ : ∃ q, k = q + 1 := ⟨k - 1, by omega⟩
      have e1 : ((k + 1 : Nat) : Int) - 1 = (k : Int) := by omega
      rw [e1]
      obtain ⟨ad, hA, hl⟩ := a.get (i := k) (by omega)
      obtain ⟨ad', hB, hl'⟩ := b.get (i := k) (by omega)
      refine ⟨ad, hA, by omega, by omega, _, hl, ad', hB, by omega, by omega, _, hl', (compare_u32 _ _ _).mono ?_⟩
      rintro _ _ ⟨rfl, rfl⟩
      refine ⟨_, rfl, Br.mk (fun hne => ⟨?_, rfl⟩) (fun heq => ?_)⟩
      · rcases Nat.lt_trichotomy (xs.getD k 0) (ys.getD k 0) with q | q | q
        · rw [cmpI_lt q, cmpI_lt (lt_at a.lt (by omega) (by omega) hd q)]
        · rw [q, cmpI_eq] at hne; simp at hne
        · rw [cmpI_gt q, cmpI_gt (lt_at b.lt (by omega) (by omega) hd.symm q)]
      · rintro _ rfl
        rw [wrap_i64 (by omega) (by omega)]
        exact ⟨k, by omega, rfl, rfl, by omega, drop_succ_eq (by omega) (by omega) (cmpI_zero (by simpa using heq)) hd⟩
    · simp at hp
      have hk0 : k = 0 := by omega
      subst hk0
      simp only [List.drop_zero] at hd
      rw [hd, cmpI_eq]

/-! ### Add -/
theorem getD_append_left {a b : List Nat} {i : Nat} (h : i < a.length) : (a ++ b).getD i 0 = a.getD i 0 := by simp [List.getElem?_append_left h]

theorem set_append_mid (rs zs : List Nat) (y z : Nat) : (rs ++ z :: zs).set rs.length y = rs ++ y :: zs := by
  rw [List.set_append_right _ _ (Nat.le_refl _)]
  simp

theorem val_snoc (rs : List Nat) (y : Nat) : val (rs ++ [y]) = val rs + B32 ^ rs.length * y := by rw [val_append]; simp [val]

theorem getD_ge {xs : List Nat} {k : Nat} (h : xs.length ≤ k) : xs.getD k 0 = 0 := by simp [h]

theorem val_take_succ' (xs : List Nat) (k : Nat) : val (xs.take (k + 1)) = val (xs.take k) + B32 ^ k * xs.getD k 0 := by
  rcases Nat.lt_or_ge k xs.length with h | h
  · exact val_take_succ h
  · rw [getD_ge h, List.take_of_length_le h, List.take_of_length_le (by omega)]; simp

theorem step_add (X Y r p x y c q t : Nat) (h : r + p * c = X + Y) (ht : c + x + y = t) (hq : q = p * B32) : (r + p * (t % B32)) + q * (t / B32) = (X + p * x) + (Y + p * y) := by
  have := Nat.mod_add_div t B32
  subst hq
  grind

/-- append of one limb onto the call's own row, within its capacity. -/
theorem app_own {h : Heap} {g ty k cap : Nat} {rs zs : List Nat} {z y : Nat} {v : Value} {K1 : Heap → Prop} {g1 : Nat} (hg1 : h g1 = none) (hb : h g = some ⟨(rs ++ z :: zs).map lv, ty, (0, 0)⟩) (hk : rs.length = k)
    (hcap : k + 1 ≤ cap) (hv : v = lv y) {P2 : List Value → Prop} (hk1 : K1 ((h.put g1 ⟨[v], ty, (0, 0)⟩).put g ⟨(rs ++ y :: zs).map lv, ty, (0, 0)⟩)) :
    ∃ xs : List Value, RdS (h.put g1 ⟨[v], ty, (0, 0)⟩) (some ⟨g1, 0, none⟩) (1 * 1) xs ∧ (∀ x ∈ xs, one x = true) ∧
      (k + 1 ≤ cap → ∃ (ad : Addr) (b : Blk), some (⟨g, 0, none⟩ : Addr) = some ad ∧ ad.spot = none ∧ (h.put g1 ⟨[v], ty, (0, 0)⟩) ad.block = some b ∧ b.fz = (0, 0) ∧ ad.off + k * 1 + 1 * 1 ≤ b.cells.length ∧
        ∀ h' : Heap, h' = Heap.put (h.put g1 ⟨[v], ty, (0, 0)⟩) ad.block { b with cells := setSeg b.cells (ad.off + k * 1) xs } → K1 h') ∧
      (cap < k + 1 → P2 xs) := by
  subst hv
  have hne : g ≠ g1 := fun e => by rw [e, hg1] at hb; cases hb
  refine ⟨[lv y], ⟨rfl, fun _ => ⟨_, rfl, rfl, _, Heap.put_same _ _ _, rfl⟩⟩, fun x hx => by simp at hx; subst hx; rfl, fun _ => ⟨_, _, rfl, rfl, (Heap.put_ne _ _ hne).trans hb, rfl, by simp; omega, ?_⟩, fun hc => by omega⟩
  rintro h' rfl
  simp only [Nat.zero_add, Nat.mul_one]
  rw [setSeg_one _ _ _ (by simp; omega), ← hk, set_append_mid]
  exact hk1

theorem rep_cons {n : Nat} (h : 0 < n) : List.replicate n 0 = 0 :: List.replicate (n - 1) (0 : Nat) := by
  obtain ⟨m, rfl⟩ : ∃ q, n = q + 1 := ⟨n - 1, by omega⟩
  rfl

theorem mem_snoc {rs : List Nat} {y b : Nat} (h : ∀ x ∈ rs, x < b) (hy : y < b) : ∀ x ∈ rs ++ [y], x < b := by
  intro x hx
  rcases List.mem_append.1 hx with q | q
  · exact h x q
  · simp at q; omega

theorem add_c {h : Heap} {A B : Option Addr} {n c m d x y : Nat} (ux : IsN h A n c x) (uy : IsN h B m d y) (hn : n ≤ 1099511627776) (hm : m ≤ 1099511627776) :
    CallsU Tryz.prog 31 [.slice A n c, .slice B m d] h fun r h' => ∃ A' k c', r = .slice A' k c' ∧ NmN h' A' k c' (x + y) ∧ Le h h' := by
  apply natural_Add_ok
  refine (trim_n ux (by omega)).mono ?_
  rintro _ _ ⟨n', rfl, hn', ⟨xs, a, hx, nx⟩, rfl⟩
  refine ⟨_, _, _, rfl, (trim_n uy (by omega)).mono ?_⟩
  rintro _ _ ⟨m', rfl, hm', ⟨ys, b, hy, ny⟩, rfl⟩
  refine ⟨_, _, _, rfl, fun aA an ac bA bn bc h' => h = h' ∧ ∃ xs ys, U32 h aA an ac xs ∧ U32 h bA bn bc ys ∧ val xs + val ys = x + y ∧ bn ≤ an ∧ an ≤ 1099511627776, ?_,
    Br.mk (fun q => ⟨rfl, ys, xs, b, a, by omega, by simp at q; omega, by omega⟩) (fun q => ⟨rfl, xs, ys, a, b, by omega, by simp at q; omega, by omega⟩)⟩
  clear a b nx ny hx hy xs ys
  rintro aA an ac bA bn bc h3 ⟨rfl, xs, ys, a, b, hv, hle, hb40⟩
  rintro _ rfl
  rw [wi (n := an + 1) (by omega) (by omega)]
  refine ⟨by omega, by omega, by omega, by omega, ?_⟩
  rintro g h4 hg rfl
  simp only [Int.toNat_natCast]
  have la := a.len
  have lb := b.len
  refine ⟨fun m rA rn rc carry i h' => ∃ (k cN : Nat) (rs : List Nat), m = an - k ∧ k ≤ an ∧ rA = some ⟨g, 0, none⟩ ∧ k = rn ∧ rc = an + 1 ∧ carry = (cN : Int) ∧ i = (k : Int) ∧ rs.length = k ∧ (∀ x ∈ rs, x < B32) ∧ cN < B32 ∧
      h' g = some ⟨(rs ++ List.replicate (an + 1 - k) 0).map lv, 76, (0, 0)⟩ ∧ Le h h' ∧ val rs + B32 ^ k * cN = val (xs.take k) + val (ys.take k),
    ⟨an, 0, 0, [], rfl, by omega, rfl, rfl, rfl, rfl, rfl, rfl, fun _ q => (by cases q), by decide, by rw [Heap.put_same, repV_lv]; rfl, Le.new hg _, by simp [val]⟩, ?_⟩
  rintro _ _ _ _ _ _ h5 ⟨k, cN, rs, rfl, hk, rfl, rfl, rfl, rfl, rfl, hrl, hrs, hc, hb, hl, hval⟩
  refine Br.mk (fun q => ?_) (fun q => ?_)
  · have q' : k < an := by simpa using q
    have hbx := (a.mono hl).getD_lt k
    have hby := (b.mono hl).getD_lt k
    obtain ⟨ad, hA, hld⟩ := (a.mono hl).get (i := k) q'
    refine ⟨ad, hA, by omega, by omega, _, hld, ?_⟩
    rintro _ rfl
    rw [wu (a := ((xs.getD k 0 : Nat) : Int)) rfl (by omega), wu (n := cN + xs.getD k 0) (by omega) (by unfold B32 at hc; omega)]
    -- behind the join the carry is the sum of the three
    refine ⟨fun carry h' => h5 = h' ∧ carry = ((cN + xs.getD k 0 + ys.getD k 0 : Nat) : Int), ?_, Br.mk (fun q2 => ?_) (fun q2 => ?_)⟩
    · rintro _ h6 ⟨rfl, rfl⟩
      rintro g1 h7 hg1 rfl
      have hrep := rep_cons (n := an + 1 - k) (by omega)
      rw [hrep] at hb
      refine app_own (y := (cN + xs.getD k 0 + ys.getD k 0) % B32) hg1 hb hrl (by omega) (by rw [w32 rfl]) ?_
      rintro _ rfl _ rfl
      rw [fdivB rfl, wi (n := k + 1) (by omega) (by omega)]
      have hg0 : h g = none := hg
      refine ⟨an - (k + 1), by omega, k + 1, (cN + xs.getD k 0 + ys.getD k 0) / B32, rs ++ [(cN + xs.getD k 0 + ys.getD k 0) % B32], rfl, by omega, rfl, rfl, rfl, rfl, rfl, by simp [hrl],
        mem_snoc hrs (Nat.mod_lt _ (by decide)), ?_, ?_, (hl.trans (Le.new hg1 _)).put hg0 _, ?_⟩
      · unfold B32 at hc ⊢; omega
      · rw [Heap.put_same]
        have : an + 1 - (k + 1) = an + 1 - k - 1 := by omega
        rw [this]
        simp
      · rw [val_snoc, hrl, val_take_succ', val_take_succ']
        exact step_add _ _ _ _ _ _ _ _ _ hval rfl (by rw [Nat.pow_succ])
    · have q2' : k < bn := by simpa using q2
      obtain ⟨ad', hB, hld'⟩ := (b.mono hl).get (i := k) q2'
      refine ⟨ad', hB, by omega, by omega, _, hld', ?_⟩
      rintro _ rfl
      rw [wu (a := ((ys.getD k 0 : Nat) : Int)) rfl (by omega), wu (n := cN + xs.getD k 0 + ys.getD k 0) (by omega) (by unfold B32 at hc; omega)]
      exact ⟨rfl, rfl⟩
    · have q2' : bn ≤ k := by simpa using q2
      exact ⟨rfl, by rw [getD_ge (xs := ys) (by omega)]; simp⟩
  · have hka : k = an := by have : an ≤ k := by simpa using q
                            omega
    subst hka
    rintro g1 h7 hg1 rfl
    have hrep := rep_cons (n := k + 1 - k) (by omega)
    rw [hrep] at hb
    refine app_own (y := cN) hg1 hb hrl (by omega) (by rw [w32 rfl, Nat.mod_eq_of_lt hc]) ?_
    have hg0 : h g = none := hg
    have hz : k + 1 - k - 1 = 0 := by omega
    have l2 : Le h ((h5.put g1 ⟨[Value.int .u32 (IntKind.u32.wrap (cN : Int))], 76, (0, 0)⟩).put g ⟨(rs ++ cN :: List.replicate (k + 1 - k - 1) 0).map lv, 76, (0, 0)⟩) := (hl.trans (Le.new hg1 _)).put hg0 _
    have hblk : ((h5.put g1 ⟨[Value.int .u32 (IntKind.u32.wrap (cN : Int))], 76, (0, 0)⟩).put g ⟨(rs ++ cN :: List.replicate (k + 1 - k - 1) 0).map lv, 76, (0, 0)⟩) g = some ⟨(rs ++ [cN]).map lv, 76, (0, 0)⟩ := by
      rw [Heap.put_same, hz]; rfl
    have u := U32.of_blk (m := k + 1) (k := k + 1) hblk (mem_snoc hrs hc) (by simp [hrl]) (Nat.le_refl _)
    rw [List.take_of_length_le (by simp [hrl])] at u
    have hv2 : val (rs ++ [cN]) = x + y := by
      rw [val_snoc, hrl, hval, List.take_of_length_le (by omega), List.take_of_length_le (by omega)]
      exact hv
    refine (trim_n ⟨_, u, hv2⟩ (by omega)).mono ?_
    rintro _ _ ⟨m2, rfl, hm2, hN, rfl⟩
    exact ⟨_, _, _, rfl, _, _, _, rfl, hN, l2⟩
end Go.Proofs.YtfhipkdcekffaaaGreatDoor
