/-
  Contracts: reference 01: DivMod, Gcd.
-/
import Derived.Test.YtfhipkdcekffaaaGreatDoorRf2
namespace Go.Proofs.YtfhipkdcekffaaaGreatDoor
open Go Go.Vcg
attribute [local irreducible] Br

theorem val_set_add : ∀ {qs : List Nat} {i d : Nat}, i < qs.length → val (qs.set i (qs.getD i 0 + d)) = val qs + B32 ^ i * d
  | [], i, d, h => by simp at h
  | x :: r, 0, d, _ => by simp [val]; omega
  | x :: r, i + 1, d, h => by
    have ih := val_set_add (qs := r) (i := i) (d := d) (by simpa using h)
    simp only [List.set_cons_succ, val, List.getD_cons_succ]
    rw [ih, Nat.mul_add, Nat.pow_succ, Nat.mul_comm (B32 ^ i) B32, Nat.mul_assoc, Nat.add_assoc]

theorem limb_mult : ∀ {qs : List Nat} {i j t : Nat}, (∀ x ∈ qs, x < 4294967296) → i < qs.length → j < 32 → val qs = 2 ^ (32 * i + (j + 1)) * t → qs.getD i 0 + 2 ^ j < 4294967296
  | [], i, j, t, _, h, _, _ => by simp at h
  | x :: r, 0, j, t, hlt, _, hj, hv => by
    have hx := hlt x (by simp)
    simp only [val, Nat.mul_zero, Nat.zero_add] at hv
    simp only [List.getD_cons_zero]
    have hB : B32 = 2 ^ (j + 1) * 2 ^ (31 - j) := by rw [← Nat.pow_add, show j + 1 + (31 - j) = 32 from by omega]; rfl
    have hB2 : (4294967296 : Nat) = 2 ^ (j + 1) * 2 ^ (31 - j) := hB
    rw [hB, Nat.mul_assoc] at hv
    have hd : x = 2 ^ (j + 1) * (t - 2 ^ (31 - j) * val r) := by rw [Nat.mul_sub, ← hv]; omega
    rw [hB2] at hx ⊢
    rw [Nat.pow_succ] at *
    generalize t - 2 ^ (31 - j) * val r = a at *
    subst hd
    have ha : a < 2 ^ (31 - j) := Nat.lt_of_mul_lt_mul_left hx
    have := Nat.mul_le_mul_left (2 ^ j * 2) ha
    rw [Nat.mul_succ] at this
    have hp : 0 < 2 ^ j := Nat.pow_pos (by decide)
    omega
  | x :: r, i + 1, j, t, hlt, h, hj, hv => by
    have hx := hlt x (by simp)
    simp only [val] at hv
    rw [show 32 * (i + 1) + (j + 1) = 32 + (32 * i + (j + 1)) from by omega, Nat.pow_add, Nat.mul_assoc, show (2 : Nat) ^ 32 = B32 from rfl] at hv
    have hm : (x + B32 * val r) % B32 = (B32 * (2 ^ (32 * i + (j + 1)) * t)) % B32 := by rw [hv]
    rw [Nat.add_mul_mod_self_left, Nat.mul_mod_right, Nat.mod_eq_of_lt (show x < B32 from hx)] at hm
    subst hm
    rw [Nat.zero_add] at hv
    have hv2 := Nat.eq_of_mul_eq_mul_left (by decide) hv
    simp only [List.getD_cons_succ]
    exact limb_mult (fun y hy => hlt y (by simp [hy])) (by simpa using h) hj hv2

theorem r1divmod_0 {h : Heap} {A B : Option Addr} {n c m d x : Nat} (_ux : IsN h A n c x) (uy : IsN h B m d 0) (hm : m ≤ 1099511627776) :
    CallsU Tryz.prog 53 [.slice A n c, .slice B m d] h fun r h' => r = .tuple #[.slice none 0 0, .slice none 0 0, .bool false] ∧ Le h h' := by
  apply ref01_DivMod_ok
  refine (r1bits_c uy hm).mono ?_
  rintro _ h1 ⟨t, rfl, _, _, h0, _, hl⟩
  refine ⟨_, rfl, Br.mk (fun _ => ⟨rfl, hl⟩) (fun q => ?_)⟩
  have := beq_eq_false_iff_ne.1 q
  rw [h0 rfl] at this
  exact absurd rfl this

def DmI (h : Heap) (g : Nat) (x y n q1 : Nat) (m : Nat) (rA : Option Addr) (rn rc : Nat) (pA : Option Addr) (pn pc : Nat) (k : Int) (h' : Heap) : Prop :=
  ∃ (H : Heap) (qs : List Nat) (r p t : Nat), k = (m : Int) - 1 ∧ m ≤ n + 1 ∧ h' = H.put g ⟨qs.map lv, 76, (0, 0)⟩ ∧ H g = none ∧ Le h H ∧ NmN H rA rn rc r ∧ NmN H pA pn pc p ∧ (0 < m → p = y * 2 ^ (m - 1)) ∧ p ≤ y * 2 ^ n ∧
    qs.length = q1 ∧ (∀ z ∈ qs, z < 4294967296) ∧ val qs = 2 ^ m * t ∧ val qs * y + r = x ∧ r < y * 2 ^ m

theorem r1divmod_c {h : Heap} {A B : Option Addr} {n c m d x y : Nat} (ux : IsN h A n c x) (uy : IsN h B m d y) (hn : n ≤ 1073741824) (hm : m ≤ 1073741824) (hy : y ≠ 0) :
    CallsU Tryz.prog 53 [.slice A n c, .slice B m d] h fun r h' => ∃ A1 n1 c1 A2 n2 c2, r = .tuple #[.slice A1 n1 c1, .slice A2 n2 c2, .bool true] ∧ NmN h' A1 n1 c1 (x / y) ∧ NmN h' A2 n2 c2 (x % y) ∧ Le h h' := by
  apply ref01_DivMod_ok
  have hsx := ux.sz
  refine (r1bits_c uy (by omega)).mono ?_
  rintro _ h1 ⟨tb0, rfl, _, hb0, _, _, hl1⟩
  obtain ⟨hb1, _⟩ := hb0 hy
  refine ⟨_, rfl, Br.mk (fun q => by have := beq_iff_eq.1 q; omega) (fun _ => ?_)⟩
  refine (r1norm_c (ux.mono hl1) (by omega)).mono ?_
  rintro _ h2 ⟨A2, n2, c2, rfl, hn2, hN2, hl2⟩
  refine ⟨_, _, _, rfl, (r1bits_c hN2.is (by omega)).mono ?_⟩
  rintro _ h3 ⟨tr, rfl, hr1, hr2, hr0, hr3, hl3⟩
  refine ⟨_, rfl, (r1bits_c ((uy.mono hl1).mono (hl2.trans hl3)) (by omega)).mono ?_⟩
  rintro _ h4 ⟨tb, rfl, ht1, ht2, _, ht4, hl4⟩
  obtain ⟨hb3, hb4⟩ := ht2 hy
  have hl14 : Le h h4 := ((hl1.trans hl2).trans hl3).trans hl4
  have hN4 := hN2.mono (hl3.trans hl4)
  refine ⟨_, rfl, ?_⟩
  rintro _ rfl
  rw [wrap_i64 (by omega) (by omega)]
  refine Br.mk (fun q => ?_) (fun q => ?_)
  · have q' : tr < tb := by have := of_decide_eq_true q; omega
    have hlt : x < y := by
      have : 2 ^ tr ≤ 2 ^ (tb - 1) := Nat.pow_le_pow_right (by decide) (by omega)
      omega
    exact ⟨_, _, _, _, _, _, rfl, by rw [Nat.div_eq_of_lt hlt]; exact NmN.nil _ _ _, by rw [Nat.mod_eq_of_lt hlt]; exact hN4, hl14⟩
  · have q' : tb ≤ tr := by have := of_decide_eq_false q; omega
    have hx0 : x ≠ 0 := fun e => by have := hr0 e; omega
    obtain ⟨hr4, hr5⟩ := hr2 hx0
    obtain ⟨k, hk⟩ : ∃ k, tr = tb + k := ⟨tr - tb, by omega⟩
    rw [show ((tr : Nat) : Int) - ((tb : Nat) : Int) = (k : Int) from by omega]
    have hinit : x < y * 2 ^ (k + 1) := by
      have h5 : 2 ^ tr = 2 ^ (tb - 1) * 2 ^ (k + 1) := by rw [← Nat.pow_add]; congr 1; omega
      have h6 : 2 ^ (tb - 1) * 2 ^ (k + 1) ≤ y * 2 ^ (k + 1) := Nat.mul_le_mul_right _ hb4
      omega
    have hpart : Sz (y * 2 ^ k) (n + 1) := by
      have h5 : y * 2 ^ k < 2 ^ tb * 2 ^ k := Nat.mul_lt_mul_of_pos_right ht1 (Nat.pow_pos (by decide))
      rw [← Nat.pow_add, ← hk] at h5
      have h6 : 2 ^ tr = 2 ^ (tr - 1) * 2 := by rw [← Nat.pow_succ]; congr 1; omega
      unfold Sz at *
      rw [Nat.pow_succ]
      have : B32 ^ n * 2 ≤ B32 ^ n * B32 := Nat.mul_le_mul_left _ (by decide)
      omega
    have e1 : ∀ z : Nat, Int.tdiv ((z : Nat) : Int) 32 = ((z / 32 : Nat) : Int) := fun z => by rw [Int.tdiv_eq_ediv_of_nonneg (by omega)]; omega
    have e2 : ∀ z : Nat, Int.tmod ((z : Nat) : Int) 32 = ((z % 32 : Nat) : Int) := fun z => by rw [Int.tmod_eq_emod_of_nonneg (by omega)]; omega
    rintro _ rfl _ rfl
    rw [e1, wi (n := k / 32) rfl (by omega), wi (n := k / 32 + 1) (by omega) (by omega)]
    refine ⟨by omega, by omega, by omega, by omega, ?_⟩
    rintro g _ hg rfl
    rw [Int.toNat_natCast]
    refine (CallsU.frame (r1shift_c (h := h4) (((uy.mono hl1).mono (hl2.trans hl3)).mono hl4) (by omega) k (by omega)) hg).mono ?_
    rintro _ _ ⟨h5, ⟨A5, n5, c5, rfl, hN5, hl5⟩, hg5, rfl⟩
    refine ⟨_, _, _, rfl, DmI h g x y k (k / 32 + 1), ⟨k + 1, h5, List.replicate (k / 32 + 1) 0, x, y * 2 ^ k, 0, by omega, by omega, by rw [repV_lv], hg5, hl14.trans hl5, hN4.mono hl5, hN5, fun _ => rfl, Nat.le_refl _, by simp, fun z hz => by rw [(List.mem_replicate.1 hz).2]; decide, by rw [val_zeros, Nat.mul_zero], by rw [val_zeros, Nat.zero_mul, Nat.zero_add], hinit⟩, ?_⟩
    rintro mm rA rn rc pA pn pc _ _ ⟨H, qs, r, p, t, rfl, hmm, rfl, hgH, hleH, hNr, hNp, hp, hpn, hql, hqlt, hqm, hqr, hrlt⟩
    have hrx : r ≤ x := by omega
    have hrn := NmN.le_of hNr (hsx.le hrx)
    have hpl := NmN.le_of hNp (hpart.le hpn)
    refine Br.mk (fun b => ?_) (fun b => ?_)
    · have b' : 0 < mm := by have := of_decide_eq_true b; omega
      obtain ⟨i, rfl⟩ : ∃ i, mm = i + 1 := ⟨mm - 1, by omega⟩
      have hp' := hp b'
      rw [Nat.add_sub_cancel] at hp'
      rw [show ((i + 1 : Nat) : Int) - 1 = (i : Int) from by omega]
      have hp2 : 2 ^ (i + 1) = 2 * 2 ^ i := by rw [Nat.pow_succ, Nat.mul_comm]
      have hhalf : 0 < i → p / 2 = y * 2 ^ (i - 1) := fun hi => by
        obtain ⟨j, rfl⟩ : ∃ j, i = j + 1 := ⟨i - 1, by omega⟩
        rw [hp', Nat.add_sub_cancel, Nat.pow_succ, ← Nat.mul_assoc, Nat.mul_div_cancel _ (by decide)]
      refine (CallsU.frame (r1sub_c (h := H) hNr.is hNp.is (by omega) (by omega)) hgH).mono ?_
      rintro _ _ ⟨h8, hsub, hg8, rfl⟩
      rcases hsub with ⟨hlt, rfl, rfl⟩ | ⟨hge, A8, n8, c8, rfl, hN8, hl8⟩
      · refine ⟨_, _, _, _, rfl, Br.mk (fun q => by cases q) (fun _ => ?_)⟩
        refine (CallsU.frame (r1half_c (h := H) hNp.is (by omega)) hgH).mono ?_
        rintro _ _ ⟨h9, ⟨A9, n9, c9, rfl, hN9, hl9⟩, hg9, rfl⟩
        refine ⟨_, _, _, rfl, ?_⟩
        rintro _ rfl
        rw [wrap_i64 (by omega) (by omega)]
        refine ⟨i, by omega, h9, qs, r, p / 2, 2 * t, rfl, by omega, rfl, hg9, hleH.trans hl9, hNr.mono hl9, hN9, hhalf, Nat.le_trans (Nat.div_le_self _ _) hpn, hql, hqlt, ?_, hqr, by rw [hp'] at hlt; exact hlt⟩
        rw [hqm, hp2, Nat.mul_comm 2 (2 ^ i), Nat.mul_assoc]
      · refine ⟨_, _, _, _, rfl, Br.mk (fun _ => ?_) (fun q => by cases q)⟩
        rintro _ rfl _ rfl
        have hidx : i / 32 < qs.length := by rw [hql]; omega
        have hmult := limb_mult (qs := qs) (i := i / 32) (j := i % 32) (t := t) hqlt hidx (Nat.mod_lt _ (by decide)) (by rw [hqm]; congr 2; omega)
        rw [e1, wi (n := i / 32) rfl (by omega)]
        simp only [Int.toNat_natCast]
        refine ⟨_, rfl, by omega, by omega, _, ld_own (Heap.put_same _ _ _) hidx, ?_⟩
        rintro _ rfl
        rw [e2, wu (n := i % 32) rfl (by omega), Int.toNat_natCast, Nat.min_eq_left (by omega)]
        refine Br.mk (fun q => by have := of_decide_eq_true q; omega) (fun _ => ?_)
        rintro _ rfl _ rfl
        have hpI : ((2 : Int) ^ (i % 32)) = ((2 ^ (i % 32) : Nat) : Int) := by simp
        have hpb : 2 ^ (i % 32) < 4294967296 := by omega
        rw [Int.one_mul, hpI, w32 rfl, Nat.mod_eq_of_lt (by exact hpb), w32 (n := qs.getD (i / 32) 0 + 2 ^ (i % 32)) (Int.natCast_add _ _).symm, Nat.mod_eq_of_lt (by exact hmult)]
        refine ⟨_, rfl, by omega, by omega, st_own (qs.getD (i / 32) 0 + 2 ^ (i % 32)) (Heap.put_same _ _ _) hidx rfl ?_⟩
        rw [Heap.put_put]
        refine (CallsU.frame (r1half_c (h := h8) (hNp.mono hl8).is (by omega)) hg8).mono ?_
        rintro _ _ ⟨h9, ⟨A9, n9, c9, rfl, hN9, hl9⟩, hg9, rfl⟩
        refine ⟨_, _, _, rfl, ?_⟩
        rintro _ rfl
        rw [wrap_i64 (by omega) (by omega)]
        have hpow : B32 ^ (i / 32) * 2 ^ (i % 32) = 2 ^ i := by
          rw [show B32 = 2 ^ 32 from rfl, ← Nat.pow_mul, ← Nat.pow_add]
          congr 1
          omega
        have hvs : val (qs.set (i / 32) (qs.getD (i / 32) 0 + 2 ^ (i % 32))) = val qs + 2 ^ i := by rw [val_set_add hidx, hpow]
        refine ⟨i, by omega, h9, _, r - p, p / 2, 2 * t + 1, rfl, by omega, rfl, hg9, (hleH.trans hl8).trans hl9, hN8.mono hl9, hN9, hhalf, Nat.le_trans (Nat.div_le_self _ _) hpn, by rw [List.length_set]; exact hql, mem_set hqlt hmult, ?_, ?_, ?_⟩
        · rw [hvs, hqm, hp2, Nat.mul_add, Nat.mul_one, Nat.mul_comm 2 (2 ^ i), Nat.mul_assoc]
        · rw [hvs, Nat.add_mul, Nat.mul_comm (2 ^ i) y, ← hp']
          omega
        · rw [hp2, Nat.mul_left_comm, ← hp'] at hrlt
          rw [← hp']
          omega
    · have b' : mm = 0 := by have := of_decide_eq_false b; omega
      subst b'
      rw [Nat.pow_zero, Nat.mul_one] at hrlt
      have hq : x / y = val qs := by
        rw [← hqr, Nat.add_comm, Nat.add_mul_div_right _ _ (by omega), Nat.div_eq_of_lt hrlt, Nat.zero_add]
      have hr : x % y = r := by rw [← hqr, Nat.add_comm, Nat.add_mul_mod_self_right, Nat.mod_eq_of_lt hrlt]
      have u := U32.of_blk (h := H.put g ⟨qs.map lv, 76, (0, 0)⟩) (m := k / 32 + 1) (k := k / 32 + 1) (Heap.put_same _ _ _) hqlt (by omega) (Nat.le_refl _)
      rw [List.take_of_length_le (by omega)] at u
      have hlp : Le H (H.put g ⟨qs.map lv, 76, (0, 0)⟩) := Le.new hgH _
      refine (r1norm_c ⟨_, u, rfl⟩ (by omega)).mono ?_
      rintro _ h9 ⟨A9, n9, c9, rfl, _, hN9, hl9⟩
      refine ⟨_, _, _, rfl, _, _, _, _, _, _, rfl, by rw [hq]; exact hN9, by rw [hr]; exact (hNr.mono hlp).mono hl9, (hleH.trans hlp).trans hl9⟩

theorem r1gcd_c {h : Heap} {A B : Option Addr} {n c m d x y : Nat} (ux : IsN h A n c x) (uy : IsN h B m d y) (hn : n ≤ 1073741824) (hm : m ≤ 1073741824) :
    CallsU Tryz.prog 82 [.slice A n c, .slice B m d] h fun r h' => ∃ A' k c', r = .slice A' k c' ∧ NmN h' A' k c' (Nat.gcd x y) ∧ k ≤ max n m ∧ Le h h' := by
  apply ref01_Gcd_ok
  refine (r1norm_c ux (by omega)).mono ?_
  rintro _ h1 ⟨A1, n1, c1, rfl, hn1, nx, hl1⟩
  refine ⟨_, _, _, rfl, (r1norm_c (uy.mono hl1) (by omega)).mono ?_⟩
  rintro _ h2 ⟨A2, n2, c2, rfl, hn2, ny, hl2⟩
  refine ⟨_, _, _, rfl, fun v aA an ac bA bn bc h' => ∃ u, NmN h' aA an ac u ∧ NmN h' bA bn bc v ∧ Nat.gcd u v = Nat.gcd x y ∧ an ≤ max n m ∧ bn ≤ max n m ∧ Le h h', ⟨y, x, nx.mono hl2, ny, rfl, by omega, by omega, hl1.trans hl2⟩, ?_⟩
  rintro v aA an ac bA bn bc h' ⟨u, nu, nv, hg, ha, hb, hl⟩
  have hz := NmN.zero_iff nv
  refine Br.mk (fun q => ?_) (fun q => ?_)
  · have hv : v ≠ 0 := by have := of_decide_eq_true q; omega
    refine (r1divmod_c nu.is nv.is (by omega) (by omega) hv).mono ?_
    rintro _ h4 ⟨A3, n3, c3, A4, n4, c4, rfl, _, hN, hl'⟩
    have hlt : u % v < v := Nat.mod_lt _ (by omega)
    refine ⟨_, _, _, _, _, _, _, rfl, u % v, hlt, v, nv.mono hl', hN, ?_, hb, ?_, hl.trans hl'⟩
    · rw [← hg, Nat.gcd_comm v, Nat.gcd_comm u, ← Nat.gcd_rec]
    · have := NmN.le_of hN (nv.sz.le (Nat.le_of_lt hlt)); omega
  · have hv : v = 0 := by have := of_decide_eq_false q; omega
    subst hv
    rw [Nat.gcd_zero_right] at hg
    subst hg
    exact ⟨_, _, _, rfl, nu, ha, hl⟩
end Go.Proofs.YtfhipkdcekffaaaGreatDoor
