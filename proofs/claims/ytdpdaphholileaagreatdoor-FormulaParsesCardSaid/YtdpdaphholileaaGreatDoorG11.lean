/-
  Gathered texts of this proof: Rf3, Rf4, Me7, Pl6, Me8, Rf5, Fa1, Rg1, La1, Pn2, La2, Rg2, Rf6, Rg5, Pp1, Pp2, Pp3, Pp4, Rh1, Rp1, Rp2.
-/
import Derived.Test.YtdpdaphholileaaGreatDoorG10
import Derived.Test.YtdpdaphholileaaGreatDoorG08
import Derived.Test.YtdpdaphholileaaGreatDoorG06
import Derived.Test.YtdpdaphholileaaGreatDoorG09

/-
  Contracts: reference 01: DivMod, Gcd.
-/
namespace Go.Proofs.YtdpdaphholileaaGreatDoor
open Go Go.Vcg
attribute [local irreducible] Br

theorem val_set_add : ∀ {qs : List Nat} {i d : Nat}, i < qs.length → val (qs.set i (qs.getD i 0 + d)) = val qs + B32 ^ i * d
  | [], i, d, h => by simp at h
  | x :: r, 0, d, _ => by simp [val]; omega
  | x :: r, i + 1, d, h => by
    have ih := val_set_add (qs := r) (i := i) (d := d) (by simpa using h)
    simp only [List.set_cons_succ, val, List.getD_cons_succ]
    rw [ih, Nat.mul_add, Nat.pow_succ, Nat.mul_comm (B32 ^ i) B32, Nat.mul_assoc, Nat.add_assoc]

theorem limb_mult : ∀ {qs : List Nat} {i j t : Nat}, (∀ x ∈ qs, x < 4294967296) → i < qs.length → j < 32 → val qs = 2 ^ (32 * i + (j + 1)) * t → qs.getD i 0 + 2 ^ j < 4294967296
  | [], i, j, t, _, h, _, _ => by simp at h
  | x :: r, 0, j, t, hlt, _, hj, hv => by
    have hx := hlt x (by simp)
    simp only [val, Nat.mul_zero, Nat.zero_add] at hv
    simp only [List.getD_cons_zero]
    have hB : B32 = 2 ^ (j + 1) * 2 ^ (31 - j) := by rw [← Nat.pow_add, show j + 1 + (31 - j) = 32 from by omega]; rfl
    have hB2 : (4294967296 : Nat) = 2 ^ (j + 1) * 2 ^ (31 - j) := hB
    rw [hB, Nat.mul_assoc] at hv
    have hd : x = 2 ^ (j + 1) * (t - 2 ^ (31 - j) * val r) := by rw [Nat.mul_sub, ← hv]; omega
    rw [hB2] at hx ⊢
    rw [Nat.pow_succ] at *
    generalize t - 2 ^ (31 - j) * val r = a at *
    subst hd
    have ha : a < 2 ^ (31 - j) := Nat.lt_of_mul_lt_mul_left hx
    have := Nat.mul_le_mul_left (2 ^ j * 2) ha
    rw [Nat.mul_succ] at this
    have hp : 0 < 2 ^ j := Nat.pow_pos (by decide)
    omega
  | x :: r, i + 1, j, t, hlt, h, hj, hv => by
    have hx := hlt x (by simp)
    simp only [val] at hv
    rw [show 32 * (i + 1) + (j + 1) = 32 + (32 * i + (j + 1)) from by omega, Nat.pow_add, Nat.mul_assoc, show (2 : Nat) ^ 32 = B32 from rfl] at hv
    have hm : (x + B32 * val r) % B32 = (B32 * (2 ^ (32 * i + (j + 1)) * t)) % B32 := by rw [hv]
    rw [Nat.add_mul_mod_self_left, Nat.mul_mod_right, Nat.mod_eq_of_lt (show x < B32 from hx)] at hm
    subst hm
    rw [Nat.zero_add] at hv
    have hv2 := Nat.eq_of_mul_eq_mul_left (by decide) hv
    simp only [List.getD_cons_succ]
    exact limb_mult (fun y hy => hlt y (by simp [hy])) (by simpa using h) hj hv2

def DmI (h : Heap) (g : Nat) (x y n q1 : Nat) (m : Nat) (rA : Option Addr) (rn rc : Nat) (pA : Option Addr) (pn pc : Nat) (k : Int) (h' : Heap) : Prop :=
  ∃ (H : Heap) (qs : List Nat) (r p t : Nat), k = (m : Int) - 1 ∧ m ≤ n + 1 ∧ h' = H.put g ⟨qs.map lv, 104, (0, 0)⟩ ∧ H g = none ∧ Le h H ∧ NmN H rA rn rc r ∧ NmN H pA pn pc p ∧ (0 < m → p = y * 2 ^ (m - 1)) ∧ p ≤ y * 2 ^ n ∧
    qs.length = q1 ∧ (∀ z ∈ qs, z < 4294967296) ∧ val qs = 2 ^ m * t ∧ val qs * y + r = x ∧ r < y * 2 ^ m

theorem r1divmod_c {h : Heap} {A B : Option Addr} {n c m d x y : Nat} (ux : IsN h A n c x) (uy : IsN h B m d y) (hn : n ≤ 1073741824) (hm : m ≤ 1073741824) (hy : y ≠ 0) :
    CallsU Tryz.prog 130 [.slice A n c, .slice B m d] h fun r h' => ∃ A1 n1 c1 A2 n2 c2, r = .tuple #[.slice A1 n1 c1, .slice A2 n2 c2, .bool true] ∧ NmN h' A1 n1 c1 (x / y) ∧ NmN h' A2 n2 c2 (x % y) ∧ Le h h' := by
  apply ref01_DivMod_ok
  have hsx := ux.sz
  refine (r1bits_c uy (by omega)).mono ?_
  rintro _ h1 ⟨tb0, rfl, _, hb0, _, _, hl1⟩
  obtain ⟨hb1, _⟩ := hb0 hy
  refine ⟨_, rfl, Br.mk (fun q => by have := beq_iff_eq.1 q; omega) (fun _ => ?_)⟩
  refine (r1norm_c (ux.mono hl1) (by omega)).mono ?_
  rintro _ h2 ⟨A2, n2, c2, rfl, hn2, hN2, hl2⟩
  refine ⟨_, _, _, rfl, (r1bits_c hN2.is (by omega)).mono ?_⟩
  rintro _ h3 ⟨tr, rfl, hr1, hr2, hr0, hr3, hl3⟩
  refine ⟨_, rfl, (r1bits_c ((uy.mono hl1).mono (hl2.trans hl3)) (by omega)).mono ?_⟩
  rintro _ h4 ⟨tb, rfl, ht1, ht2, _, ht4, hl4⟩
  obtain ⟨hb3, hb4⟩ := ht2 hy
  have hl14 : Le h h4 := ((hl1.trans hl2).trans hl3).trans hl4
  have hN4 := hN2.mono (hl3.trans hl4)
  refine ⟨_, rfl, ?_⟩
  rintro _ rfl
  rw [wrap_i64 (by omega) (by omega)]
  refine Br.mk (fun q => ?_) (fun q => ?_)
  · have q' : tr < tb := by have := of_decide_eq_true q; omega
    have hlt : x < y := by
      have : 2 ^ tr ≤ 2 ^ (tb - 1) := Nat.pow_le_pow_right (by decide) (by omega)
      omega
    exact ⟨_, _, _, _, _, _, rfl, by rw [Nat.div_eq_of_lt hlt]; exact NmN.nil _ _ _, by rw [Nat.mod_eq_of_lt hlt]; exact hN4, hl14⟩
  · have q' : tb ≤ tr := by have := of_decide_eq_false q; omega
    have hx0 : x ≠ 0 := fun e => by have := hr0 e; omega
    obtain ⟨hr4, hr5⟩ := hr2 hx0
    obtain ⟨k, hk⟩ : ∃ k, tr = tb + k := ⟨tr - tb, by omega⟩
    rw [show ((tr : Nat) : Int) - ((tb : Nat) : Int) = (k : Int) from by omega]
    have hinit : x < y * 2 ^ (k + 1) := by
      have h5 : 2 ^ tr = 2 ^ (tb - 1) * 2 ^ (k + 1) := by rw [← Nat.pow_add]; congr 1; omega
      have h6 : 2 ^ (tb - 1) * 2 ^ (k + 1) ≤ y * 2 ^ (k + 1) := Nat.mul_le_mul_right _ hb4
      omega
    have hpart : Sz (y * 2 ^ k) (n + 1) := by
      have h5 : y * 2 ^ k < 2 ^ tb * 2 ^ k := Nat.mul_lt_mul_of_pos_right ht1 (Nat.pow_pos (by decide))
      rw [← Nat.pow_add, ← hk] at h5
      have h6 : 2 ^ tr = 2 ^ (tr - 1) * 2 := by rw [← Nat.pow_succ]; congr 1; omega
      unfold Sz at *
      rw [Nat.pow_succ]
      have : B32 ^ n * 2 ≤ B32 ^ n * B32 := Nat.mul_le_mul_left _ (by decide)
      omega
    have e1 : ∀ z : Nat, Int.tdiv ((z : Nat) : Int) 32 = ((z / 32 : Nat) : Int) := fun z => by rw [Int.tdiv_eq_ediv_of_nonneg (by omega)]; omega
    have e2 : ∀ z : Nat, Int.tmod ((z : Nat) : Int) 32 = ((z % 32 : Nat) : Int) := fun z => by rw [Int.tmod_eq_emod_of_nonneg (by omega)]; omega
    rintro _ rfl _ rfl
    rw [e1, wi (n := k / 32) rfl (by omega), wi (n := k / 32 + 1) (by omega) (by omega)]
    refine ⟨by omega, by omega, by omega, by omega, ?_⟩
    rintro g _ hg rfl
    rw [Int.toNat_natCast]
    refine (CallsU.frame (r1shift_c (h := h4) (((uy.mono hl1).mono (hl2.trans hl3)).mono hl4) (by omega) k (by omega)) hg).mono ?_
    rintro _ _ ⟨h5, ⟨A5, n5, c5, rfl, hN5, hl5⟩, hg5, rfl⟩
    refine ⟨_, _, _, rfl, DmI h g x y k (k / 32 + 1), ⟨k + 1, h5, List.replicate (k / 32 + 1) 0, x, y * 2 ^ k, 0, by omega, by omega, by rw [repV_lv], hg5, hl14.trans hl5, hN4.mono hl5, hN5, fun _ => rfl, Nat.le_refl _, by simp, fun z hz => by rw [(List.mem_replicate.1 hz).2]; decide, by rw [val_zeros, Nat.mul_zero], by rw [val_zeros, Nat.zero_mul, Nat.zero_add], hinit⟩, ?_⟩
    rintro mm rA rn rc pA pn pc _ _ ⟨H, qs, r, p, t, rfl, hmm, rfl, hgH, hleH, hNr, hNp, hp, hpn, hql, hqlt, hqm, hqr, hrlt⟩
    have hrx : r ≤ x := by omega
    have hrn := NmN.le_of hNr (hsx.le hrx)
    have hpl := NmN.le_of hNp (hpart.le hpn)
    refine Br.mk (fun b => ?_) (fun b => ?_)
    · have b' : 0 < mm := by have := of_decide_eq_true b; omega
      obtain ⟨i, rfl⟩ : ∃ i, mm = i + 1 := ⟨mm - 1, by omega⟩
      have hp' := hp b'
      rw [Nat.add_sub_cancel] at hp'
      rw [show ((i + 1 : Nat) : Int) - 1 = (i : Int) from by omega]
      have hp2 : 2 ^ (i + 1) = 2 * 2 ^ i := by rw [Nat.pow_succ, Nat.mul_comm]
      have hhalf : 0 < i → p / 2 = y * 2 ^ (i - 1) := fun hi => by
        obtain ⟨j, rfl⟩ : ∃ j, i = j + 1 := ⟨i - 1, by omega⟩
        rw [hp', Nat.add_sub_cancel, Nat.pow_succ, ← Nat.mul_assoc, Nat.mul_div_cancel _ (by decide)]
      refine (CallsU.frame (r1sub_c (h := H) hNr.is hNp.is (by omega) (by omega)) hgH).mono ?_
      rintro _ _ ⟨h8, hsub, hg8, rfl⟩
      rcases hsub with ⟨hlt, rfl, rfl⟩ | ⟨hge, A8, n8, c8, rfl, hN8, hl8⟩
      · refine ⟨_, _, _, _, rfl, Br.mk (fun q => by cases q) (fun _ => ?_)⟩
        refine (CallsU.frame (r1half_c (h := H) hNp.is (by omega)) hgH).mono ?_
        rintro _ _ ⟨h9, ⟨A9, n9, c9, rfl, hN9, hl9⟩, hg9, rfl⟩
        refine ⟨_, _, _, rfl, ?_⟩
        rintro _ rfl
        rw [wrap_i64 (by omega) (by omega)]
        refine ⟨i, by omega, h9, qs, r, p / 2, 2 * t, rfl, by omega, rfl, hg9, hleH.trans hl9, hNr.mono hl9, hN9, hhalf, Nat.le_trans (Nat.div_le_self _ _) hpn, hql, hqlt, ?_, hqr, by rw [hp'] at hlt; exact hlt⟩
        rw [hqm, hp2, Nat.mul_comm 2 (2 ^ i), Nat.mul_assoc]
      · refine ⟨_, _, _, _, rfl, Br.mk (fun _ => ?_) (fun q => by cases q)⟩
        rintro _ rfl _ rfl
        have hidx : i / 32 < qs.length := by rw [hql]; omega
        have hmult := limb_mult (qs := qs) (i := i / 32) (j := i % 32) (t := t) hqlt hidx (Nat.mod_lt _ (by decide)) (by rw [hqm]; congr 2; omega)
        rw [e1, wi (n := i / 32) rfl (by omega)]
        simp only [Int.toNat_natCast]
        refine ⟨_, rfl, by omega, by omega, _, ld_own (Heap.put_same _ _ _) hidx, ?_⟩
        rintro _ rfl
        rw [e2, wu (n := i % 32) rfl (by omega), Int.toNat_natCast, Nat.min_eq_left (by omega)]
        refine Br.mk (fun q => by have := of_decide_eq_true q; omega) (fun _ => ?_)
        rintro _ rfl _ rfl
        have hpI : ((2 : Int) ^ (i % 32)) = ((2 ^ (i % 32) : Nat) : Int) := by simp
        have hpb : 2 ^ (i % 32) < 4294967296 := by omega
        rw [Int.one_mul, hpI, w32 rfl, Nat.mod_eq_of_lt (by exact hpb), w32 (n := qs.getD (i / 32) 0 + 2 ^ (i % 32)) (Int.natCast_add _ _).symm, Nat.mod_eq_of_lt (by exact hmult)]
        refine ⟨_, rfl, by omega, by omega, st_own (qs.getD (i / 32) 0 + 2 ^ (i % 32)) (Heap.put_same _ _ _) hidx rfl ?_⟩
        rw [Heap.put_put]
        refine (CallsU.frame (r1half_c (h := h8) (hNp.mono hl8).is (by omega)) hg8).mono ?_
        rintro _ _ ⟨h9, ⟨A9, n9, c9, rfl, hN9, hl9⟩, hg9, rfl⟩
        refine ⟨_, _, _, rfl, ?_⟩
        rintro _ rfl
        rw [wrap_i64 (by omega) (by omega)]
        have hpow : B32 ^ (i / 32) * 2 ^ (i % 32) = 2 ^ i := by
          rw [show B32 = 2 ^ 32 from rfl, ← Nat.pow_mul, ← Nat.pow_add]
          congr 1
          omega
        have hvs : val (qs.set (i / 32) (qs.getD (i / 32) 0 + 2 ^ (i % 32))) = val qs + 2 ^ i := by rw [val_set_add hidx, hpow]
        refine ⟨i, by omega, h9, _, r - p, p / 2, 2 * t + 1, rfl, by omega, rfl, hg9, (hleH.trans hl8).trans hl9, hN8.mono hl9, hN9, hhalf, Nat.le_trans (Nat.div_le_self _ _) hpn, by rw [List.length_set]; exact hql, mem_set hqlt hmult, ?_, ?_, ?_⟩
        · rw [hvs, hqm, hp2, Nat.mul_add, Nat.mul_one, Nat.mul_comm 2 (2 ^ i), Nat.mul_assoc]
        · rw [hvs, Nat.add_mul, Nat.mul_comm (2 ^ i) y, ← hp']
          omega
        · rw [hp2, Nat.mul_left_comm, ← hp'] at hrlt
          rw [← hp']
          omega
    · have b' : mm = 0 := by have := of_decide_eq_false b; omega
      subst b'
      rw [Nat.pow_zero, Nat.mul_one] at hrlt
      have hq : x / y = val qs := by
        rw [← hqr, Nat.add_comm, Nat.add_mul_div_right _ _ (by omega), Nat.div_eq_of_lt hrlt, Nat.zero_add]
      have hr : x % y = r := by rw [← hqr, Nat.add_comm, Nat.add_mul_mod_self_right, Nat.mod_eq_of_lt hrlt]
      have u := U32.of_blk (h := H.put g ⟨qs.map lv, 104, (0, 0)⟩) (m := k / 32 + 1) (k := k / 32 + 1) (Heap.put_same _ _ _) hqlt (by omega) (Nat.le_refl _)
      rw [List.take_of_length_le (by omega)] at u
      have hlp : Le H (H.put g ⟨qs.map lv, 104, (0, 0)⟩) := Le.new hgH _
      refine (r1norm_c ⟨_, u, rfl⟩ (by omega)).mono ?_
      rintro _ h9 ⟨A9, n9, c9, rfl, _, hN9, hl9⟩
      refine ⟨_, _, _, rfl, _, _, _, _, _, _, rfl, by rw [hq]; exact hN9, by rw [hr]; exact (hNr.mono hlp).mono hl9, (hleH.trans hlp).trans hl9⟩

theorem r1gcd_c {h : Heap} {A B : Option Addr} {n c m d x y : Nat} (ux : IsN h A n c x) (uy : IsN h B m d y) (hn : n ≤ 1073741824) (hm : m ≤ 1073741824) :
    CallsU Tryz.prog 129 [.slice A n c, .slice B m d] h fun r h' => ∃ A' k c', r = .slice A' k c' ∧ NmN h' A' k c' (Nat.gcd x y) ∧ k ≤ max n m ∧ Le h h' := by
  apply ref01_Gcd_ok
  refine (r1norm_c ux (by omega)).mono ?_
  rintro _ h1 ⟨A1, n1, c1, rfl, hn1, nx, hl1⟩
  refine ⟨_, _, _, rfl, (r1norm_c (uy.mono hl1) (by omega)).mono ?_⟩
  rintro _ h2 ⟨A2, n2, c2, rfl, hn2, ny, hl2⟩
  refine ⟨_, _, _, rfl, fun v aA an ac bA bn bc h' => ∃ u, NmN h' aA an ac u ∧ NmN h' bA bn bc v ∧ Nat.gcd u v = Nat.gcd x y ∧ an ≤ max n m ∧ bn ≤ max n m ∧ Le h h', ⟨y, x, nx.mono hl2, ny, rfl, by omega, by omega, hl1.trans hl2⟩, ?_⟩
  rintro v aA an ac bA bn bc h' ⟨u, nu, nv, hg, ha, hb, hl⟩
  have hz := NmN.zero_iff nv
  refine Br.mk (fun q => ?_) (fun q => ?_)
  · have hv : v ≠ 0 := by have := of_decide_eq_true q; omega
    refine (r1divmod_c nu.is nv.is (by omega) (by omega) hv).mono ?_
    rintro _ h4 ⟨A3, n3, c3, A4, n4, c4, rfl, _, hN, hl'⟩
    have hlt : u % v < v := Nat.mod_lt _ (by omega)
    refine ⟨_, _, _, _, _, _, _, rfl, u % v, hlt, v, nv.mono hl', hN, ?_, hb, ?_, hl.trans hl'⟩
    · rw [← hg, Nat.gcd_comm v, Nat.gcd_comm u, ← Nat.gcd_rec]
    · have := NmN.le_of hN (nv.sz.le (Nat.le_of_lt hlt)); omega
  · have hv : v = 0 := by have := of_decide_eq_false q; omega
    subst hv
    rw [Nat.gcd_zero_right] at hg
    subst hg
    exact ⟨_, _, _, rfl, nu, ha, hl⟩
end Go.Proofs.YtdpdaphholileaaGreatDoor

/-
  Contracts: reference 02: make1, Norm, Add, Mul; reference 03: reduce, Zero, Norm, Add, limbs, SameInt, Same.
-/
namespace Go.Proofs.YtdpdaphholileaaGreatDoor
open Go Go.Vcg
attribute [local irreducible] Br

theorem make1_c {h : Heap} {s : Bool} {A : Option Addr} {n c : Nat} {z : Int} (u : IsI h s A n c z) (hn : n ≤ 1099511627776) :
    CallsU Tryz.prog 125 [.bool s, .slice A n c] h fun r h' => ∃ s' A' k c', r = .agg #[.bool s', .slice A' k c'] ∧ NmI h' s' A' k c' z ∧ k ≤ n ∧ Le h h' := by
  apply ref02_make1_ok
  obtain ⟨v, uv, ez⟩ := u
  have ev : z.natAbs = v := by subst ez; cases s <;> simp
  refine (r1norm_c uv (by omega)).mono ?_
  rintro _ h1 ⟨A', k, c', rfl, hk, hN, hl⟩
  have hz := NmN.zero_iff hN
  rw [← ev] at hN
  refine ⟨_, _, _, rfl, Br.mk (fun q => ?_) (fun q => ?_)⟩
  · subst q
    refine ⟨_, _, _, _, rfl, ⟨hN, ?_⟩, hk, hl⟩
    simp only [if_true] at ez
    apply decide_eq_decide.2
    omega
  · subst q
    refine ⟨_, _, _, _, rfl, ⟨hN, ?_⟩, hk, hl⟩
    simp only [Bool.false_eq_true, if_false] at ez
    symm
    apply decide_eq_false
    omega

theorem r2norm_c {h : Heap} {s : Bool} {A : Option Addr} {n c : Nat} {z : Int} (u : IsI h s A n c z) (hn : n ≤ 1099511627776) :
    CallsU Tryz.prog 123 [.agg #[.bool s, .slice A n c]] h fun r h' => ∃ s' A' k c', r = .agg #[.bool s', .slice A' k c'] ∧ NmI h' s' A' k c' z ∧ k ≤ n ∧ Le h h' := by
  apply ref02_Norm_ok
  refine (make1_c u hn).mono ?_
  rintro _ _ ⟨s', A', k, c', rfl, r⟩
  exact ⟨_, _, _, _, rfl, _, _, _, _, rfl, r⟩

theorem r2mul_c {h : Heap} {s s2 : Bool} {A B : Option Addr} {n c m d : Nat} {z w : Int} (u : IsI h s A n c z) (v : IsI h s2 B m d w) (hn : n ≤ 549755813888) (hm : m ≤ 549755813888) :
    CallsU Tryz.prog 76 [.agg #[.bool s, .slice A n c], .agg #[.bool s2, .slice B m d]] h fun r h' => ∃ s' A' k c', r = .agg #[.bool s', .slice A' k c'] ∧ NmI h' s' A' k c' (z * w) ∧ k ≤ n + m ∧ Le h h' := by
  apply ref02_Mul_ok
  obtain ⟨x, ux, rfl⟩ := u
  obtain ⟨y, uy, rfl⟩ := v
  refine (r1mul_c ux uy (by omega) (by omega)).mono ?_
  rintro _ h1 ⟨A', k, c', rfl, hN, hl⟩
  have hk := NmN.le_of hN (ux.sz.mul uy.sz)
  refine ⟨_, _, _, rfl, (by first | assumption | exact Le.refl _), (make1_c ⟨_, hN.is, rfl⟩ (by omega)).mono ?_⟩
  rintro _ _ ⟨s', A', k, c', rfl, r, hk', hl'⟩
  exact ⟨_, _, _, _, rfl, _, _, _, _, rfl, by rw [mul_sign]; exact r, by omega, hl.trans hl'⟩

/-! ### ratios -/
theorem r3reduce_c {h : Heap} {s : Bool} {A B : Option Addr} {n c m d : Nat} {z : Int} {v : Nat} (u : IsI h s A n c z) (w : IsN h B m d v) (hv : v ≠ 0) (hn : n ≤ 1073741824) (hm : m ≤ 1073741824) :
    CallsU Tryz.prog 79 [.bool s, .slice A n c, .slice B m d] h fun r h' => ∃ s' A' n' c' B' m' d', r = .agg #[.bool s', .slice A' n' c', .slice B' m' d'] ∧ NmQ h' s' A' n' c' B' m' d' (mkRat z v) ∧ n' ≤ n ∧ m' ≤ m ∧ Le h h' := by
  apply ref03_reduce_ok
  have un := u.natAbs
  obtain ⟨e1, e2⟩ := mkRat_num (z := z) hv
  refine (r1gcd_c un w hn hm).mono ?_
  rintro _ h1 ⟨A1, k1, c1, rfl, hN1, hk1, hl1⟩
  have hg : Nat.gcd z.natAbs v ≠ 0 := by have := Nat.gcd_pos_of_pos_right z.natAbs (show 0 < v by omega); omega
  refine ⟨_, _, _, rfl, (r1divmod_c (un.mono hl1) hN1.is hn (by omega) hg).mono ?_⟩
  rintro _ h2 ⟨A2, k2, c2, A3, k3, c3, rfl, hN2, _, hl2⟩
  refine ⟨_, _, _, _, _, _, _, rfl, (r1divmod_c (w.mono (hl1.trans hl2)) (hN1.mono hl2).is hm (by omega) hg).mono ?_⟩
  rintro _ h3 ⟨A4, k4, c4, A5, k5, c5, rfl, hN4, _, hl3⟩
  have hk2 := NmN.le_of hN2 (un.sz.le (Nat.div_le_self _ _))
  have hk4 := NmN.le_of hN4 (w.sz.le (Nat.div_le_self _ _))
  have hI : IsI h3 s A2 k2 c2 (mkRat z v).num := by
    refine ⟨_, (hN2.mono hl3).is, ?_⟩
    rw [← e1]
    have hs := mkRat_sign (z := z) hv
    obtain ⟨x, _, ez⟩ := u
    have : (mkRat z v).num = 0 ↔ z = 0 := by rw [Rat.num_eq_zero]; exact Rat.mkRat_eq_zero hv
    cases s <;> simp at ez ⊢ <;> omega
  refine ⟨_, _, _, _, _, _, _, rfl, (r2norm_c hI (by omega)).mono ?_⟩
  rintro _ h4 ⟨s', A6, k6, c6, rfl, hN6, hk6, hl4⟩
  refine ⟨_, _, _, _, rfl, _, _, _, _, _, _, _, rfl, ⟨hN6, ?_⟩, by omega, hk4, ((hl1.trans hl2).trans hl3).trans hl4⟩
  rw [e2]
  exact hN4.mono hl4

theorem r3zero_c {h : Heap} {s : Bool} {A B : Option Addr} {n c m d : Nat} {z : Int} {v : Nat} (u : IsI h s A n c z) (w : IsN h B m d v) (hn : n ≤ 1099511627776) (hm : m ≤ 1099511627776) :
    CallsU Tryz.prog 77 [.agg #[.bool s, .slice A n c, .slice B m d]] h fun r h' => r = .bool (decide (z = 0 ∨ v = 0)) ∧ Le h h' := by
  apply ref03_Zero_ok
  refine (r1norm_c u.natAbs (by omega)).mono ?_
  rintro _ h1 ⟨A1, k1, c1, rfl, _, hN1, hl1⟩
  have hz1 := NmN.zero_iff hN1
  refine ⟨_, _, _, rfl, Br.mk (fun q => ?_) (fun q => ?_)⟩
  · have q' : k1 = 0 := by have := beq_iff_eq.1 q; omega
    have := hz1.1 q'
    rw [decide_eq_true (Or.inl (by omega))]
    exact ⟨rfl, hl1⟩
  · have q' : k1 ≠ 0 := by have := beq_eq_false_iff_ne.1 q; omega
    refine (r1norm_c (w.mono hl1) (by omega)).mono ?_
    rintro _ h2 ⟨A2, k2, c2, rfl, _, hN2, hl2⟩
    have hz2 := NmN.zero_iff hN2
    refine ⟨_, _, _, rfl, ?_, hl1.trans hl2⟩
    congr 1
    rw [Bool.eq_iff_iff, beq_iff_eq, decide_eq_true_eq]
    omega

theorem r3norm_c {h : Heap} {s : Bool} {A B : Option Addr} {n c m d : Nat} {q : Rat} (u : IsQ h s A n c B m d q) (hn : n ≤ 1073741824) (hm : m ≤ 1073741824) :
    CallsU Tryz.prog 48 [.agg #[.bool s, .slice A n c, .slice B m d]] h fun r h' => ∃ s' A' n' c' B' m' d', r = .agg #[.bool s', .slice A' n' c', .slice B' m' d'] ∧ NmQ h' s' A' n' c' B' m' d' q ∧ n' ≤ max n 2 ∧ m' ≤ max m 2 ∧ Le h h' := by
  apply ref03_Norm_ok
  obtain ⟨z, v, uz, uv, rfl⟩ := u
  refine (r3zero_c uz uv (by omega) (by omega)).mono ?_
  rintro _ h1 ⟨rfl, hl1⟩
  refine ⟨_, rfl, Br.mk (fun b => ?_) (fun b => ?_)⟩
  · have b' := of_decide_eq_true b
    refine (whole_c 0 (by omega) (by omega) h1).mono ?_
    rintro _ h2 ⟨s2, A2, n2, c2, B2, m2, d2, rfl, hN, hn2, hm2, hl2⟩
    have e : mkRat z v = ((0 : Int) : Rat) := by
      rcases b' with e | e
      · rw [e]; simp
      · rw [e]; simp
    rw [← e] at hN
    exact ⟨_, _, _, _, _, _, _, rfl, _, _, _, _, _, _, _, rfl, hN, by omega, by omega, hl1.trans hl2⟩
  · have b' := of_decide_eq_false b
    refine (r3reduce_c (uz.mono hl1) (uv.mono hl1) (fun e => b' (Or.inr e)) hn hm).mono ?_
    rintro _ h2 ⟨s2, A2, n2, c2, B2, m2, d2, rfl, hN, hn2, hm2, hl2⟩
    exact ⟨_, _, _, _, _, _, _, rfl, _, _, _, _, _, _, _, rfl, hN, by omega, by omega, hl1.trans hl2⟩

/-! ### equality field by field -/
end Go.Proofs.YtdpdaphholileaaGreatDoor

/-
  Contracts: measure: number, Parse.
-/
namespace Go.Proofs.YtdpdaphholileaaGreatDoor
open Go Go.Vcg
attribute [local irreducible] Br

/-- A ratio and whether it is one. -/
def RatN (o : Option Rat) (v : Value) (h' : Heap) : Prop :=
  ∃ s A n c B m d, v = .tuple #[.agg #[.bool s, .slice A n c, .slice B m d], .bool o.isSome] ∧ ∀ q, o = some q → NmQ h' s A n c B m d q ∧ n ≤ 32 ∧ m ≤ 32

theorem RatN.none (h' : Heap) : RatN none (.tuple #[.agg #[.bool false, .slice Option.none 0 0, .slice Option.none 0 0], .bool false]) h' := ⟨_, _, _, _, _, _, _, rfl, fun _ e => by cases e⟩

end Go.Proofs.YtdpdaphholileaaGreatDoor

/-
  Plain laws: rounding; units, signs and sums in texts.
-/
namespace Go.Proofs.YtdpdaphholileaaGreatDoor
open Go Go.Vcg

/-! ### rounding -/
/-! ### laws of texts -/
theorem Num.ends {b : List UInt8} {v : Rat} (h : Num b v) : (∃ x r, b = x :: r ∧ isDg x = true) ∧ ∃ r x, b = r ++ [x] ∧ isDg x = true := by
  have first : ∀ {a : List UInt8}, Dgs a → ∀ s, ∃ x r, a ++ s = x :: r ∧ isDg x = true := fun {a} ha s => by
    obtain ⟨x, r, rfl⟩ := List.exists_cons_of_ne_nil ha.1
    exact ⟨x, r ++ s, rfl, ha.2 x (by simp)⟩
  have last : ∀ {a : List UInt8}, Dgs a → ∀ s, ∃ r x, s ++ a = r ++ [x] ∧ isDg x = true := fun {a} ha s => by
    have e := List.dropLast_concat_getLast ha.1
    refine ⟨s ++ a.dropLast, a.getLast ha.1, by rw [List.append_assoc, e], ha.2 _ (List.getLast_mem ha.1)⟩
  cases h with
  | whole ha _ =>
    have h1 := first ha []
    have h2 := last ha []
    rw [List.append_nil] at h1
    exact ⟨h1, h2⟩
  | dec ha hb _ =>
    refine ⟨first ha _, ?_⟩
    rename_i a b _
    have := last hb (a ++ [46])
    simpa using this
  | frac ha hb _ =>
    refine ⟨first ha _, ?_⟩
    rename_i a b _
    have := last hb (a ++ [47])
    simpa using this
  | mixed ha hb hc _ _ =>
    refine ⟨first ha _, ?_⟩
    rename_i a b c n q _ _
    have := last hc (a ++ 32 :: (b ++ [47]))
    simpa using this

end Go.Proofs.YtdpdaphholileaaGreatDoor

/-
  Contracts: ratio.Round; measure: Units, Format.
-/
namespace Go.Proofs.YtdpdaphholileaaGreatDoor
open Go Go.Vcg
attribute [local irreducible] Br

end Go.Proofs.YtdpdaphholileaaGreatDoor

/-
  Contracts of the references 02 and 03: Neg, Small; Of, Mul, Div, Neg, Sign, Sub, Floor, Round, Light.
-/
namespace Go.Proofs.YtdpdaphholileaaGreatDoor
open Go Go.Vcg
attribute [local irreducible] Br

theorem r3of_c (z w : Int) (hz1 : -9223372036854775808 ≤ z) (hz2 : z < 9223372036854775808) (hw1 : -9223372036854775808 ≤ w) (hw2 : w < 9223372036854775808) (hw : w ≠ 0) (h : Heap) :
    CallsU Tryz.prog 63 [.int .i64 z, .int .i64 w] h fun r h' => ∃ s' A' n' c' B' m' d', r = .tuple #[.agg #[.bool s', .slice A' n' c', .slice B' m' d'], .bool true] ∧ NmQ h' s' A' n' c' B' m' d' ((z : Rat) / (w : Rat)) ∧ n' ≤ 2 ∧ m' ≤ 2 ∧ Le h h' := by
  apply ref03_Of_ok
  refine Br.mk (fun q => by simp at q; omega) (fun _ => ?_)
  refine (r2of_c z hz1 hz2 h).mono ?_
  rintro _ h1 ⟨s1, A1, k1, c1, rfl, n1, hk1, hl1⟩
  refine ⟨_, _, _, _, rfl, (r2of_c w hw1 hw2 h1).mono ?_⟩
  rintro _ h2 ⟨s2, A2, k2, c2, rfl, n2, hk2, hl2⟩
  have e1 := n1.2
  have e2 := n2.2
  have hI : IsI h2 (!(s1 == s2)) A1 k1 c1 (if w < 0 then -z else z) := by
    refine ⟨_, (n1.mono hl2).1.is, ?_⟩
    rw [e1, e2]
    by_cases a : z < 0 <;> by_cases b : w < 0 <;> simp [a, b] <;> omega
  refine ⟨_, _, _, _, rfl, (r3reduce_c hI n2.1.is (by omega) (by omega) (by omega)).mono ?_⟩
  rintro _ h3 ⟨s3, A3, n3, c3, B3, m3, d3, rfl, hN, hn3, hm3, hl3⟩
  have e : mkRat (if w < 0 then -z else z) w.natAbs = (z : Rat) / (w : Rat) := by
    rw [Rat.mkRat_eq_div]
    by_cases b : w < 0
    · simp only [b, if_true]
      have : ((w.natAbs : Nat) : Rat) = -(w : Rat) := by rw [← Rat.intCast_natCast, ← Rat.intCast_neg]; congr 1; omega
      rw [this, Rat.intCast_neg]
      grind
    · simp only [b, if_false]
      have : ((w.natAbs : Nat) : Rat) = (w : Rat) := by rw [← Rat.intCast_natCast]; congr 1; omega
      rw [this]
  rw [e] at hN
  exact ⟨_, _, _, _, _, _, _, rfl, _, _, _, _, _, _, _, rfl, hN, by omega, by omega, (hl1.trans hl2).trans hl3⟩

end Go.Proofs.YtdpdaphholileaaGreatDoor

/-
  law17: part, awake.
-/
namespace Go.Proofs.YtdpdaphholileaaGreatDoor
open Go Go.Vcg Go.RowKit Go.Sort
attribute [local irreducible] Br

theorem part_c (z w : Int) (hz1 : -9223372036854775808 ≤ z) (hz2 : z < 9223372036854775808) (hw1 : -9223372036854775808 ≤ w) (hw2 : w < 9223372036854775808) (hw : w ≠ 0) (h : Heap) :
    CallsU Tryz.prog 33 [.int .i64 z, .int .i64 w] h fun r h' => ∃ s' A' n' c' B' m' d', r = .agg #[.bool s', .slice A' n' c', .slice B' m' d'] ∧ NmQ h' s' A' n' c' B' m' d' ((z : Rat) / (w : Rat)) ∧ n' ≤ 2 ∧ m' ≤ 2 ∧ Le h h' := by
  apply law17_part_ok
  refine (r3of_c z w hz1 hz2 hw1 hw2 hw h).mono ?_
  rintro _ h1 ⟨s, A, n, c, B, m, d, rfl, hN, a, b, hl⟩
  exact ⟨_, _, _, _, _, _, _, _, rfl, _, _, _, _, _, _, _, rfl, hN, a, b, hl⟩

def gx (o : Except Int Ex) : Ex := match o with | .ok x => x | .error _ => .mk 0 0 0 0 [] []
def oks (o : Except Int Ex) : Bool := match o with | .ok _ => true | .error _ => false
theorem gx_ok {o : Except Int Ex} (h : oks o = true) : o = .ok (gx o) := by
  cases o with
  | ok x => rfl
  | error e => cases h
def ere (o : Except Int Ex) (k : Int) : Bool := match o with | .ok _ => false | .error e => e == k
theorem ere_ok {o : Except Int Ex} {k : Int} (h : ere o k = true) : o = .error k := by
  cases o with
  | ok x => cases h
  | error e => rw [eq_of_beq h]
def fuelB (s : List UInt8) : Bool := match pSum 4000 s with | .error e => e != 99 | .ok _ => true
theorem fuel_ok {s : List UInt8} (h : fuelB s = true) : pSum 4000 s ≠ .error 99 := by
  intro q
  unfold fuelB at h
  rw [q] at h
  cases h
def prB (o : Except Int (List UInt8)) (t : List UInt8) : Bool := match o with | .ok x => x == t | .error _ => false
theorem prB_ok {o : Except Int (List UInt8)} {t : List UInt8} (h : prB o t = true) : o = .ok t := by
  cases o with
  | ok x => rw [eq_of_beq h]
  | error e => cases h
def evB (o : Except Int Rat) (t : Rat) : Bool := match o with | .ok x => x == t | .error _ => false
theorem evB_ok {o : Except Int Rat} {t : Rat} (h : evB o t = true) : o = .ok t := by
  cases o with
  | ok x => rw [eq_of_beq h]
  | error e => cases h
def evE (o : Except Int Rat) (k : Int) : Bool := match o with | .ok _ => false | .error e => e == k
theorem evE_ok {o : Except Int Rat} {k : Int} (h : evE o k = true) : o = .error k := by
  cases o with
  | ok x => cases h
  | error e => rw [eq_of_beq h]

abbrev aw1 : List UInt8 := [97, 43, 50, 42, 98, 45, 49, 46, 53, 48]
abbrev aw2 : List UInt8 := [49, 32, 43]
abbrev aw3 : List UInt8 := [48, 48, 55]
abbrev aw4 : List UInt8 := [97, 32, 47, 32, 98, 32, 45, 32, 109, 97, 120, 40, 97, 44, 32, 52, 41]
abbrev aw5 : List UInt8 := [97, 47, 40, 98, 45, 48, 46, 53, 41]
abbrev awT : List UInt8 := [97, 32, 43, 32, 50, 32, 42, 32, 98, 32, 45, 32, 49, 46, 53]
def exA : Ex := gx (foParseV aw1)
def exX : Ex := gx (foParseV aw4)
def exY : Ex := gx (foParseV aw5)
theorem aw_f1 : fuelB aw1 = true := by decide +kernel
theorem aw_f2 : fuelB aw2 = true := by decide +kernel
theorem aw_f3 : fuelB aw3 = true := by decide +kernel
theorem aw_f4 : fuelB aw4 = true := by decide +kernel
theorem aw_f5 : fuelB aw5 = true := by decide +kernel
theorem aw_p1 : oks (foParseV aw1) = true := by decide +kernel
theorem aw_p2 : ere (foParseV aw2) 4 = true := by decide +kernel
theorem aw_p3 : ere (foParseV aw3) 2 = true := by decide +kernel
theorem aw_p4 : oks (foParseV aw4) = true := by decide +kernel
theorem aw_p5 : oks (foParseV aw5) = true := by decide +kernel
theorem aw_pr : prB (prV exA) awT = true := by decide +kernel
theorem aw_k : exA.kind = 4 := by decide +kernel
theorem aw_c : chkV exA 1 = 0 := by decide +kernel
theorem aw_c0 : chkV (.mk 0 0 0 0 [] []) 1 = 1 := by decide +kernel
abbrev awM (a b c d e f : Nat) : List Meas := [⟨[97], 3, a, b⟩, ⟨[98], 1/2, c, d⟩, ⟨[97], 9, e, f⟩]
theorem aw_lk : ∀ (a b c d e f : Nat) (nm : List UInt8), lookV (awM a b c d e f) nm = lookV (awM 0 0 0 0 0 0) nm := by
  intro a b c d e f nm
  unfold lookV
  simp only [List.find?_cons, List.find?_nil]
  cases ([97] == nm) <;> cases ([98] == nm) <;> rfl
mutual
theorem evV_lk {ms ms' : List Meas} (h : ∀ nm, lookV ms nm = lookV ms' nm) : ∀ e : Ex, evV ms e = evV ms' e
  | .mk k q n m nm kids => by
    rw [evV, evV, evL_lk h kids]
    have : ∀ vs, apV ms k q nm vs = apV ms' k q nm vs := fun vs => by unfold apV; rw [h]
    simp only [this]
theorem evL_lk {ms ms' : List Meas} (h : ∀ nm, lookV ms nm = lookV ms' nm) : ∀ es : List Ex, evL ms es = evL ms' es
  | [] => by rw [evL, evL]
  | e :: es => by rw [evL, evL, evV_lk h e, evL_lk h es]
end
theorem evalV_lk {ms ms' : List Meas} (h : ∀ nm, lookV ms nm = lookV ms' nm) (e : Ex) : evalV ms e = evalV ms' e := by
  unfold evalV; rw [evV_lk h e]
theorem aw_e1 : evB (evalV (awM 0 0 0 0 0 0) exX) 2 = true := by decide +kernel
theorem aw_e2 : evE (evalV (awM 0 0 0 0 0 0) exY) 10 = true := by decide +kernel
theorem aw_n0 : namesE exX = [[97], [98], [97]] := by decide +kernel
theorem aw_n : namesV exX = [[97], [98]] := by
  have hs : sortS [[97], [98], [97]] = [[97], [97], [98]] := by
    refine sortS_eq (by decide) ?_
    simp only [List.pairwise_cons, List.mem_cons, List.not_mem_nil, or_false, forall_eq_or_imp, forall_eq, List.Pairwise.nil, and_true, false_implies, implies_true]
    decide +kernel
  unfold namesV
  rw [aw_n0, hs]
  decide +kernel

theorem awake_c {h : Heap} (tb : Tab h) : CallsU Tryz.prog 12 [] h fun r h' => r = .bool true ∧ Le h h' := by
  apply law17_awake_ok
  refine (foParse_c (s := aw1) (fuel_ok aw_f1) h).mono ?_
  intro v1 h1 hP
  rw [gx_ok aw_p1] at hP
  obtain ⟨hl1, vs1, rfl, u1, z1, c1⟩ := hP
  have u1' := u1
  obtain ⟨_, _, _, _, _, _, _, rfl, _, _, _⟩ := u1'.open
  refine ⟨_, _, _, _, _, _, _, _, _, _, _, _, _, rfl, ?_⟩
  refine (foPrint_c u1 z1 (tb.mono hl1)).mono ?_
  rintro _ h2 ⟨rfl, hl2⟩
  rw [show prV (gx (foParseV aw1)) = .ok awT from prB_ok aw_pr]
  refine ⟨_, _, rfl, ?_⟩
  have l2 := hl1.trans hl2
  refine (foParse_c (s := aw2) (fuel_ok aw_f2) h2).mono ?_
  intro v3 h3 hP
  rw [ere_ok aw_p2] at hP
  obtain ⟨hl3, _, rfl⟩ := hP
  refine ⟨_, _, _, _, _, _, _, _, _, _, _, _, _, rfl, ?_⟩
  refine (foParse_c (s := aw3) (fuel_ok aw_f3) h3).mono ?_
  intro v4 h4 hP
  rw [ere_ok aw_p3] at hP
  obtain ⟨hl4, _, rfl⟩ := hP
  refine ⟨_, _, _, _, _, _, _, _, _, _, _, _, _, rfl, ?_⟩
  refine (foParse_c (s := aw4) (fuel_ok aw_f4) h4).mono ?_
  intro v5 h5 hP
  rw [gx_ok aw_p4] at hP
  obtain ⟨hl5, vs5, rfl, u5, z5, c5⟩ := hP
  have u5' := u5
  obtain ⟨_, _, _, _, _, _, _, rfl, _, _, _⟩ := u5'.open
  refine ⟨_, _, _, _, _, _, _, _, _, _, _, _, _, rfl, ?_⟩
  refine (part_c 3 1 (by omega) (by omega) (by omega) (by omega) (by omega) h5).mono ?_
  rintro _ h6 ⟨s6, A6, n6, c6, B6, m6, d6, rfl, hN6, a6, b6, hl6⟩
  refine ⟨_, _, _, _, _, _, _, rfl, ?_⟩
  refine (part_c 1 2 (by omega) (by omega) (by omega) (by omega) (by omega) h6).mono ?_
  rintro _ h7 ⟨s7, A7, n7, c7, B7, m7, d7, rfl, hN7, a7, b7, hl7⟩
  refine ⟨_, _, _, _, _, _, _, rfl, ?_⟩
  refine (part_c 9 1 (by omega) (by omega) (by omega) (by omega) (by omega) h7).mono ?_
  rintro _ h8 ⟨s8, A8, n8, c8, B8, m8, d8, rfl, hN8, a8, b8, hl8⟩
  refine ⟨_, _, _, _, _, _, _, rfl, ?_⟩
  rintro g _ hg rfl
  rw [show (((3 : Int) : Rat) / ((1 : Int) : Rat)) = 3 by decide +kernel] at hN6
  rw [show (((1 : Int) : Rat) / ((2 : Int) : Rat)) = 1/2 by decide +kernel] at hN7
  rw [show (((9 : Int) : Rat) / ((1 : Int) : Rat)) = 9 by decide +kernel] at hN8
  have env : EnvS (h8.put g ⟨[Value.string (⟨#[97]⟩ : ByteArray), Value.bool s6, Value.slice A6 n6 c6, Value.slice B6 m6 d6, Value.string (⟨#[98]⟩ : ByteArray), Value.bool s7, Value.slice A7 n7 c7, Value.slice B7 m7 d7, Value.string (⟨#[97]⟩ : ByteArray), Value.bool s8, Value.slice A8 n8 c8, Value.slice B8 m8 d8], 56, (0, 0)⟩) (some ⟨g, 0, none⟩) 3 3 (awM n6 m6 n7 m7 n8 m8) := by
    have lg := Le.new hg ⟨[Value.string (⟨#[97]⟩ : ByteArray), Value.bool s6, Value.slice A6 n6 c6, Value.slice B6 m6 d6, Value.string (⟨#[98]⟩ : ByteArray), Value.bool s7, Value.slice A7 n7 c7, Value.slice B7 m7 d7, Value.string (⟨#[97]⟩ : ByteArray), Value.bool s8, Value.slice A8 n8 c8, Value.slice B8 m8 d8], 56, (0, 0)⟩
    refine ⟨rfl, by omega, by simp, fun x hx => ?_, fun _ => ⟨_, _, rfl, rfl, Heap.put_same _ _ _, ⟨_, _, _, _, _, rfl, (hN6.is.mono ((hl7.trans hl8).trans lg))⟩, ⟨_, _, _, _, _, rfl, (hN7.is.mono (hl8.trans lg))⟩, ⟨_, _, _, _, _, rfl, hN8.is.mono lg⟩, trivial⟩⟩
    simp only [List.mem_cons, List.not_mem_nil, or_false] at hx
    rcases hx with rfl | rfl | rfl <;> exact ⟨by simp only; omega, by simp only; omega⟩
  have l59 := ((hl6.trans hl7).trans hl8).trans (Le.new hg ⟨[Value.string (⟨#[97]⟩ : ByteArray), Value.bool s6, Value.slice A6 n6 c6, Value.slice B6 m6 d6, Value.string (⟨#[98]⟩ : ByteArray), Value.bool s7, Value.slice A7 n7 c7, Value.slice B7 m7 d7, Value.string (⟨#[97]⟩ : ByteArray), Value.bool s8, Value.slice A8 n8 c8, Value.slice B8 m8 d8], 56, (0, 0)⟩)
  refine (foEval_c (IsE.mono l59 _ _ u5) z5 env).mono ?_
  rintro v10 h10 ⟨hr10, hl10⟩
  rw [evalV_lk (aw_lk n6 m6 n7 m7 n8 m8), show evalV (awM 0 0 0 0 0 0) (gx (foParseV aw4)) = .ok 2 from evB_ok aw_e1] at hr10
  obtain ⟨s10, A10, n10, c10, B10, m10, d10, rfl, hN10, a10, b10⟩ := hr10
  refine ⟨_, _, _, _, _, _, _, _, rfl, ?_⟩
  refine (foParse_c (s := aw5) (fuel_ok aw_f5) h10).mono ?_
  intro v11 h11 hP
  rw [gx_ok aw_p5] at hP
  obtain ⟨hl11, vs11, rfl, u11, z11, c11⟩ := hP
  have u11' := u11
  obtain ⟨_, _, _, _, _, _, _, rfl, _, _, _⟩ := u11'.open
  refine ⟨_, _, _, _, _, _, _, _, _, _, _, _, _, rfl, ?_⟩
  refine (foEval_c u11 z11 (env.mono (hl10.trans hl11))).mono ?_
  rintro v12 h12 ⟨hr12, hl12⟩
  rw [evalV_lk (aw_lk n6 m6 n7 m7 n8 m8), show evalV (awM 0 0 0 0 0 0) (gx (foParseV aw5)) = .error 10 from evE_ok aw_e2] at hr12
  have hr12' : v12 = Value.tuple #[.agg #[.bool false, .slice none 0 0, .slice none 0 0], .int .i64 10] := hr12
  subst hr12'
  have l512 := ((l59.trans hl10).trans hl11).trans hl12
  have l012 := (((l2.trans hl3).trans hl4).trans hl5).trans l512
  refine ⟨_, _, _, _, _, _, _, _, rfl, fun t h' => t = false ∧ h' = h12, ?_, ?_⟩
  · rintro _ _ ⟨rfl, rfl⟩
    refine Br.mk (fun q => by cases q) (fun _ => ?_)
    have hcnt : (namesE (gx (foParseV aw4))).length ≤ 1000000000 := by
      rw [show namesE (gx (foParseV aw4)) = _ from aw_n0]; decide
    refine (foNames_c (IsE.mono l512 _ _ u5) z5 hcnt).mono ?_
    rintro _ h14 ⟨A14, n14, c14, rfl, hS14, hl14⟩
    rw [show namesV (gx (foParseV aw4)) = _ from aw_n] at hS14
    have hn14 : n14 = 2 := hS14.len.symm
    subst hn14
    obtain ⟨ad0, eA0, hld0⟩ := hS14.get (i := 0) rfl
    obtain ⟨ad1, eA1, hld1⟩ := hS14.get (i := 1) rfl
    refine ⟨_, _, _, rfl, Br.mk (fun _ => ?_) (fun q => by rw [show (gx (foParseV aw1)).kind = 4 from aw_k] at q; exact absurd q (by decide))⟩
    refine Br.mk (fun _ => ⟨ad0, eA0, by omega, by omega, _, hld0, Br.mk (fun _ => ⟨ad1, eA1, by omega, by omega, _, hld1, Br.mk (fun _ => ?_) (fun q => by rw [bytes_toList] at q; exact absurd q (by decide))⟩) (fun q => by rw [bytes_toList] at q; exact absurd q (by decide))⟩) (fun q => by exact absurd q (by decide))
    refine (part_c 2 1 (by omega) (by omega) (by omega) (by omega) (by omega) h14).mono ?_
    rintro _ h15 ⟨s15, A15, n15, c15, B15, m15, d15, rfl, hN15, a15, b15, hl15⟩
    rw [show (((2 : Int) : Rat) / ((1 : Int) : Rat)) = 2 by decide +kernel] at hN15
    refine ⟨_, _, _, _, _, _, _, rfl, hl15, ?_⟩
    refine (rcmp_c (hN10.is.mono (((hl11.trans hl12).trans hl14).trans hl15)) hN15.is (by omega) (by omega) (by omega) (by omega)).mono ?_
    rintro _ h16 ⟨rfl, hl16⟩
    refine ⟨_, rfl, Br.mk (fun _ => ?_) (fun q => by exact absurd q (by decide +kernel))⟩
    have uz : IsE h16 (.mk 0 0 0 0 [] []) zE := by
      unfold IsE
      exact ⟨false, none, 0, none, 0, none, 0, rfl, IsQ.nul _, Nat.le_refl _, fun q => absurd rfl q⟩
    refine (foChk_c uz (by unfold Szs SzsL; exact ⟨by omega, by omega, by simp, by simp, trivial⟩)).mono ?_
    rintro _ h17 ⟨rfl, hl17⟩
    rw [aw_c0]
    refine ⟨_, rfl, Br.mk (fun _ => ?_) (fun q => by exact absurd q (by decide))⟩
    have l117 := ((((((((hl2.trans hl3).trans hl4).trans hl5).trans l512).trans hl14).trans hl15).trans hl16).trans hl17)
    refine (foChk_c (IsE.mono l117 _ _ u1) z1).mono ?_
    rintro _ h18 ⟨rfl, hl18⟩
    rw [show chkV (gx (foParseV aw1)) 1 = 0 from aw_c]
    exact ⟨_, rfl, rfl, (hl1.trans l117).trans hl18⟩
  · refine Br.mk (fun q => by exact absurd q (by decide)) (fun _ => Br.mk (fun q => by exact absurd q (by decide)) (fun _ => Br.mk (fun q => by exact absurd q (by decide)) (fun _ => Br.mk (fun q => by exact absurd q (by decide)) (fun _ => Br.mk (fun q => by exact absurd q (by decide)) (fun _ => Br.mk (fun q => by exact absurd q (by decide)) (fun _ => Br.mk (fun q => by exact absurd q (by decide)) (fun _ => Br.mk (fun q => by exact absurd q (by decide)) (fun _ => ⟨?_, rfl⟩))))))))
    rw [bytes_toList]
    decide
end Go.Proofs.YtdpdaphholileaaGreatDoor

/-
  References of chapter 17: Left, Small, Brief; of 8: SameRatio.
-/
namespace Go.Proofs.YtdpdaphholileaaGreatDoor
open Go Go.Vcg Go.RowKit Go.Sort
attribute [local irreducible] Br







/-- Measures of any size. -/
structure EnvA (h : Heap) (A : Option Addr) (n c : Nat) (ms : List Meas) : Prop where
  len : n = ms.length
  cap : n ≤ c
  mem : ms ≠ [] → ∃ (ad : Addr) (b : Blk), A = some ad ∧ ad.spot = none ∧ h ad.block = some b ∧ IsMs h ms (b.cells.drop ad.off)

def briefV (ms : List Meas) : Bool := decide (ms.length ≤ 20) && ms.all fun x => decide (x.name.length ≤ 60 ∧ x.ln ≤ 2 ∧ x.lm ≤ 2)

theorem EnvA.s {h : Heap} {A : Option Addr} {n c : Nat} {ms : List Meas} (u : EnvA h A n c ms) (hb : briefV ms = true) : EnvS h A n c ms := by
  unfold briefV at hb
  rw [Bool.and_eq_true, decide_eq_true_eq, List.all_eq_true] at hb
  refine ⟨u.len, u.cap, by omega, fun x hx => ?_, u.mem⟩
  have := hb.2 x hx
  rw [decide_eq_true_eq] at this
  omega

theorem rSameNat_c {h : Heap} {A B : Option Addr} {n c m d : Nat} {xs ys : List Nat} (u : U32 h A n c xs) (w : U32 h B m d ys) (hn : n ≤ 1099511627776) :
    CallsU Tryz.prog 54 [.slice A n c, .slice B m d] h fun r h' => r = .bool (decide (xs = ys)) ∧ h = h' := by
  apply ref08_sameNat_ok
  have l1 : xs.length = n := u.1
  have l2 : ys.length = m := w.1
  refine Br.mk (fun q => ?_) (fun q => ?_)
  · have : n ≠ m := fun e => by subst e; simp at q
    rw [decide_eq_false (fun e => this (by rw [← l1, ← l2, e]))]
    exact ⟨rfl, rfl⟩
  · have hnm : n = m := by
      have : (((n : Nat) : Int) != ((m : Nat) : Int)) = false := q
      simp only [bne_eq_false_iff_eq] at this
      omega
    subst hnm
    refine ⟨fun mm i h' => ∃ k, k ≤ n ∧ mm = n - k ∧ i = (k : Int) ∧ h = h' ∧ ∀ j, j < k → xs.getD j 0 = ys.getD j 0, ⟨n, 0, by omega, by omega, rfl, rfl, fun j hj => by omega⟩, ?_⟩
    rintro mm _ _ ⟨k, hk, rfl, rfl, rfl, hall⟩
    refine Br.mk (fun q2 => ?_) (fun q2 => ?_)
    · have hlt : k < n := by have := of_decide_eq_true q2; omega
      obtain ⟨ad, eA, hld⟩ := u.get hlt
      obtain ⟨ad2, eB, hld2⟩ := w.get hlt
      rw [Int.toNat_natCast]
      refine ⟨ad, eA, by omega, by omega, _, hld, ad2, eB, by omega, by omega, _, hld2, Br.mk (fun q3 => ?_) (fun q3 => ?_)⟩
      · have hne : xs.getD k 0 ≠ ys.getD k 0 := fun e => by rw [e] at q3; simp at q3
        rw [decide_eq_false (fun e => hne (by rw [e]))]
        exact ⟨rfl, rfl⟩
      · have he : xs.getD k 0 = ys.getD k 0 := by
          have : (((xs.getD k 0 : Nat) : Int) != ((ys.getD k 0 : Nat) : Int)) = false := q3
          simp only [bne_eq_false_iff_eq] at this
          omega
        rintro _ rfl
        refine ⟨n - (k + 1), by omega, k + 1, by omega, rfl, wi (by omega) (by omega), rfl, fun j hj => ?_⟩
        rcases Nat.lt_succ_iff_lt_or_eq.1 hj with q | q
        · exact hall j q
        · subst q; exact he
    · have hk' : k = n := by have := of_decide_eq_false q2; omega
      subst hk'
      have : xs = ys := by
        apply List.ext_getElem?
        intro i
        rcases Nat.lt_or_ge i k with q | q
        · have h1 := hall i q
          rw [List.getD_eq_getElem?_getD, List.getD_eq_getElem?_getD] at h1
          rw [List.getElem?_eq_getElem (by omega), List.getElem?_eq_getElem (by omega)] at h1 ⊢
          simpa using h1
        · rw [List.getElem?_eq_none (by omega), List.getElem?_eq_none (by omega)]
      rw [decide_eq_true this]
      exact ⟨rfl, rfl⟩

theorem r2same_c {h : Heap} {s s2 : Bool} {A B : Option Addr} {n c m d : Nat} {xs ys : List Nat} (u : U32 h A n c xs) (w : U32 h B m d ys) (hn : n ≤ 1099511627776) :
    CallsU Tryz.prog 53 [.agg #[.bool s, .slice A n c], .agg #[.bool s2, .slice B m d]] h fun r h' => r = .bool (decide (s = s2 ∧ xs = ys)) ∧ h = h' := by
  apply ref02_Same_ok
  have l1 : xs.length = n := u.1
  have l2 : ys.length = m := w.1
  refine ⟨fun t h' => h = h' ∧ (t = true → ¬ (s = s2 ∧ xs = ys)) ∧ (t = false → s = s2 ∧ n = m), ?_, ?_⟩
  · rintro t _ ⟨rfl, ht, hf⟩
    refine Br.mk (fun q => ?_) (fun q => ?_)
    · rw [decide_eq_false (ht q)]; exact ⟨rfl, rfl⟩
    · obtain ⟨rfl, hnm⟩ := hf q
      subst hnm
      refine ⟨fun mm i h' => ∃ k, k ≤ n ∧ mm = n - k ∧ i = (k : Int) ∧ h = h' ∧ ∀ j, j < k → xs.getD j 0 = ys.getD j 0, ⟨n, 0, by omega, by omega, rfl, rfl, fun j hj => by omega⟩, ?_⟩
      rintro mm _ _ ⟨k, hk, rfl, rfl, rfl, hall⟩
      refine Br.mk (fun q2 => ?_) (fun q2 => ?_)
      · have hlt : k < n := by have := of_decide_eq_true q2; omega
        obtain ⟨ad, eA, hld⟩ := u.get hlt
        obtain ⟨ad2, eB, hld2⟩ := w.get hlt
        rw [Int.toNat_natCast]
        refine ⟨ad, eA, by omega, by omega, _, hld, ad2, eB, by omega, by omega, _, hld2, Br.mk (fun q3 => ?_) (fun q3 => ?_)⟩
        · have hne : xs.getD k 0 ≠ ys.getD k 0 := fun e => by rw [e] at q3; simp at q3
          rw [decide_eq_false (fun e => hne (by rw [e.2]))]
          exact ⟨rfl, rfl⟩
        · have he : xs.getD k 0 = ys.getD k 0 := by
            have : (((xs.getD k 0 : Nat) : Int) != ((ys.getD k 0 : Nat) : Int)) = false := q3
            simp only [bne_eq_false_iff_eq] at this
            omega
          rintro _ rfl
          refine ⟨n - (k + 1), by omega, k + 1, by omega, rfl, wi (by omega) (by omega), rfl, fun j hj => ?_⟩
          rcases Nat.lt_succ_iff_lt_or_eq.1 hj with q | q
          · exact hall j q
          · subst q; exact he
      · have hk' : k = n := by have := of_decide_eq_false q2; omega
        subst hk'
        have : xs = ys := by
          apply List.ext_getElem?
          intro i
          rcases Nat.lt_or_ge i k with q | q
          · have h1 := hall i q
            rw [List.getD_eq_getElem?_getD, List.getD_eq_getElem?_getD] at h1
            rw [List.getElem?_eq_getElem (by omega), List.getElem?_eq_getElem (by omega)] at h1 ⊢
            simpa using h1
          · rw [List.getElem?_eq_none (by omega), List.getElem?_eq_none (by omega)]
        rw [decide_eq_true ⟨rfl, this⟩]
        exact ⟨rfl, rfl⟩
  · refine Br.mk (fun q => ⟨rfl, fun _ => ?_, fun q => by cases q⟩) (fun q => ⟨rfl, fun q2 => ?_, fun q2 => ?_⟩)
    · rintro ⟨rfl, _⟩
      simp at q
    · rintro ⟨_, rfl⟩
      have : n = m := by omega
      subst this
      simp at q2
    · have : (((n : Nat) : Int) != ((m : Nat) : Int)) = false := q2
      simp only [bne_eq_false_iff_eq] at this
      exact ⟨by simpa using q, by omega⟩

/-- Ratios of limbs. -/
theorem rSameRatio_c {h : Heap} {s s2 : Bool} {A B C D : Option Addr} {n c m d n2 c2 m2 d2 : Nat} {xs ys zs ws : List Nat} (u1 : U32 h A n c xs) (u2 : U32 h B m d ys) (w1 : U32 h C n2 c2 zs) (w2 : U32 h D m2 d2 ws) (hn : n ≤ 1099511627776) (hm : m ≤ 1099511627776) :
    CallsU Tryz.prog 27 [.agg #[.bool s, .slice A n c, .slice B m d], .agg #[.bool s2, .slice C n2 c2, .slice D m2 d2]] h fun r h' => r = .bool (decide (s = s2 ∧ xs = zs ∧ ys = ws)) ∧ h = h' := by
  apply ref08_SameRatio_ok
  refine (r2same_c u1 w1 hn).mono ?_
  rintro _ _ ⟨rfl, rfl⟩
  refine ⟨_, rfl, Br.mk (fun q => ?_) (fun q => ?_)⟩
  · have := of_decide_eq_true q
    refine (rSameNat_c u2 w2 hm).mono ?_
    rintro _ _ ⟨rfl, rfl⟩
    refine ⟨_, rfl, ?_, rfl⟩
    congr 1
    rw [Bool.eq_iff_iff, decide_eq_true_eq, decide_eq_true_eq]
    exact ⟨fun h => ⟨this.1, this.2, h⟩, fun h => h.2.2⟩
  · have := of_decide_eq_false q
    rw [decide_eq_false (fun h => this ⟨h.1, h.2.1⟩)]
    exact ⟨rfl, rfl⟩

/-- Two ratios in normal form of one value are the same. -/
theorem rSameQ_c {h : Heap} {s s2 : Bool} {A B C D : Option Addr} {n c m d n2 c2 m2 d2 : Nat} {q : Rat} (u : NmQ h s A n c B m d q) (w : NmQ h s2 C n2 c2 D m2 d2 q) (hn : n ≤ 1099511627776) (hm : m ≤ 1099511627776) :
    CallsU Tryz.prog 27 [.agg #[.bool s, .slice A n c, .slice B m d], .agg #[.bool s2, .slice C n2 c2, .slice D m2 d2]] h fun r h' => r = .bool true ∧ h = h' := by
  obtain ⟨⟨⟨xs, u1, v1, N1⟩, s1⟩, ⟨ys, u2, v2, N2⟩⟩ := u
  obtain ⟨⟨⟨zs, w1, v3, N3⟩, s3⟩, ⟨ws, w2, v4, N4⟩⟩ := w
  refine (rSameRatio_c u1 u2 w1 w2 hn hm).mono ?_
  rintro _ _ ⟨rfl, rfl⟩
  refine ⟨?_, rfl⟩
  rw [decide_eq_true]
  refine ⟨by rw [s1, s3], nrm_inj u1.3 w1.3 N1 N3 (by rw [v1, v3]), nrm_inj u2.3 w2.3 N2 N4 (by rw [v2, v4])⟩
end Go.Proofs.YtdpdaphholileaaGreatDoor

/-
  The law FormulaComposes.
-/
namespace Go.Proofs.YtdpdaphholileaaGreatDoor
open Go Go.Vcg Go.RowKit Go.Sort
attribute [local irreducible] Br


theorem cmpQ_self (x : Rat) : cmpQ x x = 0 := by unfold cmpQ; rw [if_neg (by grind), if_neg (by grind)]
end Go.Proofs.YtdpdaphholileaaGreatDoor

/-
  Plain: the names of a tree, ascending, each once.
-/
namespace Go.Proofs.YtdpdaphholileaaGreatDoor
open Go Go.Vcg Go.RowKit Go.Sort




end Go.Proofs.YtdpdaphholileaaGreatDoor

/-
  The law FormulaNames.
-/
namespace Go.Proofs.YtdpdaphholileaaGreatDoor
open Go Go.Vcg Go.RowKit Go.Sort
attribute [local irreducible] Br

/-- Measures that are gathered, in a row of their own. -/
def OM (h0 h : Heap) (A : Option Addr) (n c : Nat) (ms : List Meas) : Prop :=
  ms.length = n ∧ (∀ x ∈ ms, x.ln ≤ 64 ∧ x.lm ≤ 64) ∧ ((A = none ∧ n = 0 ∧ c = 0) ∨ ∃ gk cs, h0 gk = none ∧ A = some ⟨gk, 0, none⟩ ∧ h gk = some ⟨cs, 56, (0, 0)⟩ ∧ cs.length = 4 * c ∧ n ≤ c ∧ IsMs h0 ms cs)

theorem OM.le {h0 h h' : Heap} {A : Option Addr} {n c : Nat} {ms : List Meas} (o : OM h0 h A n c ms) (l : Le h h') : OM h0 h' A n c ms := by
  obtain ⟨a, b, d⟩ := o
  refine ⟨a, b, ?_⟩
  rcases d with d | ⟨gk, cs, e1, e2, e3, e4, e5, e6⟩
  · exact Or.inl d
  · exact Or.inr ⟨gk, cs, e1, e2, l _ _ e3, e4, e5, e6⟩

theorem OM.env {h0 h : Heap} {A : Option Addr} {n c : Nat} {ms : List Meas} (o : OM h0 h A n c ms) (l : Le h0 h) (hb : n ≤ 1000000) : EnvS h A n c ms := by
  obtain ⟨a, b, d⟩ := o
  rcases d with ⟨rfl, rfl, rfl⟩ | ⟨gk, cs, e1, rfl, e3, e4, e5, e6⟩
  · have : ms = [] := List.length_eq_zero_iff.1 a
    subst this
    exact ⟨rfl, Nat.le_refl _, by simp, b, fun q => absurd rfl q⟩
  · exact ⟨a.symm, e5, by omega, b, fun _ => ⟨_, _, rfl, rfl, e3, by simpa using IsMs.mono l e6⟩⟩

theorem LdN.first {h : Heap} {p : Addr} {a : Value} {vs : List Value} (u : LdN h p (a :: vs)) : LdN h (p.add 0) [a] := by
  obtain ⟨sp, b, hb, hv⟩ := u
  refine ld_of (i := 0) sp hb ?_
  have : ((b.cells.drop p.off).take (a :: vs).length)[0]? = some a := by rw [hv]; rfl
  rw [List.getElem?_take_of_lt (by simp), List.getElem?_drop] at this
  exact this

theorem IsMs.snoc {h : Heap} {x : Meas} {s : Bool} {A : Option Addr} {c : Nat} {B : Option Addr} {d : Nat} (uq : IsQ h s A x.ln c B x.lm d x.val) : ∀ {ms : List Meas} {cs rest : List Value}, IsMs h ms cs → 4 * ms.length ≤ cs.length →
    IsMs h (ms ++ [x]) (cs.take (4 * ms.length) ++ [sv x.name, .bool s, .slice A x.ln c, .slice B x.lm d] ++ rest)
  | [], cs, rest, _, _ => ⟨⟨s, A, c, B, d, rfl, uq⟩, trivial⟩
  | y :: ms, cs, rest, u, hl => by
    rw [List.length_cons] at hl
    have e1 : cs.take (4 + 4 * ms.length) = cs.take 4 ++ (cs.drop 4).take (4 * ms.length) := List.take_add
    have h4 : (cs.take 4).length = 4 := by rw [List.length_take]; omega
    rw [List.cons_append, List.length_cons, show 4 * (ms.length + 1) = 4 + 4 * ms.length by omega, e1]
    refine ⟨?_, ?_⟩
    · rw [List.append_assoc, List.append_assoc, List.take_append_of_le_length (by omega), List.take_take, Nat.min_self]
      exact u.1
    · rw [List.append_assoc, List.append_assoc, List.drop_append_of_le_length (by omega), List.drop_of_length_le (l := cs.take 4) (by omega), List.nil_append, ← List.append_assoc]
      exact IsMs.snoc uq u.2 (by rw [List.length_drop]; omega)

theorem IsMs.take {h : Heap} : ∀ {ms : List Meas} {cs : List Value}, IsMs h ms cs → IsMs h ms (cs.take (4 * ms.length))
  | [], _, _ => trivial
  | y :: ms, cs, u => by
    rw [List.length_cons, show 4 * (ms.length + 1) = 4 + 4 * ms.length by omega]
    refine ⟨by rw [List.take_take, Nat.min_eq_left (by omega)]; exact u.1, ?_⟩
    rw [List.drop_take, show 4 + 4 * ms.length - 4 = 4 * ms.length by omega]
    exact IsMs.take u.2

/-- append of one measure. -/
theorem OM.app {h0 h : Heap} {A : Option Addr} {n c : Nat} {ms : List Meas} (o : OM h0 h A n c ms) (l : Le h0 h) {x : Meas} {s : Bool} {A' : Option Addr} {c' : Nat} {B : Option Addr} {d : Nat} (uq : IsQ h0 s A' x.ln c' B x.lm d x.val) (hz : x.ln ≤ 64 ∧ x.lm ≤ 64) (hn : n ≤ 1000000) {g : Nat} (hg : h g = none)
    {K : Option Addr → Nat → Heap → Prop} (hK : ∀ A2 c2 h2, OM h0 h2 A2 (n + 1) c2 (ms ++ [x]) → Le h0 h2 → K A2 c2 h2) :
    ∃ xs : List Value, RdS (h.put g ⟨[sv x.name, .bool s, .slice A' x.ln c', .slice B x.lm d], 56, (0, 0)⟩) (some ⟨g, 0, none⟩) (1 * 4) xs ∧ (∀ y ∈ xs, Go.Vcg.one y = true) ∧
      (n + 1 ≤ c → ∃ (ad : Addr) (b : Blk), A = some ad ∧ ad.spot = none ∧ (h.put g ⟨[sv x.name, .bool s, .slice A' x.ln c', .slice B x.lm d], 56, (0, 0)⟩) ad.block = some b ∧ b.fz = (0, 0) ∧ ad.off + n * 4 + 1 * 4 ≤ b.cells.length ∧
        ∀ h9 : Heap, h9 = Heap.put (h.put g ⟨[sv x.name, .bool s, .slice A' x.ln c', .slice B x.lm d], 56, (0, 0)⟩) ad.block { b with cells := setSeg b.cells (ad.off + n * 4) xs } → K A c h9) ∧
      (c < n + 1 → ∃ olds : List Value, RdS (h.put g ⟨[sv x.name, .bool s, .slice A' x.ln c', .slice B x.lm d], 56, (0, 0)⟩) A (n * 4) olds ∧ (n + 1) * 72 ≤ 140737488355328 ∧
        ∀ (g1 cap : Nat) (h10 : Heap), (h.put g ⟨[sv x.name, .bool s, .slice A' x.ln c', .slice B x.lm d], 56, (0, 0)⟩) g1 = none → n + 1 ≤ cap → h10 = Heap.put (h.put g ⟨[sv x.name, .bool s, .slice A' x.ln c', .slice B x.lm d], 56, (0, 0)⟩) g1 ⟨olds ++ xs ++ repV [Value.string ByteArray.empty, Value.bool false, Value.slice none 0 0, Value.slice none 0 0] (cap - (n + 1)), 56, (0, 0)⟩ → K (some ⟨g1, 0, none⟩) cap h10) := by
  obtain ⟨a1, a2, a3⟩ := o
  have g0 : h0 g = none := l.free hg
  have hsz : ∀ y ∈ ms ++ [x], y.ln ≤ 64 ∧ y.lm ≤ 64 := fun y hy => by
    rcases List.mem_append.1 hy with q | q
    · exact a2 y q
    · rw [List.mem_singleton.1 q]; exact hz
  have hlen : (ms ++ [x]).length = n + 1 := by rw [List.length_append, a1]; rfl
  refine ⟨[sv x.name, .bool s, .slice A' x.ln c', .slice B x.lm d], ⟨rfl, fun _ => ⟨_, rfl, rfl, _, Heap.put_same _ _ _, rfl⟩⟩, ?_, ?_, ?_⟩
  · intro y hy
    simp only [List.mem_cons, List.not_mem_nil, or_false] at hy
    rcases hy with rfl | rfl | rfl | rfl <;> rfl
  · intro hcap
    rcases a3 with ⟨_, _, rfl⟩ | ⟨gk, cs, b0, rfl, b3, b4, b5, b6⟩
    · omega
    · have hgk : g ≠ gk := fun e => by rw [e, b3] at hg; cases hg
      refine ⟨_, _, rfl, rfl, by rw [Heap.put_ne _ _ (fun e => hgk e.symm)]; exact b3, rfl, by simp only; omega, ?_⟩
      rintro _ rfl
      refine hK _ _ _ ⟨hlen, hsz, Or.inr ⟨gk, _, b0, rfl, Heap.put_same _ _ _, ?_, hcap, ?_⟩⟩ ((l.put g0 _).put b0 _)
      · unfold setSeg
        rw [List.length_append, List.length_append, List.length_take, List.length_drop]
        simp only [List.length_cons, List.length_nil]
        omega
      · have := IsMs.snoc uq (rest := cs.drop (0 + n * 4 + 4)) b6 (by omega)
        unfold setSeg
        rw [show 4 * ms.length = 0 + n * 4 by omega] at this
        exact this
  · intro hcap
    have holds : ∃ olds : List Value, RdS (h.put g ⟨[sv x.name, .bool s, .slice A' x.ln c', .slice B x.lm d], 56, (0, 0)⟩) A (n * 4) olds ∧ IsMs h0 ms olds ∧ olds.length = 4 * ms.length := by
      rcases a3 with ⟨rfl, rfl, rfl⟩ | ⟨gk, cs, b0, rfl, b3, b4, b5, b6⟩
      · have : ms = [] := List.length_eq_zero_iff.1 a1
        subst this
        exact ⟨[], ⟨rfl, fun q => absurd q (by decide)⟩, trivial, rfl⟩
      · have hgk : g ≠ gk := fun e => by rw [e, b3] at hg; cases hg
        refine ⟨cs.take (4 * ms.length), ⟨by rw [List.length_take]; omega, fun _ => ⟨_, rfl, rfl, _, by rw [Heap.put_ne _ _ (fun e => hgk e.symm)]; exact b3, ?_⟩⟩, IsMs.take b6, by rw [List.length_take]; omega⟩
        simp only [List.drop_zero, List.length_take]
        congr 1
        omega
    obtain ⟨olds, hrd, hms, hol⟩ := holds
    refine ⟨olds, hrd, by omega, ?_⟩
    rintro g1 cap _ hg1 hcap1 rfl
    have hgg : g1 ≠ g := fun e => by rw [e, Heap.put_same] at hg1; cases hg1
    have hg1' : h g1 = none := by rw [Heap.put_ne _ _ hgg] at hg1; exact hg1
    have g01 : h0 g1 = none := l.free hg1'
    refine hK _ _ _ ⟨hlen, hsz, Or.inr ⟨g1, _, g01, rfl, Heap.put_same _ _ _, ?_, hcap1, ?_⟩⟩ ((l.put g0 _).put g01 _)
    · rw [List.length_append, List.length_append, hol, repV_len]
      simp only [List.length_cons, List.length_nil]
      omega
    · have := IsMs.snoc uq (rest := repV [Value.string ByteArray.empty, Value.bool false, Value.slice none 0 0, Value.slice none 0 0] (cap - (n + 1))) hms (by omega)
      rw [List.take_of_length_le (by omega)] at this
      exact this

theorem EvR.shape {o : Except Int Rat} {k : Nat} {v : Value} {h : Heap} (u : EvR o k v h) : ∃ s A n c B m d er, v = .tuple #[.agg #[.bool s, .slice A n c, .slice B m d], .int .i64 er] ∧
    ((∃ q, o = .ok q ∧ er = 0 ∧ NmQ h s A n c B m d q ∧ n ≤ k ∧ m ≤ k) ∨ (o = .error er ∧ s = false ∧ A = none ∧ n = 0 ∧ c = 0 ∧ B = none ∧ m = 0 ∧ d = 0)) := by
  cases o with
  | ok q =>
    obtain ⟨s, A, n, c, B, m, d, rfl, hN, a, b⟩ := u
    exact ⟨_, _, _, _, _, _, _, _, rfl, Or.inl ⟨q, rfl, rfl, hN, a, b⟩⟩
  | error e =>
    have : v = .tuple #[.agg #[.bool false, .slice none 0 0, .slice none 0 0], .int .i64 e] := u
    exact ⟨_, _, _, _, _, _, _, _, this, Or.inr ⟨rfl, rfl, rfl, rfl, rfl, rfl, rfl, rfl⟩⟩

end Go.Proofs.YtdpdaphholileaaGreatDoor

/-
  References: 02.Cmp, 03.Cmp; of chapter 17: whole, units, digit, Name, right, check, Check.
-/
namespace Go.Proofs.YtdpdaphholileaaGreatDoor
open Go Go.Vcg Go.RowKit Go.Sort
attribute [local irreducible] Br

theorem r2cmp_c {h : Heap} {s s2 : Bool} {A B : Option Addr} {n c m d : Nat} {z w : Int} (u : IsI h s A n c z) (v : IsI h s2 B m d w) (hn : n ≤ 1099511627776) (hm : m ≤ 1099511627776) :
    CallsU Tryz.prog 75 [.agg #[.bool s, .slice A n c], .agg #[.bool s2, .slice B m d]] h fun r h' => r = .int .i64 (cmpI z w) ∧ Le h h' := by
  apply ref02_Cmp_ok
  refine (r2norm_c u hn).mono ?_
  rintro _ h1 ⟨s1, A1, k1, c1, rfl, N1, hk1, hl1⟩
  refine ⟨_, _, _, _, rfl, hl1, (r2norm_c (v.mono hl1) hm).mono ?_⟩
  rintro _ h2 ⟨s2', A2, k2, c2, rfl, N2, hk2, hl2⟩
  have M1 := N1.mono hl2
  have e1 : s1 = decide (z < 0) := N1.2
  have e2 : s2' = decide (w < 0) := N2.2
  have l2 := hl1.trans hl2
  have K1 := r1cmp_c N2.1.is M1.1.is (by omega) (by omega)
  have K2 := r1cmp_c M1.1.is N2.1.is (by omega) (by omega)
  refine ⟨_, _, _, _, rfl, fun t h' => h2 = h' ∧ (t = true ↔ z < 0 ∧ ¬ w < 0), ?_, ?_⟩
  · rintro t _ ⟨rfl, ht⟩
    refine Br.mk (fun q => ?_) (fun q => ?_)
    · have := ht.1 q
      refine ⟨?_, l2⟩
      unfold cmpI
      rw [if_pos (by omega)]
    · have hn1 : ¬ (z < 0 ∧ ¬ w < 0) := fun q2 => by rw [ht.2 q2] at q; cases q
      refine ⟨fun t h' => h2 = h' ∧ (t = true ↔ ¬ z < 0 ∧ w < 0), ?_, ?_⟩
      · rintro t _ ⟨rfl, ht⟩
        refine Br.mk (fun q => ?_) (fun q => ?_)
        · have := ht.1 q
          refine ⟨?_, l2⟩
          unfold cmpI
          rw [if_neg (by omega), if_pos (by omega)]
        · have hn2 : ¬ (¬ z < 0 ∧ w < 0) := fun q2 => by rw [ht.2 q2] at q; cases q
          refine Br.mk (fun q3 => ?_) (fun q3 => ?_)
          · have hz : z < 0 := by rw [e1] at q3; exact of_decide_eq_true q3
            refine K1.mono ?_
            rintro _ _ ⟨rfl, rfl⟩
            refine ⟨_, rfl, ?_, l2⟩
            unfold cmpI
            have a1 : ((w.natAbs : Nat) : Int) = -w := by omega
            have a2 : ((z.natAbs : Nat) : Int) = -z := by omega
            rw [a1, a2]
            congr 1
            split <;> split <;> (try split) <;> (try split) <;> omega
          · have hz : ¬ z < 0 := by rw [e1] at q3; exact of_decide_eq_false q3
            refine K2.mono ?_
            rintro _ _ ⟨rfl, rfl⟩
            refine ⟨_, rfl, ?_, l2⟩
            unfold cmpI
            have a1 : ((w.natAbs : Nat) : Int) = w := by omega
            have a2 : ((z.natAbs : Nat) : Int) = z := by omega
            rw [a1, a2]
      · rw [e1, e2]
        refine Br.mk (fun q3 => ⟨rfl, ?_⟩) (fun q3 => ⟨rfl, ?_⟩)
        · have hz : ¬ z < 0 := by simpa using q3
          rw [decide_eq_true_eq]
          omega
        · have hz : z < 0 := by simpa using q3
          constructor
          · intro q; cases q
          · intro q; omega
  · rw [e1, e2]
    refine Br.mk (fun q3 => ⟨rfl, ?_⟩) (fun q3 => ⟨rfl, ?_⟩)
    · have hz : z < 0 := by simpa using q3
      rw [Bool.not_eq_true', decide_eq_false_iff_not]
      omega
    · have hz : ¬ z < 0 := by simpa using q3
      constructor
      · intro q; cases q
      · intro q; omega

theorem r3cmp_c {h : Heap} {s s2 : Bool} {A B C D : Option Addr} {n c m d n2 c2 m2 d2 : Nat} {q p : Rat} (u : IsQ h s A n c B m d q) (w : IsQ h s2 C n2 c2 D m2 d2 p) (hn : n ≤ 134217728) (hm : m ≤ 134217728) (hn2 : n2 ≤ 134217728) (hm2 : m2 ≤ 134217728) :
    CallsU Tryz.prog 47 [.agg #[.bool s, .slice A n c, .slice B m d], .agg #[.bool s2, .slice C n2 c2, .slice D m2 d2]] h fun r h' => r = .int .i64 (cmpQ q p) ∧ Le h h' := by
  apply ref03_Cmp_ok
  refine (r3norm_c u (by omega) (by omega)).mono ?_
  rintro _ h1 ⟨s1, A1, n1, c1, B1, m1, d1, rfl, N1, a1, b1, hl1⟩
  refine ⟨_, _, _, _, _, _, _, rfl, hl1, (r3norm_c (w.mono hl1) (by omega) (by omega)).mono ?_⟩
  rintro _ h2 ⟨s2', A2, n2', c2', B2, m2', d2', rfl, N2, a2, b2, hl2⟩
  have M1 := N1.mono hl2
  have pv : ∀ {B : Option Addr} {m d v : Nat} {h : Heap}, IsN h B m d v → IsI h false B m d (v : Int) := fun u => ⟨_, u, rfl⟩
  refine ⟨_, _, _, _, _, _, _, rfl, (r2mul_c M1.1.is (pv N2.2.is) (by omega) (by omega)).mono ?_⟩
  rintro _ h3 ⟨s3, A3, k3, c3, rfl, N3, hk3, hl3⟩
  refine ⟨_, _, _, _, rfl, hl3, (r2mul_c (N2.mono hl3).1.is (pv (M1.mono hl3).2.is) (by omega) (by omega)).mono ?_⟩
  rintro _ h4 ⟨s4, A4, k4, c4, rfl, N4, hk4, hl4⟩
  refine ⟨_, _, _, _, rfl, (r2cmp_c (N3.mono hl4).is N4.is (by omega) (by omega)).mono ?_⟩
  rintro _ h5 ⟨rfl, hl5⟩
  refine ⟨_, rfl, ?_, (((hl1.trans hl2).trans hl3).trans hl4).trans hl5⟩
  rw [cmpQ_mk q.den_nz p.den_nz, Rat.mkRat_self, Rat.mkRat_self]

theorem rDigit_c (x : UInt8) (h : Heap) : CallsU Tryz.prog 156 [.int .u8 x.toNat] h fun r h' => r = .bool (isDg x) ∧ h = h' := by
  apply ref17_digit_ok
  unfold isDg
  refine Br.mk (fun q => ⟨?_, rfl⟩) (fun q => ⟨?_, rfl⟩)
  · have := of_decide_eq_true q
    congr 1
    rw [Bool.eq_iff_iff, decide_eq_true_eq, decide_eq_true_eq]
    omega
  · have := of_decide_eq_false q
    rw [decide_eq_false (by omega)]

theorem rName_c (l : List UInt8) (h : Heap) : CallsU Tryz.prog 108 [sv l] h fun r h' => r = .bool (isNameV l) ∧ h = h' := by
  apply ref17_Name_ok
  unfold ref17_Name_vc
  have e0 : (⟨#[]⟩ : ByteArray).toList = [] := bytes_toList []
  have e1 : (⟨#[109, 105, 110]⟩ : ByteArray).toList = [109, 105, 110] := bytes_toList _
  have e2 : (⟨#[109, 97, 120]⟩ : ByteArray).toList = [109, 97, 120] := bytes_toList _
  rw [ba_size, bytes_toList, e0, e1, e2]
  refine ⟨fun t h' => h = h' ∧ (t = true → isNameV l = false) ∧ (t = false → l ≠ [] ∧ l.length ≤ 24 ∧ l ≠ [109, 105, 110] ∧ l ≠ [109, 97, 120] ∧ ∀ x, l[0]? = some x → isLow x = true), ?_, ?_⟩
  · rintro t _ ⟨rfl, ht, hf⟩
    refine Br.mk (fun q => ?_) (fun q => ?_)
    · rw [ht q]; exact ⟨rfl, rfl⟩
    · obtain ⟨b1, b2, b3, b4, b5⟩ := hf q
      have bad : ∀ i x, l[i]? = some x → nameCh i x = false → isNameV l = false := fun i x hx hn => by
        unfold isNameV
        rw [Bool.and_eq_false_iff]
        refine Or.inr ?_
        cases hh : (l.zipIdx.all fun p => nameCh p.2 p.1) with
        | false => rfl
        | true => rw [nameAll.1 hh i x hx] at hn; cases hn
      refine ⟨fun m i h' => ∃ k, k ≤ l.length ∧ m = l.length - k ∧ i = (k : Int) ∧ h = h' ∧ ∀ j x, j < k → l[j]? = some x → nameCh j x = true, ⟨l.length, 0, by omega, by omega, rfl, rfl, fun j x hj => by omega⟩, ?_⟩
      rintro m _ _ ⟨k, hk, rfl, rfl, rfl, hall⟩
      refine Br.mk (fun q2 => ?_) (fun q2 => ?_)
      · have hlt : k < l.length := by have := of_decide_eq_true q2; omega
        obtain ⟨x, hx⟩ : ∃ x, l[k]? = some x := ⟨_, List.getElem?_eq_getElem hlt⟩
        have hget : (⟨l.toArray⟩ : ByteArray)[(Int.toNat (k : Int) : Nat)]? = some x := by rw [Int.toNat_natCast, ba_get]; exact hx
        have go : nameCh k x = true → ∀ t34 : Int, t34 = IntKind.i64.wrap ((k : Int) + 1) → ∃ m_1, m_1 < l.length - k ∧ ∃ k', k' ≤ l.length ∧ m_1 = l.length - k' ∧ t34 = (k' : Int) ∧ h = h ∧ ∀ j x, j < k' → l[j]? = some x → nameCh j x = true := fun hn => by
          rintro _ rfl
          refine ⟨l.length - (k + 1), by omega, k + 1, by omega, rfl, wi (by omega) (by omega), rfl, fun j y hj hy => ?_⟩
          rcases Nat.lt_succ_iff_lt_or_eq.1 hj with q | q
          · exact hall j y q hy
          · subst q
            rw [hx] at hy
            cases hy
            exact hn
        have low0 : k = 0 → isLow x = true := fun e => by subst e; exact b5 x hx
        refine ⟨x, by omega, hget, (rDigit_c x h).mono ?_⟩
        rintro _ _ ⟨rfl, rfl⟩
        refine ⟨_, rfl, Br.mk (fun q3 => ?_) (fun q3 => ?_)⟩
        · have hd : isDg x = false := by simpa using q3
          refine ⟨x, by omega, hget, Br.mk (fun q4 => ?_) (fun q4 => ?_)⟩
          · have h95 : x.toNat ≠ 95 := by simp only [bne_iff_ne, ne_eq] at q4; omega
            refine ⟨x, by omega, hget, Br.mk (fun q5 => ?_) (fun q5 => ⟨x, by omega, hget, Br.mk (fun q6 => ?_) (fun q6 => ?_)⟩)⟩
            · have := of_decide_eq_true q5
              have hlow : isLow x = false := by unfold isLow; rw [decide_eq_false (by omega)]
              rw [bad k x hx (by unfold nameCh; rw [hlow, hd]; simp [h95])]
              exact ⟨rfl, rfl⟩
            · have := of_decide_eq_true q6
              have hlow : isLow x = false := by unfold isLow; rw [decide_eq_false (by omega)]
              rw [bad k x hx (by unfold nameCh; rw [hlow, hd]; simp [h95])]
              exact ⟨rfl, rfl⟩
            · have a := of_decide_eq_false q5
              have b := of_decide_eq_false q6
              have hlow : isLow x = true := by unfold isLow; rw [decide_eq_true (by omega)]
              exact go (by unfold nameCh; rw [hlow]; rfl)
          · have h95 : x.toNat = 95 := by
              have : (((x.toNat : Int) : Int) != 95) = false := q4
              simp only [bne_eq_false_iff_eq] at this
              omega
            by_cases hk0 : k = 0
            · exact go (by unfold nameCh; rw [low0 hk0]; rfl)
            · exact go (by unfold nameCh; simp [h95, hk0])
        · have hd : isDg x = true := by simpa using q3
          by_cases hk0 : k = 0
          · exact go (by unfold nameCh; rw [low0 hk0]; rfl)
          · exact go (by unfold nameCh; simp [hd, hk0])
      · have hk' : k = l.length := by have := of_decide_eq_false q2; omega
        subst hk'
        have : isNameV l = true := by
          unfold isNameV
          rw [Bool.and_eq_true]
          exact ⟨decide_eq_true ⟨b1, b2, b3, b4⟩, nameAll.2 fun i x hx => hall i x (List.getElem?_eq_some_iff.1 hx).1 hx⟩
        rw [this]
        exact ⟨rfl, rfl⟩
  · have bad : ¬ (l ≠ [] ∧ l.length ≤ 24 ∧ l ≠ [109, 105, 110] ∧ l ≠ [109, 97, 120]) → isNameV l = false := fun hn => by
      unfold isNameV
      rw [decide_eq_false hn]; rfl
    have bad0 : ∀ x, l[0]? = some x → isLow x = false → isNameV l = false := fun x hx hn => by
      unfold isNameV
      rw [Bool.and_eq_false_iff]
      refine Or.inr ?_
      cases hh : (l.zipIdx.all fun p => nameCh p.2 p.1) with
      | false => rfl
      | true =>
        have := nameAll.1 hh 0 x hx
        unfold nameCh at this
        rw [hn] at this
        simp at this
    refine Br.mk (fun q => ⟨rfl, fun _ => bad ?_, fun q => by cases q⟩) (fun q => Br.mk (fun q2 => ⟨rfl, fun _ => bad ?_, fun q => by cases q⟩) (fun q2 => Br.mk (fun q3 => ⟨rfl, fun _ => bad ?_, fun q => by cases q⟩) (fun q3 => Br.mk (fun q4 => ⟨rfl, fun _ => bad ?_, fun q => by cases q⟩) (fun q4 => ?_))))
    · have := beq_iff_eq.1 q
      intro hn
      exact hn.1 this
    · have := of_decide_eq_true q2
      intro hn; omega
    · have := beq_iff_eq.1 q3
      intro hn; exact hn.2.2.1 this
    · have := beq_iff_eq.1 q4
      intro hn; exact hn.2.2.2 this
    · have a1 := beq_eq_false_iff_ne.1 q
      have a2 := of_decide_eq_false q2
      have a3 := beq_eq_false_iff_ne.1 q3
      have a4 := beq_eq_false_iff_ne.1 q4
      obtain ⟨x, t, rfl⟩ := List.exists_cons_of_ne_nil a1
      have hget : (⟨(x :: t).toArray⟩ : ByteArray)[(0 : Nat)]? = some x := by rw [ba_get]; rfl
      refine ⟨x, by omega, hget, Br.mk (fun q5 => ⟨rfl, fun _ => bad0 x rfl ?_, fun q => by cases q⟩) (fun q5 => ⟨x, by omega, hget, rfl, fun q6 => bad0 x rfl ?_, fun q6 => ⟨a1, by omega, a3, a4, ?_⟩⟩)⟩
      · have := of_decide_eq_true q5
        unfold isLow
        rw [decide_eq_false (by omega)]
      · have := of_decide_eq_true q6
        unfold isLow
        rw [decide_eq_false (by omega)]
      · have b5 := of_decide_eq_false q5
        have b6 := of_decide_eq_false q6
        intro y hy
        simp at hy
        subst hy
        unfold isLow
        rw [decide_eq_true (by omega)]


end Go.Proofs.YtdpdaphholileaaGreatDoor

/-
  Contracts of the reference 01: small, Text, Digits.
-/
namespace Go.Proofs.YtdpdaphholileaaGreatDoor
open Go Go.Vcg
attribute [local irreducible] Br

end Go.Proofs.YtdpdaphholileaaGreatDoor

/-
  References: 02.Text; of chapter 17: rank, within, number, show, Print; the law FormulaPrints.
-/
namespace Go.Proofs.YtdpdaphholileaaGreatDoor
open Go Go.Vcg Go.RowKit Go.Sort
attribute [local irreducible] Br


theorem PrR.shape (o : Except Int (List UInt8)) : ∃ t er, PrR o = .tuple #[sv t, .int .i64 er] ∧ ((o = .ok t ∧ er = 0) ∨ (o = .error er ∧ t = [])) := by
  cases o with
  | ok t => exact ⟨t, 0, rfl, Or.inl ⟨rfl, rfl⟩⟩
  | error e => exact ⟨[], e, rfl, Or.inr ⟨rfl, rfl⟩⟩

end Go.Proofs.YtdpdaphholileaaGreatDoor

/-
  Plain: the parser's fuel.
-/
namespace Go.Proofs.YtdpdaphholileaaGreatDoor
open Go Go.Vcg Go.RowKit Go.Sort

theorem aft_le (r : List UInt8) : (aft r).length ≤ r.length := by
  have h1 := congrArg List.length (tk_split r)
  have h2 := skip_le r
  rw [List.length_append] at h1
  omega
theorem aft_lt {r : List UInt8} (h : tk r ≠ []) : (aft r).length < r.length := by
  have h1 := congrArg List.length (tk_split r)
  have h2 := skip_le r
  rw [List.length_append] at h1
  have : 0 < (tk r).length := List.length_pos_iff.2 h
  omega

/-- What is left is no longer than what was there. -/
theorem p_le : ∀ n : Nat, (∀ r x r', pSum n r = .ok (x, r') → r'.length ≤ r.length) ∧ (∀ y r x r', pSumL n y r = .ok (x, r') → r'.length ≤ r.length) ∧ (∀ r x r', pProd n r = .ok (x, r') → r'.length ≤ r.length) ∧ (∀ y r x r', pProdL n y r = .ok (x, r') → r'.length ≤ r.length) ∧ (∀ r x r', pFac n r = .ok (x, r') → r'.length ≤ r.length) ∧ (∀ k r x r', pCall n k r = .ok (x, r') → r'.length ≤ r.length) ∧ (∀ k es r x r', pCallL n k es r = .ok (x, r') → r'.length ≤ r.length)
  | 0 => by
    refine ⟨?_, ?_, ?_, ?_, ?_, ?_, ?_⟩ <;> intros <;> rename_i h <;> first | (rw [pSum] at h; cases h) | (rw [pSumL] at h; cases h) | (rw [pProd] at h; cases h) | (rw [pProdL] at h; cases h) | (rw [pFac] at h; cases h) | (rw [pCall] at h; cases h) | (rw [pCallL] at h; cases h)
  | n + 1 => by
    obtain ⟨iS, iSL, iP, iPL, iF, iC, iCL⟩ := p_le n
    refine ⟨?_, ?_, ?_, ?_, ?_, ?_, ?_⟩
    · intro r x r' h
      rw [pSum] at h
      split at h
      · cases h
      · rename_i y r1 h1
        exact Nat.le_trans (iSL _ _ _ _ h) (iP _ _ _ h1)
    · intro y r x r' h
      rw [pSumL] at h
      have ha := aft_le r
      split at h
      · split at h
        · cases h
        · rename_i z r1 h1
          exact Nat.le_trans (iSL _ _ _ _ h) (Nat.le_trans (iP _ _ _ h1) ha)
      · split at h
        · split at h
          · cases h
          · rename_i z r1 h1
            exact Nat.le_trans (iSL _ _ _ _ h) (Nat.le_trans (iP _ _ _ h1) ha)
        · cases h
          exact skip_le r
    · intro r x r' h
      rw [pProd] at h
      split at h
      · cases h
      · rename_i y r1 h1
        exact Nat.le_trans (iPL _ _ _ _ h) (iF _ _ _ h1)
    · intro y r x r' h
      rw [pProdL] at h
      have ha := aft_le r
      split at h
      · split at h
        · cases h
        · rename_i z r1 h1
          exact Nat.le_trans (iPL _ _ _ _ h) (Nat.le_trans (iF _ _ _ h1) ha)
      · split at h
        · split at h
          · cases h
          · rename_i z r1 h1
            exact Nat.le_trans (iPL _ _ _ _ h) (Nat.le_trans (iF _ _ _ h1) ha)
        · cases h
          exact skip_le r
    · intro r x r' h
      rw [pFac] at h
      have ha := aft_le r
      split at h
      · cases h
      split at h
      · split at h
        · cases h
        · rename_i z r1 h1
          cases h
          exact Nat.le_trans (iF _ _ _ h1) ha
      split at h
      · split at h
        · cases h
        · rename_i z r1 h1
          split at h
          · cases h
            exact Nat.le_trans (aft_le r1) (Nat.le_trans (iS _ _ _ h1) ha)
          · cases h
      split at h
      · exact Nat.le_trans (iC _ _ _ _ h) ha
      split at h
      · exact Nat.le_trans (iC _ _ _ _ h) ha
      split at h
      · cases h; exact ha
      · split at h
        · cases h; exact ha
        · cases h
    · intro k r x r' h
      rw [pCall] at h
      split at h
      · exact Nat.le_trans (iCL _ _ _ _ _ h) (aft_le r)
      · cases h
    · intro k es r x r' h
      rw [pCallL] at h
      split at h
      · cases h
      · rename_i z r1 h1
        have hr1 := iS _ _ _ h1
        have ha := aft_le r1
        split at h
        · cases h; omega
        split at h
        · cases h
        split at h
        · cases h
        split at h
        · cases h
        · exact Nat.le_trans (iCL _ _ _ _ _ h) (by omega)

theorem exp0 {t r : List UInt8} (ht : t ≠ []) (h : expV t r = 0) : tk r ≠ [] := by
  unfold expV at h
  split at h
  · rename_i e; rw [e]; exact ht
  · split at h <;> omega
theorem exp99 (t r : List UInt8) : expV t r ≠ 99 := by
  unfold expV
  split
  · decide
  · split <;> decide

/-- There is fuel enough. -/
theorem p_fuel : ∀ n : Nat, (∀ r, 8 * r.length + 5 ≤ n → pSum n r ≠ .error 99) ∧ (∀ y r, 8 * r.length + 4 ≤ n → pSumL n y r ≠ .error 99) ∧ (∀ r, 8 * r.length + 3 ≤ n → pProd n r ≠ .error 99) ∧ (∀ y r, 8 * r.length + 2 ≤ n → pProdL n y r ≠ .error 99) ∧ (∀ r, 8 * r.length + 1 ≤ n → pFac n r ≠ .error 99) ∧ (∀ k r, 8 * r.length + 7 ≤ n → pCall n k r ≠ .error 99) ∧ (∀ k es r, 8 * r.length + 6 ≤ n → pCallL n k es r ≠ .error 99)
  | 0 => by
    refine ⟨?_, ?_, ?_, ?_, ?_, ?_, ?_⟩ <;> intros <;> omega
  | n + 1 => by
    obtain ⟨iS, iSL, iP, iPL, iF, iC, iCL⟩ := p_fuel n
    obtain ⟨lS, _, lP, _, lF, _, _⟩ := p_le n
    refine ⟨?_, ?_, ?_, ?_, ?_, ?_, ?_⟩
    · intro r hn h
      rw [pSum] at h
      split at h
      · rename_i e h1
        cases h
        exact iP r (by omega) h1
      · rename_i y r1 h1
        have := lP _ _ _ h1
        exact iSL y r1 (by omega) h
    · intro y r hn h
      rw [pSumL] at h
      split at h
      · rename_i ht
        have ha := aft_lt (r := r) (by rw [ht]; simp)
        split at h
        · rename_i e h1; cases h; exact iP _ (by omega) h1
        · rename_i z r1 h1
          have := lP _ _ _ h1
          exact iSL _ r1 (by omega) h
      · split at h
        · rename_i ht
          have ha := aft_lt (r := r) (by rw [ht]; simp)
          split at h
          · rename_i e h1; cases h; exact iP _ (by omega) h1
          · rename_i z r1 h1
            have := lP _ _ _ h1
            exact iSL _ r1 (by omega) h
        · cases h
    · intro r hn h
      rw [pProd] at h
      split at h
      · rename_i e h1
        cases h
        exact iF r (by omega) h1
      · rename_i y r1 h1
        have := lF _ _ _ h1
        exact iPL y r1 (by omega) h
    · intro y r hn h
      rw [pProdL] at h
      split at h
      · rename_i ht
        have ha := aft_lt (r := r) (by rw [ht]; simp)
        split at h
        · rename_i e h1; cases h; exact iF _ (by omega) h1
        · rename_i z r1 h1
          have := lF _ _ _ h1
          exact iPL _ r1 (by omega) h
      · split at h
        · rename_i ht
          have ha := aft_lt (r := r) (by rw [ht]; simp)
          split at h
          · rename_i e h1; cases h; exact iF _ (by omega) h1
          · rename_i z r1 h1
            have := lF _ _ _ h1
            exact iPL _ r1 (by omega) h
        · cases h
    · intro r hn h
      rw [pFac] at h
      split at h
      · cases h
      rename_i h0
      have ha := aft_lt h0
      split at h
      · split at h
        · rename_i e h1; cases h; exact iF _ (by omega) h1
        · cases h
      split at h
      · split at h
        · rename_i e h1; cases h; exact iS _ (by omega) h1
        · split at h
          · cases h
          · exact exp99 _ _ (Except.error.inj h)
      split at h
      · exact iC _ _ (by omega) h
      split at h
      · exact iC _ _ (by omega) h
      split at h
      · cases h
      · split at h
        · cases h
        · cases h
    · intro k r hn h
      rw [pCall] at h
      split at h
      · rename_i he
        have ha := aft_lt (exp0 (by simp) he)
        exact iCL _ _ _ (by omega) h
      · exact exp99 _ _ (Except.error.inj h)
    · intro k es r hn h
      rw [pCallL] at h
      split at h
      · rename_i e h1; cases h; exact iS _ (by omega) h1
      · rename_i z r1 h1
        have hr1 := lS _ _ _ h1
        split at h
        · cases h
        split at h
        · cases h
        rename_i ht
        have ha := aft_lt ht
        split at h
        · cases h
        split at h
        · cases h
        · exact iCL _ _ _ (by omega) h

theorem fuel400 {s : List UInt8} (h : s.length ≤ 400) : pSum 4000 s ≠ .error 99 := (p_fuel 4000).1 s (by omega)
end Go.Proofs.YtdpdaphholileaaGreatDoor

/-
  Plain: the tokens of a formula, and the parser over tokens.
-/
namespace Go.Proofs.YtdpdaphholileaaGreatDoor
open Go Go.Vcg Go.RowKit Go.Sort

/-- The tokens of a text. -/
def tks (r : List UInt8) : List (List UInt8) :=
  if _h : tk r = [] then [] else tk r :: tks (aft r)
 termination_by r.length
 decreasing_by exact aft_lt _h

theorem tks_nil {r : List UInt8} (h : tk r = []) : tks r = [] := by rw [tks, dif_pos h]
theorem tks_cons {r : List UInt8} (h : tk r ≠ []) : tks r = tk r :: tks (aft r) := by rw [tks, dif_neg h]

theorem tokOf_nil {r : List UInt8} (h : tokOf r = []) : r = [] := by
  unfold tokOf at h
  split at h
  · cases r with
    | nil => rfl
    | cons x r => simp at h
  · rename_i q; exact absurd h q
theorem tk_nil {r : List UInt8} (h : tk r = []) : skipS r = [] := tokOf_nil h
theorem aft_nil {r : List UInt8} (h : tk r = []) : aft r = [] := by
  unfold aft
  rw [tk_nil h]
  simp
theorem tk_empty : tk [] = [] := rfl
theorem tks_empty : tks [] = [] := tks_nil tk_empty

abbrev hdT (ts : List (List UInt8)) : List UInt8 := ts.headD []

theorem hd_tks (r : List UInt8) : hdT (tks r) = tk r := by
  by_cases h : tk r = []
  · rw [tks_nil h, h]; rfl
  · rw [tks_cons h]; rfl
theorem tl_tks (r : List UInt8) : (tks r).tail = tks (aft r) := by
  by_cases h : tk r = []
  · rw [tks_nil h, aft_nil h, tks_empty]; rfl
  · rw [tks_cons h]; rfl
theorem tk_skip (r : List UInt8) : tk (skipS r) = tk r := by unfold tk; rw [skip_skip]
theorem aft_skip (r : List UInt8) : aft (skipS r) = aft r := by unfold aft; rw [tk_skip, skip_skip]
theorem tks_skip (r : List UInt8) : tks (skipS r) = tks r := by
  by_cases h : tk r = []
  · rw [tks_nil h, tks_nil (by rw [tk_skip]; exact h)]
  · rw [tks_cons h, tks_cons (by rw [tk_skip]; exact h), tk_skip, aft_skip]

def expT (t : List UInt8) (ts : List (List UInt8)) : Int := if hdT ts = t then 0 else if hdT ts = [] then 4 else 2
theorem exp_tks (t r : List UInt8) : expT t (tks r) = expV t r := by unfold expT expV; rw [hd_tks]

mutual
/-- The parser over tokens. -/
def qSum : Nat → List (List UInt8) → Except Int (Ex × List (List UInt8))
  | 0, _ => .error 99
  | n + 1, r => match qProd n r with
    | .error e => .error e
    | .ok (x, r') => qSumL n x r'
def qSumL : Nat → Ex → List (List UInt8) → Except Int (Ex × List (List UInt8))
  | 0, _, _ => .error 99
  | n + 1, x, r => if hdT r = [43] then (match qProd n r.tail with
      | .error e => .error e
      | .ok (y, r') => qSumL n (op2 3 x y) r')
    else if hdT r = [45] then (match qProd n r.tail with
      | .error e => .error e
      | .ok (y, r') => qSumL n (op2 4 x y) r')
    else .ok (x, r)
def qProd : Nat → List (List UInt8) → Except Int (Ex × List (List UInt8))
  | 0, _ => .error 99
  | n + 1, r => match qFac n r with
    | .error e => .error e
    | .ok (x, r') => qProdL n x r'
def qProdL : Nat → Ex → List (List UInt8) → Except Int (Ex × List (List UInt8))
  | 0, _, _ => .error 99
  | n + 1, x, r => if hdT r = [42] then (match qFac n r.tail with
      | .error e => .error e
      | .ok (y, r') => qProdL n (op2 5 x y) r')
    else if hdT r = [47] then (match qFac n r.tail with
      | .error e => .error e
      | .ok (y, r') => qProdL n (op2 6 x y) r')
    else .ok (x, r)
def qFac : Nat → List (List UInt8) → Except Int (Ex × List (List UInt8))
  | 0, _ => .error 99
  | n + 1, r =>
    if hdT r = [] then .error 4
    else if hdT r = [45] then (match qFac n r.tail with
      | .error e => .error e
      | .ok (x, r') => .ok (.mk 7 0 0 0 [] [x], r'))
    else if hdT r = [40] then (match qSum n r.tail with
      | .error e => .error e
      | .ok (x, r') => if expT [41] r' = 0 then .ok (x, r'.tail) else .error (expT [41] r'))
    else if hdT r = [109, 105, 110] then qCall n 8 r.tail
    else if hdT r = [109, 97, 120] then qCall n 9 r.tail
    else match numberV (hdT r) with
      | some q => .ok (.mk 1 q (lmb q.num.natAbs) (lmb q.den) [] [], r.tail)
      | none => if isNameV (hdT r) then .ok (.mk 2 0 0 0 (hdT r) [], r.tail) else .error 2
def qCall : Nat → Int → List (List UInt8) → Except Int (Ex × List (List UInt8))
  | 0, _, _ => .error 99
  | n + 1, k, r => if expT [40] r = 0 then qCallL n k [] r.tail else .error (expT [40] r)
def qCallL : Nat → Int → List Ex → List (List UInt8) → Except Int (Ex × List (List UInt8))
  | 0, _, _, _ => .error 99
  | n + 1, k, es, r => match qSum n r with
    | .error e => .error e
    | .ok (x, r') =>
      if hdT r' = [41] then .ok (.mk k 0 0 0 [] (es ++ [x]), r'.tail)
      else if hdT r' = [] then .error 4
      else if hdT r' ≠ [44] then .error 2
      else if es.length + 1 = 8 then .error 2
      else qCallL n k (es ++ [x]) r'.tail
end

def mapT : Except Int (Ex × List UInt8) → Except Int (Ex × List (List UInt8))
  | .error e => .error e
  | .ok (x, r) => .ok (x, tks r)

theorem p_tok : ∀ n : Nat, (∀ r, qSum n (tks r) = mapT (pSum n r)) ∧ (∀ y r, qSumL n y (tks r) = mapT (pSumL n y r)) ∧ (∀ r, qProd n (tks r) = mapT (pProd n r)) ∧ (∀ y r, qProdL n y (tks r) = mapT (pProdL n y r)) ∧ (∀ r, qFac n (tks r) = mapT (pFac n r)) ∧ (∀ k r, qCall n k (tks r) = mapT (pCall n k r)) ∧ (∀ k es r, qCallL n k es (tks r) = mapT (pCallL n k es r))
  | 0 => by
    refine ⟨?_, ?_, ?_, ?_, ?_, ?_, ?_⟩ <;> intros
    · rw [qSum, pSum]; rfl
    · rw [qSumL, pSumL]; rfl
    · rw [qProd, pProd]; rfl
    · rw [qProdL, pProdL]; rfl
    · rw [qFac, pFac]; rfl
    · rw [qCall, pCall]; rfl
    · rw [qCallL, pCallL]; rfl
  | n + 1 => by
    obtain ⟨iS, iSL, iP, iPL, iF, iC, iCL⟩ := p_tok n
    refine ⟨?_, ?_, ?_, ?_, ?_, ?_, ?_⟩
    · intro r
      rw [qSum, pSum, iP]
      cases h : pProd n r with
      | error e => rfl
      | ok p => exact iSL _ _
    · intro y r
      rw [qSumL, pSumL, hd_tks, tl_tks, iP]
      split
      · cases h : pProd n (aft r) with
        | error e => rfl
        | ok p => exact iSL _ _
      · split
        · cases h : pProd n (aft r) with
          | error e => rfl
          | ok p => exact iSL _ _
        · simp only [mapT, tks_skip]
    · intro r
      rw [qProd, pProd, iF]
      cases h : pFac n r with
      | error e => rfl
      | ok p => exact iPL _ _
    · intro y r
      rw [qProdL, pProdL, hd_tks, tl_tks, iF]
      split
      · cases h : pFac n (aft r) with
        | error e => rfl
        | ok p => exact iPL _ _
      · split
        · cases h : pFac n (aft r) with
          | error e => rfl
          | ok p => exact iPL _ _
        · simp only [mapT, tks_skip]
    · intro r
      rw [qFac, pFac, hd_tks, tl_tks, iF, iS, iC, iC]
      split
      · rfl
      split
      · cases h : pFac n (aft r) with
        | error e => rfl
        | ok p => rfl
      split
      · cases h : pSum n (aft r) with
        | error e => rfl
        | ok p =>
          obtain ⟨x, r'⟩ := p
          simp only [mapT, exp_tks]
          split
          · simp only [tl_tks]
          · rfl
      split
      · rfl
      split
      · rfl
      cases hn : numberV (tk r) with
      | some q => rfl
      | none =>
        simp only
        split <;> rfl
    · intro k r
      rw [qCall, pCall, exp_tks, tl_tks]
      split
      · exact iCL _ _ _
      · rfl
    · intro k es r
      rw [qCallL, pCallL, iS]
      cases h : pSum n r with
      | error e => rfl
      | ok p =>
        obtain ⟨x, r'⟩ := p
        simp only [mapT, hd_tks, tl_tks]
        split
        · rfl
        split
        · rfl
        split
        · rfl
        split
        · rfl
        · exact iCL _ _ _

end Go.Proofs.YtdpdaphholileaaGreatDoor

/-
  Plain: the tokens of a printed formula, with any number of spaces in place of each.
-/
namespace Go.Proofs.YtdpdaphholileaaGreatDoor
open Go Go.Vcg Go.RowKit Go.Sort

/-- What may follow a word: nothing, or a byte that ends words. -/
def Brk (r : List UInt8) : Prop := ∀ x, r.head? = some x → nd x = false

theorem skip_not {x : UInt8} {r : List UInt8} (h : x ≠ 32) : skipS (x :: r) = x :: r := by
  unfold skipS
  rw [List.dropWhile_cons, if_neg (by simpa using h)]
theorem skip_sp (r : List UInt8) : skipS (32 :: r) = skipS r := by
  unfold skipS
  rw [List.dropWhile_cons, if_pos (by decide)]

theorem tw_word {w r : List UInt8} (hw : ∀ x ∈ w, nd x = true) (hr : Brk r) : (w ++ r).takeWhile nd = w := by
  induction w with
  | nil =>
    cases r with
    | nil => rfl
    | cons x r => rw [List.nil_append, List.takeWhile_cons, if_neg (by rw [hr x rfl]; decide)]
  | cons y w ih =>
    rw [List.cons_append, List.takeWhile_cons, if_pos (hw y (by simp)), ih fun x hx => hw x (List.mem_cons_of_mem _ hx)]

theorem nd_32 {x : UInt8} (h : nd x = true) : x ≠ 32 := fun e => by subst e; exact absurd h (by decide)

/-- A word, then what follows it. -/
theorem tks_word {w r : List UInt8} (h0 : w ≠ []) (hw : ∀ x ∈ w, nd x = true) (hr : Brk r) : tks (w ++ r) = w :: tks r := by
  obtain ⟨x, w', rfl⟩ : ∃ x w', w = x :: w' := by
    cases w with
    | nil => exact absurd rfl h0
    | cons x w' => exact ⟨x, w', rfl⟩
  have hs : skipS (x :: w' ++ r) = x :: w' ++ r := by rw [List.cons_append]; exact skip_not (nd_32 (hw x (by simp)))
  have ht : tk (x :: w' ++ r) = x :: w' := by
    unfold tk tokOf
    rw [hs, tw_word hw hr, if_neg (by simp)]
  have ha : aft (x :: w' ++ r) = r := by
    unfold aft
    rw [hs, ht, List.drop_left]
  rw [tks_cons (by rw [ht]; simp), ht, ha]

/-- A sign. -/
theorem tks_sign {x : UInt8} {r : List UInt8} (h : nd x = false) (h2 : x ≠ 32) : tks (x :: r) = [x] :: tks r := by
  have e0 : (x :: r).takeWhile nd = [] := by rw [List.takeWhile_cons, if_neg (by rw [h]; decide)]
  have ht : tk (x :: r) = [x] := by
    unfold tk tokOf
    rw [skip_not h2, e0, if_pos rfl]
    rfl
  have ha : aft (x :: r) = r := by
    unfold aft
    rw [skip_not h2, ht]
    rfl
  rw [tks_cons (by rw [ht]; simp), ht, ha]

theorem tks_sp (r : List UInt8) : tks (32 :: r) = tks r := by rw [← tks_skip, skip_sp, tks_skip]
/-- Each space in another way. -/
def sub (sp s : List UInt8) : List UInt8 := s.flatMap fun x => if x = 32 then sp else [x]

def parT (k req : Int) (t : List (List UInt8)) : List (List UInt8) := if clo k < req then [40] :: (t ++ [[41]]) else t

mutual
/-- The tokens of a printed formula. -/
def tkE : Ex → List (List UInt8)
  | .mk k q _ _ nm kids => if k = 1 then [numTx ((shV q).getD 0)] else if k = 2 then [nm]
    else if k = 3 then tkO 0 0 kids ++ [43] :: tkO 1 1 kids
    else if k = 4 then tkO 0 0 kids ++ [45] :: tkO 1 1 kids
    else if k = 5 then tkO 0 1 kids ++ [42] :: tkO 1 2 kids
    else if k = 6 then tkO 0 1 kids ++ [47] :: tkO 1 2 kids
    else if k = 7 then [45] :: tkO 0 2 kids
    else (if k = 9 then [109, 97, 120] else [109, 105, 110]) :: [40] :: (tkJ kids ++ [[41]])
def tkO (i : Nat) (req : Int) : List Ex → List (List UInt8)
  | [] => []
  | .mk k q n m nm kids :: es => match i with
    | 0 => parT k req (tkE (.mk k q n m nm kids))
    | i + 1 => tkO i req es
/-- The operands of min and max. -/
def tkJ : List Ex → List (List UInt8)
  | [] => []
  | e :: es => match es with
    | [] => tkE e
    | e' :: es' => tkE e ++ [44] :: tkJ (e' :: es')
end

theorem isDg_nd {x : UInt8} (h : isDg x = true) : nd x = true := by
  have h1 := isDg_iff.1 h
  unfold nd
  rw [Bool.not_eq_true', List.contains_eq_mem, decide_eq_false_iff_not]
  intro hm
  simp only [List.mem_cons, List.not_mem_nil, or_false] at hm
  rcases hm with e | e | e | e | e | e | e | e <;> subst e <;> revert h1 <;> decide

theorem nameCh_nd {i : Nat} {x : UInt8} (h : nameCh i x = true) : nd x = true := by
  unfold nameCh isLow at h
  simp only [Bool.or_eq_true, Bool.and_eq_true, decide_eq_true_eq] at h
  rcases h with h | ⟨_, h | h⟩
  · unfold nd
    rw [Bool.not_eq_true', List.contains_eq_mem, decide_eq_false_iff_not]
    intro hm
    simp only [List.mem_cons, List.not_mem_nil, or_false] at hm
    rcases hm with e | e | e | e | e | e | e | e <;> subst e <;> revert h <;> decide
  · unfold nd
    rw [Bool.not_eq_true', List.contains_eq_mem, decide_eq_false_iff_not]
    intro hm
    simp only [List.mem_cons, List.not_mem_nil, or_false] at hm
    rcases hm with e | e | e | e | e | e | e | e <;> subst e <;> revert h <;> decide
  · exact isDg_nd h

theorem isName_nd {l : List UInt8} (h : isNameV l = true) : l ≠ [] ∧ ∀ x ∈ l, nd x = true := by
  unfold isNameV at h
  rw [Bool.and_eq_true, decide_eq_true_eq] at h
  refine ⟨h.1.1, fun x hx => ?_⟩
  obtain ⟨i, hi⟩ := List.getElem?_of_mem hx
  exact nameCh_nd (nameAll.1 h.2 i x hi)

mutual
/-- All nodes are right. -/
def okE : Ex → Prop
  | .mk k q n m nm kids => rightV (.mk k q n m nm kids) = true ∧ okL kids
def okL : List Ex → Prop
  | [] => True
  | e :: es => okE e ∧ okL es
end



end Go.Proofs.YtdpdaphholileaaGreatDoor

/-
  Plain: the parser reads a printed formula as the tree.
-/
namespace Go.Proofs.YtdpdaphholileaaGreatDoor
open Go Go.Vcg Go.RowKit Go.Sort

mutual
/-- The tree as the parser makes it. -/
def canE : Ex → Ex
  | .mk k q _ _ nm kids => if k = 1 then .mk 1 q (lmb q.num.natAbs) (lmb q.den) [] [] else if k = 2 then .mk 2 0 0 0 nm [] else .mk k 0 0 0 [] (canL kids)
def canL : List Ex → List Ex
  | [] => []
  | e :: es => canE e :: canL es
end


/-- What a parser with fuel answers in the end. -/
def Ev {α : Type} (F : Nat → α) (X : α) : Prop := ∃ N, ∀ n, N ≤ n → F n = X

theorem Ev.step {α β : Type} {F : Nat → α} {G : Nat → β} {X : α} {Y : β} (a : Ev F X) (h : ∀ n, F n = X → G (n + 1) = Y) : Ev G Y := by
  obtain ⟨N, hN⟩ := a
  refine ⟨N + 1, fun n hn => ?_⟩
  obtain ⟨k, rfl⟩ : ∃ k, n = k + 1 := ⟨n - 1, by omega⟩
  exact h k (hN k (by omega))
theorem Ev.one {α : Type} {G : Nat → α} {Y : α} (h : ∀ n, G (n + 1) = Y) : Ev G Y := by
  refine ⟨1, fun n hn => ?_⟩
  obtain ⟨k, rfl⟩ : ∃ k, n = k + 1 := ⟨n - 1, by omega⟩
  exact h k

abbrev RT := Except Int (Ex × List (List UInt8))

/-- What is claimed of a tree. -/
structure RdOk (e : Ex) : Prop where
  fac : clo e.kind = 2 → ∀ ts, Ev (fun n => qFac n (tkE e ++ ts)) (.ok (canE e, ts) : RT)
  prod : 1 ≤ clo e.kind → ∀ (ts : List (List UInt8)) (X : RT), Ev (fun n => qProdL n (canE e) ts) X → Ev (fun n => qProd n (tkE e ++ ts)) X
  sum : ∀ (ts : List (List UInt8)) (X : RT), hdT ts ≠ [42] → hdT ts ≠ [47] → Ev (fun n => qSumL n (canE e) ts) X → Ev (fun n => qSum n (tkE e ++ ts)) X


end Go.Proofs.YtdpdaphholileaaGreatDoor

/-
  Contracts: the reference's Same; the law FormulaRoundTrip.
-/
namespace Go.Proofs.YtdpdaphholileaaGreatDoor
open Go Go.Vcg Go.RowKit Go.Sort
attribute [local irreducible] Br

mutual
/-- Equal trees, whatever their limbs. -/
def SameE : Ex → Ex → Prop
  | .mk k q _ _ nm kids, f => k = f.kind ∧ q = f.val ∧ nm = f.name ∧ SameL kids f.kids
def SameL : List Ex → List Ex → Prop
  | [], fs => fs = []
  | e :: es, fs => ∃ f fs', fs = f :: fs' ∧ SameE e f ∧ SameL es fs'
end

theorem SameL.len : ∀ {es fs : List Ex}, SameL es fs → es.length = fs.length
  | [], fs, h => by rw [SameL] at h; subst h; rfl
  | e :: es, fs, h => by
    rw [SameL] at h
    obtain ⟨f, fs', rfl, _, h2⟩ := h
    rw [List.length_cons, List.length_cons, h2.len]

theorem SameL.get : ∀ {es fs : List Ex} {i : Nat} {e f : Ex}, SameL es fs → es[i]? = some e → fs[i]? = some f → SameE e f
  | [], fs, i, e, f, _, he, _ => by simp at he
  | x :: es, fs, i, e, f, h, he, hf => by
    rw [SameL] at h
    obtain ⟨y, fs', rfl, h1, h2⟩ := h
    cases i with
    | zero => simp at he hf; subst he hf; exact h1
    | succ i => exact h2.get (i := i) (by simpa using he) (by simpa using hf)

mutual
theorem SameE.refl : ∀ e : Ex, SameE e e
  | .mk k q n m nm kids => by rw [SameE]; exact ⟨rfl, rfl, rfl, SameL.refl kids⟩
theorem SameL.refl : ∀ es : List Ex, SameL es es
  | [] => by rw [SameL]
  | e :: es => by rw [SameL]; exact ⟨e, es, rfl, SameE.refl e, SameL.refl es⟩
end


/-- What is claimed of a tree. -/
def SmOk (e : Ex) : Prop := ∀ {f : Ex} {h : Heap} {vs ws : List Value}, IsE h e vs → IsE h f ws → Szs e → Szs f → SameE e f →
  CallsU Tryz.prog 20 [.agg vs.toArray, .agg ws.toArray] h fun r h' => r = .bool true ∧ Le h h'

theorem rSame_node {k : Int} {q0 : Rat} {n m : Nat} {nm : List UInt8} {kids : List Ex} (ih : evAll SmOk kids) : SmOk (.mk k q0 n m nm kids) := by
  intro f h vs ws u w z y hs
  have uo := u.open
  have wo := w.open
  obtain ⟨s, A, c, B, d, K, kc, rfl, uq, hc, hk⟩ := uo
  obtain ⟨s2, A2, c2, B2, d2, K2, kc2, rfl, wq, hc2, hk2⟩ := wo
  obtain ⟨z1, z2, z3, z4, z5⟩ := z.open
  obtain ⟨y1, y2, y3, y4, y5⟩ := y.open
  rw [SameE] at hs
  obtain ⟨e1, e2, e3, e4⟩ := hs
  have hlen := e4.len
  simp only [Ex.kids, Ex.ln, Ex.lm, Ex.val, Ex.name] at uq hc hk z1 z2 z3 z4 z5
  apply ref17_Same_ok
  unfold ref17_Same_vc
  have hl1 : (Ex.mk k q0 n m nm kids).kids.length = kids.length := rfl
  rw [hl1, bytes_toList, bytes_toList]
  refine ⟨fun t h' => t = false ∧ Le h h', ?_, Br.mk (fun q => ?_) (fun q => Br.mk (fun q2 => ?_) (fun q2 => ?_))⟩
  · rintro _ h1 ⟨rfl, hle1⟩
    refine Br.mk (fun q => by cases q) (fun _ => ?_)
    refine ⟨fun mm i h' => ∃ j, j ≤ kids.length ∧ mm = kids.length - j ∧ i = (j : Int) ∧ Le h h', ⟨kids.length, 0, by omega, by omega, rfl, hle1⟩, ?_⟩
    rintro mm _ h2 ⟨j, hj, rfl, rfl, hle2⟩
    refine Br.mk (fun q1 => ?_) (fun q1 => ⟨rfl, hle2⟩)
    have hlt : j < kids.length := by have := of_decide_eq_true q1; omega
    obtain ⟨x, hx⟩ : ∃ x, kids[j]? = some x := ⟨_, List.getElem?_eq_getElem hlt⟩
    obtain ⟨x', hx'⟩ : ∃ x', f.kids[j]? = some x' := ⟨_, List.getElem?_eq_getElem (by omega)⟩
    obtain ⟨ad, vs', eA, hld, ux⟩ := kid_ld (e := .mk k q0 n m nm kids) hk hx
    obtain ⟨ad', ws', eA', hld', wx⟩ := kid_ld hk2 hx'
    have ux' := ux
    have wx' := wx
    obtain ⟨sx, Ax, cx, Bx, dx, Kx, kcx, rfl, _, _, _⟩ := ux'.open
    obtain ⟨sy, Ay, cy, By, dy, Ky, kcy, rfl, _, _, _⟩ := wx'.open
    refine ⟨ad, eA, by omega, by omega, _, _, _, _, _, _, _, _, _, _, _, _, by rw [Int.toNat_natCast]; exact LdN.mono hld hle2, ad', eA', by omega, by omega, _, _, _, _, _, _, _, _, _, _, _, _, by rw [Int.toNat_natCast]; exact LdN.mono hld' hle2, ?_⟩
    refine ((ih.get hx) (IsE.mono hle2 _ _ ux) (IsE.mono hle2 _ _ wx) (SzsL.get z5 hx) (SzsL.get y5 hx') (e4.get hx hx')).mono ?_
    rintro _ h3 ⟨rfl, hle3⟩
    refine ⟨_, rfl, Br.mk (fun q => by cases q) (fun _ => ?_)⟩
    rintro _ rfl
    exact ⟨kids.length - (j + 1), by omega, j + 1, by omega, rfl, wi (by omega) (by omega), hle2.trans hle3⟩
  · exfalso
    have e5 : (Ex.mk k q0 n m nm kids).kind = f.kind := e1
    rw [e5] at q
    simp at q
  · exfalso
    have e5 : (Ex.mk k q0 n m nm kids).name = f.name := e3
    rw [e5] at q2
    simp at q2
  · refine (r3cmp_c uq wq (by omega) (by omega) (by omega) (by omega)).mono ?_
    rintro _ h1 ⟨rfl, hle1⟩
    have hc0 : cmpQ q0 f.val = 0 := by rw [e2]; exact cmpQ_self _
    refine ⟨_, rfl, Br.mk (fun q3 => ?_) (fun q3 => ⟨?_, hle1⟩)⟩
    · exfalso
      rw [hc0] at q3
      simp at q3
    · rw [hlen]
      simp

mutual
theorem rSame_all : ∀ e : Ex, SmOk e
  | .mk _ _ _ _ _ kids => rSame_node (rSame_allL kids)
theorem rSame_allL : ∀ es : List Ex, evAll SmOk es
  | [] => trivial
  | e :: es => ⟨rSame_all e, rSame_allL es⟩
end

end Go.Proofs.YtdpdaphholileaaGreatDoor

/-
  Contracts: the reference's reader: next, wrong, take; split, sign, digits, Number.
-/
namespace Go.Proofs.YtdpdaphholileaaGreatDoor
open Go Go.Vcg Go.RowKit Go.Sort
attribute [local irreducible] Br

/-- A reader: its tokens, its place, its error. -/
def Rdr (S : Option Addr × Nat) (h : Heap) (g : Nat) (T : List (List UInt8)) (a : Nat) (e : Int) : Prop :=
  ∃ ty : Nat, Sl sv (hole h g) S.1 T.length S.2 T ∧ h g = some ⟨[.slice S.1 T.length S.2, .int .i64 (a : Int), .int .i64 e], ty, (0, 0)⟩

def nxtV (T : List (List UInt8)) (a : Nat) (e : Int) : List UInt8 := if e = 0 then hdT (T.drop a) else []
def wrgV (T : List (List UInt8)) (a : Nat) (e : Int) : Int := if e = 0 then (if T.length ≤ a then 4 else 2) else e

theorem cell0 {h : Heap} {g : Nat} {x y z : Value} {ty : Nat} (hb : h g = some ⟨[x, y, z], ty, (0, 0)⟩) : LdN h (Addr.add ⟨g, 0, none⟩ 0) [x] := ld_of rfl hb rfl
theorem cell1 {h : Heap} {g : Nat} {x y z : Value} {ty : Nat} (hb : h g = some ⟨[x, y, z], ty, (0, 0)⟩) : LdN h (Addr.add ⟨g, 0, none⟩ 1) [y] := ld_of rfl hb rfl
theorem cell2 {h : Heap} {g : Nat} {x y z : Value} {ty : Nat} (hb : h g = some ⟨[x, y, z], ty, (0, 0)⟩) : LdN h (Addr.add ⟨g, 0, none⟩ 2) [z] := ld_of rfl hb rfl

/-- The place moves on. -/
theorem Rdr.step {S : Option Addr × Nat} {h : Heap} {g : Nat} {T : List (List UInt8)} {a : Nat} {e : Int} (u : Rdr S h g T a e) (ha : a ≤ 1000000) {K : Heap → Prop} (hk : ∀ h', Rdr S h' g T (a + 1) e → hole h' g = hole h g → K h') :
    ∃ t : Int, LdN h (Addr.add ⟨g, 0, none⟩ 1) [.int .i64 t] ∧ ∀ t' : Int, t' = IntKind.i64.wrap (t + 1) →
      ∃ b : Blk, h (Addr.block (Addr.add ⟨g, 0, none⟩ 1)) = some b ∧ b.fz = (0, 0) ∧ Addr.spot (Addr.add ⟨g, 0, none⟩ 1) = none ∧ Addr.off (Addr.add ⟨g, 0, none⟩ 1) + 1 ≤ b.cells.length ∧
      ∀ h' : Heap, h' = Heap.put h (Addr.block (Addr.add ⟨g, 0, none⟩ 1)) { b with cells := setSeg b.cells (Addr.off (Addr.add ⟨g, 0, none⟩ 1)) [.int .i64 t'] } → K h' := by
  obtain ⟨ty, hs, hb⟩ := u
  refine ⟨_, cell1 hb, ?_⟩
  rintro _ rfl
  have e1 : IntKind.i64.wrap ((a : Int) + 1) = ((a + 1 : Nat) : Int) := wi (by omega) (by omega)
  rw [e1, addr_block, addr_off]
  refine ⟨_, hb, rfl, addr_spot _ _ rfl, by simp, ?_⟩
  rintro _ rfl
  refine hk _ ⟨ty, by rw [hole_put]; exact hs, ?_⟩ (hole_put _ _ _)
  rw [Heap.put_same]
  simp [setSeg]

theorem rNext_c {S : Option Addr × Nat} {h : Heap} {g : Nat} {T : List (List UInt8)} {a : Nat} {e : Int} (u : Rdr S h g T a e) :
    CallsU Tryz.prog 74 [.pointer (some ⟨g, 0, none⟩)] h fun v h' => v = sv (nxtV T a e) ∧ h = h' := by
  obtain ⟨ty, hs, hb⟩ := u
  apply garment_ref17_reader_next_ok
  refine ⟨fun t h' => h = h' ∧ t = decide (e ≠ 0 ∨ T.length ≤ a), ?_, _, cell2 hb, ?_⟩
  · rintro _ _ ⟨rfl, rfl⟩
    refine Br.mk (fun q => ⟨?_, rfl⟩) (fun q => ?_)
    · have := of_decide_eq_true q
      unfold nxtV
      rcases this with q | q
      · rw [if_neg q]
      · rw [List.drop_eq_nil_of_le q]
        split
        · rfl
        · rfl
    · have hq := of_decide_eq_false q
      have he : e = 0 := Classical.byContradiction fun q => hq (Or.inl q)
      have hlt : a < T.length := by omega
      obtain ⟨x, hx⟩ : ∃ x, T[a]? = some x := ⟨_, List.getElem?_eq_getElem hlt⟩
      obtain ⟨ad, eA, hld⟩ := hs.get hx
      refine ⟨_, _, _, cell0 hb, _, cell1 hb, ad, eA, by omega, by omega, _, by rw [Int.toNat_natCast]; exact LdN.mono hld (hole_le _ _), ?_, rfl⟩
      unfold nxtV
      rw [if_pos he, List.drop_eq_getElem_cons hlt]
      rw [List.getElem?_eq_getElem hlt] at hx
      rw [Option.some.inj hx]
      rfl
  · refine Br.mk (fun q => ⟨rfl, ?_⟩) (fun q => ⟨_, cell1 hb, _, _, _, cell0 hb, rfl, ?_⟩)
    · have : e ≠ 0 := by simpa using q
      rw [decide_eq_true (Or.inl this)]
    · have : e = 0 := by simpa using q
      rw [Bool.eq_iff_iff, decide_eq_true_eq, decide_eq_true_eq]
      constructor
      · intro h1; exact Or.inr (by omega)
      · rintro (h1 | h1)
        · exact absurd this h1
        · omega

theorem Rdr.setE {S : Option Addr × Nat} {h : Heap} {g : Nat} {T : List (List UInt8)} {a : Nat} {e : Int} (u : Rdr S h g T a e) (e' : Int) {K : Heap → Prop} (hk : ∀ h', Rdr S h' g T a e' → hole h' g = hole h g → K h') :
    ∃ b : Blk, h (Addr.block (Addr.add ⟨g, 0, none⟩ 2)) = some b ∧ b.fz = (0, 0) ∧ Addr.spot (Addr.add ⟨g, 0, none⟩ 2) = none ∧ Addr.off (Addr.add ⟨g, 0, none⟩ 2) + 1 ≤ b.cells.length ∧
      ∀ h' : Heap, h' = Heap.put h (Addr.block (Addr.add ⟨g, 0, none⟩ 2)) { b with cells := setSeg b.cells (Addr.off (Addr.add ⟨g, 0, none⟩ 2)) [.int .i64 e'] } → K h' := by
  obtain ⟨ty, hs, hb⟩ := u
  rw [addr_block, addr_off]
  refine ⟨_, hb, rfl, addr_spot _ _ rfl, by simp, ?_⟩
  rintro _ rfl
  refine hk _ ⟨ty, by rw [hole_put]; exact hs, ?_⟩ (hole_put _ _ _)
  rw [Heap.put_same]
  simp [setSeg]

theorem rWrong_c {S : Option Addr × Nat} {h : Heap} {g : Nat} {T : List (List UInt8)} {a : Nat} {e : Int} (u : Rdr S h g T a e) :
    CallsU Tryz.prog 45 [.pointer (some ⟨g, 0, none⟩)] h fun v h' => v = .tuple #[] ∧ Rdr S h' g T a (wrgV T a e) ∧ hole h' g = hole h g := by
  have u' := u
  obtain ⟨ty, hs, hb⟩ := u'
  apply garment_ref17_reader_wrong_ok
  refine ⟨fun t h' => h = h' ∧ t = decide (e = 0 ∧ T.length ≤ a), ?_, _, cell2 hb, ?_⟩
  · rintro _ _ ⟨rfl, rfl⟩
    unfold wrgV
    refine Br.mk (fun q => ?_) (fun q => ⟨_, cell2 hb, Br.mk (fun q2 => ?_) (fun q2 => ?_)⟩)
    · obtain ⟨q1, q2⟩ := of_decide_eq_true q
      rw [if_pos q1, if_pos q2]
      refine u.setE 4 fun h1 u1 ho1 => ?_
      have u1' := u1
      obtain ⟨ty1, hs1, hb1⟩ := u1'
      exact ⟨_, cell2 hb1, Br.mk (fun q => by exact absurd q (by decide)) (fun _ => ⟨rfl, u1, ho1⟩)⟩
    · have q1 := of_decide_eq_false q
      have e0 : e = 0 := beq_iff_eq.1 q2
      rw [if_pos e0, if_neg (fun q => q1 ⟨e0, q⟩)]
      exact u.setE 2 fun h1 u1 ho1 => ⟨rfl, u1, ho1⟩
    · have e0 : e ≠ 0 := beq_eq_false_iff_ne.1 q2
      rw [if_neg e0]
      exact ⟨rfl, u, rfl⟩
  · refine Br.mk (fun q => ⟨_, cell1 hb, _, _, _, cell0 hb, rfl, ?_⟩) (fun q => ⟨rfl, ?_⟩)
    · have : e = 0 := beq_iff_eq.1 q
      rw [Bool.eq_iff_iff, decide_eq_true_eq, decide_eq_true_eq]
      constructor
      · intro h1; exact ⟨this, by omega⟩
      · intro h1; omega
    · have : e ≠ 0 := beq_eq_false_iff_ne.1 q
      rw [decide_eq_false (fun q => this q.1)]

theorem rTake_c {S : Option Addr × Nat} {h : Heap} {g : Nat} {T : List (List UInt8)} {a : Nat} {e : Int} (u : Rdr S h g T a e) (ha : a ≤ 1000000) (s : List UInt8) :
    CallsU Tryz.prog 167 [.pointer (some ⟨g, 0, none⟩), sv s] h fun v h' => v = .tuple #[] ∧ Rdr S h' g T (a + 1) (if nxtV T a e = s then e else wrgV T a e) ∧ hole h' g = hole h g := by
  apply garment_ref17_reader_take_ok
  refine (rNext_c u).mono ?_
  rintro _ _ ⟨rfl, rfl⟩
  refine ⟨_, rfl, ?_⟩
  rw [bytes_toList, bytes_toList]
  refine Br.mk (fun q => ?_) (fun q => ?_)
  · have hne : nxtV T a e ≠ s := by simpa using q
    refine (rWrong_c u).mono ?_
    rintro _ h1 ⟨rfl, u1, ho1⟩
    refine ⟨rfl, u1.step ha fun h2 u2 ho2 => ⟨rfl, ?_, ho2.trans ho1⟩⟩
    rw [if_neg hne]
    exact u2
  · have he : nxtV T a e = s := by simpa using q
    refine u.step ha fun h2 u2 ho2 => ⟨rfl, ?_, ho2⟩
    rw [if_pos he]
    exact u2

theorem rSign_c (x : UInt8) (h : Heap) : CallsU Tryz.prog 72 [.int .u8 (x.toNat : Int)] h fun r h' => r = .bool (!nd x && x != 32) ∧ h = h' := by
  have key : ∀ y : UInt8, ((x.toNat : Int) == (y.toNat : Int)) = (x == y) := fun y => by
    rw [Bool.eq_iff_iff, beq_iff_eq, beq_iff_eq]
    constructor
    · intro e; exact UInt8.toNat_inj.1 (by omega)
    · rintro rfl; rfl
  apply ref17_sign_ok
  unfold ref17_sign_vc
  have k1 := key 43
  have k2 := key 45
  have k3 := key 42
  have k4 := key 47
  have k5 := key 40
  have k6 := key 41
  have k7 := key 44
  have hnd : (!nd x && x != 32) = (x == 43 || x == 45 || x == 42 || x == 47 || x == 40 || x == 41 || x == 44) := by
    unfold nd
    rw [Bool.not_not, List.contains_eq_mem, Bool.eq_iff_iff]
    simp only [Bool.and_eq_true, decide_eq_true_eq, bne_iff_ne, Bool.or_eq_true, beq_iff_eq, List.mem_cons, List.not_mem_nil, or_false]
    constructor
    · rintro ⟨h1, h2⟩
      rcases h1 with h1 | h1 | h1 | h1 | h1 | h1 | h1 | h1 <;> first | exact absurd h1 h2 | simp [h1]
    · intro h1
      rcases h1 with (((((h1 | h1) | h1) | h1) | h1) | h1) | h1 <;> subst h1 <;> exact ⟨by simp, by decide⟩
  rw [hnd]
  refine Br.mk (fun q => ⟨?_, rfl⟩) (fun q1 => Br.mk (fun q => ⟨?_, rfl⟩) (fun q2 => Br.mk (fun q => ⟨?_, rfl⟩) (fun q3 => Br.mk (fun q => ⟨?_, rfl⟩) (fun q4 => Br.mk (fun q => ⟨?_, rfl⟩) (fun q5 => Br.mk (fun q => ⟨?_, rfl⟩) (fun q6 => ⟨?_, rfl⟩))))))
  · rw [show (x == 43) = true from k1.symm.trans q]; rfl
  · rw [show (x == 45) = true from k2.symm.trans q]; simp
  · rw [show (x == 42) = true from k3.symm.trans q]; simp
  · rw [show (x == 47) = true from k4.symm.trans q]; simp
  · rw [show (x == 40) = true from k5.symm.trans q]; simp
  · rw [show (x == 41) = true from k6.symm.trans q]; simp
  · rw [show (x == 43) = false from k1.symm.trans q1, show (x == 45) = false from k2.symm.trans q2, show (x == 42) = false from k3.symm.trans q3, show (x == 47) = false from k4.symm.trans q4, show (x == 40) = false from k5.symm.trans q5, show (x == 41) = false from k6.symm.trans q6]
    congr 1

theorem rDigits_c (l : List UInt8) (hl : l.length ≤ 1000000) (h : Heap) : CallsU Tryz.prog 192 [sv l] h fun r h' => r = .int .i64 ((l.takeWhile isDg).length : Int) ∧ h = h' := by
  apply ref17_digits_ok
  unfold ref17_digits_vc
  rw [ba_size]
  refine ⟨fun m n h' => ∃ k, k ≤ l.length ∧ m = l.length - k ∧ n = (k : Int) ∧ h = h' ∧ (l.take k).all isDg = true, ⟨l.length, 0, by omega, by omega, rfl, rfl, by simp⟩, ?_⟩
  rintro m _ _ ⟨k, hk, rfl, rfl, rfl, hall⟩
  refine Br.mk (fun q => ?_) (fun q => ⟨?_, rfl⟩)
  · have hlt : k < l.length := by have := of_decide_eq_true q; omega
    obtain ⟨x, hx⟩ : ∃ x, l[k]? = some x := ⟨_, List.getElem?_eq_getElem hlt⟩
    refine ⟨x, by omega, by rw [Int.toNat_natCast, ba_get]; exact hx, ?_⟩
    refine (rDigit_c x h).mono ?_
    rintro _ _ ⟨rfl, rfl⟩
    refine ⟨_, rfl, Br.mk (fun q2 => ?_) (fun q2 => ⟨?_, rfl⟩)⟩
    · rintro _ rfl
      refine ⟨l.length - (k + 1), by omega, k + 1, by omega, rfl, wi (by omega) (by omega), rfl, ?_⟩
      rw [List.take_add_one, hx, List.all_append, hall]
      simp [q2]
    · rw [tw_at (by omega) hall (fun y hy => by rw [hx] at hy; cases hy; exact q2), List.length_take, Nat.min_eq_left (by omega)]
  · have hk' : k = l.length := by have := of_decide_eq_false q; omega
    subst hk'
    rw [tw_at (Nat.le_refl _) hall (fun y hy => by rw [List.getElem?_eq_none (Nat.le_refl _)] at hy; cases hy), List.take_length]
end Go.Proofs.YtdpdaphholileaaGreatDoor

/-
  Contracts: the reference's Number, split.
-/
namespace Go.Proofs.YtdpdaphholileaaGreatDoor
open Go Go.Vcg Go.RowKit Go.Sort
attribute [local irreducible] Br

/-- The number that the reference reads, in units of 1/10000. -/
def refNum (w : List UInt8) : Option Nat :=
  let a := w.takeWhile isDg
  if 1 ≤ a.length ∧ a.length ≤ 9 ∧ ¬ (1 < a.length ∧ w.head? = some 48) then
    (if a.length < w.length then
      (if w[a.length]? = some 46 ∧ w.drop (a.length + 1) ≠ [] ∧ (w.drop (a.length + 1)).length ≤ 4 ∧ (w.drop (a.length + 1)).all isDg = true then some (dgV (a ++ (w.drop (a.length + 1) ++ [48, 48, 48, 48]).take 4)) else none)
    else some (dgV (a ++ [48, 48, 48, 48])))
  else none

theorem dgV_app (a b : List UInt8) : dgV (a ++ b) = dgV a * 10 ^ b.length + dgV b := by
  unfold dgV
  rw [List.foldl_append, dgV_from]
  rfl

theorem take4 {r : List UInt8} (h : r.length ≤ 4) : (r ++ [48, 48, 48, 48]).take 4 = r ++ List.replicate (4 - r.length) 48 := by
  have : ∀ k, k ≤ 4 → ([48, 48, 48, 48] : List UInt8).take k = List.replicate k 48 := by decide
  rw [List.take_append, List.take_of_length_le h, this _ (by omega)]

theorem dgsB_iff {l : List UInt8} {k : Nat} : dgsB l k = true ↔ l.all isDg = true ∧ 1 ≤ l.length ∧ l.length ≤ k := by
  unfold dgsB
  rw [Bool.and_eq_true, decide_eq_true_eq]

theorem dg46 {x : UInt8} (h : isDg x = true) : (x != 46) = true := by
  have := isDg_iff.1 h
  rw [bne_iff_ne]
  rintro rfl
  revert this; decide

theorem refNum_eq (w : List UInt8) : numberV w = (refNum w).map (fun v : Nat => (v : Rat) / 10000) := by
  have hsplit : w.takeWhile isDg ++ w.dropWhile isDg = w := List.takeWhile_append_dropWhile
  have hall : ∀ x ∈ w.takeWhile isDg, isDg x = true := fun x hx => by
    have := List.all_takeWhile (p := isDg) (l := w)
    exact List.all_eq_true.1 this x hx
  have hhd : ∀ x, (w.dropWhile isDg).head? = some x → isDg x = false := fun x hx => by
    have := List.head?_dropWhile_not isDg w
    rw [hx] at this
    simpa using this
  generalize ha : w.takeWhile isDg = a at *
  generalize hb : w.dropWhile isDg = b at *
  have alldg : a.all isDg = true := List.all_eq_true.2 hall
  have tw46 : ∀ r : List UInt8, (a ++ r).takeWhile (· != 46) = a ++ r.takeWhile (· != 46) := fun r => List.takeWhile_append_of_pos fun x hx => dg46 (hall x hx)
  have head48 : ∀ r : List UInt8, 1 < a.length → (a ++ r).head? = a.head? := fun r hl => by
    cases a with
    | nil => simp at hl
    | cons x a => rfl
  unfold refNum
  simp only [ha]
  cases b with
  | nil =>
    rw [List.append_nil] at hsplit
    subst hsplit
    have e1 : a.takeWhile (· != 46) = a := by have := tw46 []; rw [List.append_nil] at this; simpa using this
    have e2 : a.dropWhile (· != 46) = [] := by rw [← tw_drop, e1, List.drop_length]
    have n46 : decide ((46 : UInt8) ∈ a) = false := by
      rw [decide_eq_false_iff_not]
      intro hm
      exact absurd (dg46 (hall 46 hm)) (by decide)
    have hN : numberV a = if (dgsB a 9 && !(decide (1 < a.length) && a.head? == some 48)) = true then some ((dgV a : Int) / ((1 : Nat) : Int) : Rat) else none := by
      unfold numberV
      simp only [e1, e2, List.drop_nil, n46, List.append_nil, Bool.not_false, Bool.true_or, Bool.and_true, List.length_nil, Nat.pow_zero]
    rw [hN, if_neg (Nat.lt_irrefl a.length)]
    by_cases hc : 1 ≤ a.length ∧ a.length ≤ 9 ∧ ¬ (1 < a.length ∧ a.head? = some 48)
    · have hb : (dgsB a 9 && !(decide (1 < a.length) && a.head? == some 48)) = true := by
        rw [Bool.and_eq_true, dgsB_iff]
        refine ⟨⟨alldg, hc.1, hc.2.1⟩, ?_⟩
        rw [Bool.not_eq_true', Bool.and_eq_false_iff]
        by_cases h1 : 1 < a.length
        · right
          have : a.head? ≠ some 48 := fun q => hc.2.2 ⟨h1, q⟩
          simpa using this
        · left; simpa using h1
      rw [if_pos hc, if_pos hb, Option.map_some]
      congr 1
      rw [dgV_app]
      have e3 : dgV [48, 48, 48, 48] = 0 := by decide
      have e4 : ([48, 48, 48, 48] : List UInt8).length = 4 := rfl
      rw [e3, e4, Rat.intCast_natCast, Rat.intCast_natCast]
      exact rat_cross (a := dgV a) (b := 1) (c := dgV a * 10 ^ 4 + 0) (d := 10000) (by decide) (by decide) (by omega)
    · have hb : ¬ (dgsB a 9 && !(decide (1 < a.length) && a.head? == some 48)) = true := by
        rw [Bool.and_eq_true, dgsB_iff, Bool.not_eq_true', Bool.and_eq_false_iff]
        rintro ⟨⟨_, h1, h2⟩, h3⟩
        refine hc ⟨h1, h2, ?_⟩
        rintro ⟨h4, h5⟩
        rcases h3 with h3 | h3
        · rw [decide_eq_false_iff_not] at h3; exact h3 h4
        · rw [h5] at h3; simp at h3
      rw [if_neg hc, if_neg hb]
      rfl
  | cons y r =>
    have hy := hhd y rfl
    subst hsplit
    have hlt : a.length < (a ++ y :: r).length := by simp
    have hget : (a ++ y :: r)[a.length]? = some y := by simp
    have hdrop : (a ++ y :: r).drop (a.length + 1) = r := by
      rw [List.drop_append, List.drop_eq_nil_of_le (by omega)]
      simp
    rw [if_pos hlt, hget, hdrop]
    by_cases h46 : y = 46
    · subst h46
      have e1 : (a ++ 46 :: r).takeWhile (· != 46) = a := by rw [tw46]; simp
      have e2 : (a ++ 46 :: r).dropWhile (· != 46) = 46 :: r := by rw [← tw_drop, e1, List.drop_left]
      have n46 : decide ((46 : UInt8) ∈ a ++ 46 :: r) = true := by simp
      have hN : numberV (a ++ 46 :: r) = if (dgsB a 9 && !(decide (1 < a.length) && a.head? == some 48) && dgsB r 4) = true then some ((dgV (a ++ r) : Int) / ((10 ^ r.length : Nat) : Int) : Rat) else none := by
        unfold numberV
        simp only [e1, e2, List.drop_succ_cons, List.drop_zero, n46, Bool.not_true, Bool.false_or]
      rw [hN]
      by_cases hc : 1 ≤ a.length ∧ a.length ≤ 9 ∧ ¬ (1 < a.length ∧ (a ++ 46 :: r).head? = some 48)
      · rw [if_pos hc]
        by_cases hr : r ≠ [] ∧ r.length ≤ 4 ∧ r.all isDg = true
        · have hb : (dgsB a 9 && !(decide (1 < a.length) && a.head? == some 48) && dgsB r 4) = true := by
            rw [Bool.and_eq_true, Bool.and_eq_true, dgsB_iff, dgsB_iff]
            have hr0 := List.length_pos_iff.2 hr.1
            refine ⟨⟨⟨alldg, hc.1, hc.2.1⟩, ?_⟩, hr.2.2, by omega, hr.2.1⟩
            rw [Bool.not_eq_true', Bool.and_eq_false_iff]
            by_cases h1 : 1 < a.length
            · right
              have : a.head? ≠ some 48 := fun q => hc.2.2 ⟨h1, by rw [head48 _ h1]; exact q⟩
              simpa using this
            · left; simpa using h1
          rw [if_pos hb, if_pos (show some (46 : UInt8) = some 46 ∧ r ≠ [] ∧ r.length ≤ 4 ∧ r.all isDg = true from ⟨rfl, hr⟩), Option.map_some]
          congr 1
          rw [take4 hr.2.1, dgV_app, dgV_app, dgV_app, dgV_zeros, List.length_append, List.length_replicate, Nat.add_zero]
          have hpow : 10 ^ r.length * 10 ^ (4 - r.length) = 10000 := by rw [← Nat.pow_add, show r.length + (4 - r.length) = 4 by have := hr.2.1; omega]
          have hcross : (dgV a * 10 ^ r.length + dgV r) * 10000 = (dgV a * 10 ^ (r.length + (4 - r.length)) + dgV r * 10 ^ (4 - r.length)) * 10 ^ r.length := by
            rw [Nat.pow_add, hpow, Nat.add_mul, Nat.add_mul]
            congr 1
            · rw [Nat.mul_assoc, Nat.mul_assoc, Nat.mul_comm (10 ^ r.length)]
            · rw [← hpow, Nat.mul_assoc, Nat.mul_comm (10 ^ r.length)]
          rw [Rat.intCast_natCast, Rat.intCast_natCast]
          exact rat_cross (a := dgV a * 10 ^ r.length + dgV r) (b := 10 ^ r.length) (d := 10000) (Nat.pos_iff_ne_zero.1 (Nat.pow_pos (by decide))) (by decide) hcross
        · have hb : ¬ (dgsB a 9 && !(decide (1 < a.length) && a.head? == some 48) && dgsB r 4) = true := by
            rw [Bool.and_eq_true, dgsB_iff]
            rintro ⟨_, h1, h2, h3⟩
            exact hr ⟨fun e => by rw [e] at h2; simp at h2, h3, h1⟩
          rw [if_neg hb, if_neg (show ¬ (some (46 : UInt8) = some 46 ∧ r ≠ [] ∧ r.length ≤ 4 ∧ r.all isDg = true) from fun q => hr q.2)]
          rfl
      · have hb : ¬ (dgsB a 9 && !(decide (1 < a.length) && a.head? == some 48) && dgsB r 4) = true := by
          rw [Bool.and_eq_true, Bool.and_eq_true, dgsB_iff, Bool.not_eq_true', Bool.and_eq_false_iff]
          rintro ⟨⟨⟨_, h1, h2⟩, h3⟩, _⟩
          refine hc ⟨h1, h2, ?_⟩
          rintro ⟨h4, h5⟩
          rw [head48 _ h4] at h5
          rcases h3 with h3 | h3
          · rw [decide_eq_false_iff_not] at h3; exact h3 h4
          · rw [h5] at h3; simp at h3
        rw [if_neg hc, if_neg hb]
        rfl
    · have hn : numberV (a ++ y :: r) = none := by
        have y46 : (y != 46) = true := by simpa using h46
        have e1 : (a ++ y :: r).takeWhile (· != 46) = a ++ y :: r.takeWhile (· != 46) := by rw [tw46, List.takeWhile_cons, if_pos y46]
        have hf : dgsB (a ++ y :: r.takeWhile (· != 46)) 9 = false := by
          cases hd : dgsB (a ++ y :: r.takeWhile (· != 46)) 9 with
          | false => rfl
          | true =>
            have := (dgsB_iff.1 hd).1
            rw [List.all_append, List.all_cons, hy] at this
            simp at this
        unfold numberV
        simp only [e1, hf, Bool.false_and]
        rfl
      have hz : ¬ (some y = some (46 : UInt8) ∧ r ≠ [] ∧ r.length ≤ 4 ∧ r.all isDg = true) := fun q => h46 (Option.some.inj q.1)
      rw [hn, if_neg hz]
      split <;> rfl

theorem dgV_bound {l : List UInt8} (hd : l.all isDg = true) {k : Nat} (hk : l.length ≤ k) : dgV l < 10 ^ k :=
  Nat.lt_of_lt_of_le (dgV_lt l (fun x hx => List.all_eq_true.1 hd x hx)) (Nat.pow_le_pow_right (by decide) hk)

theorem rNumber17_c (l : List UInt8) (hl : l.length ≤ 1000000) (h : Heap) : CallsU Tryz.prog 169 [sv l] h fun r h' => r = .tuple #[.int .i64 ((refNum l).getD 0 : Nat), .bool (refNum l).isSome] ∧ h = h' := by
  apply ref17_Number_ok
  unfold ref17_Number_vc
  refine (rDigits_c l hl h).mono ?_
  rintro _ _ ⟨rfl, rfl⟩
  unfold refNum
  have htl := tw_le l isDg
  have htk := tw_take l isDg
  have halldg : (l.takeWhile isDg).all isDg = true := List.all_takeWhile
  generalize hA : l.takeWhile isDg = a at *
  dsimp only
  rw [ba_size]
  have e1 : (⟨l.toArray⟩ : ByteArray).extract 0 (Int.toNat (a.length : Int)) = ⟨a.toArray⟩ := by rw [Int.toNat_natCast, ba_ext]; simp [htk]
  have c4 : (⟨#[48, 48, 48, 48]⟩ : ByteArray) = ⟨([48, 48, 48, 48] : List UInt8).toArray⟩ := rfl
  have cnil : (⟨#[]⟩ : ByteArray) = ⟨([] : List UInt8).toArray⟩ := rfl
  refine ⟨_, rfl, ?_⟩
  rw [e1, c4]
  refine ⟨fun h' => h = h' ∧ 1 ≤ a.length ∧ a.length ≤ 9 ∧ ¬ (1 < a.length ∧ l.head? = some 48), ?_, ?_⟩
  · rintro _ ⟨rfl, hc⟩
    rw [if_pos hc]
    refine ⟨fun rest h' => h = h' ∧ ∃ r : List UInt8, rest = ⟨r.toArray⟩ ∧ r.length ≤ 4 ∧ r.all isDg = true ∧ (if a.length < l.length then (if l[a.length]? = some 46 ∧ l.drop (a.length + 1) ≠ [] ∧ (l.drop (a.length + 1)).length ≤ 4 ∧ (l.drop (a.length + 1)).all isDg = true then some (dgV (a ++ (l.drop (a.length + 1) ++ [48, 48, 48, 48]).take 4)) else none) else some (dgV (a ++ [48, 48, 48, 48]))) = some (dgV (a ++ (r ++ [48, 48, 48, 48]).take 4)), ?_, ?_⟩
    · rintro _ _ ⟨rfl, r, rfl, hr4, hrd, hval⟩
      rw [hval, ba_append, ba_size, ba_size, ba_size, ba_ext, ba_append, ba_size, ba_size]
      simp only [List.drop_zero, Option.getD_some, Option.isSome_some]
      have hal := hc.2.1
      have htk4 := take4 hr4
      generalize hw : a ++ (r ++ [48, 48, 48, 48]).take 4 = w at *
      have hwl : w.length = a.length + 4 := by rw [← hw, htk4]; simp; omega
      have hwd : w.all isDg = true := by
        rw [← hw, htk4, List.all_append, List.all_append, halldg, hrd]
        simp [List.all_replicate, isDg]
      have hsz := ba_size w
      have l4 : ((r ++ [48, 48, 48, 48]).take 4).length = 4 := by rw [htk4, List.length_append, List.length_replicate]; omega
      refine ⟨by omega, by omega, by simp; omega, by omega, by simp; omega, by omega, ?_⟩
      refine ⟨fun m v i h' => ∃ k, k ≤ w.length ∧ m = w.length - k ∧ i = (k : Int) ∧ v = (dgV (w.take k) : Int) ∧ h = h', ⟨w.length, 0, by omega, by omega, rfl, rfl, rfl⟩, ?_⟩
      rintro m _ _ _ ⟨k, hk, rfl, rfl, rfl, rfl⟩
      refine Br.mk (fun q => ?_) (fun q => ⟨?_, rfl⟩)
      · have hlt : k < w.length := by have := of_decide_eq_true q; omega
        obtain ⟨x, hx⟩ : ∃ x, w[k]? = some x := ⟨_, List.getElem?_eq_getElem hlt⟩
        have hxd := isDg_iff.1 (List.all_eq_true.1 hwd x (List.mem_of_getElem? hx))
        have hb := dgV_bound (l := w.take k) (k := 13) (List.all_eq_true.2 fun y hy => List.all_eq_true.1 hwd y (List.mem_of_mem_take hy)) (by rw [List.length_take]; omega)
        rintro _ rfl
        refine ⟨x, by omega, by rw [Int.toNat_natCast, ba_get]; exact hx, ?_⟩
        rintro _ rfl _ rfl _ rfl
        have w1 : IntKind.i64.wrap (10 * (dgV (w.take k) : Int)) = 10 * (dgV (w.take k) : Int) := wrap_i64 (by omega) (by omega)
        have w2 : IntKind.u8.wrap ((x.toNat : Int) - 48) = ((x.toNat - 48 : Nat) : Int) := by rw [IntKind.wrap_u8]; omega
        have w3 : IntKind.i64.wrap ((x.toNat - 48 : Nat) : Int) = ((x.toNat - 48 : Nat) : Int) := wrap_i64 (by omega) (by omega)
        rw [w1, w2, w3, wrap_i64 (by omega) (by omega)]
        refine ⟨w.length - (k + 1), by omega, k + 1, by omega, rfl, wi (by omega) (by omega), ?_, rfl⟩
        rw [List.take_add_one, hx]
        simp only [Option.toList_some]
        rw [dgV_snoc]
        omega
      · have hk' : k = w.length := by have := of_decide_eq_false q; omega
        rw [hk', List.take_length]
    · refine Br.mk (fun q => ?_) (fun q => ⟨rfl, [], rfl, by simp, rfl, ?_⟩)
      · have hlt : a.length < l.length := by have := of_decide_eq_true q; omega
        obtain ⟨x, hx⟩ : ∃ x, l[a.length]? = some x := ⟨_, List.getElem?_eq_getElem hlt⟩
        rw [if_pos hlt]
        rintro _ rfl
        have w1 : IntKind.i64.wrap ((a.length : Int) + 1) = ((a.length + 1 : Nat) : Int) := wi (by omega) (by omega)
        have e2 : (⟨l.toArray⟩ : ByteArray).extract (Int.toNat ((a.length + 1 : Nat) : Int)) l.length = ⟨(l.drop (a.length + 1)).toArray⟩ := by rw [Int.toNat_natCast, ba_ext, List.take_length]
        rw [w1, e2, cnil, bytes_toList, bytes_toList, ba_size]
        generalize hR : l.drop (a.length + 1) = r at *
        have hrl : r.length ≤ 1000000 := by rw [← hR, List.length_drop]; omega
        refine ⟨by omega, by omega, x, by omega, by rw [Int.toNat_natCast, ba_get]; exact hx, ?_⟩
        have no : ¬ (l[a.length]? = some 46 ∧ r ≠ [] ∧ r.length ≤ 4 ∧ r.all isDg = true) → (Value.tuple #[.int .i64 0, .bool false] = Value.tuple #[.int .i64 (((if l[a.length]? = some 46 ∧ r ≠ [] ∧ r.length ≤ 4 ∧ r.all isDg = true then some (dgV (a ++ (r ++ [48, 48, 48, 48]).take 4)) else none) : Option Nat).getD 0 : Nat), .bool ((if l[a.length]? = some 46 ∧ r ≠ [] ∧ r.length ≤ 4 ∧ r.all isDg = true then some (dgV (a ++ (r ++ [48, 48, 48, 48]).take 4)) else none) : Option Nat).isSome]) := fun hn => by rw [if_neg hn]; rfl
        refine Br.mk (fun q2 => ⟨no ?_, rfl⟩) (fun q2 => Br.mk (fun q3 => ⟨no ?_, rfl⟩) (fun q3 => Br.mk (fun q4 => ⟨no ?_, rfl⟩) (fun q4 => ?_)))
        · rintro ⟨h1, _⟩
          rw [hx] at h1
          cases h1
          exact absurd q2 (by decide)
        · rintro ⟨_, h1, _⟩
          exact h1 (by simpa using q3)
        · rintro ⟨_, _, h1, _⟩
          have := of_decide_eq_true q4
          omega
        · have hx46 : x = 46 := by
            apply UInt8.toNat_inj.1
            rw [bne_eq_false_iff_eq] at q2
            have : (46 : UInt8).toNat = 46 := rfl
            omega
          have hr0 : r ≠ [] := by simpa using q3
          have hr4 : r.length ≤ 4 := by have := of_decide_eq_false q4; omega
          refine (rDigits_c r hrl h).mono ?_
          rintro _ _ ⟨rfl, rfl⟩
          have htr := tw_le r isDg
          refine ⟨_, rfl, Br.mk (fun q5 => ⟨no ?_, rfl⟩) (fun q5 => ⟨rfl, r, rfl, hr4, ?_, ?_⟩)⟩
          · rintro ⟨_, _, _, h1⟩
            have := of_decide_eq_true q5
            rw [tw_self fun x hx => List.all_eq_true.1 h1 x hx] at this
            omega
          · have h5 := of_decide_eq_false q5
            have h6 : r.takeWhile isDg = r := by rw [← tw_take, List.take_of_length_le (by omega)]
            rw [← h6]
            exact List.all_takeWhile
          · have h5 := of_decide_eq_false q5
            have h6 : r.takeWhile isDg = r := by rw [← tw_take, List.take_of_length_le (by omega)]
            have h7 : r.all isDg = true := by
              rw [← h6]
              exact List.all_takeWhile
            rw [if_pos ⟨by rw [hx, hx46], hr0, hr4, h7⟩]
      · have hge : ¬ a.length < l.length := by have := of_decide_eq_false q; omega
        rw [if_neg hge]
        rfl
  · have no : ¬ (1 ≤ a.length ∧ a.length ≤ 9 ∧ ¬ (1 < a.length ∧ l.head? = some 48)) → ∀ X : Option Nat, (Value.tuple #[.int .i64 0, .bool false] = Value.tuple #[.int .i64 ((if 1 ≤ a.length ∧ a.length ≤ 9 ∧ ¬ (1 < a.length ∧ l.head? = some 48) then X else none).getD 0 : Nat), .bool (if 1 ≤ a.length ∧ a.length ≤ 9 ∧ ¬ (1 < a.length ∧ l.head? = some 48) then X else none).isSome]) := fun hn X => by rw [if_neg hn]; rfl
    refine Br.mk (fun q => ⟨no ?_ _, rfl⟩) (fun q => Br.mk (fun q2 => ⟨no ?_ _, rfl⟩) (fun q2 => Br.mk (fun q3 => ?_) (fun q3 => ?_)))
    · have := of_decide_eq_true q
      omega
    · have := of_decide_eq_true q2
      omega
    · have h1 := of_decide_eq_false q
      have h2 := of_decide_eq_false q2
      have h3 := of_decide_eq_true q3
      obtain ⟨x, hx⟩ : ∃ x, l[0]? = some x := ⟨_, List.getElem?_eq_getElem (by omega)⟩
      have hh : l.head? = some x := by rw [List.head?_eq_getElem?]; exact hx
      refine ⟨x, by omega, by rw [ba_get]; exact hx, Br.mk (fun q4 => ⟨no ?_ _, rfl⟩) (fun q4 => ⟨rfl, by omega, by omega, ?_⟩)⟩
      · rintro ⟨_, _, h4⟩
        refine h4 ⟨by omega, ?_⟩
        have : x = 48 := by
          apply UInt8.toNat_inj.1
          have h5 := beq_iff_eq.1 q4
          have : (48 : UInt8).toNat = 48 := rfl
          omega
        rw [hh, this]
      · rintro ⟨_, h4⟩
        rw [hh] at h4
        cases h4
        exact absurd q4 (by decide)
    · have h1 := of_decide_eq_false q
      have h2 := of_decide_eq_false q2
      have h3 := of_decide_eq_false q3
      exact ⟨rfl, by omega, by omega, by omega⟩

theorem rSplit_c (l : List UInt8) (hl : l.length ≤ 1000) (h : Heap) : CallsU Tryz.prog 43 [sv l] h fun r h' => ∃ A n c, r = .slice A n c ∧ OwnE sv 9 h h' A n c (tks l) ∧ Le h h' := by
  apply ref17_split_ok
  unfold ref17_split_vc
  rw [ba_size]
  refine ⟨fun m A n c i h' => ∃ k gs, k ≤ l.length ∧ m = l.length - k ∧ i = (k : Int) ∧ OwnE sv 9 h h' A n c gs ∧ Le h h' ∧ gs ++ tks (l.drop k) = tks l ∧ gs.length ≤ k, ⟨l.length, 0, [], by omega, by omega, rfl, OwnE.start, Le.refl _, by simp, by simp⟩, ?_⟩
  rintro m A n c _ h1 ⟨k, gs, hk, rfl, rfl, own, hle, hgs, hgl⟩
  refine Br.mk (fun q => ?_) (fun q => ?_)
  · have hlt : k < l.length := by have := of_decide_eq_true q; omega
    obtain ⟨x, hx⟩ : ∃ x, l[k]? = some x := ⟨_, List.getElem?_eq_getElem hlt⟩
    have hdr : l.drop k = x :: l.drop (k + 1) := by
      rw [List.drop_eq_getElem_cons hlt]
      rw [List.getElem?_eq_getElem hlt] at hx
      rw [Option.some.inj hx]
    rintro _ rfl
    have w1 : IntKind.i64.wrap ((k : Int) + 1) = ((k + 1 : Nat) : Int) := wi (by omega) (by omega)
    rw [w1]
    have x32 : ((x.toNat : Int) != 32) = (x != 32) := by
      rw [Bool.eq_iff_iff, bne_iff_ne, bne_iff_ne]
      constructor
      · intro h1 h2; subst h2; exact h1 rfl
      · intro h1 h2; exact h1 (UInt8.toNat_inj.1 (by have : (32 : UInt8).toNat = 32 := rfl; omega))
    -- where the token ends
    refine ⟨fun e h' => h1 = h' ∧ ∃ j : Nat, e = (j : Int) ∧ k < j ∧ j ≤ l.length ∧ (if nd x then (l.drop k).takeWhile nd = (l.drop k).take (j - k) else j = k + 1), ?_, ?_⟩
    · rintro _ _ ⟨rfl, j, rfl, hkj, hjl, hj⟩
      refine ⟨x, by omega, by rw [Int.toNat_natCast, ba_get]; exact hx, ?_⟩
      rw [x32]
      have hsplit : (l.take j).drop k ++ l.drop j = l.drop k := by
        rw [← List.drop_append_of_le_length (by rw [List.length_take]; omega), List.take_append_drop]
      have hw : (l.take j).drop k = (l.drop k).take (j - k) := by rw [List.drop_take]
      refine Br.mk (fun q2 => ?_) (fun q2 => ?_)
      · have hx2 : x ≠ 32 := by simpa using q2
        have htok : tks (l.drop k) = (l.take j).drop k :: tks (l.drop j) := by
          by_cases hn : nd x = true
          · rw [if_pos hn] at hj
            rw [← hsplit]
            refine tks_word ?_ ?_ ?_
            · rw [hw, ← hj, hdr, List.takeWhile_cons, if_pos hn]
              simp
            · rw [hw, ← hj]
              exact fun y hy => List.all_eq_true.1 List.all_takeWhile y hy
            · intro y hy
              have h5 := tw_drop (l.drop k) nd
              rw [hj, List.length_take, List.length_drop, Nat.min_eq_left (by omega), List.drop_drop, show k + (j - k) = j by omega] at h5
              rw [h5] at hy
              have := List.head?_dropWhile_not nd (l.drop k)
              rw [hy] at this
              simpa using this
          · have hn' : nd x = false := by simpa using hn
            rw [if_neg hn] at hj
            subst hj
            have e1 : (l.take (k + 1)).drop k = [x] := by rw [hw, hdr]; simp
            rw [e1, hdr]
            exact tks_sign hn' hx2
        have hex : (⟨l.toArray⟩ : ByteArray).extract (Int.toNat (k : Int)) (Int.toNat (j : Int)) = ⟨((l.take j).drop k).toArray⟩ := by rw [Int.toNat_natCast, Int.toNat_natCast, ba_ext]
        rw [hex]
        refine ⟨by omega, by omega, by omega, by rw [Int.toNat_natCast]; omega, ?_⟩
        rintro g _ hg rfl
        have hnl := own.1
        refine OwnE.app (x := (l.take j).drop k) (z := []) (K := fun A' c' h' => ∃ m_1, m_1 < l.length - k ∧ ∃ k' gs', k' ≤ l.length ∧ m_1 = l.length - k' ∧ (j : Int) = (k' : Int) ∧ OwnE sv 9 h h' A' (n + 1) c' gs' ∧ Le h h' ∧ gs' ++ tks (l.drop k') = tks l ∧ gs'.length ≤ k') own hle (fun _ => rfl) rfl rfl hg (by omega) (fun A' c' h' o l' _ => ?_)
        refine ⟨l.length - j, by omega, j, _, hjl, rfl, rfl, o, l', ?_, ?_⟩
        · rw [List.append_assoc, List.singleton_append, ← htok]
          exact hgs
        · rw [List.length_append, List.length_singleton]
          omega
      · have hx2 : x = 32 := by simpa using q2
        subst hx2
        rw [if_neg (by decide)] at hj
        subst hj
        refine ⟨l.length - (k + 1), by omega, k + 1, gs, by omega, rfl, rfl, own, hle, ?_, by omega⟩
        rw [← hgs, hdr, tks_sp]
    · refine ⟨fun m e h' => h1 = h' ∧ ∃ j : Nat, e = (j : Int) ∧ k < j ∧ j ≤ l.length ∧ m = l.length - j ∧ ((l.drop k).take (j - k)).all (fun y => nd y || decide (j = k + 1)) = true, ⟨l.length - (k + 1), rfl, k + 1, rfl, by omega, by omega, rfl, by simp⟩, ?_⟩
      rintro m2 _ _ ⟨rfl, j, rfl, hkj, hjl, rfl, hall⟩
      refine ⟨x, by omega, by rw [Int.toNat_natCast, ba_get]; exact hx, (rSign_c x h1).mono ?_⟩
      rintro _ _ ⟨rfl, rfl⟩
      have stop : nd x = false → j = k + 1 ∧ (if nd x then (l.drop k).takeWhile nd = (l.drop k).take (j - k) else j = k + 1) := fun hn => by
        have : j = k + 1 := by
          rw [hdr, List.all_eq_true] at hall
          have := hall x (by rw [show j - k = (j - k - 1) + 1 by omega, List.take_succ_cons]; simp)
          rw [hn] at this
          simpa using this
        rw [hn, if_neg (by decide)]
        exact ⟨this, this⟩
      refine ⟨_, rfl, Br.mk (fun q2 => ?_) (fun q2 => ?_)⟩
      · refine ⟨x, by omega, by rw [Int.toNat_natCast, ba_get]; exact hx, ?_⟩
        rw [x32]
        refine Br.mk (fun q3 => ?_) (fun q3 => ?_)
        · have hx2 : x ≠ 32 := by simpa using q3
          have hn : nd x = true := by
            have h5 : (!nd x && x != 32) = false := by rw [Bool.not_eq_true'] at q2; exact q2
            rw [q3, Bool.and_true, Bool.not_eq_false'] at h5
            exact h5
          have hall2 : ((l.drop k).take (j - k)).all nd = true := by
            rw [List.all_eq_true] at hall ⊢
            intro y hy
            have := hall y hy
            by_cases hj1 : j = k + 1
            · subst hj1
              rw [hdr] at hy
              have e5 : (x :: l.drop (k + 1)).take (k + 1 - k) = [x] := by rw [show k + 1 - k = 1 by omega]; rfl
              rw [e5, List.mem_singleton] at hy
              rw [hy]; exact hn
            · simpa [hj1] using this
          have fin : (∀ y, (l.drop k)[j - k]? = some y → nd y = false) → (if nd x then (l.drop k).takeWhile nd = (l.drop k).take (j - k) else j = k + 1) := fun hstop => by
            rw [if_pos hn]
            exact tw_at (by rw [List.length_drop]; omega) hall2 hstop
          refine Br.mk (fun q4 => ?_) (fun q4 => ⟨rfl, j, rfl, hkj, hjl, fin fun y hy => ?_⟩)
          · have hjlt : j < l.length := by have := of_decide_eq_true q4; omega
            obtain ⟨y, hy⟩ : ∃ y, l[j]? = some y := ⟨_, List.getElem?_eq_getElem hjlt⟩
            have hyk : (l.drop k)[j - k]? = some y := by rw [List.getElem?_drop, show k + (j - k) = j by omega]; exact hy
            have y32 : ((y.toNat : Int) != 32) = (y != 32) := by
              rw [Bool.eq_iff_iff, bne_iff_ne, bne_iff_ne]
              constructor
              · intro h1 h2; subst h2; exact h1 rfl
              · intro h1 h2; exact h1 (UInt8.toNat_inj.1 (by have : (32 : UInt8).toNat = 32 := rfl; omega))
            have hnot : ∀ {z : UInt8}, nd y = false → (l.drop k)[j - k]? = some z → nd z = false := fun hn2 hz => by rw [hyk] at hz; cases hz; exact hn2
            refine ⟨y, by omega, by rw [Int.toNat_natCast, ba_get]; exact hy, (rSign_c y h1).mono ?_⟩
            rintro _ _ ⟨rfl, rfl⟩
            refine ⟨_, rfl, Br.mk (fun q5 => ?_) (fun q5 => ⟨rfl, j, rfl, hkj, hjl, fin fun z hz => hnot ?_ hz⟩)⟩
            · refine ⟨y, by omega, by rw [Int.toNat_natCast, ba_get]; exact hy, ?_⟩
              rw [y32]
              refine Br.mk (fun q6 => ?_) (fun q6 => ⟨rfl, j, rfl, hkj, hjl, fin fun z hz => hnot ?_ hz⟩)
              · have hny : nd y = true := by
                  have h5 : (!nd y && y != 32) = false := by rw [Bool.not_eq_true'] at q5; exact q5
                  rw [q6, Bool.and_true, Bool.not_eq_false'] at h5
                  exact h5
                rintro _ rfl
                refine ⟨l.length - (j + 1), by omega, rfl, j + 1, wi (by omega) (by omega), by omega, by omega, rfl, ?_⟩
                rw [show j + 1 - k = (j - k) + 1 by omega, List.take_add_one, hyk, List.all_append]
                have : ((l.drop k).take (j - k)).all (fun y => nd y || decide (j + 1 = k + 1)) = true := by
                  rw [List.all_eq_true] at hall2 ⊢
                  intro z hz
                  rw [hall2 z hz]; rfl
                rw [this]
                simp [hny]
              · have : y = 32 := by simpa using q6
                subst this; decide
            · have h5 : (!nd y && y != 32) = true := by simpa using q5
              rw [Bool.and_eq_true, Bool.not_eq_true'] at h5
              exact h5.1
          · have : l.length ≤ j := by have := of_decide_eq_false q4; omega
            rw [List.getElem?_eq_none (by rw [List.length_drop]; omega)] at hy
            cases hy
        · have hx2 : x = 32 := by simpa using q3
          have hn : nd x = false := by rw [hx2]; decide
          exact ⟨rfl, j, rfl, hkj, hjl, (stop hn).2⟩
      · have h5 : (!nd x && x != 32) = true := by simpa using q2
        rw [Bool.and_eq_true, Bool.not_eq_true'] at h5
        exact ⟨rfl, j, rfl, hkj, hjl, (stop h5.1).2⟩
  · have hk' : k = l.length := by have := of_decide_eq_false q; omega
    subst hk'
    rw [List.drop_length, tks_empty, List.append_nil] at hgs
    subst hgs
    exact ⟨A, n, c, rfl, own, hle⟩
end Go.Proofs.YtdpdaphholileaaGreatDoor
