/-
  Contracts: natural.Sub; integer.Add; ratio.Add, ratio.Mul.
-/
import Derived.Test.YtfhipkdcekffaaaGreatDoorCn12
namespace Go.Proofs.YtfhipkdcekffaaaGreatDoor
open Go Go.Vcg
attribute [local irreducible] Br

theorem sub_digit {x y b : Nat} (hx : x < 4294967296) (hy : y < 4294967296) (hb : b ≤ 1) :
    ∃ r b' : Nat, IntKind.u32.wrap (IntKind.u64.wrap ((x : Int) - b - y)) = (r : Int) ∧ Int.fdiv (IntKind.u64.wrap ((x : Int) - b - y)) (2 ^ (63 : Nat)) = (b' : Int) ∧ x + B32 * b' = r + y + b ∧ r < 4294967296 ∧ b' ≤ 1 := by
  have e63 : ((2 : Int) ^ (63 : Nat)) = 9223372036854775808 := by decide
  rw [Int.fdiv_eq_ediv_of_nonneg _ (by decide), e63, wrap_u64_mod, wrap_u32_mod]
  have hB : B32 = 4294967296 := rfl
  rw [hB]
  rcases Nat.lt_or_ge x (y + b) with q | q
  · exact ⟨4294967296 + x - y - b, 1, by omega, by omega, by omega, by omega, by omega⟩
  · exact ⟨x - y - b, 0, by omega, by omega, by omega, by omega, by omega⟩

theorem sub_val {G X Y p q x y r b b' : Nat} (h : G + Y = X + p * b) (hd : x + B32 * b' = r + y + b) (hq : q = p * B32) : (G + p * r) + (Y + p * y) = (X + p * x) + q * b' := by
  subst hq
  have : p * x + p * (B32 * b') = p * r + p * y + p * b := by rw [← Nat.mul_add, hd, Nat.mul_add, Nat.mul_add]
  rw [Nat.mul_assoc]
  omega

theorem sub_c {h : Heap} {A B : Option Addr} {n c m d x y : Nat} (ux : IsN h A n c x) (uy : IsN h B m d y) (hn : n ≤ 1099511627776) (hm : m ≤ 1099511627776) :
    CallsU Tryz.prog 62 [.slice A n c, .slice B m d] h fun r h' => (x < y ∧ r = .tuple #[.slice none 0 0, .bool false] ∧ h = h') ∨ (y ≤ x ∧ ∃ A' k c', r = .tuple #[.slice A' k c', .bool true] ∧ NmN h' A' k c' (x - y) ∧ Le h h') := by
  apply natural_Sub_ok
  refine (trim_n ux (by omega)).mono ?_
  rintro _ _ ⟨n', rfl, hn', nx, rfl⟩
  refine ⟨_, _, _, rfl, (trim_n uy (by omega)).mono ?_⟩
  rintro _ _ ⟨m', rfl, hm', ny, rfl⟩
  refine ⟨_, _, _, rfl, (cmp_c nx.is ny.is (by omega) (by omega)).mono ?_⟩
  rintro _ _ ⟨rfl, rfl⟩
  refine ⟨_, rfl, Br.mk (fun b => ?_) (fun b => ?_)⟩
  · have b' := of_decide_eq_true b
    refine Or.inl ⟨?_, rfl, rfl⟩
    unfold cmpI at b'
    split at b'
    · omega
    · split at b' <;> omega
  · have b' := of_decide_eq_false b
    have hyx : y ≤ x := by
      unfold cmpI at b'
      split at b'
      · omega
      · omega
    have hmn : m' ≤ n' := NmN.le_of ny (nx.sz.le hyx)
    obtain ⟨xs, u, hx, _⟩ := nx
    obtain ⟨ys, w, hy, _⟩ := ny
    subst hx hy
    have lu := u.len
    have lw := w.len
    refine ⟨by omega, by omega, by omega, by omega, ?_⟩
    rintro g _ hg rfl
    simp only [Int.toNat_natCast]
    refine ⟨fun q bo i h' => ∃ (k bN : Nat) (rs : List Nat), q = n' - k ∧ k ≤ n' ∧ i = (k : Int) ∧ bo = (bN : Int) ∧ bN ≤ 1 ∧ rs.length = n' ∧ (∀ z ∈ rs, z < 4294967296) ∧ h' g = some ⟨rs.map lv, 76, (0, 0)⟩ ∧ Le h h' ∧
        val (rs.take k) + val (ys.take k) = val (xs.take k) + B32 ^ k * bN,
      ⟨_, 0, 0, List.replicate n' 0, rfl, by omega, rfl, rfl, by omega, by simp, fun z hz => by rw [(List.mem_replicate.1 hz).2]; decide, by rw [Heap.put_same, repV_lv], Le.new hg _, by simp [val]⟩, ?_⟩
    rintro _ _ _ h5 ⟨k, bN, rs, rfl, hk, rfl, rfl, hb, hrl, hrlt, hbk, hle, hv⟩
    refine Br.mk (fun q => ?_) (fun q => ?_)
    · have q' : k < n' := by have := of_decide_eq_true q; omega
      obtain ⟨ad, hA, hld⟩ := (u.mono hle).get q'
      have lx := u.getD_lt k
      have ly := w.getD_lt k
      rw [Int.toNat_natCast]
      refine ⟨ad, hA, by omega, by omega, _, hld, ?_⟩
      rintro _ rfl
      rw [wu (n := xs.getD k 0) rfl (by omega)]
      obtain ⟨r, b2, d1, d2, d3, d4, d5⟩ := sub_digit lx ly hb
      refine ⟨fun dd h' => h5 = h' ∧ dd = IntKind.u64.wrap (((xs.getD k 0 : Nat) : Int) - bN - ((ys.getD k 0 : Nat) : Int)), ?_, ?_⟩
      · rintro _ _ ⟨rfl, rfl⟩
        refine ⟨_, rfl, by omega, by omega, st_own r hbk (by omega) (by rw [d1]) ?_⟩
        rintro _ rfl _ rfl
        rw [d2, wi (n := k + 1) (by omega) (by omega)]
        refine ⟨_, by omega, k + 1, b2, rs.set k r, rfl, by omega, rfl, rfl, d5, by simp [hrl], mem_set hrlt d4, Heap.put_same _ _ _, hle.put hg _, ?_⟩
        rw [val_take_succ (by simp; omega), take_set_ge (Nat.le_refl _), getD_set_eq (by omega), val_take_succ', val_take_succ']
        exact sub_val hv d3 (Nat.pow_succ _ _)
      · refine Br.mk (fun q2 => ?_) (fun q2 => ?_)
        · have q3 : k < m' := by have := of_decide_eq_true q2; omega
          obtain ⟨ad2, hB, hld2⟩ := (w.mono hle).get q3
          refine ⟨ad2, hB, by omega, by omega, _, hld2, ?_⟩
          rintro _ rfl
          rw [wu (a := ((ys.getD k 0 : Nat) : Int)) (n := ys.getD k 0) rfl (by omega)]
          refine ⟨rfl, ?_⟩
          rw [wrap_u64_mod, wrap_u64_mod, wrap_u64_mod]
          omega
        · have q3 : m' ≤ k := by have := of_decide_eq_false q2; omega
          refine ⟨rfl, ?_⟩
          rw [getD_ge (xs := ys) (k := k) (by omega)]
          congr 1
          omega
    · have q' : k = n' := by have := of_decide_eq_false q; omega
      subst q'
      have hg1 := val_lt (l := rs) hrlt
      rw [List.take_of_length_le (by omega), List.take_of_length_le (by omega), List.take_of_length_le (by omega)] at hv
      rw [hrl] at hg1
      have b0 : bN = 0 := by
        rcases Nat.eq_zero_or_pos bN with e | e
        · exact e
        · exfalso
          have : bN = 1 := by omega
          subst this
          omega
      subst b0
      have us := U32.of_blk (m := k) (k := k) hbk hrlt (by omega) (Nat.le_refl _)
      rw [List.take_of_length_le (by omega)] at us
      refine (trim_n ⟨_, us, rfl⟩ (by omega)).mono ?_
      rintro _ _ ⟨m2, rfl, _, hN, rfl⟩
      rw [show val rs = val xs - val ys from by omega] at hN
      exact ⟨_, _, _, rfl, Or.inr ⟨hyx, _, _, _, rfl, hN, hle⟩⟩

theorem iadd_c {h : Heap} {s s2 : Bool} {A B : Option Addr} {n c m d : Nat} {z w : Int} (u : IsI h s A n c z) (v : IsI h s2 B m d w) (hn : n ≤ 549755813888) (hm : m ≤ 549755813888) :
    CallsU Tryz.prog 41 [.agg #[.bool s, .slice A n c], .agg #[.bool s2, .slice B m d]] h fun r h' => ∃ s' A' k c', r = .agg #[.bool s', .slice A' k c'] ∧ NmI h' s' A' k c' (z + w) ∧ k ≤ max n m + 1 ∧ Le h h' := by
  apply integer_Add_ok
  obtain ⟨x, ux, rfl⟩ := u
  obtain ⟨y, uy, rfl⟩ := v
  have hsx : Sz x (max n m) := ux.sz.mono (by omega)
  have hsy : Sz y (max n m) := uy.sz.mono (by omega)
  refine Br.mk (fun q => ?_) (fun q => ?_)
  · have e : s = s2 := by simpa using q
    subst e
    refine (add_c ux uy (by omega) (by omega)).mono ?_
    rintro _ h1 ⟨A', k, c', rfl, hN, hl⟩
    have hk := NmN.le_of hN (hsx.add hsy)
    refine ⟨_, _, _, rfl, (signed_c (s := s) (z := (if s then -(x : Int) else x) + (if s then -(y : Int) else y)) ⟨_, hN.is, by cases s <;> simp <;> omega⟩ (by omega)).mono ?_⟩
    rintro _ _ ⟨s', A', k, c', rfl, r, hk', hl'⟩
    exact ⟨_, _, _, _, rfl, _, _, _, _, rfl, r, by omega, hl.trans hl'⟩
  · have e : s2 = !s := by cases s <;> cases s2 <;> simp at q ⊢
    subst e
    refine (sub_c ux uy (by omega) (by omega)).mono ?_
    rintro _ h1 (⟨hlt, rfl, rfl⟩ | ⟨hge, A1, k1, c1, rfl, hN, hl⟩)
    · refine ⟨_, _, _, _, rfl, Br.mk (fun q => by cases q) (fun _ => ?_)⟩
      refine (sub_c uy ux (by omega) (by omega)).mono ?_
      rintro _ h1 (⟨hlt2, _⟩ | ⟨hge, A1, k1, c1, rfl, hN, hl⟩)
      · omega
      · have hk := NmN.le_of hN (hsy.le (Nat.sub_le _ _))
        refine ⟨_, _, _, _, rfl, (signed_c (s := !s) (z := (if s then -(x : Int) else x) + (if (!s) = true then -(y : Int) else y)) ⟨_, hN.is, by cases s <;> simp <;> omega⟩ (by omega)).mono ?_⟩
        rintro _ _ ⟨s', A', k, c', rfl, r, hk', hl'⟩
        exact ⟨_, _, _, _, rfl, _, _, _, _, rfl, r, by omega, hl.trans hl'⟩
    · have hk := NmN.le_of hN (hsx.le (Nat.sub_le _ _))
      refine ⟨_, _, _, _, rfl, Br.mk (fun _ => ?_) (fun q => by cases q)⟩
      refine (signed_c (s := s) (z := (if s then -(x : Int) else x) + (if (!s) = true then -(y : Int) else y)) ⟨_, hN.is, by cases s <;> simp <;> omega⟩ (by omega)).mono ?_
      rintro _ _ ⟨s', A', k, c', rfl, r, hk', hl'⟩
      exact ⟨_, _, _, _, rfl, _, _, _, _, rfl, r, by omega, hl.trans hl'⟩

theorem radd_c {h : Heap} {s s2 : Bool} {A B C D : Option Addr} {n c m d n2 c2 m2 d2 : Nat} {q p : Rat} (u : IsQ h s A n c B m d q) (w : IsQ h s2 C n2 c2 D m2 d2 p) (hn : n ≤ 134217728) (hm : m ≤ 134217728) (hn2 : n2 ≤ 134217728) (hm2 : m2 ≤ 134217728) :
    CallsU Tryz.prog 17 [.agg #[.bool s, .slice A n c, .slice B m d], .agg #[.bool s2, .slice C n2 c2, .slice D m2 d2]] h fun r h' => ∃ s' A' n' c' B' m' d', r = .agg #[.bool s', .slice A' n' c', .slice B' m' d'] ∧ NmQ h' s' A' n' c' B' m' d' (q + p) ∧ Le h h' := by
  apply ratio_Add_ok
  refine (rvalue_c u (by omega)).mono ?_
  rintro _ h1 ⟨s1, A1, n1, c1, B1, m1, d1, rfl, ⟨z, v, hv, uz, uv, rfl⟩, hn1, hm1, hl1⟩
  refine ⟨_, _, _, _, _, _, _, rfl, (rvalue_c (w.mono hl1) (by omega)).mono ?_⟩
  rintro _ h2 ⟨s3, A3, n3, c3, B3, m3, d3, rfl, ⟨y, t, ht, uy, ut, rfl⟩, hn3, hm3, hl2⟩
  refine ⟨_, _, _, _, _, _, _, rfl, (rpos_c ut).mono ?_⟩
  rintro _ _ ⟨rfl, pt, rfl⟩
  refine ⟨_, _, _, _, rfl, (imul_c (uz.mono hl2) pt (by omega) (by omega)).mono ?_⟩
  rintro _ h3 ⟨s4, A4, k4, c4, rfl, hN4, hk4, hl4⟩
  refine ⟨_, _, _, _, rfl, (rpos_c ((uv.mono hl2).mono hl4)).mono ?_⟩
  rintro _ _ ⟨rfl, pv, rfl⟩
  refine ⟨_, _, _, _, rfl, (imul_c (uy.mono hl4) pv (by omega) (by omega)).mono ?_⟩
  rintro _ h5 ⟨s6, A6, k6, c6, rfl, hN6, hk6, hl6⟩
  refine ⟨_, _, _, _, rfl, (iadd_c (hN4.mono hl6).is hN6.is (by omega) (by omega)).mono ?_⟩
  rintro _ h6 ⟨s7, A7, k7, c7, rfl, hN7, hk7, hl7⟩
  have hl27 := (hl4.trans hl6).trans hl7
  refine ⟨_, _, _, _, rfl, (mul_c ((uv.mono hl2).mono hl27) (ut.mono hl27) (by omega) (by omega)).mono ?_⟩
  rintro _ h7 ⟨A8, k8, c8, rfl, hN8, hl8⟩
  have hk8 := NmN.le_of hN8 (uv.sz.mul ut.sz)
  refine ⟨_, _, _, rfl, (reduce_c (hN7.mono hl8).is hN8.is (Nat.mul_ne_zero hv ht) (by omega) (by omega)).mono ?_⟩
  rintro _ h8 ⟨s9, A9, n9, c9, B9, m9, d9, rfl, hN9, _, _, hl9⟩
  rw [← Rat.mkRat_add_mkRat _ _ hv ht] at hN9
  exact ⟨_, _, _, _, _, _, _, rfl, _, _, _, _, _, _, _, rfl, hN9, ((hl1.trans hl2).trans hl27).trans (hl8.trans hl9)⟩

theorem rmul_c {h : Heap} {s s2 : Bool} {A B C D : Option Addr} {n c m d n2 c2 m2 d2 : Nat} {q p : Rat} (u : IsQ h s A n c B m d q) (w : IsQ h s2 C n2 c2 D m2 d2 p) (hn : n ≤ 134217728) (hm : m ≤ 134217728) (hn2 : n2 ≤ 134217728) (hm2 : m2 ≤ 134217728) :
    CallsU Tryz.prog 18 [.agg #[.bool s, .slice A n c, .slice B m d], .agg #[.bool s2, .slice C n2 c2, .slice D m2 d2]] h fun r h' => ∃ s' A' n' c' B' m' d', r = .agg #[.bool s', .slice A' n' c', .slice B' m' d'] ∧ NmQ h' s' A' n' c' B' m' d' (q * p) ∧ n' ≤ n + n2 ∧ m' ≤ max m 2 + max m2 2 ∧ Le h h' := by
  apply ratio_Mul_ok
  refine (rvalue_c u (by omega)).mono ?_
  rintro _ h1 ⟨s1, A1, n1, c1, B1, m1, d1, rfl, ⟨z, v, hv, uz, uv, rfl⟩, hn1, hm1, hl1⟩
  refine ⟨_, _, _, _, _, _, _, rfl, (rvalue_c (w.mono hl1) (by omega)).mono ?_⟩
  rintro _ h2 ⟨s3, A3, n3, c3, B3, m3, d3, rfl, ⟨y, t, ht, uy, ut, rfl⟩, hn3, hm3, hl2⟩
  refine ⟨_, _, _, _, _, _, _, rfl, (imul_c (uz.mono hl2) uy (by omega) (by omega)).mono ?_⟩
  rintro _ h3 ⟨s4, A4, k4, c4, rfl, hN4, hk4, hl4⟩
  refine ⟨_, _, _, _, rfl, (mul_c ((uv.mono hl2).mono hl4) (ut.mono hl4) (by omega) (by omega)).mono ?_⟩
  rintro _ h7 ⟨A8, k8, c8, rfl, hN8, hl8⟩
  have hk8 := NmN.le_of hN8 (uv.sz.mul ut.sz)
  refine ⟨_, _, _, rfl, (reduce_c (hN4.mono hl8).is hN8.is (Nat.mul_ne_zero hv ht) (by omega) (by omega)).mono ?_⟩
  rintro _ h8 ⟨s9, A9, n9, c9, B9, m9, d9, rfl, hN9, b1, b2, hl9⟩
  rw [← Rat.mkRat_mul_mkRat] at hN9
  exact ⟨_, _, _, _, _, _, _, rfl, _, _, _, _, _, _, _, rfl, hN9, by omega, by omega, ((hl1.trans hl2).trans hl4).trans (hl8.trans hl9)⟩
end Go.Proofs.YtfhipkdcekffaaaGreatDoor
