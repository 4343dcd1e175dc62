/-
  The laws SamplingExactly, SamplingSums, SamplingMean return true, for every input.
-/
import Derived.Test.YtfhipkdcekffaaaGreatDoorRf4
import Derived.Test.YtfhipkdcekffaaaGreatDoorCn16
namespace Go.Proofs.YtfhipkdcekffaaaGreatDoor
open Go Go.Vcg
attribute [local irreducible] Br

theorem cmpQ_self (q : Rat) : cmpQ q q = 0 := by
  unfold cmpQ
  rw [if_neg Rat.lt_irrefl, if_neg Rat.lt_irrefl]

theorem mkRat_add_same (a b v : Nat) (hv : v ≠ 0) : mkRat ((a : Nat) : Int) v + mkRat ((b : Nat) : Int) v = mkRat ((a + b : Nat) : Int) v := by
  rw [Rat.mkRat_add_mkRat _ _ hv hv, ← Int.add_mul, Rat.mkRat_mul_right hv, Int.natCast_add]

theorem NmQ.lens {h : Heap} {s : Bool} {A B : Option Addr} {n c m d a v ka kv : Nat} (u : NmQ h s A n c B m d (mkRat ((a : Nat) : Int) v)) (hv : v ≠ 0) (ha : Sz a ka) (hb : Sz v kv) : n ≤ ka ∧ m ≤ kv := by
  have h1 := mkRat_le (z := ((a : Nat) : Int)) (v := v)
  exact ⟨NmN.le_of u.1.1 (ha.le (by simpa using h1.1)), NmN.le_of u.2 (hb.le (h1.2 hv))⟩

/-! ### the reference -/
theorem rchoose_c (n k : Nat) (hn : n ≤ 200) (h : Heap) (hk : k ≤ 200) :
    CallsU Tryz.prog 28 [.int .i64 n, .int .i64 k] h fun r h' => ∃ A m c, r = .slice A m c ∧ NmN h' A m c (chs n k) ∧ Le h h' := by
  apply ref53_choose_ok
  refine ⟨fun b h' => h = h' ∧ b = decide (k > n), ?_, ?_⟩
  · rintro _ _ ⟨rfl, rfl⟩
    refine Br.mk (fun q => ?_) (fun q => ?_)
    · have q' := of_decide_eq_true q
      refine (r1of_c 0 (by omega) h).mono ?_
      rintro _ h1 ⟨A, m, c, rfl, hm, hN, hl⟩
      exact ⟨_, _, _, rfl, _, _, _, rfl, by rw [chs_gt q']; exact hN, hl⟩
    · have q' := of_decide_eq_false q
      refine (r1of_c 1 (by omega) h).mono ?_
      rintro _ h1 ⟨A, m, c, rfl, hm, hN, hl⟩
      refine ⟨_, _, _, rfl, fun mm rA rn rc i h' => ∃ iN : Nat, mm = k + 1 - iN ∧ i = (iN : Int) + 1 ∧ iN ≤ k ∧ NmN h' rA rn rc (chs (n - k + iN) iN) ∧ Le h h', ⟨k + 1, 0, rfl, rfl, by omega, by rw [chs_zero]; exact hN, hl⟩, ?_⟩
      rintro _ rA rn rc _ h2 ⟨i, rfl, rfl, hi, hN2, hl2⟩
      have hs := chs_sz (n := n - k + i) i (by omega)
      have hlen := NmN.le_of hN2 hs
      refine Br.mk (fun q2 => ?_) (fun q2 => ?_)
      · have q3 : i + 1 ≤ k := by have := of_decide_eq_true q2; omega
        rintro _ rfl _ rfl
        rw [wi (a := (n : Int) - (k : Int)) (n := n - k) (by omega) (by omega), wi (n := n - k + i + 1) (by omega) (by omega), wu (n := n - k + i + 1) rfl (by omega)]
        refine (r1of_c _ (by omega) h2).mono ?_
        rintro _ h3 ⟨A3, m3, c3, rfl, hm3, hN3, hl3⟩
        refine ⟨_, _, _, rfl, (r1mul_c (hN2.mono hl3).is hN3.is (by omega) (by omega)).mono ?_⟩
        rintro _ h4 ⟨A4, m4, c4, rfl, hN4, hl4⟩
        have hlen4 := NmN.le_of hN4 (hs.mul (Sz.u64 (show n - k + i + 1 < 18446744073709551616 by omega)))
        rw [wu (n := i + 1) (by omega) (by omega)]
        refine ⟨_, _, _, rfl, (r1of_c _ (by omega) h4).mono ?_⟩
        rintro _ h5 ⟨A5, m5, c5, rfl, hm5, hN5, hl5⟩
        refine ⟨_, _, _, rfl, (r1divmod_c (hN4.mono hl5).is hN5.is (by omega) (by omega) (by omega)).mono ?_⟩
        rintro _ h6 ⟨A6, m6, c6, A7, m7, c7, rfl, hN6, _, hl6⟩
        refine ⟨_, _, _, _, _, _, _, rfl, ?_⟩
        rintro _ rfl
        rw [wi (n := i + 1 + 1) (by omega) (by omega)]
        refine ⟨k + 1 - (i + 1), by omega, i + 1, rfl, rfl, q3, ?_, (((hl2.trans hl3).trans hl4).trans hl5).trans hl6⟩
        have e : chs (n - k + i) i * (n - k + i + 1) / (i + 1) = chs (n - k + (i + 1)) (i + 1) := by
          rw [Nat.mul_comm, ← chs_mul, Nat.mul_div_cancel_left _ (by omega)]
          rfl
        rw [← e]
        exact hN6
      · have q3 : i = k := by have := of_decide_eq_false q2; omega
        subst q3
        rw [show n - i + i = n from by omega] at hN2
        exact ⟨_, _, _, rfl, hN2, hl2⟩
  · refine Br.mk (fun q => by have := of_decide_eq_true q; omega) (fun _ => ⟨rfl, ?_⟩)
    rw [Bool.eq_iff_iff, decide_eq_true_eq, decide_eq_true_eq]
    omega

theorem rexactly_bad {n c lot def_ found : Int} (hbad : ¬ (okP n c lot = true ∧ 0 ≤ def_ ∧ def_ ≤ lot ∧ 0 ≤ found ∧ found ≤ n)) (h : Heap) :
    CallsU Tryz.prog 9 [.agg #[.int .i64 n, .int .i64 c], .int .i64 lot, .int .i64 def_, .int .i64 found] h fun r h' => r = .tuple #[zeroQ, .int .i64 3] ∧ h = h' := by
  apply ref53_Exactly_ok
  refine ⟨fun b h' => b = true ∧ h = h', ?_, (rcheck_c n c lot h).mono ?_⟩
  · rintro _ _ ⟨rfl, rfl⟩
    exact Br.mk (fun _ => ⟨rfl, rfl⟩) (fun q => by cases q)
  · rintro _ _ ⟨rfl, rfl⟩
    refine ⟨_, rfl, ?_⟩
    rw [chk_bne]
    refine Br.mk (fun _ => ⟨rfl, rfl⟩) (fun q => Br.mk (fun _ => ⟨rfl, rfl⟩) (fun q1 => Br.mk (fun _ => ⟨rfl, rfl⟩) (fun q2 => Br.mk (fun _ => ⟨rfl, rfl⟩) (fun q3 => ⟨?_, rfl⟩))))
    simp at q q1 q2 q3 ⊢
    rcases Int.lt_or_le n found with a | a
    · exact a
    · exact absurd ⟨q, q1, q2, q3, a⟩ hbad

theorem rexactly_c {n c lot def_ found : Nat} (hok : okP n c lot = true) (hd : def_ ≤ lot) (hf : found ≤ n) (h : Heap) :
    CallsU Tryz.prog 9 [.agg #[.int .i64 n, .int .i64 c], .int .i64 lot, .int .i64 def_, .int .i64 found] h fun r h' => ∃ s' A' n' c' B' m' d', r = .tuple #[.agg #[.bool s', .slice A' n' c', .slice B' m' d'], .int .i64 0] ∧ NmQ h' s' A' n' c' B' m' d' (pEx n lot def_ found) ∧ n' ≤ 14 ∧ m' ≤ 7 ∧ Le h h' := by
  apply ref53_Exactly_ok
  have hk := okP_iff.1 hok
  refine ⟨fun b h' => b = false ∧ h = h', ?_, (rcheck_c n c lot h).mono ?_⟩
  · rintro _ _ ⟨rfl, rfl⟩
    refine Br.mk (fun q => by cases q) (fun _ => ?_)
    rintro _ rfl _ rfl
    rw [wi (n := lot - def_) (by omega) (by omega), wi (n := n - found) (by omega) (by omega)]
    refine (rchoose_c def_ found (by omega) h (by omega)).mono ?_
    rintro _ h1 ⟨A, m, c', rfl, hN, hl⟩
    refine ⟨_, _, _, rfl, (rchoose_c (lot - def_) (n - found) (by omega) h1 (by omega)).mono ?_⟩
    rintro _ h2 ⟨A2, m2, c2, rfl, hN2, hl2⟩
    have l1 := NmN.le_of hN (chs_sz found (by omega))
    have l2 := NmN.le_of hN2 (chs_sz (n - found) (by omega))
    refine ⟨_, _, _, rfl, (r1mul_c (hN.mono hl2).is hN2.is (by omega) (by omega)).mono ?_⟩
    rintro _ h3 ⟨A3, m3, c3, rfl, hN3, hl3⟩
    have l3 := NmN.le_of hN3 ((chs_sz (n := def_) found (by omega)).mul (chs_sz (n := lot - def_) (n - found) (by omega)))
    refine ⟨_, _, _, rfl, (rchoose_c lot n (by omega) h3 (by omega)).mono ?_⟩
    rintro _ h4 ⟨A4, m4, c4, rfl, hN4, hl4⟩
    have l4 := NmN.le_of hN4 (chs_sz n (by omega))
    refine ⟨_, _, _, rfl, (r3norm_c (q := pEx n lot def_ found) ⟨_, _, IsI.pos (hN3.mono hl4).is, hN4.is, rfl⟩ (by omega) (by omega)).mono ?_⟩
    rintro _ h5 ⟨s', A', n', c', B', m', d', rfl, hQ, a1, a2, hl5⟩
    exact ⟨_, _, _, _, _, _, _, rfl, _, _, _, _, _, _, _, rfl, hQ, by omega, by omega, (((hl.trans hl2).trans hl3).trans hl4).trans hl5⟩
  · rintro _ _ ⟨rfl, rfl⟩
    refine ⟨_, rfl, ?_⟩
    rw [chk_bne, hok]
    refine Br.mk (fun q => by cases q) (fun _ => Br.mk (fun q => by simp at q; omega) (fun _ => Br.mk (fun q => by simp at q; omega) (fun _ => Br.mk (fun q => by simp at q; omega) (fun _ => ⟨?_, rfl⟩))))
    simp; omega

theorem raccept_bad {n c lot def_ : Int} (hbad : ¬ (okP n c lot = true ∧ 0 ≤ def_ ∧ def_ ≤ lot)) (h : Heap) :
    CallsU Tryz.prog 11 [.agg #[.int .i64 n, .int .i64 c], .int .i64 lot, .int .i64 def_] h fun r h' => r = .tuple #[zeroQ, .int .i64 3] ∧ h = h' := by
  apply ref53_Accept_ok
  refine ⟨fun b h' => b = true ∧ h = h', ?_, (rcheck_c n c lot h).mono ?_⟩
  · rintro _ _ ⟨rfl, rfl⟩
    exact Br.mk (fun _ => ⟨rfl, rfl⟩) (fun q => by cases q)
  · rintro _ _ ⟨rfl, rfl⟩
    refine ⟨_, rfl, ?_⟩
    rw [chk_bne]
    refine Br.mk (fun _ => ⟨rfl, rfl⟩) (fun q => Br.mk (fun _ => ⟨rfl, rfl⟩) (fun q1 => ⟨?_, rfl⟩))
    simp at q q1 ⊢
    rcases Int.lt_or_le lot def_ with a | a
    · exact a
    · exact absurd ⟨q, q1, a⟩ hbad

theorem sum_le {n k d L : Nat} (hk : k ≤ n + 1) (hd : d ≤ L) : sm (stf d (L - d) n) k ≤ chs L n := by
  have := sm_le (f := stf d (L - d) n) hk
  rw [vander, show d + (L - d) = L from by omega] at this
  exact this

theorem pEx_stf (n L d f : Nat) : pEx n L d f = mkRat ((stf d (L - d) n f : Nat) : Int) (chs L n) := rfl

theorem raccept_c {n c lot def_ : Nat} (hok : okP n c lot = true) (hd : def_ ≤ lot) (h : Heap) :
    CallsU Tryz.prog 11 [.agg #[.int .i64 n, .int .i64 c], .int .i64 lot, .int .i64 def_] h fun r h' => ∃ s' A' n' c' B' m' d', r = .tuple #[.agg #[.bool s', .slice A' n' c', .slice B' m' d'], .int .i64 0] ∧ NmQ h' s' A' n' c' B' m' d' (pAc n c lot def_) ∧ n' ≤ 7 ∧ m' ≤ 7 ∧ Le h h' := by
  apply ref53_Accept_ok
  have hk := okP_iff.1 hok
  have hv : chs lot n ≠ 0 := by have := chs_pos (show n ≤ lot by omega); omega
  refine ⟨fun b h' => b = false ∧ h = h', ?_, (rcheck_c n c lot h).mono ?_⟩
  · rintro _ _ ⟨rfl, rfl⟩
    refine Br.mk (fun q => by cases q) (fun _ => (whole_c 0 (by omega) (by omega) h).mono ?_)
    rintro _ h1 ⟨s1, A1, n1, c1, B1, m1, d1, rfl, hQ1, _, _, hl1⟩
    refine ⟨_, _, _, _, _, _, _, rfl, fun mm i o0 o1A o1n o1c o2A o2n o2c h' => ∃ k : Nat, mm = c + 1 - k ∧ k ≤ c + 1 ∧ i = (k : Int) ∧ NmQ h' o0 o1A o1n o1c o2A o2n o2c (mkRat ((sm (stf def_ (lot - def_) n) k : Nat) : Int) (chs lot n)) ∧ Le h h', ⟨_, 0, rfl, by omega, rfl, ?_, hl1⟩, ?_⟩
    · have e : mkRat ((sm (stf def_ (lot - def_) n) 0 : Nat) : Int) (chs lot n) = ((0 : Int) : Rat) := by simp [sm]
      rw [e]; exact hQ1
    rintro _ _ o0 o1A o1n o1c o2A o2n o2c h2 ⟨k, rfl, hkc, rfl, hQ2, hl2⟩
    have hsz := (chs_sz (n := lot) n (by omega))
    have hlen := NmQ.lens hQ2 hv (hsz.le (sum_le (by omega) hd)) hsz
    refine Br.mk (fun q => ?_) (fun q => ?_)
    · have q' : k ≤ c := by have := of_decide_eq_true q; omega
      refine (rexactly_c hok hd (by omega) h2).mono ?_
      rintro _ h3 ⟨s3, A3, n3, c3, B3, m3, d3, rfl, hQ3, a3, b3, hl3⟩
      refine ⟨_, _, _, _, _, _, _, _, rfl, (r3add_c (hQ2.mono hl3).is hQ3.is (by omega) (by omega) (by omega) (by omega)).mono ?_⟩
      rintro _ h4 ⟨s4, A4, n4, c4, B4, m4, d4, rfl, hQ4, hl4⟩
      refine ⟨_, _, _, _, _, _, _, rfl, ?_⟩
      rintro _ rfl
      rw [wi (n := k + 1) (by omega) (by omega)]
      rw [pEx_stf, mkRat_add_same _ _ _ hv] at hQ4
      exact ⟨_, by omega, k + 1, rfl, by omega, rfl, hQ4, (hl2.trans hl3).trans hl4⟩
    · have q' : k = c + 1 := by have := of_decide_eq_false q; omega
      subst q'
      exact ⟨_, _, _, _, _, _, _, rfl, hQ2, hlen.1, hlen.2, hl2⟩
  · rintro _ _ ⟨rfl, rfl⟩
    refine ⟨_, rfl, ?_⟩
    rw [chk_bne, hok]
    refine Br.mk (fun q => by cases q) (fun _ => Br.mk (fun q => by simp at q; omega) (fun _ => ⟨?_, rfl⟩))
    simp; omega

/-! ### the laws -/
theorem exa {h1 : Heap} {K : Bool → Heap → Prop} (k : ∀ h2, Le h1 h2 → K true h2) : CallsU Tryz.prog 7 [] h1 fun v h2 => ∃ t : Bool, v = Value.bool t ∧ K t h2 :=
  (example_c h1).mono (by rintro _ h3 ⟨rfl, hl⟩; exact ⟨_, rfl, k _ hl⟩)

theorem exactly_law (n c size d f : Int) (h : Heap) : CallsU Tryz.prog 3 [.agg #[.int .i64 n, .int .i64 c], .agg #[.int .i64 size, .int .i64 d, .int .i64 f]] h fun r h' => r = .bool true ∧ Le h h' := by
  apply law53_SamplingExactly_ok
  have hlight : CallsU Tryz.prog 6 [.agg #[.int .i64 size, .int .i64 d, .int .i64 f]] h fun r h' => (∃ b, r = .bool b) ∧ h = h' := by
    apply law53_light_ok
    exact Br.mk (fun _ => ⟨⟨_, rfl⟩, rfl⟩) (fun _ => ⟨⟨_, rfl⟩, rfl⟩)
  refine hlight.mono ?_
  rintro _ _ ⟨⟨b, rfl⟩, rfl⟩
  refine ⟨_, rfl, Br.mk (fun _ => exa fun h2 hl => ⟨rfl, hl⟩) (fun _ => ?_)⟩
  have acc2 : ∀ (h2 : Heap), (∃ q, (okP n c size = true ∧ 0 ≤ d ∧ d ≤ size) ∧ CallsU Tryz.prog 10 [.agg #[.int .i64 n, .int .i64 c], .int .i64 size, .int .i64 d] h2 (fun r h' => ∃ s' A' n' c' B' m' d', r = .tuple #[.agg #[.bool s', .slice A' n' c', .slice B' m' d'], .int .i64 0] ∧ NmQ h' s' A' n' c' B' m' d' q ∧ n' ≤ 7 ∧ m' ≤ 7 ∧ Le h2 h') ∧
      ∀ h3, CallsU Tryz.prog 11 [.agg #[.int .i64 n, .int .i64 c], .int .i64 size, .int .i64 d] h3 (fun r h' => ∃ s' A' n' c' B' m' d', r = .tuple #[.agg #[.bool s', .slice A' n' c', .slice B' m' d'], .int .i64 0] ∧ NmQ h' s' A' n' c' B' m' d' q ∧ n' ≤ 7 ∧ m' ≤ 7 ∧ Le h3 h')) ∨
      (CallsU Tryz.prog 10 [.agg #[.int .i64 n, .int .i64 c], .int .i64 size, .int .i64 d] h2 (fun r h' => r = .tuple #[zeroQ, .int .i64 3] ∧ h2 = h') ∧
        ∀ h3, CallsU Tryz.prog 11 [.agg #[.int .i64 n, .int .i64 c], .int .i64 size, .int .i64 d] h3 (fun r h' => r = .tuple #[zeroQ, .int .i64 3] ∧ h3 = h')) := by
    intro h2
    by_cases hb : okP n c size = true ∧ 0 ≤ d ∧ d ≤ size
    · left
      obtain ⟨ok, hd0, hd1⟩ := hb
      have hk := okP_iff.1 ok
      obtain ⟨nN, rfl⟩ := Int.eq_ofNat_of_zero_le (show 0 ≤ n by omega)
      obtain ⟨cN, rfl⟩ := Int.eq_ofNat_of_zero_le (show 0 ≤ c by omega)
      obtain ⟨L, rfl⟩ := Int.eq_ofNat_of_zero_le (show 0 ≤ size by omega)
      obtain ⟨dN, rfl⟩ := Int.eq_ofNat_of_zero_le hd0
      exact ⟨_, ⟨ok, hd0, hd1⟩, accept_c ok (by omega) h2, fun h3 => raccept_c ok (by omega) h3⟩
    · right
      exact ⟨accept_bad hb h2, fun h3 => raccept_bad hb h3⟩
  have fin : ∀ (h1 h2 : Heap) (s1 : Bool) (A1 : Option Addr) (n1 c1 : Nat) (B1 : Option Addr) (m1 d1 : Nat) (s2 : Bool) (A2 : Option Addr) (n2 c2 : Nat) (B2 : Option Addr) (m2 d2 : Nat) (e1 e2 : Int), Le h h2 → e1 = e2 →
      (∀ h3, Le h2 h3 → CallsU Tryz.prog 12 [.agg #[.bool s1, .slice A1 n1 c1, .slice B1 m1 d1], .agg #[.bool s2, .slice A2 n2 c2, .slice B2 m2 d2]] h3 fun r h' => r = .bool true ∧ h3 = h') →
      CallsU Tryz.prog 10 [.agg #[.int .i64 n, .int .i64 c], .int .i64 size, .int .i64 d] h2 fun v_4 h_5 =>
        ∃ t45_0_0 : Bool, ∃ t45_0_1A : Option Addr, ∃ t45_0_1n t45_0_1c : Nat, ∃ t45_0_2A : Option Addr, ∃ t45_0_2n t45_0_2c : Nat, ∃ t45_1 : Int, v_4 = Value.tuple #[Value.agg #[Value.bool t45_0_0, Value.slice t45_0_1A t45_0_1n t45_0_1c, Value.slice t45_0_2A t45_0_2n t45_0_2c], Value.int .i64 t45_1] ∧
        CallsU Tryz.prog 11 [Value.agg #[Value.int .i64 n, Value.int .i64 c], Value.int .i64 size, Value.int .i64 d] h_5 fun v_5 h_6 =>
        ∃ t54_0_0 : Bool, ∃ t54_0_1A : Option Addr, ∃ t54_0_1n t54_0_1c : Nat, ∃ t54_0_2A : Option Addr, ∃ t54_0_2n t54_0_2c : Nat, ∃ t54_1 : Int, v_5 = Value.tuple #[Value.agg #[Value.bool t54_0_0, Value.slice t54_0_1A t54_0_1n t54_0_1c, Value.slice t54_0_2A t54_0_2n t54_0_2c], Value.int .i64 t54_1] ∧
        Br ((e1 : Int) == e2)
          (Br ((t45_1 : Int) == t54_1)
          (CallsU Tryz.prog 12 [Value.agg #[Value.bool s1, Value.slice A1 n1 c1, Value.slice B1 m1 d1], Value.agg #[Value.bool s2, Value.slice A2 n2 c2, Value.slice B2 m2 d2]] h_6 fun v_6 h_7 =>
        ∃ t68 : Bool, v_6 = Value.bool t68 ∧
        Br (t68)
          (CallsU Tryz.prog 12 [Value.agg #[Value.bool t45_0_0, Value.slice t45_0_1A t45_0_1n t45_0_1c, Value.slice t45_0_2A t45_0_2n t45_0_2c], Value.agg #[Value.bool t54_0_0, Value.slice t54_0_1A t54_0_1n t54_0_1c, Value.slice t54_0_2A t54_0_2n t54_0_2c]] h_7 fun v_7 h_8 =>
        ∃ t73 : Bool, v_7 = Value.bool t73 ∧
        Br (t73)
          (CallsU Tryz.prog 7 [] h_8 fun v_8 h_9 =>
        ∃ t76 : Bool, v_8 = Value.bool t76 ∧
        (Value.bool t76 = .bool true ∧ Le h h_9))
          (Value.bool false = .bool true ∧ Le h h_8))
          (Value.bool false = .bool true ∧ Le h h_7))
          (Value.bool false = .bool true ∧ Le h h_6))
          (Value.bool false = .bool true ∧ Le h h_6) := by
    intro h1 h2 s1 A1 n1 c1 B1 m1 d1 s2 A2 n2 c2 B2 m2 d2 e1 e2 hle he hsame
    subst he
    rcases acc2 h2 with ⟨q, _, ca, cr⟩ | ⟨ca, cr⟩
    · refine ca.mono ?_
      rintro _ h5 ⟨s5, A5, n5, c5, B5, m5, d5, rfl, hQ5, a5, b5, hl5⟩
      refine ⟨_, _, _, _, _, _, _, _, rfl, (cr h5).mono ?_⟩
      rintro _ h6 ⟨s6, A6, n6, c6, B6, m6, d6, rfl, hQ6, a6, b6, hl6⟩
      refine ⟨_, _, _, _, _, _, _, _, rfl, Br.mk (fun _ => Br.mk (fun _ => ?_) (fun q => by simp at q)) (fun q => by simp at q)⟩
      refine (hsame h6 (hl5.trans hl6)).mono ?_
      rintro _ _ ⟨rfl, rfl⟩
      refine ⟨_, rfl, Br.mk (fun _ => (same_c (hQ5.mono hl6) hQ6 (by omega) (by omega)).mono ?_) (fun q => by cases q)⟩
      rintro _ _ ⟨rfl, rfl⟩
      exact ⟨_, rfl, Br.mk (fun _ => exa fun h9 hl => ⟨rfl, ((hle.trans hl5).trans hl6).trans hl⟩) (fun q => by cases q)⟩
    · refine ca.mono ?_
      rintro _ _ ⟨rfl, rfl⟩
      refine ⟨_, _, _, _, _, _, _, _, rfl, (cr h2).mono ?_⟩
      rintro _ _ ⟨rfl, rfl⟩
      refine ⟨_, _, _, _, _, _, _, _, rfl, Br.mk (fun _ => Br.mk (fun _ => ?_) (fun q => by simp at q)) (fun q => by simp at q)⟩
      refine (hsame h2 (Le.refl _)).mono ?_
      rintro _ _ ⟨rfl, rfl⟩
      refine ⟨_, rfl, Br.mk (fun _ => (same_zero h2).mono ?_) (fun q => by cases q)⟩
      rintro _ _ ⟨rfl, rfl⟩
      exact ⟨_, rfl, Br.mk (fun _ => exa fun h9 hl => ⟨rfl, hle.trans hl⟩) (fun q => by cases q)⟩
  by_cases hb : okP n c size = true ∧ 0 ≤ d ∧ d ≤ size ∧ 0 ≤ f ∧ f ≤ n
  · have hb' := hb
    obtain ⟨ok, hd0, hd1, hf0, hf1⟩ := hb
    have hk := okP_iff.1 ok
    have ce : ∀ h2, CallsU Tryz.prog 8 [.agg #[.int .i64 n, .int .i64 c], .int .i64 size, .int .i64 d, .int .i64 f] h2 (fun r h' => ∃ s' A' n' c' B' m' d', r = .tuple #[.agg #[.bool s', .slice A' n' c', .slice B' m' d'], .int .i64 0] ∧ NmQ h' s' A' n' c' B' m' d' (pEx n.toNat size.toNat d.toNat f.toNat) ∧ n' ≤ 14 ∧ m' ≤ 7 ∧ Le h2 h') := by
      intro h2
      obtain ⟨nN, rfl⟩ := Int.eq_ofNat_of_zero_le (show 0 ≤ n by omega)
      obtain ⟨cN, rfl⟩ := Int.eq_ofNat_of_zero_le (show 0 ≤ c by omega)
      obtain ⟨L, rfl⟩ := Int.eq_ofNat_of_zero_le (show 0 ≤ size by omega)
      obtain ⟨dN, rfl⟩ := Int.eq_ofNat_of_zero_le hd0
      obtain ⟨fN, rfl⟩ := Int.eq_ofNat_of_zero_le hf0
      exact exactly_c ok (by omega) (by omega) h2
    have cr : ∀ h2, CallsU Tryz.prog 9 [.agg #[.int .i64 n, .int .i64 c], .int .i64 size, .int .i64 d, .int .i64 f] h2 (fun r h' => ∃ s' A' n' c' B' m' d', r = .tuple #[.agg #[.bool s', .slice A' n' c', .slice B' m' d'], .int .i64 0] ∧ NmQ h' s' A' n' c' B' m' d' (pEx n.toNat size.toNat d.toNat f.toNat) ∧ n' ≤ 14 ∧ m' ≤ 7 ∧ Le h2 h') := by
      intro h2
      obtain ⟨nN, rfl⟩ := Int.eq_ofNat_of_zero_le (show 0 ≤ n by omega)
      obtain ⟨cN, rfl⟩ := Int.eq_ofNat_of_zero_le (show 0 ≤ c by omega)
      obtain ⟨L, rfl⟩ := Int.eq_ofNat_of_zero_le (show 0 ≤ size by omega)
      obtain ⟨dN, rfl⟩ := Int.eq_ofNat_of_zero_le hd0
      obtain ⟨fN, rfl⟩ := Int.eq_ofNat_of_zero_le hf0
      exact rexactly_c ok (by omega) (by omega) h2
    refine (ce h).mono ?_
    rintro _ h1 ⟨s1, A1, n1, c1, B1, m1, d1, rfl, hQ1, a1, b1, hl1⟩
    refine ⟨_, _, _, _, _, _, _, _, rfl, (cr h1).mono ?_⟩
    rintro _ h2 ⟨s2, A2, n2, c2, B2, m2, d2, rfl, hQ2, a2, b2, hl2⟩
    exact ⟨_, _, _, _, _, _, _, _, rfl, fin h1 h2 _ _ _ _ _ _ _ _ _ _ _ _ _ _ _ _ (hl1.trans hl2) rfl fun h3 hl3 => same_c ((hQ1.mono hl2).mono hl3) (hQ2.mono hl3) (by omega) (by omega)⟩
  · refine (exactly_bad hb h).mono ?_
    rintro _ _ ⟨rfl, rfl⟩
    refine ⟨_, _, _, _, _, _, _, _, rfl, (rexactly_bad hb h).mono ?_⟩
    rintro _ _ ⟨rfl, rfl⟩
    exact ⟨_, _, _, _, _, _, _, _, rfl, fin h h _ _ _ _ _ _ _ _ _ _ _ _ _ _ _ _ (Le.refl _) rfl fun h3 _ => same_zero h3⟩

/-- What Decide says of a number within the sample. -/
theorem decR_in {n c k : Nat} (hc : c < n) (hk : k ≤ n) (hn : n ≤ 200) : decR n c k = (decide (k ≤ c), 0) := by
  unfold decR
  rw [if_pos]
  · congr 1
    rw [Bool.eq_iff_iff, decide_eq_true_eq, decide_eq_true_eq]
    omega
  · have : okP n c n = true := okP_iff.2 (by omega)
    simp [this]
    omega

theorem sums_law (n c size d x : Int) (h : Heap) : CallsU Tryz.prog 4 [.agg #[.int .i64 n, .int .i64 c], .agg #[.int .i64 size, .int .i64 d, .int .i64 x]] h fun r h' => r = .bool true ∧ Le h h' := by
  apply law53_SamplingSums_ok
  refine ⟨fun b h' => h = h' ∧ (b = false → okP n c size = true ∧ size ≤ 30 ∧ 0 ≤ d ∧ d ≤ size), ?_, ?_⟩
  · rintro b _ ⟨rfl, hb⟩
    refine Br.mk (fun _ => exa fun h2 hl => ⟨rfl, hl⟩) (fun q => ?_)
    obtain ⟨ok, hs, hd0, hd1⟩ := hb q
    have hk := okP_iff.1 ok
    obtain ⟨nN, rfl⟩ := Int.eq_ofNat_of_zero_le (show 0 ≤ n by omega)
    obtain ⟨cN, rfl⟩ := Int.eq_ofNat_of_zero_le (show 0 ≤ c by omega)
    obtain ⟨L, rfl⟩ := Int.eq_ofNat_of_zero_le (show 0 ≤ size by omega)
    obtain ⟨dN, rfl⟩ := Int.eq_ofNat_of_zero_le hd0
    have hv : chs L nN ≠ 0 := by have := chs_pos (show nN ≤ L by omega); omega
    have hsz := chs_sz (n := L) nN (by omega)
    have e0 : mkRat ((sm (stf dN (L - dN) nN) 0 : Nat) : Int) (chs L nN) = ((0 : Int) : Rat) := by simp [sm]
    refine (whole_c 0 (by omega) (by omega) h).mono ?_
    rintro _ h1 ⟨s1, A1, n1, c1, B1, m1, d1, rfl, hQ1, _, _, hl1⟩
    refine ⟨_, _, _, _, _, _, _, rfl, (whole_c 0 (by omega) (by omega) h1).mono ?_⟩
    rintro _ h2 ⟨s2, A2, n2, c2, B2, m2, d2, rfl, hQ2, _, _, hl2⟩
    refine ⟨_, _, _, _, _, _, _, rfl, fun mm i a0 a1A a1n a1c a2A a2n a2c b0 b1A b1n b1c b2A b2n b2c h' => ∃ k : Nat, mm = nN + 1 - k ∧ k ≤ nN + 1 ∧ i = (k : Int) ∧ NmQ h' a0 a1A a1n a1c a2A a2n a2c (mkRat ((sm (stf dN (L - dN) nN) k : Nat) : Int) (chs L nN)) ∧
        NmQ h' b0 b1A b1n b1c b2A b2n b2c (mkRat ((sm (stf dN (L - dN) nN) (min k (cN + 1)) : Nat) : Int) (chs L nN)) ∧ Le h h',
      ⟨_, 0, rfl, by omega, rfl, by rw [e0]; exact hQ1.mono hl2, by rw [Nat.zero_min, e0]; exact hQ2, hl1.trans hl2⟩, ?_⟩
    rintro _ _ a0 a1A a1n a1c a2A a2n a2c b0 b1A b1n b1c b2A b2n b2c h3 ⟨k, rfl, hkn, rfl, hQa, hQb, hl3⟩
    have la := NmQ.lens hQa hv (hsz.le (sum_le (by omega) (by omega))) hsz
    have lb := NmQ.lens hQb hv (hsz.le (sum_le (by omega) (by omega))) hsz
    refine Br.mk (fun q => ?_) (fun q => ?_)
    · have q' : k ≤ nN := by have := of_decide_eq_true q; omega
      refine (exactly_c ok (by omega) q' h3).mono ?_
      rintro _ h4 ⟨s4, A4, n4, c4, B4, m4, d4, rfl, hQ4, a4, b4, hl4⟩
      refine ⟨_, _, _, _, _, _, _, _, rfl, (decide_c nN cN k h4).mono ?_⟩
      rintro _ _ ⟨rfl, rfl⟩
      rw [decR_in (by omega) q' (by omega)]
      refine ⟨_, _, rfl, fun b h' => b = false ∧ Le h4 h', ?_, ?_⟩
      · rintro _ h5 ⟨rfl, hl5⟩
        refine Br.mk (fun q => by cases q) (fun _ => ?_)
        have hQ5 := hQ4.mono hl5
        refine (radd_c (hQa.mono (hl4.trans hl5)).is hQ5.is (by omega) (by omega) (by omega) (by omega)).mono ?_
        rintro _ h6 ⟨s6, A6, n6, c6, B6, m6, d6, rfl, hQ6, hl6⟩
        rw [pEx_stf, mkRat_add_same _ _ _ hv] at hQ6
        refine ⟨_, _, _, _, _, _, _, rfl, Br.mk (fun b1 => ?_) (fun b1 => ?_)⟩
        · have b2 : k ≤ cN := of_decide_eq_true b1
          refine (radd_c (hQb.mono ((hl4.trans hl5).trans hl6)).is (hQ5.mono hl6).is (by omega) (by omega) (by omega) (by omega)).mono ?_
          rintro _ h7 ⟨s7, A7, n7, c7, B7, m7, d7, rfl, hQ7, hl7⟩
          rw [Nat.min_eq_left (by omega), pEx_stf, mkRat_add_same _ _ _ hv] at hQ7
          refine ⟨_, _, _, _, _, _, _, rfl, ?_⟩
          rintro _ rfl
          rw [wi (n := k + 1) (by omega) (by omega)]
          exact ⟨_, by omega, k + 1, rfl, by omega, rfl, hQ6.mono hl7, by rw [Nat.min_eq_left (by omega)]; exact hQ7, (((hl3.trans hl4).trans hl5).trans hl6).trans hl7⟩
        · have b2 : ¬ k ≤ cN := of_decide_eq_false b1
          rintro _ rfl
          rw [wi (n := k + 1) (by omega) (by omega)]
          refine ⟨_, by omega, k + 1, rfl, by omega, rfl, hQ6, ?_, ((hl3.trans hl4).trans hl5).trans hl6⟩
          rw [Nat.min_eq_right (by omega)] at hQb ⊢
          exact hQb.mono ((hl4.trans hl5).trans hl6)
      · refine Br.mk (fun q => by cases q) (fun _ => Br.mk (fun q => by cases q) (fun _ => ?_))
        refine (whole_c 0 (by omega) (by omega) h4).mono ?_
        rintro _ h5 ⟨s5, A5, n5, c5, B5, m5, d5, rfl, hQ5, _, _, hl5⟩
        refine ⟨_, _, _, _, _, _, _, rfl, (rcmp_c (hQ4.mono hl5).is hQ5.is (by omega) (by omega) (by omega) (by omega)).mono ?_⟩
        rintro _ h6 ⟨rfl, hl6⟩
        refine ⟨_, rfl, ?_, hl5.trans hl6⟩
        apply decide_eq_false
        intro q
        have hnn : (0 : Rat) ≤ pEx nN L dN k := by
          unfold pEx
          rw [← Rat.not_lt, show (0 : Rat) = mkRat ((0 : Nat) : Int) (chs L nN) from by simp, mkRat_lt hv hv]
          have := Int.mul_nonneg (Int.natCast_nonneg (chs dN k * chs (L - dN) (nN - k))) (Int.natCast_nonneg (chs L nN))
          simp only [Int.natCast_zero, Int.zero_mul]
          omega
        unfold cmpQ at q
        split at q
        · rename_i hlt
          exact absurd hlt (Rat.not_lt.2 hnn)
        · split at q <;> omega
    · have q' : k = nN + 1 := by have := of_decide_eq_false q; omega
      subst q'
      refine (accept_c ok (by omega) h3).mono ?_
      rintro _ h4 ⟨s4, A4, n4, c4, B4, m4, d4, rfl, hQ4, a4, b4, hl4⟩
      refine ⟨_, _, _, _, _, _, _, _, rfl, Br.mk (fun _ => ?_) (fun q => by cases q)⟩
      refine (whole_c 1 (by omega) (by omega) h4).mono ?_
      rintro _ h5 ⟨s5, A5, n5, c5, B5, m5, d5, rfl, hQ5, _, _, hl5⟩
      have e1 : mkRat ((sm (stf dN (L - dN) nN) (nN + 1) : Nat) : Int) (chs L nN) = ((1 : Int) : Rat) := by
        rw [vander, show dN + (L - dN) = L from by omega, Rat.mkRat_eq_div, Rat.intCast_natCast]
        have : ((chs L nN : Nat) : Rat) ≠ 0 := fun e => hv (Rat.natCast_eq_zero_iff.1 e)
        rw [Rat.div_def, Rat.mul_inv_cancel _ this]
        rfl
      rw [e1] at hQa
      refine ⟨_, _, _, _, _, _, _, rfl, (rcmp_c (hQa.mono (hl4.trans hl5)).is hQ5.is (by omega) (by omega) (by omega) (by omega)).mono ?_⟩
      rintro _ h6 ⟨rfl, hl6⟩
      rw [cmpQ_self]
      refine ⟨_, rfl, Br.mk (fun _ => ?_) (fun q => by cases q)⟩
      have e2 : mkRat ((sm (stf dN (L - dN) nN) (min (nN + 1) (cN + 1)) : Nat) : Int) (chs L nN) = pAc nN cN L dN := by
        rw [Nat.min_eq_right (by omega)]
        rfl
      rw [e2] at hQb
      refine (rcmp_c (hQ4.mono (hl5.trans hl6)).is (hQb.mono ((hl4.trans hl5).trans hl6)).is (by omega) (by omega) (by omega) (by omega)).mono ?_
      rintro _ h7 ⟨rfl, hl7⟩
      rw [cmpQ_self]
      exact ⟨_, rfl, Br.mk (fun _ => exa fun h8 hl => ⟨rfl, ((((hl3.trans hl4).trans hl5).trans hl6).trans hl7).trans hl⟩) (fun q => by cases q)⟩
  · refine Br.mk (fun _ => ⟨rfl, fun e => by cases e⟩) (fun q0 => (rcheck_c n c size h).mono ?_)
    rintro _ _ ⟨rfl, rfl⟩
    refine ⟨_, rfl, ?_⟩
    rw [chk_bne]
    refine Br.mk (fun _ => ⟨rfl, fun e => by cases e⟩) (fun q1 => Br.mk (fun _ => ⟨rfl, fun e => by cases e⟩) (fun q2 => ⟨rfl, fun q3 => ?_⟩))
    simp at q0 q1 q2 q3
    exact ⟨q1, q0, q2, q3⟩

theorem mkRat_mul_nat (a v k : Nat) : mkRat ((a : Nat) : Int) v * ((k : Int) : Rat) = mkRat ((a * k : Nat) : Int) v := by
  rw [← Rat.mkRat_one, Rat.mkRat_mul_mkRat, Nat.mul_one, Int.natCast_mul]

theorem mean_law (n c size d x : Int) (h : Heap) : CallsU Tryz.prog 5 [.agg #[.int .i64 n, .int .i64 c], .agg #[.int .i64 size, .int .i64 d, .int .i64 x]] h fun r h' => r = .bool true ∧ Le h h' := by
  apply law53_SamplingMean_ok
  refine ⟨fun b h' => h = h' ∧ (b = false → okP n c size = true ∧ size ≤ 25 ∧ 0 ≤ d ∧ d ≤ size), ?_, ?_⟩
  · rintro b _ ⟨rfl, hb⟩
    refine Br.mk (fun _ => exa fun h2 hl => ⟨rfl, hl⟩) (fun q => ?_)
    obtain ⟨ok, hs, hd0, hd1⟩ := hb q
    have hk := okP_iff.1 ok
    obtain ⟨nN, rfl⟩ := Int.eq_ofNat_of_zero_le (show 0 ≤ n by omega)
    obtain ⟨cN, rfl⟩ := Int.eq_ofNat_of_zero_le (show 0 ≤ c by omega)
    obtain ⟨L, rfl⟩ := Int.eq_ofNat_of_zero_le (show 0 ≤ size by omega)
    obtain ⟨dN, rfl⟩ := Int.eq_ofNat_of_zero_le hd0
    have hv : chs L nN ≠ 0 := by have := chs_pos (show nN ≤ L by omega); omega
    have hsz := chs_sz (n := L) nN (by omega)
    have hmean := mean (L := L) (d := dN) (n := nN) (by omega) (by omega) (by omega)
    have hle : ∀ k, k ≤ nN + 1 → Sz (sm (fun f => stf dN (L - dN) nN f * f) k) 9 := fun k hk => by
      have h1 := sm_le (f := fun f => stf dN (L - dN) nN f * f) hk
      have h2 : 1 * sm (fun f => stf dN (L - dN) nN f * f) (nN + 1) ≤ L * sm (fun f => stf dN (L - dN) nN f * f) (nN + 1) := Nat.mul_le_mul_right _ (by omega)
      have h3 : nN * dN * chs L nN ≤ 625 * chs L nN := Nat.mul_le_mul_right _ (Nat.le_trans (Nat.mul_le_mul (show nN ≤ 25 by omega) (show dN ≤ 25 by omega)) (by decide))
      have h4 : Sz (625 * chs L nN) (2 + 7) := Sz.mul (Sz.u64 (by omega)) hsz
      exact h4.le (by omega)
    refine (whole_c 0 (by omega) (by omega) h).mono ?_
    rintro _ h1 ⟨s1, A1, n1, c1, B1, m1, d1, rfl, hQ1, _, _, hl1⟩
    have e0 : mkRat ((sm (fun f => stf dN (L - dN) nN f * f) 0 : Nat) : Int) (chs L nN) = ((0 : Int) : Rat) := by simp [sm]
    refine ⟨_, _, _, _, _, _, _, rfl, fun mm i a0 a1A a1n a1c a2A a2n a2c h' => ∃ k : Nat, mm = nN + 1 - k ∧ k ≤ nN + 1 ∧ i = (k : Int) ∧ NmQ h' a0 a1A a1n a1c a2A a2n a2c (mkRat ((sm (fun f => stf dN (L - dN) nN f * f) k : Nat) : Int) (chs L nN)) ∧ Le h h',
      ⟨_, 0, rfl, by omega, rfl, by rw [e0]; exact hQ1, hl1⟩, ?_⟩
    rintro _ _ a0 a1A a1n a1c a2A a2n a2c h3 ⟨k, rfl, hkn, rfl, hQa, hl3⟩
    have la := NmQ.lens hQa hv (hle k hkn) hsz
    refine Br.mk (fun q => ?_) (fun q => ?_)
    · have q' : k ≤ nN := by have := of_decide_eq_true q; omega
      refine (exactly_c ok (by omega) q' h3).mono ?_
      rintro _ h4 ⟨s4, A4, n4, c4, B4, m4, d4, rfl, hQ4, a4, b4, hl4⟩
      refine ⟨_, _, _, _, _, _, _, _, rfl, Br.mk (fun q => by cases q) (fun _ => ?_)⟩
      refine (whole_c k (by omega) (by omega) h4).mono ?_
      rintro _ h5 ⟨s5, A5, n5, c5, B5, m5, d5, rfl, hQ5, a5, b5, hl5⟩
      refine ⟨_, _, _, _, _, _, _, rfl, (rmul_c (hQ4.mono hl5).is hQ5.is (by omega) (by omega) (by omega) (by omega)).mono ?_⟩
      rintro _ h6 ⟨s6, A6, n6, c6, B6, m6, d6, rfl, hQ6, a6, b6, hl6⟩
      rw [pEx_stf, mkRat_mul_nat] at hQ6
      refine ⟨_, _, _, _, _, _, _, rfl, (radd_c (hQa.mono ((hl4.trans hl5).trans hl6)).is hQ6.is (by omega) (by omega) (by omega) (by omega)).mono ?_⟩
      rintro _ h7 ⟨s7, A7, n7, c7, B7, m7, d7, rfl, hQ7, hl7⟩
      rw [mkRat_add_same _ _ _ hv] at hQ7
      refine ⟨_, _, _, _, _, _, _, rfl, ?_⟩
      rintro _ rfl
      rw [wi (n := k + 1) (by omega) (by omega)]
      exact ⟨_, by omega, k + 1, rfl, by omega, rfl, hQ7, (((hl3.trans hl4).trans hl5).trans hl6).trans hl7⟩
    · have q' : k = nN + 1 := by have := of_decide_eq_false q; omega
      subst q'
      rintro _ rfl
      have hnd : nN * dN ≤ 625 := Nat.le_trans (Nat.mul_le_mul (show nN ≤ 25 by omega) (show dN ≤ 25 by omega)) (by decide)
      rw [wi (n := nN * dN) (by rw [Int.natCast_mul]) (by omega)]
      refine (rof_c _ _ (by omega) (by omega) (by omega) (by omega) (by omega) h3).mono ?_
      rintro _ h4 ⟨s4, A4, n4, c4, B4, m4, d4, rfl, hQ4, a4, b4, hl4⟩
      refine ⟨_, _, _, _, _, _, _, _, rfl, Br.mk (fun _ => ?_) (fun q => by cases q)⟩
      have e : mkRat ((sm (fun f => stf dN (L - dN) nN f * f) (nN + 1) : Nat) : Int) (chs L nN) = (((nN * dN : Nat) : Int) : Rat) / (((L : Nat) : Int) : Rat) := by
        rw [Rat.intCast_natCast L, ← Rat.mkRat_eq_div, Rat.mkRat_eq_iff hv (by omega)]
        rw [Nat.mul_comm] at hmean
        exact_mod_cast hmean
      rw [e] at hQa
      refine (rcmp_c (hQa.mono hl4).is hQ4.is (by omega) (by omega) (by omega) (by omega)).mono ?_
      rintro _ h5 ⟨rfl, hl5⟩
      rw [cmpQ_self]
      exact ⟨_, rfl, Br.mk (fun _ => exa fun h6 hl => ⟨rfl, ((hl3.trans hl4).trans hl5).trans hl⟩) (fun q => by cases q)⟩
  · refine Br.mk (fun _ => ⟨rfl, fun e => by cases e⟩) (fun q0 => (rcheck_c n c size h).mono ?_)
    rintro _ _ ⟨rfl, rfl⟩
    refine ⟨_, rfl, ?_⟩
    rw [chk_bne]
    refine Br.mk (fun _ => ⟨rfl, fun e => by cases e⟩) (fun q1 => Br.mk (fun _ => ⟨rfl, fun e => by cases e⟩) (fun q2 => ⟨rfl, fun q3 => ?_⟩))
    simp at q0 q1 q2 q3
    exact ⟨q1, q0, q2, q3⟩
end Go.Proofs.YtfhipkdcekffaaaGreatDoor
