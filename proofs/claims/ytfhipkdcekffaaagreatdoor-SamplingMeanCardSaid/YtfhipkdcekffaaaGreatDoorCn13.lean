/-
  Contracts: sampling.Accept; draws.
-/
import Derived.Test.YtfhipkdcekffaaaGreatDoorLib2
import Derived.Test.YtfhipkdcekffaaaGreatDoorPl2
import Derived.Test.YtfhipkdcekffaaaGreatDoorVcM
namespace Go.Proofs.YtfhipkdcekffaaaGreatDoor
open Go Go.Vcg
attribute [local irreducible] Br

theorem acc_le {n c d M : Nat} (h : c < n) : acc n c d M ≤ chs (d + M) n := by
  rw [← vander]
  exact sm_le (by omega)

/-- The probability of acceptance. -/
def pAc (n c lot def_ : Nat) : Rat := mkRat ((acc n c def_ (lot - def_) : Nat) : Int) (chs lot n)

theorem accept_bad {n c lot def_ : Int} (hbad : ¬ (okP n c lot = true ∧ 0 ≤ def_ ∧ def_ ≤ lot)) (h : Heap) :
    CallsU Tryz.prog 10 [.agg #[.int .i64 n, .int .i64 c], .int .i64 lot, .int .i64 def_] h fun r h' => r = .tuple #[zeroQ, .int .i64 3] ∧ h = h' := by
  apply sampling_Accept_ok
  refine ⟨fun b h' => b = true ∧ h = h', ?_, (check_c n c lot h).mono ?_⟩
  · rintro _ _ ⟨rfl, rfl⟩
    exact Br.mk (fun _ => ⟨rfl, rfl⟩) (fun q => by cases q)
  · rintro _ _ ⟨rfl, rfl⟩
    refine ⟨_, rfl, ?_⟩
    rw [chk_bne]
    refine Br.mk (fun _ => ⟨rfl, rfl⟩) (fun q => Br.mk (fun _ => ⟨rfl, rfl⟩) (fun q1 => ⟨?_, rfl⟩))
    simp at q q1 ⊢
    rcases Int.lt_or_le lot def_ with a | a
    · exact a
    · exact absurd ⟨q, q1, a⟩ hbad

theorem accept_c {n c lot def_ : Nat} (hok : okP n c lot = true) (hd : def_ ≤ lot) (h : Heap) :
    CallsU Tryz.prog 10 [.agg #[.int .i64 n, .int .i64 c], .int .i64 lot, .int .i64 def_] h fun r h' => ∃ s' A' n' c' B' m' d', r = .tuple #[.agg #[.bool s', .slice A' n' c', .slice B' m' d'], .int .i64 0] ∧ NmQ h' s' A' n' c' B' m' d' (pAc n c lot def_) ∧ n' ≤ 7 ∧ m' ≤ 7 ∧ Le h h' := by
  apply sampling_Accept_ok
  have hk := okP_iff.1 hok
  refine ⟨fun b h' => b = false ∧ h = h', ?_, (check_c n c lot h).mono ?_⟩
  · rintro _ _ ⟨rfl, rfl⟩
    refine Br.mk (fun q => by cases q) (fun _ => (of_c 0 (by omega) h).mono ?_)
    rintro _ h1 ⟨A, m, c', rfl, hm, hN, hl⟩
    refine ⟨_, _, _, rfl, ?_⟩
    rintro _ rfl
    rw [wi (n := c + 1) (by omega) (by omega)]
    refine ⟨fun mm sA sn sc i h' => ∃ k : Nat, mm = c + 1 - k ∧ k ≤ c + 1 ∧ i = (k : Int) ∧ NmN h' sA sn sc (sm (stf def_ (lot - def_) n) k) ∧ Le h h', ⟨_, 0, rfl, by omega, rfl, hN, hl⟩, ?_⟩
    rintro _ sA sn sc _ h2 ⟨k, rfl, hkc, rfl, hN2, hl2⟩
    have hsm : sm (stf def_ (lot - def_) n) k ≤ chs lot n := by
      have := sm_le (f := stf def_ (lot - def_) n) (show k ≤ n + 1 by omega)
      rw [vander, show def_ + (lot - def_) = lot from by omega] at this
      exact this
    have hlen2 := NmN.le_of hN2 ((chs_sz (n := lot) n (by omega)).le hsm)
    refine Br.mk (fun q => ?_) (fun q => ?_)
    · have q' : k < c + 1 := by simp at q; omega
      refine (sets_c n lot def_ k (by omega) hd (by omega) (by omega) h2).mono ?_
      rintro _ h3 ⟨A3, m3, c3, rfl, hN3, hl3⟩
      have hlen3 := NmN.le_of hN3 ((chs_sz (n := def_) k (by omega)).mul (chs_sz (n := lot - def_) (n - k) (by omega)))
      refine ⟨_, _, _, rfl, (add_c (hN2.mono hl3).is hN3.is (by omega) (by omega)).mono ?_⟩
      rintro _ h4 ⟨A4, m4, c4, rfl, hN4, hl4⟩
      refine ⟨_, _, _, rfl, ?_⟩
      rintro _ rfl
      rw [wi (n := k + 1) (by omega) (by omega)]
      exact ⟨_, by omega, k + 1, rfl, by omega, rfl, hN4, (hl2.trans hl3).trans hl4⟩
    · have q' : k = c + 1 := by simp at q; omega
      subst q'
      refine (choose_c lot n (by omega) h2 (by omega)).mono ?_
      rintro _ h3 ⟨A3, m3, c3, rfl, hN3, hl3⟩
      have l3 := NmN.le_of hN3 (chs_sz n (by omega))
      refine ⟨_, _, _, rfl, (share_c (hN2.mono hl3).is hN3.is (by omega) (by omega)).mono ?_⟩
      rintro _ h4 ⟨s', A', n', c', B', m', d', rfl, hQ, a1, a2, hl4⟩
      exact ⟨_, _, _, _, _, _, _, rfl, _, _, _, _, _, _, _, rfl, hQ, by omega, by omega, (hl2.trans hl3).trans hl4⟩
  · rintro _ _ ⟨rfl, rfl⟩
    refine ⟨_, rfl, ?_⟩
    rw [chk_bne, hok]
    refine Br.mk (fun q => by cases q) (fun _ => Br.mk (fun q => by simp at q; omega) (fun _ => ⟨?_, rfl⟩))
    simp; omega

/-! ### draws -/
theorem nxt_range (d : Int) : 0 ≤ nxt d ∧ nxt d < 18446744073709551616 := by
  unfold nxt
  rw [wrap_u64_mod]
  omega

theorem next_c (d : Int) (h : Heap) : CallsU Tryz.prog 100 [.int .u64 d] h fun r h' => r = .tuple #[.int .u64 (nxt d), .int .i64 (nxt d / 8589934592)] ∧ h = h' := by
  apply draws_Next_ok
  rintro _ rfl _ rfl _ rfl
  have := nxt_range d
  unfold nxt at *
  have e : Int.fdiv (IntKind.u64.wrap (IntKind.u64.wrap (d * 6364136223846793005) + 1442695040888963407)) (2 ^ (33 : Nat)) = IntKind.u64.wrap (IntKind.u64.wrap (d * 6364136223846793005) + 1442695040888963407) / 8589934592 := by
    rw [Int.fdiv_eq_ediv_of_nonneg _ (by decide)]
    rfl
  rw [e, wrap_i64 (by omega) (by omega)]
  exact ⟨rfl, rfl⟩

theorem below_c (d : Int) {n : Nat} (hn : 1 ≤ n) (hn2 : n < 4294967296) (h : Heap) : CallsU Tryz.prog 86 [.int .u64 d, .int .i64 n] h fun r h' => r = .tuple #[.int .u64 (nxt d), .int .i64 (pik d n)] ∧ h = h' := by
  apply draws_Below_ok
  refine (next_c d h).mono ?_
  rintro _ _ ⟨rfl, rfl⟩
  refine ⟨_, _, rfl, Br.mk (fun q => by simp at q; omega) (fun _ => Br.mk (fun q => by simp at q; omega) (fun _ => ?_))⟩
  rintro _ rfl
  have := nxt_range d
  refine ⟨?_, rfl⟩
  unfold pik
  rw [Int.tmod_eq_emod_of_nonneg (by omega)]
  have h1 := Int.emod_nonneg (nxt d / 8589934592) (show (n : Int) ≠ 0 by omega)
  rw [Int.toNat_of_nonneg h1]

/-- The list while it is filled. -/
def filling (n k : Nat) : List Int := rng k ++ List.replicate (n - k) 0

theorem filling_set {n k : Nat} (h : k < n) : (filling n k).set k (k : Int) = filling n (k + 1) := by
  unfold filling
  rw [List.set_append_right _ _ (by rw [rng_len]; exact Nat.le_refl _), rng_len, Nat.sub_self, show n - k = (n - (k + 1)) + 1 from by omega, List.replicate_succ, List.set_cons_zero, rng_succ]
  simp
theorem filling_len {n k : Nat} (h : k ≤ n) : (filling n k).length = n := by simp [filling, rng_len]; omega
theorem filling_zero (n : Nat) : filling n 0 = List.replicate n 0 := by simp [filling, rng]
theorem filling_full (n : Nat) : filling n n = rng n := by simp [filling]

/-- Shuffle: the numbers below n. -/
def shuf (d : Int) (n : Nat) : Int × List Int := shf (n - 1) d (rng n)

theorem shuf_perm (d : Int) (n : Nat) : (shuf d n).2.Perm (rng n) := shf_perm _ _ _ (by rw [rng_len]; omega)
theorem shuf_len (d : Int) (n : Nat) : (shuf d n).2.length = n := by rw [(shuf_perm d n).length_eq, rng_len]

theorem getD_some {l : List Int} {i : Nat} (h : i < l.length) : l[i]? = some (l.getD i 0) := by simp [h]

theorem shuffle_c (d : Int) {n : Nat} (hn : n ≤ 1000) (h : Heap) : CallsU Tryz.prog 64 [.int .u64 d, .int .i64 n] h fun r h' => ∃ g, r = .tuple #[.int .u64 (shuf d n).1, .slice (some ⟨g, 0, none⟩) n n] ∧ h g = none ∧ h' = h.put g ⟨(shuf d n).2.map iv, 3, (0, 0)⟩ := by
  apply draws_Shuffle_ok
  have e : (if decide ((1000 : Int) < (if decide ((0 : Int) > (n : Int)) then 0 else (n : Int))) then 1000 else (if decide ((0 : Int) > (n : Int)) then 0 else (n : Int))) = (n : Int) := by
    simp only [decide_eq_true_eq]
    split <;> split <;> omega
  unfold draws_Shuffle_vc
  rw [e]
  refine ⟨by omega, by omega, by omega, by omega, ?_⟩
  rintro g _ hg rfl
  rw [Int.toNat_natCast]
  refine ⟨fun m i h' => ∃ k : Nat, m = n - k ∧ k ≤ n ∧ i = (k : Int) ∧ h' = h.put g ⟨(filling n k).map iv, 3, (0, 0)⟩, ⟨_, 0, rfl, by omega, rfl, ?_⟩, ?_⟩
  · rw [filling_zero, ← repV_map]
  rintro _ _ _ ⟨k, rfl, hk, rfl, rfl⟩
  refine Br.mk (fun q => ?_) (fun q => ?_)
  · have q' : k < n := by simp at q; omega
    rw [Int.toNat_natCast]
    refine ⟨_, rfl, by omega, by omega, ?_⟩
    refine st_blk (enc := iv) (k : Int) (Heap.put_same _ _ _) (by rw [filling_len hk]; exact q') rfl ?_
    rintro _ rfl
    rw [wi (n := k + 1) (by omega) (by omega)]
    exact ⟨_, by omega, k + 1, rfl, by omega, rfl, by rw [filling_set q', Heap.put_put]⟩
  · have q' : k = n := by simp at q; omega
    subst q'
    rintro _ rfl
    rw [filling_full]
    refine ⟨fun m d1 i h' => ∃ (j : Nat) (l : List Int), m = j ∧ i = (j : Int) ∧ l.length = k ∧ j < k ∧ h' = h.put g ⟨l.map iv, 3, (0, 0)⟩ ∧ shf j d1 l = shuf d k ∨ (m = 0 ∧ k = 0 ∧ i = -1 ∧ d1 = d ∧ h' = h.put g ⟨[], 3, (0, 0)⟩), ?_, ?_⟩
    · rcases Nat.eq_zero_or_pos k with hz | hz
      · subst hz
        exact ⟨0, 0, [], Or.inr ⟨rfl, rfl, by rw [wrap_i64 (by omega) (by omega)]; rfl, rfl, rfl⟩⟩
      · refine ⟨k - 1, k - 1, rng k, Or.inl ⟨rfl, by rw [wrap_i64 (by omega) (by omega)]; omega, rng_len k, by omega, rfl, rfl⟩⟩
    · rintro j d1 i _ ⟨_, l, ⟨rfl, rfl, hl, hj, rfl, hs⟩ | ⟨rfl, hz, rfl, rfl, rfl⟩⟩
      · refine Br.mk (fun q => ?_) (fun q => ?_)
        · have q' : 1 ≤ j := by simp at q; omega
          obtain ⟨j, rfl⟩ : ∃ t, j = t + 1 := ⟨j - 1, by omega⟩
          rintro _ rfl
          rw [wi (n := j + 2) (by omega) (by omega)]
          refine (below_c d1 (by omega) (by omega) _).mono ?_
          rintro _ _ ⟨rfl, rfl⟩
          have hp := pik_lt d1 (show 0 < j + 2 by omega)
          rw [shf] at hs
          generalize pik d1 (j + 2) = k1 at *
          refine ⟨_, _, rfl, ?_⟩
          rw [Int.toNat_natCast, Int.toNat_natCast]
          refine ⟨_, rfl, by omega, by omega, _, ld_blk (enc := iv) (Heap.put_same _ _ _) (getD_some (by omega)), _, rfl, by omega, by omega, _, ld_blk (enc := iv) (Heap.put_same _ _ _) (getD_some (by omega)), _, rfl, by omega, by omega, ?_⟩
          refine st_blk (enc := iv) _ (Heap.put_same _ _ _) (by omega) rfl ?_
          refine ⟨_, rfl, by omega, by omega, ?_⟩
          refine st_blk (enc := iv) _ (Heap.put_same _ _ _) (by simp; omega) rfl ?_
          rintro _ rfl
          rw [wi (n := j) (by omega) (by omega)]
          exact ⟨j, by omega, j, _, Or.inl ⟨rfl, rfl, by simp [hl], by omega, by rw [Heap.put_put, Heap.put_put], hs⟩⟩
        · have q' : j = 0 := by simp at q; omega
          subst q'
          rw [shf] at hs
          rw [← hs]
          exact ⟨g, rfl, hg, rfl⟩
      · subst hz
        refine Br.mk (fun q => by simp at q) (fun _ => ⟨g, rfl, hg, rfl⟩)
end Go.Proofs.YtfhipkdcekffaaaGreatDoor
