/-
  Contracts: draws.Sample, sampling.Draw; references 05: Shuffle, Sample; 53: Draw, SameInts; 01.Of, 02.Of, 03.Whole.
-/
import Derived.Test.YtfhipkdcekffaaaDoorCn13
import Derived.Test.YtfhipkdcekffaaaDoorCn12
namespace Go.Proofs.YtfhipkdcekffaaaDoor
open Go Go.Vcg
attribute [local irreducible] Br

theorem iv_one (y : Int) : Go.Vcg.one (iv y) = true := rfl

theorem rshuffle_c (d : Int) {n : Nat} (hn : n ≤ 1000) (h : Heap) : CallsU Tryd.prog 45 [.int .u64 d, .int .i64 n] h fun r h' => ∃ g, r = .tuple #[.int .u64 (shuf d n).1, .slice (some ⟨g, 0, none⟩) n n] ∧ h g = none ∧ h' = h.put g ⟨(shuf d n).2.map iv, 3, (0, 0)⟩ := by
  apply ref05_Shuffle_ok
  refine (rlimited_c n 1000 h).mono ?_
  rintro _ _ ⟨rfl, rfl⟩
  rw [show max (0 : Int) (min (n : Int) 1000) = (n : Int) from by omega]
  refine ⟨_, rfl, by omega, by omega, by omega, by omega, ?_⟩
  rintro g _ hg rfl
  rw [Int.toNat_natCast]
  refine ⟨fun m i h' => ∃ k : Nat, m = n - k ∧ k ≤ n ∧ i = (k : Int) ∧ h' = h.put g ⟨(filling n k).map iv, 3, (0, 0)⟩, ⟨_, 0, rfl, by omega, rfl, ?_⟩, ?_⟩
  · rw [filling_zero, ← repV_map]
  rintro _ _ _ ⟨k, rfl, hk, rfl, rfl⟩
  refine Br.mk (fun q => ?_) (fun q => ?_)
  · have q' : k < n := by simp at q; omega
    rw [Int.toNat_natCast]
    refine ⟨_, rfl, by omega, by omega, ?_⟩
    refine st_blk (enc := iv) (k : Int) (Heap.put_same _ _ _) (by rw [filling_len hk]; exact q') rfl ?_
    rintro _ rfl
    rw [wi (n := k + 1) (by omega) (by omega)]
    exact ⟨_, by omega, k + 1, rfl, by omega, rfl, by rw [filling_set q', Heap.put_put]⟩
  · have q' : k = n := by simp at q; omega
    subst q'
    rintro _ rfl
    rw [filling_full]
    refine ⟨fun m d1 i h' => ∃ (j : Nat) (l : List Int), m = j ∧ i = (j : Int) ∧ l.length = k ∧ j < k ∧ h' = h.put g ⟨l.map iv, 3, (0, 0)⟩ ∧ shf j d1 l = shuf d k ∨ (m = 0 ∧ k = 0 ∧ i = -1 ∧ d1 = d ∧ h' = h.put g ⟨[], 3, (0, 0)⟩), ?_, ?_⟩
    · rcases Nat.eq_zero_or_pos k with hz | hz
      · subst hz
        exact ⟨0, 0, [], Or.inr ⟨rfl, rfl, by rw [wrap_i64 (by omega) (by omega)]; rfl, rfl, rfl⟩⟩
      · refine ⟨k - 1, k - 1, rng k, Or.inl ⟨rfl, by rw [wrap_i64 (by omega) (by omega)]; omega, rng_len k, by omega, rfl, rfl⟩⟩
    · rintro j d1 i _ ⟨_, l, ⟨rfl, rfl, hl, hj, rfl, hs⟩ | ⟨rfl, hz, rfl, rfl, rfl⟩⟩
      · refine Br.mk (fun q => ?_) (fun q => ?_)
        · have q' : 1 ≤ j := by simp at q; omega
          obtain ⟨j, rfl⟩ : ∃ t, j = t + 1 := ⟨j - 1, by omega⟩
          rintro _ rfl
          rw [wi (n := j + 2) (by omega) (by omega)]
          refine (rbelow_c d1 (by omega) (by omega) _).mono ?_
          rintro _ _ ⟨rfl, rfl⟩
          have hp := pik_lt d1 (show 0 < j + 2 by omega)
          rw [shf] at hs
          generalize pik d1 (j + 2) = k1 at *
          refine ⟨_, _, rfl, ?_⟩
          rw [Int.toNat_natCast, Int.toNat_natCast]
          refine ⟨_, rfl, by omega, by omega, _, ld_blk (enc := iv) (Heap.put_same _ _ _) (getD_some (by omega)), _, rfl, by omega, by omega, _, ld_blk (enc := iv) (Heap.put_same _ _ _) (getD_some (by omega)), _, rfl, by omega, by omega, ?_⟩
          refine st_blk (enc := iv) _ (Heap.put_same _ _ _) (by omega) rfl ?_
          refine ⟨_, rfl, by omega, by omega, ?_⟩
          refine st_blk (enc := iv) _ (Heap.put_same _ _ _) (by simp; omega) rfl ?_
          rintro _ rfl
          rw [wi (n := j) (by omega) (by omega)]
          exact ⟨j, by omega, j, _, Or.inl ⟨rfl, rfl, by simp [hl], by omega, by rw [Heap.put_put, Heap.put_put], hs⟩⟩
        · have q' : j = 0 := by simp at q; omega
          subst q'
          rw [shf] at hs
          rw [← hs]
          exact ⟨g, rfl, hg, rfl⟩
      · subst hz
        refine Br.mk (fun q => by simp at q) (fun _ => ⟨g, rfl, hg, rfl⟩)

theorem sample_c (d : Int) {n k : Nat} (hn : n ≤ 1000) (hk : k ≤ n) (h : Heap) : CallsU Tryd.prog 24 [.int .u64 d, .int .i64 n, .int .i64 k] h fun r h' => ∃ A c, r = .tuple #[.int .u64 (shuf d n).1, .slice A k c] ∧ Sl iv h' A k c (asc ((shuf d n).2.take k)) ∧ Le h h' := by
  apply draws_Sample_ok
  refine (shuffle_c d hn h).mono ?_
  rintro _ _ ⟨g, rfl, hg, rfl⟩
  have e : (if decide (((n : Nat) : Int) < (if decide ((0 : Int) > (k : Int)) then 0 else (k : Int))) then ((n : Nat) : Int) else (if decide ((0 : Int) > (k : Int)) then 0 else (k : Int))) = (k : Int) := by
    simp only [decide_eq_true_eq]
    split <;> split <;> omega
  refine ⟨_, _, _, _, rfl, ?_⟩
  rw [e, Int.toNat_natCast]
  have hl := shuf_len d n
  refine ⟨by omega, by omega, (sort_c (Heap.put_same _ _ _) (by omega) (by omega)).mono ?_⟩
  rintro _ _ ⟨rfl, rfl⟩
  refine ⟨rfl, _, _, rfl, ?_, (Le.new hg _).put hg _⟩
  have := Sl.of_blk (enc := iv) (m := k) (k := n) (h := (h.put g ⟨(shuf d n).2.map iv, 3, (0, 0)⟩).put g ⟨((((shuf d n).2.take k).mergeSort fun x y => decide (x ≤ y)) ++ (shuf d n).2.drop k).map iv, 3, (0, 0)⟩) (Heap.put_same _ _ _) (by rw [List.length_append, List.length_mergeSort]; simp; omega) hk
  have e2 : List.take k (((shuf d n).2.take k).mergeSort fun x y => decide (x ≤ y)) = asc ((shuf d n).2.take k) := List.take_of_length_le (by rw [List.length_mergeSort]; simp; omega)
  rwa [List.take_append_of_le_length (by rw [List.length_mergeSort]; simp; omega), e2] at this

theorem among_c {h : Heap} {A : Option Addr} {n c : Nat} {xs : List Int} (u : Sl iv h A n c xs) (x : Int) (hn : n ≤ 1000) :
    CallsU Tryd.prog 47 [.slice A n c, .int .i64 x] h fun r h' => r = .bool (decide (x ∈ xs)) ∧ h = h' := by
  apply ref05_among_ok
  have hlen := u.len
  refine ⟨fun m i h' => ∃ k : Nat, m = n - k ∧ k ≤ n ∧ i = (k : Int) ∧ h = h' ∧ x ∉ xs.take k, ⟨_, 0, rfl, by omega, rfl, rfl, by simp⟩, ?_⟩
  rintro _ _ _ ⟨k, rfl, hk, rfl, rfl, hno⟩
  refine Br.mk (fun q => ?_) (fun q => ?_)
  · have q' : k < n := by simp at q; omega
    obtain ⟨ad, hA, hl⟩ := u.get (i := k) (getD_some (by omega))
    rw [Int.toNat_natCast]
    refine ⟨ad, hA, by omega, by omega, _, hl, Br.mk (fun q1 => ?_) (fun q1 => ?_)⟩
    · have q2 : xs.getD k 0 = x := by simpa using q1
      refine ⟨?_, rfl⟩
      rw [decide_eq_true]
      rw [← q2]
      exact List.mem_of_getElem? (getD_some (by omega))
    · have q2 : ¬ xs.getD k 0 = x := by simpa using q1
      rintro _ rfl
      rw [wi (n := k + 1) (by omega) (by omega)]
      refine ⟨_, by omega, k + 1, rfl, by omega, rfl, rfl, ?_⟩
      rw [List.take_add_one, getD_some (by omega : k < xs.length)]
      simp only [Option.toList_some, List.mem_append, List.mem_singleton, not_or]
      exact ⟨hno, fun e => q2 e.symm⟩
  · have q' : k = n := by simp at q; omega
    subst q'
    rw [List.take_of_length_le (by omega)] at hno
    rw [decide_eq_false hno]
    exact ⟨rfl, rfl⟩

theorem filter_snoc (p : Int → Bool) (n : Nat) : (rng (n + 1)).filter p = (rng n).filter p ++ if p n then [(n : Int)] else [] := by
  rw [rng_succ, List.filter_append]
  congr 1
  cases hp : p n <;> simp [hp]

theorem rsample_c (d : Int) {n k : Nat} (hn : n ≤ 1000) (hk : k ≤ n) (h : Heap) : CallsU Tryd.prog 25 [.int .u64 d, .int .i64 n, .int .i64 k] h fun r h' => ∃ A c, r = .tuple #[.int .u64 (shuf d n).1, .slice A k c] ∧ Sl iv h' A k c (asc ((shuf d n).2.take k)) ∧ Le h h' := by
  apply ref05_Sample_ok
  refine (rshuffle_c d hn h).mono ?_
  rintro _ _ ⟨g, rfl, hg, rfl⟩
  refine ⟨_, _, _, _, rfl, (rlimited_c k n _).mono ?_⟩
  rintro _ _ ⟨rfl, rfl⟩
  rw [show max (0 : Int) (min (k : Int) (n : Int)) = (k : Int) from by omega]
  have hl0 := Le.new hg ⟨(shuf d n).2.map iv, 3, (0, 0)⟩
  have hlen := shuf_len d n
  have hb : (h.put g ⟨(shuf d n).2.map iv, 3, (0, 0)⟩) g = some ⟨(shuf d n).2.map iv, 3, (0, 0)⟩ := Heap.put_same _ _ _
  have hperm := shuf_perm d n
  generalize h.put g ⟨(shuf d n).2.map iv, 3, (0, 0)⟩ = h2 at *
  have hsl : Sl iv h2 (some ⟨g, 0, none⟩) k n ((shuf d n).2.take k) := Sl.of_blk hb (by omega) hk
  refine ⟨_, rfl, ?_⟩
  rw [Int.toNat_natCast]
  refine ⟨fun m oA on oc i h' => ∃ j : Nat, m = n - j ∧ j ≤ n ∧ i = (j : Int) ∧ OwnE iv 3 h2 h' oA on oc ((rng j).filter fun x => decide (x ∈ (shuf d n).2.take k)) ∧ Le h2 h', ⟨_, 0, rfl, by omega, rfl, by simpa [rng] using OwnE.nil h2, Le.refl _⟩, ?_⟩
  rintro _ oA on oc _ h3 ⟨j, rfl, hj, rfl, own, hle⟩
  have hlo : on ≤ j := by rw [own.1]; exact Nat.le_trans (List.length_filter_le _ _) (by rw [rng_len]; exact Nat.le_refl _)
  refine Br.mk (fun q => ?_) (fun q => ?_)
  · have q' : j < n := by simp at q; omega
    refine ⟨by omega, by omega, (among_c (hsl.mono hle) (j : Int) (by omega)).mono ?_⟩
    rintro _ _ ⟨rfl, rfl⟩
    refine ⟨_, rfl, Br.mk (fun q1 => ?_) (fun q1 => ?_)⟩
    · rintro g0 _ hg0 rfl
      refine own.app (x := (j : Int)) (z := 0) (bs := 8) (K := fun A c hh => ∀ t : Int, t = IntKind.i64.wrap ((j : Int) + 1) → ∃ m, m < n - j ∧ ∃ j' : Nat, m = n - j' ∧ j' ≤ n ∧ t = (j' : Int) ∧ OwnE iv 3 h2 hh A (on + 1) c ((rng j').filter fun x => decide (x ∈ (shuf d n).2.take k)) ∧ Le h2 hh) hle iv_one rfl rfl hg0 (by omega) ?_
      intro A' c' h' o l _
      rintro _ rfl
      rw [wi (n := j + 1) (by omega) (by omega)]
      refine ⟨_, by omega, j + 1, rfl, by omega, rfl, ?_, l⟩
      rw [filter_snoc, if_pos q1]
      exact o
    · rintro _ rfl
      rw [wi (n := j + 1) (by omega) (by omega)]
      refine ⟨_, by omega, j + 1, rfl, by omega, rfl, ?_, hle⟩
      rw [filter_snoc, if_neg (by rw [q1]; decide), List.append_nil]
      exact own
  · have q' : j = n := by simp at q; omega
    subst q'
    rw [← asc_eq hperm] at own
    have e := own.1
    rw [asc_len, List.length_take, hlen, Nat.min_eq_left hk] at e
    subst e
    exact ⟨_, _, rfl, own.sl, hl0.trans hle⟩

theorem sameInts_c {h : Heap} {A B : Option Addr} {n c m d : Nat} {xs ys : List Int} (u : Sl iv h A n c xs) (w : Sl iv h B m d ys) (hn : n ≤ 1000) :
    CallsU Tryd.prog 16 [.slice A n c, .slice B m d] h fun r h' => r = .bool (decide (xs = ys)) ∧ h = h' := by
  apply ref53_SameInts_ok
  have l1 := u.len
  have l2 := w.len
  refine Br.mk (fun q => ?_) (fun q => ?_)
  · have q' : n ≠ m := by simp at q; omega
    rw [decide_eq_false (fun e => q' (by rw [← l1, ← l2, e]))]
    exact ⟨rfl, rfl⟩
  · have q' : n = m := by simp at q; omega
    subst q'
    refine ⟨fun m i h' => ∃ k : Nat, m = n - k ∧ k ≤ n ∧ i = (k : Int) ∧ h = h' ∧ xs.take k = ys.take k, ⟨_, 0, rfl, by omega, rfl, rfl, by simp⟩, ?_⟩
    rintro _ _ _ ⟨k, rfl, hk, rfl, rfl, he⟩
    refine Br.mk (fun q => ?_) (fun q => ?_)
    · have q' : k < n := by simp at q; omega
      obtain ⟨ad, hA, hl⟩ := u.get (i := k) (getD_some (by omega))
      obtain ⟨ad2, hB, hl2⟩ := w.get (i := k) (getD_some (by omega))
      rw [Int.toNat_natCast]
      refine ⟨ad, hA, by omega, by omega, _, hl, ad2, hB, by omega, by omega, _, hl2, Br.mk (fun q1 => ?_) (fun q1 => ?_)⟩
      · have q2 : xs.getD k 0 ≠ ys.getD k 0 := by simpa using q1
        rw [decide_eq_false (fun e => q2 (by rw [e]))]
        exact ⟨rfl, rfl⟩
      · have q2 : xs.getD k 0 = ys.getD k 0 := by simpa using q1
        rintro _ rfl
        rw [wi (n := k + 1) (by omega) (by omega)]
        refine ⟨_, by omega, k + 1, rfl, by omega, rfl, rfl, ?_⟩
        rw [List.take_add_one, List.take_add_one, he, getD_some (by omega : k < xs.length), getD_some (by omega : k < ys.length), q2]
    · have q' : k = n := by simp at q; omega
      subst q'
      rw [List.take_of_length_le (by omega), List.take_of_length_le (by omega)] at he
      rw [decide_eq_true he]
      exact ⟨rfl, rfl⟩

/-! ### references of 53 -/
theorem rcheck_c (n c lot : Int) (h : Heap) : CallsU Tryd.prog 12 [.agg #[.int .i64 n, .int .i64 c], .int .i64 lot] h fun r h' => r = .int .i64 (chkR n c lot) ∧ h = h' := by
  apply ref53_Check_ok
  have no : ¬ (1 ≤ n ∧ n ≤ lot ∧ lot ≤ 200 ∧ 0 ≤ c ∧ c < n) → chkR n c lot = 3 := fun q => by
    unfold chkR
    rw [if_neg (fun e => q (okP_iff.1 e))]
  refine Br.mk (fun q => ?_) (fun q => Br.mk (fun q1 => ?_) (fun q1 => Br.mk (fun q2 => ?_) (fun q2 => Br.mk (fun q3 => ?_) (fun q3 => Br.mk (fun q4 => ?_) (fun q4 => ?_)))))
  · simp at q; exact ⟨by rw [no (by omega)], rfl⟩
  · simp at q1; exact ⟨by rw [no (by omega)], rfl⟩
  · simp at q2; exact ⟨by rw [no (by omega)], rfl⟩
  · simp at q3; exact ⟨by rw [no (by omega)], rfl⟩
  · simp at q4; exact ⟨by rw [no (by omega)], rfl⟩
  · simp at q q1 q2 q3 q4
    refine ⟨?_, rfl⟩
    unfold chkR
    rw [if_pos (okP_iff.2 (by omega))]

/-- What Draw returns. -/
def DrawR (d n c lot : Int) (r : Value) (h h' : Heap) : Prop :=
  (okP n c lot = false ∧ r = .tuple #[.int .u64 0, .slice none 0 0, .int .i64 3] ∧ h = h') ∨
  (okP n c lot = true ∧ ∃ A k, r = .tuple #[.int .u64 (shuf d lot.toNat).1, .slice A n.toNat k, .int .i64 0] ∧ Sl iv h' A n.toNat k (asc ((shuf d lot.toNat).2.take n.toNat)) ∧ Le h h')

theorem draw_c (d n c lot : Int) (h : Heap) : CallsU Tryd.prog 14 [.int .u64 d, .agg #[.int .i64 n, .int .i64 c], .int .i64 lot] h fun r h' => DrawR d n c lot r h h' := by
  apply sampling_Draw_ok
  refine (check_c n c lot h).mono ?_
  rintro _ _ ⟨rfl, rfl⟩
  refine ⟨_, rfl, ?_⟩
  rw [chk_bne]
  refine Br.mk (fun q => ?_) (fun q => ?_)
  · have q' : okP n c lot = false := by simpa using q
    exact Or.inl ⟨q', by simp [chkR, q'], rfl⟩
  · have q' : okP n c lot = true := by simpa using q
    have hk := okP_iff.1 q'
    obtain ⟨nN, rfl⟩ := Int.eq_ofNat_of_zero_le (show 0 ≤ n by omega)
    obtain ⟨lN, rfl⟩ := Int.eq_ofNat_of_zero_le (show 0 ≤ lot by omega)
    refine (sample_c d (by omega) (by omega) h).mono ?_
    rintro _ h1 ⟨A, k, rfl, hs, hl⟩
    exact ⟨_, _, _, _, rfl, Or.inr ⟨q', _, _, rfl, hs, hl⟩⟩

theorem rdraw_c (d n c lot : Int) (h : Heap) : CallsU Tryd.prog 15 [.int .u64 d, .agg #[.int .i64 n, .int .i64 c], .int .i64 lot] h fun r h' => DrawR d n c lot r h h' := by
  apply ref53_Draw_ok
  refine (rcheck_c n c lot h).mono ?_
  rintro _ _ ⟨rfl, rfl⟩
  refine ⟨_, rfl, ?_⟩
  rw [chk_bne]
  refine Br.mk (fun q => ?_) (fun q => ?_)
  · have q' : okP n c lot = false := by simpa using q
    exact Or.inl ⟨q', rfl, rfl⟩
  · have q' : okP n c lot = true := by simpa using q
    have hk := okP_iff.1 q'
    obtain ⟨nN, rfl⟩ := Int.eq_ofNat_of_zero_le (show 0 ≤ n by omega)
    obtain ⟨lN, rfl⟩ := Int.eq_ofNat_of_zero_le (show 0 ≤ lot by omega)
    refine (rsample_c d (by omega) (by omega) h).mono ?_
    rintro _ h1 ⟨A, k, rfl, hs, hl⟩
    exact ⟨_, _, _, _, rfl, Or.inr ⟨q', _, _, rfl, hs, hl⟩⟩

theorem rdecide_c (n c found : Int) (h : Heap) : CallsU Tryd.prog 10 [.agg #[.int .i64 n, .int .i64 c], .int .i64 found] h fun r h' => r = .tuple #[.bool (decR n c found).1, .int .i64 (decR n c found).2] ∧ h = h' := by
  apply ref53_Decide_ok
  refine (rcheck_c n c n h).mono ?_
  rintro _ _ ⟨rfl, rfl⟩
  refine ⟨_, rfl, ?_⟩
  rw [chk_bne]
  unfold decR
  refine Br.mk (fun q => ?_) (fun q => Br.mk (fun q1 => ?_) (fun q1 => Br.mk (fun q2 => ?_) (fun q2 => ?_)))
  · simp at q; simp [q]
  · simp at q q1; rw [if_neg (by simp; intro _ _; omega)]; exact ⟨rfl, rfl⟩
  · simp at q q1 q2; rw [if_neg (by simp; intro _ _; omega)]; exact ⟨rfl, rfl⟩
  · simp at q q1 q2; rw [if_pos (by simp [q]; omega)]; exact ⟨rfl, rfl⟩
end Go.Proofs.YtfhipkdcekffaaaDoor
