/-
  Contracts: draws.Sample, sampling.Draw; references 53: SameInts, Check.
-/
import Derived.Test.YtfhipkdcekffaaaGreatDoorCn13
import Derived.Test.YtfhipkdcekffaaaGreatDoorCn12
namespace Go.Proofs.YtfhipkdcekffaaaGreatDoor
open Go Go.Vcg
attribute [local irreducible] Br

theorem iv_one (y : Int) : Go.Vcg.one (iv y) = true := rfl

theorem sample_c (d : Int) {n k : Nat} (hn : n ≤ 1000) (hk : k ≤ n) (h : Heap) : CallsU Tryz.prog 45 [.int .u64 d, .int .i64 n, .int .i64 k] h fun r h' => ∃ A c, r = .tuple #[.int .u64 (shuf d n).1, .slice A k c] ∧ Sl iv h' A k c (asc ((shuf d n).2.take k)) ∧ Le h h' := by
  apply draws_Sample_ok
  refine (shuffle_c d hn h).mono ?_
  rintro _ _ ⟨g, rfl, hg, rfl⟩
  have e : (if decide (((n : Nat) : Int) < (if decide ((0 : Int) > (k : Int)) then 0 else (k : Int))) then ((n : Nat) : Int) else (if decide ((0 : Int) > (k : Int)) then 0 else (k : Int))) = (k : Int) := by
    simp only [decide_eq_true_eq]
    split <;> split <;> omega
  refine ⟨_, _, _, _, rfl, ?_⟩
  rw [e, Int.toNat_natCast]
  have hl := shuf_len d n
  refine ⟨by omega, by omega, (sort_c (Heap.put_same _ _ _) (by omega) (by omega)).mono ?_⟩
  rintro _ _ ⟨rfl, rfl⟩
  refine ⟨rfl, _, _, rfl, ?_, (Le.new hg _).put hg _⟩
  have := Sl.of_blk (enc := iv) (m := k) (k := n) (h := (h.put g ⟨(shuf d n).2.map iv, 3, (0, 0)⟩).put g ⟨((((shuf d n).2.take k).mergeSort fun x y => decide (x ≤ y)) ++ (shuf d n).2.drop k).map iv, 3, (0, 0)⟩) (Heap.put_same _ _ _) (by rw [List.length_append, List.length_mergeSort]; simp; omega) hk
  have e2 : List.take k (((shuf d n).2.take k).mergeSort fun x y => decide (x ≤ y)) = asc ((shuf d n).2.take k) := List.take_of_length_le (by rw [List.length_mergeSort]; simp; omega)
  rwa [List.take_append_of_le_length (by rw [List.length_mergeSort]; simp; omega), e2] at this

theorem sameInts_c {h : Heap} {A B : Option Addr} {n c m d : Nat} {xs ys : List Int} (u : Sl iv h A n c xs) (w : Sl iv h B m d ys) (hn : n ≤ 1000) :
    CallsU Tryz.prog 23 [.slice A n c, .slice B m d] h fun r h' => r = .bool (decide (xs = ys)) ∧ h = h' := by
  apply ref53_SameInts_ok
  have l1 := u.len
  have l2 := w.len
  refine Br.mk (fun q => ?_) (fun q => ?_)
  · have q' : n ≠ m := by simp at q; omega
    rw [decide_eq_false (fun e => q' (by rw [← l1, ← l2, e]))]
    exact ⟨rfl, rfl⟩
  · have q' : n = m := by simp at q; omega
    subst q'
    refine ⟨fun m i h' => ∃ k : Nat, m = n - k ∧ k ≤ n ∧ i = (k : Int) ∧ h = h' ∧ xs.take k = ys.take k, ⟨_, 0, rfl, by omega, rfl, rfl, by simp⟩, ?_⟩
    rintro _ _ _ ⟨k, rfl, hk, rfl, rfl, he⟩
    refine Br.mk (fun q => ?_) (fun q => ?_)
    · have q' : k < n := by simp at q; omega
      obtain ⟨ad, hA, hl⟩ := u.get (i := k) (getD_some (by omega))
      obtain ⟨ad2, hB, hl2⟩ := w.get (i := k) (getD_some (by omega))
      rw [Int.toNat_natCast]
      refine ⟨ad, hA, by omega, by omega, _, hl, ad2, hB, by omega, by omega, _, hl2, Br.mk (fun q1 => ?_) (fun q1 => ?_)⟩
      · have q2 : xs.getD k 0 ≠ ys.getD k 0 := by simpa using q1
        rw [decide_eq_false (fun e => q2 (by rw [e]))]
        exact ⟨rfl, rfl⟩
      · have q2 : xs.getD k 0 = ys.getD k 0 := by simpa using q1
        rintro _ rfl
        rw [wi (n := k + 1) (by omega) (by omega)]
        refine ⟨_, by omega, k + 1, rfl, by omega, rfl, rfl, ?_⟩
        rw [List.take_add_one, List.take_add_one, he, getD_some (by omega : k < xs.length), getD_some (by omega : k < ys.length), q2]
    · have q' : k = n := by simp at q; omega
      subst q'
      rw [List.take_of_length_le (by omega), List.take_of_length_le (by omega)] at he
      rw [decide_eq_true he]
      exact ⟨rfl, rfl⟩

/-! ### references of 53 -/
theorem rcheck_c (n c lot : Int) (h : Heap) : CallsU Tryz.prog 13 [.agg #[.int .i64 n, .int .i64 c], .int .i64 lot] h fun r h' => r = .int .i64 (chkR n c lot) ∧ h = h' := by
  apply ref53_Check_ok
  have no : ¬ (1 ≤ n ∧ n ≤ lot ∧ lot ≤ 200 ∧ 0 ≤ c ∧ c < n) → chkR n c lot = 3 := fun q => by
    unfold chkR
    rw [if_neg (fun e => q (okP_iff.1 e))]
  refine Br.mk (fun q => ?_) (fun q => Br.mk (fun q1 => ?_) (fun q1 => Br.mk (fun q2 => ?_) (fun q2 => Br.mk (fun q3 => ?_) (fun q3 => Br.mk (fun q4 => ?_) (fun q4 => ?_)))))
  · simp at q; exact ⟨by rw [no (by omega)], rfl⟩
  · simp at q1; exact ⟨by rw [no (by omega)], rfl⟩
  · simp at q2; exact ⟨by rw [no (by omega)], rfl⟩
  · simp at q3; exact ⟨by rw [no (by omega)], rfl⟩
  · simp at q4; exact ⟨by rw [no (by omega)], rfl⟩
  · simp at q q1 q2 q3 q4
    refine ⟨?_, rfl⟩
    unfold chkR
    rw [if_pos (okP_iff.2 (by omega))]

/-- What Draw returns. -/
def DrawR (d n c lot : Int) (r : Value) (h h' : Heap) : Prop :=
  (okP n c lot = false ∧ r = .tuple #[.int .u64 0, .slice none 0 0, .int .i64 3] ∧ h = h') ∨
  (okP n c lot = true ∧ ∃ A k, r = .tuple #[.int .u64 (shuf d lot.toNat).1, .slice A n.toNat k, .int .i64 0] ∧ Sl iv h' A n.toNat k (asc ((shuf d lot.toNat).2.take n.toNat)) ∧ Le h h')

theorem draw_c (d n c lot : Int) (h : Heap) : CallsU Tryz.prog 20 [.int .u64 d, .agg #[.int .i64 n, .int .i64 c], .int .i64 lot] h fun r h' => DrawR d n c lot r h h' := by
  apply sampling_Draw_ok
  refine (check_c n c lot h).mono ?_
  rintro _ _ ⟨rfl, rfl⟩
  refine ⟨_, rfl, ?_⟩
  rw [chk_bne]
  refine Br.mk (fun q => ?_) (fun q => ?_)
  · have q' : okP n c lot = false := by simpa using q
    exact Or.inl ⟨q', by simp [chkR, q'], rfl⟩
  · have q' : okP n c lot = true := by simpa using q
    have hk := okP_iff.1 q'
    obtain ⟨nN, rfl⟩ := Int.eq_ofNat_of_zero_le (show 0 ≤ n by omega)
    obtain ⟨lN, rfl⟩ := Int.eq_ofNat_of_zero_le (show 0 ≤ lot by omega)
    refine (sample_c d (by omega) (by omega) h).mono ?_
    rintro _ h1 ⟨A, k, rfl, hs, hl⟩
    exact ⟨_, _, _, _, rfl, Or.inr ⟨q', _, _, rfl, hs, hl⟩⟩

end Go.Proofs.YtfhipkdcekffaaaGreatDoor
