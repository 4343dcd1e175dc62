/-
  The laws SamplingChecks, SamplingDraws, SamplingSamples return true, for every input.
-/
import Derived.Test.YtfhipkdcekffaaaDoorCn15
namespace Go.Proofs.YtfhipkdcekffaaaDoor
open Go Go.Vcg
attribute [local irreducible] Br

theorem checks_law (n c lot found : Int) (h : Heap) : CallsU Tryd.prog 3 [.agg #[.int .i64 n, .int .i64 c], .int .i64 lot, .int .i64 found] h fun r h' => r = .bool true ∧ Le h h' := by
  apply law53_SamplingChecks_ok
  refine (decide_c n c found h).mono ?_
  rintro _ _ ⟨rfl, rfl⟩
  refine ⟨_, _, rfl, (rdecide_c n c found h).mono ?_⟩
  rintro _ _ ⟨rfl, rfl⟩
  refine ⟨_, _, rfl, (check_c n c lot h).mono ?_⟩
  rintro _ _ ⟨rfl, rfl⟩
  refine ⟨_, rfl, (rcheck_c n c lot h).mono ?_⟩
  rintro _ _ ⟨rfl, rfl⟩
  refine ⟨_, rfl, Br.mk (fun _ => Br.mk (fun _ => Br.mk (fun _ => (example_c h).mono ?_) (fun q => by simp at q)) (fun q => by simp at q)) (fun q => by simp at q)⟩
  rintro _ h1 ⟨rfl, hl⟩
  exact ⟨_, rfl, rfl, hl⟩

theorem draws_law (d n c lot : Int) (h : Heap) : CallsU Tryd.prog 4 [.int .u64 d, .agg #[.int .i64 n, .int .i64 c], .int .i64 lot] h fun r h' => r = .bool true ∧ Le h h' := by
  apply law53_SamplingDraws_ok
  refine (draw_c d n c lot h).mono ?_
  rintro _ h1 (⟨ek, rfl, rfl⟩ | ⟨ek, A1, k1, rfl, hs1, l1⟩)
  · refine ⟨_, _, _, _, _, rfl, (rdraw_c d n c lot h).mono ?_⟩
    rintro _ h2 (⟨_, rfl, rfl⟩ | ⟨e2, _⟩)
    · refine ⟨_, _, _, _, _, rfl, Br.mk (fun _ => Br.mk (fun _ => ?_) (fun q => by simp at q)) (fun q => by simp at q)⟩
      refine (sameInts_c (Sl.nil h none 0) (Sl.nil h none 0) (by omega)).mono ?_
      rintro _ _ ⟨rfl, rfl⟩
      refine ⟨_, rfl, Br.mk (fun _ => (example_c h).mono ?_) (fun q => by simp at q)⟩
      rintro _ h3 ⟨rfl, hl⟩
      exact ⟨_, rfl, rfl, hl⟩
    · rw [ek] at e2; cases e2
  · refine ⟨_, _, _, _, _, rfl, (rdraw_c d n c lot h1).mono ?_⟩
    have hk := okP_iff.1 ek
    rintro _ h2 (⟨e2, _⟩ | ⟨_, A2, k2, rfl, hs2, l2⟩)
    · rw [ek] at e2; cases e2
    · refine ⟨_, _, _, _, _, rfl, Br.mk (fun _ => Br.mk (fun _ => ?_) (fun q => by simp at q)) (fun q => by simp at q)⟩
      refine (sameInts_c (hs1.mono l2) hs2 (by omega)).mono ?_
      rintro _ _ ⟨rfl, rfl⟩
      refine ⟨_, rfl, Br.mk (fun _ => (example_c h2).mono ?_) (fun q => by simp at q)⟩
      rintro _ h3 ⟨rfl, hl⟩
      exact ⟨_, rfl, rfl, (l1.trans l2).trans hl⟩

theorem samples_law (d n c lot : Int) (h : Heap) : CallsU Tryd.prog 5 [.int .u64 d, .agg #[.int .i64 n, .int .i64 c], .int .i64 lot] h fun r h' => r = .bool true ∧ Le h h' := by
  apply law53_SamplingSamples_ok
  refine (draw_c d n c lot h).mono ?_
  rintro _ h1 (⟨ek, rfl, rfl⟩ | ⟨ek, A1, k1, rfl, hs1, l1⟩)
  · refine ⟨_, _, _, _, _, rfl, Br.mk (fun _ => ⟨fun b h' => b = true ∧ Le h h', ?_, ?_⟩) (fun q => by cases q)⟩
    · rintro _ _ ⟨rfl, hl⟩
      exact ⟨rfl, hl⟩
    · refine Br.mk (fun _ => (check_c n c lot h).mono ?_) (fun q => by simp at q)
      rintro _ _ ⟨rfl, rfl⟩
      have e3 : chkR n c lot = 3 := by simp [chkR, ek]
      rw [e3]
      refine ⟨_, rfl, Br.mk (fun _ => (example_c h).mono ?_) (fun q => by simp at q)⟩
      rintro _ h3 ⟨rfl, hl⟩
      exact ⟨_, rfl, rfl, hl⟩
  · have hk := okP_iff.1 ek
    have hperm := shuf_perm d lot.toNat
    have hlen := hs1.len
    refine ⟨_, _, _, _, _, rfl, Br.mk (fun q => by cases q) (fun _ => Br.mk (fun q => by simp at q; omega) (fun _ => ?_))⟩
    have hlt := asc_lt (k := n.toNat) hperm
    have hmem := fun {x : Int} => asc_mem (k := n.toNat) hperm (x := x)
    generalize asc ((shuf d lot.toNat).2.take n.toNat) = l at *
    refine ⟨fun m i h' => ∃ k : Nat, m = n.toNat - k ∧ k ≤ n.toNat ∧ i = (k : Int) ∧ h1 = h', ⟨_, 0, rfl, by omega, rfl, rfl⟩, ?_⟩
    rintro _ _ _ ⟨k, rfl, hkn, rfl, rfl⟩
    refine Br.mk (fun q => ?_) (fun q => ?_)
    · have q' : k < n.toNat := by simp at q; omega
      obtain ⟨ad, hA, hl⟩ := hs1.get (i := k) (getD_some (by omega))
      have hm := hmem (List.mem_of_getElem? (getD_some (show k < l.length by omega)))
      rw [Int.toNat_natCast]
      have fin : ∀ t : Int, t = IntKind.i64.wrap ((k : Int) + 1) → ∃ m, m < n.toNat - k ∧ ∃ k' : Nat, m = n.toNat - k' ∧ k' ≤ n.toNat ∧ t = (k' : Int) ∧ h1 = h1 := by
        rintro _ rfl
        rw [wi (n := k + 1) (by omega) (by omega)]
        exact ⟨_, by omega, k + 1, rfl, by omega, rfl, rfl⟩
      refine ⟨ad, hA, by omega, by omega, _, hl, Br.mk (fun q1 => by have := of_decide_eq_true q1; omega) (fun _ => Br.mk (fun q1 => by have := of_decide_eq_true q1; omega) (fun _ => Br.mk (fun q1 => ?_) (fun q1 => fin)))⟩
      have q2 : 0 < k := by simp at q1; omega
      obtain ⟨j, rfl⟩ : ∃ j, k = j + 1 := ⟨k - 1, by omega⟩
      rintro _ rfl
      rw [wi (n := j) (by omega) (by omega)]
      obtain ⟨ad2, hA2, hl2⟩ := hs1.get (i := j) (getD_some (by omega))
      rw [Int.toNat_natCast]
      refine ⟨ad2, hA2, by omega, by omega, _, hl2, Br.mk (fun q3 => ?_) (fun _ => fin)⟩
      have h2 := List.pairwise_iff_getElem.1 hlt j (j + 1) (by omega) (by omega) (by omega)
      have g1 := getD_some (l := l) (i := j) (by omega)
      have g2 := getD_some (l := l) (i := j + 1) (by omega)
      rw [List.getElem?_eq_getElem (by omega)] at g1 g2
      simp only [Option.some.injEq] at g1 g2
      rw [g1, g2] at h2
      have q4 : l.getD j 0 ≥ l.getD (j + 1) 0 := of_decide_eq_true q3
      omega
    · refine (example_c h1).mono ?_
      rintro _ h3 ⟨rfl, hl⟩
      exact ⟨_, rfl, rfl, l1.trans hl⟩
end Go.Proofs.YtfhipkdcekffaaaDoor
