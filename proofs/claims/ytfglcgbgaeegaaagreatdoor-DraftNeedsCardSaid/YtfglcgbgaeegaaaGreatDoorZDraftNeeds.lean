/-
  The law DraftNeeds returns true for every input; the arguments read as before: the row, and the card. Conditions: those of the given row (its listed variables, tied by the given tie).
-/
import Derived.Test.YtfglcgbgaeegaaaGreatDoorG18
import Derived.Test.YtfglcgbgaeegaaaGreatDoorG13
import Derived.Test.YtfglcgbgaeegaaaGreatDoorG21
import Derived.Test.YtfglcgbgaeegaaaGreatDoorG22
import Derived.Test.YtfglcgbgaeegaaaGreatDoorTie
import Derived.Test.YtfglcgbgaeegaaaGreatDoorCards
import Derived.Lib.SmallJoins
import Derived.Lay
import Derived.MakeChecks
namespace Go.Proofs.YtfglcgbgaeegaaaGreatDoor
open Go Go.Vcg Go.RowKit Go.WideShapes Go.ChangeShapes Go.Joins Go.ChangeAt

theorem draftNeeds_met (os : Os) (args : Array Value) : laidMetH Tryz.prog Rows.draftNeedsRow.laid ((World.laidAll Tryz.prog os Rows.draftNeedsRow.laid).forCall (fun _ _ => 0) ⟨#[], args, []⟩).memory := by
  rw [Go.MakeChecks.laidMetH_plain _ _ _ (by kernel_rfl)]
  exact laidMet_laidAll _ (by kernel_rfl) (by kernel_rfl)

set_option maxRecDepth 100000 in
theorem draftNeeds_lifted (os : Os) (started : os.Started) (H : Type) (enc : TypeId × Value → H) :
    ReturnsInHanded {} Tryz.checked os 4 .any (fun w args => (Rows.draftNeedsSpec.pre enc Tryz.prog Tryz.f4 [] false w args ∧ laidMetH Tryz.prog Rows.draftNeedsRow.laid w) ∧ sizedMet enc Tryz.prog Tryz.f4 (OpenSpec.ofChange Rows.draftNeedsSpec) false w args)
      (Rows.draftNeedsSpec.post enc Tryz.prog Tryz.f4 false true false false) := by
  refine lifted_of (tb := 4) started (by kernel_rfl) Tryz.func4
    (ChangeSpec.witness_shaped (enc := enc) (C := Tryz.checked) (os := os) (X := fun w _ => laidMetH Tryz.prog Rows.draftNeedsRow.laid w) false (World.laidAll Tryz.prog os Rows.draftNeedsRow.laid) #[.slice none 0 0, .slice none 0 0, .agg #[.string ⟨#[]⟩, .bool false, .slice none 0 0, .slice none 0 0]] 8 (World.laidAll_os _ _ _) (World.shaped_of_ZipB (by kernel_rfl) (by kernel_rfl)) (by kernel_rfl) (by kernel_rfl) (by kernel_rfl) (draftNeeds_met os _))
    rfl (by kernel_rfl) Tryz.underlying4 (by kernel_rfl) ?_ ?_
  · intro ds hds
    have hds' : ds.length = 3 := hds
    match ds, hds' with
    | [d0, d1, d2], _ => rfl
  · intro W base args ds p hval hA hS hL
    rw [Tryz.params4] at hA hval hS
    obtain ⟨v0, v1, v2, d0, d1, d2, p0, p1, p2, rfl, rfl, rfl, h0, h1, h2⟩ := trodAll_three hA
    obtain ⟨sA0, sn0, sc0, sl0, rfl, u0⟩ := steps_arg (hval 0 22 v0 rfl rfl) h0
    obtain ⟨mA1, mn1, mc1, ms1, rfl, u1⟩ := env_arg (hval 1 23 v1 rfl rfl) h1
    obtain ⟨rx2, rs2, rA2, rc2, rB2, re2, rfl, u2⟩ := meas_arg (hval 2 45 v2 rfl rfl) h2
    exact (by simp only [DataW.weightsEach, List.all_append, Bool.and_eq_true] at hS; exact needs_law u0 u1 u2 (env_sz h1 hS.2.1) (frms_laid (by kernel_rfl) hL) (tab_laid (by kernel_rfl) hL))

theorem draftNeeds_row : Rows.DraftNeedsSaid :=
  OpenClaim.holds_of_wide 4 Tryz.f4 rfl rfl rfl rfl rfl rfl rfl ⟨rfl, rfl, rfl, rfl, rfl⟩ rfl rfl rfl rfl rfl draftNeeds_c3 Tryz.func4 draftNeeds_facts
    (of_decide_eq_true (by kernel_rfl)) (by unfold Func.isWrapper; first | (rw [if_pos (by decide +kernel)]; kernel_rfl) | (rw [if_neg (by decide +kernel)]; exact ⟨rfl, rfl⟩))
    (fun os started H enc _ => draftNeeds_lifted os started H enc)

theorem draftNeeds_card : Rows.DraftNeedsCardSaid :=
  Claim7.holds_tied_plain_at .later [] _ _ _ _
    draftNeeds_row (fun _ h => by cases h) (by exact draftNeeds_c1) (fun _ h => by cases h) draftNeeds_row_tie rfl ⟨rfl, rfl⟩ (by exact draftNeeds_c2) rfl
    (fun f fn hf hfn => by
      obtain rfl : f = 4 := Option.some.inj ((show Tryz.prog.funcNamed Rows.draftNeedsRow.func = some 4 by exact draftNeeds_c3).symm.trans hf) |>.symm
      obtain rfl : fn = Tryz.f4 := (Option.some.inj (Tryz.func4.symm.trans hfn)).symm
      exact ⟨by exact draftNeeds_c4, fun j t ht => by
        have hm : t ∈ Tryz.f4.params.toList := by simpa using Array.mem_of_getElem? ht
        have hall : (Tryz.f4.params.toList.all fun u => !Tryz.prog.wantsStandIn u) = true := by exact draftNeeds_c5
        exact (show Tryz.prog.wantsStandIn t = false by simpa using List.all_eq_true.1 hall t hm)⟩)
    (by exact draftNeeds_c6)
#print axioms draftNeeds_card
end Go.Proofs.YtfglcgbgaeegaaaGreatDoor
