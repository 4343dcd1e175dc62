/-
  The law DraftChecks returns true for every input; the arguments read as before: the row, and the card. Conditions: those of the given row (its listed variables, tied by the given tie).
-/
import Derived.Test.YtfglcgbgaeegaaaGreatDoorG12
import Derived.Test.YtfglcgbgaeegaaaGreatDoorG13
import Derived.Test.YtfglcgbgaeegaaaGreatDoorG14
import Derived.Test.YtfglcgbgaeegaaaGreatDoorTie
import Derived.Test.YtfglcgbgaeegaaaGreatDoorCards
import Derived.Lib.SmallJoins
import Derived.Lay
import Derived.MakeChecks
namespace Go.Proofs.YtfglcgbgaeegaaaGreatDoor
open Go Go.Vcg Go.RowKit Go.WideShapes Go.ChangeShapes Go.Joins Go.ChangeAt

theorem draftChecks_met (os : Os) (args : Array Value) : laidMetH Tryz.prog Rows.draftChecksRow.laid ((World.laidAll Tryz.prog os Rows.draftChecksRow.laid).forCall (fun _ _ => 0) ⟨#[], args, []⟩).memory := by
  rw [Go.MakeChecks.laidMetH_plain _ _ _ (by kernel_rfl)]
  exact laidMet_laidAll _ (by kernel_rfl) (by kernel_rfl)

set_option maxRecDepth 100000 in
theorem draftChecks_lifted (os : Os) (started : os.Started) (H : Type) (enc : TypeId × Value → H) :
    ReturnsInHanded {} Tryz.checked os 5 .any (fun w args => (Rows.draftChecksSpec.pre enc Tryz.prog Tryz.f5 [] false w args ∧ laidMetH Tryz.prog Rows.draftChecksRow.laid w) ∧ sizedMet enc Tryz.prog Tryz.f5 (OpenSpec.ofChange Rows.draftChecksSpec) false w args)
      (Rows.draftChecksSpec.post enc Tryz.prog Tryz.f5 false true false false) := by
  refine lifted_of (tb := 4) started (by kernel_rfl) Tryz.func5
    (ChangeSpec.witness_shaped (enc := enc) (C := Tryz.checked) (os := os) (X := fun w _ => laidMetH Tryz.prog Rows.draftChecksRow.laid w) false (World.laidAll Tryz.prog os Rows.draftChecksRow.laid) #[.slice none 0 0] 8 (World.laidAll_os _ _ _) (World.shaped_of_ZipB (by kernel_rfl) (by kernel_rfl)) (by kernel_rfl) (by kernel_rfl) (by kernel_rfl) (draftChecks_met os _))
    rfl (by kernel_rfl) Tryz.underlying4 (by kernel_rfl) ?_ ?_
  · intro ds hds
    have hds' : ds.length = 1 := hds
    match ds, hds' with
    | [d0], _ => rfl
  · intro W base args ds p hval hA _ hL
    rw [Tryz.params5] at hA hval
    obtain ⟨v0, d0, rfl, rfl, h0⟩ := trodAll_one hA
    obtain ⟨sA0, sn0, sc0, sl0, rfl, u0⟩ := steps_arg (hval 0 22 v0 rfl rfl) h0
    exact dchecks_law u0 (frms_laid (by kernel_rfl) hL) (tab_laid (by kernel_rfl) hL)

theorem draftChecks_row : Rows.DraftChecksSaid :=
  OpenClaim.holds_of_wide 5 Tryz.f5 rfl rfl rfl rfl rfl rfl rfl ⟨rfl, rfl, rfl, rfl, rfl⟩ rfl rfl rfl rfl rfl draftChecks_c3 Tryz.func5 draftChecks_facts
    (of_decide_eq_true (by kernel_rfl)) (by unfold Func.isWrapper; first | (rw [if_pos (by decide +kernel)]; kernel_rfl) | (rw [if_neg (by decide +kernel)]; exact ⟨rfl, rfl⟩))
    (fun os started H enc _ => draftChecks_lifted os started H enc)

theorem draftChecks_card : Rows.DraftChecksCardSaid :=
  Claim7.holds_tied_plain_at .later [] _ _ _ _
    draftChecks_row (fun _ h => by cases h) (by exact draftChecks_c1) (fun _ h => by cases h) draftChecks_row_tie rfl ⟨rfl, rfl⟩ (by exact draftChecks_c2) rfl
    (fun f fn hf hfn => by
      obtain rfl : f = 5 := Option.some.inj ((show Tryz.prog.funcNamed Rows.draftChecksRow.func = some 5 by exact draftChecks_c3).symm.trans hf) |>.symm
      obtain rfl : fn = Tryz.f5 := (Option.some.inj (Tryz.func5.symm.trans hfn)).symm
      exact ⟨by exact draftChecks_c4, fun j t ht => by
        have hm : t ∈ Tryz.f5.params.toList := by simpa using Array.mem_of_getElem? ht
        have hall : (Tryz.f5.params.toList.all fun u => !Tryz.prog.wantsStandIn u) = true := by exact draftChecks_c5
        exact (show Tryz.prog.wantsStandIn t = false by simpa using List.all_eq_true.1 hall t hm)⟩)
    (by exact draftChecks_c6)
#print axioms draftChecks_card
end Go.Proofs.YtfglcgbgaeegaaaGreatDoor
