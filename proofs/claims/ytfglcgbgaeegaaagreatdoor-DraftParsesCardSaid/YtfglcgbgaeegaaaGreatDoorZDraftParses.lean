/-
  The law DraftParses returns true for every input; the arguments read as before: the row, and the card. Conditions: those of the given row (its listed variables, tied by the given tie).
-/
import Derived.Test.YtfglcgbgaeegaaaGreatDoorG14
import Derived.Test.YtfglcgbgaeegaaaGreatDoorG15
import Derived.Test.YtfglcgbgaeegaaaGreatDoorTie
import Derived.Test.YtfglcgbgaeegaaaGreatDoorCards
import Derived.Lib.SmallJoins
import Derived.Lay
import Derived.MakeChecks
namespace Go.Proofs.YtfglcgbgaeegaaaGreatDoor
open Go Go.Vcg Go.RowKit Go.WideShapes Go.ChangeShapes Go.Joins Go.ChangeAt

theorem draftParses_met (os : Os) (args : Array Value) : laidMetH Tryz.prog Rows.draftParsesRow.laid ((World.laidAll Tryz.prog os Rows.draftParsesRow.laid).forCall (fun _ _ => 0) ⟨#[], args, []⟩).memory := by
  rw [Go.MakeChecks.laidMetH_plain _ _ _ (by kernel_rfl)]
  exact laidMet_laidAll _ (by kernel_rfl) (by kernel_rfl)

set_option maxRecDepth 100000 in
theorem draftParses_lifted (os : Os) (started : os.Started) (H : Type) (enc : TypeId × Value → H) :
    ReturnsInHanded {} Tryz.checked os 6 .any (fun w args => (Rows.draftParsesSpec.pre enc Tryz.prog Tryz.f6 [] false w args ∧ laidMetH Tryz.prog Rows.draftParsesRow.laid w) ∧ sizedMet enc Tryz.prog Tryz.f6 (OpenSpec.ofChange Rows.draftParsesSpec) false w args)
      (Rows.draftParsesSpec.post enc Tryz.prog Tryz.f6 false true false false) := by
  refine lifted_of (tb := 4) started (by kernel_rfl) Tryz.func6
    (ChangeSpec.witness_shaped (enc := enc) (C := Tryz.checked) (os := os) (X := fun w _ => laidMetH Tryz.prog Rows.draftParsesRow.laid w) false (World.laidAll Tryz.prog os Rows.draftParsesRow.laid) #[.string ⟨#[]⟩] 8 (World.laidAll_os _ _ _) (World.shaped_of_ZipB (by kernel_rfl) (by kernel_rfl)) (by kernel_rfl) (by kernel_rfl) (by kernel_rfl) (draftParses_met os _))
    rfl (by kernel_rfl) Tryz.underlying4 (by kernel_rfl) ?_ ?_
  · intro ds hds
    have hds' : ds.length = 1 := hds
    match ds, hds' with
    | [d0], _ => rfl
  · intro W base args ds p hval hA _ hL
    rw [Tryz.params6] at hA hval
    obtain ⟨v0, d0, rfl, rfl, h0⟩ := trodAll_one hA
    obtain ⟨l0, rfl⟩ := str_arg (hval 0 9 v0 rfl rfl) h0
    exact dparses_law l0 (frms_laid (by kernel_rfl) hL) (tab_laid (by kernel_rfl) hL)

theorem draftParses_row : Rows.DraftParsesSaid :=
  OpenClaim.holds_of_wide 6 Tryz.f6 rfl rfl rfl rfl rfl rfl rfl ⟨rfl, rfl, rfl, rfl, rfl⟩ rfl rfl rfl rfl rfl (by kernel_rfl) Tryz.func6 draftParses_facts
    (of_decide_eq_true (by kernel_rfl)) (by unfold Func.isWrapper; first | (rw [if_pos (by decide +kernel)]; kernel_rfl) | (rw [if_neg (by decide +kernel)]; exact ⟨rfl, rfl⟩))
    (fun os started H enc _ => draftParses_lifted os started H enc)

theorem draftParses_card : Rows.DraftParsesCardSaid :=
  Claim7.holds_tied_plain_at .later [] _ _ _ _
    draftParses_row (fun _ h => by cases h) (by kernel_rfl) (fun _ h => by cases h) draftParses_row_tie rfl ⟨rfl, rfl⟩ (by kernel_rfl) rfl
    (fun f fn hf hfn => by
      obtain rfl : f = 6 := Option.some.inj ((show Tryz.prog.funcNamed Rows.draftParsesRow.func = some 6 by kernel_rfl).symm.trans hf) |>.symm
      obtain rfl : fn = Tryz.f6 := (Option.some.inj (Tryz.func6.symm.trans hfn)).symm
      exact ⟨by kernel_rfl, fun j t ht => by
        have hm : t ∈ Tryz.f6.params.toList := by simpa using Array.mem_of_getElem? ht
        have hall : (Tryz.f6.params.toList.all fun u => !Tryz.prog.wantsStandIn u) = true := by kernel_rfl
        exact (show Tryz.prog.wantsStandIn t = false by simpa using List.all_eq_true.1 hall t hm)⟩)
    (by kernel_rfl)
#print axioms draftParses_card
end Go.Proofs.YtfglcgbgaeegaaaGreatDoor
