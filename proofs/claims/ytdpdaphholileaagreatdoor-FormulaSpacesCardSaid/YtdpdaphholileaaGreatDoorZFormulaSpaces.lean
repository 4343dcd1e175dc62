/-
  The law FormulaSpaces returns true for every input; the arguments read as before: the row, and the card. Conditions: those of the given row (its listed variables, tied by the given tie).
-/
import Derived.Test.YtdpdaphholileaaGreatDoorG10
import Derived.Test.YtdpdaphholileaaGreatDoorTie
import Derived.Test.YtdpdaphholileaaGreatDoorCards
import Derived.Lib.SmallJoins
import Derived.Lay
import Derived.MakeChecks
namespace Go.Proofs.YtdpdaphholileaaGreatDoor
open Go Go.Vcg Go.RowKit Go.WideShapes Go.ChangeShapes Go.Joins Go.ChangeAt

theorem formulaSpaces_met (os : Os) (args : Array Value) : laidMetH Tryz.prog Rows.formulaSpacesRow.laid ((World.laidAll Tryz.prog os Rows.formulaSpacesRow.laid).forCall (fun _ _ => 0) ⟨#[], args, []⟩).memory := by
  rw [Go.MakeChecks.laidMetH_plain _ _ _ (by kernel_rfl)]
  exact laidMet_laidAll _ (by kernel_rfl) (by kernel_rfl)

set_option maxRecDepth 100000 in
theorem formulaSpaces_lifted (os : Os) (started : os.Started) (H : Type) (enc : TypeId × Value → H) :
    ReturnsInHanded {} Tryz.checked os 8 .any (fun w args => (Rows.formulaSpacesSpec.pre enc Tryz.prog Tryz.f8 [] false w args ∧ laidMetH Tryz.prog Rows.formulaSpacesRow.laid w) ∧ sizedMet enc Tryz.prog Tryz.f8 (OpenSpec.ofChange Rows.formulaSpacesSpec) false w args)
      (Rows.formulaSpacesSpec.post enc Tryz.prog Tryz.f8 false true false false) := by
  refine lifted_of (tb := 4) started (by kernel_rfl) Tryz.func8
    (ChangeSpec.witness_shaped (enc := enc) (C := Tryz.checked) (os := os) (X := fun w _ => laidMetH Tryz.prog Rows.formulaSpacesRow.laid w) false (World.laidAll Tryz.prog os Rows.formulaSpacesRow.laid) #[.string ⟨#[]⟩] 8 (World.laidAll_os _ _ _) (World.shaped_of_ZipB (by kernel_rfl) (by kernel_rfl)) (by kernel_rfl) (by kernel_rfl) (by kernel_rfl) (formulaSpaces_met os _))
    rfl (by kernel_rfl) Tryz.underlying4 (by kernel_rfl) ?_ ?_
  · intro ds hds
    have hds' : ds.length = 1 := hds
    match ds, hds' with
    | [d0], _ => rfl
  · intro W base args ds p hval hA _ hL
    rw [Tryz.params8] at hA hval
    obtain ⟨v0, d0, rfl, rfl, h0⟩ := trodAll_one hA
    obtain ⟨l0, rfl⟩ := str_arg (hval 0 9 v0 rfl rfl) h0
    exact spaces_law l0 (tab_laid (by kernel_rfl) hL)

theorem formulaSpaces_row : Rows.FormulaSpacesSaid :=
  OpenClaim.holds_of_wide 8 Tryz.f8 rfl rfl rfl rfl rfl rfl rfl ⟨rfl, rfl, rfl, rfl, rfl⟩ rfl rfl rfl rfl rfl (by kernel_rfl) Tryz.func8 (by kernel_rfl)
    (of_decide_eq_true (by kernel_rfl)) (by unfold Func.isWrapper; first | (rw [if_pos (by decide +kernel)]; kernel_rfl) | (rw [if_neg (by decide +kernel)]; exact ⟨rfl, rfl⟩))
    (fun os started H enc _ => formulaSpaces_lifted os started H enc)

theorem formulaSpaces_card : Rows.FormulaSpacesCardSaid :=
  Claim7.holds_tied_plain_at .later [] _ _ _ _
    formulaSpaces_row (fun _ h => by cases h) (by kernel_rfl) (fun _ h => by cases h) formulaSpaces_row_tie rfl ⟨rfl, rfl⟩ (by kernel_rfl) rfl
    (fun f fn hf hfn => by
      obtain rfl : f = 8 := Option.some.inj ((show Tryz.prog.funcNamed Rows.formulaSpacesRow.func = some 8 by kernel_rfl).symm.trans hf) |>.symm
      obtain rfl : fn = Tryz.f8 := (Option.some.inj (Tryz.func8.symm.trans hfn)).symm
      exact ⟨by kernel_rfl, fun j t ht => by
        have hm : t ∈ Tryz.f8.params.toList := by simpa using Array.mem_of_getElem? ht
        have hall : (Tryz.f8.params.toList.all fun u => !Tryz.prog.wantsStandIn u) = true := by kernel_rfl
        exact (show Tryz.prog.wantsStandIn t = false by simpa using List.all_eq_true.1 hall t hm)⟩)
    (by kernel_rfl)
#print axioms formulaSpaces_card
end Go.Proofs.YtdpdaphholileaaGreatDoor
