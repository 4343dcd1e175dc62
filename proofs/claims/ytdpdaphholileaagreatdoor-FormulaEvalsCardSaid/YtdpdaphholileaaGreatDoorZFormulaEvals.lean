/-
  The law FormulaEvals returns true for every input; the arguments read as before: the row, and the card. Conditions: those of the given row (its listed variables, tied by the given tie).
-/
import Derived.Test.YtdpdaphholileaaGreatDoorG11
import Derived.Test.YtdpdaphholileaaGreatDoorTie
import Derived.Test.YtdpdaphholileaaGreatDoorCards
import Derived.Lib.SmallJoins
import Derived.Lay
import Derived.MakeChecks
namespace Go.Proofs.YtdpdaphholileaaGreatDoor
open Go Go.Vcg Go.RowKit Go.WideShapes Go.ChangeShapes Go.Joins Go.ChangeAt

theorem formulaEvals_met (os : Os) (args : Array Value) : laidMetH Tryz.prog Rows.formulaEvalsRow.laid ((World.laidAll Tryz.prog os Rows.formulaEvalsRow.laid).forCall (fun _ _ => 0) ⟨#[], args, []⟩).memory := by
  rw [Go.MakeChecks.laidMetH_plain _ _ _ (by kernel_rfl)]
  exact laidMet_laidAll _ (by kernel_rfl) (by kernel_rfl)

set_option maxRecDepth 100000 in
theorem formulaEvals_lifted (os : Os) (started : os.Started) (H : Type) (enc : TypeId × Value → H) :
    ReturnsInHanded {} Tryz.checked os 6 .any (fun w args => (Rows.formulaEvalsSpec.pre enc Tryz.prog Tryz.f6 [] false w args ∧ laidMetH Tryz.prog Rows.formulaEvalsRow.laid w) ∧ sizedMet enc Tryz.prog Tryz.f6 (OpenSpec.ofChange Rows.formulaEvalsSpec) false w args)
      (Rows.formulaEvalsSpec.post enc Tryz.prog Tryz.f6 false true false false) := by
  refine lifted_of (tb := 4) started (by kernel_rfl) Tryz.func6
    (ChangeSpec.witness_shaped (enc := enc) (C := Tryz.checked) (os := os) (X := fun w _ => laidMetH Tryz.prog Rows.formulaEvalsRow.laid w) false (World.laidAll Tryz.prog os Rows.formulaEvalsRow.laid) #[.agg #[.int .i64 0, .bool false, .slice none 0 0, .slice none 0 0, .string ⟨#[]⟩, .slice none 0 0], .slice none 0 0] 8 (World.laidAll_os _ _ _) (World.shaped_of_ZipB (by kernel_rfl) (by kernel_rfl)) (by kernel_rfl) (by kernel_rfl) (by kernel_rfl) (formulaEvals_met os _))
    rfl (by kernel_rfl) Tryz.underlying4 (by kernel_rfl) ?_ ?_
  · intro ds hds
    have hds' : ds.length = 2 := hds
    match ds, hds' with
    | [d0, d1], _ => rfl
  · intro W base args ds p hval hA _ hL
    rw [Tryz.params6] at hA hval
    obtain ⟨v0, v1, d0, d1, p0, p1, rfl, rfl, rfl, h0, h1⟩ := trodAll_two hA
    obtain ⟨e0, vs0, rfl, u0⟩ := expr_arg (hval 0 30 v0 rfl rfl) h0
    obtain ⟨mA1, mn1, mc1, ms1, rfl, u1⟩ := env_arg (hval 1 44 v1 rfl rfl) h1
    exact evals_law u0 u1 (tab_laid (by kernel_rfl) hL)

theorem formulaEvals_row : Rows.FormulaEvalsSaid :=
  OpenClaim.holds_of_wide 6 Tryz.f6 rfl rfl rfl rfl rfl rfl rfl ⟨rfl, rfl, rfl, rfl, rfl⟩ rfl rfl rfl rfl rfl (by kernel_rfl) Tryz.func6 (by kernel_rfl)
    (of_decide_eq_true (by kernel_rfl)) (by unfold Func.isWrapper; first | (rw [if_pos (by decide +kernel)]; kernel_rfl) | (rw [if_neg (by decide +kernel)]; exact ⟨rfl, rfl⟩))
    (fun os started H enc _ => formulaEvals_lifted os started H enc)

theorem formulaEvals_card : Rows.FormulaEvalsCardSaid :=
  Claim7.holds_tied_plain_at .later [] _ _ _ _
    formulaEvals_row (fun _ h => by cases h) (by kernel_rfl) (fun _ h => by cases h) formulaEvals_row_tie rfl ⟨rfl, rfl⟩ (by kernel_rfl) rfl
    (fun f fn hf hfn => by
      obtain rfl : f = 6 := Option.some.inj ((show Tryz.prog.funcNamed Rows.formulaEvalsRow.func = some 6 by kernel_rfl).symm.trans hf) |>.symm
      obtain rfl : fn = Tryz.f6 := (Option.some.inj (Tryz.func6.symm.trans hfn)).symm
      exact ⟨by kernel_rfl, fun j t ht => by
        have hm : t ∈ Tryz.f6.params.toList := by simpa using Array.mem_of_getElem? ht
        have hall : (Tryz.f6.params.toList.all fun u => !Tryz.prog.wantsStandIn u) = true := by kernel_rfl
        exact (show Tryz.prog.wantsStandIn t = false by simpa using List.all_eq_true.1 hall t hm)⟩)
    (by kernel_rfl)
#print axioms formulaEvals_card
end Go.Proofs.YtdpdaphholileaaGreatDoor
