/-
  The law MeasureSigns returns true for every input; the arguments read as before: the row, and the card. Conditions: those of the given row (its listed variables, tied by the given tie).
-/
import Derived.Test.YtccplhjglhdopaaGreatDoorG09
import Derived.Test.YtccplhjglhdopaaGreatDoorG10
import Derived.Test.YtccplhjglhdopaaGreatDoorTie
import Derived.Test.YtccplhjglhdopaaGreatDoorCards
import Derived.Lib.SmallJoins
import Derived.Lay
import Derived.MakeChecks
namespace Go.Proofs.YtccplhjglhdopaaGreatDoor
open Go Go.Vcg Go.RowKit Go.WideShapes Go.ChangeShapes Go.Joins Go.ChangeAt

theorem measureSigns_met (os : Os) (args : Array Value) : laidMetH Tryz.prog Rows.measureSignsRow.laid ((World.laidAll Tryz.prog os Rows.measureSignsRow.laid).forCall (fun _ _ => 0) ⟨#[], args, []⟩).memory := by
  rw [Go.MakeChecks.laidMetH_plain _ _ _ (by kernel_rfl)]
  exact laidMet_laidAll _ (by kernel_rfl) (by kernel_rfl)

set_option maxRecDepth 100000 in
theorem measureSigns_lifted (os : Os) (started : os.Started) (H : Type) (enc : TypeId × Value → H) :
    ReturnsInHanded {} Tryz.checked os 7 .any (fun w args => (Rows.measureSignsSpec.pre enc Tryz.prog Tryz.f7 [] false w args ∧ laidMetH Tryz.prog Rows.measureSignsRow.laid w) ∧ sizedMet enc Tryz.prog Tryz.f7 (OpenSpec.ofChange Rows.measureSignsSpec) false w args)
      (Rows.measureSignsSpec.post enc Tryz.prog Tryz.f7 false true false false) := by
  refine lifted_of (tb := 4) started (by kernel_rfl) Tryz.func7
    (ChangeSpec.witness_shaped (enc := enc) (C := Tryz.checked) (os := os) (X := fun w _ => laidMetH Tryz.prog Rows.measureSignsRow.laid w) false (World.laidAll Tryz.prog os Rows.measureSignsRow.laid) #[.agg #[.bool false, .slice none 0 0, .slice none 0 0], .string ⟨#[]⟩] 8 (World.laidAll_os _ _ _) (World.shaped_of_ZipB (by kernel_rfl) (by kernel_rfl)) (by kernel_rfl) (by kernel_rfl) (by kernel_rfl) (measureSigns_met os _))
    rfl (by kernel_rfl) Tryz.underlying4 (by kernel_rfl) ?_ ?_
  · intro ds hds
    have hds' : ds.length = 2 := hds
    match ds, hds' with
    | [d0, d1], _ => rfl
  · intro W base args ds p hval hA _ hL
    rw [Tryz.params7] at hA hval
    obtain ⟨v0, v1, d0, d1, p0, p1, rfl, rfl, rfl, h0, h1⟩ := trodAll_two hA
    obtain ⟨qs0, qA0, qn0, qc0, qB0, qm0, qd0, x0, rfl, u0⟩ := ratio_arg (hval 0 28 v0 rfl rfl) h0
    obtain ⟨l1, rfl⟩ := str_arg (hval 1 9 v1 rfl rfl) h1
    exact signs_law u0 l1 (tab_laid (by kernel_rfl) hL)

theorem measureSigns_row : Rows.MeasureSignsSaid :=
  OpenClaim.holds_of_wide 7 Tryz.f7 rfl rfl rfl rfl rfl rfl rfl ⟨rfl, rfl, rfl, rfl, rfl⟩ rfl rfl rfl rfl rfl (by kernel_rfl) Tryz.func7 (by kernel_rfl)
    (of_decide_eq_true (by kernel_rfl)) (by unfold Func.isWrapper; first | (rw [if_pos (by decide +kernel)]; kernel_rfl) | (rw [if_neg (by decide +kernel)]; exact ⟨rfl, rfl⟩))
    (fun os started H enc _ => measureSigns_lifted os started H enc)

theorem measureSigns_card : Rows.MeasureSignsCardSaid :=
  Claim7.holds_tied_plain_at .later [] _ _ _ _
    measureSigns_row (fun _ h => by cases h) (by kernel_rfl) (fun _ h => by cases h) measureSigns_row_tie rfl ⟨rfl, rfl⟩ (by kernel_rfl) rfl
    (fun f fn hf hfn => by
      obtain rfl : f = 7 := Option.some.inj ((show Tryz.prog.funcNamed Rows.measureSignsRow.func = some 7 by kernel_rfl).symm.trans hf) |>.symm
      obtain rfl : fn = Tryz.f7 := (Option.some.inj (Tryz.func7.symm.trans hfn)).symm
      exact ⟨by kernel_rfl, fun j t ht => by
        have hm : t ∈ Tryz.f7.params.toList := by simpa using Array.mem_of_getElem? ht
        have hall : (Tryz.f7.params.toList.all fun u => !Tryz.prog.wantsStandIn u) = true := by kernel_rfl
        exact (show Tryz.prog.wantsStandIn t = false by simpa using List.all_eq_true.1 hall t hm)⟩)
    (by kernel_rfl)
#print axioms measureSigns_card
end Go.Proofs.YtccplhjglhdopaaGreatDoor
