/-
  The law SamplingMean returns true for every input; the arguments read as before: the row, and the card. Conditions: those of the given row (its listed variables, tied by the given tie).
-/
import Derived.Test.YtfhipkdcekffaaaGreatDoorLaw3
import Derived.Test.YtfhipkdcekffaaaGreatDoorFin1
import Derived.Test.YtfhipkdcekffaaaGreatDoorTie
import Derived.Test.YtfhipkdcekffaaaGreatDoorCards
import Derived.Lib.SmallJoins
namespace Go.Proofs.YtfhipkdcekffaaaGreatDoor
open Go Go.Vcg Go.RowKit Go.WideShapes Go.ChangeShapes Go.Joins Go.ChangeAt

theorem samplingMean_met (os : Os) (args : Array Value) : laidMetH Tryz.prog Rows.samplingMeanRow.laid ((World.doorLaid Tryz.prog 400 os).forCall (fun _ _ => 0) ⟨#[], args, []⟩).memory :=
  laidMetH_of_parts3 (fuel := 8) (laidMet_of_run' 8 (by kernel_rfl) (by kernel_rfl)) (by kernel_rfl) (by kernel_rfl)

set_option maxRecDepth 100000 in
theorem samplingMean_lifted (os : Os) (started : os.Started) (H : Type) (enc : TypeId × Value → H) :
    ReturnsInHanded {} Tryz.checked os 5 .any (fun w args => (Rows.samplingMeanSpec.pre enc Tryz.prog Tryz.f5 [] false w args ∧ laidMetH Tryz.prog Rows.samplingMeanRow.laid w) ∧ sizedMet enc Tryz.prog Tryz.f5 (OpenSpec.ofChange Rows.samplingMeanSpec) false w args)
      (Rows.samplingMeanSpec.post enc Tryz.prog Tryz.f5 false true false false) := by
  refine lifted_of (tb := 4) started (by kernel_rfl) Tryz.func5
    (ChangeSpec.witness_shaped (enc := enc) (C := Tryz.checked) (os := os) (X := fun w _ => laidMetH Tryz.prog Rows.samplingMeanRow.laid w) false (World.doorLaid Tryz.prog 400 os) #[.agg #[.int .i64 0, .int .i64 0], .agg #[.int .i64 0, .int .i64 0, .int .i64 0]] 8 rfl (World.shaped_of_RefB (by kernel_rfl) (by kernel_rfl)) (by kernel_rfl) (by kernel_rfl) (by kernel_rfl) (samplingMean_met os _))
    rfl (by kernel_rfl) Tryz.underlying4 (by kernel_rfl) ?_ ?_
  · intro ds hds
    have hds' : ds.length = 2 := hds
    match ds, hds' with
    | [d0, d1], _ => rfl
  · intro W base args ds p hval hA _ _
    rw [Tryz.params5] at hA hval
    obtain ⟨v0, v1, d0, d1, p0, p1, rfl, rfl, rfl, h0, h1⟩ := trodAll_two hA
    obtain ⟨c00, c01, y00, y01, m0, rfl, rfl, _, hy00, hy01⟩ := open_agg2 Tryz.underlying23 (by kernel_rfl) (by kernel_rfl) (hval 0 23 v0 rfl rfl) h0
    obtain ⟨a00, rfl, w00⟩ := int_arg Tryz.underlying3 hy00
    obtain ⟨a01, rfl, w01⟩ := int_arg Tryz.underlying3 hy01
    obtain ⟨c10, c11, c12, y10, y11, y12, m1, rfl, rfl, _, hy10, hy11, hy12⟩ := open_agg3 Tryz.underlying25 (by kernel_rfl) (by kernel_rfl) (hval 1 25 v1 rfl rfl) h1
    obtain ⟨a10, rfl, w10⟩ := int_arg Tryz.underlying3 hy10
    obtain ⟨a11, rfl, w11⟩ := int_arg Tryz.underlying3 hy11
    obtain ⟨a12, rfl, w12⟩ := int_arg Tryz.underlying3 hy12
    exact mean_law a00 a01 a10 a11 a12 (full W)

theorem samplingMean_row : Rows.SamplingMeanSaid :=
  OpenClaim.holds_of_wide 5 Tryz.f5 rfl rfl rfl rfl rfl rfl rfl ⟨rfl, rfl, rfl, rfl, rfl⟩ rfl rfl rfl rfl rfl (by kernel_rfl) Tryz.func5 (by kernel_rfl)
    (of_decide_eq_true (by kernel_rfl)) (by unfold Func.isWrapper; first | (rw [if_pos (by decide +kernel)]; kernel_rfl) | (rw [if_neg (by decide +kernel)]; exact ⟨rfl, rfl⟩))
    (fun os started H enc _ => samplingMean_lifted os started H enc)

theorem samplingMean_card : Rows.SamplingMeanCardSaid :=
  Claim7.holds_tied_plain_at .later [] [.data, .data, .data] true Rows.samplingMeanCard.stood.harness false
    samplingMean_row (fun _ h => by cases h) (by kernel_rfl) (fun _ h => by cases h) samplingMean_row_tie rfl ⟨rfl, rfl⟩ (by kernel_rfl) rfl
    (fun f fn hf hfn => by
      obtain rfl : f = 5 := Option.some.inj ((show Tryz.prog.funcNamed Rows.samplingMeanRow.func = some 5 by kernel_rfl).symm.trans hf) |>.symm
      obtain rfl : fn = Tryz.f5 := (Option.some.inj (Tryz.func5.symm.trans hfn)).symm
      exact ⟨by kernel_rfl, fun j t ht => by
        have hm : t ∈ Tryz.f5.params.toList := by simpa using Array.mem_of_getElem? ht
        have hall : (Tryz.f5.params.toList.all fun u => !Tryz.prog.wantsStandIn u) = true := by kernel_rfl
        exact (show Tryz.prog.wantsStandIn t = false by simpa using List.all_eq_true.1 hall t hm)⟩)
    (by kernel_rfl)
#print axioms samplingMean_card
end Go.Proofs.YtfhipkdcekffaaaGreatDoor
