/-
  The law SamplingCounts returns true for every input; the arguments read as before: the row, and the card. Conditions: those of the given row (its listed variables, tied by the given tie).
-/
import Derived.Test.YtfhipkdcekffaaaDoorLaw2
import Derived.Test.YtfhipkdcekffaaaDoorFin1
import Derived.Test.YtfhipkdcekffaaaDoorTie
import Derived.Test.YtfhipkdcekffaaaDoorCards
import Derived.Lib.SmallJoins
namespace Go.Proofs.YtfhipkdcekffaaaDoor
open Go Go.Vcg Go.RowKit Go.WideShapes Go.ChangeShapes Go.Joins Go.ChangeAt

theorem samplingCounts_met (os : Os) (args : Array Value) : laidMetH Tryd.prog Rows.samplingCountsRow.laid ((World.doorLaid Tryd.prog 400 os).forCall (fun _ _ => 0) ⟨#[], args, []⟩).memory :=
  laidMetH_of_parts3 (fuel := 8) (laidMet_of_run' 8 (by kernel_rfl) (by kernel_rfl)) (by kernel_rfl) (by kernel_rfl)

set_option maxRecDepth 100000 in
theorem samplingCounts_lifted (os : Os) (started : os.Started) (H : Type) (enc : TypeId × Value → H) :
    ReturnsInHanded {} Tryd.checked os 8 .any (fun w args => (Rows.samplingCountsSpec.pre enc Tryd.prog Tryd.f8 [] false w args ∧ laidMetH Tryd.prog Rows.samplingCountsRow.laid w) ∧ sizedMet enc Tryd.prog Tryd.f8 (OpenSpec.ofChange Rows.samplingCountsSpec) false w args)
      (Rows.samplingCountsSpec.post enc Tryd.prog Tryd.f8 false true false false) := by
  refine lifted_of (tb := 4) started (by kernel_rfl) Tryd.func8
    (ChangeSpec.witness_shaped (enc := enc) (C := Tryd.checked) (os := os) (X := fun w _ => laidMetH Tryd.prog Rows.samplingCountsRow.laid w) false (World.doorLaid Tryd.prog 400 os) #[.agg #[.int .i64 0, .int .i64 0], .agg #[.int .i64 0, .int .i64 0, .int .i64 0]] 8 rfl (World.shaped_of_RefB (by kernel_rfl) (by kernel_rfl)) (by kernel_rfl) (by kernel_rfl) (by kernel_rfl) (samplingCounts_met os _))
    rfl (by kernel_rfl) Tryd.underlying4 (by kernel_rfl) ?_ ?_
  · intro ds hds
    have hds' : ds.length = 2 := hds
    match ds, hds' with
    | [d0, d1], _ => rfl
  · intro W base args ds p hval hA _ _
    rw [Tryd.params8] at hA hval
    obtain ⟨v0, v1, d0, d1, p0, p1, rfl, rfl, rfl, h0, h1⟩ := trodAll_two hA
    obtain ⟨c00, c01, y00, y01, m0, rfl, rfl, _, hy00, hy01⟩ := open_agg2 Tryd.underlying23 (by kernel_rfl) (by kernel_rfl) (hval 0 23 v0 rfl rfl) h0
    obtain ⟨a00, rfl, w00⟩ := int_arg Tryd.underlying3 hy00
    obtain ⟨a01, rfl, w01⟩ := int_arg Tryd.underlying3 hy01
    obtain ⟨c10, c11, c12, y10, y11, y12, m1, rfl, rfl, _, hy10, hy11, hy12⟩ := open_agg3 Tryd.underlying38 (by kernel_rfl) (by kernel_rfl) (hval 1 38 v1 rfl rfl) h1
    obtain ⟨a10, rfl, w10⟩ := int_arg Tryd.underlying3 hy10
    obtain ⟨a11, rfl, w11⟩ := int_arg Tryd.underlying3 hy11
    obtain ⟨a12, rfl, w12⟩ := int_arg Tryd.underlying3 hy12
    exact counts_law a00 a01 a10 a11 a12 (full W)

theorem samplingCounts_row : Rows.SamplingCountsSaid :=
  OpenClaim.holds_of_wide 8 Tryd.f8 rfl rfl rfl rfl rfl rfl rfl ⟨rfl, rfl, rfl, rfl, rfl⟩ rfl rfl rfl rfl rfl (by kernel_rfl) Tryd.func8 (by kernel_rfl)
    (of_decide_eq_true (by kernel_rfl)) (by unfold Func.isWrapper; first | (rw [if_pos (by decide +kernel)]; kernel_rfl) | (rw [if_neg (by decide +kernel)]; exact ⟨rfl, rfl⟩))
    (fun os started H enc _ => samplingCounts_lifted os started H enc)

theorem samplingCounts_card : Rows.SamplingCountsCardSaid :=
  Claim7.holds_tied_plain_at .later [] [.data, .data, .data] true Rows.samplingCountsCard.stood.harness false
    samplingCounts_row (fun _ h => by cases h) (by kernel_rfl) (fun _ h => by cases h) samplingCounts_row_tie rfl ⟨rfl, rfl⟩ (by kernel_rfl) rfl
    (fun f fn hf hfn => by
      obtain rfl : f = 8 := Option.some.inj ((show Tryd.prog.funcNamed Rows.samplingCountsRow.func = some 8 by kernel_rfl).symm.trans hf) |>.symm
      obtain rfl : fn = Tryd.f8 := (Option.some.inj (Tryd.func8.symm.trans hfn)).symm
      exact ⟨by kernel_rfl, fun j t ht => by
        have hm : t ∈ Tryd.f8.params.toList := by simpa using Array.mem_of_getElem? ht
        have hall : (Tryd.f8.params.toList.all fun u => !Tryd.prog.wantsStandIn u) = true := by kernel_rfl
        exact (show Tryd.prog.wantsStandIn t = false by simpa using List.all_eq_true.1 hall t hm)⟩)
    (by kernel_rfl)
#print axioms samplingCounts_card
end Go.Proofs.YtfhipkdcekffaaaDoor
