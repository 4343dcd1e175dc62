/-
  The law SamplingChecks returns true for every input; the arguments read as before: the row, and the card. Conditions: those of the given row (its listed variables, tied by the given tie).
-/
import Derived.Test.YtfhipkdcekffaaaDoorLaw1
import Derived.Test.YtfhipkdcekffaaaDoorFin1
import Derived.Test.YtfhipkdcekffaaaDoorTie
import Derived.Test.YtfhipkdcekffaaaDoorCards
import Derived.Lib.SmallJoins
namespace Go.Proofs.YtfhipkdcekffaaaDoor
open Go Go.Vcg Go.RowKit Go.WideShapes Go.ChangeShapes Go.Joins Go.ChangeAt

theorem samplingChecks_met (os : Os) (args : Array Value) : laidMetH Tryd.prog Rows.samplingChecksRow.laid ((World.doorLaid Tryd.prog 400 os).forCall (fun _ _ => 0) ⟨#[], args, []⟩).memory :=
  laidMetH_of_parts3 (fuel := 8) (laidMet_of_run' 8 (by kernel_rfl) (by kernel_rfl)) (by kernel_rfl) (by kernel_rfl)

set_option maxRecDepth 100000 in
theorem samplingChecks_lifted (os : Os) (started : os.Started) (H : Type) (enc : TypeId × Value → H) :
    ReturnsInHanded {} Tryd.checked os 3 .any (fun w args => (Rows.samplingChecksSpec.pre enc Tryd.prog Tryd.f3 [] false w args ∧ laidMetH Tryd.prog Rows.samplingChecksRow.laid w) ∧ sizedMet enc Tryd.prog Tryd.f3 (OpenSpec.ofChange Rows.samplingChecksSpec) false w args)
      (Rows.samplingChecksSpec.post enc Tryd.prog Tryd.f3 false true false false) := by
  refine lifted_of (tb := 4) started (by kernel_rfl) Tryd.func3
    (ChangeSpec.witness_shaped (enc := enc) (C := Tryd.checked) (os := os) (X := fun w _ => laidMetH Tryd.prog Rows.samplingChecksRow.laid w) false (World.doorLaid Tryd.prog 400 os) #[.agg #[.int .i64 0, .int .i64 0], .int .i64 0, .int .i64 0] 8 rfl (World.shaped_of_RefB (by kernel_rfl) (by kernel_rfl)) (by kernel_rfl) (by kernel_rfl) (by kernel_rfl) (samplingChecks_met os _))
    rfl (by kernel_rfl) Tryd.underlying4 (by kernel_rfl) ?_ ?_
  · intro ds hds
    have hds' : ds.length = 3 := hds
    match ds, hds' with
    | [d0, d1, d2], _ => rfl
  · intro W base args ds p hval hA _ _
    rw [Tryd.params3] at hA hval
    obtain ⟨v0, v1, v2, d0, d1, d2, p0, p1, p2, rfl, rfl, rfl, h0, h1, h2⟩ := trodAll_three hA
    obtain ⟨c00, c01, y00, y01, m0, rfl, rfl, _, hy00, hy01⟩ := open_agg2 Tryd.underlying23 (by kernel_rfl) (by kernel_rfl) (hval 0 23 v0 rfl rfl) h0
    obtain ⟨a00, rfl, w00⟩ := int_arg Tryd.underlying3 hy00
    obtain ⟨a01, rfl, w01⟩ := int_arg Tryd.underlying3 hy01
    obtain ⟨a1, rfl, rfl, _, w1⟩ := open_int Tryd.underlying3 (hval 1 3 v1 rfl rfl) h1
    obtain ⟨a2, rfl, rfl, _, w2⟩ := open_int Tryd.underlying3 (hval 2 3 v2 rfl rfl) h2
    exact checks_law a00 a01 a1 a2 (full W)

theorem samplingChecks_row : Rows.SamplingChecksSaid :=
  OpenClaim.holds_of_wide 3 Tryd.f3 rfl rfl rfl rfl rfl rfl rfl ⟨rfl, rfl, rfl, rfl, rfl⟩ rfl rfl rfl rfl rfl (by kernel_rfl) Tryd.func3 (by kernel_rfl)
    (of_decide_eq_true (by kernel_rfl)) (by unfold Func.isWrapper; first | (rw [if_pos (by decide +kernel)]; kernel_rfl) | (rw [if_neg (by decide +kernel)]; exact ⟨rfl, rfl⟩))
    (fun os started H enc _ => samplingChecks_lifted os started H enc)

theorem samplingChecks_card : Rows.SamplingChecksCardSaid :=
  Claim7.holds_tied_plain_at .later [] [.data, .data, .data] true Rows.samplingChecksCard.stood.harness false
    samplingChecks_row (fun _ h => by cases h) (by kernel_rfl) (fun _ h => by cases h) samplingChecks_row_tie rfl ⟨rfl, rfl⟩ (by kernel_rfl) rfl
    (fun f fn hf hfn => by
      obtain rfl : f = 3 := Option.some.inj ((show Tryd.prog.funcNamed Rows.samplingChecksRow.func = some 3 by kernel_rfl).symm.trans hf) |>.symm
      obtain rfl : fn = Tryd.f3 := (Option.some.inj (Tryd.func3.symm.trans hfn)).symm
      exact ⟨by kernel_rfl, fun j t ht => by
        have hm : t ∈ Tryd.f3.params.toList := by simpa using Array.mem_of_getElem? ht
        have hall : (Tryd.f3.params.toList.all fun u => !Tryd.prog.wantsStandIn u) = true := by kernel_rfl
        exact (show Tryd.prog.wantsStandIn t = false by simpa using List.all_eq_true.1 hall t hm)⟩)
    (by kernel_rfl)
#print axioms samplingChecks_card
end Go.Proofs.YtfhipkdcekffaaaDoor
