/-
  The law SamplingSamples returns true for every input; the arguments read as before: the row, and the card. Conditions: those of the given row (its listed variables, tied by the given tie).
-/
import Derived.Test.YtfhipkdcekffaaaDoorLaw1
import Derived.Test.YtfhipkdcekffaaaDoorFin1
import Derived.Test.YtfhipkdcekffaaaDoorTie
import Derived.Test.YtfhipkdcekffaaaDoorCards
import Derived.Lib.SmallJoins
namespace Go.Proofs.YtfhipkdcekffaaaDoor
open Go Go.Vcg Go.RowKit Go.WideShapes Go.ChangeShapes Go.Joins Go.ChangeAt

theorem samplingSamples_met (os : Os) (args : Array Value) : laidMetH Tryd.prog Rows.samplingSamplesRow.laid ((World.doorLaid Tryd.prog 400 os).forCall (fun _ _ => 0) ⟨#[], args, []⟩).memory :=
  laidMetH_of_parts3 (fuel := 8) (laidMet_of_run' 8 (by kernel_rfl) (by kernel_rfl)) (by kernel_rfl) (by kernel_rfl)

set_option maxRecDepth 100000 in
theorem samplingSamples_lifted (os : Os) (started : os.Started) (H : Type) (enc : TypeId × Value → H) :
    ReturnsInHanded {} Tryd.checked os 5 .any (fun w args => (Rows.samplingSamplesSpec.pre enc Tryd.prog Tryd.f5 [] false w args ∧ laidMetH Tryd.prog Rows.samplingSamplesRow.laid w) ∧ sizedMet enc Tryd.prog Tryd.f5 (OpenSpec.ofChange Rows.samplingSamplesSpec) false w args)
      (Rows.samplingSamplesSpec.post enc Tryd.prog Tryd.f5 false true false false) := by
  refine lifted_of (tb := 4) started (by kernel_rfl) Tryd.func5
    (ChangeSpec.witness_shaped (enc := enc) (C := Tryd.checked) (os := os) (X := fun w _ => laidMetH Tryd.prog Rows.samplingSamplesRow.laid w) false (World.doorLaid Tryd.prog 400 os) #[.int .u64 0, .agg #[.int .i64 0, .int .i64 0], .int .i64 0] 8 rfl (World.shaped_of_RefB (by kernel_rfl) (by kernel_rfl)) (by kernel_rfl) (by kernel_rfl) (by kernel_rfl) (samplingSamples_met os _))
    rfl (by kernel_rfl) Tryd.underlying4 (by kernel_rfl) ?_ ?_
  · intro ds hds
    have hds' : ds.length = 3 := hds
    match ds, hds' with
    | [d0, d1, d2], _ => rfl
  · intro W base args ds p hval hA _ _
    rw [Tryd.params5] at hA hval
    obtain ⟨v0, v1, v2, d0, d1, d2, p0, p1, p2, rfl, rfl, rfl, h0, h1, h2⟩ := trodAll_three hA
    obtain ⟨a0, rfl, rfl, _, w0⟩ := open_int Tryd.underlying31 (hval 0 31 v0 rfl rfl) h0
    obtain ⟨c10, c11, y10, y11, m1, rfl, rfl, _, hy10, hy11⟩ := open_agg2 Tryd.underlying23 (by kernel_rfl) (by kernel_rfl) (hval 1 23 v1 rfl rfl) h1
    obtain ⟨a10, rfl, w10⟩ := int_arg Tryd.underlying3 hy10
    obtain ⟨a11, rfl, w11⟩ := int_arg Tryd.underlying3 hy11
    obtain ⟨a2, rfl, rfl, _, w2⟩ := open_int Tryd.underlying3 (hval 2 3 v2 rfl rfl) h2
    exact samples_law a0 a10 a11 a2 (full W)

theorem samplingSamples_row : Rows.SamplingSamplesSaid :=
  OpenClaim.holds_of_wide 5 Tryd.f5 rfl rfl rfl rfl rfl rfl rfl ⟨rfl, rfl, rfl, rfl, rfl⟩ rfl rfl rfl rfl rfl (by kernel_rfl) Tryd.func5 (by kernel_rfl)
    (of_decide_eq_true (by kernel_rfl)) (by unfold Func.isWrapper; first | (rw [if_pos (by decide +kernel)]; kernel_rfl) | (rw [if_neg (by decide +kernel)]; exact ⟨rfl, rfl⟩))
    (fun os started H enc _ => samplingSamples_lifted os started H enc)

theorem samplingSamples_card : Rows.SamplingSamplesCardSaid :=
  Claim7.holds_tied_plain_at .later [] [.data, .data, .data] true Rows.samplingSamplesCard.stood.harness false
    samplingSamples_row (fun _ h => by cases h) (by kernel_rfl) (fun _ h => by cases h) samplingSamples_row_tie rfl ⟨rfl, rfl⟩ (by kernel_rfl) rfl
    (fun f fn hf hfn => by
      obtain rfl : f = 5 := Option.some.inj ((show Tryd.prog.funcNamed Rows.samplingSamplesRow.func = some 5 by kernel_rfl).symm.trans hf) |>.symm
      obtain rfl : fn = Tryd.f5 := (Option.some.inj (Tryd.func5.symm.trans hfn)).symm
      exact ⟨by kernel_rfl, fun j t ht => by
        have hm : t ∈ Tryd.f5.params.toList := by simpa using Array.mem_of_getElem? ht
        have hall : (Tryd.f5.params.toList.all fun u => !Tryd.prog.wantsStandIn u) = true := by kernel_rfl
        exact (show Tryd.prog.wantsStandIn t = false by simpa using List.all_eq_true.1 hall t hm)⟩)
    (by kernel_rfl)
#print axioms samplingSamples_card
end Go.Proofs.YtfhipkdcekffaaaDoor
