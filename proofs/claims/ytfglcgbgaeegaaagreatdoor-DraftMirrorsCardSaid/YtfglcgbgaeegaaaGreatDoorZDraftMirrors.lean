/-
  The law DraftMirrors returns true for every input; the arguments read as before: the row, and the card. Conditions: those of the given row (its listed variables, tied by the given tie).
-/
import Derived.Test.YtfglcgbgaeegaaaGreatDoorG12
import Derived.Test.YtfglcgbgaeegaaaGreatDoorG13
import Derived.Test.YtfglcgbgaeegaaaGreatDoorG14
import Derived.Test.YtfglcgbgaeegaaaGreatDoorTie
import Derived.Test.YtfglcgbgaeegaaaGreatDoorCards
import Derived.Lib.SmallJoins
import Derived.Lay
import Derived.MakeChecks
namespace Go.Proofs.YtfglcgbgaeegaaaGreatDoor
open Go Go.Vcg Go.RowKit Go.WideShapes Go.ChangeShapes Go.Joins Go.ChangeAt

theorem draftMirrors_met (os : Os) (args : Array Value) : laidMetH Tryz.prog Rows.draftMirrorsRow.laid ((World.laidAll Tryz.prog os Rows.draftMirrorsRow.laid).forCall (fun _ _ => 0) ⟨#[], args, []⟩).memory := by
  rw [Go.MakeChecks.laidMetH_plain _ _ _ (by kernel_rfl)]
  exact laidMet_laidAll _ (by kernel_rfl) (by kernel_rfl)

set_option maxRecDepth 100000 in
theorem draftMirrors_lifted (os : Os) (started : os.Started) (H : Type) (enc : TypeId × Value → H) :
    ReturnsInHanded {} Tryz.checked os 11 .any (fun w args => (Rows.draftMirrorsSpec.pre enc Tryz.prog Tryz.f11 [] false w args ∧ laidMetH Tryz.prog Rows.draftMirrorsRow.laid w) ∧ sizedMet enc Tryz.prog Tryz.f11 (OpenSpec.ofChange Rows.draftMirrorsSpec) false w args)
      (Rows.draftMirrorsSpec.post enc Tryz.prog Tryz.f11 false true false false) := by
  refine lifted_of (tb := 4) started (by kernel_rfl) Tryz.func11
    (ChangeSpec.witness_shaped (enc := enc) (C := Tryz.checked) (os := os) (X := fun w _ => laidMetH Tryz.prog Rows.draftMirrorsRow.laid w) false (World.laidAll Tryz.prog os Rows.draftMirrorsRow.laid) #[.slice none 0 0, .slice none 0 0, .agg #[.int .u8 0, .int .u8 0, .int .u8 0]] 8 (World.laidAll_os _ _ _) (World.shaped_of_ZipB (by kernel_rfl) (by kernel_rfl)) (by kernel_rfl) (by kernel_rfl) (by kernel_rfl) (draftMirrors_met os _))
    rfl (by kernel_rfl) Tryz.underlying4 (by kernel_rfl) ?_ ?_
  · intro ds hds
    have hds' : ds.length = 3 := hds
    match ds, hds' with
    | [d0, d1, d2], _ => rfl
  · intro W base args ds p hval hA _ hL
    rw [Tryz.params11] at hA hval
    obtain ⟨v0, v1, v2, d0, d1, d2, p0, p1, p2, rfl, rfl, rfl, h0, h1, h2⟩ := trodAll_three hA
    obtain ⟨sA0, sn0, sc0, sl0, rfl, u0⟩ := steps_arg (hval 0 22 v0 rfl rfl) h0
    obtain ⟨mA1, mn1, mc1, ms1, rfl, u1⟩ := env_arg (hval 1 23 v1 rfl rfl) h1
    obtain ⟨c20, c21, c22, y20, y21, y22, m2, rfl, rfl, _, hy20, hy21, hy22⟩ := open_agg3 Tryz.underlying70 (by kernel_rfl) (by kernel_rfl) (hval 2 70 v2 rfl rfl) h2
    obtain ⟨a20, rfl, w20⟩ := int_arg Tryz.underlying5 hy20
    obtain ⟨a21, rfl, w21⟩ := int_arg Tryz.underlying5 hy21
    obtain ⟨a22, rfl, w22⟩ := int_arg Tryz.underlying5 hy22
    exact mirrors_law a20 a21 a22 (wf8 w20).1 (wf8 w20).2 (wf8 w21).1 (wf8 w21).2 (wf8 w22).1 (wf8 w22).2 u0 u1 (frms_laid (by kernel_rfl) hL) (tab_laid (by kernel_rfl) hL)

theorem draftMirrors_row : Rows.DraftMirrorsSaid :=
  OpenClaim.holds_of_wide 11 Tryz.f11 rfl rfl rfl rfl rfl rfl rfl ⟨rfl, rfl, rfl, rfl, rfl⟩ rfl rfl rfl rfl rfl draftMirrors_c3 Tryz.func11 draftMirrors_facts
    (of_decide_eq_true (by kernel_rfl)) (by unfold Func.isWrapper; first | (rw [if_pos (by decide +kernel)]; kernel_rfl) | (rw [if_neg (by decide +kernel)]; exact ⟨rfl, rfl⟩))
    (fun os started H enc _ => draftMirrors_lifted os started H enc)

theorem draftMirrors_card : Rows.DraftMirrorsCardSaid :=
  Claim7.holds_tied_plain_at .later [] _ _ _ _
    draftMirrors_row (fun _ h => by cases h) (by exact draftMirrors_c1) (fun _ h => by cases h) draftMirrors_row_tie rfl ⟨rfl, rfl⟩ (by exact draftMirrors_c2) rfl
    (fun f fn hf hfn => by
      obtain rfl : f = 11 := Option.some.inj ((show Tryz.prog.funcNamed Rows.draftMirrorsRow.func = some 11 by exact draftMirrors_c3).symm.trans hf) |>.symm
      obtain rfl : fn = Tryz.f11 := (Option.some.inj (Tryz.func11.symm.trans hfn)).symm
      exact ⟨by exact draftMirrors_c4, fun j t ht => by
        have hm : t ∈ Tryz.f11.params.toList := by simpa using Array.mem_of_getElem? ht
        have hall : (Tryz.f11.params.toList.all fun u => !Tryz.prog.wantsStandIn u) = true := by exact draftMirrors_c5
        exact (show Tryz.prog.wantsStandIn t = false by simpa using List.all_eq_true.1 hall t hm)⟩)
    (by exact draftMirrors_c6)
#print axioms draftMirrors_card
end Go.Proofs.YtfglcgbgaeegaaaGreatDoor
