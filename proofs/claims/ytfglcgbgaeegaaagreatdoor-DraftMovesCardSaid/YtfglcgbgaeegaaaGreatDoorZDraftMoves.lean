/-
  The law DraftMoves returns true for every input; the arguments read as before: the row, and the card. Conditions: those of the given row (its listed variables, tied by the given tie).
-/
import Derived.Test.YtfglcgbgaeegaaaGreatDoorG18
import Derived.Test.YtfglcgbgaeegaaaGreatDoorG13
import Derived.Test.YtfglcgbgaeegaaaGreatDoorG19
import Derived.Test.YtfglcgbgaeegaaaGreatDoorG20
import Derived.Test.YtfglcgbgaeegaaaGreatDoorTie
import Derived.Test.YtfglcgbgaeegaaaGreatDoorCards
import Derived.Lib.SmallJoins
import Derived.Lay
import Derived.MakeChecks
namespace Go.Proofs.YtfglcgbgaeegaaaGreatDoor
open Go Go.Vcg Go.RowKit Go.WideShapes Go.ChangeShapes Go.Joins Go.ChangeAt

theorem draftMoves_met (os : Os) (args : Array Value) : laidMetH Tryz.prog Rows.draftMovesRow.laid ((World.laidAll Tryz.prog os Rows.draftMovesRow.laid).forCall (fun _ _ => 0) ⟨#[], args, []⟩).memory := by
  rw [Go.MakeChecks.laidMetH_plain _ _ _ (by kernel_rfl)]
  exact laidMet_laidAll _ (by kernel_rfl) (by kernel_rfl)

set_option maxRecDepth 100000 in
theorem draftMoves_lifted (os : Os) (started : os.Started) (H : Type) (enc : TypeId × Value → H) :
    ReturnsInHanded {} Tryz.checked os 3 .any (fun w args => (Rows.draftMovesSpec.pre enc Tryz.prog Tryz.f3 [] false w args ∧ laidMetH Tryz.prog Rows.draftMovesRow.laid w) ∧ sizedMet enc Tryz.prog Tryz.f3 (OpenSpec.ofChange Rows.draftMovesSpec) false w args)
      (Rows.draftMovesSpec.post enc Tryz.prog Tryz.f3 false true false false) := by
  refine lifted_of (tb := 4) started (by kernel_rfl) Tryz.func3
    (ChangeSpec.witness_shaped (enc := enc) (C := Tryz.checked) (os := os) (X := fun w _ => laidMetH Tryz.prog Rows.draftMovesRow.laid w) false (World.laidAll Tryz.prog os Rows.draftMovesRow.laid) #[.slice none 0 0, .slice none 0 0, .agg #[.int .i16 0, .int .i16 0]] 8 (World.laidAll_os _ _ _) (World.shaped_of_ZipB (by kernel_rfl) (by kernel_rfl)) (by kernel_rfl) (by kernel_rfl) (by kernel_rfl) (draftMoves_met os _))
    rfl (by kernel_rfl) Tryz.underlying4 (by kernel_rfl) ?_ ?_
  · intro ds hds
    have hds' : ds.length = 3 := hds
    match ds, hds' with
    | [d0, d1, d2], _ => rfl
  · intro W base args ds p hval hA _ hL
    rw [Tryz.params3] at hA hval
    obtain ⟨v0, v1, v2, d0, d1, d2, p0, p1, p2, rfl, rfl, rfl, h0, h1, h2⟩ := trodAll_three hA
    obtain ⟨sA0, sn0, sc0, sl0, rfl, u0⟩ := steps_arg (hval 0 22 v0 rfl rfl) h0
    obtain ⟨mA1, mn1, mc1, ms1, rfl, u1⟩ := env_arg (hval 1 23 v1 rfl rfl) h1
    obtain ⟨c20, c21, y20, y21, m2, rfl, rfl, _, hy20, hy21⟩ := open_agg2 Tryz.underlying26 (by kernel_rfl) (by kernel_rfl) (hval 2 26 v2 rfl rfl) h2
    obtain ⟨a20, rfl, w20⟩ := int_arg Tryz.underlying24 hy20
    obtain ⟨a21, rfl, w21⟩ := int_arg Tryz.underlying24 hy21
    exact moves_law a20 a21 (wfi16 w20).1 (wfi16 w20).2 (wfi16 w21).1 (wfi16 w21).2 u0 u1 (frms_laid (by kernel_rfl) hL) (tab_laid (by kernel_rfl) hL)

theorem draftMoves_row : Rows.DraftMovesSaid :=
  OpenClaim.holds_of_wide 3 Tryz.f3 rfl rfl rfl rfl rfl rfl rfl ⟨rfl, rfl, rfl, rfl, rfl⟩ rfl rfl rfl rfl rfl draftMoves_c3 Tryz.func3 draftMoves_facts
    (of_decide_eq_true (by kernel_rfl)) (by unfold Func.isWrapper; first | (rw [if_pos (by decide +kernel)]; kernel_rfl) | (rw [if_neg (by decide +kernel)]; exact ⟨rfl, rfl⟩))
    (fun os started H enc _ => draftMoves_lifted os started H enc)

theorem draftMoves_card : Rows.DraftMovesCardSaid :=
  Claim7.holds_tied_plain_at .later [] _ _ _ _
    draftMoves_row (fun _ h => by cases h) (by exact draftMoves_c1) (fun _ h => by cases h) draftMoves_row_tie rfl ⟨rfl, rfl⟩ (by exact draftMoves_c2) rfl
    (fun f fn hf hfn => by
      obtain rfl : f = 3 := Option.some.inj ((show Tryz.prog.funcNamed Rows.draftMovesRow.func = some 3 by exact draftMoves_c3).symm.trans hf) |>.symm
      obtain rfl : fn = Tryz.f3 := (Option.some.inj (Tryz.func3.symm.trans hfn)).symm
      exact ⟨by exact draftMoves_c4, fun j t ht => by
        have hm : t ∈ Tryz.f3.params.toList := by simpa using Array.mem_of_getElem? ht
        have hall : (Tryz.f3.params.toList.all fun u => !Tryz.prog.wantsStandIn u) = true := by exact draftMoves_c5
        exact (show Tryz.prog.wantsStandIn t = false by simpa using List.all_eq_true.1 hall t hm)⟩)
    (by exact draftMoves_c6)
#print axioms draftMoves_card
end Go.Proofs.YtfglcgbgaeegaaaGreatDoor
