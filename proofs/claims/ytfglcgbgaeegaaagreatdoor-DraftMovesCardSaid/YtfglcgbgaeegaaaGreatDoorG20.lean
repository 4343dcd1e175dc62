/-
 Gathered texts of this proof: ClcDraftMoves.
-/
import Derived.Test.YtfglcgbgaeegaaaGreatDoorCards
import Derived.JoinedOf

namespace Go.Proofs.YtfglcgbgaeegaaaGreatDoor
open Go
set_option maxRecDepth 100000
theorem draftMoves_c1:OpenClaim.wfByText (OpenSpec.ofChange Rows.draftMovesSpec) Rows.draftMovesRow=true:=by kernel_rfl
theorem draftMoves_c2:Tryz.prog.mainIs=some (Rows.draftMovesCard.stood.harness.1,Rows.draftMovesCard.stood.harness.2.toList):=by kernel_rfl
theorem draftMoves_c3:Tryz.prog.funcNamed Rows.draftMovesRow.func=some 3:=by kernel_rfl
theorem draftMoves_c4:Rows.draftMovesCard.stood.looks=Tryz.prog.looks []:=by kernel_rfl
theorem draftMoves_c5:(Tryz.f3.params.toList.all fun u=> !Tryz.prog.wantsStandIn u)=true:=by kernel_rfl
theorem draftMoves_c6:false=Rows.draftMovesRow.goesBy Tryz.prog:=by kernel_rfl
end Go.Proofs.YtfglcgbgaeegaaaGreatDoor
