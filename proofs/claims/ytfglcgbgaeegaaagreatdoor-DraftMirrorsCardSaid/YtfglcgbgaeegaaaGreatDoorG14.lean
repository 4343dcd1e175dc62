/-
 Gathered texts of this proof: ClcDraftMirrors.
-/
import Derived.Test.YtfglcgbgaeegaaaGreatDoorCards
import Derived.JoinedOf

namespace Go.Proofs.YtfglcgbgaeegaaaGreatDoor
open Go
set_option maxRecDepth 100000
theorem draftMirrors_c1:OpenClaim.wfByText (OpenSpec.ofChange Rows.draftMirrorsSpec) Rows.draftMirrorsRow=true:=by kernel_rfl
theorem draftMirrors_c2:Tryz.prog.mainIs=some (Rows.draftMirrorsCard.stood.harness.1,Rows.draftMirrorsCard.stood.harness.2.toList):=by kernel_rfl
theorem draftMirrors_c3:Tryz.prog.funcNamed Rows.draftMirrorsRow.func=some 11:=by kernel_rfl
theorem draftMirrors_c4:Rows.draftMirrorsCard.stood.looks=Tryz.prog.looks []:=by kernel_rfl
theorem draftMirrors_c5:(Tryz.f11.params.toList.all fun u=> !Tryz.prog.wantsStandIn u)=true:=by kernel_rfl
theorem draftMirrors_c6:false=Rows.draftMirrorsRow.goesBy Tryz.prog:=by kernel_rfl
end Go.Proofs.YtfglcgbgaeegaaaGreatDoor
