/-
 Gathered texts of this proof: ClcDraftBegins.
-/
import Derived.Test.YtfglcgbgaeegaaaGreatDoorCards
import Derived.JoinedOf

namespace Go.Proofs.YtfglcgbgaeegaaaGreatDoor
open Go
set_option maxRecDepth 100000
theorem draftBegins_c1:OpenClaim.wfByText (OpenSpec.ofChange Rows.draftBeginsSpec) Rows.draftBeginsRow=true:=by kernel_rfl
theorem draftBegins_c2:Tryz.prog.mainIs=some (Rows.draftBeginsCard.stood.harness.1,Rows.draftBeginsCard.stood.harness.2.toList):=by kernel_rfl
theorem draftBegins_c3:Tryz.prog.funcNamed Rows.draftBeginsRow.func=some 10:=by kernel_rfl
theorem draftBegins_c4:Rows.draftBeginsCard.stood.looks=Tryz.prog.looks []:=by kernel_rfl
theorem draftBegins_c5:(Tryz.f10.params.toList.all fun u=> !Tryz.prog.wantsStandIn u)=true:=by kernel_rfl
theorem draftBegins_c6:false=Rows.draftBeginsRow.goesBy Tryz.prog:=by kernel_rfl
end Go.Proofs.YtfglcgbgaeegaaaGreatDoor
