/-
 Gathered texts of this proof: ClcDraftNeeds.
-/
import Derived.Test.YtfglcgbgaeegaaaGreatDoorCards
import Derived.JoinedOf

namespace Go.Proofs.YtfglcgbgaeegaaaGreatDoor
open Go
set_option maxRecDepth 100000
theorem draftNeeds_c1:OpenClaim.wfByText (OpenSpec.ofChange Rows.draftNeedsSpec) Rows.draftNeedsRow=true:=by kernel_rfl
theorem draftNeeds_c2:Tryz.prog.mainIs=some (Rows.draftNeedsCard.stood.harness.1,Rows.draftNeedsCard.stood.harness.2.toList):=by kernel_rfl
theorem draftNeeds_c3:Tryz.prog.funcNamed Rows.draftNeedsRow.func=some 4:=by kernel_rfl
theorem draftNeeds_c4:Rows.draftNeedsCard.stood.looks=Tryz.prog.looks []:=by kernel_rfl
theorem draftNeeds_c5:(Tryz.f4.params.toList.all fun u=> !Tryz.prog.wantsStandIn u)=true:=by kernel_rfl
theorem draftNeeds_c6:false=Rows.draftNeedsRow.goesBy Tryz.prog:=by kernel_rfl
end Go.Proofs.YtfglcgbgaeegaaaGreatDoor
