/-
 Gathered texts of this proof: ClcDraftChecks.
-/
import Derived.Test.YtfglcgbgaeegaaaGreatDoorCards
import Derived.JoinedOf

namespace Go.Proofs.YtfglcgbgaeegaaaGreatDoor
open Go
set_option maxRecDepth 100000
theorem draftChecks_c1:OpenClaim.wfByText (OpenSpec.ofChange Rows.draftChecksSpec) Rows.draftChecksRow=true:=by kernel_rfl
theorem draftChecks_c2:Tryz.prog.mainIs=some (Rows.draftChecksCard.stood.harness.1,Rows.draftChecksCard.stood.harness.2.toList):=by kernel_rfl
theorem draftChecks_c3:Tryz.prog.funcNamed Rows.draftChecksRow.func=some 5:=by kernel_rfl
theorem draftChecks_c4:Rows.draftChecksCard.stood.looks=Tryz.prog.looks []:=by kernel_rfl
theorem draftChecks_c5:(Tryz.f5.params.toList.all fun u=> !Tryz.prog.wantsStandIn u)=true:=by kernel_rfl
theorem draftChecks_c6:false=Rows.draftChecksRow.goesBy Tryz.prog:=by kernel_rfl
end Go.Proofs.YtfglcgbgaeegaaaGreatDoor
