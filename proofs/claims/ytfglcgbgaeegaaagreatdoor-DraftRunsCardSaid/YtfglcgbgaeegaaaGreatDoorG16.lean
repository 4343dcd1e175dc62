/-
 Gathered texts of this proof: ClcDraftRuns.
-/
import Derived.Test.YtfglcgbgaeegaaaGreatDoorCards
import Derived.JoinedOf

namespace Go.Proofs.YtfglcgbgaeegaaaGreatDoor
open Go
set_option maxRecDepth 100000
theorem draftRuns_c1:OpenClaim.wfByText (OpenSpec.ofChange Rows.draftRunsSpec) Rows.draftRunsRow=true:=by kernel_rfl
theorem draftRuns_c2:Tryz.prog.mainIs=some (Rows.draftRunsCard.stood.harness.1,Rows.draftRunsCard.stood.harness.2.toList):=by kernel_rfl
theorem draftRuns_c3:Tryz.prog.funcNamed Rows.draftRunsRow.func=some 8:=by kernel_rfl
theorem draftRuns_c4:Rows.draftRunsCard.stood.looks=Tryz.prog.looks []:=by kernel_rfl
theorem draftRuns_c5:(Tryz.f8.params.toList.all fun u=> !Tryz.prog.wantsStandIn u)=true:=by kernel_rfl
theorem draftRuns_c6:false=Rows.draftRunsRow.goesBy Tryz.prog:=by kernel_rfl
end Go.Proofs.YtfglcgbgaeegaaaGreatDoor
