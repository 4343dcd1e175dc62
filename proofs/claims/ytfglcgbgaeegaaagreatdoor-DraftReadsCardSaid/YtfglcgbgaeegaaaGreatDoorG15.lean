/-
 Gathered texts of this proof: ClcDraftReads.
-/
import Derived.Test.YtfglcgbgaeegaaaGreatDoorCards
import Derived.JoinedOf

namespace Go.Proofs.YtfglcgbgaeegaaaGreatDoor
open Go
set_option maxRecDepth 100000
theorem draftReads_c1:OpenClaim.wfByText (OpenSpec.ofChange Rows.draftReadsSpec) Rows.draftReadsRow=true:=by kernel_rfl
theorem draftReads_c2:Tryz.prog.mainIs=some (Rows.draftReadsCard.stood.harness.1,Rows.draftReadsCard.stood.harness.2.toList):=by kernel_rfl
theorem draftReads_c3:Tryz.prog.funcNamed Rows.draftReadsRow.func=some 9:=by kernel_rfl
theorem draftReads_c4:Rows.draftReadsCard.stood.looks=Tryz.prog.looks []:=by kernel_rfl
theorem draftReads_c5:(Tryz.f9.params.toList.all fun u=> !Tryz.prog.wantsStandIn u)=true:=by kernel_rfl
theorem draftReads_c6:false=Rows.draftReadsRow.goesBy Tryz.prog:=by kernel_rfl
end Go.Proofs.YtfglcgbgaeegaaaGreatDoor
