/-
 Gathered texts of this proof: CloDraftNeeds.
-/
import Derived.Test.YtfglcgbgaeegaaaGreatDoorRows
import Derived.JoinedOf

namespace Go.Proofs.YtfglcgbgaeegaaaGreatDoor
open Go
theorem draftNeeds_cl:Tryz.prog.closure 4=[4,12,22,45,88,30,14,24,47,90,160,218,219,251,161,220,162,221,252,275,253,254,255,276,48,91,114,163,164,103,174,104,175,231,262,56,58,204,247,92,165,222,256,223,166,224,277,278,279,293,301,294,290,295,302,306,312,315,316,303,307,313,308,309,259,284,297,241,242,156,271,272,243,244,273,274,291,292,314,310,41,85,138,132,141,207,83,144,145,140,205,248,206,249,133,208,155,209,210,211,139,270,115,187,239,269,258,199,78,137,80,84,283,39,81,79,49,93,32,65,69,116,16,31,64,37,71,126,196,197,40,82,142,143,198,200,240,129,201,72,18,73,128,127,74,130,75,131,76,38,77,134,202,135,203,245,246,57,136,27,13,55,102,173,229,260,285,286,287,298,288,299,304,300,305,311,230,261,15,36,70,123,185,124,193,194,192,191,228,195,125,189,34,67,33,66,117,118,35,68,119,188,121,122,120,190,20,42,43,87,86,146,152,217,147,212,148,213,214,149,215,216,250,150,151,153,154,44,21]:=by kernel_rfl
theorem draftNeeds_in:Tryz.prog.inPlace 4=Rows.draftNeedsRow.inPlace:=by
 unfold Program.inPlace
 rw [draftNeeds_cl]
 kernel_rfl
theorem draftNeeds_un:Tryz.prog.unfollowed 4=false:=by
 unfold Program.unfollowed
 rw [draftNeeds_cl]
 kernel_rfl
theorem draftNeeds_self:((Tryz.prog.funcs[(88:Nat)]?).elim [] Tryz.prog.leadsTo).any (fun h=>(Tryz.prog.closure h).contains 88)=true:=by kernel_rfl
theorem draftNeeds_rc:Tryz.prog.recurses 4=true:=by
 unfold Program.recurses
 rw [Bool.or_eq_true,List.any_eq_true]
 refine Or.inr ⟨88, ?_,draftNeeds_self⟩
 rw [draftNeeds_cl]
 decide +kernel
theorem draftNeeds_vn:Tryz.prog.varsNamed 4=Rows.draftNeedsRow.named:=by
 unfold Program.varsNamed
 rw [draftNeeds_cl]
 kernel_rfl
theorem draftNeeds_facts:joinedFacts Tryz.prog 4 Tryz.f4 Rows.draftNeedsSpec Rows.draftNeedsRow=true:=by
 unfold joinedFacts
 rw [draftNeeds_in,draftNeeds_un,draftNeeds_rc,draftNeeds_vn]
 kernel_rfl
end Go.Proofs.YtfglcgbgaeegaaaGreatDoor
