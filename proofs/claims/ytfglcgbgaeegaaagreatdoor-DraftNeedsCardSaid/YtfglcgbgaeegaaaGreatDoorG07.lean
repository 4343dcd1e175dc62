/-
 Gathered texts of this proof: VcMe,Bd1,VcB,Bd2.
-/
import Derived.Test.YtfglcgbgaeegaaaGreatDoorG03
import Derived.Test.YtfglcgbgaeegaaaGreatDoorChecked
import Derived.Test.YtfglcgbgaeegaaaGreatDoorG06
import Derived.Lib.Builder
import Derived.Lib.UnsafeStr
import Derived.Shelf.RegionOpenPlain
import Derived.Laws.Externs
set_option maxRecDepth 100000

namespace Go.Proofs.YtfglcgbgaeegaaaGreatDoor
open Go Go.Vcg
def draft_Check_vc (a:OA) (b c:Nat) (h:Heap) (R:Value->Heap->Prop):Prop:=
 CallsU Tryz.prog 31 [.slice a b c] h fun f g=>
 ∃ d e,f = .tuple #[.int .i64 d,.int .i64 e]/\
 R (.int .i64 d) g
theorem draft_Check_ok {a:OA} {b c:Nat} {h:Heap} {R:Value->Heap->Prop} (hv:draft_Check_vc a b c h R):CallsU Tryz.prog 13 [.slice a b c] h R:=
 fn_ok Tryz.func13 (fun _=>false) .nil hv
def draft_Run_vc (a:OA) (b c:Nat) (d:OA) (e f:Nat) (h:Heap) (R:Value->Heap->Prop):Prop:=
 CallsU Tryz.prog 31 [.slice a b c] h fun d3 d4=>
 ∃ g i,d3 = .tuple #[.int .i64 g,.int .i64 i]/\
 Br ((g:Int) != 0)
 (R (.tuple #[.slice none 0 0,.int .i64 g,.int .i64 i]) d4)
 (∃ j:Nat->OA->Nat->Nat->Int->Heap->Prop,(∃ k,j k none 0 0 0 d4)/\
 ∀ (k:Nat) (b9:OA) (c0 c1:Nat) (c2:Int) (c3:Heap),j k b9 c0 c1 c2 c3->
 Br (decide (c2<(b:Int)))
 (∃ l:Addr,a=some l/\0<=c2/\c2<(b:Int)/\
 ∃ m n o p q r s t,LdN c3 (Addr.add l (Int.toNat c2*4)) [.string m,.int .i64 n,.slice o p q,.slice r s t]/\
 CallsU Tryz.prog 37 [.agg #[.string m,.int .i64 n,.slice o p q,.slice r s t],.slice b9 c0 c1,.slice d e f] c3 fun d5 d6=>
 ∃ u v w y z a0 a1 a2 a3 a4 a5 a6 a7 a8 a9,d5 = .tuple #[.agg #[.bool u,.slice v w y,.slice z a0 a1,.bool a2,.slice a3 a4 a5,.slice a6 a7 a8],.int .i64 a9]/\
 ∃ b0:Int->Heap->Prop,(∀ (c4:Int) (c5:Heap),b0 c4 c5->
 Br ((c4:Int) != 0)
 (R (.tuple #[.slice none 0 0,.int .i64 c4,.int .i64 c2]) c5)
 (∀ (c6:Nat) (c7:Heap),c5 c6=none->c7=Heap.put c5 c6 ⟨[.string m,.bool u,.slice v w y,.slice z a0 a1,.bool a2,.slice a3 a4 a5,.slice a6 a7 a8],53,(0,0)⟩->
 ∃ b1:List Value,RdS c7 (some ⟨c6,0,none⟩) (1*7) b1/\(∀ x∈b1,Go.Vcg.one x=true)/\
 (c0+1<=c1-> ∃ (c8:Addr) (c9:Blk),b9=some c8/\c8.spot=none/\c7 c8.block=some c9/\c9.fz=(0,0)/\c8.off+c0*7+1*7<=c9.cells.length/\
 ∀ b6:Heap,b6=Heap.put c7 c8.block { c9 with cells:=setSeg c9.cells (c8.off+c0*7) b1 }->
 ∀ b7:Int,b7=IntKind.i64.wrap (c2+1)->
 ∃ b2,b2<k/\j b2 b9 (c0+1) c1 b7 b6)/\
 (c1<c0+1-> ∃ b3:List Value,RdS c7 b9 (c0*7) b3/\(c0+1)*128<=140737488355328/\
 ∀ (d0 d1:Nat) (d2:Heap),c7 d0=none->c0+1<=d1->d2=Heap.put c7 d0 ⟨b3++b1++repV [.string ByteArray.empty,.bool false,.slice none 0 0,.slice none 0 0,.bool false,.slice none 0 0,.slice none 0 0] (d1-(c0+1)),53,(0,0)⟩->
 ∀ b8:Int,b8=IntKind.i64.wrap (c2+1)->
 ∃ b2,b2<k/\j b2 (some ⟨d0,0,none⟩) (c0+1) d1 b8 d2)))/\
 Br ((a9:Int)==0)
 (CallsU Tryz.prog 38 [.agg #[.bool u,.slice v w y,.slice z a0 a1]] d6 fun d7 d8=>
 ∃ b4,d7 = .bool b4/\
 Br (b4)
 (b0 5 d8)
 (CallsU Tryz.prog 38 [.agg #[.bool a2,.slice a3 a4 a5,.slice a6 a7 a8]] d8 fun d9 e0=>
 ∃ b5,d9 = .bool b5/\
 Br (b5)
 (b0 5 e0)
 (b0 a9 e0)))
 (b0 a9 d6))
 (R (.tuple #[.slice b9 c0 c1,.int .i64 0,.int .i64 0]) c3))
theorem draft_Run_ok {a:OA} {b c:Nat} {d:OA} {e f:Nat} {h:Heap} {R:Value->Heap->Prop} (hv:draft_Run_vc a b c d e f h R):CallsU Tryz.prog 16 [.slice a b c,.slice d e f] h R:=
 fn_ok Tryz.func16 (fun _=>false) (.two .nil (.two .nil (.two .nil (.two (.two .nil (.one (.loop ⟨[(9,Sh.slice),(25,Sh.int .i64)],[]⟩ (.two .nil (.two .nil (.two (.one (.two .nil (.two .nil (.cut ⟨[(13,Sh.int .i64)],[]⟩ .nil .nil)))) .nil)))))) .nil)))) hv
def point_Same_vc (a:Bool) (b:OA) (c d:Nat) (e:OA) (f g:Nat) (i:Bool) (j:OA) (k l:Nat) (m:OA) (n o:Nat) (p:Bool) (q:OA) (r s:Nat) (t:OA) (u v:Nat) (w:Bool) (y:OA) (z a0:Nat) (a1:OA) (a2 a3:Nat) (h:Heap) (R:Value->Heap->Prop):Prop:=
 CallsU Tryz.prog 39 [.agg #[.bool a,.slice b c d,.slice e f g],.agg #[.bool p,.slice q r s,.slice t u v]] h fun a6 a7=>
 ∃ a4,a6 = .int .i64 a4/\
 Br ((a4:Int)==0)
 (CallsU Tryz.prog 39 [.agg #[.bool i,.slice j k l,.slice m n o],.agg #[.bool w,.slice y z a0,.slice a1 a2 a3]] a7 fun a8 a9=>
 ∃ a5,a8 = .int .i64 a5/\
 R (.bool ((a5:Int)==0)) a9)
 (R (.bool false) a7)
theorem point_Same_ok {a:Bool} {b:OA} {c d:Nat} {e:OA} {f g:Nat} {i:Bool} {j:OA} {k l:Nat} {m:OA} {n o:Nat} {p:Bool} {q:OA} {r s:Nat} {t:OA} {u v:Nat} {w:Bool} {y:OA} {z a0:Nat} {a1:OA} {a2 a3:Nat} {h:Heap} {R:Value->Heap->Prop} (hv:point_Same_vc a b c d e f g i j k l m n o p q r s t u v w y z a0 a1 a2 a3 h R):CallsU Tryz.prog 17 [.agg #[.bool a,.slice b c d,.slice e f g,.bool i,.slice j k l,.slice m n o],.agg #[.bool p,.slice q r s,.slice t u v,.bool w,.slice y z a0,.slice a1 a2 a3]] h R:=
 fn_ok Tryz.func17 (fun _=>false) .nil hv
def point_Add_vc (a:Bool) (b:OA) (c d:Nat) (e:OA) (f g:Nat) (i:Bool) (j:OA) (k l:Nat) (m:OA) (n o:Nat) (p:Bool) (q:OA) (r s:Nat) (t:OA) (u v:Nat) (w:Bool) (y:OA) (z a0:Nat) (a1:OA) (a2 a3:Nat) (h:Heap) (R:Value->Heap->Prop):Prop:=
 CallsU Tryz.prog 40 [.agg #[.bool a,.slice b c d,.slice e f g],.agg #[.bool p,.slice q r s,.slice t u v]] h fun b8 b9=>
 ∃ a4 a5 a6 a7 a8 a9 b0,b8 = .agg #[.bool a4,.slice a5 a6 a7,.slice a8 a9 b0]/\
 LeH h b9/\
 CallsU Tryz.prog 40 [.agg #[.bool i,.slice j k l,.slice m n o],.agg #[.bool w,.slice y z a0,.slice a1 a2 a3]] b9 fun c0 c1=>
 ∃ b1 b2 b3 b4 b5 b6 b7,c0 = .agg #[.bool b1,.slice b2 b3 b4,.slice b5 b6 b7]/\
 R (.agg #[.bool a4,.slice a5 a6 a7,.slice a8 a9 b0,.bool b1,.slice b2 b3 b4,.slice b5 b6 b7]) c1
theorem point_Add_ok {a:Bool} {b:OA} {c d:Nat} {e:OA} {f g:Nat} {i:Bool} {j:OA} {k l:Nat} {m:OA} {n o:Nat} {p:Bool} {q:OA} {r s:Nat} {t:OA} {u v:Nat} {w:Bool} {y:OA} {z a0:Nat} {a1:OA} {a2 a3:Nat} {h:Heap} {R:Value->Heap->Prop} (hv:point_Add_vc a b c d e f g i j k l m n o p q r s t u v w y z a0 a1 a2 a3 h R):CallsU Tryz.prog 18 [.agg #[.bool a,.slice b c d,.slice e f g,.bool i,.slice j k l,.slice m n o],.agg #[.bool p,.slice q r s,.slice t u v,.bool w,.slice y z a0,.slice a1 a2 a3]] h R:=
 fn_ok Tryz.func18 (fun _=>false) (.two .nil (.two (.ord [0,1,2,3,5,6,7,8,4,9,10,11]) .nil)) hv
def point_Of_vc (a:Int) (b:Int) (h:Heap) (R:Value->Heap->Prop):Prop:=
 CallsU Tryz.prog 41 [.int .i64 a,.int .i64 1] h fun t u=>
 ∃ c d e f g i j k,t = .tuple #[.agg #[.bool c,.slice d e f,.slice g i j],.bool k]/\
 CallsU Tryz.prog 41 [.int .i64 b,.int .i64 1] u fun v w=>
 ∃ l m n o p q r s,v = .tuple #[.agg #[.bool l,.slice m n o,.slice p q r],.bool s]/\
 R (.agg #[.bool c,.slice d e f,.slice g i j,.bool l,.slice m n o,.slice p q r]) w
theorem point_Of_ok {a:Int} {b:Int} {h:Heap} {R:Value->Heap->Prop} (hv:point_Of_vc a b h R):CallsU Tryz.prog 19 [.int .i64 a,.int .i64 b] h R:=
 fn_ok Tryz.func19 (fun _=>false) .nil hv
def formula_Names_vc (a:Int) (b:Bool) (c:OA) (d e:Nat) (f:OA) (g i:Nat) (j:ByteArray) (k:OA) (l m:Nat) (h:Heap) (R:Value->Heap->Prop):Prop:=
 CallsU Tryz.prog 42 [.slice none 0 0,.agg #[.int .i64 a,.bool b,.slice c d e,.slice f g i,.string j,.slice k l m]] h fun t u=>
 ∃ n o p,t = .slice n o p/\
 CallsU Tryz.prog 43 [.slice n o p] u fun v w=>
 v = .tuple #[]/\
 CallsU Tryz.prog 44 [.slice n o p] w fun y z=>
 ∃ q r s,y = .slice q r s/\
 R (.slice q r s) z
theorem formula_Names_ok {a:Int} {b:Bool} {c:OA} {d e:Nat} {f:OA} {g i:Nat} {j:ByteArray} {k:OA} {l m:Nat} {h:Heap} {R:Value->Heap->Prop} (hv:formula_Names_vc a b c d e f g i j k l m h R):CallsU Tryz.prog 20 [.agg #[.int .i64 a,.bool b,.slice c d e,.slice f g i,.string j,.slice k l m]] h R:=
 fn_ok Tryz.func20 (fun _=>false) .nil hv
def draft_Parse_vc (a:ByteArray) (h:Heap) (R:Value->Heap->Prop):Prop:=
 Br (decide ((a.size:Int)>20000))
 (R (.tuple #[.slice none 0 0,.int .i64 5,.int .i64 0]) h)
 (CallsU Tryz.prog 47 [.string a,.string (⟨#[10]⟩:ByteArray)] h fun c4 c5=>
 ∃ b c d,c4 = .slice b c d/\
 ∃ e:Nat->OA->Nat->Nat->Int->Heap->Prop,(∃ f,e f none 0 0 0 c5)/\
 ∀ (f:Nat) (a6:OA) (a7 a8:Nat) (a9:Int) (b0:Heap),e f a6 a7 a8 a9 b0->
 Br (decide (a9<(c:Int)))
 (∃ g:Addr,b=some g/\0<=a9/\a9<(c:Int)/\
 ∃ i,LdN b0 (Addr.add g (Int.toNat a9*1)) [.string i]/\
 ∃ j:Bool->Heap->Prop,(∀ (b1:Bool) (b2:Heap),j b1 b2->
 Br (b1)
 (∀ a1:Int,a1=IntKind.i64.wrap (a9+1)->
 ∃ k,k<f/\e k a6 a7 a8 a1 b2)
 (CallsU Tryz.prog 48 [.string i] b2 fun c6 c7=>
 ∃ l m n o p q r s t,c6 = .tuple #[.agg #[.string l,.int .i64 m,.slice n o p,.slice q r s],.int .i64 t]/\
 ∃ u:Int->Heap->Prop,(∀ (b3:Int) (b4:Heap),u b3 b4->
 ∃ v:Int->Heap->Prop,(∀ (b5:Int) (b6:Heap),v b5 b6->
 Br ((b5:Int) != 0)
 (∀ a2:Int,a2=IntKind.i64.wrap (a9+1)->
 R (.tuple #[.slice none 0 0,.int .i64 b5,.int .i64 a2]) b6)
 (∀ (b7:Nat) (b8:Heap),b6 b7=none->b8=Heap.put b6 b7 ⟨[.string l,.int .i64 m,.slice n o p,.slice q r s],42,(0,0)⟩->
 ∃ w:List Value,RdS b8 (some ⟨b7,0,none⟩) (1*4) w/\(∀ x∈w,Go.Vcg.one x=true)/\
 (a7+1<=a8-> ∃ (b9:Addr) (c0:Blk),a6=some b9/\b9.spot=none/\b8 b9.block=some c0/\c0.fz=(0,0)/\b9.off+a7*4+1*4<=c0.cells.length/\
 ∀ a3:Heap,a3=Heap.put b8 b9.block { c0 with cells:=setSeg c0.cells (b9.off+a7*4) w }->
 ∀ a4:Int,a4=IntKind.i64.wrap (a9+1)->
 ∃ k,k<f/\e k a6 (a7+1) a8 a4 a3)/\
 (a8<a7+1-> ∃ y:List Value,RdS b8 a6 (a7*4) y/\(a7+1)*72<=140737488355328/\
 ∀ (c1 c2:Nat) (c3:Heap),b8 c1=none->a7+1<=c2->c3=Heap.put b8 c1 ⟨y++w++repV [.string ByteArray.empty,.int .i64 0,.slice none 0 0,.slice none 0 0] (c2-(a7+1)),42,(0,0)⟩->
 ∀ a5:Int,a5=IntKind.i64.wrap (a9+1)->
 ∃ k,k<f/\e k (some ⟨c1,0,none⟩) (a7+1) c2 a5 c3)))/\
 Br ((b3:Int)==0)
 (CallsU Tryz.prog 49 [.slice a6 a7 a8,.agg #[.string l,.int .i64 m,.slice n o p,.slice q r s]] b4 fun c8 c9=>
 ∃ z,c8 = .int .i64 z/\
 v z c9)
 (v b3 b4))/\
 Br ((t:Int)==0)
 (Br ((a7:Int)==64)
 (u 5 c7)
 (u t c7))
 (u t c7)))/\
 Br (i.toList==(⟨#[]⟩:ByteArray).toList)
 (j true b0)
 (∃ a0:UInt8,0<=(0:Int)/\i[(0:Nat)]?=some a0/\
 j ((a0.toNat:Int)==35) b0))
 (R (.tuple #[.slice a6 a7 a8,.int .i64 0,.int .i64 0]) b0))
theorem draft_Parse_ok {a:ByteArray} {h:Heap} {R:Value->Heap->Prop} (hv:draft_Parse_vc a h R):CallsU Tryz.prog 24 [.string a] h R:=
 fn_ok Tryz.func24 (fun _=>false) (.two .nil (.two .nil (.two .nil (.two (.two .nil (.one (.loop ⟨[(5,Sh.slice),(16,Sh.int .i64)],[]⟩ (.two .nil (.two .nil (.two (.one (.two .nil (.two (.cut ⟨[(27,Sh.bool)],[]⟩ .nil .nil) (.two .nil (.cut ⟨[(9,Sh.int .i64)],[]⟩ .nil (.cut ⟨[(9,Sh.int .i64)],[]⟩ .nil .nil)))))) .nil)))))) .nil)))) hv
def draft_Print_vc (a:OA) (b c:Nat) (h:Heap) (R:Value->Heap->Prop):Prop:=
 CallsU Tryz.prog 13 [.slice a b c] h fun a3 a4=>
 ∃ d,a3 = .int .i64 d/\
 Br ((d:Int) != 0)
 (R (.tuple #[.string (⟨#[]⟩:ByteArray),.int .i64 d]) a4)
 (∀ (z:Nat) (a0:Heap),a4 z=none->a0=Heap.put a4 z ⟨[.pointer none,.slice none 0 0],97,(0,0)⟩->
 ∃ e:Nat->Int->Heap->Prop,(∃ f,e f 0 a0)/\
 ∀ (f:Nat) (a1:Int) (a2:Heap),e f a1 a2->
 Br (decide (a1<(b:Int)))
 (∃ g:Addr,a=some g/\0<=a1/\a1<(b:Int)/\
 ∃ i j k l m n o p,LdN a2 (Addr.add g (Int.toNat a1*4)) [.string i,.int .i64 j,.slice k l m,.slice n o p]/\
 CallsU Tryz.prog 55 [.agg #[.string i,.int .i64 j,.slice k l m,.slice n o p]] a2 fun a5 a6=>
 ∃ q r,a5 = .tuple #[.string q,.int .i64 r]/\
 Br ((r:Int) != 0)
 (R (.tuple #[.string (⟨#[]⟩:ByteArray),.int .i64 r]) a6)
 (CallsU Tryz.prog 56 [.pointer (some (⟨z,0,none⟩)),.string q] a6 fun a7 a8=>
 ∃ s t,a7 = .tuple #[.int .i64 s,t]/\
 ∀ y:Int,y=IntKind.i64.wrap (a1+1)->
 ∃ u,u<f/\e u y a8))
 (CallsU Tryz.prog 57 [.pointer (some (⟨z,0,none⟩))] a2 fun a9 b0=>
 ∃ v,a9 = .int .i64 v/\
 Br (decide (v>20000))
 (R (.tuple #[.string (⟨#[]⟩:ByteArray),.int .i64 5]) b0)
 (CallsU Tryz.prog 58 [.pointer (some (⟨z,0,none⟩))] b0 fun b1 b2=>
 ∃ w,b1 = .string w/\
 R (.tuple #[.string w,.int .i64 0]) b2)))
theorem draft_Print_ok {a:OA} {b c:Nat} {h:Heap} {R:Value->Heap->Prop} (hv:draft_Print_vc a b c h R):CallsU Tryz.prog 27 [.slice a b c] h R:=
 fn_ok Tryz.func27 (fun t=>Nat.beq t 5) (.two .nil (.two .nil (.two .nil (.two (.two .nil (.one (.loop ⟨[(17,Sh.int .i64)],[]⟩ .nil))) .nil)))) hv
def draft_check_vc (a:OA) (b c:Nat) (h:Heap) (R:Value->Heap->Prop):Prop:=
 Br (decide ((b:Int)>64))
 (R (.tuple #[.int .i64 5,.int .i64 64]) h)
 (∃ d:Nat->Int->Heap->Prop,(∃ e,d e 0 h)/\
 ∀ (e:Nat) (u:Int) (v:Heap),d e u v->
 Br (decide (u<(b:Int)))
 (∃ f:Addr,a=some f/\0<=u/\u<(b:Int)/\
 ∃ g i j k l m n o,LdN v (Addr.add f (Int.toNat u*4)) [.string g,.int .i64 i,.slice j k l,.slice m n o]/\
 CallsU Tryz.prog 64 [.agg #[.string g,.int .i64 i,.slice j k l,.slice m n o]] v fun w y=>
 ∃ p,w = .int .i64 p/\
 Br ((p:Int)==0)
 (((0:Nat):Int)<=u/\u<=(c:Int)/\
 CallsU Tryz.prog 49 [.slice a (Int.toNat u) c,.agg #[.string g,.int .i64 i,.slice j k l,.slice m n o]] y fun z a0=>
 ∃ q,z = .int .i64 q/\
 Br ((q:Int) != 0)
 (R (.tuple #[.int .i64 q,.int .i64 u]) a0)
 (∀ s:Int,s=IntKind.i64.wrap (u+1)->
 ∃ r,r<e/\d r s a0))
 (Br ((p:Int) != 0)
 (R (.tuple #[.int .i64 p,.int .i64 u]) y)
 (∀ t:Int,t=IntKind.i64.wrap (u+1)->
 ∃ r,r<e/\d r t y)))
 (R (.tuple #[.int .i64 0,.int .i64 0]) v))
theorem draft_check_ok {a:OA} {b c:Nat} {h:Heap} {R:Value->Heap->Prop} (hv:draft_check_vc a b c h R):CallsU Tryz.prog 31 [.slice a b c] h R:=
 fn_ok Tryz.func31 (fun _=>false) (.two .nil (.two .nil (.two (.two .nil (.one (.loop ⟨[(12,Sh.int .i64)],[]⟩ (.two .nil (.two .nil (.two (.one (.two .nil (.two .nil (.two (.two .nil (.two (.ord [0,1,2,3,4,5]) .nil)) .nil)))) .nil)))))) .nil))) hv
def draft_construct_vc (_a:ByteArray) (b:Int) (c:OA) (d _e:Nat) (f:OA) (g _i:Nat) (j:OA) (k l:Nat) (m:OA) (n o:Nat) (h:Heap) (R:Value->Heap->Prop):Prop:=
 ∀ (aj9:Nat) (ak0:Heap),h aj9=none->ak0=Heap.put h aj9 ⟨[.bool false,.slice none 0 0,.slice none 0 0,.bool false,.slice none 0 0,.slice none 0 0],116,(0,0)⟩->
 ∃ p:Nat->Int->Bool->OA->Nat->Nat->OA->Nat->Nat->Bool->OA->Nat->Nat->OA->Nat->Nat->Heap->Prop,(∃ q,p q 0 false none 0 0 none 0 0 false none 0 0 none 0 0 ak0)/\
 ∀ (q:Nat) (ak1:Int) (ak2:Bool) (ak3:OA) (ak4 ak5:Nat) (ak6:OA) (ak7 ak8:Nat) (ak9:Bool) (al0:OA) (al1 al2:Nat) (al3:OA) (al4 al5:Nat) (al6:Heap),p q ak1 ak2 ak3 ak4 ak5 ak6 ak7 ak8 ak9 al0 al1 al2 al3 al4 al5 al6->
 Br (decide (ak1<(g:Int)))
 (∃ r:Addr,f=some r/\0<=ak1/\ak1<(g:Int)/\
 ∃ s t u v w y z a0 a1 a2 a3 a4,LdN al6 (Addr.add r (Int.toNat ak1*6)) [.int .i64 s,.bool t,.slice u v w,.slice y z a0,.string a1,.slice a2 a3 a4]/\
 CallsU Tryz.prog 71 [.agg #[.int .i64 s,.bool t,.slice u v w,.slice y z a0,.string a1,.slice a2 a3 a4],.slice m n o] al6 fun am1 am2=>
 ∃ a5 a6 a7 a8 a9 b0 b1 b2,am1 = .tuple #[.agg #[.bool a5,.slice a6 a7 a8,.slice a9 b0 b1],.int .i64 b2]/\
 Br ((b2:Int) != 0)
 (R (.tuple #[.agg #[.bool false,.slice none 0 0,.slice none 0 0,.bool false,.slice none 0 0,.slice none 0 0],.int .i64 b2]) am2)
 (0<=ak1/\ak1<((2:Nat):Int)/\
 ∃ b3:Blk,am2 (Addr.block (Addr.add (⟨aj9,0,none⟩) (Int.toNat ak1*3)))=some b3/\b3.fz=(0,0)/\Addr.spot (Addr.add (⟨aj9,0,none⟩) (Int.toNat ak1*3))=none/\Addr.off (Addr.add (⟨aj9,0,none⟩) (Int.toNat ak1*3))+3<=b3.cells.length/\
 ∀ aj5:Heap,aj5=Heap.put am2 (Addr.block (Addr.add (⟨aj9,0,none⟩) (Int.toNat ak1*3))) { b3 with cells:=setSeg b3.cells (Addr.off (Addr.add (⟨aj9,0,none⟩) (Int.toNat ak1*3))) [.bool a5,.slice a6 a7 a8,.slice a9 b0 b1] }->
 ∀ aj6:Int,aj6=IntKind.i64.wrap (ak1+1)->
 ∃ b4,b4<q/\p b4 aj6 ak2 ak3 ak4 ak5 ak6 ak7 ak8 ak9 al0 al1 al2 al3 al4 al5 aj5))
 (∀ (al7:Nat) (al8:Heap),al6 al7=none->al8=Heap.put al6 al7 ⟨[.bool false,.slice none 0 0,.slice none 0 0,.bool false,.slice none 0 0,.slice none 0 0,.bool false,.slice none 0 0,.slice none 0 0,.bool false,.slice none 0 0,.slice none 0 0,.bool false,.slice none 0 0,.slice none 0 0,.bool false,.slice none 0 0,.slice none 0 0,.bool false,.slice none 0 0,.slice none 0 0,.bool false,.slice none 0 0,.slice none 0 0],117,(0,0)⟩->
 ∃ b5:Nat->Int->Heap->Prop,(∃ b6,b5 b6 0 al8)/\
 ∀ (b6:Nat) (al9:Int) (am0:Heap),b5 b6 al9 am0->
 Br (decide (al9<(d:Int)))
 (∃ b7:Addr,c=some b7/\0<=al9/\al9<(d:Int)/\
 ∃ b8,LdN am0 (Addr.add b7 (Int.toNat al9*1)) [.string b8]/\
 CallsU Tryz.prog 72 [.slice j k l,.string b8] am0 fun am3 am4=>
 ∃ b9 c0 c1 c2 c3 c4 c5 c6 c7 c8 c9 d0 d1 d2,am3 = .agg #[.bool b9,.slice c0 c1 c2,.slice c3 c4 c5,.bool c6,.slice c7 c8 c9,.slice d0 d1 d2]/\
 0<=al9/\al9<((4:Nat):Int)/\
 ∃ d3:Blk,am4 (Addr.block (Addr.add (⟨al7,0,none⟩) (Int.toNat al9*6)))=some d3/\d3.fz=(0,0)/\Addr.spot (Addr.add (⟨al7,0,none⟩) (Int.toNat al9*6))=none/\Addr.off (Addr.add (⟨al7,0,none⟩) (Int.toNat al9*6))+6<=d3.cells.length/\
 ∀ aj7:Heap,aj7=Heap.put am4 (Addr.block (Addr.add (⟨al7,0,none⟩) (Int.toNat al9*6))) { d3 with cells:=setSeg d3.cells (Addr.off (Addr.add (⟨al7,0,none⟩) (Int.toNat al9*6))) [.bool b9,.slice c0 c1 c2,.slice c3 c4 c5,.bool c6,.slice c7 c8 c9,.slice d0 d1 d2] }->
 ∀ aj8:Int,aj8=IntKind.i64.wrap (al9+1)->
 ∃ d4,d4<b6/\b5 d4 aj8 aj7)
 (Br ((b:Int)==1)
 (0<=(0:Int)/\(0:Int)<((2:Nat):Int)/\
 ∃ d5 d6 d7 d8 d9 e0 e1,LdN am0 (Addr.add (⟨aj9,0,none⟩) (0*3)) [.bool d5,.slice d6 d7 d8,.slice d9 e0 e1]/\
 0<=(1:Int)/\(1:Int)<((2:Nat):Int)/\
 ∃ e2 e3 e4 e5 e6 e7 e8,LdN am0 (Addr.add (⟨aj9,0,none⟩) (1*3)) [.bool e2,.slice e3 e4 e5,.slice e6 e7 e8]/\
 R (.tuple #[.agg #[.bool d5,.slice d6 d7 d8,.slice d9 e0 e1,.bool e2,.slice e3 e4 e5,.slice e6 e7 e8],.int .i64 0]) am0)
 (Br ((b:Int)==2)
 (0<=(0:Int)/\(0:Int)<((4:Nat):Int)/\
 ∃ e9 f0 f1 f2 f3 f4 f5 f6 f7 f8 f9 g0 g1 g2,LdN am0 (Addr.add (⟨al7,0,none⟩) (0*6)) [.bool e9,.slice f0 f1 f2,.slice f3 f4 f5,.bool f6,.slice f7 f8 f9,.slice g0 g1 g2]/\
 0<=(0:Int)/\(0:Int)<((2:Nat):Int)/\
 ∃ g3 g4 g5 g6 g7 g8 g9,LdN am0 (Addr.add (⟨aj9,0,none⟩) (0*3)) [.bool g3,.slice g4 g5 g6,.slice g7 g8 g9]/\
 0<=(1:Int)/\(1:Int)<((2:Nat):Int)/\
 ∃ i0 i1 i2 i3 i4 i5 i6,LdN am0 (Addr.add (⟨aj9,0,none⟩) (1*3)) [.bool i0,.slice i1 i2 i3,.slice i4 i5 i6]/\
 CallsU Tryz.prog 18 [.agg #[.bool e9,.slice f0 f1 f2,.slice f3 f4 f5,.bool f6,.slice f7 f8 f9,.slice g0 g1 g2],.agg #[.bool g3,.slice g4 g5 g6,.slice g7 g8 g9,.bool i0,.slice i1 i2 i3,.slice i4 i5 i6]] am0 fun am5 am6=>
 ∃ i7 i8 i9 j0 j1 j2 j3 j4 j5 j6 j7 j8 j9 k0,am5 = .agg #[.bool i7,.slice i8 i9 j0,.slice j1 j2 j3,.bool j4,.slice j5 j6 j7,.slice j8 j9 k0]/\
 R (.tuple #[.agg #[.bool i7,.slice i8 i9 j0,.slice j1 j2 j3,.bool j4,.slice j5 j6 j7,.slice j8 j9 k0],.int .i64 0]) am6)
 (Br ((b:Int)==3)
 (0<=(0:Int)/\(0:Int)<((4:Nat):Int)/\
 ∃ k1 k2 k3 k4 k5 k6 k7 k8 k9 l0 l1 l2 l3 l4,LdN am0 (Addr.add (⟨al7,0,none⟩) (0*6)) [.bool k1,.slice k2 k3 k4,.slice k5 k6 k7,.bool k8,.slice k9 l0 l1,.slice l2 l3 l4]/\
 0<=(1:Int)/\(1:Int)<((4:Nat):Int)/\
 ∃ l5 l6 l7 l8 l9 m0 m1 m2 m3 m4 m5 m6 m7 m8,LdN am0 (Addr.add (⟨al7,0,none⟩) (1*6)) [.bool l5,.slice l6 l7 l8,.slice l9 m0 m1,.bool m2,.slice m3 m4 m5,.slice m6 m7 m8]/\
 0<=(0:Int)/\(0:Int)<((2:Nat):Int)/\
 ∃ m9 n0 n1 n2 n3 n4 n5,LdN am0 (Addr.add (⟨aj9,0,none⟩) (0*3)) [.bool m9,.slice n0 n1 n2,.slice n3 n4 n5]/\
 CallsU Tryz.prog 73 [.agg #[.bool k1,.slice k2 k3 k4,.slice k5 k6 k7,.bool k8,.slice k9 l0 l1,.slice l2 l3 l4],.agg #[.bool l5,.slice l6 l7 l8,.slice l9 m0 m1,.bool m2,.slice m3 m4 m5,.slice m6 m7 m8],.agg #[.bool m9,.slice n0 n1 n2,.slice n3 n4 n5]] am0 fun am7 am8=>
 ∃ n6 n7 n8 n9 o0 o1 o2 o3 o4 o5 o6 o7 o8 o9,am7 = .agg #[.bool n6,.slice n7 n8 n9,.slice o0 o1 o2,.bool o3,.slice o4 o5 o6,.slice o7 o8 o9]/\
 R (.tuple #[.agg #[.bool n6,.slice n7 n8 n9,.slice o0 o1 o2,.bool o3,.slice o4 o5 o6,.slice o7 o8 o9],.int .i64 0]) am8)
 (Br ((b:Int)==4)
 (0<=(0:Int)/\(0:Int)<((4:Nat):Int)/\
 ∃ p0 p1 p2 p3 p4 p5 p6 p7 p8 p9 q0 q1 q2 q3,LdN am0 (Addr.add (⟨al7,0,none⟩) (0*6)) [.bool p0,.slice p1 p2 p3,.slice p4 p5 p6,.bool p7,.slice p8 p9 q0,.slice q1 q2 q3]/\
 0<=(1:Int)/\(1:Int)<((4:Nat):Int)/\
 ∃ q4 q5 q6 q7 q8 q9 r0 r1 r2 r3 r4 r5 r6 r7,LdN am0 (Addr.add (⟨al7,0,none⟩) (1*6)) [.bool q4,.slice q5 q6 q7,.slice q8 q9 r0,.bool r1,.slice r2 r3 r4,.slice r5 r6 r7]/\
 0<=(2:Int)/\(2:Int)<((4:Nat):Int)/\
 ∃ r8 r9 s0 s1 s2 s3 s4 s5 s6 s7 s8 s9 t0 t1,LdN am0 (Addr.add (⟨al7,0,none⟩) (2*6)) [.bool r8,.slice r9 s0 s1,.slice s2 s3 s4,.bool s5,.slice s6 s7 s8,.slice s9 t0 t1]/\
 0<=(3:Int)/\(3:Int)<((4:Nat):Int)/\
 ∃ t2 t3 t4 t5 t6 t7 t8 t9 u0 u1 u2 u3 u4 u5,LdN am0 (Addr.add (⟨al7,0,none⟩) (3*6)) [.bool t2,.slice t3 t4 t5,.slice t6 t7 t8,.bool t9,.slice u0 u1 u2,.slice u3 u4 u5]/\
 CallsU Tryz.prog 74 [.agg #[.bool p0,.slice p1 p2 p3,.slice p4 p5 p6,.bool p7,.slice p8 p9 q0,.slice q1 q2 q3],.agg #[.bool q4,.slice q5 q6 q7,.slice q8 q9 r0,.bool r1,.slice r2 r3 r4,.slice r5 r6 r7],.agg #[.bool r8,.slice r9 s0 s1,.slice s2 s3 s4,.bool s5,.slice s6 s7 s8,.slice s9 t0 t1],.agg #[.bool t2,.slice t3 t4 t5,.slice t6 t7 t8,.bool t9,.slice u0 u1 u2,.slice u3 u4 u5]] am0 fun am9 an0=>
 ∃ u6 u7 u8 u9 v0 v1 v2 v3 v4 v5 v6 v7 v8 v9 w0,am9 = .tuple #[.agg #[.bool u6,.slice u7 u8 u9,.slice v0 v1 v2,.bool v3,.slice v4 v5 v6,.slice v7 v8 v9],.int .i64 w0]/\
 R (.tuple #[.agg #[.bool u6,.slice u7 u8 u9,.slice v0 v1 v2,.bool v3,.slice v4 v5 v6,.slice v7 v8 v9],.int .i64 w0]) an0)
 (Br ((b:Int)==5)
 (0<=(0:Int)/\(0:Int)<((4:Nat):Int)/\
 ∃ w1 w2 w3 w4 w5 w6 w7 w8 w9 y0 y1 y2 y3 y4,LdN am0 (Addr.add (⟨al7,0,none⟩) (0*6)) [.bool w1,.slice w2 w3 w4,.slice w5 w6 w7,.bool w8,.slice w9 y0 y1,.slice y2 y3 y4]/\
 0<=(1:Int)/\(1:Int)<((4:Nat):Int)/\
 ∃ y5 y6 y7 y8 y9 z0 z1 z2 z3 z4 z5 z6 z7 z8,LdN am0 (Addr.add (⟨al7,0,none⟩) (1*6)) [.bool y5,.slice y6 y7 y8,.slice y9 z0 z1,.bool z2,.slice z3 z4 z5,.slice z6 z7 z8]/\
 0<=(2:Int)/\(2:Int)<((4:Nat):Int)/\
 ∃ z9 aa0 aa1 aa2 aa3 aa4 aa5 aa6 aa7 aa8 aa9 ab0 ab1 ab2,LdN am0 (Addr.add (⟨al7,0,none⟩) (2*6)) [.bool z9,.slice aa0 aa1 aa2,.slice aa3 aa4 aa5,.bool aa6,.slice aa7 aa8 aa9,.slice ab0 ab1 ab2]/\
 CallsU Tryz.prog 75 [.agg #[.bool w1,.slice w2 w3 w4,.slice w5 w6 w7,.bool w8,.slice w9 y0 y1,.slice y2 y3 y4],.agg #[.bool y5,.slice y6 y7 y8,.slice y9 z0 z1,.bool z2,.slice z3 z4 z5,.slice z6 z7 z8],.agg #[.bool z9,.slice aa0 aa1 aa2,.slice aa3 aa4 aa5,.bool aa6,.slice aa7 aa8 aa9,.slice ab0 ab1 ab2]] am0 fun an1 an2=>
 ∃ ab3 ab4 ab5 ab6 ab7 ab8 ab9 ac0 ac1 ac2 ac3 ac4 ac5 ac6 ac7,an1 = .tuple #[.agg #[.bool ab3,.slice ab4 ab5 ab6,.slice ab7 ab8 ab9,.bool ac0,.slice ac1 ac2 ac3,.slice ac4 ac5 ac6],.int .i64 ac7]/\
 R (.tuple #[.agg #[.bool ab3,.slice ab4 ab5 ab6,.slice ab7 ab8 ab9,.bool ac0,.slice ac1 ac2 ac3,.slice ac4 ac5 ac6],.int .i64 ac7]) an2)
 (0<=(0:Int)/\(0:Int)<((4:Nat):Int)/\
 ∃ ac8 ac9 ad0 ad1 ad2 ad3 ad4 ad5 ad6 ad7 ad8 ad9 ae0 ae1,LdN am0 (Addr.add (⟨al7,0,none⟩) (0*6)) [.bool ac8,.slice ac9 ad0 ad1,.slice ad2 ad3 ad4,.bool ad5,.slice ad6 ad7 ad8,.slice ad9 ae0 ae1]/\
 0<=(1:Int)/\(1:Int)<((4:Nat):Int)/\
 ∃ ae2 ae3 ae4 ae5 ae6 ae7 ae8 ae9 af0 af1 af2 af3 af4 af5,LdN am0 (Addr.add (⟨al7,0,none⟩) (1*6)) [.bool ae2,.slice ae3 ae4 ae5,.slice ae6 ae7 ae8,.bool ae9,.slice af0 af1 af2,.slice af3 af4 af5]/\
 0<=(2:Int)/\(2:Int)<((4:Nat):Int)/\
 ∃ af6 af7 af8 af9 ag0 ag1 ag2 ag3 ag4 ag5 ag6 ag7 ag8 ag9,LdN am0 (Addr.add (⟨al7,0,none⟩) (2*6)) [.bool af6,.slice af7 af8 af9,.slice ag0 ag1 ag2,.bool ag3,.slice ag4 ag5 ag6,.slice ag7 ag8 ag9]/\
 CallsU Tryz.prog 76 [.agg #[.bool ac8,.slice ac9 ad0 ad1,.slice ad2 ad3 ad4,.bool ad5,.slice ad6 ad7 ad8,.slice ad9 ae0 ae1],.agg #[.bool ae2,.slice ae3 ae4 ae5,.slice ae6 ae7 ae8,.bool ae9,.slice af0 af1 af2,.slice af3 af4 af5],.agg #[.bool af6,.slice af7 af8 af9,.slice ag0 ag1 ag2,.bool ag3,.slice ag4 ag5 ag6,.slice ag7 ag8 ag9]] am0 fun an3 an4=>
 ∃ ai0 ai1 ai2 ai3 ai4 ai5 ai6 ai7 ai8 ai9 aj0 aj1 aj2 aj3 aj4,an3 = .tuple #[.agg #[.bool ai0,.slice ai1 ai2 ai3,.slice ai4 ai5 ai6,.bool ai7,.slice ai8 ai9 aj0,.slice aj1 aj2 aj3],.int .i64 aj4]/\
 R (.tuple #[.agg #[.bool ai0,.slice ai1 ai2 ai3,.slice ai4 ai5 ai6,.bool ai7,.slice ai8 ai9 aj0,.slice aj1 aj2 aj3],.int .i64 aj4]) an4)))))))
theorem draft_construct_ok {a:ByteArray} {b:Int} {c:OA} {d e:Nat} {f:OA} {g i:Nat} {j:OA} {k l:Nat} {m:OA} {n o:Nat} {h:Heap} {R:Value->Heap->Prop} (hv:draft_construct_vc a b c d e f g i j k l m n o h R):CallsU Tryz.prog 37 [.agg #[.string a,.int .i64 b,.slice c d e,.slice f g i],.slice j k l,.slice m n o] h R:=
 fn_ok Tryz.func37 (fun t=>Nat.beq t 8||Nat.beq t 13) (.two .nil (.two .nil (.two (.two .nil (.one (.loop ⟨[(19,Sh.int .i64)],[(1,[Sh.bool,Sh.slice,Sh.slice,Sh.bool,Sh.slice,Sh.slice])]⟩ .nil))) (.two .nil (.two (.two .nil (.one (.loop ⟨[(41,Sh.int .i64)],[]⟩ .nil))) .nil))))) hv
def draft_tooLong_vc (_a:Bool) (b:OA) (c d:Nat) (e:OA) (f g:Nat) (h:Heap) (R:Value->Heap->Prop):Prop:=
 CallsU Tryz.prog 77 [.slice b c d] h fun k l=>
 ∃ i,k = .string i/\
 Br (decide ((i.size:Int)>200))
 (R (.bool true) l)
 (CallsU Tryz.prog 77 [.slice e f g] l fun m n=>
 ∃ j,m = .string j/\
 R (.bool (decide ((j.size:Int)>200))) n)
theorem draft_tooLong_ok {a:Bool} {b:OA} {c d:Nat} {e:OA} {f g:Nat} {h:Heap} {R:Value->Heap->Prop} (hv:draft_tooLong_vc a b c d e f g h R):CallsU Tryz.prog 38 [.agg #[.bool a,.slice b c d,.slice e f g]] h R:=
 fn_ok Tryz.func38 (fun _=>false) .nil hv
def formula_collect_vc (a:OA) (b c:Nat) (d:Int) (_e:Bool) (_f:OA) (_g _i:Nat) (_j:OA) (_k _l:Nat) (m:ByteArray) (n:OA) (o _p:Nat) (h:Heap) (R:Value->Heap->Prop):Prop:=
 ∃ q:OA->Nat->Nat->Heap->Prop,(∀ (b5:OA) (b6 b7:Nat) (b8:Heap),q b5 b6 b7 b8->
 ∃ r:Nat->OA->Nat->Nat->Int->Heap->Prop,(∃ s,r s b5 b6 b7 0 b8)/\
 ∀ (s:Nat) (b9:OA) (c0 c1:Nat) (c2:Int) (c3:Heap),r s b9 c0 c1 c2 c3->
 Br (decide (c2<(o:Int)))
 (∃ t:Addr,n=some t/\0<=c2/\c2<(o:Int)/\
 ∃ u v w y z a0 a1 a2 a3 a4 a5 a6,LdN c3 (Addr.add t (Int.toNat c2*6)) [.int .i64 u,.bool v,.slice w y z,.slice a0 a1 a2,.string a3,.slice a4 a5 a6]/\
 CallsU Tryz.prog 42 [.slice b9 c0 c1,.agg #[.int .i64 u,.bool v,.slice w y z,.slice a0 a1 a2,.string a3,.slice a4 a5 a6]] c3 fun d1 d2=>
 ∃ a7 a8 a9,d1 = .slice a7 a8 a9/\
 ∀ b3:Int,b3=IntKind.i64.wrap (c2+1)->
 ∃ b0,b0<s/\r b0 a7 a8 a9 b3 d2)
 (R (.slice b9 c0 c1) c3))/\
 Br ((d:Int)==2)
 (∀ (c4:Nat) (c5:Heap),h c4=none->c5=Heap.put h c4 ⟨[.string m],9,(0,0)⟩->
 ∃ b1:List Value,RdS c5 (some ⟨c4,0,none⟩) (1*1) b1/\(∀ x∈b1,Go.Vcg.one x=true)/\
 (b+1<=c-> ∃ (c6:Addr) (c7:Blk),a=some c6/\c6.spot=none/\c5 c6.block=some c7/\c7.fz=(0,0)/\c6.off+b*1+1*1<=c7.cells.length/\
 ∀ b4:Heap,b4=Heap.put c5 c6.block { c7 with cells:=setSeg c7.cells (c6.off+b*1) b1 }->
 q a (b+1) c b4)/\
 (c<b+1-> ∃ b2:List Value,RdS c5 a (b*1) b2/\(b+1)*16<=140737488355328/\
 ∀ (c8 c9:Nat) (d0:Heap),c5 c8=none->b+1<=c9->d0=Heap.put c5 c8 ⟨b2++b1++repV [.string ByteArray.empty] (c9-(b+1)),9,(0,0)⟩->
 q (some ⟨c8,0,none⟩) (b+1) c9 d0))
 (q a b c h)
theorem formula_collect_ok {a:OA} {b c:Nat} {d:Int} {e:Bool} {f:OA} {g i:Nat} {j:OA} {k l:Nat} {m:ByteArray} {n:OA} {o p:Nat} {h:Heap} {R:Value->Heap->Prop} (hv:formula_collect_vc a b c d e f g i j k l m n o p h R):CallsU Tryz.prog 42 [.slice a b c,.agg #[.int .i64 d,.bool e,.slice f g i,.slice j k l,.string m,.slice n o p]] h R:=
 fn_ok Tryz.func42 (fun _=>false) (.two .nil (.cut ⟨[(0,Sh.slice)],[]⟩ .nil (.two (.two .nil (.one (.loop ⟨[(0,Sh.slice),(18,Sh.int .i64)],[]⟩ .nil))) .nil))) hv
def draft_parseLine_vc (a:ByteArray) (h:Heap) (R:Value->Heap->Prop):Prop:=
 CallsU Tryz.prog 91 [.string a] h fun d7 d8=>
 ∃ b c d e f g i j k l m n,d7 = .tuple #[.agg #[.string b,.int .i64 c,.slice d e f,.slice g i j],.slice k l m,.bool n]/\
 Br (!n)
 (R (.tuple #[.agg #[.string ByteArray.empty,.int .i64 0,.slice none 0 0,.slice none 0 0],.int .i64 2]) d8)
 (∃ o:Nat->Int->ByteArray->Int->OA->Nat->Nat->OA->Nat->Nat->ByteArray->Int->OA->Nat->Nat->OA->Nat->Nat->Heap->Prop,(∃ p,o p 0 ByteArray.empty 0 none 0 0 none 0 0 b c d e f g i j d8)/\
 ∀ (p:Nat) (b2:Int) (b3:ByteArray) (b4:Int) (b5:OA) (b6 b7:Nat) (b8:OA) (b9 c0:Nat) (c1:ByteArray) (c2:Int) (c3:OA) (c4 c5:Nat) (c6:OA) (c7 c8:Nat) (c9:Heap),o p b2 b3 b4 b5 b6 b7 b8 b9 c0 c1 c2 c3 c4 c5 c6 c7 c8 c9->
 Br (decide (b2<(l:Int)))
 (∃ q:Addr,k=some q/\0<=b2/\b2<(l:Int)/\
 ∃ r,LdN c9 (Addr.add q (Int.toNat b2*1)) [.string r]/\
 CallsU Tryz.prog 92 [.string r] c9 fun d9 e0=>
 ∃ s t u v w y z a0 a1 a2 a3 a4 a5,d9 = .tuple #[.agg #[.int .i64 s,.bool t,.slice u v w,.slice y z a0,.string a1,.slice a2 a3 a4],.int .i64 a5]/\
 Br ((a5:Int) != 0)
 (R (.tuple #[.agg #[.string ByteArray.empty,.int .i64 0,.slice none 0 0,.slice none 0 0],.int .i64 a5]) e0)
 (∀ (d0:Nat) (d1:Heap),e0 d0=none->d1=Heap.put e0 d0 ⟨[.int .i64 s,.bool t,.slice u v w,.slice y z a0,.string a1,.slice a2 a3 a4],39,(0,0)⟩->
 ∃ a6:List Value,RdS d1 (some ⟨d0,0,none⟩) (1*6) a6/\(∀ x∈a6,Go.Vcg.one x=true)/\
 (c7+1<=c8-> ∃ (d2:Addr) (d3:Blk),c6=some d2/\d2.spot=none/\d1 d2.block=some d3/\d3.fz=(0,0)/\d2.off+c7*6+1*6<=d3.cells.length/\
 ∀ a9:Heap,a9=Heap.put d1 d2.block { d3 with cells:=setSeg d3.cells (d2.off+c7*6) a6 }->
 ∀ b0:Int,b0=IntKind.i64.wrap (b2+1)->
 ∃ a7,a7<p/\o a7 b0 b3 b4 b5 b6 b7 b8 b9 c0 c1 c2 c3 c4 c5 c6 (c7+1) c8 a9)/\
 (c8<c7+1-> ∃ a8:List Value,RdS d1 c6 (c7*6) a8/\(c7+1)*104<=140737488355328/\
 ∀ (d4 d5:Nat) (d6:Heap),d1 d4=none->c7+1<=d5->d6=Heap.put d1 d4 ⟨a8++a6++repV [.int .i64 0,.bool false,.slice none 0 0,.slice none 0 0,.string ByteArray.empty,.slice none 0 0] (d5-(c7+1)),39,(0,0)⟩->
 ∀ b1:Int,b1=IntKind.i64.wrap (b2+1)->
 ∃ a7,a7<p/\o a7 b1 b3 b4 b5 b6 b7 b8 b9 c0 c1 c2 c3 c4 c5 (some ⟨d4,0,none⟩) (c7+1) d5 d6)))
 (R (.tuple #[.agg #[.string c1,.int .i64 c2,.slice c3 c4 c5,.slice c6 c7 c8],.int .i64 0]) c9))
theorem draft_parseLine_ok {a:ByteArray} {h:Heap} {R:Value->Heap->Prop} (hv:draft_parseLine_vc a h R):CallsU Tryz.prog 48 [.string a] h R:=
 fn_ok Tryz.func48 (fun _=>false) (.two .nil (.two .nil (.two .nil (.two (.two .nil (.one (.loop ⟨[(22,Sh.int .i64)],[(0,[Sh.str,Sh.int .i64,Sh.slice,Sh.slice]),(1,[Sh.str,Sh.int .i64,Sh.slice,Sh.slice])]⟩ .nil))) .nil)))) hv
def draft_checkNames_vc (a:OA) (b c:Nat) (d:ByteArray) (_e:Int) (f:OA) (g _i:Nat) (_j:OA) (_k _l:Nat) (h:Heap) (R:Value->Heap->Prop):Prop:=
 CallsU Tryz.prog 93 [.slice a b c,.string d] h fun w y=>
 ∃ m,w = .bool m/\
 Br (m)
 (R (.int .i64 7) y)
 (∃ n:Nat->Int->Heap->Prop,(∃ o,n o 0 y)/\
 ∀ (o:Nat) (u:Int) (v:Heap),n o u v->
 Br (decide (u<(g:Int)))
 (∃ p:Addr,f=some p/\0<=u/\u<(g:Int)/\
 ∃ q,LdN v (Addr.add p (Int.toNat u*1)) [.string q]/\
 CallsU Tryz.prog 93 [.slice a b c,.string q] v fun z a0=>
 ∃ r,z = .bool r/\
 Br (!r)
 (R (.int .i64 6) a0)
 (∀ t:Int,t=IntKind.i64.wrap (u+1)->
 ∃ s,s<o/\n s t a0))
 (R (.int .i64 0) v))
theorem draft_checkNames_ok {a:OA} {b c:Nat} {d:ByteArray} {e:Int} {f:OA} {g i:Nat} {j:OA} {k l:Nat} {h:Heap} {R:Value->Heap->Prop} (hv:draft_checkNames_vc a b c d e f g i j k l h R):CallsU Tryz.prog 49 [.slice a b c,.agg #[.string d,.int .i64 e,.slice f g i,.slice j k l]] h R:=
 fn_ok Tryz.func49 (fun _=>false) (.two .nil (.two .nil (.two (.two .nil (.one (.loop ⟨[(14,Sh.int .i64)],[]⟩ .nil))) .nil))) hv
def draft_lineText_vc (a:ByteArray) (b:Int) (c:OA) (d _e:Nat) (f:OA) (g _i:Nat) (h:Heap) (R:Value->Heap->Prop):Prop:=
 0<=b/\b<((7:Nat):Int)/\
 ∃ j k l m,LdN h (Addr.add (⟨0,0,none⟩) (Int.toNat b*4)) [.string j,.int .i64 k,.string l,.int .i64 m]/\
 ∃ n:OA->Nat->Nat->Heap->Prop,(∀ (d3:OA) (d4 d5:Nat) (d6:Heap),n d3 d4 d5 d6->
 ∃ o:OA->Nat->Nat->Heap->Prop,(∀ (d7:OA) (d8 d9:Nat) (e0:Heap),o d7 d8 d9 e0->
 ∃ p:Nat->OA->Nat->Nat->Int->Heap->Prop,(∃ q,p q d7 d8 d9 0 e0)/\
 ∀ (q:Nat) (e1:OA) (e2 e3:Nat) (e4:Int) (e5:Heap),p q e1 e2 e3 e4 e5->
 Br (decide (e4<(g:Int)))
 (∃ r:Addr,f=some r/\0<=e4/\e4<(g:Int)/\
 ∃ s t u v w y z a0 a1 a2 a3 a4,LdN e5 (Addr.add r (Int.toNat e4*6)) [.int .i64 s,.bool t,.slice u v w,.slice y z a0,.string a1,.slice a2 a3 a4]/\
 CallsU Tryz.prog 102 [.agg #[.int .i64 s,.bool t,.slice u v w,.slice y z a0,.string a1,.slice a2 a3 a4]] e5 fun j8 j9=>
 ∃ a5 a6,j8 = .tuple #[.string a5,.int .i64 a6]/\
 Br ((a6:Int) != 0)
 (R (.tuple #[.string (⟨#[]⟩:ByteArray),.int .i64 a6]) j9)
 (Br (decide (e4>0))
 (∀ (e6:Nat) (e7:Heap),j9 e6=none->e7=Heap.put j9 e6 ⟨[.string (⟨#[44]⟩:ByteArray)],9,(0,0)⟩->
 ∃ a7:List Value,RdS e7 (some ⟨e6,0,none⟩) (1*1) a7/\(∀ x∈a7,Go.Vcg.one x=true)/\
 (e2+1<=e3-> ∃ (e8:Addr) (e9:Blk),e1=some e8/\e8.spot=none/\e7 e8.block=some e9/\e9.fz=(0,0)/\e8.off+e2*1+1*1<=e9.cells.length/\
 ∀ c1:Heap,c1=Heap.put e7 e8.block { e9 with cells:=setSeg e9.cells (e8.off+e2*1) a7 }->
 ∀ (f0:Nat) (f1:Heap),c1 f0=none->f1=Heap.put c1 f0 ⟨[.string a5],9,(0,0)⟩->
 ∃ a8:List Value,RdS f1 (some ⟨f0,0,none⟩) (1*1) a8/\(∀ x∈a8,Go.Vcg.one x=true)/\
 (e2+1+1<=e3-> ∃ (f2:Addr) (f3:Blk),e1=some f2/\f2.spot=none/\f1 f2.block=some f3/\f3.fz=(0,0)/\f2.off+(e2+1)*1+1*1<=f3.cells.length/\
 ∀ c2:Heap,c2=Heap.put f1 f2.block { f3 with cells:=setSeg f3.cells (f2.off+(e2+1)*1) a8 }->
 ∀ c3:Int,c3=IntKind.i64.wrap (e4+1)->
 ∃ a9,a9<q/\p a9 e1 (e2+1+1) e3 c3 c2)/\
 (e3<e2+1+1-> ∃ b0:List Value,RdS f1 e1 ((e2+1)*1) b0/\(e2+1+1)*16<=140737488355328/\
 ∀ (f4 f5:Nat) (f6:Heap),f1 f4=none->e2+1+1<=f5->f6=Heap.put f1 f4 ⟨b0++a8++repV [.string ByteArray.empty] (f5-(e2+1+1)),9,(0,0)⟩->
 ∀ c4:Int,c4=IntKind.i64.wrap (e4+1)->
 ∃ a9,a9<q/\p a9 (some ⟨f4,0,none⟩) (e2+1+1) f5 c4 f6))/\
 (e3<e2+1-> ∃ b1:List Value,RdS e7 e1 (e2*1) b1/\(e2+1)*16<=140737488355328/\
 ∀ (f7 f8:Nat) (f9:Heap),e7 f7=none->e2+1<=f8->f9=Heap.put e7 f7 ⟨b1++a7++repV [.string ByteArray.empty] (f8-(e2+1)),9,(0,0)⟩->
 ∀ (g0:Nat) (g1:Heap),f9 g0=none->g1=Heap.put f9 g0 ⟨[.string a5],9,(0,0)⟩->
 ∃ b2:List Value,RdS g1 (some ⟨g0,0,none⟩) (1*1) b2/\(∀ x∈b2,Go.Vcg.one x=true)/\
 (e2+1+1<=f8-> ∃ (g2:Addr) (g3:Blk),some ⟨f7,0,none⟩=some g2/\g2.spot=none/\g1 g2.block=some g3/\g3.fz=(0,0)/\g2.off+(e2+1)*1+1*1<=g3.cells.length/\
 ∀ c5:Heap,c5=Heap.put g1 g2.block { g3 with cells:=setSeg g3.cells (g2.off+(e2+1)*1) b2 }->
 ∀ c6:Int,c6=IntKind.i64.wrap (e4+1)->
 ∃ a9,a9<q/\p a9 (some ⟨f7,0,none⟩) (e2+1+1) f8 c6 c5)/\
 (f8<e2+1+1-> ∃ b3:List Value,RdS g1 (some ⟨f7,0,none⟩) ((e2+1)*1) b3/\(e2+1+1)*16<=140737488355328/\
 ∀ (g4 g5:Nat) (g6:Heap),g1 g4=none->e2+1+1<=g5->g6=Heap.put g1 g4 ⟨b3++b2++repV [.string ByteArray.empty] (g5-(e2+1+1)),9,(0,0)⟩->
 ∀ c7:Int,c7=IntKind.i64.wrap (e4+1)->
 ∃ a9,a9<q/\p a9 (some ⟨g4,0,none⟩) (e2+1+1) g5 c7 g6)))
 (∀ (g7:Nat) (g8:Heap),j9 g7=none->g8=Heap.put j9 g7 ⟨[.string a5],9,(0,0)⟩->
 ∃ b4:List Value,RdS g8 (some ⟨g7,0,none⟩) (1*1) b4/\(∀ x∈b4,Go.Vcg.one x=true)/\
 (e2+1<=e3-> ∃ (g9:Addr) (i0:Blk),e1=some g9/\g9.spot=none/\g8 g9.block=some i0/\i0.fz=(0,0)/\g9.off+e2*1+1*1<=i0.cells.length/\
 ∀ c8:Heap,c8=Heap.put g8 g9.block { i0 with cells:=setSeg i0.cells (g9.off+e2*1) b4 }->
 ∀ c9:Int,c9=IntKind.i64.wrap (e4+1)->
 ∃ a9,a9<q/\p a9 e1 (e2+1) e3 c9 c8)/\
 (e3<e2+1-> ∃ b5:List Value,RdS g8 e1 (e2*1) b5/\(e2+1)*16<=140737488355328/\
 ∀ (i1 i2:Nat) (i3:Heap),g8 i1=none->e2+1<=i2->i3=Heap.put g8 i1 ⟨b5++b4++repV [.string ByteArray.empty] (i2-(e2+1)),9,(0,0)⟩->
 ∀ d0:Int,d0=IntKind.i64.wrap (e4+1)->
 ∃ a9,a9<q/\p a9 (some ⟨i1,0,none⟩) (e2+1) i2 d0 i3))))
 (CallsU Tryz.prog 103 [.slice e1 e2 e3,.string (⟨#[32]⟩:ByteArray)] e5 fun k0 k1=>
 ∃ b6,k0 = .string b6/\
 ((b6.size+(⟨#[10]⟩:ByteArray).size:Nat):Int)<=9223372036854775807/\
 R (.tuple #[.string (b6++(⟨#[10]⟩:ByteArray)),.int .i64 0]) k1))/\
 Br (!(l.toList==(⟨#[]⟩:ByteArray).toList))
 (∀ (i4:Nat) (i5:Heap),d6 i4=none->i5=Heap.put d6 i4 ⟨[.string l],9,(0,0)⟩->
 ∃ b7:List Value,RdS i5 (some ⟨i4,0,none⟩) (1*1) b7/\(∀ x∈b7,Go.Vcg.one x=true)/\
 (d4+1<=d5-> ∃ (i6:Addr) (i7:Blk),d3=some i6/\i6.spot=none/\i5 i6.block=some i7/\i7.fz=(0,0)/\i6.off+d4*1+1*1<=i7.cells.length/\
 ∀ d1:Heap,d1=Heap.put i5 i6.block { i7 with cells:=setSeg i7.cells (i6.off+d4*1) b7 }->
 o d3 (d4+1) d5 d1)/\
 (d5<d4+1-> ∃ b8:List Value,RdS i5 d3 (d4*1) b8/\(d4+1)*16<=140737488355328/\
 ∀ (i8 i9:Nat) (j0:Heap),i5 i8=none->d4+1<=i9->j0=Heap.put i5 i8 ⟨b8++b7++repV [.string ByteArray.empty] (i9-(d4+1)),9,(0,0)⟩->
 o (some ⟨i8,0,none⟩) (d4+1) i9 j0))
 (o d3 d4 d5 d6))/\
 ∀ (j1:Nat) (j2:Heap),h j1=none->j2=Heap.put h j1 ⟨[.string a,.string (⟨#[61]⟩:ByteArray),.string j],9,(0,0)⟩->
 ∃ b9:List Value,RdS j2 c (d*1) b9/\(∀ x∈b9,Go.Vcg.one x=true)/\
 (3+d<=3->Br (decide (d*1=0)) (n (some ⟨j1,0,none⟩) (3+d) 3 j2)
 (∃ (j3:Addr) (j4:Blk),some ⟨j1,0,none⟩=some j3/\j3.spot=none/\j2 j3.block=some j4/\j4.fz=(0,0)/\j3.off+3*1+d*1<=j4.cells.length/\
 ∀ d2:Heap,d2=Heap.put j2 j3.block { j4 with cells:=setSeg j4.cells (j3.off+3*1) b9 }->
 n (some ⟨j1,0,none⟩) (3+d) 3 d2))/\
 (3<3+d-> ∃ c0:List Value,RdS j2 (some ⟨j1,0,none⟩) (3*1) c0/\(3+d)*16<=140737488355328/\
 ∀ (j5 j6:Nat) (j7:Heap),j2 j5=none->3+d<=j6->j7=Heap.put j2 j5 ⟨c0++b9++repV [.string ByteArray.empty] (j6-(3+d)),9,(0,0)⟩->
 n (some ⟨j5,0,none⟩) (3+d) j6 j7)
theorem draft_lineText_ok {a:ByteArray} {b:Int} {c:OA} {d e:Nat} {f:OA} {g i:Nat} {h:Heap} {R:Value->Heap->Prop} (hv:draft_lineText_vc a b c d e f g i h R):CallsU Tryz.prog 55 [.agg #[.string a,.int .i64 b,.slice c d e,.slice f g i]] h R:=
 fn_ok Tryz.func55 (fun _=>false) (.two .nil (.two .nil (.cut ⟨[(5,Sh.slice)],[]⟩ .nil (.cut ⟨[(5,Sh.slice)],[]⟩ .nil (.two (.two .nil (.one (.loop ⟨[(5,Sh.slice),(33,Sh.int .i64)],[]⟩ .nil))) .nil))))) hv
def draft_checkForm_vc (a:ByteArray) (b:Int) (_c:OA) (d _e:Nat) (f:OA) (g _i:Nat) (h:Heap) (R:Value->Heap->Prop):Prop:=
 ∃ j:Bool->Heap->Prop,(∀ (a7:Bool) (a8:Heap),j a7 a8->
 Br (a7)
 (R (.int .i64 1) a8)
 (∃ k:Bool->Heap->Prop,(∀ (a9:Bool) (b0:Heap),k a9 b0->
 Br (a9)
 (R (.int .i64 1) b0)
 (∃ l:Nat->Int->Heap->Prop,(∃ m,l m 0 b0)/\
 ∀ (m:Nat) (b1:Int) (b2:Heap),l m b1 b2->
 Br (decide (b1<(g:Int)))
 (∃ n:Addr,f=some n/\0<=b1/\b1<(g:Int)/\
 ∃ o p q r s t u v w y z a0,LdN b2 (Addr.add n (Int.toNat b1*6)) [.int .i64 o,.bool p,.slice q r s,.slice t u v,.string w,.slice y z a0]/\
 CallsU Tryz.prog 115 [.agg #[.int .i64 o,.bool p,.slice q r s,.slice t u v,.string w,.slice y z a0]] b2 fun b3 b4=>
 ∃ a1,b3 = .int .i64 a1/\
 Br ((a1:Int) != 0)
 (R (.int .i64 a1) b4)
 (∀ a6:Int,a6=IntKind.i64.wrap (b1+1)->
 ∃ a2,a2<m/\l a2 a6 b4))
 (R (.int .i64 0) b2)))/\
 0<=b/\b<((7:Nat):Int)/\
 ∃ a3,LdN a8 (Addr.add (Addr.add (⟨0,0,none⟩) (Int.toNat b*4)) 1) [.int .i64 a3]/\
 Br ((d:Int) != a3)
 (k true a8)
 (0<=b/\b<((7:Nat):Int)/\
 ∃ a4,LdN a8 (Addr.add (Addr.add (⟨0,0,none⟩) (Int.toNat b*4)) 3) [.int .i64 a4]/\
 k ((g:Int) != a4) a8)))/\
 CallsU Tryz.prog 114 [.string a] h fun b5 b6=>
 ∃ a5,b5 = .bool a5/\
 Br (!a5)
 (j true b6)
 (Br (decide (b<1))
 (j true b6)
 (j (decide (b>6)) b6))
theorem draft_checkForm_ok {a:ByteArray} {b:Int} {c:OA} {d e:Nat} {f:OA} {g i:Nat} {h:Heap} {R:Value->Heap->Prop} (hv:draft_checkForm_vc a b c d e f g i h R):CallsU Tryz.prog 64 [.agg #[.string a,.int .i64 b,.slice c d e,.slice f g i]] h R:=
 fn_ok Tryz.func64 (fun _=>false) (.two .nil (.two (.cut ⟨[(19,Sh.bool)],[]⟩ .nil .nil) (.two (.cut ⟨[(39,Sh.bool)],[]⟩ (.ord [0,1,2,3,4,5,6,7,8,9,10,11,12,13,14,15,16,17,18,19]) .nil) (.two (.two .nil (.one (.loop ⟨[(43,Sh.int .i64)],[]⟩ .nil))) .nil)))) hv
def formula_Eval_vc (a:Int) (b:Bool) (c:OA) (d e:Nat) (f:OA) (g i:Nat) (j:ByteArray) (k:OA) (l m:Nat) (n:OA) (o p:Nat) (h:Heap) (R:Value->Heap->Prop):Prop:=
 CallsU Tryz.prog 115 [.agg #[.int .i64 a,.bool b,.slice c d e,.slice f g i,.string j,.slice k l m]] h fun a0 a1=>
 ∃ q,a0 = .int .i64 q/\
 Br ((q:Int) != 0)
 (R (.tuple #[.agg #[.bool false,.slice none 0 0,.slice none 0 0],.int .i64 q]) a1)
 (CallsU Tryz.prog 126 [.agg #[.int .i64 a,.bool b,.slice c d e,.slice f g i,.string j,.slice k l m],.slice n o p] a1 fun a2 a3=>
 ∃ r s t u v w y z,a2 = .tuple #[.agg #[.bool r,.slice s t u,.slice v w y],.int .i64 z]/\
 R (.tuple #[.agg #[.bool r,.slice s t u,.slice v w y],.int .i64 z]) a3)
theorem formula_Eval_ok {a:Int} {b:Bool} {c:OA} {d e:Nat} {f:OA} {g i:Nat} {j:ByteArray} {k:OA} {l m:Nat} {n:OA} {o p:Nat} {h:Heap} {R:Value->Heap->Prop} (hv:formula_Eval_vc a b c d e f g i j k l m n o p h R):CallsU Tryz.prog 71 [.agg #[.int .i64 a,.bool b,.slice c d e,.slice f g i,.string j,.slice k l m],.slice n o p] h R:=
 fn_ok Tryz.func71 (fun _=>false) .nil hv
def draft_find_vc (a:OA) (b _c:Nat) (d:ByteArray) (h:Heap) (R:Value->Heap->Prop):Prop:=
 ∃ e:Nat->Int->Bool->OA->Nat->Nat->OA->Nat->Nat->Bool->OA->Nat->Nat->OA->Nat->Nat->Heap->Prop,(∃ f,e f 0 false none 0 0 none 0 0 false none 0 0 none 0 0 h)/\
 ∀ (f:Nat) (a0:Int) (a1:Bool) (a2:OA) (a3 a4:Nat) (a5:OA) (a6 a7:Nat) (a8:Bool) (a9:OA) (b0 b1:Nat) (b2:OA) (b3 b4:Nat) (b5:Heap),e f a0 a1 a2 a3 a4 a5 a6 a7 a8 a9 b0 b1 b2 b3 b4 b5->
 Br (decide (a0<(b:Int)))
 (∃ g:Addr,a=some g/\0<=a0/\a0<(b:Int)/\
 ∃ i j k l m n o p q r s t u v w,LdN b5 (Addr.add g (Int.toNat a0*7)) [.string i,.bool j,.slice k l m,.slice n o p,.bool q,.slice r s t,.slice u v w]/\
 Br (i.toList==d.toList)
 (R (.agg #[.bool j,.slice k l m,.slice n o p,.bool q,.slice r s t,.slice u v w]) b5)
 (∀ z:Int,z=IntKind.i64.wrap (a0+1)->
 ∃ y,y<f/\e y z a1 a2 a3 a4 a5 a6 a7 a8 a9 b0 b1 b2 b3 b4 b5))
 (R (.agg #[.bool false,.slice none 0 0,.slice none 0 0,.bool false,.slice none 0 0,.slice none 0 0]) b5)
theorem draft_find_ok {a:OA} {b c:Nat} {d:ByteArray} {h:Heap} {R:Value->Heap->Prop} (hv:draft_find_vc a b c d h R):CallsU Tryz.prog 72 [.slice a b c,.string d] h R:=
 fn_ok Tryz.func72 (fun _=>false) (.two .nil (.two (.two .nil (.one (.loop ⟨[(9,Sh.int .i64)],[(0,[Sh.bool,Sh.slice,Sh.slice,Sh.bool,Sh.slice,Sh.slice])]⟩ .nil))) .nil)) hv
def point_On_vc (a:Bool) (b:OA) (c d:Nat) (e:OA) (f g:Nat) (i:Bool) (j:OA) (k l:Nat) (m:OA) (n o:Nat) (p:Bool) (q:OA) (r s:Nat) (t:OA) (u v:Nat) (w:Bool) (y:OA) (z a0:Nat) (a1:OA) (a2 a3:Nat) (a4:Bool) (a5:OA) (a6 a7:Nat) (a8:OA) (a9 b0:Nat) (h:Heap) (R:Value->Heap->Prop):Prop:=
 CallsU Tryz.prog 128 [.agg #[.bool p,.slice q r s,.slice t u v,.bool w,.slice y z a0,.slice a1 a2 a3],.agg #[.bool a,.slice b c d,.slice e f g,.bool i,.slice j k l,.slice m n o]] h fun f3 f4=>
 ∃ b1 b2 b3 b4 b5 b6 b7 b8 b9 c0 c1 c2 c3 c4,f3 = .agg #[.bool b1,.slice b2 b3 b4,.slice b5 b6 b7,.bool b8,.slice b9 c0 c1,.slice c2 c3 c4]/\
 LeH h f4/\
 CallsU Tryz.prog 127 [.agg #[.bool b1,.slice b2 b3 b4,.slice b5 b6 b7,.bool b8,.slice b9 c0 c1,.slice c2 c3 c4],.agg #[.bool a4,.slice a5 a6 a7,.slice a8 a9 b0]] f4 fun f5 f6=>
 ∃ c5 c6 c7 c8 c9 d0 d1 d2 d3 d4 d5 d6 d7 d8,f5 = .agg #[.bool c5,.slice c6 c7 c8,.slice c9 d0 d1,.bool d2,.slice d3 d4 d5,.slice d6 d7 d8]/\
 LeH f4 f6/\
 CallsU Tryz.prog 18 [.agg #[.bool a,.slice b c d,.slice e f g,.bool i,.slice j k l,.slice m n o],.agg #[.bool c5,.slice c6 c7 c8,.slice c9 d0 d1,.bool d2,.slice d3 d4 d5,.slice d6 d7 d8]] f6 fun f7 f8=>
 ∃ d9 e0 e1 e2 e3 e4 e5 e6 e7 e8 e9 f0 f1 f2,f7 = .agg #[.bool d9,.slice e0 e1 e2,.slice e3 e4 e5,.bool e6,.slice e7 e8 e9,.slice f0 f1 f2]/\
 R (.agg #[.bool d9,.slice e0 e1 e2,.slice e3 e4 e5,.bool e6,.slice e7 e8 e9,.slice f0 f1 f2]) f8
theorem point_On_ok {a:Bool} {b:OA} {c d:Nat} {e:OA} {f g:Nat} {i:Bool} {j:OA} {k l:Nat} {m:OA} {n o:Nat} {p:Bool} {q:OA} {r s:Nat} {t:OA} {u v:Nat} {w:Bool} {y:OA} {z a0:Nat} {a1:OA} {a2 a3:Nat} {a4:Bool} {a5:OA} {a6 a7:Nat} {a8:OA} {a9 b0:Nat} {h:Heap} {R:Value->Heap->Prop} (hv:point_On_vc a b c d e f g i j k l m n o p q r s t u v w y z a0 a1 a2 a3 a4 a5 a6 a7 a8 a9 b0 h R):CallsU Tryz.prog 73 [.agg #[.bool a,.slice b c d,.slice e f g,.bool i,.slice j k l,.slice m n o],.agg #[.bool p,.slice q r s,.slice t u v,.bool w,.slice y z a0,.slice a1 a2 a3],.agg #[.bool a4,.slice a5 a6 a7,.slice a8 a9 b0]] h R:=
 fn_ok Tryz.func73 (fun _=>false) (.two .nil (.two (.ord [0,1,2,4,3,5,6,7]) .nil)) hv
def point_Meet_vc (a:Bool) (b:OA) (c d:Nat) (e:OA) (f g:Nat) (i:Bool) (j:OA) (k l:Nat) (m:OA) (n o:Nat) (p:Bool) (q:OA) (r s:Nat) (t:OA) (u v:Nat) (w:Bool) (y:OA) (z a0:Nat) (a1:OA) (a2 a3:Nat) (a4:Bool) (a5:OA) (a6 a7:Nat) (a8:OA) (a9 b0:Nat) (b1:Bool) (b2:OA) (b3 b4:Nat) (b5:OA) (b6 b7:Nat) (b8:Bool) (b9:OA) (c0 c1:Nat) (c2:OA) (c3 c4:Nat) (c5:Bool) (c6:OA) (c7 c8:Nat) (c9:OA) (d0 d1:Nat) (h:Heap) (R:Value->Heap->Prop):Prop:=
 CallsU Tryz.prog 128 [.agg #[.bool b8,.slice b9 c0 c1,.slice c2 c3 c4,.bool c5,.slice c6 c7 c8,.slice c9 d0 d1],.agg #[.bool a4,.slice a5 a6 a7,.slice a8 a9 b0,.bool b1,.slice b2 b3 b4,.slice b5 b6 b7]] h fun m0 m1=>
 ∃ d2 d3 d4 d5 d6 d7 d8 d9 e0 e1 e2 e3 e4 e5,m0 = .agg #[.bool d2,.slice d3 d4 d5,.slice d6 d7 d8,.bool d9,.slice e0 e1 e2,.slice e3 e4 e5]/\
 CallsU Tryz.prog 128 [.agg #[.bool a4,.slice a5 a6 a7,.slice a8 a9 b0,.bool b1,.slice b2 b3 b4,.slice b5 b6 b7],.agg #[.bool a,.slice b c d,.slice e f g,.bool i,.slice j k l,.slice m n o]] m1 fun m2 m3=>
 ∃ e6 e7 e8 e9 f0 f1 f2 f3 f4 f5 f6 f7 f8 f9,m2 = .agg #[.bool e6,.slice e7 e8 e9,.slice f0 f1 f2,.bool f3,.slice f4 f5 f6,.slice f7 f8 f9]/\
 LeH m1 m3/\
 CallsU Tryz.prog 130 [.agg #[.bool e6,.slice e7 e8 e9,.slice f0 f1 f2,.bool f3,.slice f4 f5 f6,.slice f7 f8 f9],.agg #[.bool d2,.slice d3 d4 d5,.slice d6 d7 d8,.bool d9,.slice e0 e1 e2,.slice e3 e4 e5]] m3 fun m4 m5=>
 ∃ g0 g1 g2 g3 g4 g5 g6,m4 = .agg #[.bool g0,.slice g1 g2 g3,.slice g4 g5 g6]/\
 LeH m3 m5/\
 CallsU Tryz.prog 128 [.agg #[.bool p,.slice q r s,.slice t u v,.bool w,.slice y z a0,.slice a1 a2 a3],.agg #[.bool a,.slice b c d,.slice e f g,.bool i,.slice j k l,.slice m n o]] m5 fun m6 m7=>
 ∃ g7 g8 g9 i0 i1 i2 i3 i4 i5 i6 i7 i8 i9 j0,m6 = .agg #[.bool g7,.slice g8 g9 i0,.slice i1 i2 i3,.bool i4,.slice i5 i6 i7,.slice i8 i9 j0]/\
 LeH m5 m7/\
 CallsU Tryz.prog 130 [.agg #[.bool g7,.slice g8 g9 i0,.slice i1 i2 i3,.bool i4,.slice i5 i6 i7,.slice i8 i9 j0],.agg #[.bool d2,.slice d3 d4 d5,.slice d6 d7 d8,.bool d9,.slice e0 e1 e2,.slice e3 e4 e5]] m7 fun m8 m9=>
 ∃ j1 j2 j3 j4 j5 j6 j7,m8 = .agg #[.bool j1,.slice j2 j3 j4,.slice j5 j6 j7]/\
 CallsU Tryz.prog 129 [.agg #[.bool g0,.slice g1 g2 g3,.slice g4 g5 g6],.agg #[.bool j1,.slice j2 j3 j4,.slice j5 j6 j7]] m9 fun n0 n1=>
 ∃ j8 j9 k0 k1 k2 k3 k4 k5,n0 = .tuple #[.agg #[.bool j8,.slice j9 k0 k1,.slice k2 k3 k4],.bool k5]/\
 Br (!k5)
 (R (.tuple #[.agg #[.bool false,.slice none 0 0,.slice none 0 0,.bool false,.slice none 0 0,.slice none 0 0],.int .i64 10]) n1)
 (CallsU Tryz.prog 73 [.agg #[.bool a,.slice b c d,.slice e f g,.bool i,.slice j k l,.slice m n o],.agg #[.bool p,.slice q r s,.slice t u v,.bool w,.slice y z a0,.slice a1 a2 a3],.agg #[.bool j8,.slice j9 k0 k1,.slice k2 k3 k4]] n1 fun n2 n3=>
 ∃ k6 k7 k8 k9 l0 l1 l2 l3 l4 l5 l6 l7 l8 l9,n2 = .agg #[.bool k6,.slice k7 k8 k9,.slice l0 l1 l2,.bool l3,.slice l4 l5 l6,.slice l7 l8 l9]/\
 R (.tuple #[.agg #[.bool k6,.slice k7 k8 k9,.slice l0 l1 l2,.bool l3,.slice l4 l5 l6,.slice l7 l8 l9],.int .i64 0]) n3)
theorem point_Meet_ok {a:Bool} {b:OA} {c d:Nat} {e:OA} {f g:Nat} {i:Bool} {j:OA} {k l:Nat} {m:OA} {n o:Nat} {p:Bool} {q:OA} {r s:Nat} {t:OA} {u v:Nat} {w:Bool} {y:OA} {z a0:Nat} {a1:OA} {a2 a3:Nat} {a4:Bool} {a5:OA} {a6 a7:Nat} {a8:OA} {a9 b0:Nat} {b1:Bool} {b2:OA} {b3 b4:Nat} {b5:OA} {b6 b7:Nat} {b8:Bool} {b9:OA} {c0 c1:Nat} {c2:OA} {c3 c4:Nat} {c5:Bool} {c6:OA} {c7 c8:Nat} {c9:OA} {d0 d1:Nat} {h:Heap} {R:Value->Heap->Prop} (hv:point_Meet_vc a b c d e f g i j k l m n o p q r s t u v w y z a0 a1 a2 a3 a4 a5 a6 a7 a8 a9 b0 b1 b2 b3 b4 b5 b6 b7 b8 b9 c0 c1 c2 c3 c4 c5 c6 c7 c8 c9 d0 d1 h R):CallsU Tryz.prog 74 [.agg #[.bool a,.slice b c d,.slice e f g,.bool i,.slice j k l,.slice m n o],.agg #[.bool p,.slice q r s,.slice t u v,.bool w,.slice y z a0,.slice a1 a2 a3],.agg #[.bool a4,.slice a5 a6 a7,.slice a8 a9 b0,.bool b1,.slice b2 b3 b4,.slice b5 b6 b7],.agg #[.bool b8,.slice b9 c0 c1,.slice c2 c3 c4,.bool c5,.slice c6 c7 c8,.slice c9 d0 d1]] h R:=
 fn_ok Tryz.func74 (fun _=>false) (.two .nil (.two .nil (.two (.ord [0,1,3,5,6,8,2,4,7,9,10,11,12,13,14,15,16]) .nil))) hv
def point_Foot_vc (a:Bool) (b:OA) (c d:Nat) (e:OA) (f g:Nat) (i:Bool) (j:OA) (k l:Nat) (m:OA) (n o:Nat) (p:Bool) (q:OA) (r s:Nat) (t:OA) (u v:Nat) (w:Bool) (y:OA) (z a0:Nat) (a1:OA) (a2 a3:Nat) (a4:Bool) (a5:OA) (a6 a7:Nat) (a8:OA) (a9 b0:Nat) (b1:Bool) (b2:OA) (b3 b4:Nat) (b5:OA) (b6 b7:Nat) (h:Heap) (R:Value->Heap->Prop):Prop:=
 CallsU Tryz.prog 128 [.agg #[.bool a4,.slice a5 a6 a7,.slice a8 a9 b0,.bool b1,.slice b2 b3 b4,.slice b5 b6 b7],.agg #[.bool p,.slice q r s,.slice t u v,.bool w,.slice y z a0,.slice a1 a2 a3]] h fun j2 j3=>
 ∃ b8 b9 c0 c1 c2 c3 c4 c5 c6 c7 c8 c9 d0 d1,j2 = .agg #[.bool b8,.slice b9 c0 c1,.slice c2 c3 c4,.bool c5,.slice c6 c7 c8,.slice c9 d0 d1]/\
 CallsU Tryz.prog 128 [.agg #[.bool a,.slice b c d,.slice e f g,.bool i,.slice j k l,.slice m n o],.agg #[.bool p,.slice q r s,.slice t u v,.bool w,.slice y z a0,.slice a1 a2 a3]] j3 fun j4 j5=>
 ∃ d2 d3 d4 d5 d6 d7 d8 d9 e0 e1 e2 e3 e4 e5,j4 = .agg #[.bool d2,.slice d3 d4 d5,.slice d6 d7 d8,.bool d9,.slice e0 e1 e2,.slice e3 e4 e5]/\
 LeH j3 j5/\
 CallsU Tryz.prog 131 [.agg #[.bool d2,.slice d3 d4 d5,.slice d6 d7 d8,.bool d9,.slice e0 e1 e2,.slice e3 e4 e5],.agg #[.bool b8,.slice b9 c0 c1,.slice c2 c3 c4,.bool c5,.slice c6 c7 c8,.slice c9 d0 d1]] j5 fun j6 j7=>
 ∃ e6 e7 e8 e9 f0 f1 f2,j6 = .agg #[.bool e6,.slice e7 e8 e9,.slice f0 f1 f2]/\
 LeH j5 j7/\
 CallsU Tryz.prog 131 [.agg #[.bool b8,.slice b9 c0 c1,.slice c2 c3 c4,.bool c5,.slice c6 c7 c8,.slice c9 d0 d1],.agg #[.bool b8,.slice b9 c0 c1,.slice c2 c3 c4,.bool c5,.slice c6 c7 c8,.slice c9 d0 d1]] j7 fun j8 j9=>
 ∃ f3 f4 f5 f6 f7 f8 f9,j8 = .agg #[.bool f3,.slice f4 f5 f6,.slice f7 f8 f9]/\
 CallsU Tryz.prog 129 [.agg #[.bool e6,.slice e7 e8 e9,.slice f0 f1 f2],.agg #[.bool f3,.slice f4 f5 f6,.slice f7 f8 f9]] j9 fun k0 k1=>
 ∃ g0 g1 g2 g3 g4 g5 g6 g7,k0 = .tuple #[.agg #[.bool g0,.slice g1 g2 g3,.slice g4 g5 g6],.bool g7]/\
 Br (!g7)
 (R (.tuple #[.agg #[.bool false,.slice none 0 0,.slice none 0 0,.bool false,.slice none 0 0,.slice none 0 0],.int .i64 10]) k1)
 (CallsU Tryz.prog 73 [.agg #[.bool p,.slice q r s,.slice t u v,.bool w,.slice y z a0,.slice a1 a2 a3],.agg #[.bool a4,.slice a5 a6 a7,.slice a8 a9 b0,.bool b1,.slice b2 b3 b4,.slice b5 b6 b7],.agg #[.bool g0,.slice g1 g2 g3,.slice g4 g5 g6]] k1 fun k2 k3=>
 ∃ g8 g9 i0 i1 i2 i3 i4 i5 i6 i7 i8 i9 j0 j1,k2 = .agg #[.bool g8,.slice g9 i0 i1,.slice i2 i3 i4,.bool i5,.slice i6 i7 i8,.slice i9 j0 j1]/\
 R (.tuple #[.agg #[.bool g8,.slice g9 i0 i1,.slice i2 i3 i4,.bool i5,.slice i6 i7 i8,.slice i9 j0 j1],.int .i64 0]) k3)
theorem point_Foot_ok {a:Bool} {b:OA} {c d:Nat} {e:OA} {f g:Nat} {i:Bool} {j:OA} {k l:Nat} {m:OA} {n o:Nat} {p:Bool} {q:OA} {r s:Nat} {t:OA} {u v:Nat} {w:Bool} {y:OA} {z a0:Nat} {a1:OA} {a2 a3:Nat} {a4:Bool} {a5:OA} {a6 a7:Nat} {a8:OA} {a9 b0:Nat} {b1:Bool} {b2:OA} {b3 b4:Nat} {b5:OA} {b6 b7:Nat} {h:Heap} {R:Value->Heap->Prop} (hv:point_Foot_vc a b c d e f g i j k l m n o p q r s t u v w y z a0 a1 a2 a3 a4 a5 a6 a7 a8 a9 b0 b1 b2 b3 b4 b5 b6 b7 h R):CallsU Tryz.prog 75 [.agg #[.bool a,.slice b c d,.slice e f g,.bool i,.slice j k l,.slice m n o],.agg #[.bool p,.slice q r s,.slice t u v,.bool w,.slice y z a0,.slice a1 a2 a3],.agg #[.bool a4,.slice a5 a6 a7,.slice a8 a9 b0,.bool b1,.slice b2 b3 b4,.slice b5 b6 b7]] h R:=
 fn_ok Tryz.func75 (fun _=>false) (.two .nil (.two .nil (.two (.ord [0,1,3,5,6,2,4,7,8,9,10,11,12,13,14]) .nil))) hv
def point_Mirror_vc (a:Bool) (b:OA) (c d:Nat) (e:OA) (f g:Nat) (i:Bool) (j:OA) (k l:Nat) (m:OA) (n o:Nat) (p:Bool) (q:OA) (r s:Nat) (t:OA) (u v:Nat) (w:Bool) (y:OA) (z a0:Nat) (a1:OA) (a2 a3:Nat) (a4:Bool) (a5:OA) (a6 a7:Nat) (a8:OA) (a9 b0:Nat) (b1:Bool) (b2:OA) (b3 b4:Nat) (b5:OA) (b6 b7:Nat) (h:Heap) (R:Value->Heap->Prop):Prop:=
 CallsU Tryz.prog 75 [.agg #[.bool a,.slice b c d,.slice e f g,.bool i,.slice j k l,.slice m n o],.agg #[.bool p,.slice q r s,.slice t u v,.bool w,.slice y z a0,.slice a1 a2 a3],.agg #[.bool a4,.slice a5 a6 a7,.slice a8 a9 b0,.bool b1,.slice b2 b3 b4,.slice b5 b6 b7]] h fun g1 g2=>
 ∃ b8 b9 c0 c1 c2 c3 c4 c5 c6 c7 c8 c9 d0 d1 d2,g1 = .tuple #[.agg #[.bool b8,.slice b9 c0 c1,.slice c2 c3 c4,.bool c5,.slice c6 c7 c8,.slice c9 d0 d1],.int .i64 d2]/\
 Br ((d2:Int) != 0)
 (R (.tuple #[.agg #[.bool false,.slice none 0 0,.slice none 0 0,.bool false,.slice none 0 0,.slice none 0 0],.int .i64 d2]) g2)
 (CallsU Tryz.prog 18 [.agg #[.bool b8,.slice b9 c0 c1,.slice c2 c3 c4,.bool c5,.slice c6 c7 c8,.slice c9 d0 d1],.agg #[.bool b8,.slice b9 c0 c1,.slice c2 c3 c4,.bool c5,.slice c6 c7 c8,.slice c9 d0 d1]] g2 fun g3 g4=>
 ∃ d3 d4 d5 d6 d7 d8 d9 e0 e1 e2 e3 e4 e5 e6,g3 = .agg #[.bool d3,.slice d4 d5 d6,.slice d7 d8 d9,.bool e0,.slice e1 e2 e3,.slice e4 e5 e6]/\
 LeH g2 g4/\
 CallsU Tryz.prog 128 [.agg #[.bool d3,.slice d4 d5 d6,.slice d7 d8 d9,.bool e0,.slice e1 e2 e3,.slice e4 e5 e6],.agg #[.bool a,.slice b c d,.slice e f g,.bool i,.slice j k l,.slice m n o]] g4 fun g5 g6=>
 ∃ e7 e8 e9 f0 f1 f2 f3 f4 f5 f6 f7 f8 f9 g0,g5 = .agg #[.bool e7,.slice e8 e9 f0,.slice f1 f2 f3,.bool f4,.slice f5 f6 f7,.slice f8 f9 g0]/\
 R (.tuple #[.agg #[.bool e7,.slice e8 e9 f0,.slice f1 f2 f3,.bool f4,.slice f5 f6 f7,.slice f8 f9 g0],.int .i64 0]) g6)
theorem point_Mirror_ok {a:Bool} {b:OA} {c d:Nat} {e:OA} {f g:Nat} {i:Bool} {j:OA} {k l:Nat} {m:OA} {n o:Nat} {p:Bool} {q:OA} {r s:Nat} {t:OA} {u v:Nat} {w:Bool} {y:OA} {z a0:Nat} {a1:OA} {a2 a3:Nat} {a4:Bool} {a5:OA} {a6 a7:Nat} {a8:OA} {a9 b0:Nat} {b1:Bool} {b2:OA} {b3 b4:Nat} {b5:OA} {b6 b7:Nat} {h:Heap} {R:Value->Heap->Prop} (hv:point_Mirror_vc a b c d e f g i j k l m n o p q r s t u v w y z a0 a1 a2 a3 a4 a5 a6 a7 a8 a9 b0 b1 b2 b3 b4 b5 b6 b7 h R):CallsU Tryz.prog 76 [.agg #[.bool a,.slice b c d,.slice e f g,.bool i,.slice j k l,.slice m n o],.agg #[.bool p,.slice q r s,.slice t u v,.bool w,.slice y z a0,.slice a1 a2 a3],.agg #[.bool a4,.slice a5 a6 a7,.slice a8 a9 b0,.bool b1,.slice b2 b3 b4,.slice b5 b6 b7]] h R:=
 fn_ok Tryz.func76 (fun _=>false) (.two .nil (.two .nil (.two .nil (.two (.ord [0,1,3,2,4,5,6]) .nil)))) hv
def draft_divideLine_vc (a:ByteArray) (h:Heap) (R:Value->Heap->Prop):Prop:=
 CallsU Tryz.prog 47 [.string a,.string (⟨#[32]⟩:ByteArray)] h fun e5 e6=>
 ∃ b c d,e5 = .slice b c d/\
 ∃ e:Bool->Heap->Prop,(∀ (b7:Bool) (b8:Heap),e b7 b8->
 Br (b7)
 (R (.tuple #[.agg #[.string ByteArray.empty,.int .i64 0,.slice none 0 0,.slice none 0 0],.slice none 0 0,.bool false]) b8)
 (∃ f:Int->Heap->Prop,(∀ (b9:Int) (c0:Heap),f b9 c0->
 Br (decide (b9>6))
 (R (.tuple #[.agg #[.string ByteArray.empty,.int .i64 0,.slice none 0 0,.slice none 0 0],.slice none 0 0,.bool false]) c0)
 (0<=b9/\b9<((7:Nat):Int)/\
 ∃ g i j k,LdN c0 (Addr.add (⟨0,0,none⟩) (Int.toNat b9*4)) [.string g,.int .i64 i,.string j,.int .i64 k]/\
 ((0:Nat):Int)<=(3:Int)/\3<=(c:Int)/\
 Br (decide ((((c-3):Nat):Int)<i))
 (R (.tuple #[.agg #[.string ByteArray.empty,.int .i64 0,.slice none 0 0,.slice none 0 0],.slice none 0 0,.bool false]) c0)
 (((0:Nat):Int)<=i/\i<=(((d-3):Nat):Int)/\
 CallsU Tryz.prog 163 [.slice (if d=3 then b else Option.map (fun x=>Addr.add x (3*1)) b) (Int.toNat i) (d-3)] c0 fun e7 e8=>
 ∃ l m n,e7 = .slice l m n/\
 ((0:Nat):Int)<=i/\i<=(((c-3):Nat):Int)/\
 ∃ o:Nat->Int->ByteArray->Int->OA->Nat->Nat->OA->Nat->Nat->Heap->Prop,(∃ p,o p 0 ByteArray.empty 0 none 0 0 none 0 0 e8)/\
 ∀ (p:Nat) (c1:Int) (c2:ByteArray) (c3:Int) (c4:OA) (c5 c6:Nat) (c7:OA) (c8 c9:Nat) (d0:Heap),o p c1 c2 c3 c4 c5 c6 c7 c8 c9 d0->
 Br (decide (c1<(m:Int)))
 (∃ q:Addr,l=some q/\0<=c1/\c1<(m:Int)/\
 ∃ r,LdN d0 (Addr.add q (Int.toNat c1*1)) [.string r]/\
 CallsU Tryz.prog 114 [.string r] d0 fun e9 f0=>
 ∃ s,e9 = .bool s/\
 Br (!s)
 (R (.tuple #[.agg #[.string ByteArray.empty,.int .i64 0,.slice none 0 0,.slice none 0 0],.slice none 0 0,.bool false]) f0)
 (∀ b5:Int,b5=IntKind.i64.wrap (c1+1)->
 ∃ t,t<p/\o t b5 c2 c3 c4 c5 c6 c7 c8 c9 f0))
 (∃ u:OA->Nat->Nat->ByteArray->Int->OA->Nat->Nat->OA->Nat->Nat->Heap->Prop,(∀ (d1:OA) (d2 d3:Nat) (d4:ByteArray) (d5:Int) (d6:OA) (d7 d8:Nat) (d9:OA) (e0 e1:Nat) (e2:Heap),u d1 d2 d3 d4 d5 d6 d7 d8 d9 e0 e1 e2->
 CallsU Tryz.prog 164 [.slice d1 d2 d3,.int .i64 k] e2 fun f1 f2=>
 ∃ v w y z,f1 = .tuple #[.slice v w y,.bool z]/\
 ∃ a0:Addr,b=some a0/\0<=(0:Int)/\(0:Int)<(c:Int)/\
 ∃ a1,LdN f2 (Addr.add a0 (0*1)) [.string a1]/\
 R (.tuple #[.agg #[.string a1,.int .i64 b9,.slice l m n,.slice none 0 0],.slice v w y,.bool z]) f2)/\
 Br (!(j.toList==(⟨#[]⟩:ByteArray).toList))
 (Br ((((((c-3)-(Int.toNat i)):Nat):Int):Int)==0)
 (R (.tuple #[.agg #[.string ByteArray.empty,.int .i64 0,.slice none 0 0,.slice none 0 0],.slice none 0 0,.bool false]) d0)
 (∃ a2:Addr,(if (d-3)=(Int.toNat i) then (if d=3 then b else Option.map (fun x=>Addr.add x (3*1)) b) else Option.map (fun x=>Addr.add x ((Int.toNat i)*1)) (if d=3 then b else Option.map (fun x=>Addr.add x (3*1)) b))=some a2/\0<=(0:Int)/\(0:Int)<((((c-3)-(Int.toNat i)):Nat):Int)/\
 ∃ a3,LdN d0 (Addr.add a2 (0*1)) [.string a3]/\
 Br (!(a3.toList==j.toList))
 (R (.tuple #[.agg #[.string ByteArray.empty,.int .i64 0,.slice none 0 0,.slice none 0 0],.slice none 0 0,.bool false]) d0)
 (((0:Nat):Int)<=(1:Int)/\1<=((((c-3)-(Int.toNat i)):Nat):Int)/\
 u (if ((d-3)-(Int.toNat i))=1 then (if (d-3)=(Int.toNat i) then (if d=3 then b else Option.map (fun x=>Addr.add x (3*1)) b) else Option.map (fun x=>Addr.add x ((Int.toNat i)*1)) (if d=3 then b else Option.map (fun x=>Addr.add x (3*1)) b)) else Option.map (fun x=>Addr.add x (1*1)) (if (d-3)=(Int.toNat i) then (if d=3 then b else Option.map (fun x=>Addr.add x (3*1)) b) else Option.map (fun x=>Addr.add x ((Int.toNat i)*1)) (if d=3 then b else Option.map (fun x=>Addr.add x (3*1)) b))) (((c-3)-(Int.toNat i))-1) (((d-3)-(Int.toNat i))-1) c2 c3 c4 c5 c6 c7 c8 c9 d0)))
 (u (if (d-3)=(Int.toNat i) then (if d=3 then b else Option.map (fun x=>Addr.add x (3*1)) b) else Option.map (fun x=>Addr.add x ((Int.toNat i)*1)) (if d=3 then b else Option.map (fun x=>Addr.add x (3*1)) b)) ((c-3)-(Int.toNat i)) ((d-3)-(Int.toNat i)) c2 c3 c4 c5 c6 c7 c8 c9 d0)))))/\
 ∃ a4:Nat->Int->Heap->Prop,(∃ a5,a4 a5 1 b8)/\
 ∀ (a5:Nat) (e3:Int) (e4:Heap),a4 a5 e3 e4->
 Br (decide (e3<=6))
 (0<=e3/\e3<((7:Nat):Int)/\
 ∃ a6,LdN e4 (Addr.add (Addr.add (⟨0,0,none⟩) (Int.toNat e3*4)) 0) [.string a6]/\
 ∃ a7:Addr,b=some a7/\0<=(2:Int)/\(2:Int)<(c:Int)/\
 ∃ a8,LdN e4 (Addr.add a7 (2*1)) [.string a8]/\
 Br (!(a6.toList==a8.toList))
 (∀ b6:Int,b6=IntKind.i64.wrap (e3+1)->
 ∃ a9,a9<a5/\a4 a9 b6 e4)
 (f e3 e4))
 (f e3 e4)))/\
 Br (decide ((c:Int)<3))
 (e true e6)
 (∃ b0:Addr,b=some b0/\0<=(0:Int)/\(0:Int)<(c:Int)/\
 ∃ b1,LdN e6 (Addr.add b0 (0*1)) [.string b1]/\
 CallsU Tryz.prog 114 [.string b1] e6 fun f3 f4=>
 ∃ b2,f3 = .bool b2/\
 Br (!b2)
 (e true f4)
 (∃ b3:Addr,b=some b3/\0<=(1:Int)/\(1:Int)<(c:Int)/\
 ∃ b4,LdN f4 (Addr.add b3 (1*1)) [.string b4]/\
 e (!(b4.toList==(⟨#[61]⟩:ByteArray).toList)) f4))
theorem draft_divideLine_ok {a:ByteArray} {h:Heap} {R:Value->Heap->Prop} (hv:draft_divideLine_vc a h R):CallsU Tryz.prog 91 [.string a] h R:=
 fn_ok Tryz.func91 (fun _=>false) (.two .nil (.two .nil (.two (.cut ⟨[(31,Sh.bool)],[]⟩ .nil .nil) (.two .nil (.cut ⟨[(6,Sh.int .i64)],[]⟩ (.one (.loop ⟨[(6,Sh.int .i64)],[]⟩ (.two (.two (.ord [0,1,2,3,4,5,6,7,8,9,10,11]) .nil) .nil))) (.two .nil (.two .nil (.two .nil (.two .nil (.two .nil (.two .nil (.two (.two .nil (.one (.loop ⟨[(72,Sh.int .i64)],[(0,[Sh.str,Sh.int .i64,Sh.slice,Sh.slice])]⟩ .nil))) (.cut ⟨[(8,Sh.slice)],[(0,[Sh.str,Sh.int .i64,Sh.slice,Sh.slice])]⟩ (.two .nil (.two (.two (.two (.ord [0,1,2,3,4,5,6,7,8,9,10]) .nil) .nil) .nil)) .nil))))))))))))) hv
def formula_Parse_vc (a:ByteArray) (h:Heap) (R:Value->Heap->Prop):Prop:=
 Br (decide ((a.size:Int)>400))
 (R (.tuple #[.agg #[.int .i64 0,.bool false,.slice none 0 0,.slice none 0 0,.string ByteArray.empty,.slice none 0 0],.int .i64 5]) h)
 (∀ (u:Nat) (v:Heap),h u=none->v=Heap.put h u ⟨[.string ByteArray.empty,.int .i64 0],193,(0,0)⟩->
 ∃ b:Blk,v (Addr.block (⟨u,0,none⟩))=some b/\b.fz=(0,0)/\Addr.spot (⟨u,0,none⟩)=none/\Addr.off (⟨u,0,none⟩)+2<=b.cells.length/\
 ∀ t:Heap,t=Heap.put v (Addr.block (⟨u,0,none⟩)) { b with cells:=setSeg b.cells (Addr.off (⟨u,0,none⟩)) [.string a,.int .i64 0] }->
 CallsU Tryz.prog 165 [.pointer (some (⟨u,0,none⟩))] t fun z a0=>
 ∃ c d e f g i j k l m n o p,z = .tuple #[.agg #[.int .i64 c,.bool d,.slice e f g,.slice i j k,.string l,.slice m n o],.int .i64 p]/\
 ∃ q:Int->Heap->Prop,(∀ (w:Int) (y:Heap),q w y->
 Br ((w:Int)==0)
 (CallsU Tryz.prog 115 [.agg #[.int .i64 c,.bool d,.slice e f g,.slice i j k,.string l,.slice m n o]] y fun a1 a2=>
 ∃ r,a1 = .int .i64 r/\
 Br ((r:Int) != 0)
 (R (.tuple #[.agg #[.int .i64 0,.bool false,.slice none 0 0,.slice none 0 0,.string ByteArray.empty,.slice none 0 0],.int .i64 r]) a2)
 (R (.tuple #[.agg #[.int .i64 c,.bool d,.slice e f g,.slice i j k,.string l,.slice m n o],.int .i64 0]) a2))
 (Br ((w:Int) != 0)
 (R (.tuple #[.agg #[.int .i64 0,.bool false,.slice none 0 0,.slice none 0 0,.string ByteArray.empty,.slice none 0 0],.int .i64 w]) y)
 (R (.tuple #[.agg #[.int .i64 c,.bool d,.slice e f g,.slice i j k,.string l,.slice m n o],.int .i64 0]) y)))/\
 Br ((p:Int)==0)
 (CallsU Tryz.prog 166 [.pointer (some (⟨u,0,none⟩))] a0 fun a3 a4=>
 ∃ s,a3 = .string s/\
 Br (!(s.toList==(⟨#[]⟩:ByteArray).toList))
 (q 2 a4)
 (q p a4))
 (q p a0))
theorem formula_Parse_ok {a:ByteArray} {h:Heap} {R:Value->Heap->Prop} (hv:formula_Parse_vc a h R):CallsU Tryz.prog 92 [.string a] h R:=
 fn_ok Tryz.func92 (fun t=>Nat.beq t 4) (.two .nil (.two .nil (.two .nil (.two .nil (.cut ⟨[(6,Sh.int .i64)],[]⟩ .nil .nil))))) hv
def draft_defined_vc (a:OA) (b _c:Nat) (d:ByteArray) (h:Heap) (R:Value->Heap->Prop):Prop:=
 ∃ e:Nat->Int->Heap->Prop,(∃ f,e f 0 h)/\
 ∀ (f:Nat) (s:Int) (t:Heap),e f s t->
 Br (decide (s<(b:Int)))
 (∃ g:Addr,a=some g/\0<=s/\s<(b:Int)/\
 ∃ i j k l m n o p,LdN t (Addr.add g (Int.toNat s*4)) [.string i,.int .i64 j,.slice k l m,.slice n o p]/\
 Br (i.toList==d.toList)
 (R (.bool true) t)
 (∀ r:Int,r=IntKind.i64.wrap (s+1)->
 ∃ q,q<f/\e q r t))
 (R (.bool false) t)
theorem draft_defined_ok {a:OA} {b c:Nat} {d:ByteArray} {h:Heap} {R:Value->Heap->Prop} (hv:draft_defined_vc a b c d h R):CallsU Tryz.prog 93 [.slice a b c,.string d] h R:=
 fn_ok Tryz.func93 (fun _=>false) (.two .nil (.two (.two .nil (.one (.loop ⟨[(9,Sh.int .i64)],[]⟩ .nil))) .nil)) hv
def formula_Print_vc (a:Int) (b:Bool) (c:OA) (d e:Nat) (f:OA) (g i:Nat) (j:ByteArray) (k:OA) (l m:Nat) (h:Heap) (R:Value->Heap->Prop):Prop:=
 CallsU Tryz.prog 115 [.agg #[.int .i64 a,.bool b,.slice c d e,.slice f g i,.string j,.slice k l m]] h fun p q=>
 ∃ n,p = .int .i64 n/\
 Br ((n:Int) != 0)
 (R (.tuple #[.string (⟨#[]⟩:ByteArray),.int .i64 n]) q)
 (CallsU Tryz.prog 173 [.agg #[.int .i64 a,.bool b,.slice c d e,.slice f g i,.string j,.slice k l m]] q fun r s=>
 ∃ o,r = .string o/\
 Br (decide ((o.size:Int)>400))
 (R (.tuple #[.string (⟨#[]⟩:ByteArray),.int .i64 5]) s)
 (R (.tuple #[.string o,.int .i64 0]) s))
theorem formula_Print_ok {a:Int} {b:Bool} {c:OA} {d e:Nat} {f:OA} {g i:Nat} {j:ByteArray} {k:OA} {l m:Nat} {h:Heap} {R:Value->Heap->Prop} (hv:formula_Print_vc a b c d e f g i j k l m h R):CallsU Tryz.prog 102 [.agg #[.int .i64 a,.bool b,.slice c d e,.slice f g i,.string j,.slice k l m]] h R:=
 fn_ok Tryz.func102 (fun _=>false) .nil hv
def draft_isPoint_vc (a:ByteArray) (h:Heap) (R:Value->Heap->Prop):Prop:=
 ∃ b:Nat->Int->Heap->Prop,(∃ c,b c 0 h)/\
 ∀ (c:Nat) (k:Int) (l:Heap),b c k l->
 Br (decide (k<(a.size:Int)))
 (∃ d:UInt8,0<=k/\a[(Int.toNat k:Nat)]?=some d/\
 ∃ e:Bool->Heap->Prop,(∀ (m:Bool) (n:Heap),e m n->
 ∃ f:Bool->Heap->Prop,(∀ (o:Bool) (p:Heap),f o p->
 Br (!m)
 (Br ((k:Int)==0)
 (R (.bool false) p)
 (Br (!o)
 (R (.bool false) p)
 (∀ i:Int,i=IntKind.i64.wrap (k+1)->
 ∃ g,g<c/\b g i p)))
 (∀ j:Int,j=IntKind.i64.wrap (k+1)->
 ∃ g,g<c/\b g j p))/\
 Br (decide ((97:Int)<=(d.toNat:Int)))
 (Br (decide ((d.toNat:Int)<=122))
 (f true n)
 (Br (decide ((48:Int)<=(d.toNat:Int)))
 (f (decide ((d.toNat:Int)<=57)) n)
 (f false n)))
 (Br (decide ((48:Int)<=(d.toNat:Int)))
 (f (decide ((d.toNat:Int)<=57)) n)
 (f false n)))/\
 Br (decide ((65:Int)<=(d.toNat:Int)))
 (e (decide ((d.toNat:Int)<=90)) l)
 (e false l))
 (Br (decide ((1:Int)<=(a.size:Int)))
 (R (.bool (decide ((a.size:Int)<=8))) l)
 (R (.bool false) l))
theorem draft_isPoint_ok {a:ByteArray} {h:Heap} {R:Value->Heap->Prop} (hv:draft_isPoint_vc a h R):CallsU Tryz.prog 114 [.string a] h R:=
 fn_ok Tryz.func114 (fun _=>false) (.two .nil (.two (.two .nil (.one (.loop ⟨[(9,Sh.int .i64)],[]⟩ (.two .nil (.two .nil (.two (.one (.two .nil (.two .nil (.cut ⟨[(5,Sh.bool)],[]⟩ .nil (.cut ⟨[(6,Sh.bool)],[]⟩ .nil .nil))))) .nil)))))) .nil)) hv
def formula_Check_vc (a:Int) (b:Bool) (c:OA) (d e:Nat) (f:OA) (g i:Nat) (j:ByteArray) (k:OA) (l m:Nat) (h:Heap) (R:Value->Heap->Prop):Prop:=
 CallsU Tryz.prog 187 [.agg #[.int .i64 a,.bool b,.slice c d e,.slice f g i,.string j,.slice k l m],.int .i64 1] h fun o p=>
 ∃ n,o = .int .i64 n/\
 R (.int .i64 n) p
theorem formula_Check_ok {a:Int} {b:Bool} {c:OA} {d e:Nat} {f:OA} {g i:Nat} {j:ByteArray} {k:OA} {l m:Nat} {h:Heap} {R:Value->Heap->Prop} (hv:formula_Check_vc a b c d e f g i j k l m h R):CallsU Tryz.prog 115 [.agg #[.int .i64 a,.bool b,.slice c d e,.slice f g i,.string j,.slice k l m]] h R:=
 fn_ok Tryz.func115 (fun _=>false) .nil hv
def formula_eval_vc (a:Int) (b:Bool) (c:OA) (d e:Nat) (f:OA) (g i:Nat) (j:ByteArray) (k:OA) (l _m:Nat) (n:OA) (o p:Nat) (h:Heap) (R:Value->Heap->Prop):Prop:=
 0<=(l:Int)/\(l:Int)<=(l:Int)/\(l:Int)*56<=140737488355328/\(l:Int)<=9223372036854775807/\
 ∀ (q6:Nat) (q7:Heap),h q6=none->q7=Heap.put h q6 ⟨repV [.bool false,.slice none 0 0,.slice none 0 0] (Int.toNat (l:Int)),36,(0,0)⟩->
 ∃ q:Nat->Int->Bool->OA->Nat->Nat->OA->Nat->Nat->Heap->Prop,(∃ r,q r 0 false none 0 0 none 0 0 q7)/\
 ∀ (r:Nat) (q8:Int) (q9:Bool) (r0:OA) (r1 r2:Nat) (r3:OA) (r4 r5:Nat) (r6:Heap),q r q8 q9 r0 r1 r2 r3 r4 r5 r6->
 Br (decide (q8<(l:Int)))
 (∃ s:Addr,k=some s/\0<=q8/\q8<(l:Int)/\
 ∃ t u v w y z a0 a1 a2 a3 a4 a5,LdN r6 (Addr.add s (Int.toNat q8*6)) [.int .i64 t,.bool u,.slice v w y,.slice z a0 a1,.string a2,.slice a3 a4 a5]/\
 CallsU Tryz.prog 126 [.agg #[.int .i64 t,.bool u,.slice v w y,.slice z a0 a1,.string a2,.slice a3 a4 a5],.slice n o p] r6 fun r7 r8=>
 ∃ a6 a7 a8 a9 b0 b1 b2 b3,r7 = .tuple #[.agg #[.bool a6,.slice a7 a8 a9,.slice b0 b1 b2],.int .i64 b3]/\
 Br ((b3:Int) != 0)
 (R (.tuple #[.agg #[.bool false,.slice none 0 0,.slice none 0 0],.int .i64 b3]) r8)
 (∃ b4:Addr,some ⟨q6,0,none⟩=some b4/\0<=q8/\q8<(((Int.toNat (l:Int)):Nat):Int)/\
 ∃ b5:Blk,r8 (Addr.block (Addr.add b4 (Int.toNat q8*3)))=some b5/\b5.fz=(0,0)/\Addr.spot (Addr.add b4 (Int.toNat q8*3))=none/\Addr.off (Addr.add b4 (Int.toNat q8*3))+3<=b5.cells.length/\
 ∀ q4:Heap,q4=Heap.put r8 (Addr.block (Addr.add b4 (Int.toNat q8*3))) { b5 with cells:=setSeg b5.cells (Addr.off (Addr.add b4 (Int.toNat q8*3))) [.bool a6,.slice a7 a8 a9,.slice b0 b1 b2] }->
 ∀ q5:Int,q5=IntKind.i64.wrap (q8+1)->
 ∃ b6,b6<r/\q b6 q5 q9 r0 r1 r2 r3 r4 r5 q4))
 (Br ((a:Int)==1)
 (CallsU Tryz.prog 196 [.agg #[.bool b,.slice c d e,.slice f g i]] r6 fun r9 s0=>
 ∃ b7 b8 b9 c0 c1 c2 c3,r9 = .agg #[.bool b7,.slice b8 b9 c0,.slice c1 c2 c3]/\
 R (.tuple #[.agg #[.bool b7,.slice b8 b9 c0,.slice c1 c2 c3],.int .i64 0]) s0)
 (Br ((a:Int)==2)
 (CallsU Tryz.prog 197 [.slice n o p,.string j] r6 fun s1 s2=>
 ∃ c4 c5 c6 c7 c8 c9 d0 d1,s1 = .tuple #[.agg #[.bool c4,.slice c5 c6 c7,.slice c8 c9 d0],.int .i64 d1]/\
 R (.tuple #[.agg #[.bool c4,.slice c5 c6 c7,.slice c8 c9 d0],.int .i64 d1]) s2)
 (Br ((a:Int)==3)
 (∃ d2:Addr,some ⟨q6,0,none⟩=some d2/\0<=(0:Int)/\(0:Int)<(((Int.toNat (l:Int)):Nat):Int)/\
 ∃ d3 d4 d5 d6 d7 d8 d9,LdN r6 (Addr.add d2 (0*3)) [.bool d3,.slice d4 d5 d6,.slice d7 d8 d9]/\
 ∃ e0:Addr,some ⟨q6,0,none⟩=some e0/\0<=(1:Int)/\(1:Int)<(((Int.toNat (l:Int)):Nat):Int)/\
 ∃ e1 e2 e3 e4 e5 e6 e7,LdN r6 (Addr.add e0 (1*3)) [.bool e1,.slice e2 e3 e4,.slice e5 e6 e7]/\
 CallsU Tryz.prog 40 [.agg #[.bool d3,.slice d4 d5 d6,.slice d7 d8 d9],.agg #[.bool e1,.slice e2 e3 e4,.slice e5 e6 e7]] r6 fun s3 s4=>
 ∃ e8 e9 f0 f1 f2 f3 f4,s3 = .agg #[.bool e8,.slice e9 f0 f1,.slice f2 f3 f4]/\
 R (.tuple #[.agg #[.bool e8,.slice e9 f0 f1,.slice f2 f3 f4],.int .i64 0]) s4)
 (Br ((a:Int)==4)
 (∃ f5:Addr,some ⟨q6,0,none⟩=some f5/\0<=(0:Int)/\(0:Int)<(((Int.toNat (l:Int)):Nat):Int)/\
 ∃ f6 f7 f8 f9 g0 g1 g2,LdN r6 (Addr.add f5 (0*3)) [.bool f6,.slice f7 f8 f9,.slice g0 g1 g2]/\
 ∃ g3:Addr,some ⟨q6,0,none⟩=some g3/\0<=(1:Int)/\(1:Int)<(((Int.toNat (l:Int)):Nat):Int)/\
 ∃ g4 g5 g6 g7 g8 g9 i0,LdN r6 (Addr.add g3 (1*3)) [.bool g4,.slice g5 g6 g7,.slice g8 g9 i0]/\
 CallsU Tryz.prog 198 [.agg #[.bool f6,.slice f7 f8 f9,.slice g0 g1 g2],.agg #[.bool g4,.slice g5 g6 g7,.slice g8 g9 i0]] r6 fun s5 s6=>
 ∃ i1 i2 i3 i4 i5 i6 i7,s5 = .agg #[.bool i1,.slice i2 i3 i4,.slice i5 i6 i7]/\
 R (.tuple #[.agg #[.bool i1,.slice i2 i3 i4,.slice i5 i6 i7],.int .i64 0]) s6)
 (Br ((a:Int)==5)
 (∃ i8:Addr,some ⟨q6,0,none⟩=some i8/\0<=(0:Int)/\(0:Int)<(((Int.toNat (l:Int)):Nat):Int)/\
 ∃ i9 j0 j1 j2 j3 j4 j5,LdN r6 (Addr.add i8 (0*3)) [.bool i9,.slice j0 j1 j2,.slice j3 j4 j5]/\
 ∃ j6:Addr,some ⟨q6,0,none⟩=some j6/\0<=(1:Int)/\(1:Int)<(((Int.toNat (l:Int)):Nat):Int)/\
 ∃ j7 j8 j9 k0 k1 k2 k3,LdN r6 (Addr.add j6 (1*3)) [.bool j7,.slice j8 j9 k0,.slice k1 k2 k3]/\
 CallsU Tryz.prog 199 [.agg #[.bool i9,.slice j0 j1 j2,.slice j3 j4 j5],.agg #[.bool j7,.slice j8 j9 k0,.slice k1 k2 k3]] r6 fun s7 s8=>
 ∃ k4 k5 k6 k7 k8 k9 l0,s7 = .agg #[.bool k4,.slice k5 k6 k7,.slice k8 k9 l0]/\
 R (.tuple #[.agg #[.bool k4,.slice k5 k6 k7,.slice k8 k9 l0],.int .i64 0]) s8)
 (Br ((a:Int)==6)
 (∃ l1:Addr,some ⟨q6,0,none⟩=some l1/\0<=(0:Int)/\(0:Int)<(((Int.toNat (l:Int)):Nat):Int)/\
 ∃ l2 l3 l4 l5 l6 l7 l8,LdN r6 (Addr.add l1 (0*3)) [.bool l2,.slice l3 l4 l5,.slice l6 l7 l8]/\
 ∃ l9:Addr,some ⟨q6,0,none⟩=some l9/\0<=(1:Int)/\(1:Int)<(((Int.toNat (l:Int)):Nat):Int)/\
 ∃ m0 m1 m2 m3 m4 m5 m6,LdN r6 (Addr.add l9 (1*3)) [.bool m0,.slice m1 m2 m3,.slice m4 m5 m6]/\
 CallsU Tryz.prog 129 [.agg #[.bool l2,.slice l3 l4 l5,.slice l6 l7 l8],.agg #[.bool m0,.slice m1 m2 m3,.slice m4 m5 m6]] r6 fun s9 t0=>
 ∃ m7 m8 m9 n0 n1 n2 n3 n4,s9 = .tuple #[.agg #[.bool m7,.slice m8 m9 n0,.slice n1 n2 n3],.bool n4]/\
 Br (!n4)
 (R (.tuple #[.agg #[.bool false,.slice none 0 0,.slice none 0 0],.int .i64 10]) t0)
 (R (.tuple #[.agg #[.bool m7,.slice m8 m9 n0,.slice n1 n2 n3],.int .i64 0]) t0))
 (Br ((a:Int)==7)
 (∃ n5:Addr,some ⟨q6,0,none⟩=some n5/\0<=(0:Int)/\(0:Int)<(((Int.toNat (l:Int)):Nat):Int)/\
 ∃ n6 n7 n8 n9 o0 o1 o2,LdN r6 (Addr.add n5 (0*3)) [.bool n6,.slice n7 n8 n9,.slice o0 o1 o2]/\
 CallsU Tryz.prog 200 [.agg #[.bool n6,.slice n7 n8 n9,.slice o0 o1 o2]] r6 fun t1 t2=>
 ∃ o3 o4 o5 o6 o7 o8 o9,t1 = .agg #[.bool o3,.slice o4 o5 o6,.slice o7 o8 o9]/\
 R (.tuple #[.agg #[.bool o3,.slice o4 o5 o6,.slice o7 o8 o9],.int .i64 0]) t2)
 (Br ((a:Int)==8)
 (CallsU Tryz.prog 201 [.slice (some ⟨q6,0,none⟩) (Int.toNat (l:Int)) (Int.toNat (l:Int)),.int .i64 (-1)] r6 fun t3 t4=>
 ∃ p0 p1 p2 p3 p4 p5 p6,t3 = .agg #[.bool p0,.slice p1 p2 p3,.slice p4 p5 p6]/\
 R (.tuple #[.agg #[.bool p0,.slice p1 p2 p3,.slice p4 p5 p6],.int .i64 0]) t4)
 (CallsU Tryz.prog 201 [.slice (some ⟨q6,0,none⟩) (Int.toNat (l:Int)) (Int.toNat (l:Int)),.int .i64 1] r6 fun t5 t6=>
 ∃ p7 p8 p9 q0 q1 q2 q3,t5 = .agg #[.bool p7,.slice p8 p9 q0,.slice q1 q2 q3]/\
 R (.tuple #[.agg #[.bool p7,.slice p8 p9 q0,.slice q1 q2 q3],.int .i64 0]) t6)))))))))
theorem formula_eval_ok {a:Int} {b:Bool} {c:OA} {d e:Nat} {f:OA} {g i:Nat} {j:ByteArray} {k:OA} {l m:Nat} {n:OA} {o p:Nat} {h:Heap} {R:Value->Heap->Prop} (hv:formula_eval_vc a b c d e f g i j k l m n o p h R):CallsU Tryz.prog 126 [.agg #[.int .i64 a,.bool b,.slice c d e,.slice f g i,.string j,.slice k l m],.slice n o p] h R:=
 fn_ok Tryz.func126 (fun _=>false) (.two .nil (.two .nil (.two (.two .nil (.one (.loop ⟨[(20,Sh.int .i64)],[(1,[Sh.bool,Sh.slice,Sh.slice])]⟩ .nil))) (.two (.two .nil (.one (.two .nil (.two .nil (.two .nil (.two .nil (.two .nil (.two (.two (.ord [0,1,2,3,4,5,6,7,8]) .nil) (.two .nil (.two (.two (.ord [0,1,2,3,4,5,6,7,8]) .nil) (.two .nil (.two (.two (.ord [0,1,2,3,4,5,6,7,8]) .nil) (.two .nil (.two (.two (.ord [0,1,2,3,4,5,6,7,8,9,10,11,12]) .nil) .nil)))))))))))))) .nil)))) hv
def point_Scale_vc (a:Bool) (b:OA) (c d:Nat) (e:OA) (f g:Nat) (i:Bool) (j:OA) (k l:Nat) (m:OA) (n o:Nat) (p:Bool) (q:OA) (r s:Nat) (t:OA) (u v:Nat) (h:Heap) (R:Value->Heap->Prop):Prop:=
 CallsU Tryz.prog 199 [.agg #[.bool a,.slice b c d,.slice e f g],.agg #[.bool p,.slice q r s,.slice t u v]] h fun b1 b2=>
 ∃ w y z a0 a1 a2 a3,b1 = .agg #[.bool w,.slice y z a0,.slice a1 a2 a3]/\
 LeH h b2/\
 CallsU Tryz.prog 199 [.agg #[.bool i,.slice j k l,.slice m n o],.agg #[.bool p,.slice q r s,.slice t u v]] b2 fun b3 b4=>
 ∃ a4 a5 a6 a7 a8 a9 b0,b3 = .agg #[.bool a4,.slice a5 a6 a7,.slice a8 a9 b0]/\
 R (.agg #[.bool w,.slice y z a0,.slice a1 a2 a3,.bool a4,.slice a5 a6 a7,.slice a8 a9 b0]) b4
theorem point_Scale_ok {a:Bool} {b:OA} {c d:Nat} {e:OA} {f g:Nat} {i:Bool} {j:OA} {k l:Nat} {m:OA} {n o:Nat} {p:Bool} {q:OA} {r s:Nat} {t:OA} {u v:Nat} {h:Heap} {R:Value->Heap->Prop} (hv:point_Scale_vc a b c d e f g i j k l m n o p q r s t u v h R):CallsU Tryz.prog 127 [.agg #[.bool a,.slice b c d,.slice e f g,.bool i,.slice j k l,.slice m n o],.agg #[.bool p,.slice q r s,.slice t u v]] h R:=
 fn_ok Tryz.func127 (fun _=>false) (.two .nil (.two (.ord [0,1,2,4,5,6,3,7,8,9]) .nil)) hv
def point_Sub_vc (a:Bool) (b:OA) (c d:Nat) (e:OA) (f g:Nat) (i:Bool) (j:OA) (k l:Nat) (m:OA) (n o:Nat) (p:Bool) (q:OA) (r s:Nat) (t:OA) (u v:Nat) (w:Bool) (y:OA) (z a0:Nat) (a1:OA) (a2 a3:Nat) (h:Heap) (R:Value->Heap->Prop):Prop:=
 CallsU Tryz.prog 198 [.agg #[.bool a,.slice b c d,.slice e f g],.agg #[.bool p,.slice q r s,.slice t u v]] h fun b8 b9=>
 ∃ a4 a5 a6 a7 a8 a9 b0,b8 = .agg #[.bool a4,.slice a5 a6 a7,.slice a8 a9 b0]/\
 LeH h b9/\
 CallsU Tryz.prog 198 [.agg #[.bool i,.slice j k l,.slice m n o],.agg #[.bool w,.slice y z a0,.slice a1 a2 a3]] b9 fun c0 c1=>
 ∃ b1 b2 b3 b4 b5 b6 b7,c0 = .agg #[.bool b1,.slice b2 b3 b4,.slice b5 b6 b7]/\
 R (.agg #[.bool a4,.slice a5 a6 a7,.slice a8 a9 b0,.bool b1,.slice b2 b3 b4,.slice b5 b6 b7]) c1
theorem point_Sub_ok {a:Bool} {b:OA} {c d:Nat} {e:OA} {f g:Nat} {i:Bool} {j:OA} {k l:Nat} {m:OA} {n o:Nat} {p:Bool} {q:OA} {r s:Nat} {t:OA} {u v:Nat} {w:Bool} {y:OA} {z a0:Nat} {a1:OA} {a2 a3:Nat} {h:Heap} {R:Value->Heap->Prop} (hv:point_Sub_vc a b c d e f g i j k l m n o p q r s t u v w y z a0 a1 a2 a3 h R):CallsU Tryz.prog 128 [.agg #[.bool a,.slice b c d,.slice e f g,.bool i,.slice j k l,.slice m n o],.agg #[.bool p,.slice q r s,.slice t u v,.bool w,.slice y z a0,.slice a1 a2 a3]] h R:=
 fn_ok Tryz.func128 (fun _=>false) (.two .nil (.two (.ord [0,1,2,3,5,6,7,8,4,9,10,11]) .nil)) hv
def point_Cross_vc (a:Bool) (b:OA) (c d:Nat) (e:OA) (f g:Nat) (i:Bool) (j:OA) (k l:Nat) (m:OA) (n o:Nat) (p:Bool) (q:OA) (r s:Nat) (t:OA) (u v:Nat) (w:Bool) (y:OA) (z a0:Nat) (a1:OA) (a2 a3:Nat) (h:Heap) (R:Value->Heap->Prop):Prop:=
 CallsU Tryz.prog 199 [.agg #[.bool a,.slice b c d,.slice e f g],.agg #[.bool w,.slice y z a0,.slice a1 a2 a3]] h fun c5 c6=>
 ∃ a4 a5 a6 a7 a8 a9 b0,c5 = .agg #[.bool a4,.slice a5 a6 a7,.slice a8 a9 b0]/\
 LeH h c6/\
 CallsU Tryz.prog 199 [.agg #[.bool i,.slice j k l,.slice m n o],.agg #[.bool p,.slice q r s,.slice t u v]] c6 fun c7 c8=>
 ∃ b1 b2 b3 b4 b5 b6 b7,c7 = .agg #[.bool b1,.slice b2 b3 b4,.slice b5 b6 b7]/\
 CallsU Tryz.prog 198 [.agg #[.bool a4,.slice a5 a6 a7,.slice a8 a9 b0],.agg #[.bool b1,.slice b2 b3 b4,.slice b5 b6 b7]] c8 fun c9 d0=>
 ∃ b8 b9 c0 c1 c2 c3 c4,c9 = .agg #[.bool b8,.slice b9 c0 c1,.slice c2 c3 c4]/\
 R (.agg #[.bool b8,.slice b9 c0 c1,.slice c2 c3 c4]) d0
theorem point_Cross_ok {a:Bool} {b:OA} {c d:Nat} {e:OA} {f g:Nat} {i:Bool} {j:OA} {k l:Nat} {m:OA} {n o:Nat} {p:Bool} {q:OA} {r s:Nat} {t:OA} {u v:Nat} {w:Bool} {y:OA} {z a0:Nat} {a1:OA} {a2 a3:Nat} {h:Heap} {R:Value->Heap->Prop} (hv:point_Cross_vc a b c d e f g i j k l m n o p q r s t u v w y z a0 a1 a2 a3 h R):CallsU Tryz.prog 130 [.agg #[.bool a,.slice b c d,.slice e f g,.bool i,.slice j k l,.slice m n o],.agg #[.bool p,.slice q r s,.slice t u v,.bool w,.slice y z a0,.slice a1 a2 a3]] h R:=
 fn_ok Tryz.func130 (fun _=>false) (.two .nil (.two (.ord [0,1,2,3,5,6,7,8,4,9,10,11]) .nil)) hv
def point_Dot_vc (a:Bool) (b:OA) (c d:Nat) (e:OA) (f g:Nat) (i:Bool) (j:OA) (k l:Nat) (m:OA) (n o:Nat) (p:Bool) (q:OA) (r s:Nat) (t:OA) (u v:Nat) (w:Bool) (y:OA) (z a0:Nat) (a1:OA) (a2 a3:Nat) (h:Heap) (R:Value->Heap->Prop):Prop:=
 CallsU Tryz.prog 199 [.agg #[.bool a,.slice b c d,.slice e f g],.agg #[.bool p,.slice q r s,.slice t u v]] h fun c5 c6=>
 ∃ a4 a5 a6 a7 a8 a9 b0,c5 = .agg #[.bool a4,.slice a5 a6 a7,.slice a8 a9 b0]/\
 LeH h c6/\
 CallsU Tryz.prog 199 [.agg #[.bool i,.slice j k l,.slice m n o],.agg #[.bool w,.slice y z a0,.slice a1 a2 a3]] c6 fun c7 c8=>
 ∃ b1 b2 b3 b4 b5 b6 b7,c7 = .agg #[.bool b1,.slice b2 b3 b4,.slice b5 b6 b7]/\
 CallsU Tryz.prog 40 [.agg #[.bool a4,.slice a5 a6 a7,.slice a8 a9 b0],.agg #[.bool b1,.slice b2 b3 b4,.slice b5 b6 b7]] c8 fun c9 d0=>
 ∃ b8 b9 c0 c1 c2 c3 c4,c9 = .agg #[.bool b8,.slice b9 c0 c1,.slice c2 c3 c4]/\
 R (.agg #[.bool b8,.slice b9 c0 c1,.slice c2 c3 c4]) d0
theorem point_Dot_ok {a:Bool} {b:OA} {c d:Nat} {e:OA} {f g:Nat} {i:Bool} {j:OA} {k l:Nat} {m:OA} {n o:Nat} {p:Bool} {q:OA} {r s:Nat} {t:OA} {u v:Nat} {w:Bool} {y:OA} {z a0:Nat} {a1:OA} {a2 a3:Nat} {h:Heap} {R:Value->Heap->Prop} (hv:point_Dot_vc a b c d e f g i j k l m n o p q r s t u v w y z a0 a1 a2 a3 h R):CallsU Tryz.prog 131 [.agg #[.bool a,.slice b c d,.slice e f g,.bool i,.slice j k l,.slice m n o],.agg #[.bool p,.slice q r s,.slice t u v,.bool w,.slice y z a0,.slice a1 a2 a3]] h R:=
 fn_ok Tryz.func131 (fun _=>false) (.two .nil (.two (.ord [0,1,2,3,5,6,7,8,4,9,10,11]) .nil)) hv
def draft_divideFormulas_vc (a:OA) (b c:Nat) (d:Int) (h:Heap) (R:Value->Heap->Prop):Prop:=
 ∃ e:Bool->Heap->Prop,(∀ (u:Bool) (v:Heap),e u v->
 Br (u)
 (∃ f:OA->Nat->Nat->Bool->Heap->Prop,(∀ (w:OA) (y z:Nat) (a0:Bool) (a1:Heap),f w y z a0 a1->
 R (.tuple #[.slice w y z,.bool a0]) a1)/\
 Br ((d:Int)==0)
 (f none 0 0 ((b:Int)==0) v)
 (f none 0 0 false v))
 (CallsU Tryz.prog 103 [.slice a b c,.string (⟨#[32]⟩:ByteArray)] v fun b0 b1=>
 ∃ g,b0 = .string g/\
 Br ((d:Int)==1)
 (∀ (a2:Nat) (a3:Heap),b1 a2=none->a3=Heap.put b1 a2 ⟨[.string g],9,(0,0)⟩->
 R (.tuple #[.slice (some ⟨a2,0,none⟩) 1 1,.bool true]) a3)
 (∃ i:Nat->Int->Int->Heap->Prop,(∃ j,i j 0 0 b1)/\
 ∀ (j:Nat) (a4:Int) (a5:Int) (a6:Heap),i j a4 a5 a6->
 Br (decide (a5<(g.size:Int)))
 (∃ k:Heap->Prop,(∀  (a7:Heap),k a7->
 ∃ l:UInt8,0<=a5/\g[(Int.toNat a5:Nat)]?=some l/\
 Br ((l.toNat:Int)==40)
 (∀ o:Int,o=IntKind.i64.wrap (a4+1)->
 ∀ p:Int,p=IntKind.i64.wrap (a5+1)->
 ∃ m,m<j/\i m o p a7)
 (Br ((l.toNat:Int)==41)
 (∀ q:Int,q=IntKind.i64.wrap (a4-1)->
 ∀ r:Int,r=IntKind.i64.wrap (a5+1)->
 ∃ m,m<j/\i m q r a7)
 (∀ s:Int,s=IntKind.i64.wrap (a5+1)->
 ∃ m,m<j/\i m a4 s a7)))/\
 Br ((a4:Int)==0)
 (((0:Nat):Int)<=a5/\a5<=(g.size:Int)/\
 CallsU Tryz.prog 204 [.string (ByteArray.extract g (Int.toNat a5) g.size),.string (⟨#[32,44,32]⟩:ByteArray)] a6 fun b2 b3=>
 ∃ n,b2 = .bool n/\
 Br (n)
 (((0:Nat):Int)<=a5/\a5<=(g.size:Int)/\
 ∀ t:Int,t=IntKind.i64.wrap (a5+3)->
 ((0:Nat):Int)<=t/\t<=(g.size:Int)/\
 ∀ (a8:Nat) (a9:Heap),b3 a8=none->a9=Heap.put b3 a8 ⟨[.string (ByteArray.extract g 0 (Int.toNat a5)),.string (ByteArray.extract g (Int.toNat t) g.size)],9,(0,0)⟩->
 R (.tuple #[.slice (some ⟨a8,0,none⟩) 2 2,.bool true]) a9)
 (k b3))
 (k a6))
 (R (.tuple #[.slice none 0 0,.bool false]) a6))))/\
 Br ((d:Int)==0)
 (e true h)
 (e ((b:Int)==0) h)
theorem draft_divideFormulas_ok {a:OA} {b c:Nat} {d:Int} {h:Heap} {R:Value->Heap->Prop} (hv:draft_divideFormulas_vc a b c d h R):CallsU Tryz.prog 164 [.slice a b c,.int .i64 d] h R:=
 fn_ok Tryz.func164 (fun _=>false) (.two .nil (.two (.cut ⟨[(15,Sh.bool)],[]⟩ .nil (.two (.cut ⟨[(4,Sh.slice),(5,Sh.bool)],[]⟩ .nil .nil) .nil)) (.two .nil (.two .nil (.two .nil (.two (.two .nil (.one (.loop ⟨[(7,Sh.int .i64),(31,Sh.int .i64)],[]⟩ (.two .nil (.two .nil (.two (.one (.two .nil (.cut ⟨[],[]⟩ (.two .nil (.two (.two (.ord [0,1,2,3,4,5,6,7,8,9]) .nil) .nil)) .nil))) .nil)))))) .nil)))))) hv
def garment_formula_parser_sum_vc (a:Addr) (h:Heap) (R:Value->Heap->Prop):Prop:=
 CallsU Tryz.prog 222 [.pointer (some a)] h fun f1 f2=>
 ∃ b c d e f g i j k l m n o,f1 = .tuple #[.agg #[.int .i64 b,.bool c,.slice d e f,.slice g i j,.string k,.slice l m n],.int .i64 o]/\
 ∃ p:Nat->Int->Int->Bool->OA->Nat->Nat->OA->Nat->Nat->ByteArray->OA->Nat->Nat->Int->Bool->OA->Nat->Nat->OA->Nat->Nat->ByteArray->OA->Nat->Nat->Heap->Prop,(∃ q,p q o 0 false none 0 0 none 0 0 ByteArray.empty none 0 0 b c d e f g i j k l m n f2)/\
 ∀ (q:Nat) (a9:Int) (b0:Int) (b1:Bool) (b2:OA) (b3 b4:Nat) (b5:OA) (b6 b7:Nat) (b8:ByteArray) (b9:OA) (c0 c1:Nat) (c2:Int) (c3:Bool) (c4:OA) (c5 c6:Nat) (c7:OA) (c8 c9:Nat) (d0:ByteArray) (d1:OA) (d2 d3:Nat) (d4:Heap),p q a9 b0 b1 b2 b3 b4 b5 b6 b7 b8 b9 c0 c1 c2 c3 c4 c5 c6 c7 c8 c9 d0 d1 d2 d3 d4->
 Br ((a9:Int)==0)
 (∃ r:Int->Int->Bool->OA->Nat->Nat->OA->Nat->Nat->ByteArray->OA->Nat->Nat->Heap->Prop,(∀ (d5:Int) (d6:Int) (d7:Bool) (d8:OA) (d9 e0:Nat) (e1:OA) (e2 e3:Nat) (e4:ByteArray) (e5:OA) (e6 e7:Nat) (e8:Heap),r d5 d6 d7 d8 d9 e0 e1 e2 e3 e4 e5 e6 e7 e8->
 CallsU Tryz.prog 223 [.pointer (some a)] e8 fun f3 f4=>
 ∃ s,f3 = .string s/\
 CallsU Tryz.prog 222 [.pointer (some a)] f4 fun f5 f6=>
 ∃ t u v w y z a0 a1 a2 a3 a4 a5 a6,f5 = .tuple #[.agg #[.int .i64 t,.bool u,.slice v w y,.slice z a0 a1,.string a2,.slice a3 a4 a5],.int .i64 a6]/\
 ∀ (e9:Nat) (f0:Heap),f6 e9=none->f0=Heap.put f6 e9 ⟨[.int .i64 c2,.bool c3,.slice c4 c5 c6,.slice c7 c8 c9,.string d0,.slice d1 d2 d3,.int .i64 t,.bool u,.slice v w y,.slice z a0 a1,.string a2,.slice a3 a4 a5],39,(0,0)⟩->
 ∃ a7,a7<q/\p a7 a6 d6 d7 d8 d9 e0 e1 e2 e3 e4 e5 e6 e7 d5 false none 0 0 none 0 0 ByteArray.empty (some ⟨e9,0,none⟩) 2 2 f0)/\
 CallsU Tryz.prog 166 [.pointer (some a)] d4 fun f7 f8=>
 ∃ a8,f7 = .string a8/\
 Br (a8.toList==(⟨#[43]⟩:ByteArray).toList)
 (r 3 b0 b1 b2 b3 b4 b5 b6 b7 b8 b9 c0 c1 f8)
 (Br (a8.toList==(⟨#[45]⟩:ByteArray).toList)
 (r 4 b0 b1 b2 b3 b4 b5 b6 b7 b8 b9 c0 c1 f8)
 (R (.tuple #[.agg #[.int .i64 c2,.bool c3,.slice c4 c5 c6,.slice c7 c8 c9,.string d0,.slice d1 d2 d3],.int .i64 0]) f8)))
 (R (.tuple #[.agg #[.int .i64 0,.bool false,.slice none 0 0,.slice none 0 0,.string ByteArray.empty,.slice none 0 0],.int .i64 a9]) d4)
theorem garment_formula_parser_sum_ok {a:Addr} {h:Heap} {R:Value->Heap->Prop} (hv:garment_formula_parser_sum_vc a h R):CallsU Tryz.prog 165 [.pointer (some a)] h R:=
 fn_ok Tryz.func165 (fun _=>false) (.two .nil (.two .nil (.two (.one (.loop ⟨[(5,Sh.int .i64)],[(0,[Sh.int .i64,Sh.bool,Sh.slice,Sh.slice,Sh.str,Sh.slice]),(1,[Sh.int .i64,Sh.bool,Sh.slice,Sh.slice,Sh.str,Sh.slice])]⟩ (.two .nil (.one (.two .nil (.cut ⟨[(6,Sh.int .i64)],[(0,[Sh.int .i64,Sh.bool,Sh.slice,Sh.slice,Sh.str,Sh.slice])]⟩ .nil .nil)))))) .nil))) hv
def garment_formula_parser_next_vc (a:Addr) (h:Heap) (R:Value->Heap->Prop):Prop:=
 ∃ b:Heap->Prop,(∀  (a6:Heap),b a6->
 ∃ c,LdN a6 (Addr.add a 1) [.int .i64 c]/\
 ∃ d:Int->Heap->Prop,(∀ (a7:Int) (a8:Heap),d a7 a8->
 ∃ e:Int->Heap->Prop,(∀ (a9:Int) (b0:Heap),e a9 b0->
 ∃ f,LdN b0 (Addr.add a 0) [.string f]/\
 ∃ g,LdN b0 (Addr.add a 1) [.int .i64 g]/\
 ((0:Nat):Int)<=a9/\a9<=(f.size:Int)/\
 ((0:Nat):Int)<=g/\g<=(((Int.toNat a9):Nat):Int)/\
 R (.string (ByteArray.extract f (Int.toNat g) (Int.toNat a9))) b0)/\
 ∃ i,LdN a8 (Addr.add a 1) [.int .i64 i]/\
 Br ((a7:Int)==i)
 (∃ j,LdN a8 (Addr.add a 0) [.string j]/\
 Br (decide (a7<(j.size:Int)))
 (∀ a2:Int,a2=IntKind.i64.wrap (a7+1)->
 e a2 a8)
 (e a7 a8))
 (e a7 a8))/\
 ∃ k:Nat->Int->Heap->Prop,(∃ l,k l c a6)/\
 ∀ (l:Nat) (b1:Int) (b2:Heap),k l b1 b2->
 ∃ m,LdN b2 (Addr.add a 0) [.string m]/\
 Br (decide (b1<(m.size:Int)))
 (∃ n,LdN b2 (Addr.add a 0) [.string n]/\
 ∃ o:UInt8,0<=b1/\n[(Int.toNat b1:Nat)]?=some o/\
 CallsU Tryz.prog 224 [.string (⟨#[43,45,42,47,40,41,44,32]⟩:ByteArray),.int .u8 (o.toNat:Int)] b2 fun b4 b5=>
 ∃ p,b4 = .int .i64 p/\
 Br (decide (p<0))
 (∀ a3:Int,a3=IntKind.i64.wrap (b1+1)->
 ∃ q,q<l/\k q a3 b5)
 (d b1 b5))
 (d b1 b2))/\
 ∃ r:Nat->Heap->Prop,(∃ s,r s h)/\
 ∀ (s:Nat)  (b3:Heap),r s b3->
 ∃ t,LdN b3 (Addr.add a 1) [.int .i64 t]/\
 ∃ u,LdN b3 (Addr.add a 0) [.string u]/\
 Br (decide (t<(u.size:Int)))
 (∃ v,LdN b3 (Addr.add a 0) [.string v]/\
 ∃ w,LdN b3 (Addr.add a 1) [.int .i64 w]/\
 ∃ y:UInt8,0<=w/\v[(Int.toNat w:Nat)]?=some y/\
 Br ((y.toNat:Int)==32)
 (∃ z,LdN b3 (Addr.add a 1) [.int .i64 z]/\
 ∀ a4:Int,a4=IntKind.i64.wrap (z+1)->
 ∃ a0:Blk,b3 (Addr.block (Addr.add a 1))=some a0/\a0.fz=(0,0)/\Addr.spot (Addr.add a 1)=none/\Addr.off (Addr.add a 1)+1<=a0.cells.length/\
 ∀ a5:Heap,a5=Heap.put b3 (Addr.block (Addr.add a 1)) { a0 with cells:=setSeg a0.cells (Addr.off (Addr.add a 1)) [.int .i64 a4] }->
 ∃ a1,a1<s/\r a1 a5)
 (b b3))
 (b b3)
theorem garment_formula_parser_next_ok {a:Addr} {h:Heap} {R:Value->Heap->Prop} (hv:garment_formula_parser_next_vc a h R):CallsU Tryz.prog 166 [.pointer (some a)] h R:=
 fn_ok Tryz.func166 (fun _=>false) (.two .nil (.cut ⟨[],[]⟩ (.one (.loop ⟨[],[]⟩ (.two (.two (.ord [0,1,2,3,4,5,6,7,8,9,10,11,12,13,14,15,16,17,18,19,20,21]) .nil) .nil))) (.two .nil (.cut ⟨[(3,Sh.int .i64)],[]⟩ (.one (.loop ⟨[(3,Sh.int .i64)],[]⟩ .nil)) (.cut ⟨[(3,Sh.int .i64)],[]⟩ .nil (.two (.ord [0,1,2,3,4,5,6,7,8,9,10]) .nil)))))) hv
def formula_text_vc (a:Int) (b:Bool) (c:OA) (d e:Nat) (f:OA) (g i:Nat) (j:ByteArray) (k:OA) (l _m:Nat) (h:Heap) (R:Value->Heap->Prop):Prop:=
 Br ((a:Int)==1)
 (CallsU Tryz.prog 229 [.agg #[.bool b,.slice c d e,.slice f g i]] h fun q1 q2=>
 ∃ n,q1 = .string n/\
 R (.string n) q2)
 (Br ((a:Int)==2)
 (R (.string j) h)
 (Br ((a:Int)==3)
 (∃ o:Addr,k=some o/\0<=(0:Int)/\(0:Int)<(l:Int)/\
 ∃ p q r s t u v w y z a0 a1,LdN h (Addr.add o (0*6)) [.int .i64 p,.bool q,.slice r s t,.slice u v w,.string y,.slice z a0 a1]/\
 ∃ a2:Addr,k=some a2/\0<=(1:Int)/\(1:Int)<(l:Int)/\
 ∃ a3 a4 a5 a6 a7 a8 a9 b0 b1 b2 b3 b4,LdN h (Addr.add a2 (1*6)) [.int .i64 a3,.bool a4,.slice a5 a6 a7,.slice a8 a9 b0,.string b1,.slice b2 b3 b4]/\
 CallsU Tryz.prog 230 [.agg #[.int .i64 p,.bool q,.slice r s t,.slice u v w,.string y,.slice z a0 a1],.int .i64 0] h fun q3 q4=>
 ∃ b5,q3 = .string b5/\
 LeH h q4/\
 ((b5.size+(⟨#[32,43,32]⟩:ByteArray).size:Nat):Int)<=9223372036854775807/\
 CallsU Tryz.prog 230 [.agg #[.int .i64 a3,.bool a4,.slice a5 a6 a7,.slice a8 a9 b0,.string b1,.slice b2 b3 b4],.int .i64 1] q4 fun q5 q6=>
 ∃ b6,q5 = .string b6/\
 (((b5++(⟨#[32,43,32]⟩:ByteArray)).size+b6.size:Nat):Int)<=9223372036854775807/\
 R (.string ((b5++(⟨#[32,43,32]⟩:ByteArray))++b6)) q6)
 (Br ((a:Int)==4)
 (∃ b7:Addr,k=some b7/\0<=(0:Int)/\(0:Int)<(l:Int)/\
 ∃ b8 b9 c0 c1 c2 c3 c4 c5 c6 c7 c8 c9,LdN h (Addr.add b7 (0*6)) [.int .i64 b8,.bool b9,.slice c0 c1 c2,.slice c3 c4 c5,.string c6,.slice c7 c8 c9]/\
 ∃ d0:Addr,k=some d0/\0<=(1:Int)/\(1:Int)<(l:Int)/\
 ∃ d1 d2 d3 d4 d5 d6 d7 d8 d9 e0 e1 e2,LdN h (Addr.add d0 (1*6)) [.int .i64 d1,.bool d2,.slice d3 d4 d5,.slice d6 d7 d8,.string d9,.slice e0 e1 e2]/\
 CallsU Tryz.prog 230 [.agg #[.int .i64 b8,.bool b9,.slice c0 c1 c2,.slice c3 c4 c5,.string c6,.slice c7 c8 c9],.int .i64 0] h fun q7 q8=>
 ∃ e3,q7 = .string e3/\
 LeH h q8/\
 ((e3.size+(⟨#[32,45,32]⟩:ByteArray).size:Nat):Int)<=9223372036854775807/\
 CallsU Tryz.prog 230 [.agg #[.int .i64 d1,.bool d2,.slice d3 d4 d5,.slice d6 d7 d8,.string d9,.slice e0 e1 e2],.int .i64 1] q8 fun q9 r0=>
 ∃ e4,q9 = .string e4/\
 (((e3++(⟨#[32,45,32]⟩:ByteArray)).size+e4.size:Nat):Int)<=9223372036854775807/\
 R (.string ((e3++(⟨#[32,45,32]⟩:ByteArray))++e4)) r0)
 (Br ((a:Int)==5)
 (∃ e5:Addr,k=some e5/\0<=(0:Int)/\(0:Int)<(l:Int)/\
 ∃ e6 e7 e8 e9 f0 f1 f2 f3 f4 f5 f6 f7,LdN h (Addr.add e5 (0*6)) [.int .i64 e6,.bool e7,.slice e8 e9 f0,.slice f1 f2 f3,.string f4,.slice f5 f6 f7]/\
 ∃ f8:Addr,k=some f8/\0<=(1:Int)/\(1:Int)<(l:Int)/\
 ∃ f9 g0 g1 g2 g3 g4 g5 g6 g7 g8 g9 i0,LdN h (Addr.add f8 (1*6)) [.int .i64 f9,.bool g0,.slice g1 g2 g3,.slice g4 g5 g6,.string g7,.slice g8 g9 i0]/\
 CallsU Tryz.prog 230 [.agg #[.int .i64 e6,.bool e7,.slice e8 e9 f0,.slice f1 f2 f3,.string f4,.slice f5 f6 f7],.int .i64 1] h fun r1 r2=>
 ∃ i1,r1 = .string i1/\
 LeH h r2/\
 ((i1.size+(⟨#[32,42,32]⟩:ByteArray).size:Nat):Int)<=9223372036854775807/\
 CallsU Tryz.prog 230 [.agg #[.int .i64 f9,.bool g0,.slice g1 g2 g3,.slice g4 g5 g6,.string g7,.slice g8 g9 i0],.int .i64 2] r2 fun r3 r4=>
 ∃ i2,r3 = .string i2/\
 (((i1++(⟨#[32,42,32]⟩:ByteArray)).size+i2.size:Nat):Int)<=9223372036854775807/\
 R (.string ((i1++(⟨#[32,42,32]⟩:ByteArray))++i2)) r4)
 (Br ((a:Int)==6)
 (∃ i3:Addr,k=some i3/\0<=(0:Int)/\(0:Int)<(l:Int)/\
 ∃ i4 i5 i6 i7 i8 i9 j0 j1 j2 j3 j4 j5,LdN h (Addr.add i3 (0*6)) [.int .i64 i4,.bool i5,.slice i6 i7 i8,.slice i9 j0 j1,.string j2,.slice j3 j4 j5]/\
 ∃ j6:Addr,k=some j6/\0<=(1:Int)/\(1:Int)<(l:Int)/\
 ∃ j7 j8 j9 k0 k1 k2 k3 k4 k5 k6 k7 k8,LdN h (Addr.add j6 (1*6)) [.int .i64 j7,.bool j8,.slice j9 k0 k1,.slice k2 k3 k4,.string k5,.slice k6 k7 k8]/\
 CallsU Tryz.prog 230 [.agg #[.int .i64 i4,.bool i5,.slice i6 i7 i8,.slice i9 j0 j1,.string j2,.slice j3 j4 j5],.int .i64 1] h fun r5 r6=>
 ∃ k9,r5 = .string k9/\
 LeH h r6/\
 ((k9.size+(⟨#[32,47,32]⟩:ByteArray).size:Nat):Int)<=9223372036854775807/\
 CallsU Tryz.prog 230 [.agg #[.int .i64 j7,.bool j8,.slice j9 k0 k1,.slice k2 k3 k4,.string k5,.slice k6 k7 k8],.int .i64 2] r6 fun r7 r8=>
 ∃ l0,r7 = .string l0/\
 (((k9++(⟨#[32,47,32]⟩:ByteArray)).size+l0.size:Nat):Int)<=9223372036854775807/\
 R (.string ((k9++(⟨#[32,47,32]⟩:ByteArray))++l0)) r8)
 (Br ((a:Int)==7)
 (∃ l1:Addr,k=some l1/\0<=(0:Int)/\(0:Int)<(l:Int)/\
 ∃ l2 l3 l4 l5 l6 l7 l8 l9 m0 m1 m2 m3,LdN h (Addr.add l1 (0*6)) [.int .i64 l2,.bool l3,.slice l4 l5 l6,.slice l7 l8 l9,.string m0,.slice m1 m2 m3]/\
 CallsU Tryz.prog 230 [.agg #[.int .i64 l2,.bool l3,.slice l4 l5 l6,.slice l7 l8 l9,.string m0,.slice m1 m2 m3],.int .i64 2] h fun r9 s0=>
 ∃ m4,r9 = .string m4/\
 (((⟨#[45]⟩:ByteArray).size+m4.size:Nat):Int)<=9223372036854775807/\
 R (.string ((⟨#[45]⟩:ByteArray)++m4)) s0)
 (∃ m5:Nat->OA->Nat->Nat->Int->Heap->Prop,(∃ m6,m5 m6 none 0 0 0 h)/\
 ∀ (m6:Nat) (o9:OA) (p0 p1:Nat) (p2:Int) (p3:Heap),m5 m6 o9 p0 p1 p2 p3->
 Br (decide (p2<(l:Int)))
 (∃ m7:Addr,k=some m7/\0<=p2/\p2<(l:Int)/\
 ∃ m8 m9 n0 n1 n2 n3 n4 n5 n6 n7 n8 n9,LdN p3 (Addr.add m7 (Int.toNat p2*6)) [.int .i64 m8,.bool m9,.slice n0 n1 n2,.slice n3 n4 n5,.string n6,.slice n7 n8 n9]/\
 CallsU Tryz.prog 173 [.agg #[.int .i64 m8,.bool m9,.slice n0 n1 n2,.slice n3 n4 n5,.string n6,.slice n7 n8 n9]] p3 fun s1 s2=>
 ∃ o0,s1 = .string o0/\
 ∀ (p4:Nat) (p5:Heap),s2 p4=none->p5=Heap.put s2 p4 ⟨[.string o0],9,(0,0)⟩->
 ∃ o1:List Value,RdS p5 (some ⟨p4,0,none⟩) (1*1) o1/\(∀ x∈o1,Go.Vcg.one x=true)/\
 (p0+1<=p1-> ∃ (p6:Addr) (p7:Blk),o9=some p6/\p6.spot=none/\p5 p6.block=some p7/\p7.fz=(0,0)/\p6.off+p0*1+1*1<=p7.cells.length/\
 ∀ o6:Heap,o6=Heap.put p5 p6.block { p7 with cells:=setSeg p7.cells (p6.off+p0*1) o1 }->
 ∀ o7:Int,o7=IntKind.i64.wrap (p2+1)->
 ∃ o2,o2<m6/\m5 o2 o9 (p0+1) p1 o7 o6)/\
 (p1<p0+1-> ∃ o3:List Value,RdS p5 o9 (p0*1) o3/\(p0+1)*16<=140737488355328/\
 ∀ (p8 p9:Nat) (q0:Heap),p5 p8=none->p0+1<=p9->q0=Heap.put p5 p8 ⟨o3++o1++repV [.string ByteArray.empty] (p9-(p0+1)),9,(0,0)⟩->
 ∀ o8:Int,o8=IntKind.i64.wrap (p2+1)->
 ∃ o2,o2<m6/\m5 o2 (some ⟨p8,0,none⟩) (p0+1) p9 o8 q0))
 (Br ((a:Int)==9)
 (CallsU Tryz.prog 103 [.slice o9 p0 p1,.string (⟨#[44,32]⟩:ByteArray)] p3 fun s3 s4=>
 ∃ o4,s3 = .string o4/\
 (((⟨#[109,97,120,40]⟩:ByteArray).size+o4.size:Nat):Int)<=9223372036854775807/\
 ((((⟨#[109,97,120,40]⟩:ByteArray)++o4).size+(⟨#[41]⟩:ByteArray).size:Nat):Int)<=9223372036854775807/\
 R (.string (((⟨#[109,97,120,40]⟩:ByteArray)++o4)++(⟨#[41]⟩:ByteArray))) s4)
 (CallsU Tryz.prog 103 [.slice o9 p0 p1,.string (⟨#[44,32]⟩:ByteArray)] p3 fun s5 s6=>
 ∃ o5,s5 = .string o5/\
 (((⟨#[109,105,110,40]⟩:ByteArray).size+o5.size:Nat):Int)<=9223372036854775807/\
 ((((⟨#[109,105,110,40]⟩:ByteArray)++o5).size+(⟨#[41]⟩:ByteArray).size:Nat):Int)<=9223372036854775807/\
 R (.string (((⟨#[109,105,110,40]⟩:ByteArray)++o5)++(⟨#[41]⟩:ByteArray))) s6)))))))))
theorem formula_text_ok {a:Int} {b:Bool} {c:OA} {d e:Nat} {f:OA} {g i:Nat} {j:ByteArray} {k:OA} {l m:Nat} {h:Heap} {R:Value->Heap->Prop} (hv:formula_text_vc a b c d e f g i j k l m h R):CallsU Tryz.prog 173 [.agg #[.int .i64 a,.bool b,.slice c d e,.slice f g i,.string j,.slice k l m]] h R:=
 fn_ok Tryz.func173 (fun _=>false) (.two .nil (.two (.two .nil (.one (.two .nil (.two .nil (.two .nil (.two .nil (.two .nil (.two (.two (.ord [0,1,2,3,6,7,8,9,4,5,10,11,12]) .nil) (.two .nil (.two (.two (.ord [0,1,2,3,6,7,8,9,4,5,10,11,12]) .nil) (.two .nil (.two (.two (.ord [0,1,2,3,6,7,8,9,4,5,10,11,12]) .nil) (.two .nil (.two (.two (.ord [0,1,2,3,6,7,8,9,4,5,10,11,12]) .nil) .nil)))))))))))))) (.two .nil (.two (.two .nil (.one (.loop ⟨[(3,Sh.slice),(85,Sh.int .i64)],[]⟩ .nil))) .nil)))) hv
def formula_check_vc (a:Int) (b:Bool) (c:OA) (d e:Nat) (f:OA) (g i:Nat) (j:ByteArray) (k:OA) (l m:Nat) (n:Int) (h:Heap) (R:Value->Heap->Prop):Prop:=
 Br (decide (n>12))
 (R (.int .i64 5) h)
 (CallsU Tryz.prog 239 [.agg #[.int .i64 a,.bool b,.slice c d e,.slice f g i,.string j,.slice k l m]] h fun b1 b2=>
 ∃ o,b1 = .bool o/\
 Br (!o)
 (R (.int .i64 1) b2)
 (∃ p:Nat->Int->Heap->Prop,(∃ q,p q 0 b2)/\
 ∀ (q:Nat) (a9:Int) (b0:Heap),p q a9 b0->
 Br (decide (a9<(l:Int)))
 (∃ r:Addr,k=some r/\0<=a9/\a9<(l:Int)/\
 ∃ s t u v w y z a0 a1 a2 a3 a4,LdN b0 (Addr.add r (Int.toNat a9*6)) [.int .i64 s,.bool t,.slice u v w,.slice y z a0,.string a1,.slice a2 a3 a4]/\
 ∀ a7:Int,a7=IntKind.i64.wrap (n+1)->
 CallsU Tryz.prog 187 [.agg #[.int .i64 s,.bool t,.slice u v w,.slice y z a0,.string a1,.slice a2 a3 a4],.int .i64 a7] b0 fun b3 b4=>
 ∃ a5,b3 = .int .i64 a5/\
 Br ((a5:Int) != 0)
 (R (.int .i64 a5) b4)
 (∀ a8:Int,a8=IntKind.i64.wrap (a9+1)->
 ∃ a6,a6<q/\p a6 a8 b4))
 (R (.int .i64 0) b0)))
theorem formula_check_ok {a:Int} {b:Bool} {c:OA} {d e:Nat} {f:OA} {g i:Nat} {j:ByteArray} {k:OA} {l m:Nat} {n:Int} {h:Heap} {R:Value->Heap->Prop} (hv:formula_check_vc a b c d e f g i j k l m n h R):CallsU Tryz.prog 187 [.agg #[.int .i64 a,.bool b,.slice c d e,.slice f g i,.string j,.slice k l m],.int .i64 n] h R:=
 fn_ok Tryz.func187 (fun _=>false) (.two .nil (.two .nil (.two .nil (.two (.two .nil (.one (.loop ⟨[(16,Sh.int .i64)],[]⟩ .nil))) .nil)))) hv
def formula_lookUp_vc (a:OA) (b _c:Nat) (d:ByteArray) (h:Heap) (R:Value->Heap->Prop):Prop:=
 ∃ e:Nat->Int->Bool->OA->Nat->Nat->OA->Nat->Nat->Heap->Prop,(∃ f,e f 0 false none 0 0 none 0 0 h)/\
 ∀ (f:Nat) (a0:Int) (a1:Bool) (a2:OA) (a3 a4:Nat) (a5:OA) (a6 a7:Nat) (a8:Heap),e f a0 a1 a2 a3 a4 a5 a6 a7 a8->
 Br (decide (a0<(b:Int)))
 (∃ g:Addr,a=some g/\0<=a0/\a0<(b:Int)/\
 ∃ i j k l m n o p,LdN a8 (Addr.add g (Int.toNat a0*4)) [.string i,.bool j,.slice k l m,.slice n o p]/\
 Br (i.toList==d.toList)
 (CallsU Tryz.prog 196 [.agg #[.bool j,.slice k l m,.slice n o p]] a8 fun a9 b0=>
 ∃ q r s t u v w,a9 = .agg #[.bool q,.slice r s t,.slice u v w]/\
 R (.tuple #[.agg #[.bool q,.slice r s t,.slice u v w],.int .i64 0]) b0)
 (∀ z:Int,z=IntKind.i64.wrap (a0+1)->
 ∃ y,y<f/\e y z a1 a2 a3 a4 a5 a6 a7 a8))
 (R (.tuple #[.agg #[.bool false,.slice none 0 0,.slice none 0 0],.int .i64 6]) a8)
theorem formula_lookUp_ok {a:OA} {b c:Nat} {d:ByteArray} {h:Heap} {R:Value->Heap->Prop} (hv:formula_lookUp_vc a b c d h R):CallsU Tryz.prog 197 [.slice a b c,.string d] h R:=
 fn_ok Tryz.func197 (fun _=>false) (.two .nil (.two (.two .nil (.one (.loop ⟨[(10,Sh.int .i64)],[(0,[Sh.bool,Sh.slice,Sh.slice])]⟩ .nil))) .nil)) hv
def formula_extreme_vc (a:OA) (b c:Nat) (d:Int) (h:Heap) (R:Value->Heap->Prop):Prop:=
 ∃ e:Addr,a=some e/\0<=(0:Int)/\(0:Int)<(b:Int)/\
 ∃ f g i j k l m,LdN h (Addr.add e (0*3)) [.bool f,.slice g i j,.slice k l m]/\
 ((0:Nat):Int)<=(1:Int)/\1<=(b:Int)/\
 ∃ n:Nat->Int->Bool->OA->Nat->Nat->OA->Nat->Nat->Heap->Prop,(∃ o,n o 0 f g i j k l m h)/\
 ∀ (o:Nat) (a2:Int) (a3:Bool) (a4:OA) (a5 a6:Nat) (a7:OA) (a8 a9:Nat) (b0:Heap),n o a2 a3 a4 a5 a6 a7 a8 a9 b0->
 Br (decide (a2<(((b-1):Nat):Int)))
 (∃ p:Addr,(if c=1 then a else Option.map (fun x=>Addr.add x (1*3)) a)=some p/\0<=a2/\a2<(((b-1):Nat):Int)/\
 ∃ q r s t u v w,LdN b0 (Addr.add p (Int.toNat a2*3)) [.bool q,.slice r s t,.slice u v w]/\
 CallsU Tryz.prog 39 [.agg #[.bool q,.slice r s t,.slice u v w],.agg #[.bool a3,.slice a4 a5 a6,.slice a7 a8 a9]] b0 fun b1 b2=>
 ∃ y,b1 = .int .i64 y/\
 Br ((y:Int)==d)
 (∀ a0:Int,a0=IntKind.i64.wrap (a2+1)->
 ∃ z,z<o/\n z a0 q r s t u v w b2)
 (∀ a1:Int,a1=IntKind.i64.wrap (a2+1)->
 ∃ z,z<o/\n z a1 a3 a4 a5 a6 a7 a8 a9 b2))
 (R (.agg #[.bool a3,.slice a4 a5 a6,.slice a7 a8 a9]) b0)
theorem formula_extreme_ok {a:OA} {b c:Nat} {d:Int} {h:Heap} {R:Value->Heap->Prop} (hv:formula_extreme_vc a b c d h R):CallsU Tryz.prog 201 [.slice a b c,.int .i64 d] h R:=
 fn_ok Tryz.func201 (fun _=>false) (.two .nil (.two .nil (.two (.two .nil (.one (.loop ⟨[(14,Sh.int .i64)],[(1,[Sh.bool,Sh.slice,Sh.slice])]⟩ .nil))) .nil))) hv
def garment_formula_parser_product_vc (a:Addr) (h:Heap) (R:Value->Heap->Prop):Prop:=
 CallsU Tryz.prog 256 [.pointer (some a)] h fun f1 f2=>
 ∃ b c d e f g i j k l m n o,f1 = .tuple #[.agg #[.int .i64 b,.bool c,.slice d e f,.slice g i j,.string k,.slice l m n],.int .i64 o]/\
 ∃ p:Nat->Int->Int->Bool->OA->Nat->Nat->OA->Nat->Nat->ByteArray->OA->Nat->Nat->Int->Bool->OA->Nat->Nat->OA->Nat->Nat->ByteArray->OA->Nat->Nat->Heap->Prop,(∃ q,p q o 0 false none 0 0 none 0 0 ByteArray.empty none 0 0 b c d e f g i j k l m n f2)/\
 ∀ (q:Nat) (a9:Int) (b0:Int) (b1:Bool) (b2:OA) (b3 b4:Nat) (b5:OA) (b6 b7:Nat) (b8:ByteArray) (b9:OA) (c0 c1:Nat) (c2:Int) (c3:Bool) (c4:OA) (c5 c6:Nat) (c7:OA) (c8 c9:Nat) (d0:ByteArray) (d1:OA) (d2 d3:Nat) (d4:Heap),p q a9 b0 b1 b2 b3 b4 b5 b6 b7 b8 b9 c0 c1 c2 c3 c4 c5 c6 c7 c8 c9 d0 d1 d2 d3 d4->
 Br ((a9:Int)==0)
 (∃ r:Int->Int->Bool->OA->Nat->Nat->OA->Nat->Nat->ByteArray->OA->Nat->Nat->Heap->Prop,(∀ (d5:Int) (d6:Int) (d7:Bool) (d8:OA) (d9 e0:Nat) (e1:OA) (e2 e3:Nat) (e4:ByteArray) (e5:OA) (e6 e7:Nat) (e8:Heap),r d5 d6 d7 d8 d9 e0 e1 e2 e3 e4 e5 e6 e7 e8->
 CallsU Tryz.prog 223 [.pointer (some a)] e8 fun f3 f4=>
 ∃ s,f3 = .string s/\
 CallsU Tryz.prog 256 [.pointer (some a)] f4 fun f5 f6=>
 ∃ t u v w y z a0 a1 a2 a3 a4 a5 a6,f5 = .tuple #[.agg #[.int .i64 t,.bool u,.slice v w y,.slice z a0 a1,.string a2,.slice a3 a4 a5],.int .i64 a6]/\
 ∀ (e9:Nat) (f0:Heap),f6 e9=none->f0=Heap.put f6 e9 ⟨[.int .i64 c2,.bool c3,.slice c4 c5 c6,.slice c7 c8 c9,.string d0,.slice d1 d2 d3,.int .i64 t,.bool u,.slice v w y,.slice z a0 a1,.string a2,.slice a3 a4 a5],39,(0,0)⟩->
 ∃ a7,a7<q/\p a7 a6 d6 d7 d8 d9 e0 e1 e2 e3 e4 e5 e6 e7 d5 false none 0 0 none 0 0 ByteArray.empty (some ⟨e9,0,none⟩) 2 2 f0)/\
 CallsU Tryz.prog 166 [.pointer (some a)] d4 fun f7 f8=>
 ∃ a8,f7 = .string a8/\
 Br (a8.toList==(⟨#[42]⟩:ByteArray).toList)
 (r 5 b0 b1 b2 b3 b4 b5 b6 b7 b8 b9 c0 c1 f8)
 (Br (a8.toList==(⟨#[47]⟩:ByteArray).toList)
 (r 6 b0 b1 b2 b3 b4 b5 b6 b7 b8 b9 c0 c1 f8)
 (R (.tuple #[.agg #[.int .i64 c2,.bool c3,.slice c4 c5 c6,.slice c7 c8 c9,.string d0,.slice d1 d2 d3],.int .i64 0]) f8)))
 (R (.tuple #[.agg #[.int .i64 0,.bool false,.slice none 0 0,.slice none 0 0,.string ByteArray.empty,.slice none 0 0],.int .i64 a9]) d4)
theorem garment_formula_parser_product_ok {a:Addr} {h:Heap} {R:Value->Heap->Prop} (hv:garment_formula_parser_product_vc a h R):CallsU Tryz.prog 222 [.pointer (some a)] h R:=
 fn_ok Tryz.func222 (fun _=>false) (.two .nil (.two .nil (.two (.one (.loop ⟨[(5,Sh.int .i64)],[(0,[Sh.int .i64,Sh.bool,Sh.slice,Sh.slice,Sh.str,Sh.slice]),(1,[Sh.int .i64,Sh.bool,Sh.slice,Sh.slice,Sh.str,Sh.slice])]⟩ (.two .nil (.one (.two .nil (.cut ⟨[(6,Sh.int .i64)],[(0,[Sh.int .i64,Sh.bool,Sh.slice,Sh.slice,Sh.str,Sh.slice])]⟩ .nil .nil)))))) .nil))) hv
def garment_formula_parser_take_vc (a:Addr) (h:Heap) (R:Value->Heap->Prop):Prop:=
 CallsU Tryz.prog 166 [.pointer (some a)] h fun g i=>
 ∃ b,g = .string b/\
 ∃ c,LdN i (Addr.add a 1) [.int .i64 c]/\
 ∀ e:Int,e=IntKind.i64.wrap (c+(b.size:Int))->
 ∃ d:Blk,i (Addr.block (Addr.add a 1))=some d/\d.fz=(0,0)/\Addr.spot (Addr.add a 1)=none/\Addr.off (Addr.add a 1)+1<=d.cells.length/\
 ∀ f:Heap,f=Heap.put i (Addr.block (Addr.add a 1)) { d with cells:=setSeg d.cells (Addr.off (Addr.add a 1)) [.int .i64 e] }->
 R (.string b) f
theorem garment_formula_parser_take_ok {a:Addr} {h:Heap} {R:Value->Heap->Prop} (hv:garment_formula_parser_take_vc a h R):CallsU Tryz.prog 223 [.pointer (some a)] h R:=
 fn_ok Tryz.func223 (fun _=>false) .nil hv
def formula_numberText_vc (a:Bool) (b:OA) (c d:Nat) (e:OA) (f g:Nat) (h:Heap) (R:Value->Heap->Prop):Prop:=
 CallsU Tryz.prog 258 [.agg #[.bool a,.slice b c d,.slice e f g]] h fun r s=>
 ∃ i j,r = .tuple #[.int .i64 i,.bool j]/\
 ∀ n:Int,n=IntKind.i64.wrap (Int.tdiv i 10000)->
 CallsU Tryz.prog 259 [.int .i64 n] s fun t u=>
 ∃ k,t = .string k/\
 ∀ o:Int,o=(Int.tmod i 10000)->
 Br ((o:Int)==0)
 (R (.string k) u)
 (∀ p:Int,p=(Int.tmod i 10000)->
 ∀ q:Int,q=IntKind.i64.wrap (10000+p)->
 CallsU Tryz.prog 259 [.int .i64 q] u fun v w=>
 ∃ l,v = .string l/\
 ((0:Nat):Int)<=(1:Int)/\1<=(l.size:Int)/\
 ((k.size+(⟨#[46]⟩:ByteArray).size:Nat):Int)<=9223372036854775807/\
 CallsU Tryz.prog 260 [.string (ByteArray.extract l 1 l.size),.string (⟨#[48]⟩:ByteArray)] w fun y z=>
 ∃ m,y = .string m/\
 (((k++(⟨#[46]⟩:ByteArray)).size+m.size:Nat):Int)<=9223372036854775807/\
 R (.string ((k++(⟨#[46]⟩:ByteArray))++m)) z)
theorem formula_numberText_ok {a:Bool} {b:OA} {c d:Nat} {e:OA} {f g:Nat} {h:Heap} {R:Value->Heap->Prop} (hv:formula_numberText_vc a b c d e f g h R):CallsU Tryz.prog 229 [.agg #[.bool a,.slice b c d,.slice e f g]] h R:=
 fn_ok Tryz.func229 (fun _=>false) .nil hv
def formula_operand_vc (a:Int) (b:Bool) (c:OA) (d e:Nat) (f:OA) (g i:Nat) (j:ByteArray) (k:OA) (l m:Nat) (n:Int) (h:Heap) (R:Value->Heap->Prop):Prop:=
 CallsU Tryz.prog 173 [.agg #[.int .i64 a,.bool b,.slice c d e,.slice f g i,.string j,.slice k l m]] h fun q r=>
 ∃ o,q = .string o/\
 CallsU Tryz.prog 261 [.int .i64 a] r fun s t=>
 ∃ p,s = .int .i64 p/\
 Br (decide (p<n))
 ((((⟨#[40]⟩:ByteArray).size+o.size:Nat):Int)<=9223372036854775807/\
 ((((⟨#[40]⟩:ByteArray)++o).size+(⟨#[41]⟩:ByteArray).size:Nat):Int)<=9223372036854775807/\
 R (.string (((⟨#[40]⟩:ByteArray)++o)++(⟨#[41]⟩:ByteArray))) t)
 (R (.string o) t)
theorem formula_operand_ok {a:Int} {b:Bool} {c:OA} {d e:Nat} {f:OA} {g i:Nat} {j:ByteArray} {k:OA} {l m:Nat} {n:Int} {h:Heap} {R:Value->Heap->Prop} (hv:formula_operand_vc a b c d e f g i j k l m n h R):CallsU Tryz.prog 230 [.agg #[.int .i64 a,.bool b,.slice c d e,.slice f g i,.string j,.slice k l m],.int .i64 n] h R:=
 fn_ok Tryz.func230 (fun _=>false) .nil hv
def formula_right_vc (a:Int) (b:Bool) (c:OA) (d e:Nat) (f:OA) (g i:Nat) (j:ByteArray) (_k:OA) (l _m:Nat) (h:Heap) (R:Value->Heap->Prop):Prop:=
 CallsU Tryz.prog 269 [.int .i64 a] h fun z a0=>
 ∃ n o,z = .tuple #[.int .i64 n,.int .i64 o]/\
 ∃ p:Bool->Heap->Prop,(∀ (v:Bool) (w:Heap),p v w->
 Br (v)
 (R (.bool false) w)
 (∃ q:Heap->Prop,(∀  (y:Heap),q y->
 Br ((a:Int)==1)
 (CallsU Tryz.prog 258 [.agg #[.bool b,.slice c d e,.slice f g i]] y fun a1 a2=>
 ∃ r s,a1 = .tuple #[.int .i64 r,.bool s]/\
 R (.bool s) a2)
 (CallsU Tryz.prog 39 [.agg #[.bool b,.slice c d e,.slice f g i],.agg #[.bool false,.slice none 0 0,.slice none 0 0]] y fun a3 a4=>
 ∃ t,a3 = .int .i64 t/\
 R (.bool ((t:Int)==0)) a4))/\
 Br ((a:Int)==2)
 (CallsU Tryz.prog 270 [.string j] w fun a5 a6=>
 ∃ u,a5 = .bool u/\
 Br (!u)
 (R (.bool false) a6)
 (q a6))
 (Br (!(j.toList==(⟨#[]⟩:ByteArray).toList))
 (R (.bool false) w)
 (q w))))/\
 Br (decide ((l:Int)<n))
 (p true a0)
 (p (decide ((l:Int)>o)) a0)
theorem formula_right_ok {a:Int} {b:Bool} {c:OA} {d e:Nat} {f:OA} {g i:Nat} {j:ByteArray} {k:OA} {l m:Nat} {h:Heap} {R:Value->Heap->Prop} (hv:formula_right_vc a b c d e f g i j k l m h R):CallsU Tryz.prog 239 [.agg #[.int .i64 a,.bool b,.slice c d e,.slice f g i,.string j,.slice k l m]] h R:=
 fn_ok Tryz.func239 (fun _=>false) (.two .nil (.two .nil (.two (.cut ⟨[(24,Sh.bool)],[]⟩ .nil .nil) (.cut ⟨[],[]⟩ .nil .nil)))) hv
def garment_formula_parser_factor_vc (a:Addr) (h:Heap) (R:Value->Heap->Prop):Prop:=
 CallsU Tryz.prog 223 [.pointer (some a)] h fun e2 e3=>
 ∃ b,e2 = .string b/\
 Br (b.toList==(⟨#[]⟩:ByteArray).toList)
 (R (.tuple #[.agg #[.int .i64 0,.bool false,.slice none 0 0,.slice none 0 0,.string ByteArray.empty,.slice none 0 0],.int .i64 4]) e3)
 (Br (b.toList==(⟨#[45]⟩:ByteArray).toList)
 (CallsU Tryz.prog 256 [.pointer (some a)] e3 fun e4 e5=>
 ∃ c d e f g i j k l m n o p,e4 = .tuple #[.agg #[.int .i64 c,.bool d,.slice e f g,.slice i j k,.string l,.slice m n o],.int .i64 p]/\
 Br ((p:Int) != 0)
 (R (.tuple #[.agg #[.int .i64 0,.bool false,.slice none 0 0,.slice none 0 0,.string ByteArray.empty,.slice none 0 0],.int .i64 p]) e5)
 (∀ (e0:Nat) (e1:Heap),e5 e0=none->e1=Heap.put e5 e0 ⟨[.int .i64 c,.bool d,.slice e f g,.slice i j k,.string l,.slice m n o],39,(0,0)⟩->
 R (.tuple #[.agg #[.int .i64 7,.bool false,.slice none 0 0,.slice none 0 0,.string ByteArray.empty,.slice (some ⟨e0,0,none⟩) 1 1],.int .i64 0]) e1))
 (Br (b.toList==(⟨#[40]⟩:ByteArray).toList)
 (CallsU Tryz.prog 165 [.pointer (some a)] e3 fun e6 e7=>
 ∃ q r s t u v w y z a0 a1 a2 a3,e6 = .tuple #[.agg #[.int .i64 q,.bool r,.slice s t u,.slice v w y,.string z,.slice a0 a1 a2],.int .i64 a3]/\
 Br ((a3:Int)==0)
 (CallsU Tryz.prog 277 [.pointer (some a),.string (⟨#[41]⟩:ByteArray)] e7 fun e8 e9=>
 ∃ a4,e8 = .int .i64 a4/\
 Br ((a4:Int) != 0)
 (R (.tuple #[.agg #[.int .i64 0,.bool false,.slice none 0 0,.slice none 0 0,.string ByteArray.empty,.slice none 0 0],.int .i64 a4]) e9)
 (R (.tuple #[.agg #[.int .i64 q,.bool r,.slice s t u,.slice v w y,.string z,.slice a0 a1 a2],.int .i64 0]) e9))
 (Br ((a3:Int) != 0)
 (R (.tuple #[.agg #[.int .i64 0,.bool false,.slice none 0 0,.slice none 0 0,.string ByteArray.empty,.slice none 0 0],.int .i64 a3]) e7)
 (R (.tuple #[.agg #[.int .i64 q,.bool r,.slice s t u,.slice v w y,.string z,.slice a0 a1 a2],.int .i64 0]) e7)))
 (Br (b.toList==(⟨#[109,105,110]⟩:ByteArray).toList)
 (CallsU Tryz.prog 278 [.pointer (some a),.int .i64 8] e3 fun f0 f1=>
 ∃ a5 a6 a7 a8 a9 b0 b1 b2 b3 b4 b5 b6 b7,f0 = .tuple #[.agg #[.int .i64 a5,.bool a6,.slice a7 a8 a9,.slice b0 b1 b2,.string b3,.slice b4 b5 b6],.int .i64 b7]/\
 R (.tuple #[.agg #[.int .i64 a5,.bool a6,.slice a7 a8 a9,.slice b0 b1 b2,.string b3,.slice b4 b5 b6],.int .i64 b7]) f1)
 (Br (b.toList==(⟨#[109,97,120]⟩:ByteArray).toList)
 (CallsU Tryz.prog 278 [.pointer (some a),.int .i64 9] e3 fun f2 f3=>
 ∃ b8 b9 c0 c1 c2 c3 c4 c5 c6 c7 c8 c9 d0,f2 = .tuple #[.agg #[.int .i64 b8,.bool b9,.slice c0 c1 c2,.slice c3 c4 c5,.string c6,.slice c7 c8 c9],.int .i64 d0]/\
 R (.tuple #[.agg #[.int .i64 b8,.bool b9,.slice c0 c1 c2,.slice c3 c4 c5,.string c6,.slice c7 c8 c9],.int .i64 d0]) f3)
 (CallsU Tryz.prog 279 [.string b] e3 fun f4 f5=>
 ∃ d1 d2 d3 d4 d5 d6 d7 d8,f4 = .tuple #[.agg #[.bool d1,.slice d2 d3 d4,.slice d5 d6 d7],.bool d8]/\
 Br (d8)
 (R (.tuple #[.agg #[.int .i64 1,.bool d1,.slice d2 d3 d4,.slice d5 d6 d7,.string ByteArray.empty,.slice none 0 0],.int .i64 0]) f5)
 (CallsU Tryz.prog 270 [.string b] f5 fun f6 f7=>
 ∃ d9,f6 = .bool d9/\
 Br (d9)
 (R (.tuple #[.agg #[.int .i64 2,.bool false,.slice none 0 0,.slice none 0 0,.string b,.slice none 0 0],.int .i64 0]) f7)
 (R (.tuple #[.agg #[.int .i64 0,.bool false,.slice none 0 0,.slice none 0 0,.string ByteArray.empty,.slice none 0 0],.int .i64 2]) f7)))))))
theorem garment_formula_parser_factor_ok {a:Addr} {h:Heap} {R:Value->Heap->Prop} (hv:garment_formula_parser_factor_vc a h R):CallsU Tryz.prog 256 [.pointer (some a)] h R:=
 fn_ok Tryz.func256 (fun _=>false) .nil hv
def formula_inShares_vc (a:Bool) (b:OA) (c d:Nat) (e:OA) (f g:Nat) (h:Heap) (R:Value->Heap->Prop):Prop:=
 CallsU Tryz.prog 41 [.int .i64 10000,.int .i64 1] h fun a4 a5=>
 ∃ i j k l m n o p,a4 = .tuple #[.agg #[.bool i,.slice j k l,.slice m n o],.bool p]/\
 CallsU Tryz.prog 199 [.agg #[.bool a,.slice b c d,.slice e f g],.agg #[.bool i,.slice j k l,.slice m n o]] a5 fun a6 a7=>
 ∃ q r s t u v w,a6 = .agg #[.bool q,.slice r s t,.slice u v w]/\
 CallsU Tryz.prog 138 [.int .u64 1] a7 fun a8 a9=>
 ∃ y z a0,a8 = .slice y z a0/\
 LeH a7 a9/\
 CallsU Tryz.prog 140 [.slice u v w,.slice y z a0] a9 fun b0 b1=>
 ∃ a1,b0 = .int .i64 a1/\
 Br ((a1:Int) != 0)
 (R (.tuple #[.int .i64 0,.bool false]) b1)
 (CallsU Tryz.prog 283 [.agg #[.bool q,.slice r s t]] b1 fun b2 b3=>
 ∃ a2 a3,b2 = .tuple #[.int .i64 a2,.bool a3]/\
 Br (!a3)
 (R (.tuple #[.int .i64 0,.bool false]) b3)
 (Br (decide (a2<0))
 (R (.tuple #[.int .i64 0,.bool false]) b3)
 (Br (decide (a2>9999999999999))
 (R (.tuple #[.int .i64 0,.bool false]) b3)
 (R (.tuple #[.int .i64 a2,.bool true]) b3))))
theorem formula_inShares_ok {a:Bool} {b:OA} {c d:Nat} {e:OA} {f g:Nat} {h:Heap} {R:Value->Heap->Prop} (hv:formula_inShares_vc a b c d e f g h R):CallsU Tryz.prog 258 [.agg #[.bool a,.slice b c d,.slice e f g]] h R:=
 fn_ok Tryz.func258 (fun _=>false) (.two .nil (.two .nil (.two .nil (.two (.two (.ord [0,1,2,3,4]) .nil) .nil)))) hv
def formula_closeness_vc (a:Int) (h:Heap) (R:Value->Heap->Prop):Prop:=
 Br ((a:Int)==3)
 (Br ((a:Int)==3)
 (R (.int .i64 0) h)
 (Br ((a:Int)==5)
 (Br ((a:Int)==5)
 (R (.int .i64 1) h)
 (R (.int .i64 2) h))
 (Br ((a:Int)==6)
 (R (.int .i64 1) h)
 (R (.int .i64 2) h))))
 (Br ((a:Int)==4)
 (R (.int .i64 0) h)
 (Br ((a:Int)==5)
 (Br ((a:Int)==5)
 (R (.int .i64 1) h)
 (R (.int .i64 2) h))
 (Br ((a:Int)==6)
 (R (.int .i64 1) h)
 (R (.int .i64 2) h))))
theorem formula_closeness_ok {a:Int} {h:Heap} {R:Value->Heap->Prop} (hv:formula_closeness_vc a h R):CallsU Tryz.prog 261 [.int .i64 a] h R:=
 fn_ok Tryz.func261 (fun _=>false) .nil hv
def formula_operands_vc (a:Int) (h:Heap) (R:Value->Heap->Prop):Prop:=
 ∃ b:Bool->Heap->Prop,(∀ (d:Bool) (e:Heap),b d e->
 Br (d)
 (R (.tuple #[.int .i64 0,.int .i64 0]) e)
 (∃ c:Bool->Heap->Prop,(∀ (f:Bool) (g:Heap),c f g->
 Br (f)
 (R (.tuple #[.int .i64 2,.int .i64 2]) g)
 (Br ((a:Int)==7)
 (R (.tuple #[.int .i64 1,.int .i64 1]) g)
 (Br ((a:Int)==8)
 (Br ((a:Int)==8)
 (R (.tuple #[.int .i64 1,.int .i64 8]) g)
 (R (.tuple #[.int .i64 0,.int .i64 (-1)]) g))
 (Br ((a:Int)==9)
 (R (.tuple #[.int .i64 1,.int .i64 8]) g)
 (R (.tuple #[.int .i64 0,.int .i64 (-1)]) g)))))/\
 Br ((a:Int)==3)
 (c ((a:Int)==3) e)
 (Br ((a:Int)==4)
 (c ((a:Int)==4) e)
 (Br ((a:Int)==5)
 (c ((a:Int)==5) e)
 (c ((a:Int)==6) e)))))/\
 Br ((a:Int)==1)
 (b ((a:Int)==1) h)
 (b ((a:Int)==2) h)
theorem formula_operands_ok {a:Int} {h:Heap} {R:Value->Heap->Prop} (hv:formula_operands_vc a h R):CallsU Tryz.prog 269 [.int .i64 a] h R:=
 fn_ok Tryz.func269 (fun _=>false) (.two .nil (.two (.two .nil (.one (.cut ⟨[(5,Sh.bool)],[]⟩ .nil (.two .nil (.cut ⟨[(8,Sh.bool)],[]⟩ .nil .nil))))) .nil)) hv
def formula_isName_vc (a:ByteArray) (h:Heap) (R:Value->Heap->Prop):Prop:=
 ∃ b:Bool->Heap->Prop,(∀ (m:Bool) (n:Heap),b m n->
 Br (m)
 (R (.bool false) n)
 (∃ c:Nat->Int->Heap->Prop,(∃ d,c d 0 n)/\
 ∀ (d:Nat) (o:Int) (p:Heap),c d o p->
 Br (decide (o<(a.size:Int)))
 (∃ e:UInt8,0<=o/\a[(Int.toNat o:Nat)]?=some e/\
 ∃ f:Bool->Heap->Prop,(∀ (q:Bool) (r:Heap),f q r->
 Br (!q)
 (Br ((o:Int)==0)
 (R (.bool false) r)
 (Br ((e.toNat:Int) != 95)
 (CallsU Tryz.prog 290 [.int .u8 (e.toNat:Int)] r fun s t=>
 ∃ g,s = .bool g/\
 Br (!g)
 (R (.bool false) t)
 (∀ j:Int,j=IntKind.i64.wrap (o+1)->
 ∃ i,i<d/\c i j t))
 (∀ k:Int,k=IntKind.i64.wrap (o+1)->
 ∃ i,i<d/\c i k r)))
 (∀ l:Int,l=IntKind.i64.wrap (o+1)->
 ∃ i,i<d/\c i l r))/\
 Br (decide ((97:Int)<=(e.toNat:Int)))
 (f (decide ((e.toNat:Int)<=122)) p)
 (f false p))
 (R (.bool true) p)))/\
 Br ((a.size:Int)==0)
 (b true h)
 (Br (decide ((a.size:Int)>24))
 (b true h)
 (Br (a.toList==(⟨#[109,105,110]⟩:ByteArray).toList)
 (b true h)
 (b (a.toList==(⟨#[109,97,120]⟩:ByteArray).toList) h)))
theorem formula_isName_ok {a:ByteArray} {h:Heap} {R:Value->Heap->Prop} (hv:formula_isName_vc a h R):CallsU Tryz.prog 270 [.string a] h R:=
 fn_ok Tryz.func270 (fun _=>false) (.two .nil (.two (.cut ⟨[(21,Sh.bool)],[]⟩ .nil .nil) (.two (.two .nil (.one (.loop ⟨[(24,Sh.int .i64)],[]⟩ (.two .nil (.two .nil (.two (.one (.two .nil (.two .nil (.cut ⟨[(5,Sh.bool)],[]⟩ .nil .nil)))) .nil)))))) .nil))) hv
def garment_formula_parser_expect_vc (a:Addr) (b:ByteArray) (h:Heap) (R:Value->Heap->Prop):Prop:=
 CallsU Tryz.prog 223 [.pointer (some a)] h fun d e=>
 ∃ c,d = .string c/\
 Br (c.toList==b.toList)
 (R (.int .i64 0) e)
 (Br (c.toList==(⟨#[]⟩:ByteArray).toList)
 (R (.int .i64 4) e)
 (R (.int .i64 2) e))
theorem garment_formula_parser_expect_ok {a:Addr} {b:ByteArray} {h:Heap} {R:Value->Heap->Prop} (hv:garment_formula_parser_expect_vc a b h R):CallsU Tryz.prog 277 [.pointer (some a),.string b] h R:=
 fn_ok Tryz.func277 (fun _=>false) .nil hv
def garment_formula_parser_call_vc (a:Addr) (b:Int) (h:Heap) (R:Value->Heap->Prop):Prop:=
 CallsU Tryz.prog 277 [.pointer (some a),.string (⟨#[40]⟩:ByteArray)] h fun c7 c8=>
 ∃ c,c7 = .int .i64 c/\
 Br ((c:Int) != 0)
 (R (.tuple #[.agg #[.int .i64 0,.bool false,.slice none 0 0,.slice none 0 0,.string ByteArray.empty,.slice none 0 0],.int .i64 c]) c8)
 (∃ d:Nat->OA->Nat->Nat->Int->Bool->OA->Nat->Nat->OA->Nat->Nat->ByteArray->OA->Nat->Nat->Heap->Prop,(∃ e,d e none 0 0 0 false none 0 0 none 0 0 ByteArray.empty none 0 0 c8)/\
 ∀ (e:Nat) (a0:OA) (a1 a2:Nat) (a3:Int) (a4:Bool) (a5:OA) (a6 a7:Nat) (a8:OA) (a9 b0:Nat) (b1:ByteArray) (b2:OA) (b3 b4:Nat) (b5:Heap),d e a0 a1 a2 a3 a4 a5 a6 a7 a8 a9 b0 b1 b2 b3 b4 b5->
 CallsU Tryz.prog 165 [.pointer (some a)] b5 fun c9 d0=>
 ∃ f g i j k l m n o p q r s,c9 = .tuple #[.agg #[.int .i64 f,.bool g,.slice i j k,.slice l m n,.string o,.slice p q r],.int .i64 s]/\
 Br ((s:Int) != 0)
 (R (.tuple #[.agg #[.int .i64 0,.bool false,.slice none 0 0,.slice none 0 0,.string ByteArray.empty,.slice none 0 0],.int .i64 s]) d0)
 (∃ t:OA->Nat->Nat->Heap->Prop,(∀ (b6:OA) (b7 b8:Nat) (b9:Heap),t b6 b7 b8 b9->
 CallsU Tryz.prog 223 [.pointer (some a)] b9 fun d1 d2=>
 ∃ u,d1 = .string u/\
 Br (u.toList==(⟨#[41]⟩:ByteArray).toList)
 (R (.tuple #[.agg #[.int .i64 b,.bool false,.slice none 0 0,.slice none 0 0,.string ByteArray.empty,.slice b6 b7 b8],.int .i64 0]) d2)
 (Br (u.toList==(⟨#[]⟩:ByteArray).toList)
 (R (.tuple #[.agg #[.int .i64 0,.bool false,.slice none 0 0,.slice none 0 0,.string ByteArray.empty,.slice none 0 0],.int .i64 4]) d2)
 (Br (!(u.toList==(⟨#[44]⟩:ByteArray).toList))
 (R (.tuple #[.agg #[.int .i64 0,.bool false,.slice none 0 0,.slice none 0 0,.string ByteArray.empty,.slice none 0 0],.int .i64 2]) d2)
 (Br ((b7:Int)==8)
 (R (.tuple #[.agg #[.int .i64 0,.bool false,.slice none 0 0,.slice none 0 0,.string ByteArray.empty,.slice none 0 0],.int .i64 2]) d2)
 (∃ v,v<e/\d v b6 b7 b8 a3 a4 a5 a6 a7 a8 a9 b0 b1 b2 b3 b4 d2)))))/\
 ∀ (c0:Nat) (c1:Heap),d0 c0=none->c1=Heap.put d0 c0 ⟨[.int .i64 f,.bool g,.slice i j k,.slice l m n,.string o,.slice p q r],39,(0,0)⟩->
 ∃ w:List Value,RdS c1 (some ⟨c0,0,none⟩) (1*6) w/\(∀ x∈w,Go.Vcg.one x=true)/\
 (a1+1<=a2-> ∃ (c2:Addr) (c3:Blk),a0=some c2/\c2.spot=none/\c1 c2.block=some c3/\c3.fz=(0,0)/\c2.off+a1*6+1*6<=c3.cells.length/\
 ∀ z:Heap,z=Heap.put c1 c2.block { c3 with cells:=setSeg c3.cells (c2.off+a1*6) w }->
 t a0 (a1+1) a2 z)/\
 (a2<a1+1-> ∃ y:List Value,RdS c1 a0 (a1*6) y/\(a1+1)*104<=140737488355328/\
 ∀ (c4 c5:Nat) (c6:Heap),c1 c4=none->a1+1<=c5->c6=Heap.put c1 c4 ⟨y++w++repV [.int .i64 0,.bool false,.slice none 0 0,.slice none 0 0,.string ByteArray.empty,.slice none 0 0] (c5-(a1+1)),39,(0,0)⟩->
 t (some ⟨c4,0,none⟩) (a1+1) c5 c6)))
theorem garment_formula_parser_call_ok {a:Addr} {b:Int} {h:Heap} {R:Value->Heap->Prop} (hv:garment_formula_parser_call_vc a b h R):CallsU Tryz.prog 278 [.pointer (some a),.int .i64 b] h R:=
 fn_ok Tryz.func278 (fun _=>false) (.two .nil (.two .nil (.two .nil (.one (.loop ⟨[(7,Sh.slice)],[(0,[Sh.int .i64,Sh.bool,Sh.slice,Sh.slice,Sh.str,Sh.slice])]⟩ (.one (.two .nil (.two .nil (.cut ⟨[(7,Sh.slice)],[]⟩ .nil .nil))))))))) hv
def formula_number_vc (a:ByteArray) (h:Heap) (R:Value->Heap->Prop):Prop:=
 CallsU Tryz.prog 293 [.string a,.string (⟨#[46]⟩:ByteArray)] h fun b9 c0=>
 ∃ b c d,b9 = .tuple #[.string b,.string c,.bool d]/\
 ∃ e:Bool->OA->Nat->Nat->OA->Nat->Nat->Heap->Prop,(∀ (a0:Bool) (a1:OA) (a2 a3:Nat) (a4:OA) (a5 a6:Nat) (a7:Heap),e a0 a1 a2 a3 a4 a5 a6 a7->
 ∃ f:Bool->OA->Nat->Nat->OA->Nat->Nat->Heap->Prop,(∀ (a8:Bool) (a9:OA) (b0 b1:Nat) (b2:OA) (b3 b4:Nat) (b5:Heap),f a8 a9 b0 b1 b2 b3 b4 b5->
 ((b.size+c.size:Nat):Int)<=9223372036854775807/\
 CallsU Tryz.prog 295 [.string (b++c)] b5 fun c1 c2=>
 ∃ g i,c1 = .tuple #[.int .i64 g,i]/\
 isIf i=true/\
 Br (!(isNilI i))
 (R (.tuple #[.agg #[.bool false,.slice none 0 0,.slice none 0 0],.bool false]) c2)
 (∃ j:Nat->Int->Int->Heap->Prop,(∃ k,j k 1 0 c2)/\
 ∀ (k:Nat) (b6:Int) (b7:Int) (b8:Heap),j k b6 b7 b8->
 Br (decide (b7<(c.size:Int)))
 (∀ y:Int,y=IntKind.i64.wrap (b6*10)->
 ∀ z:Int,z=IntKind.i64.wrap (b7+1)->
 ∃ l,l<k/\j l y z b8)
 (CallsU Tryz.prog 41 [.int .i64 g,.int .i64 b6] b8 fun c3 c4=>
 ∃ m n o p q r s t,c3 = .tuple #[.agg #[.bool m,.slice n o p,.slice q r s],.bool t]/\
 R (.tuple #[.agg #[.bool m,.slice n o p,.slice q r s],.bool t]) c4)))/\
 Br (d)
 (CallsU Tryz.prog 294 [.string c,.int .i64 4] a7 fun c5 c6=>
 ∃ u,c5 = .bool u/\
 Br (!u)
 (R (.tuple #[.agg #[.bool false,.slice none 0 0,.slice none 0 0],.bool false]) c6)
 (f a0 a1 a2 a3 a4 a5 a6 c6))
 (f a0 a1 a2 a3 a4 a5 a6 a7))/\
 CallsU Tryz.prog 294 [.string b,.int .i64 9] c0 fun c7 c8=>
 ∃ v,c7 = .bool v/\
 Br (!v)
 (R (.tuple #[.agg #[.bool false,.slice none 0 0,.slice none 0 0],.bool false]) c8)
 (Br (decide ((b.size:Int)>1))
 (∃ w:UInt8,0<=(0:Int)/\b[(0:Nat)]?=some w/\
 Br ((w.toNat:Int)==48)
 (R (.tuple #[.agg #[.bool false,.slice none 0 0,.slice none 0 0],.bool false]) c8)
 (e false none 0 0 none 0 0 c8))
 (e false none 0 0 none 0 0 c8))
theorem formula_number_ok {a:ByteArray} {h:Heap} {R:Value->Heap->Prop} (hv:formula_number_vc a h R):CallsU Tryz.prog 279 [.string a] h R:=
 fn_ok Tryz.func279 (fun _=>false) (.two .nil (.two .nil (.cut ⟨[],[(0,[Sh.bool,Sh.slice,Sh.slice])]⟩ .nil (.cut ⟨[],[(0,[Sh.bool,Sh.slice,Sh.slice])]⟩ .nil (.two .nil (.two .nil (.two .nil (.two (.two .nil (.one (.loop ⟨[(9,Sh.int .i64),(49,Sh.int .i64)],[]⟩ .nil))) .nil)))))))) hv
def formula_isDigit_vc (a:Int) (h:Heap) (R:Value->Heap->Prop):Prop:=
 Br (decide ((48:Int)<=a))
 (R (.bool (decide (a<=57))) h)
 (R (.bool false) h)
theorem formula_isDigit_ok {a:Int} {h:Heap} {R:Value->Heap->Prop} (hv:formula_isDigit_vc a h R):CallsU Tryz.prog 290 [.int .u8 a] h R:=
 fn_ok Tryz.func290 (fun _=>false) .nil hv
def formula_digits_vc (a:ByteArray) (b:Int) (h:Heap) (R:Value->Heap->Prop):Prop:=
 ∃ c:Nat->Int->Heap->Prop,(∃ d,c d 0 h)/\
 ∀ (d:Nat) (j:Int) (k:Heap),c d j k->
 Br (decide (j<(a.size:Int)))
 (∃ e:UInt8,0<=j/\a[(Int.toNat j:Nat)]?=some e/\
 CallsU Tryz.prog 290 [.int .u8 (e.toNat:Int)] k fun l m=>
 ∃ f,l = .bool f/\
 Br (!f)
 (R (.bool false) m)
 (∀ i:Int,i=IntKind.i64.wrap (j+1)->
 ∃ g,g<d/\c g i m))
 (Br (decide ((1:Int)<=(a.size:Int)))
 (R (.bool (decide ((a.size:Int)<=b))) k)
 (R (.bool false) k))
theorem formula_digits_ok {a:ByteArray} {b:Int} {h:Heap} {R:Value->Heap->Prop} (hv:formula_digits_vc a b h R):CallsU Tryz.prog 294 [.string a,.int .i64 b] h R:=
 fn_ok Tryz.func294 (fun _=>false) (.two .nil (.two (.two .nil (.one (.loop ⟨[(8,Sh.int .i64)],[]⟩ .nil))) .nil)) hv
end Go.Proofs.YtfglcgbgaeegaaaGreatDoor

namespace Go.Proofs.YtfglcgbgaeegaaaGreatDoor
open Go Go.Vcg Go.RowKit
attribute [local irreducible] Br
set_option maxHeartbeats 1000000 in
theorem check_used_w (b:Nat) (w:World) (h0:w.cell? ⟨b,0,none⟩=some (.pointer (some ⟨b,0,none⟩))) :
  Calls Tryz.prog 104 #[.pointer (some ⟨b,0,none⟩)] w fun e w' => e = .returned (.tuple #[])/\w' = w:=by
 obtain ⟨j,hj,_⟩:=Option.map_eq_some_iff.1 (show (Tryz.prog.info? 97).map (·.size)=some 2 by kernel_rfl)
 have L:=Tryz.lays169
 have mixed:Tryz.prog.follows .mixedOrders=true:=L.mixed
 have t72:Tryz.prog.underlying 97=_:=L.t72
 rw [show Tryz.lays169_ren.t 70=94 from rfl,show Tryz.lays169_ren.t 37=95 from rfl] at t72
 have a72 : ∀ w,(isAgg 97).run Tryz.prog w=_:=L.a72
 have z72 : ∀ w,(Go.sizeOf 97).run Tryz.prog w=_:=L.z72
 have u72:=run_underlying t72
 have t70:Tryz.prog.underlying 94=some (.pointer 97):=L.t70
 have a70 : ∀ w,(isAgg 94).run Tryz.prog w=_:=L.a70
 have z70 : ∀ w,(Go.sizeOf 94).run Tryz.prog w=_:=L.z70
 have u70:=run_underlying t70
 go_enter Tryz.func104,Tryz.ntmps104
 go_wp2
 rw [Lib.run_neq_ptr_same w _ t70 hj]
 go_wp2
 go_end0
 exact ⟨rfl,rfl⟩
set_option maxHeartbeats 1000000 in
theorem check_fresh_w (b:Nat) (w:World) (h0:w.cell? ⟨b,0,none⟩=some (.pointer none)) (hsh:w.shape? b=some (97,2)) (hfz:w.frozen? ⟨b,0,none⟩=false) :
  Calls Tryz.prog 104 #[.pointer (some ⟨b,0,none⟩)] w fun e w' => e = .returned (.tuple #[])/\w' = w.setCell ⟨b,0,none⟩ (.pointer (some ⟨b,0,none⟩)):=by
 obtain ⟨j,hj,hjs⟩:=Option.map_eq_some_iff.1 (show (Tryz.prog.info? 97).map (·.size)=some 2 by kernel_rfl)
 have L:=Tryz.lays169
 have mixed:Tryz.prog.follows .mixedOrders=true:=L.mixed
 have t72:Tryz.prog.underlying 97=_:=L.t72
 rw [show Tryz.lays169_ren.t 70=94 from rfl,show Tryz.lays169_ren.t 37=95 from rfl] at t72
 have a72 : ∀ w,(isAgg 97).run Tryz.prog w=_:=L.a72
 have z72 : ∀ w,(Go.sizeOf 97).run Tryz.prog w=_:=L.z72
 have u72:=run_underlying t72
 have t70:Tryz.prog.underlying 94=some (.pointer 97):=L.t70
 have a70 : ∀ w,(isAgg 94).run Tryz.prog w=_:=L.a70
 have z70 : ∀ w,(Go.sizeOf 94).run Tryz.prog w=_:=L.z70
 have u70:=run_underlying t70
 have t164:Tryz.prog.underlying 202=some .unsafePointer:=by kernel_rfl
 have u164:=run_underlying t164
 go_enter Tryz.func104,Tryz.ntmps104
 go_wp2
 rw [Lib.run_to_unsafe w ⟨b,0,none⟩ t70 t164 hj (by rw [hjs];decide) hsh (Nat.zero_lt_succ 1)]
 simp only [Result.andThen]
 rw [Oper.upon_value]
 go_wp2
 rw [run_callFunc_extern Tryz.func175 (by kernel_rfl) (by kernel_rfl) (by kernel_rfl) (e:=Extern.AbiNoEscape.same) (by kernel_rfl)]
 rw [Lib.run_noEscape]
 simp only [Result.andThen]
 rw [Oper.upon_value]
 go_wp2
 rw [Lib.run_from_unsafe w ⟨b,0,none⟩ t164 t70 hj hsh (by kernel_rfl)]
 simp only [Result.andThen]
 rw [Oper.upon_value]
 go_wp2
 go_end0
 exact ⟨rfl,rfl⟩
set_option maxHeartbeats 2000000 in
theorem str_w (b g cap:Nat) (p:Value) (l:List UInt8) (cur:Array Value) (fz:Nat×Nat) (w:World) (hbk:w.heap[b]?=some (.cells #[p,.slice (some ⟨g,0,none⟩) l.length cap] 97 (0,0)))
  (hg:w.heap[g]?=some (.cells cur 5 fz)) (h0:l≠[]) (hn:l.length<=cur.size) (hc:l.length<=cap) (h63:l.length<=140737488355328) (hcell : ∀ (j:Nat) (x:UInt8),l[j]?=some x->cur[j]?=some (Value.int .u8 (x.toNat:Int))) :
  Calls Tryz.prog 58 #[.pointer (some ⟨b,0,none⟩)] w fun e w' => e = .returned (.string ⟨l.toArray⟩)/\w' = w.drew.freeze ⟨g,0,none⟩ l.length:=by
 have hl0:l.length≠0:=by simpa using h0
 have c1:w.drew.cell? ⟨b,1,none⟩=some (.slice (some ⟨g,0,none⟩) l.length cap):=by
  have:w.drew.heap[b]?=some (.cells #[p,.slice (some ⟨g,0,none⟩) l.length cap] 97 (0,0)):=hbk
  rw [Lib.cell_of_heap this];rfl
 have hSD:(Builtin.unsafeSliceData_ #[95] 152 #[.slice (some ⟨g,0,none⟩) l.length cap]).run Tryz.prog w.drew = .ok (.pointer (some ⟨g,0,none⟩)) w.drew:=
  Lib.run_unsafeSliceData_row _ _ _ _ _ _ (by omega)
 have hg' : w.drew.heap[g]?=some (.cells cur 5 fz):=hg
 have hUS:(Builtin.unsafeString_ #[152,3] 9 #[.pointer (some ⟨g,0,none⟩),.int .i64 l.length]).run Tryz.prog w.drew = .ok (.string ⟨l.toArray⟩) (w.drew.freeze ⟨g,0,none⟩ l.length):=by
  refine Lib.run_unsafeString_row w.drew 152 3 9 5 (by kernel_rfl) (by kernel_rfl) g cur.size (by simp [World.shape?,hg']) l h0 hn (by omega) ?_
  intro j x hx
  have e:(⟨g,0,none⟩:Addr).add j=⟨g,j,none⟩:=by rw [addr_add_box];simp
  rw [e]
  simp only [World.cell?,hg']
  simpa using hcell j x hx
 have L:=Tryz.lays169
 have mixed:Tryz.prog.follows .mixedOrders=true:=L.mixed
 have t72:Tryz.prog.underlying 97=_:=L.t72
 rw [show Tryz.lays169_ren.t 70=94 from rfl,show Tryz.lays169_ren.t 37=95 from rfl] at t72
 have a72 : ∀ w,(isAgg 97).run Tryz.prog w=_:=L.a72
 have z72 : ∀ w,(Go.sizeOf 97).run Tryz.prog w=_:=L.z72
 have u72:=run_underlying t72
 have t70:Tryz.prog.underlying 94=some (.pointer 97):=L.t70
 have a70 : ∀ w,(isAgg 94).run Tryz.prog w=_:=L.a70
 have z70 : ∀ w,(Go.sizeOf 94).run Tryz.prog w=_:=L.z70
 have u70:=run_underlying t70
 have t37:Tryz.prog.underlying 95=some (.slice 5):=L.t37
 have a37 : ∀ w,(isAgg 95).run Tryz.prog w=_:=L.a37
 have z37 : ∀ w,(Go.sizeOf 95).run Tryz.prog w=_:=L.z37
 have u37:=run_underlying t37
 go_enter Tryz.func58,Tryz.ntmps58
 go_wp2
 go_region_o
 all_goals (go_wp2;go_ret;exact ⟨rfl,rfl⟩)
set_option maxHeartbeats 2000000 in
theorem str_nil_w (b:Nat) (p:Value) (w:World) (hbk:w.heap[b]?=some (.cells #[p,.slice none 0 0] 97 (0,0))) :
  Calls Tryz.prog 58 #[.pointer (some ⟨b,0,none⟩)] w fun e w' => e = .returned (.string ⟨#[]⟩)/\w' = w.drew:=by
 have hUS : ∀ (W:World) (q:Option Addr),(Builtin.unsafeString_ #[152,3] 9 #[.pointer q,.int .i64 0]).run Tryz.prog W = .ok (.string .empty) W:=fun W q=>Lib.run_unsafeString_none W _ _ _ q
 have c1:w.drew.cell? ⟨b,1,none⟩=some (.slice none 0 0):=by
  have:w.drew.heap[b]?=some (.cells #[p,.slice none 0 0] 97 (0,0)):=hbk
  rw [Lib.cell_of_heap this];rfl
 have hSD:(Builtin.unsafeSliceData_ #[95] 152 #[.slice none 0 0]).run Tryz.prog w.drew = .ok (.pointer none) w.drew:=rfl
 have L:=Tryz.lays169
 have mixed:Tryz.prog.follows .mixedOrders=true:=L.mixed
 have t72:Tryz.prog.underlying 97=_:=L.t72
 rw [show Tryz.lays169_ren.t 70=94 from rfl,show Tryz.lays169_ren.t 37=95 from rfl] at t72
 have a72 : ∀ w,(isAgg 97).run Tryz.prog w=_:=L.a72
 have z72 : ∀ w,(Go.sizeOf 97).run Tryz.prog w=_:=L.z72
 have u72:=run_underlying t72
 have t70:Tryz.prog.underlying 94=some (.pointer 97):=L.t70
 have a70 : ∀ w,(isAgg 94).run Tryz.prog w=_:=L.a70
 have z70 : ∀ w,(Go.sizeOf 94).run Tryz.prog w=_:=L.z70
 have u70:=run_underlying t70
 have t37:Tryz.prog.underlying 95=some (.slice 5):=L.t37
 have a37 : ∀ w,(isAgg 95).run Tryz.prog w=_:=L.a37
 have z37 : ∀ w,(Go.sizeOf 95).run Tryz.prog w=_:=L.z37
 have u37:=run_underlying t37
 go_enter Tryz.func58,Tryz.ntmps58
 go_wp2
 go_region_o
 all_goals (go_wp2;go_ret;exact ⟨rfl,rfl⟩)
end Go.Proofs.YtfglcgbgaeegaaaGreatDoor

namespace Go.Proofs.YtfglcgbgaeegaaaGreatDoor
open Go Go.Vcg
def strings_Builder_WriteString_vc (a:Addr) (b:ByteArray) (h:Heap) (R:Value->Heap->Prop):Prop:=
 CallsU Tryz.prog 104 [.pointer (some a)] h fun t u=>
 t = .tuple #[]/\
 ∃ c d e,LdN u (Addr.add a 1) [.slice c d e]/\
 (d+b.size<=e->Br (decide (b.size=0)) (∃ f:Blk,u (Addr.block (Addr.add a 1))=some f/\f.fz=(0,0)/\Addr.spot (Addr.add a 1)=none/\Addr.off (Addr.add a 1)+1<=f.cells.length/\
 ∀ k:Heap,k=Heap.put u (Addr.block (Addr.add a 1)) { f with cells:=setSeg f.cells (Addr.off (Addr.add a 1)) [.slice c (d+b.size) e] }->
 R (.tuple #[.int .i64 (b.size:Int),.nilIface]) k)
 (∃ (o:Addr) (p:Blk),c=some o/\o.spot=none/\u o.block=some p/\p.fz=(0,0)/\o.off+d*1+b.size*1<=p.cells.length/\
 ∀ l:Heap,l=Heap.put u o.block { p with cells:=setSeg p.cells (o.off+d*1) (strC b) }->
 ∃ g:Blk,l (Addr.block (Addr.add a 1))=some g/\g.fz=(0,0)/\Addr.spot (Addr.add a 1)=none/\Addr.off (Addr.add a 1)+1<=g.cells.length/\
 ∀ m:Heap,m=Heap.put l (Addr.block (Addr.add a 1)) { g with cells:=setSeg g.cells (Addr.off (Addr.add a 1)) [.slice c (d+b.size) e] }->
 R (.tuple #[.int .i64 (b.size:Int),.nilIface]) m))/\
 (e<d+b.size-> ∃ i:List Value,RdS u c (d*1) i/\(d+b.size)*1<=140737488355328/\
 ∀ (q r:Nat) (s:Heap),u q=none->d+b.size<=r->s=Heap.put u q ⟨i++strC b++repV [.int .u8 0] (r-(d+b.size)),5,(0,0)⟩->
 ∃ j:Blk,s (Addr.block (Addr.add a 1))=some j/\j.fz=(0,0)/\Addr.spot (Addr.add a 1)=none/\Addr.off (Addr.add a 1)+1<=j.cells.length/\
 ∀ n:Heap,n=Heap.put s (Addr.block (Addr.add a 1)) { j with cells:=setSeg j.cells (Addr.off (Addr.add a 1)) [.slice (some ⟨q,0,none⟩) (d+b.size) r] }->
 R (.tuple #[.int .i64 (b.size:Int),.nilIface]) n)
theorem strings_Builder_WriteString_ok {a:Addr} {b:ByteArray} {h:Heap} {R:Value->Heap->Prop} (hv:strings_Builder_WriteString_vc a b h R):CallsU Tryz.prog 56 [.pointer (some a),.string b] h R:=
 fn_ok Tryz.func56 (fun _=>false) .nil hv
def strings_Builder_Len_vc (a:Addr) (h:Heap) (R:Value->Heap->Prop):Prop:=
 ∃ b c d,LdN h (Addr.add a 1) [.slice b c d]/\
 R (.int .i64 (c:Int)) h
theorem strings_Builder_Len_ok {a:Addr} {h:Heap} {R:Value->Heap->Prop} (hv:strings_Builder_Len_vc a h R):CallsU Tryz.prog 57 [.pointer (some a)] h R:=
 fn_ok Tryz.func57 (fun _=>false) .nil hv
end Go.Proofs.YtfglcgbgaeegaaaGreatDoor

namespace Go.Proofs.YtfglcgbgaeegaaaGreatDoor
open Go Go.Vcg
attribute [local irreducible] Br
def Stays (h h' : Heap) (A:Option Addr):Prop:= ∀ k,h k≠none->(∀ ad,A=some ad->k≠ad.block)->h' k=h k
end Go.Proofs.YtfglcgbgaeegaaaGreatDoor
