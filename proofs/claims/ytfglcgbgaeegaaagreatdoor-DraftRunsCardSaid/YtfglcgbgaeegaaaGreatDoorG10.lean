/-
 Gathered texts of this proof: VcM,Cn13,Cn14,VcL.
-/
import Derived.Test.YtfglcgbgaeegaaaGreatDoorG03
import Derived.Test.YtfglcgbgaeegaaaGreatDoorChecked
import Derived.Test.YtfglcgbgaeegaaaGreatDoorG04
import Derived.Test.YtfglcgbgaeegaaaGreatDoorG09
import Derived.Test.YtfglcgbgaeegaaaGreatDoorG06
set_option maxRecDepth 100000

namespace Go.Proofs.YtfglcgbgaeegaaaGreatDoor
open Go Go.Vcg
def ref19_Places_vc (a:OA) (b _c:Nat) (d:OA) (e _f:Nat) (h:Heap) (R:Value->Heap->Prop):Prop:=
 Br ((b:Int) != (e:Int))
 (R (.bool false) h)
 (∃ g:Nat->Int->Heap->Prop,(∃ i,g i 0 h)/\
 ∀ (i:Nat) (c1:Int) (c2:Heap),g i c1 c2->
 Br (decide (c1<(b:Int)))
 (∃ j:Addr,a=some j/\0<=c1/\c1<(b:Int)/\
 ∃ k,LdN c2 (Addr.add (Addr.add j (Int.toNat c1*7)) 0) [.string k]/\
 ∃ l:Addr,d=some l/\0<=c1/\c1<(e:Int)/\
 ∃ m,LdN c2 (Addr.add (Addr.add l (Int.toNat c1*7)) 0) [.string m]/\
 Br (!(k.toList==m.toList))
 (R (.bool false) c2)
 (∃ n:Addr,a=some n/\0<=c1/\c1<(b:Int)/\
 ∃ o p q r s t u v w y z a0 a1 a2,LdN c2 (Addr.add (Addr.add n (Int.toNat c1*7)) 1) [.bool o,.slice p q r,.slice s t u,.bool v,.slice w y z,.slice a0 a1 a2]/\
 ∃ a3:Addr,d=some a3/\0<=c1/\c1<(e:Int)/\
 ∃ a4 a5 a6 a7 a8 a9 b0 b1 b2 b3 b4 b5 b6 b7,LdN c2 (Addr.add (Addr.add a3 (Int.toNat c1*7)) 1) [.bool a4,.slice a5 a6 a7,.slice a8 a9 b0,.bool b1,.slice b2 b3 b4,.slice b5 b6 b7]/\
 CallsU Tryz.prog 33 [.agg #[.bool o,.slice p q r,.slice s t u,.bool v,.slice w y z,.slice a0 a1 a2],.agg #[.bool a4,.slice a5 a6 a7,.slice a8 a9 b0,.bool b1,.slice b2 b3 b4,.slice b5 b6 b7]] c2 fun c3 c4=>
 ∃ b8,c3 = .bool b8/\
 Br (!b8)
 (R (.bool false) c4)
 (∀ c0:Int,c0=IntKind.i64.wrap (c1+1)->
 ∃ b9,b9<i/\g b9 c0 c4)))
 (R (.bool true) c2))
theorem ref19_Places_ok {a:OA} {b c:Nat} {d:OA} {e f:Nat} {h:Heap} {R:Value->Heap->Prop} (hv:ref19_Places_vc a b c d e f h R):CallsU Tryz.prog 21 [.slice a b c,.slice d e f] h R:=
 fn_ok Tryz.func21 (fun _=>false) (.two .nil (.two .nil (.two (.two .nil (.one (.loop ⟨[(5,Sh.int .i64)],[]⟩ (.two .nil (.two (.one (.two (.ord [0,1,2,3,4,5,6,7,8,9,10,11,12,13,14,15,16,17,18,19,20,21,22,23,24]) .nil)) .nil))))) .nil))) hv
def ref19_Light_vc (a:OA) (b _c:Nat) (h:Heap) (R:Value->Heap->Prop):Prop:=
 Br (decide ((b:Int)>70))
 (R (.bool false) h)
 (∃ d:Nat->Int->Heap->Prop,(∃ e,d e 0 h)/\
 ∀ (e:Nat) (d4:Int) (d5:Heap),d e d4 d5->
 Br (decide (d4<(b:Int)))
 (∃ f:Bool->Heap->Prop,(∀ (d6:Bool) (d7:Heap),f d6 d7->
 Br (d6)
 (R (.bool false) d7)
 (∃ g:Nat->Int->Heap->Prop,(∃ i,g i 0 d7)/\
 ∀ (i:Nat) (d8:Int) (d9:Heap),g i d8 d9->
 ∃ j:Addr,a=some j/\0<=d4/\d4<(b:Int)/\
 ∃ k l m,LdN d9 (Addr.add (Addr.add j (Int.toNat d4*4)) 2) [.slice k l m]/\
 Br (decide (d8<(l:Int)))
 (∃ n:Addr,a=some n/\0<=d4/\d4<(b:Int)/\
 ∃ o p q,LdN d9 (Addr.add (Addr.add n (Int.toNat d4*4)) 2) [.slice o p q]/\
 ∃ r:Addr,o=some r/\0<=d8/\d8<(p:Int)/\
 ∃ s,LdN d9 (Addr.add r (Int.toNat d8*1)) [.string s]/\
 Br (decide ((s.size:Int)>100))
 (R (.bool false) d9)
 (∀ d1:Int,d1=IntKind.i64.wrap (d8+1)->
 ∃ t,t<i/\g t d1 d9))
 (∃ u:Nat->Int->Heap->Prop,(∃ v,u v 0 d9)/\
 ∀ (v:Nat) (e0:Int) (e1:Heap),u v e0 e1->
 ∃ w:Addr,a=some w/\0<=d4/\d4<(b:Int)/\
 ∃ y z a0,LdN e1 (Addr.add (Addr.add w (Int.toNat d4*4)) 3) [.slice y z a0]/\
 Br (decide (e0<(z:Int)))
 (∃ a1:Addr,a=some a1/\0<=d4/\d4<(b:Int)/\
 ∃ a2 a3 a4,LdN e1 (Addr.add (Addr.add a1 (Int.toNat d4*4)) 3) [.slice a2 a3 a4]/\
 ∃ a5:Addr,a2=some a5/\0<=e0/\e0<(a3:Int)/\
 ∃ a6 a7 a8 a9 b0 b1 b2 b3 b4 b5 b6 b7,LdN e1 (Addr.add a5 (Int.toNat e0*6)) [.int .i64 a6,.bool a7,.slice a8 a9 b0,.slice b1 b2 b3,.string b4,.slice b5 b6 b7]/\
 CallsU Tryz.prog 45 [.agg #[.int .i64 a6,.bool a7,.slice a8 a9 b0,.slice b1 b2 b3,.string b4,.slice b5 b6 b7]] e1 fun e2 e3=>
 ∃ b8,e2 = .bool b8/\
 Br (!b8)
 (R (.bool false) e3)
 (∀ d2:Int,d2=IntKind.i64.wrap (e0+1)->
 ∃ b9,b9<v/\u b9 d2 e3))
 (∀ d3:Int,d3=IntKind.i64.wrap (d4+1)->
 ∃ c0,c0<e/\d c0 d3 e1))))/\
 ∃ c1:Addr,a=some c1/\0<=d4/\d4<(b:Int)/\
 ∃ c2,LdN d5 (Addr.add (Addr.add c1 (Int.toNat d4*4)) 0) [.string c2]/\
 Br (decide ((c2.size:Int)>100))
 (f true d5)
 (∃ c3:Addr,a=some c3/\0<=d4/\d4<(b:Int)/\
 ∃ c4 c5 c6,LdN d5 (Addr.add (Addr.add c3 (Int.toNat d4*4)) 2) [.slice c4 c5 c6]/\
 Br (decide ((c5:Int)>6))
 (f true d5)
 (∃ c7:Addr,a=some c7/\0<=d4/\d4<(b:Int)/\
 ∃ c8 c9 d0,LdN d5 (Addr.add (Addr.add c7 (Int.toNat d4*4)) 3) [.slice c8 c9 d0]/\
 f (decide ((c9:Int)>4)) d5)))
 (R (.bool true) d5))
theorem ref19_Light_ok {a:OA} {b c:Nat} {h:Heap} {R:Value->Heap->Prop} (hv:ref19_Light_vc a b c h R):CallsU Tryz.prog 22 [.slice a b c] h R:=
 fn_ok Tryz.func22 (fun _=>false) (.two .nil (.two .nil (.two (.two .nil (.one (.loop ⟨[(3,Sh.int .i64)],[]⟩ (.two .nil (.two (.one (.two (.cut ⟨[(39,Sh.bool)],[]⟩ .nil .nil) (.two (.two .nil (.one (.loop ⟨[(4,Sh.int .i64)],[]⟩ .nil))) (.two .nil (.one (.loop ⟨[(5,Sh.int .i64)],[]⟩ .nil)))))) .nil))))) .nil))) hv
def ref19_Run_vc (a:OA) (b c:Nat) (d:OA) (e f:Nat) (h:Heap) (R:Value->Heap->Prop):Prop:=
 CallsU Tryz.prog 46 [.slice a b c] h fun k6 k7=>
 ∃ g i,k6 = .tuple #[.int .i64 g,.int .i64 i]/\
 Br ((g:Int) != 0)
 (R (.tuple #[.slice none 0 0,.int .i64 g,.int .i64 i]) k7)
 (∃ j:Nat->OA->Nat->Nat->Int->Heap->Prop,(∃ k,j k none 0 0 0 k7)/\
 ∀ (k:Nat) (i0:OA) (i1 i2:Nat) (i3:Int) (i4:Heap),j k i0 i1 i2 i3 i4->
 Br (decide (i3<(b:Int)))
 (∃ l:Nat->OA->Nat->Nat->Int->Heap->Prop,(∃ m,l m none 0 0 0 i4)/\
 ∀ (m:Nat) (i5:OA) (i6 i7:Nat) (i8:Int) (i9:Heap),l m i5 i6 i7 i8 i9->
 ∃ n:Addr,a=some n/\0<=i3/\i3<(b:Int)/\
 ∃ o p q,LdN i9 (Addr.add (Addr.add n (Int.toNat i3*4)) 3) [.slice o p q]/\
 Br (decide (i8<(p:Int)))
 (∃ r:Addr,a=some r/\0<=i3/\i3<(b:Int)/\
 ∃ s t u,LdN i9 (Addr.add (Addr.add r (Int.toNat i3*4)) 3) [.slice s t u]/\
 ∃ v:Addr,s=some v/\0<=i8/\i8<(t:Int)/\
 ∃ w y z a0 a1 a2 a3 a4 a5 a6 a7 a8,LdN i9 (Addr.add v (Int.toNat i8*6)) [.int .i64 w,.bool y,.slice z a0 a1,.slice a2 a3 a4,.string a5,.slice a6 a7 a8]/\
 CallsU Tryz.prog 60 [.agg #[.int .i64 w,.bool y,.slice z a0 a1,.slice a2 a3 a4,.string a5,.slice a6 a7 a8],.slice d e f] i9 fun k8 k9=>
 ∃ a9 b0 b1 b2 b3 b4 b5 b6,k8 = .tuple #[.agg #[.bool a9,.slice b0 b1 b2,.slice b3 b4 b5],.int .i64 b6]/\
 Br ((b6:Int) != 0)
 (R (.tuple #[.slice none 0 0,.int .i64 b6,.int .i64 i3]) k9)
 (∀ (j0:Nat) (j1:Heap),k9 j0=none->j1=Heap.put k9 j0 ⟨[.bool a9,.slice b0 b1 b2,.slice b3 b4 b5],36,(0,0)⟩->
 ∃ b7:List Value,RdS j1 (some ⟨j0,0,none⟩) (1*3) b7/\(∀ x∈b7,Go.Vcg.one x=true)/\
 (i6+1<=i7-> ∃ (j2:Addr) (j3:Blk),i5=some j2/\j2.spot=none/\j1 j2.block=some j3/\j3.fz=(0,0)/\j2.off+i6*3+1*3<=j3.cells.length/\
 ∀ g4:Heap,g4=Heap.put j1 j2.block { j3 with cells:=setSeg j3.cells (j2.off+i6*3) b7 }->
 ∀ g5:Int,g5=IntKind.i64.wrap (i8+1)->
 ∃ b8,b8<m/\l b8 i5 (i6+1) i7 g5 g4)/\
 (i7<i6+1-> ∃ b9:List Value,RdS j1 i5 (i6*3) b9/\(i6+1)*56<=140737488355328/\
 ∀ (j4 j5:Nat) (j6:Heap),j1 j4=none->i6+1<=j5->j6=Heap.put j1 j4 ⟨b9++b7++repV [.bool false,.slice none 0 0,.slice none 0 0] (j5-(i6+1)),36,(0,0)⟩->
 ∀ g6:Int,g6=IntKind.i64.wrap (i8+1)->
 ∃ b8,b8<m/\l b8 (some ⟨j4,0,none⟩) (i6+1) j5 g6 j6)))
 (∃ c0:Addr,a=some c0/\0<=i3/\i3<(b:Int)/\
 ∃ c1 c2 c3 c4 c5 c6 c7 c8,LdN i9 (Addr.add c0 (Int.toNat i3*4)) [.string c1,.int .i64 c2,.slice c3 c4 c5,.slice c6 c7 c8]/\
 ∃ c9:Addr,a=some c9/\0<=i3/\i3<(b:Int)/\
 ∃ d0 d1 d2 d3 d4 d5 d6 d7,LdN i9 (Addr.add c9 (Int.toNat i3*4)) [.string d0,.int .i64 d1,.slice d2 d3 d4,.slice d5 d6 d7]/\
 CallsU Tryz.prog 62 [.slice a b c,.slice i0 i1 i2,.agg #[.string d0,.int .i64 d1,.slice d2 d3 d4,.slice d5 d6 d7]] i9 fun l0 l1=>
 ∃ d8 d9 e0,l0 = .slice d8 d9 e0/\
 LeH i9 l1/\
 CallsU Tryz.prog 61 [.agg #[.string c1,.int .i64 c2,.slice c3 c4 c5,.slice c6 c7 c8],.slice d8 d9 e0,.slice i5 i6 i7] l1 fun l2 l3=>
 ∃ e1 e2 e3 e4 e5 e6 e7 e8 e9 f0 f1 f2 f3 f4 f5,l2 = .tuple #[.agg #[.bool e1,.slice e2 e3 e4,.slice e5 e6 e7,.bool e8,.slice e9 f0 f1,.slice f2 f3 f4],.int .i64 f5]/\
 Br ((f5:Int) != 0)
 (R (.tuple #[.slice none 0 0,.int .i64 f5,.int .i64 i3]) l3)
 (∃ f6:Bool->Heap->Prop,(∀ (j7:Bool) (j8:Heap),f6 j7 j8->
 Br (j7)
 (R (.tuple #[.slice none 0 0,.int .i64 5,.int .i64 i3]) j8)
 (∃ f7:Addr,a=some f7/\0<=i3/\i3<(b:Int)/\
 ∃ f8,LdN j8 (Addr.add (Addr.add f7 (Int.toNat i3*4)) 0) [.string f8]/\
 ∀ (j9:Nat) (k0:Heap),j8 j9=none->k0=Heap.put j8 j9 ⟨[.string f8,.bool e1,.slice e2 e3 e4,.slice e5 e6 e7,.bool e8,.slice e9 f0 f1,.slice f2 f3 f4],53,(0,0)⟩->
 ∃ f9:List Value,RdS k0 (some ⟨j9,0,none⟩) (1*7) f9/\(∀ x∈f9,Go.Vcg.one x=true)/\
 (i1+1<=i2-> ∃ (k1:Addr) (k2:Blk),i0=some k1/\k1.spot=none/\k0 k1.block=some k2/\k2.fz=(0,0)/\k1.off+i1*7+1*7<=k2.cells.length/\
 ∀ g7:Heap,g7=Heap.put k0 k1.block { k2 with cells:=setSeg k2.cells (k1.off+i1*7) f9 }->
 ∀ g8:Int,g8=IntKind.i64.wrap (i3+1)->
 ∃ g0,g0<k/\j g0 i0 (i1+1) i2 g8 g7)/\
 (i2<i1+1-> ∃ g1:List Value,RdS k0 i0 (i1*7) g1/\(i1+1)*128<=140737488355328/\
 ∀ (k3 k4:Nat) (k5:Heap),k0 k3=none->i1+1<=k4->k5=Heap.put k0 k3 ⟨g1++f9++repV [.string ByteArray.empty,.bool false,.slice none 0 0,.slice none 0 0,.bool false,.slice none 0 0,.slice none 0 0] (k4-(i1+1)),53,(0,0)⟩->
 ∀ g9:Int,g9=IntKind.i64.wrap (i3+1)->
 ∃ g0,g0<k/\j g0 (some ⟨k3,0,none⟩) (i1+1) k4 g9 k5)))/\
 CallsU Tryz.prog 63 [.agg #[.bool e1,.slice e2 e3 e4,.slice e5 e6 e7]] l3 fun l4 l5=>
 ∃ g2,l4 = .bool g2/\
 Br (!g2)
 (f6 true l5)
 (CallsU Tryz.prog 63 [.agg #[.bool e8,.slice e9 f0 f1,.slice f2 f3 f4]] l5 fun l6 l7=>
 ∃ g3,l6 = .bool g3/\
 f6 (!g3) l7))))
 (R (.tuple #[.slice i0 i1 i2,.int .i64 0,.int .i64 0]) i4))
theorem ref19_Run_ok {a:OA} {b c:Nat} {d:OA} {e f:Nat} {h:Heap} {R:Value->Heap->Prop} (hv:ref19_Run_vc a b c d e f h R):CallsU Tryz.prog 29 [.slice a b c,.slice d e f] h R:=
 fn_ok Tryz.func29 (fun _=>false) (.two .nil (.two .nil (.two .nil (.two (.two .nil (.one (.loop ⟨[(9,Sh.slice),(10,Sh.int .i64)],[]⟩ (.two .nil (.two (.one (.two .nil (.two (.two .nil (.one (.loop ⟨[(11,Sh.slice),(12,Sh.int .i64)],[]⟩ .nil))) (.two (.ord [0,1,2,3,4,5,6,7,8,9,11,10,12,13,14,15,16,17,18]) (.two .nil (.two (.cut ⟨[(92,Sh.bool)],[]⟩ .nil .nil) (.ord [0,1,2,3,4,5,6,7,8,9,10]))))))) .nil))))) .nil)))) hv
def ref17_Brief_vc (a:OA) (b _c:Nat) (h:Heap) (R:Value->Heap->Prop):Prop:=
 ∃ d:Nat->Int->Heap->Prop,(∃ e,d e 0 h)/\
 ∀ (e:Nat) (t:Int) (u:Heap),d e t u->
 ∃ f:Bool->Heap->Prop,(∀ (v:Bool) (w:Heap),f v w->
 Br (v)
 (∃ g:Addr,a=some g/\0<=t/\t<(b:Int)/\
 ∃ i,LdN w (Addr.add (Addr.add g (Int.toNat t*4)) 0) [.string i]/\
 Br (decide ((i.size:Int)>60))
 (R (.bool false) w)
 (∃ j:Addr,a=some j/\0<=t/\t<(b:Int)/\
 ∃ k l m,LdN w (Addr.add (Addr.add (Addr.add (Addr.add j (Int.toNat t*4)) 1) 0) 1) [.slice k l m]/\
 Br (decide ((l:Int)>2))
 (R (.bool false) w)
 (∃ n:Addr,a=some n/\0<=t/\t<(b:Int)/\
 ∃ o p q,LdN w (Addr.add (Addr.add (Addr.add n (Int.toNat t*4)) 1) 2) [.slice o p q]/\
 Br (decide ((p:Int)>2))
 (R (.bool false) w)
 (∀ s:Int,s=IntKind.i64.wrap (t+1)->
 ∃ r,r<e/\d r s w))))
 (R (.bool (decide ((b:Int)<=20))) w))/\
 Br (decide (t<(b:Int)))
 (f (decide (t<=20)) u)
 (f false u)
theorem ref17_Brief_ok {a:OA} {b c:Nat} {h:Heap} {R:Value->Heap->Prop} (hv:ref17_Brief_vc a b c h R):CallsU Tryz.prog 30 [.slice a b c] h R:=
 fn_ok Tryz.func30 (fun _=>false) (.two .nil (.two (.two .nil (.one (.loop ⟨[(3,Sh.int .i64)],[]⟩ (.two (.cut ⟨[(11,Sh.bool)],[]⟩ .nil .nil) .nil)))) .nil)) hv
def ref08_Exact_vc (a:Bool) (b:OA) (c d:Nat) (e:OA) (f g:Nat) (i:Bool) (j:OA) (k l:Nat) (m:OA) (n o:Nat) (p:Bool) (q:OA) (r s:Nat) (t:OA) (u v:Nat) (w:Bool) (y:OA) (z a0:Nat) (a1:OA) (a2 a3:Nat) (h:Heap) (R:Value->Heap->Prop):Prop:=
 CallsU Tryz.prog 66 [.agg #[.bool a,.slice b c d,.slice e f g],.agg #[.bool p,.slice q r s,.slice t u v]] h fun a6 a7=>
 ∃ a4,a6 = .bool a4/\
 Br (a4)
 (CallsU Tryz.prog 66 [.agg #[.bool i,.slice j k l,.slice m n o],.agg #[.bool w,.slice y z a0,.slice a1 a2 a3]] a7 fun a8 a9=>
 ∃ a5,a8 = .bool a5/\
 R (.bool a5) a9)
 (R (.bool false) a7)
theorem ref08_Exact_ok {a:Bool} {b:OA} {c d:Nat} {e:OA} {f g:Nat} {i:Bool} {j:OA} {k l:Nat} {m:OA} {n o:Nat} {p:Bool} {q:OA} {r s:Nat} {t:OA} {u v:Nat} {w:Bool} {y:OA} {z a0:Nat} {a1:OA} {a2 a3:Nat} {h:Heap} {R:Value->Heap->Prop} (hv:ref08_Exact_vc a b c d e f g i j k l m n o p q r s t u v w y z a0 a1 a2 a3 h R):CallsU Tryz.prog 33 [.agg #[.bool a,.slice b c d,.slice e f g,.bool i,.slice j k l,.slice m n o],.agg #[.bool p,.slice q r s,.slice t u v,.bool w,.slice y z a0,.slice a1 a2 a3]] h R:=
 fn_ok Tryz.func33 (fun _=>false) .nil hv
def ref08_Of_vc (a:Int) (b:Int) (h:Heap) (R:Value->Heap->Prop):Prop:=
 CallsU Tryz.prog 67 [.int .i64 a] h fun r s=>
 ∃ c d e f g i j,r = .agg #[.bool c,.slice d e f,.slice g i j]/\
 CallsU Tryz.prog 67 [.int .i64 b] s fun t u=>
 ∃ k l m n o p q,t = .agg #[.bool k,.slice l m n,.slice o p q]/\
 R (.agg #[.bool c,.slice d e f,.slice g i j,.bool k,.slice l m n,.slice o p q]) u
theorem ref08_Of_ok {a:Int} {b:Int} {h:Heap} {R:Value->Heap->Prop} (hv:ref08_Of_vc a b h R):CallsU Tryz.prog 34 [.int .i64 a,.int .i64 b] h R:=
 fn_ok Tryz.func34 (fun _=>false) .nil hv
def ref08_Add_vc (a:Bool) (b:OA) (c d:Nat) (e:OA) (f g:Nat) (i:Bool) (j:OA) (k l:Nat) (m:OA) (n o:Nat) (p:Bool) (q:OA) (r s:Nat) (t:OA) (u v:Nat) (w:Bool) (y:OA) (z a0:Nat) (a1:OA) (a2 a3:Nat) (h:Heap) (R:Value->Heap->Prop):Prop:=
 CallsU Tryz.prog 68 [.agg #[.bool a,.slice b c d,.slice e f g],.agg #[.bool p,.slice q r s,.slice t u v]] h fun b8 b9=>
 ∃ a4 a5 a6 a7 a8 a9 b0,b8 = .agg #[.bool a4,.slice a5 a6 a7,.slice a8 a9 b0]/\
 LeH h b9/\
 CallsU Tryz.prog 68 [.agg #[.bool i,.slice j k l,.slice m n o],.agg #[.bool w,.slice y z a0,.slice a1 a2 a3]] b9 fun c0 c1=>
 ∃ b1 b2 b3 b4 b5 b6 b7,c0 = .agg #[.bool b1,.slice b2 b3 b4,.slice b5 b6 b7]/\
 R (.agg #[.bool a4,.slice a5 a6 a7,.slice a8 a9 b0,.bool b1,.slice b2 b3 b4,.slice b5 b6 b7]) c1
theorem ref08_Add_ok {a:Bool} {b:OA} {c d:Nat} {e:OA} {f g:Nat} {i:Bool} {j:OA} {k l:Nat} {m:OA} {n o:Nat} {p:Bool} {q:OA} {r s:Nat} {t:OA} {u v:Nat} {w:Bool} {y:OA} {z a0:Nat} {a1:OA} {a2 a3:Nat} {h:Heap} {R:Value->Heap->Prop} (hv:ref08_Add_vc a b c d e f g i j k l m n o p q r s t u v w y z a0 a1 a2 a3 h R):CallsU Tryz.prog 35 [.agg #[.bool a,.slice b c d,.slice e f g,.bool i,.slice j k l,.slice m n o],.agg #[.bool p,.slice q r s,.slice t u v,.bool w,.slice y z a0,.slice a1 a2 a3]] h R:=
 fn_ok Tryz.func35 (fun _=>false) (.two .nil (.two (.ord [0,1,2,3,5,6,7,8,4,9,10,11]) .nil)) hv
def ref03_Of_vc (a:Int) (b:Int) (h:Heap) (R:Value->Heap->Prop):Prop:=
 Br ((b:Int)==0)
 (R (.tuple #[.agg #[.bool false,.slice none 0 0,.slice none 0 0],.bool false]) h)
 (CallsU Tryz.prog 69 [.int .i64 a] h fun s t=>
 ∃ c d e f,s = .agg #[.bool c,.slice d e f]/\
 CallsU Tryz.prog 69 [.int .i64 b] t fun u v=>
 ∃ g i j k,u = .agg #[.bool g,.slice i j k]/\
 CallsU Tryz.prog 70 [.bool (!(c==g)),.slice d e f,.slice i j k] v fun w y=>
 ∃ l m n o p q r,w = .agg #[.bool l,.slice m n o,.slice p q r]/\
 R (.tuple #[.agg #[.bool l,.slice m n o,.slice p q r],.bool true]) y)
theorem ref03_Of_ok {a:Int} {b:Int} {h:Heap} {R:Value->Heap->Prop} (hv:ref03_Of_vc a b h R):CallsU Tryz.prog 36 [.int .i64 a,.int .i64 b] h R:=
 fn_ok Tryz.func36 (fun _=>false) .nil hv
def ref17_Small_vc (a:Int) (b:Bool) (c:OA) (d e:Nat) (f:OA) (g i:Nat) (j:ByteArray) (k:OA) (l m:Nat) (h:Heap) (R:Value->Heap->Prop):Prop:=
 CallsU Tryz.prog 88 [.agg #[.int .i64 a,.bool b,.slice c d e,.slice f g i,.string j,.slice k l m],.int .i64 60,.int .i64 20] h fun o p=>
 ∃ n,o = .int .i64 n/\
 R (.bool (decide (n>=0))) p
theorem ref17_Small_ok {a:Int} {b:Bool} {c:OA} {d e:Nat} {f:OA} {g i:Nat} {j:ByteArray} {k:OA} {l m:Nat} {h:Heap} {R:Value->Heap->Prop} (hv:ref17_Small_vc a b c d e f g i j k l m h R):CallsU Tryz.prog 45 [.agg #[.int .i64 a,.bool b,.slice c d e,.slice f g i,.string j,.slice k l m]] h R:=
 fn_ok Tryz.func45 (fun _=>false) .nil hv
def ref19_check_vc (a:OA) (b c:Nat) (h:Heap) (R:Value->Heap->Prop):Prop:=
 Br (decide ((b:Int)>64))
 (R (.tuple #[.int .i64 5,.int .i64 64]) h)
 (∃ d:Nat->Int->Heap->Prop,(∃ e,d e 0 h)/\
 ∀ (e:Nat) (a3:Int) (a4:Heap),d e a3 a4->
 Br (decide (a3<(b:Int)))
 (∃ f:Addr,a=some f/\0<=a3/\a3<(b:Int)/\
 ∃ g i j k l m n o,LdN a4 (Addr.add f (Int.toNat a3*4)) [.string g,.int .i64 i,.slice j k l,.slice m n o]/\
 CallsU Tryz.prog 89 [.agg #[.string g,.int .i64 i,.slice j k l,.slice m n o]] a4 fun a5 a6=>
 ∃ p,a5 = .int .i64 p/\
 Br ((p:Int) != 0)
 (R (.tuple #[.int .i64 p,.int .i64 a3]) a6)
 (((0:Nat):Int)<=a3/\a3<=(c:Int)/\
 ∃ q:Addr,a=some q/\0<=a3/\a3<(b:Int)/\
 ∃ r s t u v w y z,LdN a6 (Addr.add q (Int.toNat a3*4)) [.string r,.int .i64 s,.slice t u v,.slice w y z]/\
 CallsU Tryz.prog 52 [.slice a (Int.toNat a3) c,.agg #[.string r,.int .i64 s,.slice t u v,.slice w y z]] a6 fun a7 a8=>
 ∃ a0,a7 = .int .i64 a0/\
 Br ((a0:Int) != 0)
 (R (.tuple #[.int .i64 a0,.int .i64 a3]) a8)
 (∀ a2:Int,a2=IntKind.i64.wrap (a3+1)->
 ∃ a1,a1<e/\d a1 a2 a8)))
 (R (.tuple #[.int .i64 0,.int .i64 0]) a4))
theorem ref19_check_ok {a:OA} {b c:Nat} {h:Heap} {R:Value->Heap->Prop} (hv:ref19_check_vc a b c h R):CallsU Tryz.prog 46 [.slice a b c] h R:=
 fn_ok Tryz.func46 (fun _=>false) (.two .nil (.two .nil (.two (.two .nil (.one (.loop ⟨[(4,Sh.int .i64)],[]⟩ (.two .nil (.two (.one (.two .nil (.two (.ord [0,1,2,3,4,5,6,7,8]) .nil))) .nil))))) .nil))) hv
def ref19_known_vc (a:OA) (b c:Nat) (d:ByteArray) (_e:Int) (f:OA) (g _i:Nat) (_j:OA) (_k _l:Nat) (h:Heap) (R:Value->Heap->Prop):Prop:=
 CallsU Tryz.prog 100 [.slice a b c,.string d] h fun w y=>
 ∃ m,w = .int .i64 m/\
 Br (decide (m>=0))
 (R (.int .i64 7) y)
 (∃ n:Nat->Int->Heap->Prop,(∃ o,n o 0 y)/\
 ∀ (o:Nat) (u:Int) (v:Heap),n o u v->
 Br (decide (u<(g:Int)))
 (∃ p:Addr,f=some p/\0<=u/\u<(g:Int)/\
 ∃ q,LdN v (Addr.add p (Int.toNat u*1)) [.string q]/\
 CallsU Tryz.prog 100 [.slice a b c,.string q] v fun z a0=>
 ∃ r,z = .int .i64 r/\
 Br (decide (r<0))
 (R (.int .i64 6) a0)
 (∀ t:Int,t=IntKind.i64.wrap (u+1)->
 ∃ s,s<o/\n s t a0))
 (R (.int .i64 0) v))
theorem ref19_known_ok {a:OA} {b c:Nat} {d:ByteArray} {e:Int} {f:OA} {g i:Nat} {j:OA} {k l:Nat} {h:Heap} {R:Value->Heap->Prop} (hv:ref19_known_vc a b c d e f g i j k l h R):CallsU Tryz.prog 52 [.slice a b c,.agg #[.string d,.int .i64 e,.slice f g i,.slice j k l]] h R:=
 fn_ok Tryz.func52 (fun _=>false) (.two .nil (.two .nil (.two (.two .nil (.one (.loop ⟨[(5,Sh.int .i64)],[]⟩ .nil))) .nil))) hv
def ref17_Eval_vc (a:Int) (b:Bool) (c:OA) (d e:Nat) (f:OA) (g i:Nat) (j:ByteArray) (k:OA) (l m:Nat) (n:OA) (o p:Nat) (h:Heap) (R:Value->Heap->Prop):Prop:=
 CallsU Tryz.prog 107 [.agg #[.int .i64 a,.bool b,.slice c d e,.slice f g i,.string j,.slice k l m]] h fun a0 a1=>
 ∃ q,a0 = .int .i64 q/\
 Br ((q:Int) != 0)
 (R (.tuple #[.agg #[.bool false,.slice none 0 0,.slice none 0 0],.int .i64 q]) a1)
 (CallsU Tryz.prog 108 [.agg #[.int .i64 a,.bool b,.slice c d e,.slice f g i,.string j,.slice k l m],.slice n o p] a1 fun a2 a3=>
 ∃ r s t u v w y z,a2 = .tuple #[.agg #[.bool r,.slice s t u,.slice v w y],.int .i64 z]/\
 R (.tuple #[.agg #[.bool r,.slice s t u,.slice v w y],.int .i64 z]) a3)
theorem ref17_Eval_ok {a:Int} {b:Bool} {c:OA} {d e:Nat} {f:OA} {g i:Nat} {j:ByteArray} {k:OA} {l m:Nat} {n:OA} {o p:Nat} {h:Heap} {R:Value->Heap->Prop} (hv:ref17_Eval_vc a b c d e f g i j k l m n o p h R):CallsU Tryz.prog 60 [.agg #[.int .i64 a,.bool b,.slice c d e,.slice f g i,.string j,.slice k l m],.slice n o p] h R:=
 fn_ok Tryz.func60 (fun _=>false) .nil hv
def ref19_place_vc (_a:ByteArray) (b:Int) (_c:OA) (_d _e:Nat) (_f:OA) (_g _i:Nat) (j:OA) (k _l:Nat) (m:OA) (n _o:Nat) (h:Heap) (R:Value->Heap->Prop):Prop:=
 Br ((b:Int)==1)
 (∃ p:Addr,m=some p/\0<=(0:Int)/\(0:Int)<(n:Int)/\
 ∃ q r s t u v w,LdN h (Addr.add p (0*3)) [.bool q,.slice r s t,.slice u v w]/\
 ∃ y:Addr,m=some y/\0<=(1:Int)/\(1:Int)<(n:Int)/\
 ∃ z a0 a1 a2 a3 a4 a5,LdN h (Addr.add y (1*3)) [.bool z,.slice a0 a1 a2,.slice a3 a4 a5]/\
 R (.tuple #[.agg #[.bool q,.slice r s t,.slice u v w,.bool z,.slice a0 a1 a2,.slice a3 a4 a5],.int .i64 0]) h)
 (Br ((b:Int)==2)
 (∃ a6:Addr,j=some a6/\0<=(0:Int)/\(0:Int)<(k:Int)/\
 ∃ a7 a8 a9 b0 b1 b2 b3 b4 b5 b6 b7 b8 b9 c0,LdN h (Addr.add a6 (0*6)) [.bool a7,.slice a8 a9 b0,.slice b1 b2 b3,.bool b4,.slice b5 b6 b7,.slice b8 b9 c0]/\
 ∃ c1:Addr,m=some c1/\0<=(0:Int)/\(0:Int)<(n:Int)/\
 ∃ c2 c3 c4 c5 c6 c7 c8,LdN h (Addr.add c1 (0*3)) [.bool c2,.slice c3 c4 c5,.slice c6 c7 c8]/\
 ∃ c9:Addr,m=some c9/\0<=(1:Int)/\(1:Int)<(n:Int)/\
 ∃ d0 d1 d2 d3 d4 d5 d6,LdN h (Addr.add c9 (1*3)) [.bool d0,.slice d1 d2 d3,.slice d4 d5 d6]/\
 CallsU Tryz.prog 35 [.agg #[.bool a7,.slice a8 a9 b0,.slice b1 b2 b3,.bool b4,.slice b5 b6 b7,.slice b8 b9 c0],.agg #[.bool c2,.slice c3 c4 c5,.slice c6 c7 c8,.bool d0,.slice d1 d2 d3,.slice d4 d5 d6]] h fun af8 af9=>
 ∃ d7 d8 d9 e0 e1 e2 e3 e4 e5 e6 e7 e8 e9 f0,af8 = .agg #[.bool d7,.slice d8 d9 e0,.slice e1 e2 e3,.bool e4,.slice e5 e6 e7,.slice e8 e9 f0]/\
 R (.tuple #[.agg #[.bool d7,.slice d8 d9 e0,.slice e1 e2 e3,.bool e4,.slice e5 e6 e7,.slice e8 e9 f0],.int .i64 0]) af9)
 (Br ((b:Int)==3)
 (∃ f1:Addr,j=some f1/\0<=(0:Int)/\(0:Int)<(k:Int)/\
 ∃ f2 f3 f4 f5 f6 f7 f8 f9 g0 g1 g2 g3 g4 g5,LdN h (Addr.add f1 (0*6)) [.bool f2,.slice f3 f4 f5,.slice f6 f7 f8,.bool f9,.slice g0 g1 g2,.slice g3 g4 g5]/\
 ∃ g6:Addr,j=some g6/\0<=(1:Int)/\(1:Int)<(k:Int)/\
 ∃ g7 g8 g9 i0 i1 i2 i3 i4 i5 i6 i7 i8 i9 j0,LdN h (Addr.add g6 (1*6)) [.bool g7,.slice g8 g9 i0,.slice i1 i2 i3,.bool i4,.slice i5 i6 i7,.slice i8 i9 j0]/\
 ∃ j1:Addr,m=some j1/\0<=(0:Int)/\(0:Int)<(n:Int)/\
 ∃ j2 j3 j4 j5 j6 j7 j8,LdN h (Addr.add j1 (0*3)) [.bool j2,.slice j3 j4 j5,.slice j6 j7 j8]/\
 CallsU Tryz.prog 109 [.agg #[.bool f2,.slice f3 f4 f5,.slice f6 f7 f8,.bool f9,.slice g0 g1 g2,.slice g3 g4 g5],.agg #[.bool g7,.slice g8 g9 i0,.slice i1 i2 i3,.bool i4,.slice i5 i6 i7,.slice i8 i9 j0],.agg #[.bool j2,.slice j3 j4 j5,.slice j6 j7 j8]] h fun ag0 ag1=>
 ∃ j9 k0 k1 k2 k3 k4 k5 k6 k7 k8 k9 l0 l1 l2,ag0 = .agg #[.bool j9,.slice k0 k1 k2,.slice k3 k4 k5,.bool k6,.slice k7 k8 k9,.slice l0 l1 l2]/\
 R (.tuple #[.agg #[.bool j9,.slice k0 k1 k2,.slice k3 k4 k5,.bool k6,.slice k7 k8 k9,.slice l0 l1 l2],.int .i64 0]) ag1)
 (Br ((b:Int)==4)
 (∃ l3:Addr,j=some l3/\0<=(0:Int)/\(0:Int)<(k:Int)/\
 ∃ l4 l5 l6 l7 l8 l9 m0 m1 m2 m3 m4 m5 m6 m7,LdN h (Addr.add l3 (0*6)) [.bool l4,.slice l5 l6 l7,.slice l8 l9 m0,.bool m1,.slice m2 m3 m4,.slice m5 m6 m7]/\
 ∃ m8:Addr,j=some m8/\0<=(1:Int)/\(1:Int)<(k:Int)/\
 ∃ m9 n0 n1 n2 n3 n4 n5 n6 n7 n8 n9 o0 o1 o2,LdN h (Addr.add m8 (1*6)) [.bool m9,.slice n0 n1 n2,.slice n3 n4 n5,.bool n6,.slice n7 n8 n9,.slice o0 o1 o2]/\
 ∃ o3:Addr,j=some o3/\0<=(2:Int)/\(2:Int)<(k:Int)/\
 ∃ o4 o5 o6 o7 o8 o9 p0 p1 p2 p3 p4 p5 p6 p7,LdN h (Addr.add o3 (2*6)) [.bool o4,.slice o5 o6 o7,.slice o8 o9 p0,.bool p1,.slice p2 p3 p4,.slice p5 p6 p7]/\
 ∃ p8:Addr,j=some p8/\0<=(3:Int)/\(3:Int)<(k:Int)/\
 ∃ p9 q0 q1 q2 q3 q4 q5 q6 q7 q8 q9 r0 r1 r2,LdN h (Addr.add p8 (3*6)) [.bool p9,.slice q0 q1 q2,.slice q3 q4 q5,.bool q6,.slice q7 q8 q9,.slice r0 r1 r2]/\
 CallsU Tryz.prog 110 [.agg #[.bool l4,.slice l5 l6 l7,.slice l8 l9 m0,.bool m1,.slice m2 m3 m4,.slice m5 m6 m7],.agg #[.bool m9,.slice n0 n1 n2,.slice n3 n4 n5,.bool n6,.slice n7 n8 n9,.slice o0 o1 o2],.agg #[.bool o4,.slice o5 o6 o7,.slice o8 o9 p0,.bool p1,.slice p2 p3 p4,.slice p5 p6 p7],.agg #[.bool p9,.slice q0 q1 q2,.slice q3 q4 q5,.bool q6,.slice q7 q8 q9,.slice r0 r1 r2]] h fun ag2 ag3=>
 ∃ r3 r4 r5 r6 r7 r8 r9 s0 s1 s2 s3 s4 s5 s6 s7,ag2 = .tuple #[.agg #[.bool r3,.slice r4 r5 r6,.slice r7 r8 r9,.bool s0,.slice s1 s2 s3,.slice s4 s5 s6],.int .i64 s7]/\
 R (.tuple #[.agg #[.bool r3,.slice r4 r5 r6,.slice r7 r8 r9,.bool s0,.slice s1 s2 s3,.slice s4 s5 s6],.int .i64 s7]) ag3)
 (Br ((b:Int)==5)
 (∃ s8:Addr,j=some s8/\0<=(0:Int)/\(0:Int)<(k:Int)/\
 ∃ s9 t0 t1 t2 t3 t4 t5 t6 t7 t8 t9 u0 u1 u2,LdN h (Addr.add s8 (0*6)) [.bool s9,.slice t0 t1 t2,.slice t3 t4 t5,.bool t6,.slice t7 t8 t9,.slice u0 u1 u2]/\
 ∃ u3:Addr,j=some u3/\0<=(1:Int)/\(1:Int)<(k:Int)/\
 ∃ u4 u5 u6 u7 u8 u9 v0 v1 v2 v3 v4 v5 v6 v7,LdN h (Addr.add u3 (1*6)) [.bool u4,.slice u5 u6 u7,.slice u8 u9 v0,.bool v1,.slice v2 v3 v4,.slice v5 v6 v7]/\
 ∃ v8:Addr,j=some v8/\0<=(2:Int)/\(2:Int)<(k:Int)/\
 ∃ v9 w0 w1 w2 w3 w4 w5 w6 w7 w8 w9 y0 y1 y2,LdN h (Addr.add v8 (2*6)) [.bool v9,.slice w0 w1 w2,.slice w3 w4 w5,.bool w6,.slice w7 w8 w9,.slice y0 y1 y2]/\
 CallsU Tryz.prog 111 [.agg #[.bool s9,.slice t0 t1 t2,.slice t3 t4 t5,.bool t6,.slice t7 t8 t9,.slice u0 u1 u2],.agg #[.bool u4,.slice u5 u6 u7,.slice u8 u9 v0,.bool v1,.slice v2 v3 v4,.slice v5 v6 v7],.agg #[.bool v9,.slice w0 w1 w2,.slice w3 w4 w5,.bool w6,.slice w7 w8 w9,.slice y0 y1 y2]] h fun ag4 ag5=>
 ∃ y3 y4 y5 y6 y7 y8 y9 z0 z1 z2 z3 z4 z5 z6 z7,ag4 = .tuple #[.agg #[.bool y3,.slice y4 y5 y6,.slice y7 y8 y9,.bool z0,.slice z1 z2 z3,.slice z4 z5 z6],.int .i64 z7]/\
 R (.tuple #[.agg #[.bool y3,.slice y4 y5 y6,.slice y7 y8 y9,.bool z0,.slice z1 z2 z3,.slice z4 z5 z6],.int .i64 z7]) ag5)
 (∃ z8:Addr,j=some z8/\0<=(0:Int)/\(0:Int)<(k:Int)/\
 ∃ z9 aa0 aa1 aa2 aa3 aa4 aa5 aa6 aa7 aa8 aa9 ab0 ab1 ab2,LdN h (Addr.add z8 (0*6)) [.bool z9,.slice aa0 aa1 aa2,.slice aa3 aa4 aa5,.bool aa6,.slice aa7 aa8 aa9,.slice ab0 ab1 ab2]/\
 ∃ ab3:Addr,j=some ab3/\0<=(1:Int)/\(1:Int)<(k:Int)/\
 ∃ ab4 ab5 ab6 ab7 ab8 ab9 ac0 ac1 ac2 ac3 ac4 ac5 ac6 ac7,LdN h (Addr.add ab3 (1*6)) [.bool ab4,.slice ab5 ab6 ab7,.slice ab8 ab9 ac0,.bool ac1,.slice ac2 ac3 ac4,.slice ac5 ac6 ac7]/\
 ∃ ac8:Addr,j=some ac8/\0<=(2:Int)/\(2:Int)<(k:Int)/\
 ∃ ac9 ad0 ad1 ad2 ad3 ad4 ad5 ad6 ad7 ad8 ad9 ae0 ae1 ae2,LdN h (Addr.add ac8 (2*6)) [.bool ac9,.slice ad0 ad1 ad2,.slice ad3 ad4 ad5,.bool ad6,.slice ad7 ad8 ad9,.slice ae0 ae1 ae2]/\
 CallsU Tryz.prog 112 [.agg #[.bool z9,.slice aa0 aa1 aa2,.slice aa3 aa4 aa5,.bool aa6,.slice aa7 aa8 aa9,.slice ab0 ab1 ab2],.agg #[.bool ab4,.slice ab5 ab6 ab7,.slice ab8 ab9 ac0,.bool ac1,.slice ac2 ac3 ac4,.slice ac5 ac6 ac7],.agg #[.bool ac9,.slice ad0 ad1 ad2,.slice ad3 ad4 ad5,.bool ad6,.slice ad7 ad8 ad9,.slice ae0 ae1 ae2]] h fun ag6 ag7=>
 ∃ ae3 ae4 ae5 ae6 ae7 ae8 ae9 af0 af1 af2 af3 af4 af5 af6 af7,ag6 = .tuple #[.agg #[.bool ae3,.slice ae4 ae5 ae6,.slice ae7 ae8 ae9,.bool af0,.slice af1 af2 af3,.slice af4 af5 af6],.int .i64 af7]/\
 R (.tuple #[.agg #[.bool ae3,.slice ae4 ae5 ae6,.slice ae7 ae8 ae9,.bool af0,.slice af1 af2 af3,.slice af4 af5 af6],.int .i64 af7]) ag7)))))
theorem ref19_place_ok {a:ByteArray} {b:Int} {c:OA} {d e:Nat} {f:OA} {g i:Nat} {j:OA} {k l:Nat} {m:OA} {n o:Nat} {h:Heap} {R:Value->Heap->Prop} (hv:ref19_place_vc a b c d e f g i j k l m n o h R):CallsU Tryz.prog 61 [.agg #[.string a,.int .i64 b,.slice c d e,.slice f g i],.slice j k l,.slice m n o] h R:=
 fn_ok Tryz.func61 (fun _=>false) (.two .nil (.two (.two .nil (.one (.two .nil (.two (.two (.ord [0,1,2,3,4,5,6,7,8]) .nil) (.two .nil (.two (.two (.ord [0,1,2,3,4,5,6,7,8,9,10,11,12]) .nil) (.two .nil (.two (.two (.ord [0,1,2,3,4,5,6,7,8,9,10,11]) .nil) (.two .nil (.two (.two (.ord [0,1,2,3,4,5,6,7,8,9,10,11,12,13,14,15,16]) .nil) (.two .nil (.two (.two (.ord [0,1,2,3,4,5,6,7,8,9,10,11,12,13]) .nil) .nil)))))))))))) (.two (.ord [0,1,2,3,4,5,6,7,8,9,10,11,12,13]) .nil))) hv
def ref19_at_vc (a:OA) (b c:Nat) (d:OA) (e _f:Nat) (_g:ByteArray) (_i:Int) (j:OA) (k _l:Nat) (_m:OA) (_n _o:Nat) (h:Heap) (R:Value->Heap->Prop):Prop:=
 ∃ p:Nat->OA->Nat->Nat->Int->Heap->Prop,(∃ q,p q none 0 0 0 h)/\
 ∀ (q:Nat) (b6:OA) (b7 b8:Nat) (b9:Int) (c0:Heap),p q b6 b7 b8 b9 c0->
 Br (decide (b9<(k:Int)))
 (∃ r:Addr,j=some r/\0<=b9/\b9<(k:Int)/\
 ∃ s,LdN c0 (Addr.add r (Int.toNat b9*1)) [.string s]/\
 CallsU Tryz.prog 100 [.slice a b c,.string s] c0 fun c8 c9=>
 ∃ t,c8 = .int .i64 t/\
 ∃ u:Addr,d=some u/\0<=t/\t<(e:Int)/\
 ∃ v w y z a0 a1 a2 a3 a4 a5 a6 a7 a8 a9,LdN c9 (Addr.add (Addr.add u (Int.toNat t*7)) 1) [.bool v,.slice w y z,.slice a0 a1 a2,.bool a3,.slice a4 a5 a6,.slice a7 a8 a9]/\
 ∀ (c1:Nat) (c2:Heap),c9 c1=none->c2=Heap.put c9 c1 ⟨[.bool v,.slice w y z,.slice a0 a1 a2,.bool a3,.slice a4 a5 a6,.slice a7 a8 a9],51,(0,0)⟩->
 ∃ b0:List Value,RdS c2 (some ⟨c1,0,none⟩) (1*6) b0/\(∀ x∈b0,Go.Vcg.one x=true)/\
 (b7+1<=b8-> ∃ (c3:Addr) (c4:Blk),b6=some c3/\c3.spot=none/\c2 c3.block=some c4/\c4.fz=(0,0)/\c3.off+b7*6+1*6<=c4.cells.length/\
 ∀ b3:Heap,b3=Heap.put c2 c3.block { c4 with cells:=setSeg c4.cells (c3.off+b7*6) b0 }->
 ∀ b4:Int,b4=IntKind.i64.wrap (b9+1)->
 ∃ b1,b1<q/\p b1 b6 (b7+1) b8 b4 b3)/\
 (b8<b7+1-> ∃ b2:List Value,RdS c2 b6 (b7*6) b2/\(b7+1)*112<=140737488355328/\
 ∀ (c5 c6:Nat) (c7:Heap),c2 c5=none->b7+1<=c6->c7=Heap.put c2 c5 ⟨b2++b0++repV [.bool false,.slice none 0 0,.slice none 0 0,.bool false,.slice none 0 0,.slice none 0 0] (c6-(b7+1)),51,(0,0)⟩->
 ∀ b5:Int,b5=IntKind.i64.wrap (b9+1)->
 ∃ b1,b1<q/\p b1 (some ⟨c5,0,none⟩) (b7+1) c6 b5 c7))
 (R (.slice b6 b7 b8) c0)
theorem ref19_at_ok {a:OA} {b c:Nat} {d:OA} {e f:Nat} {g:ByteArray} {i:Int} {j:OA} {k l:Nat} {m:OA} {n o:Nat} {h:Heap} {R:Value->Heap->Prop} (hv:ref19_at_vc a b c d e f g i j k l m n o h R):CallsU Tryz.prog 62 [.slice a b c,.slice d e f,.agg #[.string g,.int .i64 i,.slice j k l,.slice m n o]] h R:=
 fn_ok Tryz.func62 (fun _=>false) (.two .nil (.two .nil (.two (.two .nil (.one (.loop ⟨[(7,Sh.slice),(8,Sh.int .i64)],[]⟩ .nil))) .nil))) hv
def ref19_short_vc (_a:Bool) (b:OA) (c d:Nat) (e:OA) (f g:Nat) (h:Heap) (R:Value->Heap->Prop):Prop:=
 CallsU Tryz.prog 113 [.slice b c d] h fun k l=>
 ∃ i,k = .string i/\
 Br (decide ((i.size:Int)<=200))
 (CallsU Tryz.prog 113 [.slice e f g] l fun m n=>
 ∃ j,m = .string j/\
 R (.bool (decide ((j.size:Int)<=200))) n)
 (R (.bool false) l)
theorem ref19_short_ok {a:Bool} {b:OA} {c d:Nat} {e:OA} {f g:Nat} {h:Heap} {R:Value->Heap->Prop} (hv:ref19_short_vc a b c d e f g h R):CallsU Tryz.prog 63 [.agg #[.bool a,.slice b c d,.slice e f g]] h R:=
 fn_ok Tryz.func63 (fun _=>false) .nil hv
def ref03_Whole_vc (n:Int) (h:Heap) (R:Value->Heap->Prop):Prop:=
 CallsU Tryz.prog 69 [.int .i64 n] h fun i j=>
 ∃ a b c d,i = .agg #[.bool a,.slice b c d]/\
 CallsU Tryz.prog 116 [.int .u64 1] j fun k l=>
 ∃ e f g,k = .slice e f g/\
 R (.agg #[.bool a,.slice b c d,.slice e f g]) l
theorem ref03_Whole_ok {n:Int} {h:Heap} {R:Value->Heap->Prop} (hv:ref03_Whole_vc n h R):CallsU Tryz.prog 65 [.int .i64 n] h R:=
 fn_ok Tryz.func65 (fun _=>false) .nil hv
def ref08_SameRatio_vc (a:Bool) (b:OA) (c d:Nat) (e:OA) (f g:Nat) (i:Bool) (j:OA) (k l:Nat) (m:OA) (n o:Nat) (h:Heap) (R:Value->Heap->Prop):Prop:=
 CallsU Tryz.prog 117 [.agg #[.bool a,.slice b c d],.agg #[.bool i,.slice j k l]] h fun r s=>
 ∃ p,r = .bool p/\
 Br (p)
 (CallsU Tryz.prog 118 [.slice e f g,.slice m n o] s fun t u=>
 ∃ q,t = .bool q/\
 R (.bool q) u)
 (R (.bool false) s)
theorem ref08_SameRatio_ok {a:Bool} {b:OA} {c d:Nat} {e:OA} {f g:Nat} {i:Bool} {j:OA} {k l:Nat} {m:OA} {n o:Nat} {h:Heap} {R:Value->Heap->Prop} (hv:ref08_SameRatio_vc a b c d e f g i j k l m n o h R):CallsU Tryz.prog 66 [.agg #[.bool a,.slice b c d,.slice e f g],.agg #[.bool i,.slice j k l,.slice m n o]] h R:=
 fn_ok Tryz.func66 (fun _=>false) .nil hv
def ref08_whole_vc (n:Int) (h:Heap) (R:Value->Heap->Prop):Prop:=
 CallsU Tryz.prog 36 [.int .i64 n,.int .i64 1] h fun j k=>
 ∃ a b c d e f g i,j = .tuple #[.agg #[.bool a,.slice b c d,.slice e f g],.bool i]/\
 R (.agg #[.bool a,.slice b c d,.slice e f g]) k
theorem ref08_whole_ok {n:Int} {h:Heap} {R:Value->Heap->Prop} (hv:ref08_whole_vc n h R):CallsU Tryz.prog 67 [.int .i64 n] h R:=
 fn_ok Tryz.func67 (fun _=>false) .nil hv
def ref03_Add_vc (a:Bool) (b:OA) (c d:Nat) (e:OA) (f g:Nat) (i:Bool) (j:OA) (k l:Nat) (m:OA) (n o:Nat) (h:Heap) (R:Value->Heap->Prop):Prop:=
 CallsU Tryz.prog 119 [.agg #[.bool a,.slice b c d,.slice e f g]] h fun c6 c7=>
 ∃ p q r s t u v,c6 = .agg #[.bool p,.slice q r s,.slice t u v]/\
 LeH h c7/\
 CallsU Tryz.prog 119 [.agg #[.bool i,.slice j k l,.slice m n o]] c7 fun c8 c9=>
 ∃ w y z a0 a1 a2 a3,c8 = .agg #[.bool w,.slice y z a0,.slice a1 a2 a3]/\
 CallsU Tryz.prog 121 [.agg #[.bool p,.slice q r s],.agg #[.bool false,.slice a1 a2 a3]] c9 fun d0 d1=>
 ∃ a4 a5 a6 a7,d0 = .agg #[.bool a4,.slice a5 a6 a7]/\
 LeH c9 d1/\
 CallsU Tryz.prog 121 [.agg #[.bool w,.slice y z a0],.agg #[.bool false,.slice t u v]] d1 fun d2 d3=>
 ∃ a8 a9 b0 b1,d2 = .agg #[.bool a8,.slice a9 b0 b1]/\
 CallsU Tryz.prog 120 [.agg #[.bool a4,.slice a5 a6 a7],.agg #[.bool a8,.slice a9 b0 b1]] d3 fun d4 d5=>
 ∃ b2 b3 b4 b5,d4 = .agg #[.bool b2,.slice b3 b4 b5]/\
 CallsU Tryz.prog 122 [.slice t u v,.slice a1 a2 a3] d5 fun d6 d7=>
 ∃ b6 b7 b8,d6 = .slice b6 b7 b8/\
 LeH d5 d7/\
 CallsU Tryz.prog 70 [.bool b2,.slice b3 b4 b5,.slice b6 b7 b8] d7 fun d8 d9=>
 ∃ b9 c0 c1 c2 c3 c4 c5,d8 = .agg #[.bool b9,.slice c0 c1 c2,.slice c3 c4 c5]/\
 R (.agg #[.bool b9,.slice c0 c1 c2,.slice c3 c4 c5]) d9
theorem ref03_Add_ok {a:Bool} {b:OA} {c d:Nat} {e:OA} {f g:Nat} {i:Bool} {j:OA} {k l:Nat} {m:OA} {n o:Nat} {h:Heap} {R:Value->Heap->Prop} (hv:ref03_Add_vc a b c d e f g i j k l m n o h R):CallsU Tryz.prog 68 [.agg #[.bool a,.slice b c d,.slice e f g],.agg #[.bool i,.slice j k l,.slice m n o]] h R:=
 fn_ok Tryz.func68 (fun _=>false) (.two .nil (.two (.ord [0,2,1,3,4,5,6,7]) (.two (.ord [0,1,2,3,4,6,7,8,9,10,5,11,12,13,14]) (.two (.ord [0,1,2,3,4,5,6,7,8,9,10]) .nil)))) hv
def ref02_Of_vc (n:Int) (h:Heap) (R:Value->Heap->Prop):Prop:=
 Br (decide (n<0))
 (∀ g:Int,g=IntKind.i64.wrap (n+1)->
 ∀ i:Int,i=IntKind.i64.wrap (0-g)->
 ∀ j:Int,j=IntKind.u64.wrap ((IntKind.u64.wrap i)+1)->
 CallsU Tryz.prog 116 [.int .u64 j] h fun k l=>
 ∃ a b c,k = .slice a b c/\
 R (.agg #[.bool true,.slice a b c]) l)
 (CallsU Tryz.prog 116 [.int .u64 (IntKind.u64.wrap n)] h fun m o=>
 ∃ d e f,m = .slice d e f/\
 R (.agg #[.bool false,.slice d e f]) o)
theorem ref02_Of_ok {n:Int} {h:Heap} {R:Value->Heap->Prop} (hv:ref02_Of_vc n h R):CallsU Tryz.prog 69 [.int .i64 n] h R:=
 fn_ok Tryz.func69 (fun _=>false) .nil hv
def ref03_reduce_vc (a:Bool) (b:OA) (c d:Nat) (e:OA) (f g:Nat) (h:Heap) (R:Value->Heap->Prop):Prop:=
 CallsU Tryz.prog 123 [.slice b c d,.slice e f g] h fun a4 a5=>
 ∃ i j k,a4 = .slice i j k/\
 CallsU Tryz.prog 124 [.slice b c d,.slice i j k] a5 fun a6 a7=>
 ∃ l m n o p q r,a6 = .tuple #[.slice l m n,.slice o p q,.bool r]/\
 CallsU Tryz.prog 124 [.slice e f g,.slice i j k] a7 fun a8 a9=>
 ∃ s t u v w y z,a8 = .tuple #[.slice s t u,.slice v w y,.bool z]/\
 CallsU Tryz.prog 125 [.agg #[.bool a,.slice l m n]] a9 fun b0 b1=>
 ∃ a0 a1 a2 a3,b0 = .agg #[.bool a0,.slice a1 a2 a3]/\
 R (.agg #[.bool a0,.slice a1 a2 a3,.slice s t u]) b1
theorem ref03_reduce_ok {a:Bool} {b:OA} {c d:Nat} {e:OA} {f g:Nat} {h:Heap} {R:Value->Heap->Prop} (hv:ref03_reduce_vc a b c d e f g h R):CallsU Tryz.prog 70 [.bool a,.slice b c d,.slice e f g] h R:=
 fn_ok Tryz.func70 (fun _=>false) .nil hv
def ref17_Left_vc (_a:Int) (_b:Bool) (_c:OA) (d _e:Nat) (_f:OA) (g _i:Nat) (j:ByteArray) (k:OA) (l _m:Nat) (n:Int) (o:Int) (h:Heap) (R:Value->Heap->Prop):Prop:=
 ∃ p:Bool->Heap->Prop,(∀ (b2:Bool) (b3:Heap),p b2 b3->
 Br (b2)
 (R (.int .i64 (-1)) b3)
 (∀ a9:Int,a9=IntKind.i64.wrap (n-1)->
 ∃ q:Nat->Int->Int->Heap->Prop,(∃ r,q r a9 0 b3)/\
 ∀ (r:Nat) (b4:Int) (b5:Int) (b6:Heap),q r b4 b5 b6->
 ∃ s:Bool->Heap->Prop,(∀ (b7:Bool) (b8:Heap),s b7 b8->
 Br (b7)
 (∃ t:Addr,k=some t/\0<=b5/\b5<(l:Int)/\
 ∃ u v w y z a0 a1 a2 a3 a4 a5 a6,LdN b8 (Addr.add t (Int.toNat b5*6)) [.int .i64 u,.bool v,.slice w y z,.slice a0 a1 a2,.string a3,.slice a4 a5 a6]/\
 ∀ b0:Int,b0=IntKind.i64.wrap (o-1)->
 CallsU Tryz.prog 88 [.agg #[.int .i64 u,.bool v,.slice w y z,.slice a0 a1 a2,.string a3,.slice a4 a5 a6],.int .i64 b4,.int .i64 b0] b8 fun b9 c0=>
 ∃ a7,b9 = .int .i64 a7/\
 ∀ b1:Int,b1=IntKind.i64.wrap (b5+1)->
 ∃ a8,a8<r/\q a8 a7 b1 c0)
 (R (.int .i64 b4) b8))/\
 Br (decide (b5<(l:Int)))
 (s (decide (b4>=0)) b6)
 (s false b6)))/\
 Br (decide (n<1))
 (p true h)
 (Br (decide (o<1))
 (p true h)
 (Br (decide ((j.size:Int)>60))
 (p true h)
 (Br (decide ((d:Int)>4))
 (p true h)
 (p (decide ((g:Int)>4)) h))))
theorem ref17_Left_ok {a:Int} {b:Bool} {c:OA} {d e:Nat} {f:OA} {g i:Nat} {j:ByteArray} {k:OA} {l m:Nat} {n:Int} {o:Int} {h:Heap} {R:Value->Heap->Prop} (hv:ref17_Left_vc a b c d e f g i j k l m n o h R):CallsU Tryz.prog 88 [.agg #[.int .i64 a,.bool b,.slice c d e,.slice f g i,.string j,.slice k l m],.int .i64 n,.int .i64 o] h R:=
 fn_ok Tryz.func88 (fun _=>false) (.two .nil (.two (.cut ⟨[(34,Sh.bool)],[]⟩ .nil .nil) (.two .nil (.two (.two .nil (.one (.loop ⟨[(1,Sh.int .i64),(7,Sh.int .i64)],[]⟩ (.two (.cut ⟨[(45,Sh.bool)],[]⟩ .nil .nil) .nil)))) .nil)))) hv
def ref19_form_vc (a:ByteArray) (b:Int) (_c:OA) (d _e:Nat) (f:OA) (g _i:Nat) (h:Heap) (R:Value->Heap->Prop):Prop:=
 ∃ j:Bool->Heap->Prop,(∀ (a7:Bool) (a8:Heap),j a7 a8->
 Br (a7)
 (R (.int .i64 1) a8)
 (∃ k:Nat->Int->Heap->Prop,(∃ l,k l 0 a8)/\
 ∀ (l:Nat) (a9:Int) (b0:Heap),k l a9 b0->
 Br (decide (a9<(g:Int)))
 (∃ m:Addr,f=some m/\0<=a9/\a9<(g:Int)/\
 ∃ n o p q r s t u v w y z,LdN b0 (Addr.add m (Int.toNat a9*6)) [.int .i64 n,.bool o,.slice p q r,.slice s t u,.string v,.slice w y z]/\
 CallsU Tryz.prog 107 [.agg #[.int .i64 n,.bool o,.slice p q r,.slice s t u,.string v,.slice w y z]] b0 fun b1 b2=>
 ∃ a0,b1 = .int .i64 a0/\
 Br ((a0:Int) != 0)
 (R (.int .i64 a0) b2)
 (∀ a6:Int,a6=IntKind.i64.wrap (a9+1)->
 ∃ a1,a1<l/\k a1 a6 b2))
 (R (.int .i64 0) b0)))/\
 CallsU Tryz.prog 157 [.string a] h fun b3 b4=>
 ∃ a2,b3 = .bool a2/\
 Br (!a2)
 (LeH b4 b4/\
 LeH b4 b4/\
 j true b4)
 (CallsU Tryz.prog 158 [.int .i64 b] b4 fun b5 b6=>
 ∃ a3,b5 = .int .i64 a3/\
 Br (decide (a3<0))
 (LeH b6 b6/\
 LeH b6 b6/\
 j true b6)
 (CallsU Tryz.prog 158 [.int .i64 b] b6 fun b7 b8=>
 ∃ a4,b7 = .int .i64 a4/\
 LeH b6 b8/\
 Br ((d:Int) != a4)
 (LeH b8 b8/\
 j true b8)
 (CallsU Tryz.prog 159 [.int .i64 b] b8 fun b9 c0=>
 ∃ a5,b9 = .int .i64 a5/\
 LeH b8 c0/\
 j ((g:Int) != a5) c0)))
theorem ref19_form_ok {a:ByteArray} {b:Int} {c:OA} {d e:Nat} {f:OA} {g i:Nat} {h:Heap} {R:Value->Heap->Prop} (hv:ref19_form_vc a b c d e f g i h R):CallsU Tryz.prog 89 [.agg #[.string a,.int .i64 b,.slice c d e,.slice f g i]] h R:=
 fn_ok Tryz.func89 (fun _=>false) (.two .nil (.two (.cut ⟨[(32,Sh.bool)],[]⟩ (.ord [0,1,2,3,4,5,6,7,8,9,10,11,12,13,14,15,16,17,18,19,20,21,22,23,24,25,26,27]) .nil) (.two (.two .nil (.one (.loop ⟨[(3,Sh.int .i64)],[]⟩ .nil))) .nil))) hv
def ref19_find_vc (a:OA) (b _c:Nat) (d:ByteArray) (h:Heap) (R:Value->Heap->Prop):Prop:=
 ∃ e:Nat->Int->Heap->Prop,(∃ f,e f 0 h)/\
 ∀ (f:Nat) (l:Int) (m:Heap),e f l m->
 Br (decide (l<(b:Int)))
 (∃ g:Addr,a=some g/\0<=l/\l<(b:Int)/\
 ∃ i,LdN m (Addr.add (Addr.add g (Int.toNat l*4)) 0) [.string i]/\
 Br (i.toList==d.toList)
 (R (.int .i64 l) m)
 (∀ k:Int,k=IntKind.i64.wrap (l+1)->
 ∃ j,j<f/\e j k m))
 (R (.int .i64 (-1)) m)
theorem ref19_find_ok {a:OA} {b c:Nat} {d:ByteArray} {h:Heap} {R:Value->Heap->Prop} (hv:ref19_find_vc a b c d h R):CallsU Tryz.prog 100 [.slice a b c,.string d] h R:=
 fn_ok Tryz.func100 (fun _=>false) (.two .nil (.two (.two .nil (.one (.loop ⟨[(5,Sh.int .i64)],[]⟩ .nil))) .nil)) hv
def ref03_Cmp_vc (a:Bool) (b:OA) (c d:Nat) (e:OA) (f g:Nat) (i:Bool) (j:OA) (k l:Nat) (m:OA) (n o:Nat) (h:Heap) (R:Value->Heap->Prop):Prop:=
 CallsU Tryz.prog 119 [.agg #[.bool a,.slice b c d,.slice e f g]] h fun b3 b4=>
 ∃ p q r s t u v,b3 = .agg #[.bool p,.slice q r s,.slice t u v]/\
 LeH h b4/\
 CallsU Tryz.prog 119 [.agg #[.bool i,.slice j k l,.slice m n o]] b4 fun b5 b6=>
 ∃ w y z a0 a1 a2 a3,b5 = .agg #[.bool w,.slice y z a0,.slice a1 a2 a3]/\
 CallsU Tryz.prog 121 [.agg #[.bool p,.slice q r s],.agg #[.bool false,.slice a1 a2 a3]] b6 fun b7 b8=>
 ∃ a4 a5 a6 a7,b7 = .agg #[.bool a4,.slice a5 a6 a7]/\
 LeH b6 b8/\
 CallsU Tryz.prog 121 [.agg #[.bool w,.slice y z a0],.agg #[.bool false,.slice t u v]] b8 fun b9 c0=>
 ∃ a8 a9 b0 b1,b9 = .agg #[.bool a8,.slice a9 b0 b1]/\
 CallsU Tryz.prog 172 [.agg #[.bool a4,.slice a5 a6 a7],.agg #[.bool a8,.slice a9 b0 b1]] c0 fun c1 c2=>
 ∃ b2,c1 = .int .i64 b2/\
 R (.int .i64 b2) c2
theorem ref03_Cmp_ok {a:Bool} {b:OA} {c d:Nat} {e:OA} {f g:Nat} {i:Bool} {j:OA} {k l:Nat} {m:OA} {n o:Nat} {h:Heap} {R:Value->Heap->Prop} (hv:ref03_Cmp_vc a b c d e f g i j k l m n o h R):CallsU Tryz.prog 101 [.agg #[.bool a,.slice b c d,.slice e f g],.agg #[.bool i,.slice j k l,.slice m n o]] h R:=
 fn_ok Tryz.func101 (fun _=>false) (.two .nil (.two (.ord [0,2,1,3,4,5,6,7]) (.two (.ord [0,1,2,3,4,6,7,8,9,10,5,11,12,13]) .nil))) hv
def ref17_Check_vc (a:Int) (b:Bool) (c:OA) (d e:Nat) (f:OA) (g i:Nat) (j:ByteArray) (k:OA) (l m:Nat) (h:Heap) (R:Value->Heap->Prop):Prop:=
 CallsU Tryz.prog 177 [.agg #[.int .i64 a,.bool b,.slice c d e,.slice f g i,.string j,.slice k l m],.int .i64 1] h fun o p=>
 ∃ n,o = .int .i64 n/\
 R (.int .i64 n) p
theorem ref17_Check_ok {a:Int} {b:Bool} {c:OA} {d e:Nat} {f:OA} {g i:Nat} {j:ByteArray} {k:OA} {l m:Nat} {h:Heap} {R:Value->Heap->Prop} (hv:ref17_Check_vc a b c d e f g i j k l m h R):CallsU Tryz.prog 107 [.agg #[.int .i64 a,.bool b,.slice c d e,.slice f g i,.string j,.slice k l m]] h R:=
 fn_ok Tryz.func107 (fun _=>false) .nil hv
def ref17_eval_vc (a:Int) (b:Bool) (c:OA) (d e:Nat) (f:OA) (g i:Nat) (j:ByteArray) (k:OA) (l _m:Nat) (n:OA) (o p:Nat) (h:Heap) (R:Value->Heap->Prop):Prop:=
 Br ((a:Int)==1)
 (CallsU Tryz.prog 119 [.agg #[.bool b,.slice c d e,.slice f g i]] h fun g2 g3=>
 ∃ q r s t u v w,g2 = .agg #[.bool q,.slice r s t,.slice u v w]/\
 R (.tuple #[.agg #[.bool q,.slice r s t,.slice u v w],.int .i64 0]) g3)
 (Br ((a:Int)==2)
 (CallsU Tryz.prog 178 [.slice n o p,.string j] h fun g4 g5=>
 ∃ y z a0 a1 a2 a3 a4 a5,g4 = .tuple #[.agg #[.bool y,.slice z a0 a1,.slice a2 a3 a4],.int .i64 a5]/\
 R (.tuple #[.agg #[.bool y,.slice z a0 a1,.slice a2 a3 a4],.int .i64 a5]) g5)
 (∃ a6:Nat->OA->Nat->Nat->Int->Bool->OA->Nat->Nat->OA->Nat->Nat->Heap->Prop,(∃ a7,a6 a7 none 0 0 0 false none 0 0 none 0 0 h)/\
 ∀ (a7:Nat) (e3:OA) (e4 e5:Nat) (e6:Int) (e7:Bool) (e8:OA) (e9 f0:Nat) (f1:OA) (f2 f3:Nat) (f4:Heap),a6 a7 e3 e4 e5 e6 e7 e8 e9 f0 f1 f2 f3 f4->
 Br (decide (e6<(l:Int)))
 (∃ a8:Addr,k=some a8/\0<=e6/\e6<(l:Int)/\
 ∃ a9 b0 b1 b2 b3 b4 b5 b6 b7 b8 b9 c0,LdN f4 (Addr.add a8 (Int.toNat e6*6)) [.int .i64 a9,.bool b0,.slice b1 b2 b3,.slice b4 b5 b6,.string b7,.slice b8 b9 c0]/\
 CallsU Tryz.prog 108 [.agg #[.int .i64 a9,.bool b0,.slice b1 b2 b3,.slice b4 b5 b6,.string b7,.slice b8 b9 c0],.slice n o p] f4 fun g6 g7=>
 ∃ c1 c2 c3 c4 c5 c6 c7 c8,g6 = .tuple #[.agg #[.bool c1,.slice c2 c3 c4,.slice c5 c6 c7],.int .i64 c8]/\
 Br ((c8:Int) != 0)
 (R (.tuple #[.agg #[.bool false,.slice none 0 0,.slice none 0 0],.int .i64 c8]) g7)
 (∀ (f5:Nat) (f6:Heap),g7 f5=none->f6=Heap.put g7 f5 ⟨[.bool c1,.slice c2 c3 c4,.slice c5 c6 c7],36,(0,0)⟩->
 ∃ c9:List Value,RdS f6 (some ⟨f5,0,none⟩) (1*3) c9/\(∀ x∈c9,Go.Vcg.one x=true)/\
 (e4+1<=e5-> ∃ (f7:Addr) (f8:Blk),e3=some f7/\f7.spot=none/\f6 f7.block=some f8/\f8.fz=(0,0)/\f7.off+e4*3+1*3<=f8.cells.length/\
 ∀ e0:Heap,e0=Heap.put f6 f7.block { f8 with cells:=setSeg f8.cells (f7.off+e4*3) c9 }->
 ∀ e1:Int,e1=IntKind.i64.wrap (e6+1)->
 ∃ d0,d0<a7/\a6 d0 e3 (e4+1) e5 e1 e7 e8 e9 f0 f1 f2 f3 e0)/\
 (e5<e4+1-> ∃ d1:List Value,RdS f6 e3 (e4*3) d1/\(e4+1)*56<=140737488355328/\
 ∀ (f9 g0:Nat) (g1:Heap),f6 f9=none->e4+1<=g0->g1=Heap.put f6 f9 ⟨d1++c9++repV [.bool false,.slice none 0 0,.slice none 0 0] (g0-(e4+1)),36,(0,0)⟩->
 ∀ e2:Int,e2=IntKind.i64.wrap (e6+1)->
 ∃ d0,d0<a7/\a6 d0 (some ⟨f9,0,none⟩) (e4+1) g0 e2 e7 e8 e9 f0 f1 f2 f3 g1)))
 (CallsU Tryz.prog 179 [.int .i64 a,.slice e3 e4 e5] f4 fun g8 g9=>
 ∃ d2 d3 d4 d5 d6 d7 d8 d9,g8 = .tuple #[.agg #[.bool d2,.slice d3 d4 d5,.slice d6 d7 d8],.int .i64 d9]/\
 R (.tuple #[.agg #[.bool d2,.slice d3 d4 d5,.slice d6 d7 d8],.int .i64 d9]) g9)))
theorem ref17_eval_ok {a:Int} {b:Bool} {c:OA} {d e:Nat} {f:OA} {g i:Nat} {j:ByteArray} {k:OA} {l m:Nat} {n:OA} {o p:Nat} {h:Heap} {R:Value->Heap->Prop} (hv:ref17_eval_vc a b c d e f g i j k l m n o p h R):CallsU Tryz.prog 108 [.agg #[.int .i64 a,.bool b,.slice c d e,.slice f g i,.string j,.slice k l m],.slice n o p] h R:=
 fn_ok Tryz.func108 (fun _=>false) (.two .nil (.two .nil (.two .nil (.two (.two .nil (.one (.loop ⟨[(6,Sh.slice),(7,Sh.int .i64)],[(1,[Sh.bool,Sh.slice,Sh.slice])]⟩ .nil))) .nil)))) hv
def ref08_On_vc (a:Bool) (b:OA) (c d:Nat) (e:OA) (f g:Nat) (i:Bool) (j:OA) (k l:Nat) (m:OA) (n o:Nat) (p:Bool) (q:OA) (r s:Nat) (t:OA) (u v:Nat) (w:Bool) (y:OA) (z a0:Nat) (a1:OA) (a2 a3:Nat) (a4:Bool) (a5:OA) (a6 a7:Nat) (a8:OA) (a9 b0:Nat) (h:Heap) (R:Value->Heap->Prop):Prop:=
 CallsU Tryz.prog 181 [.agg #[.bool p,.slice q r s,.slice t u v,.bool w,.slice y z a0,.slice a1 a2 a3],.agg #[.bool a,.slice b c d,.slice e f g,.bool i,.slice j k l,.slice m n o]] h fun f3 f4=>
 ∃ b1 b2 b3 b4 b5 b6 b7 b8 b9 c0 c1 c2 c3 c4,f3 = .agg #[.bool b1,.slice b2 b3 b4,.slice b5 b6 b7,.bool b8,.slice b9 c0 c1,.slice c2 c3 c4]/\
 LeH h f4/\
 CallsU Tryz.prog 180 [.agg #[.bool b1,.slice b2 b3 b4,.slice b5 b6 b7,.bool b8,.slice b9 c0 c1,.slice c2 c3 c4],.agg #[.bool a4,.slice a5 a6 a7,.slice a8 a9 b0]] f4 fun f5 f6=>
 ∃ c5 c6 c7 c8 c9 d0 d1 d2 d3 d4 d5 d6 d7 d8,f5 = .agg #[.bool c5,.slice c6 c7 c8,.slice c9 d0 d1,.bool d2,.slice d3 d4 d5,.slice d6 d7 d8]/\
 LeH f4 f6/\
 CallsU Tryz.prog 35 [.agg #[.bool a,.slice b c d,.slice e f g,.bool i,.slice j k l,.slice m n o],.agg #[.bool c5,.slice c6 c7 c8,.slice c9 d0 d1,.bool d2,.slice d3 d4 d5,.slice d6 d7 d8]] f6 fun f7 f8=>
 ∃ d9 e0 e1 e2 e3 e4 e5 e6 e7 e8 e9 f0 f1 f2,f7 = .agg #[.bool d9,.slice e0 e1 e2,.slice e3 e4 e5,.bool e6,.slice e7 e8 e9,.slice f0 f1 f2]/\
 R (.agg #[.bool d9,.slice e0 e1 e2,.slice e3 e4 e5,.bool e6,.slice e7 e8 e9,.slice f0 f1 f2]) f8
theorem ref08_On_ok {a:Bool} {b:OA} {c d:Nat} {e:OA} {f g:Nat} {i:Bool} {j:OA} {k l:Nat} {m:OA} {n o:Nat} {p:Bool} {q:OA} {r s:Nat} {t:OA} {u v:Nat} {w:Bool} {y:OA} {z a0:Nat} {a1:OA} {a2 a3:Nat} {a4:Bool} {a5:OA} {a6 a7:Nat} {a8:OA} {a9 b0:Nat} {h:Heap} {R:Value->Heap->Prop} (hv:ref08_On_vc a b c d e f g i j k l m n o p q r s t u v w y z a0 a1 a2 a3 a4 a5 a6 a7 a8 a9 b0 h R):CallsU Tryz.prog 109 [.agg #[.bool a,.slice b c d,.slice e f g,.bool i,.slice j k l,.slice m n o],.agg #[.bool p,.slice q r s,.slice t u v,.bool w,.slice y z a0,.slice a1 a2 a3],.agg #[.bool a4,.slice a5 a6 a7,.slice a8 a9 b0]] h R:=
 fn_ok Tryz.func109 (fun _=>false) (.two .nil (.two (.ord [0,1,2,4,3,5,6,7]) .nil)) hv
def ref08_Meet_vc (a:Bool) (b:OA) (c d:Nat) (e:OA) (f g:Nat) (i:Bool) (j:OA) (k l:Nat) (m:OA) (n o:Nat) (p:Bool) (q:OA) (r s:Nat) (t:OA) (u v:Nat) (w:Bool) (y:OA) (z a0:Nat) (a1:OA) (a2 a3:Nat) (a4:Bool) (a5:OA) (a6 a7:Nat) (a8:OA) (a9 b0:Nat) (b1:Bool) (b2:OA) (b3 b4:Nat) (b5:OA) (b6 b7:Nat) (b8:Bool) (b9:OA) (c0 c1:Nat) (c2:OA) (c3 c4:Nat) (c5:Bool) (c6:OA) (c7 c8:Nat) (c9:OA) (d0 d1:Nat) (h:Heap) (R:Value->Heap->Prop):Prop:=
 CallsU Tryz.prog 181 [.agg #[.bool a4,.slice a5 a6 a7,.slice a8 a9 b0,.bool b1,.slice b2 b3 b4,.slice b5 b6 b7],.agg #[.bool a,.slice b c d,.slice e f g,.bool i,.slice j k l,.slice m n o]] h fun n4 n5=>
 ∃ d2 d3 d4 d5 d6 d7 d8 d9 e0 e1 e2 e3 e4 e5,n4 = .agg #[.bool d2,.slice d3 d4 d5,.slice d6 d7 d8,.bool d9,.slice e0 e1 e2,.slice e3 e4 e5]/\
 LeH h n5/\
 CallsU Tryz.prog 181 [.agg #[.bool b8,.slice b9 c0 c1,.slice c2 c3 c4,.bool c5,.slice c6 c7 c8,.slice c9 d0 d1],.agg #[.bool a4,.slice a5 a6 a7,.slice a8 a9 b0,.bool b1,.slice b2 b3 b4,.slice b5 b6 b7]] n5 fun n6 n7=>
 ∃ e6 e7 e8 e9 f0 f1 f2 f3 f4 f5 f6 f7 f8 f9,n6 = .agg #[.bool e6,.slice e7 e8 e9,.slice f0 f1 f2,.bool f3,.slice f4 f5 f6,.slice f7 f8 f9]/\
 LeH n5 n7/\
 CallsU Tryz.prog 183 [.agg #[.bool d2,.slice d3 d4 d5,.slice d6 d7 d8,.bool d9,.slice e0 e1 e2,.slice e3 e4 e5],.agg #[.bool e6,.slice e7 e8 e9,.slice f0 f1 f2,.bool f3,.slice f4 f5 f6,.slice f7 f8 f9]] n7 fun n8 n9=>
 ∃ g0 g1 g2 g3 g4 g5 g6,n8 = .agg #[.bool g0,.slice g1 g2 g3,.slice g4 g5 g6]/\
 LeH n7 n9/\
 CallsU Tryz.prog 181 [.agg #[.bool p,.slice q r s,.slice t u v,.bool w,.slice y z a0,.slice a1 a2 a3],.agg #[.bool a,.slice b c d,.slice e f g,.bool i,.slice j k l,.slice m n o]] n9 fun o0 o1=>
 ∃ g7 g8 g9 i0 i1 i2 i3 i4 i5 i6 i7 i8 i9 j0,o0 = .agg #[.bool g7,.slice g8 g9 i0,.slice i1 i2 i3,.bool i4,.slice i5 i6 i7,.slice i8 i9 j0]/\
 LeH n9 o1/\
 CallsU Tryz.prog 181 [.agg #[.bool b8,.slice b9 c0 c1,.slice c2 c3 c4,.bool c5,.slice c6 c7 c8,.slice c9 d0 d1],.agg #[.bool a4,.slice a5 a6 a7,.slice a8 a9 b0,.bool b1,.slice b2 b3 b4,.slice b5 b6 b7]] o1 fun o2 o3=>
 ∃ j1 j2 j3 j4 j5 j6 j7 j8 j9 k0 k1 k2 k3 k4,o2 = .agg #[.bool j1,.slice j2 j3 j4,.slice j5 j6 j7,.bool j8,.slice j9 k0 k1,.slice k2 k3 k4]/\
 CallsU Tryz.prog 183 [.agg #[.bool g7,.slice g8 g9 i0,.slice i1 i2 i3,.bool i4,.slice i5 i6 i7,.slice i8 i9 j0],.agg #[.bool j1,.slice j2 j3 j4,.slice j5 j6 j7,.bool j8,.slice j9 k0 k1,.slice k2 k3 k4]] o3 fun o4 o5=>
 ∃ k5 k6 k7 k8 k9 l0 l1,o4 = .agg #[.bool k5,.slice k6 k7 k8,.slice k9 l0 l1]/\
 CallsU Tryz.prog 182 [.agg #[.bool g0,.slice g1 g2 g3,.slice g4 g5 g6],.agg #[.bool k5,.slice k6 k7 k8,.slice k9 l0 l1]] o5 fun o6 o7=>
 ∃ l2 l3 l4 l5 l6 l7 l8 l9,o6 = .tuple #[.agg #[.bool l2,.slice l3 l4 l5,.slice l6 l7 l8],.bool l9]/\
 Br (!l9)
 (R (.tuple #[.agg #[.bool false,.slice none 0 0,.slice none 0 0,.bool false,.slice none 0 0,.slice none 0 0],.int .i64 10]) o7)
 (CallsU Tryz.prog 109 [.agg #[.bool a,.slice b c d,.slice e f g,.bool i,.slice j k l,.slice m n o],.agg #[.bool p,.slice q r s,.slice t u v,.bool w,.slice y z a0,.slice a1 a2 a3],.agg #[.bool l2,.slice l3 l4 l5,.slice l6 l7 l8]] o7 fun o8 o9=>
 ∃ m0 m1 m2 m3 m4 m5 m6 m7 m8 m9 n0 n1 n2 n3,o8 = .agg #[.bool m0,.slice m1 m2 m3,.slice m4 m5 m6,.bool m7,.slice m8 m9 n0,.slice n1 n2 n3]/\
 R (.tuple #[.agg #[.bool m0,.slice m1 m2 m3,.slice m4 m5 m6,.bool m7,.slice m8 m9 n0,.slice n1 n2 n3],.int .i64 0]) o9)
theorem ref08_Meet_ok {a:Bool} {b:OA} {c d:Nat} {e:OA} {f g:Nat} {i:Bool} {j:OA} {k l:Nat} {m:OA} {n o:Nat} {p:Bool} {q:OA} {r s:Nat} {t:OA} {u v:Nat} {w:Bool} {y:OA} {z a0:Nat} {a1:OA} {a2 a3:Nat} {a4:Bool} {a5:OA} {a6 a7:Nat} {a8:OA} {a9 b0:Nat} {b1:Bool} {b2:OA} {b3 b4:Nat} {b5:OA} {b6 b7:Nat} {b8:Bool} {b9:OA} {c0 c1:Nat} {c2:OA} {c3 c4:Nat} {c5:Bool} {c6:OA} {c7 c8:Nat} {c9:OA} {d0 d1:Nat} {h:Heap} {R:Value->Heap->Prop} (hv:ref08_Meet_vc a b c d e f g i j k l m n o p q r s t u v w y z a0 a1 a2 a3 a4 a5 a6 a7 a8 a9 b0 b1 b2 b3 b4 b5 b6 b7 b8 b9 c0 c1 c2 c3 c4 c5 c6 c7 c8 c9 d0 d1 h R):CallsU Tryz.prog 110 [.agg #[.bool a,.slice b c d,.slice e f g,.bool i,.slice j k l,.slice m n o],.agg #[.bool p,.slice q r s,.slice t u v,.bool w,.slice y z a0,.slice a1 a2 a3],.agg #[.bool a4,.slice a5 a6 a7,.slice a8 a9 b0,.bool b1,.slice b2 b3 b4,.slice b5 b6 b7],.agg #[.bool b8,.slice b9 c0 c1,.slice c2 c3 c4,.bool c5,.slice c6 c7 c8,.slice c9 d0 d1]] h R:=
 fn_ok Tryz.func110 (fun _=>false) (.two .nil (.two (.ord [0,1,3,4,7,8,10,11,2,5,6,9,12,13,14,15,16,17,18,19,20]) .nil)) hv
def ref08_Foot_vc (a:Bool) (b:OA) (c d:Nat) (e:OA) (f g:Nat) (i:Bool) (j:OA) (k l:Nat) (m:OA) (n o:Nat) (p:Bool) (q:OA) (r s:Nat) (t:OA) (u v:Nat) (w:Bool) (y:OA) (z a0:Nat) (a1:OA) (a2 a3:Nat) (a4:Bool) (a5:OA) (a6 a7:Nat) (a8:OA) (a9 b0:Nat) (b1:Bool) (b2:OA) (b3 b4:Nat) (b5:OA) (b6 b7:Nat) (h:Heap) (R:Value->Heap->Prop):Prop:=
 CallsU Tryz.prog 181 [.agg #[.bool a4,.slice a5 a6 a7,.slice a8 a9 b0,.bool b1,.slice b2 b3 b4,.slice b5 b6 b7],.agg #[.bool p,.slice q r s,.slice t u v,.bool w,.slice y z a0,.slice a1 a2 a3]] h fun j2 j3=>
 ∃ b8 b9 c0 c1 c2 c3 c4 c5 c6 c7 c8 c9 d0 d1,j2 = .agg #[.bool b8,.slice b9 c0 c1,.slice c2 c3 c4,.bool c5,.slice c6 c7 c8,.slice c9 d0 d1]/\
 CallsU Tryz.prog 181 [.agg #[.bool a,.slice b c d,.slice e f g,.bool i,.slice j k l,.slice m n o],.agg #[.bool p,.slice q r s,.slice t u v,.bool w,.slice y z a0,.slice a1 a2 a3]] j3 fun j4 j5=>
 ∃ d2 d3 d4 d5 d6 d7 d8 d9 e0 e1 e2 e3 e4 e5,j4 = .agg #[.bool d2,.slice d3 d4 d5,.slice d6 d7 d8,.bool d9,.slice e0 e1 e2,.slice e3 e4 e5]/\
 LeH j3 j5/\
 CallsU Tryz.prog 184 [.agg #[.bool d2,.slice d3 d4 d5,.slice d6 d7 d8,.bool d9,.slice e0 e1 e2,.slice e3 e4 e5],.agg #[.bool b8,.slice b9 c0 c1,.slice c2 c3 c4,.bool c5,.slice c6 c7 c8,.slice c9 d0 d1]] j5 fun j6 j7=>
 ∃ e6 e7 e8 e9 f0 f1 f2,j6 = .agg #[.bool e6,.slice e7 e8 e9,.slice f0 f1 f2]/\
 LeH j5 j7/\
 CallsU Tryz.prog 184 [.agg #[.bool b8,.slice b9 c0 c1,.slice c2 c3 c4,.bool c5,.slice c6 c7 c8,.slice c9 d0 d1],.agg #[.bool b8,.slice b9 c0 c1,.slice c2 c3 c4,.bool c5,.slice c6 c7 c8,.slice c9 d0 d1]] j7 fun j8 j9=>
 ∃ f3 f4 f5 f6 f7 f8 f9,j8 = .agg #[.bool f3,.slice f4 f5 f6,.slice f7 f8 f9]/\
 CallsU Tryz.prog 182 [.agg #[.bool e6,.slice e7 e8 e9,.slice f0 f1 f2],.agg #[.bool f3,.slice f4 f5 f6,.slice f7 f8 f9]] j9 fun k0 k1=>
 ∃ g0 g1 g2 g3 g4 g5 g6 g7,k0 = .tuple #[.agg #[.bool g0,.slice g1 g2 g3,.slice g4 g5 g6],.bool g7]/\
 Br (!g7)
 (R (.tuple #[.agg #[.bool false,.slice none 0 0,.slice none 0 0,.bool false,.slice none 0 0,.slice none 0 0],.int .i64 10]) k1)
 (CallsU Tryz.prog 109 [.agg #[.bool p,.slice q r s,.slice t u v,.bool w,.slice y z a0,.slice a1 a2 a3],.agg #[.bool a4,.slice a5 a6 a7,.slice a8 a9 b0,.bool b1,.slice b2 b3 b4,.slice b5 b6 b7],.agg #[.bool g0,.slice g1 g2 g3,.slice g4 g5 g6]] k1 fun k2 k3=>
 ∃ g8 g9 i0 i1 i2 i3 i4 i5 i6 i7 i8 i9 j0 j1,k2 = .agg #[.bool g8,.slice g9 i0 i1,.slice i2 i3 i4,.bool i5,.slice i6 i7 i8,.slice i9 j0 j1]/\
 R (.tuple #[.agg #[.bool g8,.slice g9 i0 i1,.slice i2 i3 i4,.bool i5,.slice i6 i7 i8,.slice i9 j0 j1],.int .i64 0]) k3)
theorem ref08_Foot_ok {a:Bool} {b:OA} {c d:Nat} {e:OA} {f g:Nat} {i:Bool} {j:OA} {k l:Nat} {m:OA} {n o:Nat} {p:Bool} {q:OA} {r s:Nat} {t:OA} {u v:Nat} {w:Bool} {y:OA} {z a0:Nat} {a1:OA} {a2 a3:Nat} {a4:Bool} {a5:OA} {a6 a7:Nat} {a8:OA} {a9 b0:Nat} {b1:Bool} {b2:OA} {b3 b4:Nat} {b5:OA} {b6 b7:Nat} {h:Heap} {R:Value->Heap->Prop} (hv:ref08_Foot_vc a b c d e f g i j k l m n o p q r s t u v w y z a0 a1 a2 a3 a4 a5 a6 a7 a8 a9 b0 b1 b2 b3 b4 b5 b6 b7 h R):CallsU Tryz.prog 111 [.agg #[.bool a,.slice b c d,.slice e f g,.bool i,.slice j k l,.slice m n o],.agg #[.bool p,.slice q r s,.slice t u v,.bool w,.slice y z a0,.slice a1 a2 a3],.agg #[.bool a4,.slice a5 a6 a7,.slice a8 a9 b0,.bool b1,.slice b2 b3 b4,.slice b5 b6 b7]] h R:=
 fn_ok Tryz.func111 (fun _=>false) (.two .nil (.two .nil (.two (.ord [0,1,3,5,6,2,4,7,8,9,10,11,12,13,14]) .nil))) hv
def ref08_Mirror_vc (a:Bool) (b:OA) (c d:Nat) (e:OA) (f g:Nat) (i:Bool) (j:OA) (k l:Nat) (m:OA) (n o:Nat) (p:Bool) (q:OA) (r s:Nat) (t:OA) (u v:Nat) (w:Bool) (y:OA) (z a0:Nat) (a1:OA) (a2 a3:Nat) (a4:Bool) (a5:OA) (a6 a7:Nat) (a8:OA) (a9 b0:Nat) (b1:Bool) (b2:OA) (b3 b4:Nat) (b5:OA) (b6 b7:Nat) (h:Heap) (R:Value->Heap->Prop):Prop:=
 CallsU Tryz.prog 111 [.agg #[.bool a,.slice b c d,.slice e f g,.bool i,.slice j k l,.slice m n o],.agg #[.bool p,.slice q r s,.slice t u v,.bool w,.slice y z a0,.slice a1 a2 a3],.agg #[.bool a4,.slice a5 a6 a7,.slice a8 a9 b0,.bool b1,.slice b2 b3 b4,.slice b5 b6 b7]] h fun g1 g2=>
 ∃ b8 b9 c0 c1 c2 c3 c4 c5 c6 c7 c8 c9 d0 d1 d2,g1 = .tuple #[.agg #[.bool b8,.slice b9 c0 c1,.slice c2 c3 c4,.bool c5,.slice c6 c7 c8,.slice c9 d0 d1],.int .i64 d2]/\
 Br ((d2:Int) != 0)
 (R (.tuple #[.agg #[.bool false,.slice none 0 0,.slice none 0 0,.bool false,.slice none 0 0,.slice none 0 0],.int .i64 d2]) g2)
 (CallsU Tryz.prog 35 [.agg #[.bool b8,.slice b9 c0 c1,.slice c2 c3 c4,.bool c5,.slice c6 c7 c8,.slice c9 d0 d1],.agg #[.bool b8,.slice b9 c0 c1,.slice c2 c3 c4,.bool c5,.slice c6 c7 c8,.slice c9 d0 d1]] g2 fun g3 g4=>
 ∃ d3 d4 d5 d6 d7 d8 d9 e0 e1 e2 e3 e4 e5 e6,g3 = .agg #[.bool d3,.slice d4 d5 d6,.slice d7 d8 d9,.bool e0,.slice e1 e2 e3,.slice e4 e5 e6]/\
 LeH g2 g4/\
 CallsU Tryz.prog 181 [.agg #[.bool d3,.slice d4 d5 d6,.slice d7 d8 d9,.bool e0,.slice e1 e2 e3,.slice e4 e5 e6],.agg #[.bool a,.slice b c d,.slice e f g,.bool i,.slice j k l,.slice m n o]] g4 fun g5 g6=>
 ∃ e7 e8 e9 f0 f1 f2 f3 f4 f5 f6 f7 f8 f9 g0,g5 = .agg #[.bool e7,.slice e8 e9 f0,.slice f1 f2 f3,.bool f4,.slice f5 f6 f7,.slice f8 f9 g0]/\
 R (.tuple #[.agg #[.bool e7,.slice e8 e9 f0,.slice f1 f2 f3,.bool f4,.slice f5 f6 f7,.slice f8 f9 g0],.int .i64 0]) g6)
theorem ref08_Mirror_ok {a:Bool} {b:OA} {c d:Nat} {e:OA} {f g:Nat} {i:Bool} {j:OA} {k l:Nat} {m:OA} {n o:Nat} {p:Bool} {q:OA} {r s:Nat} {t:OA} {u v:Nat} {w:Bool} {y:OA} {z a0:Nat} {a1:OA} {a2 a3:Nat} {a4:Bool} {a5:OA} {a6 a7:Nat} {a8:OA} {a9 b0:Nat} {b1:Bool} {b2:OA} {b3 b4:Nat} {b5:OA} {b6 b7:Nat} {h:Heap} {R:Value->Heap->Prop} (hv:ref08_Mirror_vc a b c d e f g i j k l m n o p q r s t u v w y z a0 a1 a2 a3 a4 a5 a6 a7 a8 a9 b0 b1 b2 b3 b4 b5 b6 b7 h R):CallsU Tryz.prog 112 [.agg #[.bool a,.slice b c d,.slice e f g,.bool i,.slice j k l,.slice m n o],.agg #[.bool p,.slice q r s,.slice t u v,.bool w,.slice y z a0,.slice a1 a2 a3],.agg #[.bool a4,.slice a5 a6 a7,.slice a8 a9 b0,.bool b1,.slice b2 b3 b4,.slice b5 b6 b7]] h R:=
 fn_ok Tryz.func112 (fun _=>false) (.two .nil (.two .nil (.two .nil (.two (.ord [0,1,3,2,4,5,6]) .nil)))) hv
def ref01_Text_vc (a:OA) (b c:Nat) (h:Heap) (R:Value->Heap->Prop):Prop:=
 CallsU Tryz.prog 185 [.slice a b c] h fun z a0=>
 ∃ d e f,z = .slice d e f/\
 ∃ g:Nat->ByteArray->OA->Nat->Nat->Heap->Prop,(∃ i,g i (⟨#[]⟩:ByteArray) d e f a0)/\
 ∀ (i:Nat) (r:ByteArray) (s:OA) (t u:Nat) (v:Heap),g i r s t u v->
 Br (decide ((t:Int)>0))
 (CallsU Tryz.prog 186 [.slice s t u,.int .u64 10] v fun a1 a2=>
 ∃ j k l m,a1 = .tuple #[.slice j k l,.int .u64 m]/\
 ∀ q:Int,q=IntKind.u64.wrap (48+m)->
 ∀ (w:Nat) (y:Heap),a2 w=none->y=Heap.put a2 w ⟨[.int .u8 (IntKind.u8.wrap q)],5,(0,0)⟩->
 ∃ o:List Int,RdS y (some ⟨w,0,none⟩) 1 (List.map (Value.int .u8) o)/\
 (((⟨(List.map (fun n=>UInt8.ofNat (Int.toNat n)) o).toArray⟩:ByteArray).size+r.size:Nat):Int)<=9223372036854775807/\
 ∃ p,p<i/\g p ((⟨(List.map (fun n=>UInt8.ofNat (Int.toNat n)) o).toArray⟩:ByteArray)++r) j k l y)
 (Br (r.toList==(⟨#[]⟩:ByteArray).toList)
 (R (.string (⟨#[48]⟩:ByteArray)) v)
 (R (.string r) v))
theorem ref01_Text_ok {a:OA} {b c:Nat} {h:Heap} {R:Value->Heap->Prop} (hv:ref01_Text_vc a b c h R):CallsU Tryz.prog 113 [.slice a b c] h R:=
 fn_ok Tryz.func113 (fun _=>false) (.two .nil (.two .nil (.two .nil (.two (.one (.loop ⟨[(3,Sh.str),(4,Sh.slice)],[]⟩ .nil)) .nil)))) hv
def ref01_Of_vc (n:Int) (h:Heap) (R:Value->Heap->Prop):Prop:=
 ∃ a:Nat->Int->OA->Nat->Nat->Heap->Prop,(∃ b,a b n none 0 0 h)/\
 ∀ (b:Nat) (k:Int) (l:OA) (m o:Nat) (p:Heap),a b k l m o p->
 Br (decide (k>0))
 (∀ f:Int,f=(Int.tmod k 4294967296)->
 ∀ (q:Nat) (r:Heap),p q=none->r=Heap.put p q ⟨[.int .u32 (IntKind.u32.wrap f)],166,(0,0)⟩->
 ∃ c:List Value,RdS r (some ⟨q,0,none⟩) (1*1) c/\(∀ x∈c,Go.Vcg.one x=true)/\
 (m+1<=o-> ∃ (s:Addr) (t:Blk),l=some s/\s.spot=none/\r s.block=some t/\t.fz=(0,0)/\s.off+m*1+1*1<=t.cells.length/\
 ∀ g:Heap,g=Heap.put r s.block { t with cells:=setSeg t.cells (s.off+m*1) c }->
 ∀ i:Int,i=IntKind.u64.wrap (Int.tdiv k 4294967296)->
 ∃ d,d<b/\a d i l (m+1) o g)/\
 (o<m+1-> ∃ e:List Value,RdS r l (m*1) e/\(m+1)*4<=140737488355328/\
 ∀ (u v:Nat) (w:Heap),r u=none->m+1<=v->w=Heap.put r u ⟨e++c++repV [.int .u32 0] (v-(m+1)),166,(0,0)⟩->
 ∀ j:Int,j=IntKind.u64.wrap (Int.tdiv k 4294967296)->
 ∃ d,d<b/\a d j (some ⟨u,0,none⟩) (m+1) v w))
 (R (.slice l m o) p)
theorem ref01_Of_ok {n:Int} {h:Heap} {R:Value->Heap->Prop} (hv:ref01_Of_vc n h R):CallsU Tryz.prog 116 [.int .u64 n] h R:=
 fn_ok Tryz.func116 (fun _=>false) (.two .nil (.two .nil (.two (.one (.loop ⟨[(0,Sh.int .u64),(3,Sh.slice)],[]⟩ .nil)) .nil))) hv
def ref02_Same_vc (a:Bool) (b:OA) (c _d:Nat) (e:Bool) (f:OA) (g _i:Nat) (h:Heap) (R:Value->Heap->Prop):Prop:=
 ∃ j:Bool->Heap->Prop,(∀ (s:Bool) (t:Heap),j s t->
 Br (s)
 (R (.bool false) t)
 (∃ k:Nat->Int->Heap->Prop,(∃ l,k l 0 t)/\
 ∀ (l:Nat) (u:Int) (v:Heap),k l u v->
 Br (decide (u<(c:Int)))
 (∃ m:Addr,b=some m/\0<=u/\u<(c:Int)/\
 ∃ n,LdN v (Addr.add m (Int.toNat u*1)) [.int .u32 n]/\
 ∃ o:Addr,f=some o/\0<=u/\u<(g:Int)/\
 ∃ p,LdN v (Addr.add o (Int.toNat u*1)) [.int .u32 p]/\
 Br ((n:Int) != p)
 (R (.bool false) v)
 (∀ r:Int,r=IntKind.i64.wrap (u+1)->
 ∃ q,q<l/\k q r v))
 (R (.bool true) v)))/\
 Br (!(a==e))
 (j true h)
 (j ((c:Int) != (g:Int)) h)
theorem ref02_Same_ok {a:Bool} {b:OA} {c d:Nat} {e:Bool} {f:OA} {g i:Nat} {h:Heap} {R:Value->Heap->Prop} (hv:ref02_Same_vc a b c d e f g i h R):CallsU Tryz.prog 117 [.agg #[.bool a,.slice b c d],.agg #[.bool e,.slice f g i]] h R:=
 fn_ok Tryz.func117 (fun _=>false) (.two .nil (.two (.cut ⟨[(19,Sh.bool)],[]⟩ .nil .nil) (.two (.two .nil (.one (.loop ⟨[(5,Sh.int .i64)],[]⟩ (.two .nil (.two (.one (.two (.ord [0,1,2,3,4,5,6,7,8,9,10]) .nil)) .nil))))) .nil))) hv
def ref08_sameNat_vc (a:OA) (b _c:Nat) (d:OA) (e _f:Nat) (h:Heap) (R:Value->Heap->Prop):Prop:=
 Br ((b:Int) != (e:Int))
 (R (.bool false) h)
 (∃ g:Nat->Int->Heap->Prop,(∃ i,g i 0 h)/\
 ∀ (i:Nat) (p:Int) (q:Heap),g i p q->
 Br (decide (p<(b:Int)))
 (∃ j:Addr,a=some j/\0<=p/\p<(b:Int)/\
 ∃ k,LdN q (Addr.add j (Int.toNat p*1)) [.int .u32 k]/\
 ∃ l:Addr,d=some l/\0<=p/\p<(e:Int)/\
 ∃ m,LdN q (Addr.add l (Int.toNat p*1)) [.int .u32 m]/\
 Br ((k:Int) != m)
 (R (.bool false) q)
 (∀ o:Int,o=IntKind.i64.wrap (p+1)->
 ∃ n,n<i/\g n o q))
 (R (.bool true) q))
theorem ref08_sameNat_ok {a:OA} {b c:Nat} {d:OA} {e f:Nat} {h:Heap} {R:Value->Heap->Prop} (hv:ref08_sameNat_vc a b c d e f h R):CallsU Tryz.prog 118 [.slice a b c,.slice d e f] h R:=
 fn_ok Tryz.func118 (fun _=>false) (.two .nil (.two .nil (.two (.two .nil (.one (.loop ⟨[(5,Sh.int .i64)],[]⟩ (.two .nil (.two (.one (.two (.ord [0,1,2,3,4,5,6,7,8]) .nil)) .nil))))) .nil))) hv
def ref03_Norm_vc (a:Bool) (b:OA) (c d:Nat) (e:OA) (f g:Nat) (h:Heap) (R:Value->Heap->Prop):Prop:=
 CallsU Tryz.prog 188 [.agg #[.bool a,.slice b c d,.slice e f g]] h fun y z=>
 ∃ i,y = .bool i/\
 Br (i)
 (CallsU Tryz.prog 65 [.int .i64 0] z fun a0 a1=>
 ∃ j k l m n o p,a0 = .agg #[.bool j,.slice k l m,.slice n o p]/\
 R (.agg #[.bool j,.slice k l m,.slice n o p]) a1)
 (CallsU Tryz.prog 70 [.bool a,.slice b c d,.slice e f g] z fun a2 a3=>
 ∃ q r s t u v w,a2 = .agg #[.bool q,.slice r s t,.slice u v w]/\
 R (.agg #[.bool q,.slice r s t,.slice u v w]) a3)
theorem ref03_Norm_ok {a:Bool} {b:OA} {c d:Nat} {e:OA} {f g:Nat} {h:Heap} {R:Value->Heap->Prop} (hv:ref03_Norm_vc a b c d e f g h R):CallsU Tryz.prog 119 [.agg #[.bool a,.slice b c d,.slice e f g]] h R:=
 fn_ok Tryz.func119 (fun _=>false) .nil hv
def ref02_Add_vc (a:Bool) (b:OA) (c d:Nat) (e:Bool) (f:OA) (g i:Nat) (h:Heap) (R:Value->Heap->Prop):Prop:=
 Br (a==e)
 (CallsU Tryz.prog 190 [.slice b c d,.slice f g i] h fun a7 a8=>
 ∃ j k l,a7 = .slice j k l/\
 LeH h a8/\
 CallsU Tryz.prog 189 [.bool a,.slice j k l] a8 fun a9 b0=>
 ∃ m n o p,a9 = .agg #[.bool m,.slice n o p]/\
 R (.agg #[.bool m,.slice n o p]) b0)
 (CallsU Tryz.prog 191 [.slice b c d,.slice f g i] h fun b1 b2=>
 ∃ q r s t,b1 = .tuple #[.slice q r s,.bool t]/\
 Br (t)
 (CallsU Tryz.prog 189 [.bool a,.slice q r s] b2 fun b3 b4=>
 ∃ u v w y,b3 = .agg #[.bool u,.slice v w y]/\
 R (.agg #[.bool u,.slice v w y]) b4)
 (CallsU Tryz.prog 191 [.slice f g i,.slice b c d] b2 fun b5 b6=>
 ∃ z a0 a1 a2,b5 = .tuple #[.slice z a0 a1,.bool a2]/\
 CallsU Tryz.prog 189 [.bool e,.slice z a0 a1] b6 fun b7 b8=>
 ∃ a3 a4 a5 a6,b7 = .agg #[.bool a3,.slice a4 a5 a6]/\
 R (.agg #[.bool a3,.slice a4 a5 a6]) b8))
theorem ref02_Add_ok {a:Bool} {b:OA} {c d:Nat} {e:Bool} {f:OA} {g i:Nat} {h:Heap} {R:Value->Heap->Prop} (hv:ref02_Add_vc a b c d e f g i h R):CallsU Tryz.prog 120 [.agg #[.bool a,.slice b c d],.agg #[.bool e,.slice f g i]] h R:=
 fn_ok Tryz.func120 (fun _=>false) (.two .nil (.two (.two .nil (.two (.two (.ord [0,1,2,3,4,5,6,7,8]) .nil) .nil)) .nil)) hv
def ref02_Mul_vc (a:Bool) (b:OA) (c d:Nat) (e:Bool) (f:OA) (g i:Nat) (h:Heap) (R:Value->Heap->Prop):Prop:=
 CallsU Tryz.prog 122 [.slice b c d,.slice f g i] h fun q r=>
 ∃ j k l,q = .slice j k l/\
 LeH h r/\
 CallsU Tryz.prog 189 [.bool (!(a==e)),.slice j k l] r fun s t=>
 ∃ m n o p,s = .agg #[.bool m,.slice n o p]/\
 R (.agg #[.bool m,.slice n o p]) t
theorem ref02_Mul_ok {a:Bool} {b:OA} {c d:Nat} {e:Bool} {f:OA} {g i:Nat} {h:Heap} {R:Value->Heap->Prop} (hv:ref02_Mul_vc a b c d e f g i h R):CallsU Tryz.prog 121 [.agg #[.bool a,.slice b c d],.agg #[.bool e,.slice f g i]] h R:=
 fn_ok Tryz.func121 (fun _=>false) (.two .nil (.two (.ord [0,1,2,3,4,5,6,7,8,9,10,11]) .nil)) hv
def ref01_Mul_vc (a:OA) (b c:Nat) (d:OA) (e f:Nat) (h:Heap) (R:Value->Heap->Prop):Prop:=
 ∀ y:Int,y=IntKind.i64.wrap ((b:Int)+(e:Int))->
 0<=y/\y<=y/\y*4<=140737488355328/\y<=9223372036854775807/\
 ∀ (b1:Nat) (b2:Heap),h b1=none->b2=Heap.put h b1 ⟨repV [.int .u32 0] (Int.toNat y),166,(0,0)⟩->
 ∃ g:Nat->Int->Heap->Prop,(∃ i,g i 0 b2)/\
 ∀ (i:Nat) (b3:Int) (b4:Heap),g i b3 b4->
 Br (decide (b3<(b:Int)))
 (∃ j:Nat->Int->Int->Heap->Prop,(∃ k,j k 0 0 b4)/\
 ∀ (k:Nat) (b5:Int) (b6:Int) (b7:Heap),j k b5 b6 b7->
 Br (decide (b6<(e:Int)))
 (CallsU Tryz.prog 192 [.slice a b c,.int .i64 b3] b7 fun b8 b9=>
 ∃ l,b8 = .int .u64 l/\
 CallsU Tryz.prog 192 [.slice d e f,.int .i64 b6] b9 fun c0 c1=>
 ∃ m,c0 = .int .u64 m/\
 ∀ z:Int,z=IntKind.u64.wrap (l*m)->
 ∀ a0:Int,a0=IntKind.i64.wrap (b3+b6)->
 CallsU Tryz.prog 192 [.slice (some ⟨b1,0,none⟩) (Int.toNat y) (Int.toNat y),.int .i64 a0] c1 fun c2 c3=>
 ∃ n,c2 = .int .u64 n/\
 ∀ a1:Int,a1=IntKind.u64.wrap (z+n)->
 ∀ a2:Int,a2=IntKind.u64.wrap (a1+b5)->
 ∀ a3:Int,a3=IntKind.i64.wrap (b3+b6)->
 ∀ a4:Int,a4=(Int.tmod a2 4294967296)->
 ∃ o:Addr,some ⟨b1,0,none⟩=some o/\0<=a3/\a3<(((Int.toNat y):Nat):Int)/\
 ∃ p:Blk,c3 (Addr.block (Addr.add o (Int.toNat a3*1)))=some p/\p.fz=(0,0)/\Addr.spot (Addr.add o (Int.toNat a3*1))=none/\Addr.off (Addr.add o (Int.toNat a3*1))+1<=p.cells.length/\
 ∀ a5:Heap,a5=Heap.put c3 (Addr.block (Addr.add o (Int.toNat a3*1))) { p with cells:=setSeg p.cells (Addr.off (Addr.add o (Int.toNat a3*1))) [.int .u32 (IntKind.u32.wrap a4)] }->
 ∀ a6:Int,a6=IntKind.u64.wrap (Int.tdiv a2 4294967296)->
 ∀ a7:Int,a7=IntKind.i64.wrap (b6+1)->
 ∃ q,q<k/\j q a6 a7 a5)
 (∀ a8:Int,a8=IntKind.i64.wrap (b3+(e:Int))->
 ∃ r:Addr,some ⟨b1,0,none⟩=some r/\0<=a8/\a8<(((Int.toNat y):Nat):Int)/\
 ∃ s:Blk,b7 (Addr.block (Addr.add r (Int.toNat a8*1)))=some s/\s.fz=(0,0)/\Addr.spot (Addr.add r (Int.toNat a8*1))=none/\Addr.off (Addr.add r (Int.toNat a8*1))+1<=s.cells.length/\
 ∀ a9:Heap,a9=Heap.put b7 (Addr.block (Addr.add r (Int.toNat a8*1))) { s with cells:=setSeg s.cells (Addr.off (Addr.add r (Int.toNat a8*1))) [.int .u32 (IntKind.u32.wrap b5)] }->
 ∀ b0:Int,b0=IntKind.i64.wrap (b3+1)->
 ∃ t,t<i/\g t b0 a9))
 (CallsU Tryz.prog 185 [.slice (some ⟨b1,0,none⟩) (Int.toNat y) (Int.toNat y)] b4 fun c4 c5=>
 ∃ u v w,c4 = .slice u v w/\
 R (.slice u v w) c5)
theorem ref01_Mul_ok {a:OA} {b c:Nat} {d:OA} {e f:Nat} {h:Heap} {R:Value->Heap->Prop} (hv:ref01_Mul_vc a b c d e f h R):CallsU Tryz.prog 122 [.slice a b c,.slice d e f] h R:=
 fn_ok Tryz.func122 (fun _=>false) (.two .nil (.two .nil (.two (.two .nil (.one (.loop ⟨[(6,Sh.int .i64)],[]⟩ (.two .nil (.two (.one (.two .nil (.two (.two .nil (.one (.loop ⟨[(7,Sh.int .u64),(8,Sh.int .i64)],[]⟩ .nil))) .nil))) .nil))))) .nil))) hv
def ref01_Gcd_vc (a:OA) (b c:Nat) (d:OA) (e f:Nat) (h:Heap) (R:Value->Heap->Prop):Prop:=
 CallsU Tryz.prog 185 [.slice a b c] h fun a5 a6=>
 ∃ g i j,a5 = .slice g i j/\
 CallsU Tryz.prog 185 [.slice d e f] a6 fun a7 a8=>
 ∃ k l m,a7 = .slice k l m/\
 ∃ n:Nat->OA->Nat->Nat->OA->Nat->Nat->Heap->Prop,(∃ o,n o g i j k l m a8)/\
 ∀ (o:Nat) (y:OA) (z a0:Nat) (a1:OA) (a2 a3:Nat) (a4:Heap),n o y z a0 a1 a2 a3 a4->
 Br (decide ((a2:Int)>0))
 (CallsU Tryz.prog 124 [.slice y z a0,.slice a1 a2 a3] a4 fun a9 b0=>
 ∃ p q r s t u v,a9 = .tuple #[.slice p q r,.slice s t u,.bool v]/\
 ∃ w,w<o/\n w a1 a2 a3 s t u b0)
 (R (.slice y z a0) a4)
theorem ref01_Gcd_ok {a:OA} {b c:Nat} {d:OA} {e f:Nat} {h:Heap} {R:Value->Heap->Prop} (hv:ref01_Gcd_vc a b c d e f h R):CallsU Tryz.prog 123 [.slice a b c,.slice d e f] h R:=
 fn_ok Tryz.func123 (fun _=>false) (.two .nil (.two .nil (.two (.one (.loop ⟨[(5,Sh.slice),(6,Sh.slice)],[]⟩ .nil)) .nil))) hv
def ref01_DivMod_vc (a:OA) (b c:Nat) (d:OA) (e f:Nat) (h:Heap) (R:Value->Heap->Prop):Prop:=
 CallsU Tryz.prog 193 [.slice d e f] h fun d2 d3=>
 ∃ g,d2 = .int .i64 g/\
 Br ((g:Int)==0)
 (R (.tuple #[.slice none 0 0,.slice none 0 0,.bool false]) d3)
 (CallsU Tryz.prog 185 [.slice a b c] d3 fun d4 d5=>
 ∃ i j k,d4 = .slice i j k/\
 CallsU Tryz.prog 193 [.slice i j k] d5 fun d6 d7=>
 ∃ l,d6 = .int .i64 l/\
 CallsU Tryz.prog 193 [.slice d e f] d7 fun d8 d9=>
 ∃ m,d8 = .int .i64 m/\
 ∀ b1:Int,b1=IntKind.i64.wrap (l-m)->
 Br (decide (b1<0))
 (R (.tuple #[.slice none 0 0,.slice i j k,.bool true]) d9)
 (∀ b2:Int,b2=IntKind.i64.wrap (Int.tdiv b1 32)->
 ∀ b3:Int,b3=IntKind.i64.wrap (b2+1)->
 0<=b3/\b3<=b3/\b3*4<=140737488355328/\b3<=9223372036854775807/\
 ∀ (c2:Nat) (c3:Heap),d9 c2=none->c3=Heap.put d9 c2 ⟨repV [.int .u32 0] (Int.toNat b3),166,(0,0)⟩->
 CallsU Tryz.prog 194 [.slice d e f,.int .i64 b1] c3 fun e0 e1=>
 ∃ n o p,e0 = .slice n o p/\
 ∃ q:Nat->OA->Nat->Nat->OA->Nat->Nat->Int->Heap->Prop,(∃ r,q r i j k n o p b1 e1)/\
 ∀ (r:Nat) (c4:OA) (c5 c6:Nat) (c7:OA) (c8 c9:Nat) (d0:Int) (d1:Heap),q r c4 c5 c6 c7 c8 c9 d0 d1->
 Br (decide (d0>=0))
 (CallsU Tryz.prog 191 [.slice c4 c5 c6,.slice c7 c8 c9] d1 fun e2 e3=>
 ∃ s t u v,e2 = .tuple #[.slice s t u,.bool v]/\
 Br (v)
 (∀ b4:Int,b4=IntKind.i64.wrap (Int.tdiv d0 32)->
 ∀ b5:Int,b5=IntKind.i64.wrap (Int.tdiv d0 32)->
 ∃ w:Addr,some ⟨c2,0,none⟩=some w/\0<=b5/\b5<(((Int.toNat b3):Nat):Int)/\
 ∃ y,LdN e3 (Addr.add w (Int.toNat b5*1)) [.int .u32 y]/\
 ∀ b6:Int,b6=(Int.tmod d0 32)->
 Br (decide (IntKind.u64.wrap b6<0)) False
 (∀ b7:Int,b7=IntKind.u32.wrap (1*2^(min (Int.toNat (IntKind.u64.wrap b6)) 32:Nat))->
 ∀ b8:Int,b8=IntKind.u32.wrap (y+b7)->
 ∃ z:Addr,some ⟨c2,0,none⟩=some z/\0<=b4/\b4<(((Int.toNat b3):Nat):Int)/\
 ∃ a0:Blk,e3 (Addr.block (Addr.add z (Int.toNat b4*1)))=some a0/\a0.fz=(0,0)/\Addr.spot (Addr.add z (Int.toNat b4*1))=none/\Addr.off (Addr.add z (Int.toNat b4*1))+1<=a0.cells.length/\
 ∀ b9:Heap,b9=Heap.put e3 (Addr.block (Addr.add z (Int.toNat b4*1))) { a0 with cells:=setSeg a0.cells (Addr.off (Addr.add z (Int.toNat b4*1))) [.int .u32 b8] }->
 CallsU Tryz.prog 195 [.slice c7 c8 c9] b9 fun e4 e5=>
 ∃ a1 a2 a3,e4 = .slice a1 a2 a3/\
 ∀ c0:Int,c0=IntKind.i64.wrap (d0-1)->
 ∃ a4,a4<r/\q a4 s t u a1 a2 a3 c0 e5))
 (CallsU Tryz.prog 195 [.slice c7 c8 c9] e3 fun e6 e7=>
 ∃ a5 a6 a7,e6 = .slice a5 a6 a7/\
 ∀ c1:Int,c1=IntKind.i64.wrap (d0-1)->
 ∃ a4,a4<r/\q a4 c4 c5 c6 a5 a6 a7 c1 e7))
 (CallsU Tryz.prog 185 [.slice (some ⟨c2,0,none⟩) (Int.toNat b3) (Int.toNat b3)] d1 fun e8 e9=>
 ∃ a8 a9 b0,e8 = .slice a8 a9 b0/\
 R (.tuple #[.slice a8 a9 b0,.slice c4 c5 c6,.bool true]) e9)))
theorem ref01_DivMod_ok {a:OA} {b c:Nat} {d:OA} {e f:Nat} {h:Heap} {R:Value->Heap->Prop} (hv:ref01_DivMod_vc a b c d e f h R):CallsU Tryz.prog 124 [.slice a b c,.slice d e f] h R:=
 fn_ok Tryz.func124 (fun _=>false) (.two .nil (.two .nil (.two .nil (.two .nil (.two .nil (.two .nil (.two .nil (.two (.two .nil (.one (.loop ⟨[(7,Sh.slice),(10,Sh.slice),(11,Sh.int .i64)],[]⟩ .nil))) .nil)))))))) hv
def ref02_Norm_vc (a:Bool) (b:OA) (c d:Nat) (h:Heap) (R:Value->Heap->Prop):Prop:=
 CallsU Tryz.prog 189 [.bool a,.slice b c d] h fun j k=>
 ∃ e f g i,j = .agg #[.bool e,.slice f g i]/\
 R (.agg #[.bool e,.slice f g i]) k
theorem ref02_Norm_ok {a:Bool} {b:OA} {c d:Nat} {h:Heap} {R:Value->Heap->Prop} (hv:ref02_Norm_vc a b c d h R):CallsU Tryz.prog 125 [.agg #[.bool a,.slice b c d]] h R:=
 fn_ok Tryz.func125 (fun _=>false) .nil hv
def ref19_Point_vc (a:ByteArray) (h:Heap) (R:Value->Heap->Prop):Prop:=
 ∃ b:Bool->Heap->Prop,(∀ (q:Bool) (r:Heap),b q r->
 Br (q)
 (R (.bool false) r)
 (∃ c:Nat->Int->Heap->Prop,(∃ d,c d 1 r)/\
 ∀ (d:Nat) (s:Int) (t:Heap),c d s t->
 Br (decide (s<(a.size:Int)))
 (∃ e:UInt8,0<=s/\a[(Int.toNat s:Nat)]?=some e/\
 Br (decide ((e.toNat:Int)>=65))
 (Br (decide ((e.toNat:Int)<=90))
 (∀ j:Int,j=IntKind.i64.wrap (s+1)->
 ∃ f,f<d/\c f j t)
 (Br (decide ((e.toNat:Int)>=97))
 (Br (decide ((e.toNat:Int)<=122))
 (∀ k:Int,k=IntKind.i64.wrap (s+1)->
 ∃ f,f<d/\c f k t)
 (Br (decide ((e.toNat:Int)>=48))
 (Br (!(decide ((e.toNat:Int)<=57)))
 (R (.bool false) t)
 (∀ l:Int,l=IntKind.i64.wrap (s+1)->
 ∃ f,f<d/\c f l t))
 (R (.bool false) t)))
 (Br (decide ((e.toNat:Int)>=48))
 (Br (!(decide ((e.toNat:Int)<=57)))
 (R (.bool false) t)
 (∀ m:Int,m=IntKind.i64.wrap (s+1)->
 ∃ f,f<d/\c f m t))
 (R (.bool false) t))))
 (Br (decide ((e.toNat:Int)>=97))
 (Br (decide ((e.toNat:Int)<=122))
 (∀ n:Int,n=IntKind.i64.wrap (s+1)->
 ∃ f,f<d/\c f n t)
 (Br (decide ((e.toNat:Int)>=48))
 (Br (!(decide ((e.toNat:Int)<=57)))
 (R (.bool false) t)
 (∀ o:Int,o=IntKind.i64.wrap (s+1)->
 ∃ f,f<d/\c f o t))
 (R (.bool false) t)))
 (Br (decide ((e.toNat:Int)>=48))
 (Br (!(decide ((e.toNat:Int)<=57)))
 (R (.bool false) t)
 (∀ p:Int,p=IntKind.i64.wrap (s+1)->
 ∃ f,f<d/\c f p t))
 (R (.bool false) t))))
 (R (.bool true) t)))/\
 Br (decide ((a.size:Int)<1))
 (b true h)
 (Br (decide ((a.size:Int)>8))
 (b true h)
 (∃ g:UInt8,0<=(0:Int)/\a[(0:Nat)]?=some g/\
 Br (decide ((g.toNat:Int)<65))
 (b true h)
 (∃ i:UInt8,0<=(0:Int)/\a[(0:Nat)]?=some i/\
 b (decide ((i.toNat:Int)>90)) h)))
theorem ref19_Point_ok {a:ByteArray} {h:Heap} {R:Value->Heap->Prop} (hv:ref19_Point_vc a h R):CallsU Tryz.prog 157 [.string a] h R:=
 fn_ok Tryz.func157 (fun _=>false) (.two .nil (.two (.cut ⟨[(22,Sh.bool)],[]⟩ .nil .nil) (.two (.two .nil (.one (.loop ⟨[(3,Sh.int .i64)],[]⟩ .nil))) .nil))) hv
def ref19_froms_vc (a:Int) (h:Heap) (R:Value->Heap->Prop):Prop:=
 Br ((a:Int)==1)
 (R (.int .i64 0) h)
 (Br ((a:Int)==2)
 (R (.int .i64 1) h)
 (Br ((a:Int)==3)
 (R (.int .i64 2) h)
 (Br ((a:Int)==4)
 (R (.int .i64 4) h)
 (Br ((a:Int)==5)
 (Br ((a:Int)==5)
 (R (.int .i64 3) h)
 (R (.int .i64 (-1)) h))
 (Br ((a:Int)==6)
 (R (.int .i64 3) h)
 (R (.int .i64 (-1)) h))))))
theorem ref19_froms_ok {a:Int} {h:Heap} {R:Value->Heap->Prop} (hv:ref19_froms_vc a h R):CallsU Tryz.prog 158 [.int .i64 a] h R:=
 fn_ok Tryz.func158 (fun _=>false) .nil hv
def ref19_nums_vc (a:Int) (h:Heap) (R:Value->Heap->Prop):Prop:=
 Br ((a:Int)==1)
 (Br ((a:Int)==1)
 (R (.int .i64 2) h)
 (Br ((a:Int)==3)
 (R (.int .i64 1) h)
 (R (.int .i64 0) h)))
 (Br ((a:Int)==2)
 (R (.int .i64 2) h)
 (Br ((a:Int)==3)
 (R (.int .i64 1) h)
 (R (.int .i64 0) h)))
theorem ref19_nums_ok {a:Int} {h:Heap} {R:Value->Heap->Prop} (hv:ref19_nums_vc a h R):CallsU Tryz.prog 159 [.int .i64 a] h R:=
 fn_ok Tryz.func159 (fun _=>false) .nil hv
def ref02_Cmp_vc (a:Bool) (b:OA) (c d:Nat) (e:Bool) (f:OA) (g i:Nat) (h:Heap) (R:Value->Heap->Prop):Prop:=
 CallsU Tryz.prog 125 [.agg #[.bool a,.slice b c d]] h fun a0 a1=>
 ∃ j k l m,a0 = .agg #[.bool j,.slice k l m]/\
 LeH h a1/\
 CallsU Tryz.prog 125 [.agg #[.bool e,.slice f g i]] a1 fun a2 a3=>
 ∃ n o p q,a2 = .agg #[.bool n,.slice o p q]/\
 ∃ r:Bool->Heap->Prop,(∀ (v:Bool) (w:Heap),r v w->
 Br (v)
 (R (.int .i64 (-1)) w)
 (∃ s:Bool->Heap->Prop,(∀ (y:Bool) (z:Heap),s y z->
 Br (y)
 (R (.int .i64 1) z)
 (Br (j)
 (CallsU Tryz.prog 228 [.slice o p q,.slice k l m] z fun a4 a5=>
 ∃ t,a4 = .int .i64 t/\
 R (.int .i64 t) a5)
 (CallsU Tryz.prog 228 [.slice k l m,.slice o p q] z fun a6 a7=>
 ∃ u,a6 = .int .i64 u/\
 R (.int .i64 u) a7)))/\
 Br (!j)
 (s n w)
 (s false w)))/\
 Br (j)
 (r (!n) a3)
 (r false a3)
theorem ref02_Cmp_ok {a:Bool} {b:OA} {c d:Nat} {e:Bool} {f:OA} {g i:Nat} {h:Heap} {R:Value->Heap->Prop} (hv:ref02_Cmp_vc a b c d e f g i h R):CallsU Tryz.prog 172 [.agg #[.bool a,.slice b c d],.agg #[.bool e,.slice f g i]] h R:=
 fn_ok Tryz.func172 (fun _=>false) (.two .nil (.two (.ord [0,2,1,3,4,5,6,7]) (.two (.one (.cut ⟨[(11,Sh.bool)],[]⟩ .nil (.two .nil (.cut ⟨[(19,Sh.bool)],[]⟩ .nil .nil)))) .nil))) hv
def ref17_check_vc (a:Int) (b:Bool) (c:OA) (d e:Nat) (f:OA) (g i:Nat) (j:ByteArray) (k:OA) (l m:Nat) (n:Int) (h:Heap) (R:Value->Heap->Prop):Prop:=
 Br (decide (n>12))
 (R (.int .i64 5) h)
 (CallsU Tryz.prog 235 [.agg #[.int .i64 a,.bool b,.slice c d e,.slice f g i,.string j,.slice k l m]] h fun b1 b2=>
 ∃ o,b1 = .bool o/\
 Br (!o)
 (R (.int .i64 1) b2)
 (∃ p:Nat->Int->Heap->Prop,(∃ q,p q 0 b2)/\
 ∀ (q:Nat) (a9:Int) (b0:Heap),p q a9 b0->
 Br (decide (a9<(l:Int)))
 (∃ r:Addr,k=some r/\0<=a9/\a9<(l:Int)/\
 ∃ s t u v w y z a0 a1 a2 a3 a4,LdN b0 (Addr.add r (Int.toNat a9*6)) [.int .i64 s,.bool t,.slice u v w,.slice y z a0,.string a1,.slice a2 a3 a4]/\
 ∀ a7:Int,a7=IntKind.i64.wrap (n+1)->
 CallsU Tryz.prog 177 [.agg #[.int .i64 s,.bool t,.slice u v w,.slice y z a0,.string a1,.slice a2 a3 a4],.int .i64 a7] b0 fun b3 b4=>
 ∃ a5,b3 = .int .i64 a5/\
 Br ((a5:Int) != 0)
 (R (.int .i64 a5) b4)
 (∀ a8:Int,a8=IntKind.i64.wrap (a9+1)->
 ∃ a6,a6<q/\p a6 a8 b4))
 (R (.int .i64 0) b0)))
theorem ref17_check_ok {a:Int} {b:Bool} {c:OA} {d e:Nat} {f:OA} {g i:Nat} {j:ByteArray} {k:OA} {l m:Nat} {n:Int} {h:Heap} {R:Value->Heap->Prop} (hv:ref17_check_vc a b c d e f g i j k l m n h R):CallsU Tryz.prog 177 [.agg #[.int .i64 a,.bool b,.slice c d e,.slice f g i,.string j,.slice k l m],.int .i64 n] h R:=
 fn_ok Tryz.func177 (fun _=>false) (.two .nil (.two .nil (.two .nil (.two (.two .nil (.one (.loop ⟨[(5,Sh.int .i64)],[]⟩ .nil))) .nil)))) hv
def ref17_lookup_vc (a:OA) (b _c:Nat) (d:ByteArray) (h:Heap) (R:Value->Heap->Prop):Prop:=
 ∃ e:Nat->Int->Bool->OA->Nat->Nat->OA->Nat->Nat->Heap->Prop,(∃ f,e f 0 false none 0 0 none 0 0 h)/\
 ∀ (f:Nat) (a1:Int) (a2:Bool) (a3:OA) (a4 a5:Nat) (a6:OA) (a7 a8:Nat) (a9:Heap),e f a1 a2 a3 a4 a5 a6 a7 a8 a9->
 Br (decide (a1<(b:Int)))
 (∃ g:Addr,a=some g/\0<=a1/\a1<(b:Int)/\
 ∃ i,LdN a9 (Addr.add (Addr.add g (Int.toNat a1*4)) 0) [.string i]/\
 Br (i.toList==d.toList)
 (∃ j:Addr,a=some j/\0<=a1/\a1<(b:Int)/\
 ∃ k l m n o p q,LdN a9 (Addr.add (Addr.add j (Int.toNat a1*4)) 1) [.bool k,.slice l m n,.slice o p q]/\
 CallsU Tryz.prog 119 [.agg #[.bool k,.slice l m n,.slice o p q]] a9 fun b0 b1=>
 ∃ r s t u v w y,b0 = .agg #[.bool r,.slice s t u,.slice v w y]/\
 R (.tuple #[.agg #[.bool r,.slice s t u,.slice v w y],.int .i64 0]) b1)
 (∀ a0:Int,a0=IntKind.i64.wrap (a1+1)->
 ∃ z,z<f/\e z a0 a2 a3 a4 a5 a6 a7 a8 a9))
 (R (.tuple #[.agg #[.bool false,.slice none 0 0,.slice none 0 0],.int .i64 6]) a9)
theorem ref17_lookup_ok {a:OA} {b c:Nat} {d:ByteArray} {h:Heap} {R:Value->Heap->Prop} (hv:ref17_lookup_vc a b c d h R):CallsU Tryz.prog 178 [.slice a b c,.string d] h R:=
 fn_ok Tryz.func178 (fun _=>false) (.two .nil (.two (.two .nil (.one (.loop ⟨[(6,Sh.int .i64)],[(0,[Sh.bool,Sh.slice,Sh.slice])]⟩ .nil))) .nil)) hv
def ref17_apply_vc (a:Int) (b:OA) (c _d:Nat) (h:Heap) (R:Value->Heap->Prop):Prop:=
 Br ((a:Int)==3)
 (∃ e:Addr,b=some e/\0<=(0:Int)/\(0:Int)<(c:Int)/\
 ∃ f g i j k l m,LdN h (Addr.add e (0*3)) [.bool f,.slice g i j,.slice k l m]/\
 ∃ n:Addr,b=some n/\0<=(1:Int)/\(1:Int)<(c:Int)/\
 ∃ o p q r s t u,LdN h (Addr.add n (1*3)) [.bool o,.slice p q r,.slice s t u]/\
 CallsU Tryz.prog 68 [.agg #[.bool f,.slice g i j,.slice k l m],.agg #[.bool o,.slice p q r,.slice s t u]] h fun p8 p9=>
 ∃ v w y z a0 a1 a2,p8 = .agg #[.bool v,.slice w y z,.slice a0 a1 a2]/\
 R (.tuple #[.agg #[.bool v,.slice w y z,.slice a0 a1 a2],.int .i64 0]) p9)
 (Br ((a:Int)==4)
 (∃ a3:Addr,b=some a3/\0<=(0:Int)/\(0:Int)<(c:Int)/\
 ∃ a4 a5 a6 a7 a8 a9 b0,LdN h (Addr.add a3 (0*3)) [.bool a4,.slice a5 a6 a7,.slice a8 a9 b0]/\
 ∃ b1:Addr,b=some b1/\0<=(1:Int)/\(1:Int)<(c:Int)/\
 ∃ b2 b3 b4 b5 b6 b7 b8,LdN h (Addr.add b1 (1*3)) [.bool b2,.slice b3 b4 b5,.slice b6 b7 b8]/\
 CallsU Tryz.prog 236 [.agg #[.bool a4,.slice a5 a6 a7,.slice a8 a9 b0],.agg #[.bool b2,.slice b3 b4 b5,.slice b6 b7 b8]] h fun q0 q1=>
 ∃ b9 c0 c1 c2 c3 c4 c5,q0 = .agg #[.bool b9,.slice c0 c1 c2,.slice c3 c4 c5]/\
 R (.tuple #[.agg #[.bool b9,.slice c0 c1 c2,.slice c3 c4 c5],.int .i64 0]) q1)
 (Br ((a:Int)==5)
 (∃ c6:Addr,b=some c6/\0<=(0:Int)/\(0:Int)<(c:Int)/\
 ∃ c7 c8 c9 d0 d1 d2 d3,LdN h (Addr.add c6 (0*3)) [.bool c7,.slice c8 c9 d0,.slice d1 d2 d3]/\
 ∃ d4:Addr,b=some d4/\0<=(1:Int)/\(1:Int)<(c:Int)/\
 ∃ d5 d6 d7 d8 d9 e0 e1,LdN h (Addr.add d4 (1*3)) [.bool d5,.slice d6 d7 d8,.slice d9 e0 e1]/\
 CallsU Tryz.prog 237 [.agg #[.bool c7,.slice c8 c9 d0,.slice d1 d2 d3],.agg #[.bool d5,.slice d6 d7 d8,.slice d9 e0 e1]] h fun q2 q3=>
 ∃ e2 e3 e4 e5 e6 e7 e8,q2 = .agg #[.bool e2,.slice e3 e4 e5,.slice e6 e7 e8]/\
 R (.tuple #[.agg #[.bool e2,.slice e3 e4 e5,.slice e6 e7 e8],.int .i64 0]) q3)
 (Br ((a:Int)==6)
 (∃ e9:Addr,b=some e9/\0<=(0:Int)/\(0:Int)<(c:Int)/\
 ∃ f0 f1 f2 f3 f4 f5 f6,LdN h (Addr.add e9 (0*3)) [.bool f0,.slice f1 f2 f3,.slice f4 f5 f6]/\
 ∃ f7:Addr,b=some f7/\0<=(1:Int)/\(1:Int)<(c:Int)/\
 ∃ f8 f9 g0 g1 g2 g3 g4,LdN h (Addr.add f7 (1*3)) [.bool f8,.slice f9 g0 g1,.slice g2 g3 g4]/\
 CallsU Tryz.prog 182 [.agg #[.bool f0,.slice f1 f2 f3,.slice f4 f5 f6],.agg #[.bool f8,.slice f9 g0 g1,.slice g2 g3 g4]] h fun q4 q5=>
 ∃ g5 g6 g7 g8 g9 i0 i1 i2,q4 = .tuple #[.agg #[.bool g5,.slice g6 g7 g8,.slice g9 i0 i1],.bool i2]/\
 Br (!i2)
 (R (.tuple #[.agg #[.bool false,.slice none 0 0,.slice none 0 0],.int .i64 10]) q5)
 (R (.tuple #[.agg #[.bool g5,.slice g6 g7 g8,.slice g9 i0 i1],.int .i64 0]) q5))
 (Br ((a:Int)==7)
 (∃ i3:Addr,b=some i3/\0<=(0:Int)/\(0:Int)<(c:Int)/\
 ∃ i4 i5 i6 i7 i8 i9 j0,LdN h (Addr.add i3 (0*3)) [.bool i4,.slice i5 i6 i7,.slice i8 i9 j0]/\
 CallsU Tryz.prog 238 [.agg #[.bool i4,.slice i5 i6 i7,.slice i8 i9 j0]] h fun q6 q7=>
 ∃ j1 j2 j3 j4 j5 j6 j7,q6 = .agg #[.bool j1,.slice j2 j3 j4,.slice j5 j6 j7]/\
 R (.tuple #[.agg #[.bool j1,.slice j2 j3 j4,.slice j5 j6 j7],.int .i64 0]) q7)
 (∃ j8:Addr,b=some j8/\0<=(0:Int)/\(0:Int)<(c:Int)/\
 ∃ j9 k0 k1 k2 k3 k4 k5,LdN h (Addr.add j8 (0*3)) [.bool j9,.slice k0 k1 k2,.slice k3 k4 k5]/\
 ∃ k6:Nat->Int->Bool->OA->Nat->Nat->OA->Nat->Nat->Heap->Prop,(∃ k7,k6 k7 1 j9 k0 k1 k2 k3 k4 k5 h)/\
 ∀ (k7:Nat) (o9:Int) (p0:Bool) (p1:OA) (p2 p3:Nat) (p4:OA) (p5 p6:Nat) (p7:Heap),k6 k7 o9 p0 p1 p2 p3 p4 p5 p6 p7->
 Br (decide (o9<(c:Int)))
 (∃ k8:Addr,b=some k8/\0<=o9/\o9<(c:Int)/\
 ∃ k9 l0 l1 l2 l3 l4 l5,LdN p7 (Addr.add k8 (Int.toNat o9*3)) [.bool k9,.slice l0 l1 l2,.slice l3 l4 l5]/\
 CallsU Tryz.prog 101 [.agg #[.bool k9,.slice l0 l1 l2,.slice l3 l4 l5],.agg #[.bool p0,.slice p1 p2 p3,.slice p4 p5 p6]] p7 fun q8 q9=>
 ∃ l6,q8 = .int .i64 l6/\
 Br ((a:Int)==8)
 (Br (decide (l6<0))
 (∃ l7:Addr,b=some l7/\0<=o9/\o9<(c:Int)/\
 ∃ l8 l9 m0 m1 m2 m3 m4,LdN q9 (Addr.add l7 (Int.toNat o9*3)) [.bool l8,.slice l9 m0 m1,.slice m2 m3 m4]/\
 ∀ o2:Int,o2=IntKind.i64.wrap (o9+1)->
 ∃ m5,m5<k7/\k6 m5 o2 l8 l9 m0 m1 m2 m3 m4 q9)
 (Br ((a:Int)==9)
 (Br (decide (l6>0))
 (∃ m6:Addr,b=some m6/\0<=o9/\o9<(c:Int)/\
 ∃ m7 m8 m9 n0 n1 n2 n3,LdN q9 (Addr.add m6 (Int.toNat o9*3)) [.bool m7,.slice m8 m9 n0,.slice n1 n2 n3]/\
 ∀ o3:Int,o3=IntKind.i64.wrap (o9+1)->
 ∃ m5,m5<k7/\k6 m5 o3 m7 m8 m9 n0 n1 n2 n3 q9)
 (∀ o4:Int,o4=IntKind.i64.wrap (o9+1)->
 ∃ m5,m5<k7/\k6 m5 o4 p0 p1 p2 p3 p4 p5 p6 q9))
 (∀ o5:Int,o5=IntKind.i64.wrap (o9+1)->
 ∃ m5,m5<k7/\k6 m5 o5 p0 p1 p2 p3 p4 p5 p6 q9)))
 (Br ((a:Int)==9)
 (Br (decide (l6>0))
 (∃ n4:Addr,b=some n4/\0<=o9/\o9<(c:Int)/\
 ∃ n5 n6 n7 n8 n9 o0 o1,LdN q9 (Addr.add n4 (Int.toNat o9*3)) [.bool n5,.slice n6 n7 n8,.slice n9 o0 o1]/\
 ∀ o6:Int,o6=IntKind.i64.wrap (o9+1)->
 ∃ m5,m5<k7/\k6 m5 o6 n5 n6 n7 n8 n9 o0 o1 q9)
 (∀ o7:Int,o7=IntKind.i64.wrap (o9+1)->
 ∃ m5,m5<k7/\k6 m5 o7 p0 p1 p2 p3 p4 p5 p6 q9))
 (∀ o8:Int,o8=IntKind.i64.wrap (o9+1)->
 ∃ m5,m5<k7/\k6 m5 o8 p0 p1 p2 p3 p4 p5 p6 q9)))
 (R (.tuple #[.agg #[.bool p0,.slice p1 p2 p3,.slice p4 p5 p6],.int .i64 0]) p7))))))
theorem ref17_apply_ok {a:Int} {b:OA} {c d:Nat} {h:Heap} {R:Value->Heap->Prop} (hv:ref17_apply_vc a b c d h R):CallsU Tryz.prog 179 [.int .i64 a,.slice b c d] h R:=
 fn_ok Tryz.func179 (fun _=>false) (.two .nil (.two (.two .nil (.one (.two .nil (.two (.two (.ord [0,1,2,3,4,5,6,7,8]) .nil) (.two .nil (.two (.two (.ord [0,1,2,3,4,5,6,7,8]) .nil) (.two .nil (.two (.two (.ord [0,1,2,3,4,5,6,7,8]) .nil) (.two .nil (.two (.two (.ord [0,1,2,3,4,5,6,7,8,9,10,11,12]) .nil) .nil)))))))))) (.two .nil (.two (.two .nil (.one (.loop ⟨[(9,Sh.int .i64)],[(1,[Sh.bool,Sh.slice,Sh.slice])]⟩ (.two .nil (.two (.one (.two (.ord [0,1,2,3,4,5,6]) .nil)) .nil))))) .nil)))) hv
def ref08_Scale_vc (a:Bool) (b:OA) (c d:Nat) (e:OA) (f g:Nat) (i:Bool) (j:OA) (k l:Nat) (m:OA) (n o:Nat) (p:Bool) (q:OA) (r s:Nat) (t:OA) (u v:Nat) (h:Heap) (R:Value->Heap->Prop):Prop:=
 CallsU Tryz.prog 237 [.agg #[.bool a,.slice b c d,.slice e f g],.agg #[.bool p,.slice q r s,.slice t u v]] h fun b1 b2=>
 ∃ w y z a0 a1 a2 a3,b1 = .agg #[.bool w,.slice y z a0,.slice a1 a2 a3]/\
 LeH h b2/\
 CallsU Tryz.prog 237 [.agg #[.bool i,.slice j k l,.slice m n o],.agg #[.bool p,.slice q r s,.slice t u v]] b2 fun b3 b4=>
 ∃ a4 a5 a6 a7 a8 a9 b0,b3 = .agg #[.bool a4,.slice a5 a6 a7,.slice a8 a9 b0]/\
 R (.agg #[.bool w,.slice y z a0,.slice a1 a2 a3,.bool a4,.slice a5 a6 a7,.slice a8 a9 b0]) b4
theorem ref08_Scale_ok {a:Bool} {b:OA} {c d:Nat} {e:OA} {f g:Nat} {i:Bool} {j:OA} {k l:Nat} {m:OA} {n o:Nat} {p:Bool} {q:OA} {r s:Nat} {t:OA} {u v:Nat} {h:Heap} {R:Value->Heap->Prop} (hv:ref08_Scale_vc a b c d e f g i j k l m n o p q r s t u v h R):CallsU Tryz.prog 180 [.agg #[.bool a,.slice b c d,.slice e f g,.bool i,.slice j k l,.slice m n o],.agg #[.bool p,.slice q r s,.slice t u v]] h R:=
 fn_ok Tryz.func180 (fun _=>false) (.two .nil (.two (.ord [0,1,2,4,5,6,3,7,8,9]) .nil)) hv
def ref08_Sub_vc (a:Bool) (b:OA) (c d:Nat) (e:OA) (f g:Nat) (i:Bool) (j:OA) (k l:Nat) (m:OA) (n o:Nat) (p:Bool) (q:OA) (r s:Nat) (t:OA) (u v:Nat) (w:Bool) (y:OA) (z a0:Nat) (a1:OA) (a2 a3:Nat) (h:Heap) (R:Value->Heap->Prop):Prop:=
 CallsU Tryz.prog 236 [.agg #[.bool a,.slice b c d,.slice e f g],.agg #[.bool p,.slice q r s,.slice t u v]] h fun b8 b9=>
 ∃ a4 a5 a6 a7 a8 a9 b0,b8 = .agg #[.bool a4,.slice a5 a6 a7,.slice a8 a9 b0]/\
 LeH h b9/\
 CallsU Tryz.prog 236 [.agg #[.bool i,.slice j k l,.slice m n o],.agg #[.bool w,.slice y z a0,.slice a1 a2 a3]] b9 fun c0 c1=>
 ∃ b1 b2 b3 b4 b5 b6 b7,c0 = .agg #[.bool b1,.slice b2 b3 b4,.slice b5 b6 b7]/\
 R (.agg #[.bool a4,.slice a5 a6 a7,.slice a8 a9 b0,.bool b1,.slice b2 b3 b4,.slice b5 b6 b7]) c1
theorem ref08_Sub_ok {a:Bool} {b:OA} {c d:Nat} {e:OA} {f g:Nat} {i:Bool} {j:OA} {k l:Nat} {m:OA} {n o:Nat} {p:Bool} {q:OA} {r s:Nat} {t:OA} {u v:Nat} {w:Bool} {y:OA} {z a0:Nat} {a1:OA} {a2 a3:Nat} {h:Heap} {R:Value->Heap->Prop} (hv:ref08_Sub_vc a b c d e f g i j k l m n o p q r s t u v w y z a0 a1 a2 a3 h R):CallsU Tryz.prog 181 [.agg #[.bool a,.slice b c d,.slice e f g,.bool i,.slice j k l,.slice m n o],.agg #[.bool p,.slice q r s,.slice t u v,.bool w,.slice y z a0,.slice a1 a2 a3]] h R:=
 fn_ok Tryz.func181 (fun _=>false) (.two .nil (.two (.ord [0,1,2,3,5,6,7,8,4,9,10,11]) .nil)) hv
def ref03_Div_vc (a:Bool) (b:OA) (c d:Nat) (e:OA) (f g:Nat) (i:Bool) (j:OA) (k l:Nat) (m:OA) (n o:Nat) (h:Heap) (R:Value->Heap->Prop):Prop:=
 CallsU Tryz.prog 188 [.agg #[.bool i,.slice j k l,.slice m n o]] h fun b8 b9=>
 ∃ p,b8 = .bool p/\
 Br (p)
 (R (.tuple #[.agg #[.bool false,.slice none 0 0,.slice none 0 0],.bool false]) b9)
 (CallsU Tryz.prog 119 [.agg #[.bool a,.slice b c d,.slice e f g]] b9 fun c0 c1=>
 ∃ q r s t u v w,c0 = .agg #[.bool q,.slice r s t,.slice u v w]/\
 LeH b9 c1/\
 CallsU Tryz.prog 119 [.agg #[.bool i,.slice j k l,.slice m n o]] c1 fun c2 c3=>
 ∃ y z a0 a1 a2 a3 a4,c2 = .agg #[.bool y,.slice z a0 a1,.slice a2 a3 a4]/\
 CallsU Tryz.prog 122 [.slice r s t,.slice a2 a3 a4] c3 fun c4 c5=>
 ∃ a5 a6 a7,c4 = .slice a5 a6 a7/\
 LeH c3 c5/\
 CallsU Tryz.prog 122 [.slice u v w,.slice z a0 a1] c5 fun c6 c7=>
 ∃ a8 a9 b0,c6 = .slice a8 a9 b0/\
 LeH c5 c7/\
 CallsU Tryz.prog 70 [.bool (!(q==y)),.slice a5 a6 a7,.slice a8 a9 b0] c7 fun c8 c9=>
 ∃ b1 b2 b3 b4 b5 b6 b7,c8 = .agg #[.bool b1,.slice b2 b3 b4,.slice b5 b6 b7]/\
 R (.tuple #[.agg #[.bool b1,.slice b2 b3 b4,.slice b5 b6 b7],.bool true]) c9)
theorem ref03_Div_ok {a:Bool} {b:OA} {c d:Nat} {e:OA} {f g:Nat} {i:Bool} {j:OA} {k l:Nat} {m:OA} {n o:Nat} {h:Heap} {R:Value->Heap->Prop} (hv:ref03_Div_vc a b c d e f g i j k l m n o h R):CallsU Tryz.prog 182 [.agg #[.bool a,.slice b c d,.slice e f g],.agg #[.bool i,.slice j k l,.slice m n o]] h R:=
 fn_ok Tryz.func182 (fun _=>false) (.two .nil (.two .nil (.two (.ord [0,2,1,3,4,5,6,7]) (.two (.ord [0,1,2,3,4,5,6,7,8,9,10,11,13,14,15,16,17,12,18,19,20,21]) .nil)))) hv
def ref08_Cross_vc (a:Bool) (b:OA) (c d:Nat) (e:OA) (f g:Nat) (i:Bool) (j:OA) (k l:Nat) (m:OA) (n o:Nat) (p:Bool) (q:OA) (r s:Nat) (t:OA) (u v:Nat) (w:Bool) (y:OA) (z a0:Nat) (a1:OA) (a2 a3:Nat) (h:Heap) (R:Value->Heap->Prop):Prop:=
 CallsU Tryz.prog 237 [.agg #[.bool a,.slice b c d,.slice e f g],.agg #[.bool w,.slice y z a0,.slice a1 a2 a3]] h fun c5 c6=>
 ∃ a4 a5 a6 a7 a8 a9 b0,c5 = .agg #[.bool a4,.slice a5 a6 a7,.slice a8 a9 b0]/\
 LeH h c6/\
 CallsU Tryz.prog 237 [.agg #[.bool i,.slice j k l,.slice m n o],.agg #[.bool p,.slice q r s,.slice t u v]] c6 fun c7 c8=>
 ∃ b1 b2 b3 b4 b5 b6 b7,c7 = .agg #[.bool b1,.slice b2 b3 b4,.slice b5 b6 b7]/\
 CallsU Tryz.prog 236 [.agg #[.bool a4,.slice a5 a6 a7,.slice a8 a9 b0],.agg #[.bool b1,.slice b2 b3 b4,.slice b5 b6 b7]] c8 fun c9 d0=>
 ∃ b8 b9 c0 c1 c2 c3 c4,c9 = .agg #[.bool b8,.slice b9 c0 c1,.slice c2 c3 c4]/\
 R (.agg #[.bool b8,.slice b9 c0 c1,.slice c2 c3 c4]) d0
theorem ref08_Cross_ok {a:Bool} {b:OA} {c d:Nat} {e:OA} {f g:Nat} {i:Bool} {j:OA} {k l:Nat} {m:OA} {n o:Nat} {p:Bool} {q:OA} {r s:Nat} {t:OA} {u v:Nat} {w:Bool} {y:OA} {z a0:Nat} {a1:OA} {a2 a3:Nat} {h:Heap} {R:Value->Heap->Prop} (hv:ref08_Cross_vc a b c d e f g i j k l m n o p q r s t u v w y z a0 a1 a2 a3 h R):CallsU Tryz.prog 183 [.agg #[.bool a,.slice b c d,.slice e f g,.bool i,.slice j k l,.slice m n o],.agg #[.bool p,.slice q r s,.slice t u v,.bool w,.slice y z a0,.slice a1 a2 a3]] h R:=
 fn_ok Tryz.func183 (fun _=>false) (.two .nil (.two (.ord [0,1,2,3,5,6,7,8,4,9,10,11]) .nil)) hv
def ref08_Dot_vc (a:Bool) (b:OA) (c d:Nat) (e:OA) (f g:Nat) (i:Bool) (j:OA) (k l:Nat) (m:OA) (n o:Nat) (p:Bool) (q:OA) (r s:Nat) (t:OA) (u v:Nat) (w:Bool) (y:OA) (z a0:Nat) (a1:OA) (a2 a3:Nat) (h:Heap) (R:Value->Heap->Prop):Prop:=
 CallsU Tryz.prog 237 [.agg #[.bool a,.slice b c d,.slice e f g],.agg #[.bool p,.slice q r s,.slice t u v]] h fun c5 c6=>
 ∃ a4 a5 a6 a7 a8 a9 b0,c5 = .agg #[.bool a4,.slice a5 a6 a7,.slice a8 a9 b0]/\
 LeH h c6/\
 CallsU Tryz.prog 237 [.agg #[.bool i,.slice j k l,.slice m n o],.agg #[.bool w,.slice y z a0,.slice a1 a2 a3]] c6 fun c7 c8=>
 ∃ b1 b2 b3 b4 b5 b6 b7,c7 = .agg #[.bool b1,.slice b2 b3 b4,.slice b5 b6 b7]/\
 CallsU Tryz.prog 68 [.agg #[.bool a4,.slice a5 a6 a7,.slice a8 a9 b0],.agg #[.bool b1,.slice b2 b3 b4,.slice b5 b6 b7]] c8 fun c9 d0=>
 ∃ b8 b9 c0 c1 c2 c3 c4,c9 = .agg #[.bool b8,.slice b9 c0 c1,.slice c2 c3 c4]/\
 R (.agg #[.bool b8,.slice b9 c0 c1,.slice c2 c3 c4]) d0
theorem ref08_Dot_ok {a:Bool} {b:OA} {c d:Nat} {e:OA} {f g:Nat} {i:Bool} {j:OA} {k l:Nat} {m:OA} {n o:Nat} {p:Bool} {q:OA} {r s:Nat} {t:OA} {u v:Nat} {w:Bool} {y:OA} {z a0:Nat} {a1:OA} {a2 a3:Nat} {h:Heap} {R:Value->Heap->Prop} (hv:ref08_Dot_vc a b c d e f g i j k l m n o p q r s t u v w y z a0 a1 a2 a3 h R):CallsU Tryz.prog 184 [.agg #[.bool a,.slice b c d,.slice e f g,.bool i,.slice j k l,.slice m n o],.agg #[.bool p,.slice q r s,.slice t u v,.bool w,.slice y z a0,.slice a1 a2 a3]] h R:=
 fn_ok Tryz.func184 (fun _=>false) (.two .nil (.two (.ord [0,1,2,3,5,6,7,8,4,9,10,11]) .nil)) hv
def ref01_Norm_vc (a:OA) (b c:Nat) (h:Heap) (R:Value->Heap->Prop):Prop:=
 ∃ d:Nat->Int->Heap->Prop,(∃ e,d e (b:Int) h)/\
 ∀ (e:Nat) (n:Int) (s:Heap),d e n s->
 Br (decide (n>0))
 (∀ o:Int,o=IntKind.i64.wrap (n-1)->
 ∃ f:Addr,a=some f/\0<=o/\o<(b:Int)/\
 ∃ g,LdN s (Addr.add f (Int.toNat o*1)) [.int .u32 g]/\
 Br ((g:Int)==0)
 (∀ p:Int,p=IntKind.i64.wrap (n-1)->
 ∃ i,i<e/\d i p s)
 (((0:Nat):Int)<=n/\n<=(c:Int)/\
 ∃ j:List Value,RdS s a ((Int.toNat n)*1) j/\(∀ x∈j,Go.Vcg.one x=true)/\
 (0+(Int.toNat n)<=0->Br (decide ((Int.toNat n)*1=0)) (R (.slice none (0+(Int.toNat n)) 0) s)
 (∃ (t:Addr) (u:Blk),none=some t/\t.spot=none/\s t.block=some u/\u.fz=(0,0)/\t.off+0*1+(Int.toNat n)*1<=u.cells.length/\
 ∀ q:Heap,q=Heap.put s t.block { u with cells:=setSeg u.cells (t.off+0*1) j }->
 R (.slice none (0+(Int.toNat n)) 0) q))/\
 (0<0+(Int.toNat n)-> ∃ k:List Value,RdS s none (0*1) k/\(0+(Int.toNat n))*4<=140737488355328/\
 ∀ (v w:Nat) (y:Heap),s v=none->0+(Int.toNat n)<=w->y=Heap.put s v ⟨k++j++repV [.int .u32 0] (w-(0+(Int.toNat n))),166,(0,0)⟩->
 R (.slice (some ⟨v,0,none⟩) (0+(Int.toNat n)) w) y)))
 (((0:Nat):Int)<=n/\n<=(c:Int)/\
 ∃ l:List Value,RdS s a ((Int.toNat n)*1) l/\(∀ x∈l,Go.Vcg.one x=true)/\
 (0+(Int.toNat n)<=0->Br (decide ((Int.toNat n)*1=0)) (R (.slice none (0+(Int.toNat n)) 0) s)
 (∃ (z:Addr) (a0:Blk),none=some z/\z.spot=none/\s z.block=some a0/\a0.fz=(0,0)/\z.off+0*1+(Int.toNat n)*1<=a0.cells.length/\
 ∀ r:Heap,r=Heap.put s z.block { a0 with cells:=setSeg a0.cells (z.off+0*1) l }->
 R (.slice none (0+(Int.toNat n)) 0) r))/\
 (0<0+(Int.toNat n)-> ∃ m:List Value,RdS s none (0*1) m/\(0+(Int.toNat n))*4<=140737488355328/\
 ∀ (a1 a2:Nat) (a3:Heap),s a1=none->0+(Int.toNat n)<=a2->a3=Heap.put s a1 ⟨m++l++repV [.int .u32 0] (a2-(0+(Int.toNat n))),166,(0,0)⟩->
 R (.slice (some ⟨a1,0,none⟩) (0+(Int.toNat n)) a2) a3))
theorem ref01_Norm_ok {a:OA} {b c:Nat} {h:Heap} {R:Value->Heap->Prop} (hv:ref01_Norm_vc a b c h R):CallsU Tryz.prog 185 [.slice a b c] h R:=
 fn_ok Tryz.func185 (fun _=>false) (.two .nil (.two .nil (.two (.one (.loop ⟨[(3,Sh.int .i64)],[]⟩ .nil)) .nil))) hv
def ref01_small_vc (a:OA) (b c:Nat) (d:Int) (h:Heap) (R:Value->Heap->Prop):Prop:=
 0<=(b:Int)/\(b:Int)<=(b:Int)/\(b:Int)*4<=140737488355328/\(b:Int)<=9223372036854775807/\
 ∀ (v:Nat) (w:Heap),h v=none->w=Heap.put h v ⟨repV [.int .u32 0] (Int.toNat (b:Int)),166,(0,0)⟩->
 ∀ o:Int,o=IntKind.i64.wrap ((b:Int)-1)->
 ∃ e:Nat->Int->Int->Heap->Prop,(∃ f,e f 0 o w)/\
 ∀ (f:Nat) (y:Int) (z:Int) (a0:Heap),e f y z a0->
 Br (decide (z>=0))
 (∀ p:Int,p=IntKind.u64.wrap (y*4294967296)->
 CallsU Tryz.prog 192 [.slice a b c,.int .i64 z] a0 fun a1 a2=>
 ∃ g,a1 = .int .u64 g/\
 ∀ q:Int,q=IntKind.u64.wrap (p+g)->
 Br (decide (d=0)) False
 (∀ r:Int,r=IntKind.u64.wrap (Int.tdiv q d)->
 ∃ i:Addr,some ⟨v,0,none⟩=some i/\0<=z/\z<(((Int.toNat (b:Int)):Nat):Int)/\
 ∃ j:Blk,a2 (Addr.block (Addr.add i (Int.toNat z*1)))=some j/\j.fz=(0,0)/\Addr.spot (Addr.add i (Int.toNat z*1))=none/\Addr.off (Addr.add i (Int.toNat z*1))+1<=j.cells.length/\
 ∀ s:Heap,s=Heap.put a2 (Addr.block (Addr.add i (Int.toNat z*1))) { j with cells:=setSeg j.cells (Addr.off (Addr.add i (Int.toNat z*1))) [.int .u32 (IntKind.u32.wrap r)] }->
 Br (decide (d=0)) False
 (∀ t:Int,t=(Int.tmod q d)->
 ∀ u:Int,u=IntKind.i64.wrap (z-1)->
 ∃ k,k<f/\e k t u s)))
 (CallsU Tryz.prog 185 [.slice (some ⟨v,0,none⟩) (Int.toNat (b:Int)) (Int.toNat (b:Int))] a0 fun a3 a4=>
 ∃ l m n,a3 = .slice l m n/\
 R (.tuple #[.slice l m n,.int .u64 y]) a4)
theorem ref01_small_ok {a:OA} {b c:Nat} {d:Int} {h:Heap} {R:Value->Heap->Prop} (hv:ref01_small_vc a b c d h R):CallsU Tryz.prog 186 [.slice a b c,.int .u64 d] h R:=
 fn_ok Tryz.func186 (fun _=>false) (.two .nil (.two .nil (.two .nil (.two (.two .nil (.one (.loop ⟨[(7,Sh.int .u64),(8,Sh.int .i64)],[]⟩ .nil))) .nil)))) hv
def ref03_Zero_vc (_a:Bool) (b:OA) (c d:Nat) (e:OA) (f g:Nat) (h:Heap) (R:Value->Heap->Prop):Prop:=
 CallsU Tryz.prog 185 [.slice b c d] h fun o p=>
 ∃ i j k,o = .slice i j k/\
 Br ((j:Int)==0)
 (R (.bool true) p)
 (CallsU Tryz.prog 185 [.slice e f g] p fun q r=>
 ∃ l m n,q = .slice l m n/\
 R (.bool ((m:Int)==0)) r)
theorem ref03_Zero_ok {a:Bool} {b:OA} {c d:Nat} {e:OA} {f g:Nat} {h:Heap} {R:Value->Heap->Prop} (hv:ref03_Zero_vc a b c d e f g h R):CallsU Tryz.prog 188 [.agg #[.bool a,.slice b c d,.slice e f g]] h R:=
 fn_ok Tryz.func188 (fun _=>false) .nil hv
def ref02_make1_vc (a:Bool) (b:OA) (c d:Nat) (h:Heap) (R:Value->Heap->Prop):Prop:=
 CallsU Tryz.prog 185 [.slice b c d] h fun i j=>
 ∃ e f g,i = .slice e f g/\
 Br (a)
 (R (.agg #[.bool (decide ((f:Int)>0)),.slice e f g]) j)
 (R (.agg #[.bool false,.slice e f g]) j)
theorem ref02_make1_ok {a:Bool} {b:OA} {c d:Nat} {h:Heap} {R:Value->Heap->Prop} (hv:ref02_make1_vc a b c d h R):CallsU Tryz.prog 189 [.bool a,.slice b c d] h R:=
 fn_ok Tryz.func189 (fun _=>false) .nil hv
def ref01_Add_vc (a:OA) (b c:Nat) (d:OA) (e f:Nat) (h:Heap) (R:Value->Heap->Prop):Prop:=
 ∃ g:Nat->OA->Nat->Nat->Int->Int->Heap->Prop,(∃ i,g i none 0 0 0 0 h)/\
 ∀ (i:Nat) (a1:OA) (a2 a3:Nat) (a4:Int) (a5:Int) (a6:Heap),g i a1 a2 a3 a4 a5 a6->
 ∃ j:Heap->Prop,(∀  (a7:Heap),j a7->
 CallsU Tryz.prog 192 [.slice a b c,.int .i64 a5] a7 fun b5 b6=>
 ∃ k,b5 = .int .u64 k/\
 CallsU Tryz.prog 192 [.slice d e f,.int .i64 a5] b6 fun b7 b8=>
 ∃ l,b7 = .int .u64 l/\
 ∀ s:Int,s=IntKind.u64.wrap (k+l)->
 ∀ t:Int,t=IntKind.u64.wrap (s+a4)->
 ∀ u:Int,u=(Int.tmod t 4294967296)->
 ∀ (a8:Nat) (a9:Heap),b8 a8=none->a9=Heap.put b8 a8 ⟨[.int .u32 (IntKind.u32.wrap u)],166,(0,0)⟩->
 ∃ m:List Value,RdS a9 (some ⟨a8,0,none⟩) (1*1) m/\(∀ x∈m,Go.Vcg.one x=true)/\
 (a2+1<=a3-> ∃ (b0:Addr) (b1:Blk),a1=some b0/\b0.spot=none/\a9 b0.block=some b1/\b1.fz=(0,0)/\b0.off+a2*1+1*1<=b1.cells.length/\
 ∀ v:Heap,v=Heap.put a9 b0.block { b1 with cells:=setSeg b1.cells (b0.off+a2*1) m }->
 ∀ w:Int,w=IntKind.u64.wrap (Int.tdiv t 4294967296)->
 ∀ y:Int,y=IntKind.i64.wrap (a5+1)->
 ∃ n,n<i/\g n a1 (a2+1) a3 w y v)/\
 (a3<a2+1-> ∃ o:List Value,RdS a9 a1 (a2*1) o/\(a2+1)*4<=140737488355328/\
 ∀ (b2 b3:Nat) (b4:Heap),a9 b2=none->a2+1<=b3->b4=Heap.put a9 b2 ⟨o++m++repV [.int .u32 0] (b3-(a2+1)),166,(0,0)⟩->
 ∀ z:Int,z=IntKind.u64.wrap (Int.tdiv t 4294967296)->
 ∀ a0:Int,a0=IntKind.i64.wrap (a5+1)->
 ∃ n,n<i/\g n (some ⟨b2,0,none⟩) (a2+1) b3 z a0 b4))/\
 Br (decide (a5<(if decide ((e:Int)>(b:Int)) then (e:Int) else (b:Int))))
 (j a6)
 (Br (decide (a4>0))
 (j a6)
 (CallsU Tryz.prog 185 [.slice a1 a2 a3] a6 fun b9 c0=>
 ∃ p q r,b9 = .slice p q r/\
 R (.slice p q r) c0))
theorem ref01_Add_ok {a:OA} {b c:Nat} {d:OA} {e f:Nat} {h:Heap} {R:Value->Heap->Prop} (hv:ref01_Add_vc a b c d e f h R):CallsU Tryz.prog 190 [.slice a b c,.slice d e f] h R:=
 fn_ok Tryz.func190 (fun _=>false) (.two .nil (.two .nil (.two .nil (.two (.two .nil (.one (.loop ⟨[(5,Sh.slice),(6,Sh.int .u64),(7,Sh.int .i64)],[]⟩ (.cut ⟨[],[]⟩ .nil .nil)))) .nil)))) hv
def ref01_Sub_vc (a:OA) (b c:Nat) (d:OA) (e f:Nat) (h:Heap) (R:Value->Heap->Prop):Prop:=
 CallsU Tryz.prog 228 [.slice a b c,.slice d e f] h fun b7 b8=>
 ∃ g,b7 = .int .i64 g/\
 Br (decide (g<0))
 (R (.tuple #[.slice none 0 0,.bool false]) b8)
 (∃ i:Nat->OA->Nat->Nat->Int->Int->Heap->Prop,(∃ j,i j none 0 0 0 0 b8)/\
 ∀ (j:Nat) (a4:OA) (a5 a6:Nat) (a7:Int) (a8:Int) (a9:Heap),i j a4 a5 a6 a7 a8 a9->
 Br (decide (a8<(if decide ((e:Int)>(b:Int)) then (e:Int) else (b:Int))))
 (CallsU Tryz.prog 192 [.slice a b c,.int .i64 a8] a9 fun b9 c0=>
 ∃ k,b9 = .int .u64 k/\
 ∀ s:Int,s=IntKind.u64.wrap (4294967296+k)->
 CallsU Tryz.prog 192 [.slice d e f,.int .i64 a8] c0 fun c1 c2=>
 ∃ l,c1 = .int .u64 l/\
 ∀ t:Int,t=IntKind.u64.wrap (s-l)->
 ∀ u:Int,u=IntKind.u64.wrap (t-a7)->
 ∀ v:Int,v=(Int.tmod u 4294967296)->
 ∀ (b0:Nat) (b1:Heap),c2 b0=none->b1=Heap.put c2 b0 ⟨[.int .u32 (IntKind.u32.wrap v)],166,(0,0)⟩->
 ∃ m:List Value,RdS b1 (some ⟨b0,0,none⟩) (1*1) m/\(∀ x∈m,Go.Vcg.one x=true)/\
 (a5+1<=a6-> ∃ (b2:Addr) (b3:Blk),a4=some b2/\b2.spot=none/\b1 b2.block=some b3/\b3.fz=(0,0)/\b2.off+a5*1+1*1<=b3.cells.length/\
 ∀ w:Heap,w=Heap.put b1 b2.block { b3 with cells:=setSeg b3.cells (b2.off+a5*1) m }->
 ∀ y:Int,y=IntKind.u64.wrap (Int.tdiv u 4294967296)->
 ∀ z:Int,z=IntKind.u64.wrap (1-y)->
 ∀ a0:Int,a0=IntKind.i64.wrap (a8+1)->
 ∃ n,n<j/\i n a4 (a5+1) a6 z a0 w)/\
 (a6<a5+1-> ∃ o:List Value,RdS b1 a4 (a5*1) o/\(a5+1)*4<=140737488355328/\
 ∀ (b4 b5:Nat) (b6:Heap),b1 b4=none->a5+1<=b5->b6=Heap.put b1 b4 ⟨o++m++repV [.int .u32 0] (b5-(a5+1)),166,(0,0)⟩->
 ∀ a1:Int,a1=IntKind.u64.wrap (Int.tdiv u 4294967296)->
 ∀ a2:Int,a2=IntKind.u64.wrap (1-a1)->
 ∀ a3:Int,a3=IntKind.i64.wrap (a8+1)->
 ∃ n,n<j/\i n (some ⟨b4,0,none⟩) (a5+1) b5 a2 a3 b6))
 (CallsU Tryz.prog 185 [.slice a4 a5 a6] a9 fun c3 c4=>
 ∃ p q r,c3 = .slice p q r/\
 R (.tuple #[.slice p q r,.bool true]) c4))
theorem ref01_Sub_ok {a:OA} {b c:Nat} {d:OA} {e f:Nat} {h:Heap} {R:Value->Heap->Prop} (hv:ref01_Sub_vc a b c d e f h R):CallsU Tryz.prog 191 [.slice a b c,.slice d e f] h R:=
 fn_ok Tryz.func191 (fun _=>false) (.two .nil (.two .nil (.two .nil (.two .nil (.two (.two .nil (.one (.loop ⟨[(6,Sh.slice),(7,Sh.int .u64),(8,Sh.int .i64)],[]⟩ .nil))) .nil))))) hv
def ref01_limb_vc (a:OA) (b _c:Nat) (d:Int) (h:Heap) (R:Value->Heap->Prop):Prop:=
 Br (decide (d<0))
 (R (.int .u64 0) h)
 (Br (decide (d>=(b:Int)))
 (R (.int .u64 0) h)
 (∃ e:Addr,a=some e/\0<=d/\d<(b:Int)/\
 ∃ f,LdN h (Addr.add e (Int.toNat d*1)) [.int .u32 f]/\
 R (.int .u64 (IntKind.u64.wrap f)) h))
theorem ref01_limb_ok {a:OA} {b c:Nat} {d:Int} {h:Heap} {R:Value->Heap->Prop} (hv:ref01_limb_vc a b c d h R):CallsU Tryz.prog 192 [.slice a b c,.int .i64 d] h R:=
 fn_ok Tryz.func192 (fun _=>false) .nil hv
def ref01_Bits_vc (a:OA) (b c:Nat) (h:Heap) (R:Value->Heap->Prop):Prop:=
 CallsU Tryz.prog 185 [.slice a b c] h fun u v=>
 ∃ d e f,u = .slice d e f/\
 Br ((e:Int)==0)
 (R (.int .i64 0) v)
 (∀ m:Int,m=IntKind.i64.wrap ((e:Int)-1)->
 ∀ o:Int,o=IntKind.i64.wrap (32*m)->
 ∀ p:Int,p=IntKind.i64.wrap ((e:Int)-1)->
 ∃ g:Addr,d=some g/\0<=p/\p<(e:Int)/\
 ∃ i,LdN v (Addr.add g (Int.toNat p*1)) [.int .u32 i]/\
 ∃ j:Nat->Int->Int->Heap->Prop,(∃ k,j k o i v)/\
 ∀ (k:Nat) (n:Int) (s:Int) (t:Heap),j k n s t->
 Br (decide (s>0))
 (∀ q:Int,q=IntKind.i64.wrap (n+1)->
 ∀ r:Int,r=IntKind.u32.wrap (Int.tdiv s 2)->
 ∃ l,l<k/\j l q r t)
 (R (.int .i64 n) t))
theorem ref01_Bits_ok {a:OA} {b c:Nat} {h:Heap} {R:Value->Heap->Prop} (hv:ref01_Bits_vc a b c h R):CallsU Tryz.prog 193 [.slice a b c] h R:=
 fn_ok Tryz.func193 (fun _=>false) (.two .nil (.two .nil (.two .nil (.two .nil (.two (.two .nil (.one (.loop ⟨[(4,Sh.int .i64),(5,Sh.int .u32)],[]⟩ .nil))) .nil))))) hv
def ref01_Shift_vc (a:OA) (b c:Nat) (n:Int) (h:Heap) (R:Value->Heap->Prop):Prop:=
 ∀ o:Int,o=IntKind.i64.wrap (Int.tdiv n 32)->
 0<=o/\o<=o/\o*4<=140737488355328/\o<=9223372036854775807/\
 ∀ (z:Nat) (a0:Heap),h z=none->a0=Heap.put h z ⟨repV [.int .u32 0] (Int.toNat o),166,(0,0)⟩->
 ∃ d:Nat->OA->Nat->Nat->Int->Int->Heap->Prop,(∃ e,d e (some ⟨z,0,none⟩) (Int.toNat o) (Int.toNat o) 0 0 a0)/\
 ∀ (e:Nat) (a1:OA) (a2 a3:Nat) (a4:Int) (a5:Int) (a6:Heap),d e a1 a2 a3 a4 a5 a6->
 Br (decide (a5<=(b:Int)))
 (CallsU Tryz.prog 192 [.slice a b c,.int .i64 a5] a6 fun b4 b5=>
 ∃ f,b4 = .int .u64 f/\
 ∀ p:Int,p=(Int.tmod n 32)->
 Br (decide (IntKind.u64.wrap p<0)) False
 (∀ q:Int,q=IntKind.u64.wrap (f*2^(min (Int.toNat (IntKind.u64.wrap p)) 64:Nat))->
 ∀ r:Int,r=IntKind.u64.wrap (q+a4)->
 ∀ s:Int,s=(Int.tmod r 4294967296)->
 ∀ (a7:Nat) (a8:Heap),b5 a7=none->a8=Heap.put b5 a7 ⟨[.int .u32 (IntKind.u32.wrap s)],166,(0,0)⟩->
 ∃ g:List Value,RdS a8 (some ⟨a7,0,none⟩) (1*1) g/\(∀ x∈g,Go.Vcg.one x=true)/\
 (a2+1<=a3-> ∃ (a9:Addr) (b0:Blk),a1=some a9/\a9.spot=none/\a8 a9.block=some b0/\b0.fz=(0,0)/\a9.off+a2*1+1*1<=b0.cells.length/\
 ∀ t:Heap,t=Heap.put a8 a9.block { b0 with cells:=setSeg b0.cells (a9.off+a2*1) g }->
 ∀ u:Int,u=IntKind.u64.wrap (Int.tdiv r 4294967296)->
 ∀ v:Int,v=IntKind.i64.wrap (a5+1)->
 ∃ i,i<e/\d i a1 (a2+1) a3 u v t)/\
 (a3<a2+1-> ∃ j:List Value,RdS a8 a1 (a2*1) j/\(a2+1)*4<=140737488355328/\
 ∀ (b1 b2:Nat) (b3:Heap),a8 b1=none->a2+1<=b2->b3=Heap.put a8 b1 ⟨j++g++repV [.int .u32 0] (b2-(a2+1)),166,(0,0)⟩->
 ∀ w:Int,w=IntKind.u64.wrap (Int.tdiv r 4294967296)->
 ∀ y:Int,y=IntKind.i64.wrap (a5+1)->
 ∃ i,i<e/\d i (some ⟨b1,0,none⟩) (a2+1) b2 w y b3)))
 (CallsU Tryz.prog 185 [.slice a1 a2 a3] a6 fun b6 b7=>
 ∃ k l m,b6 = .slice k l m/\
 R (.slice k l m) b7)
theorem ref01_Shift_ok {a:OA} {b c:Nat} {n:Int} {h:Heap} {R:Value->Heap->Prop} (hv:ref01_Shift_vc a b c n h R):CallsU Tryz.prog 194 [.slice a b c,.int .i64 n] h R:=
 fn_ok Tryz.func194 (fun _=>false) (.two .nil (.two .nil (.two .nil (.two (.two .nil (.one (.loop ⟨[(5,Sh.slice),(6,Sh.int .u64),(7,Sh.int .i64)],[]⟩ .nil))) .nil)))) hv
def ref01_Half_vc (a:OA) (b c:Nat) (h:Heap) (R:Value->Heap->Prop):Prop:=
 ∃ d:Nat->OA->Nat->Nat->Int->Heap->Prop,(∃ e,d e none 0 0 0 h)/\
 ∀ (e:Nat) (w:OA) (y z:Nat) (a0:Int) (a1:Heap),d e w y z a0 a1->
 Br (decide (a0<(b:Int)))
 (CallsU Tryz.prog 192 [.slice a b c,.int .i64 a0] a1 fun a9 b0=>
 ∃ f,a9 = .int .u64 f/\
 ∀ o:Int,o=IntKind.u64.wrap (Int.tdiv f 2)->
 ∀ p:Int,p=IntKind.i64.wrap (a0+1)->
 CallsU Tryz.prog 192 [.slice a b c,.int .i64 p] b0 fun b1 b2=>
 ∃ g,b1 = .int .u64 g/\
 ∀ q:Int,q=(Int.tmod g 2)->
 ∀ r:Int,r=IntKind.u64.wrap (q*2147483648)->
 ∀ s:Int,s=IntKind.u64.wrap (o+r)->
 ∀ (a2:Nat) (a3:Heap),b2 a2=none->a3=Heap.put b2 a2 ⟨[.int .u32 (IntKind.u32.wrap s)],166,(0,0)⟩->
 ∃ i:List Value,RdS a3 (some ⟨a2,0,none⟩) (1*1) i/\(∀ x∈i,Go.Vcg.one x=true)/\
 (y+1<=z-> ∃ (a4:Addr) (a5:Blk),w=some a4/\a4.spot=none/\a3 a4.block=some a5/\a5.fz=(0,0)/\a4.off+y*1+1*1<=a5.cells.length/\
 ∀ t:Heap,t=Heap.put a3 a4.block { a5 with cells:=setSeg a5.cells (a4.off+y*1) i }->
 ∀ u:Int,u=IntKind.i64.wrap (a0+1)->
 ∃ j,j<e/\d j w (y+1) z u t)/\
 (z<y+1-> ∃ k:List Value,RdS a3 w (y*1) k/\(y+1)*4<=140737488355328/\
 ∀ (a6 a7:Nat) (a8:Heap),a3 a6=none->y+1<=a7->a8=Heap.put a3 a6 ⟨k++i++repV [.int .u32 0] (a7-(y+1)),166,(0,0)⟩->
 ∀ v:Int,v=IntKind.i64.wrap (a0+1)->
 ∃ j,j<e/\d j (some ⟨a6,0,none⟩) (y+1) a7 v a8))
 (CallsU Tryz.prog 185 [.slice w y z] a1 fun b3 b4=>
 ∃ l m n,b3 = .slice l m n/\
 R (.slice l m n) b4)
theorem ref01_Half_ok {a:OA} {b c:Nat} {h:Heap} {R:Value->Heap->Prop} (hv:ref01_Half_vc a b c h R):CallsU Tryz.prog 195 [.slice a b c] h R:=
 fn_ok Tryz.func195 (fun _=>false) (.two .nil (.two .nil (.two (.two .nil (.one (.loop ⟨[(3,Sh.slice),(4,Sh.int .i64)],[]⟩ .nil))) .nil))) hv
def ref01_Cmp_vc (a:OA) (b c:Nat) (d:OA) (e f:Nat) (h:Heap) (R:Value->Heap->Prop):Prop:=
 ∀ o:Int,o=IntKind.i64.wrap ((if decide ((e:Int)>(b:Int)) then (e:Int) else (b:Int))-1)->
 ∃ g:Nat->Int->Heap->Prop,(∃ i,g i o h)/\
 ∀ (i:Nat) (q:Int) (r:Heap),g i q r->
 Br (decide (q>=0))
 (CallsU Tryz.prog 192 [.slice a b c,.int .i64 q] r fun s t=>
 ∃ j,s = .int .u64 j/\
 CallsU Tryz.prog 192 [.slice d e f,.int .i64 q] t fun u v=>
 ∃ k,u = .int .u64 k/\
 Br (decide (j<k))
 (R (.int .i64 (-1)) v)
 (CallsU Tryz.prog 192 [.slice a b c,.int .i64 q] v fun w y=>
 ∃ l,w = .int .u64 l/\
 CallsU Tryz.prog 192 [.slice d e f,.int .i64 q] y fun z a0=>
 ∃ m,z = .int .u64 m/\
 Br (decide (l>m))
 (R (.int .i64 1) a0)
 (∀ p:Int,p=IntKind.i64.wrap (q-1)->
 ∃ n,n<i/\g n p a0)))
 (R (.int .i64 0) r)
theorem ref01_Cmp_ok {a:OA} {b c:Nat} {d:OA} {e f:Nat} {h:Heap} {R:Value->Heap->Prop} (hv:ref01_Cmp_vc a b c d e f h R):CallsU Tryz.prog 228 [.slice a b c,.slice d e f] h R:=
 fn_ok Tryz.func228 (fun _=>false) (.two .nil (.two (.two .nil (.one (.loop ⟨[(5,Sh.int .i64)],[]⟩ .nil))) .nil)) hv
def ref17_units_vc (a:Bool) (b:OA) (c d:Nat) (e:OA) (f g:Nat) (h:Heap) (R:Value->Heap->Prop):Prop:=
 CallsU Tryz.prog 263 [.int .i64 10000] h fun b4 b5=>
 ∃ i j k l m n o,b4 = .agg #[.bool i,.slice j k l,.slice m n o]/\
 LeH h b5/\
 CallsU Tryz.prog 237 [.agg #[.bool a,.slice b c d,.slice e f g],.agg #[.bool i,.slice j k l,.slice m n o]] b5 fun b6 b7=>
 ∃ p q r s t u v,b6 = .agg #[.bool p,.slice q r s,.slice t u v]/\
 CallsU Tryz.prog 119 [.agg #[.bool p,.slice q r s,.slice t u v]] b7 fun b8 b9=>
 ∃ w y z a0 a1 a2 a3,b8 = .agg #[.bool w,.slice y z a0,.slice a1 a2 a3]/\
 CallsU Tryz.prog 264 [.agg #[.bool w,.slice y z a0]] b9 fun c0 c1=>
 ∃ a4 a5,c0 = .tuple #[.int .i64 a4,.bool a5]/\
 Br (!a5)
 (LeH c1 c1/\
 R (.tuple #[.int .i64 0,.bool false]) c1)
 (CallsU Tryz.prog 263 [.int .i64 a4] c1 fun c2 c3=>
 ∃ a6 a7 a8 a9 b0 b1 b2,c2 = .agg #[.bool a6,.slice a7 a8 a9,.slice b0 b1 b2]/\
 LeH c1 c3/\
 CallsU Tryz.prog 101 [.agg #[.bool w,.slice y z a0,.slice a1 a2 a3],.agg #[.bool a6,.slice a7 a8 a9,.slice b0 b1 b2]] c3 fun c4 c5=>
 ∃ b3,c4 = .int .i64 b3/\
 Br ((b3:Int) != 0)
 (R (.tuple #[.int .i64 0,.bool false]) c5)
 (Br (decide (a4<0))
 (R (.tuple #[.int .i64 0,.bool false]) c5)
 (Br (decide (a4>9999999999999))
 (R (.tuple #[.int .i64 0,.bool false]) c5)
 (R (.tuple #[.int .i64 a4,.bool true]) c5))))
theorem ref17_units_ok {a:Bool} {b:OA} {c d:Nat} {e:OA} {f g:Nat} {h:Heap} {R:Value->Heap->Prop} (hv:ref17_units_vc a b c d e f g h R):CallsU Tryz.prog 232 [.agg #[.bool a,.slice b c d,.slice e f g]] h R:=
 fn_ok Tryz.func232 (fun _=>false) (.two .nil (.two (.ord [0,1,2,3,4,5]) (.two .nil (.two (.two (.ord [0,1,2,3,4,5,6,7,8,9,10,11,12,13,14,15,16]) .nil) .nil)))) hv
def ref17_right_vc (a:Int) (b:Bool) (c:OA) (d e:Nat) (f:OA) (g i:Nat) (j:ByteArray) (_k:OA) (l _m:Nat) (h:Heap) (R:Value->Heap->Prop):Prop:=
 CallsU Tryz.prog 263 [.int .i64 0] h fun a5 a6=>
 ∃ n o p q r s t,a5 = .agg #[.bool n,.slice o p q,.slice r s t]/\
 LeH h a6/\
 CallsU Tryz.prog 101 [.agg #[.bool b,.slice c d e,.slice f g i],.agg #[.bool n,.slice o p q,.slice r s t]] a6 fun a7 a8=>
 ∃ u,a7 = .int .i64 u/\
 Br ((a:Int)==1)
 (CallsU Tryz.prog 232 [.agg #[.bool b,.slice c d e,.slice f g i]] a8 fun a9 b0=>
 ∃ v w,a9 = .tuple #[.int .i64 v,.bool w]/\
 Br (w)
 (Br (j.toList==(⟨#[]⟩:ByteArray).toList)
 (R (.bool ((l:Int)==0)) b0)
 (R (.bool false) b0))
 (R (.bool false) b0))
 (Br ((a:Int)==2)
 (CallsU Tryz.prog 267 [.string j] a8 fun b1 b2=>
 ∃ y,b1 = .bool y/\
 Br (y)
 (Br ((u:Int)==0)
 (R (.bool ((l:Int)==0)) b2)
 (R (.bool false) b2))
 (R (.bool false) b2))
 (∃ z:Bool->Heap->Prop,(∀ (a1:Bool) (a2:Heap),z a1 a2->
 Br (a1)
 (Br ((u:Int)==0)
 (Br (j.toList==(⟨#[]⟩:ByteArray).toList)
 (R (.bool ((l:Int)==2)) a2)
 (R (.bool false) a2))
 (R (.bool false) a2))
 (Br ((a:Int)==7)
 (Br ((u:Int)==0)
 (Br (j.toList==(⟨#[]⟩:ByteArray).toList)
 (R (.bool ((l:Int)==1)) a2)
 (R (.bool false) a2))
 (R (.bool false) a2))
 (∃ a0:Bool->Heap->Prop,(∀ (a3:Bool) (a4:Heap),a0 a3 a4->
 Br (a3)
 (Br ((u:Int)==0)
 (Br (j.toList==(⟨#[]⟩:ByteArray).toList)
 (Br (decide ((l:Int)>=1))
 (R (.bool (decide ((l:Int)<=8))) a4)
 (R (.bool false) a4))
 (R (.bool false) a4))
 (R (.bool false) a4))
 (R (.bool false) a4))/\
 Br ((a:Int)==8)
 (a0 ((a:Int)==8) a2)
 (a0 ((a:Int)==9) a2))))/\
 Br ((a:Int)==3)
 (z ((a:Int)==3) a8)
 (Br ((a:Int)==4)
 (z ((a:Int)==4) a8)
 (Br ((a:Int)==5)
 (z ((a:Int)==5) a8)
 (z ((a:Int)==6) a8)))))
theorem ref17_right_ok {a:Int} {b:Bool} {c:OA} {d e:Nat} {f:OA} {g i:Nat} {j:ByteArray} {k:OA} {l m:Nat} {h:Heap} {R:Value->Heap->Prop} (hv:ref17_right_vc a b c d e f g i j k l m h R):CallsU Tryz.prog 235 [.agg #[.int .i64 a,.bool b,.slice c d e,.slice f g i,.string j,.slice k l m]] h R:=
 fn_ok Tryz.func235 (fun _=>false) (.two .nil (.two (.ord [0,1,2,3,4,5]) (.two .nil (.two (.two .nil (.one (.two .nil (.two .nil (.two .nil (.two .nil (.cut ⟨[(47,Sh.bool)],[]⟩ .nil (.two .nil (.two .nil (.two .nil (.cut ⟨[(74,Sh.bool)],[]⟩ .nil .nil))))))))))) .nil)))) hv
def ref03_Sub_vc (a:Bool) (b:OA) (c d:Nat) (e:OA) (f g:Nat) (i:Bool) (j:OA) (k l:Nat) (m:OA) (n o:Nat) (h:Heap) (R:Value->Heap->Prop):Prop:=
 CallsU Tryz.prog 238 [.agg #[.bool i,.slice j k l,.slice m n o]] h fun a4 a5=>
 ∃ p q r s t u v,a4 = .agg #[.bool p,.slice q r s,.slice t u v]/\
 LeH h a5/\
 CallsU Tryz.prog 68 [.agg #[.bool a,.slice b c d,.slice e f g],.agg #[.bool p,.slice q r s,.slice t u v]] a5 fun a6 a7=>
 ∃ w y z a0 a1 a2 a3,a6 = .agg #[.bool w,.slice y z a0,.slice a1 a2 a3]/\
 R (.agg #[.bool w,.slice y z a0,.slice a1 a2 a3]) a7
theorem ref03_Sub_ok {a:Bool} {b:OA} {c d:Nat} {e:OA} {f g:Nat} {i:Bool} {j:OA} {k l:Nat} {m:OA} {n o:Nat} {h:Heap} {R:Value->Heap->Prop} (hv:ref03_Sub_vc a b c d e f g i j k l m n o h R):CallsU Tryz.prog 236 [.agg #[.bool a,.slice b c d,.slice e f g],.agg #[.bool i,.slice j k l,.slice m n o]] h R:=
 fn_ok Tryz.func236 (fun _=>false) (.two .nil (.two (.ord [0,1,2,3,4]) .nil)) hv
def ref03_Mul_vc (a:Bool) (b:OA) (c d:Nat) (e:OA) (f g:Nat) (i:Bool) (j:OA) (k l:Nat) (m:OA) (n o:Nat) (h:Heap) (R:Value->Heap->Prop):Prop:=
 CallsU Tryz.prog 119 [.agg #[.bool a,.slice b c d,.slice e f g]] h fun b7 b8=>
 ∃ p q r s t u v,b7 = .agg #[.bool p,.slice q r s,.slice t u v]/\
 LeH h b8/\
 CallsU Tryz.prog 119 [.agg #[.bool i,.slice j k l,.slice m n o]] b8 fun b9 c0=>
 ∃ w y z a0 a1 a2 a3,b9 = .agg #[.bool w,.slice y z a0,.slice a1 a2 a3]/\
 CallsU Tryz.prog 122 [.slice q r s,.slice y z a0] c0 fun c1 c2=>
 ∃ a4 a5 a6,c1 = .slice a4 a5 a6/\
 LeH c0 c2/\
 CallsU Tryz.prog 122 [.slice t u v,.slice a1 a2 a3] c2 fun c3 c4=>
 ∃ a7 a8 a9,c3 = .slice a7 a8 a9/\
 LeH c2 c4/\
 CallsU Tryz.prog 70 [.bool (!(p==w)),.slice a4 a5 a6,.slice a7 a8 a9] c4 fun c5 c6=>
 ∃ b0 b1 b2 b3 b4 b5 b6,c5 = .agg #[.bool b0,.slice b1 b2 b3,.slice b4 b5 b6]/\
 R (.agg #[.bool b0,.slice b1 b2 b3,.slice b4 b5 b6]) c6
theorem ref03_Mul_ok {a:Bool} {b:OA} {c d:Nat} {e:OA} {f g:Nat} {i:Bool} {j:OA} {k l:Nat} {m:OA} {n o:Nat} {h:Heap} {R:Value->Heap->Prop} (hv:ref03_Mul_vc a b c d e f g i j k l m n o h R):CallsU Tryz.prog 237 [.agg #[.bool a,.slice b c d,.slice e f g],.agg #[.bool i,.slice j k l,.slice m n o]] h R:=
 fn_ok Tryz.func237 (fun _=>false) (.two .nil (.two (.ord [0,2,1,3,4,5,6,7]) (.two (.ord [0,1,2,3,4,5,6,7,8,9,10,11,12,14,15,16,17,13,18,19,20]) .nil))) hv
def ref03_Neg_vc (a:Bool) (b:OA) (c d:Nat) (e:OA) (f g:Nat) (h:Heap) (R:Value->Heap->Prop):Prop:=
 CallsU Tryz.prog 119 [.agg #[.bool a,.slice b c d,.slice e f g]] h fun t u=>
 ∃ i j k l m n o,t = .agg #[.bool i,.slice j k l,.slice m n o]/\
 CallsU Tryz.prog 268 [.agg #[.bool i,.slice j k l]] u fun v w=>
 ∃ p q r s,v = .agg #[.bool p,.slice q r s]/\
 LeH u w/\
 R (.agg #[.bool p,.slice q r s,.slice m n o]) w
theorem ref03_Neg_ok {a:Bool} {b:OA} {c d:Nat} {e:OA} {f g:Nat} {h:Heap} {R:Value->Heap->Prop} (hv:ref03_Neg_vc a b c d e f g h R):CallsU Tryz.prog 238 [.agg #[.bool a,.slice b c d,.slice e f g]] h R:=
 fn_ok Tryz.func238 (fun _=>false) (.two .nil (.two .nil (.two (.ord [0,1,3,4,2,5,6]) .nil))) hv
def ref17_whole_vc (n:Int) (h:Heap) (R:Value->Heap->Prop):Prop:=
 CallsU Tryz.prog 36 [.int .i64 n,.int .i64 1] h fun j k=>
 ∃ a b c d e f g i,j = .tuple #[.agg #[.bool a,.slice b c d,.slice e f g],.bool i]/\
 R (.agg #[.bool a,.slice b c d,.slice e f g]) k
theorem ref17_whole_ok {n:Int} {h:Heap} {R:Value->Heap->Prop} (hv:ref17_whole_vc n h R):CallsU Tryz.prog 263 [.int .i64 n] h R:=
 fn_ok Tryz.func263 (fun _=>false) .nil hv
def ref02_Small_vc (a:Bool) (b:OA) (c d:Nat) (h:Heap) (R:Value->Heap->Prop):Prop:=
 CallsU Tryz.prog 125 [.agg #[.bool a,.slice b c d]] h fun a1 a2=>
 ∃ e f g i,a1 = .agg #[.bool e,.slice f g i]/\
 Br (decide ((g:Int)>2))
 (R (.tuple #[.int .i64 0,.bool false]) a2)
 (∀ q:Int,q=IntKind.i64.wrap ((g:Int)-1)->
 ∃ j:Nat->Int->Int->Heap->Prop,(∃ k,j k 0 q a2)/\
 ∀ (k:Nat) (n:Int) (y:Int) (z:Heap),j k n y z->
 Br (decide (y>=0))
 (∀ r:Int,r=IntKind.u64.wrap (n*4294967296)->
 ∃ l:Addr,f=some l/\0<=y/\y<(g:Int)/\
 ∃ m,LdN z (Addr.add l (Int.toNat y*1)) [.int .u32 m]/\
 ∀ s:Int,s=IntKind.u64.wrap (r+(IntKind.u64.wrap m))->
 ∀ t:Int,t=IntKind.i64.wrap (y-1)->
 ∃ o,o<k/\j o s t z)
 (∃ p:Heap->Prop,(∀  (a0:Heap),p a0->
 Br (!e)
 (Br (decide (n<=9223372036854775807))
 (R (.tuple #[.int .i64 (IntKind.i64.wrap n),.bool true]) a0)
 (R (.tuple #[.int .i64 0,.bool false]) a0))
 (R (.tuple #[.int .i64 0,.bool false]) a0))/\
 Br (e)
 (Br (decide (n<=9223372036854775808))
 (∀ u:Int,u=IntKind.u64.wrap (n-1)->
 ∀ v:Int,v=IntKind.i64.wrap (0-(IntKind.i64.wrap u))->
 ∀ w:Int,w=IntKind.i64.wrap (v-1)->
 R (.tuple #[.int .i64 w,.bool true]) z)
 (p z))
 (p z)))
theorem ref02_Small_ok {a:Bool} {b:OA} {c d:Nat} {h:Heap} {R:Value->Heap->Prop} (hv:ref02_Small_vc a b c d h R):CallsU Tryz.prog 264 [.agg #[.bool a,.slice b c d]] h R:=
 fn_ok Tryz.func264 (fun _=>false) (.two .nil (.two .nil (.two .nil (.two .nil (.two (.two .nil (.one (.loop ⟨[(5,Sh.int .u64),(6,Sh.int .i64)],[]⟩ .nil))) (.cut ⟨[],[]⟩ .nil .nil)))))) hv
def ref17_Name_vc (a:ByteArray) (h:Heap) (R:Value->Heap->Prop):Prop:=
 ∃ b:Bool->Heap->Prop,(∀ (q:Bool) (r:Heap),b q r->
 Br (q)
 (R (.bool false) r)
 (∃ c:Nat->Int->Heap->Prop,(∃ d,c d 0 r)/\
 ∀ (d:Nat) (s:Int) (t:Heap),c d s t->
 Br (decide (s<(a.size:Int)))
 (∃ e:UInt8,0<=s/\a[(Int.toNat s:Nat)]?=some e/\
 CallsU Tryz.prog 289 [.int .u8 (e.toNat:Int)] t fun u v=>
 ∃ f,u = .bool f/\
 Br (!f)
 (∃ g:UInt8,0<=s/\a[(Int.toNat s:Nat)]?=some g/\
 Br ((g.toNat:Int) != 95)
 (∃ i:UInt8,0<=s/\a[(Int.toNat s:Nat)]?=some i/\
 Br (decide ((i.toNat:Int)<97))
 (R (.bool false) v)
 (∃ j:UInt8,0<=s/\a[(Int.toNat s:Nat)]?=some j/\
 Br (decide ((j.toNat:Int)>122))
 (R (.bool false) v)
 (∀ n:Int,n=IntKind.i64.wrap (s+1)->
 ∃ k,k<d/\c k n v)))
 (∀ o:Int,o=IntKind.i64.wrap (s+1)->
 ∃ k,k<d/\c k o v))
 (∀ p:Int,p=IntKind.i64.wrap (s+1)->
 ∃ k,k<d/\c k p v))
 (R (.bool true) t)))/\
 Br (a.toList==(⟨#[]⟩:ByteArray).toList)
 (b true h)
 (Br (decide ((a.size:Int)>24))
 (b true h)
 (Br (a.toList==(⟨#[109,105,110]⟩:ByteArray).toList)
 (b true h)
 (Br (a.toList==(⟨#[109,97,120]⟩:ByteArray).toList)
 (b true h)
 (∃ l:UInt8,0<=(0:Int)/\a[(0:Nat)]?=some l/\
 Br (decide ((l.toNat:Int)<97))
 (b true h)
 (∃ m:UInt8,0<=(0:Int)/\a[(0:Nat)]?=some m/\
 b (decide ((m.toNat:Int)>122)) h)))))
theorem ref17_Name_ok {a:ByteArray} {h:Heap} {R:Value->Heap->Prop} (hv:ref17_Name_vc a h R):CallsU Tryz.prog 267 [.string a] h R:=
 fn_ok Tryz.func267 (fun _=>false) (.two .nil (.two (.cut ⟨[(28,Sh.bool)],[]⟩ .nil .nil) (.two (.two .nil (.one (.loop ⟨[(3,Sh.int .i64)],[]⟩ .nil))) .nil))) hv
def ref02_Neg_vc (a:Bool) (b:OA) (c d:Nat) (h:Heap) (R:Value->Heap->Prop):Prop:=
 CallsU Tryz.prog 189 [.bool (!a),.slice b c d] h fun j k=>
 ∃ e f g i,j = .agg #[.bool e,.slice f g i]/\
 R (.agg #[.bool e,.slice f g i]) k
theorem ref02_Neg_ok {a:Bool} {b:OA} {c d:Nat} {h:Heap} {R:Value->Heap->Prop} (hv:ref02_Neg_vc a b c d h R):CallsU Tryz.prog 268 [.agg #[.bool a,.slice b c d]] h R:=
 fn_ok Tryz.func268 (fun _=>false) .nil hv
def ref17_digit_vc (a:Int) (h:Heap) (R:Value->Heap->Prop):Prop:=
 Br (decide (a>=48))
 (R (.bool (decide (a<=57))) h)
 (R (.bool false) h)
theorem ref17_digit_ok {a:Int} {h:Heap} {R:Value->Heap->Prop} (hv:ref17_digit_vc a h R):CallsU Tryz.prog 289 [.int .u8 a] h R:=
 fn_ok Tryz.func289 (fun _=>false) .nil hv
end Go.Proofs.YtfglcgbgaeegaaaGreatDoor

namespace Go.Proofs.YtfglcgbgaeegaaaGreatDoor
open Go Go.Vcg
attribute [local irreducible] Br
theorem getD_some {l:List Int} {i:Nat} (h:i<l.length):l[i]?=some (l.getD i 0):=by simp [h]
end Go.Proofs.YtfglcgbgaeegaaaGreatDoor

namespace Go.Proofs.YtfglcgbgaeegaaaGreatDoor
open Go Go.Vcg
def law19_DraftRuns_vc (a:OA) (b c:Nat) (d:OA) (e f:Nat) (h:Heap) (R:Value->Heap->Prop):Prop:=
 CallsU Tryz.prog 12 [.slice a b c,.slice d e f] h fun v w=>
 ∃ g,v = .bool g/\
 Br (!g)
 (CallsU Tryz.prog 14 [] w fun y z=>
 ∃ i,y = .bool i/\
 R (.bool i) z)
 (CallsU Tryz.prog 16 [.slice a b c,.slice d e f] w fun a0 a1=>
 ∃ j k l m n,a0 = .tuple #[.slice j k l,.int .i64 m,.int .i64 n]/\
 CallsU Tryz.prog 29 [.slice a b c,.slice d e f] a1 fun a2 a3=>
 ∃ o p q r s,a2 = .tuple #[.slice o p q,.int .i64 r,.int .i64 s]/\
 CallsU Tryz.prog 21 [.slice j k l,.slice o p q] a3 fun a4 a5=>
 ∃ t,a4 = .bool t/\
 Br (t)
 (Br ((m:Int)==r)
 (Br ((n:Int)==s)
 (CallsU Tryz.prog 14 [] a5 fun a6 a7=>
 ∃ u,a6 = .bool u/\
 R (.bool u) a7)
 (R (.bool false) a5))
 (R (.bool false) a5))
 (R (.bool false) a5))
theorem law19_DraftRuns_ok {a:OA} {b c:Nat} {d:OA} {e f:Nat} {h:Heap} {R:Value->Heap->Prop} (hv:law19_DraftRuns_vc a b c d e f h R):CallsU Tryz.prog 8 [.slice a b c,.slice d e f] h R:=
 fn_ok Tryz.func8 (fun _=>false) .nil hv
def law19_light_vc (a:OA) (b c:Nat) (d:OA) (e f:Nat) (h:Heap) (R:Value->Heap->Prop):Prop:=
 CallsU Tryz.prog 22 [.slice a b c] h fun j k=>
 ∃ g,j = .bool g/\
 Br (g)
 (CallsU Tryz.prog 30 [.slice d e f] k fun l m=>
 ∃ i,l = .bool i/\
 R (.bool i) m)
 (R (.bool false) k)
theorem law19_light_ok {a:OA} {b c:Nat} {d:OA} {e f:Nat} {h:Heap} {R:Value->Heap->Prop} (hv:law19_light_vc a b c d e f h R):CallsU Tryz.prog 12 [.slice a b c,.slice d e f] h R:=
 fn_ok Tryz.func12 (fun _=>false) .nil hv
def law19_alive_vc  (h:Heap) (R:Value->Heap->Prop):Prop:=
 CallsU Tryz.prog 24 [.string (⟨#[35,32,97,32,110,101,99,107,108,105,110,101,10,65,32,61,32,97,116,32,48,32,44,32,48,10,66,32,61,32,102,114,111,109,32,65,32,98,121,32,119,32,47,32,50,32,44,32,48,10,67,32,61,32,102,114,111,109,32,65,32,98,121,32,48,32,44,32,109,97,120,40,119,44,32,52,41,10,68,32,61,32,111,110,32,66,32,67,32,97,116,32,48,46,53,10,69,32,61,32,102,111,111,116,32,65,32,66,32,67,10,70,32,61,32,109,105,114,114,111,114,32,65,32,66,32,67,10,71,32,61,32,109,101,101,116,32,65,32,68,32,66,32,67,10]⟩:ByteArray)] h fun n1 n2=>
 ∃ a b c d e,n1 = .tuple #[.slice a b c,.int .i64 d,.int .i64 e]/\
 CallsU Tryz.prog 32 [] n2 fun n3 n4=>
 ∃ f g i,n3 = .slice f g i/\
 CallsU Tryz.prog 16 [.slice a b c,.slice f g i] n4 fun n5 n6=>
 ∃ j k l m n,n5 = .tuple #[.slice j k l,.int .i64 m,.int .i64 n]/\
 CallsU Tryz.prog 24 [.string (⟨#[65,32,61,32,97,116,32,48,32,44,32,48,10,10,66,32,61,32,111,110,32,65,32,67,32,97,116,32,49,10]⟩:ByteArray)] n6 fun n7 n8=>
 ∃ o p q r s,n7 = .tuple #[.slice o p q,.int .i64 r,.int .i64 s]/\
 CallsU Tryz.prog 27 [.slice a b c] n8 fun n9 o0=>
 ∃ t u,n9 = .tuple #[.string t,.int .i64 u]/\
 ∃ v:Bool->Heap->Prop,(∀ (m9:Bool) (n0:Heap),v m9 n0->
 Br (m9)
 (R (.bool false) n0)
 (CallsU Tryz.prog 15 [.int .i64 16,.int .i64 5] n0 fun o1 o2=>
 ∃ w y z a0 a1 a2 a3,o1 = .agg #[.bool w,.slice y z a0,.slice a1 a2 a3]/\
 CallsU Tryz.prog 15 [.int .i64 8,.int .i64 5] o2 fun o3 o4=>
 ∃ a4 a5 a6 a7 a8 a9 b0,o3 = .agg #[.bool a4,.slice a5 a6 a7,.slice a8 a9 b0]/\
 ∃ b1:Addr,j=some b1/\0<=(6:Int)/\(6:Int)<(k:Int)/\
 ∃ b2,LdN o4 (Addr.add (Addr.add b1 (6*7)) 0) [.string b2]/\
 Br (b2.toList==(⟨#[71]⟩:ByteArray).toList)
 (∃ b3:Addr,j=some b3/\0<=(3:Int)/\(3:Int)<(k:Int)/\
 ∃ b4 b5 b6 b7 b8 b9 c0 c1 c2 c3 c4 c5 c6 c7,LdN o4 (Addr.add (Addr.add b3 (3*7)) 1) [.bool b4,.slice b5 b6 b7,.slice b8 b9 c0,.bool c1,.slice c2 c3 c4,.slice c5 c6 c7]/\
 CallsU Tryz.prog 34 [.int .i64 2,.int .i64 4] o4 fun o5 o6=>
 ∃ c8 c9 d0 d1 d2 d3 d4 d5 d6 d7 d8 d9 e0 e1,o5 = .agg #[.bool c8,.slice c9 d0 d1,.slice d2 d3 d4,.bool d5,.slice d6 d7 d8,.slice d9 e0 e1]/\
 LeH o4 o6/\
 CallsU Tryz.prog 33 [.agg #[.bool b4,.slice b5 b6 b7,.slice b8 b9 c0,.bool c1,.slice c2 c3 c4,.slice c5 c6 c7],.agg #[.bool c8,.slice c9 d0 d1,.slice d2 d3 d4,.bool d5,.slice d6 d7 d8,.slice d9 e0 e1]] o6 fun o7 o8=>
 ∃ e2,o7 = .bool e2/\
 Br (e2)
 (∃ e3:Addr,j=some e3/\0<=(4:Int)/\(4:Int)<(k:Int)/\
 ∃ e4 e5 e6 e7 e8 e9 f0 f1 f2 f3 f4 f5 f6 f7,LdN o8 (Addr.add (Addr.add e3 (4*7)) 1) [.bool e4,.slice e5 e6 e7,.slice e8 e9 f0,.bool f1,.slice f2 f3 f4,.slice f5 f6 f7]/\
 CallsU Tryz.prog 33 [.agg #[.bool e4,.slice e5 e6 e7,.slice e8 e9 f0,.bool f1,.slice f2 f3 f4,.slice f5 f6 f7],.agg #[.bool w,.slice y z a0,.slice a1 a2 a3,.bool a4,.slice a5 a6 a7,.slice a8 a9 b0]] o8 fun o9 p0=>
 ∃ f8,o9 = .bool f8/\
 Br (f8)
 (∃ f9:Addr,j=some f9/\0<=(5:Int)/\(5:Int)<(k:Int)/\
 ∃ g0 g1 g2 g3 g4 g5 g6 g7 g8 g9 i0 i1 i2 i3,LdN p0 (Addr.add (Addr.add f9 (5*7)) 1) [.bool g0,.slice g1 g2 g3,.slice g4 g5 g6,.bool g7,.slice g8 g9 i0,.slice i1 i2 i3]/\
 CallsU Tryz.prog 35 [.agg #[.bool w,.slice y z a0,.slice a1 a2 a3,.bool a4,.slice a5 a6 a7,.slice a8 a9 b0],.agg #[.bool w,.slice y z a0,.slice a1 a2 a3,.bool a4,.slice a5 a6 a7,.slice a8 a9 b0]] p0 fun p1 p2=>
 ∃ i4 i5 i6 i7 i8 i9 j0 j1 j2 j3 j4 j5 j6 j7,p1 = .agg #[.bool i4,.slice i5 i6 i7,.slice i8 i9 j0,.bool j1,.slice j2 j3 j4,.slice j5 j6 j7]/\
 LeH p0 p2/\
 CallsU Tryz.prog 33 [.agg #[.bool g0,.slice g1 g2 g3,.slice g4 g5 g6,.bool g7,.slice g8 g9 i0,.slice i1 i2 i3],.agg #[.bool i4,.slice i5 i6 i7,.slice i8 i9 j0,.bool j1,.slice j2 j3 j4,.slice j5 j6 j7]] p2 fun p3 p4=>
 ∃ j8,p3 = .bool j8/\
 Br (j8)
 (∃ j9:Addr,j=some j9/\0<=(6:Int)/\(6:Int)<(k:Int)/\
 ∃ k0 k1 k2 k3 k4 k5 k6 k7 k8 k9 l0 l1 l2 l3,LdN p4 (Addr.add (Addr.add j9 (6*7)) 1) [.bool k0,.slice k1 k2 k3,.slice k4 k5 k6,.bool k7,.slice k8 k9 l0,.slice l1 l2 l3]/\
 CallsU Tryz.prog 34 [.int .i64 2,.int .i64 4] p4 fun p5 p6=>
 ∃ l4 l5 l6 l7 l8 l9 m0 m1 m2 m3 m4 m5 m6 m7,p5 = .agg #[.bool l4,.slice l5 l6 l7,.slice l8 l9 m0,.bool m1,.slice m2 m3 m4,.slice m5 m6 m7]/\
 LeH p4 p6/\
 CallsU Tryz.prog 33 [.agg #[.bool k0,.slice k1 k2 k3,.slice k4 k5 k6,.bool k7,.slice k8 k9 l0,.slice l1 l2 l3],.agg #[.bool l4,.slice l5 l6 l7,.slice l8 l9 m0,.bool m1,.slice m2 m3 m4,.slice m5 m6 m7]] p6 fun p7 p8=>
 ∃ m8,p7 = .bool m8/\
 Br (m8)
 (((0:Nat):Int)<=(13:Int)/\13<=(((⟨#[35,32,97,32,110,101,99,107,108,105,110,101,10,65,32,61,32,97,116,32,48,32,44,32,48,10,66,32,61,32,102,114,111,109,32,65,32,98,121,32,119,32,47,32,50,32,44,32,48,10,67,32,61,32,102,114,111,109,32,65,32,98,121,32,48,32,44,32,109,97,120,40,119,44,32,52,41,10,68,32,61,32,111,110,32,66,32,67,32,97,116,32,48,46,53,10,69,32,61,32,102,111,111,116,32,65,32,66,32,67,10,70,32,61,32,109,105,114,114,111,114,32,65,32,66,32,67,10,71,32,61,32,109,101,101,116,32,65,32,68,32,66,32,67,10]⟩:ByteArray).size:Nat):Int)/\
 R (.bool (t.toList==(ByteArray.extract (⟨#[35,32,97,32,110,101,99,107,108,105,110,101,10,65,32,61,32,97,116,32,48,32,44,32,48,10,66,32,61,32,102,114,111,109,32,65,32,98,121,32,119,32,47,32,50,32,44,32,48,10,67,32,61,32,102,114,111,109,32,65,32,98,121,32,48,32,44,32,109,97,120,40,119,44,32,52,41,10,68,32,61,32,111,110,32,66,32,67,32,97,116,32,48,46,53,10,69,32,61,32,102,111,111,116,32,65,32,66,32,67,10,70,32,61,32,109,105,114,114,111,114,32,65,32,66,32,67,10,71,32,61,32,109,101,101,116,32,65,32,68,32,66,32,67,10]⟩:ByteArray) 13 ((⟨#[35,32,97,32,110,101,99,107,108,105,110,101,10,65,32,61,32,97,116,32,48,32,44,32,48,10,66,32,61,32,102,114,111,109,32,65,32,98,121,32,119,32,47,32,50,32,44,32,48,10,67,32,61,32,102,114,111,109,32,65,32,98,121,32,48,32,44,32,109,97,120,40,119,44,32,52,41,10,68,32,61,32,111,110,32,66,32,67,32,97,116,32,48,46,53,10,69,32,61,32,102,111,111,116,32,65,32,66,32,67,10,70,32,61,32,109,105,114,114,111,114,32,65,32,66,32,67,10,71,32,61,32,109,101,101,116,32,65,32,68,32,66,32,67,10]⟩:ByteArray).size)).toList)) p8)
 (R (.bool false) p8))
 (LeH p4 p4/\
 R (.bool false) p4))
 (LeH p0 p0/\
 LeH p0 p0/\
 R (.bool false) p0))
 (LeH o8 o8/\
 LeH o8 o8/\
 R (.bool false) o8))
 (LeH o4 o4/\
 LeH o4 o4/\
 LeH o4 o4/\
 R (.bool false) o4)))/\
 Br ((d:Int) != 0)
 (v true o0)
 (Br ((m:Int) != 0)
 (v true o0)
 (Br ((e:Int) != 0)
 (v true o0)
 (Br ((n:Int) != 0)
 (v true o0)
 (Br ((r:Int) != 6)
 (v true o0)
 (Br ((s:Int) != 3)
 (v true o0)
 (Br ((u:Int) != 0)
 (v true o0)
 (Br ((b:Int) != 7)
 (v true o0)
 (Br ((k:Int) != 7)
 (v true o0)
 (v ((t.size:Int) != 132) o0)))))))))
theorem law19_alive_ok  {h:Heap} {R:Value->Heap->Prop} (hv:law19_alive_vc  h R):CallsU Tryz.prog 14 [] h R:=
 fn_ok Tryz.func14 (fun _=>false) (.two .nil (.two .nil (.two .nil (.two .nil (.two .nil (.two (.cut ⟨[(75,Sh.bool)],[]⟩ .nil .nil) (.two .nil (.two (.ord [0,1,2,3,4,5,6,7,8,9,10,11,12,13,14,15,16,17,18,19,20,21,22,23,24,25,26,27,28,29,30,31,32,33,34,35,36,37,38,39,40,41,42,43,44]) .nil)))))))) hv
def law19_ratio_vc (a:Int) (b:Int) (h:Heap) (R:Value->Heap->Prop):Prop:=
 CallsU Tryz.prog 36 [.int .i64 a,.int .i64 b] h fun l m=>
 ∃ c d e f g i j k,l = .tuple #[.agg #[.bool c,.slice d e f,.slice g i j],.bool k]/\
 R (.agg #[.bool c,.slice d e f,.slice g i j]) m
theorem law19_ratio_ok {a:Int} {b:Int} {h:Heap} {R:Value->Heap->Prop} (hv:law19_ratio_vc a b h R):CallsU Tryz.prog 15 [.int .i64 a,.int .i64 b] h R:=
 fn_ok Tryz.func15 (fun _=>false) .nil hv
def law19_env_vc  (h:Heap) (R:Value->Heap->Prop):Prop:=
 CallsU Tryz.prog 65 [.int .i64 8] h fun k l=>
 ∃ a b c d e f g,k = .agg #[.bool a,.slice b c d,.slice e f g]/\
 ∀ (i:Nat) (j:Heap),l i=none->j=Heap.put l i ⟨[.string (⟨#[119]⟩:ByteArray),.bool a,.slice b c d,.slice e f g],45,(0,0)⟩->
 R (.slice (some ⟨i,0,none⟩) 1 1) j
theorem law19_env_ok  {h:Heap} {R:Value->Heap->Prop} (hv:law19_env_vc  h R):CallsU Tryz.prog 32 [] h R:=
 fn_ok Tryz.func32 (fun _=>false) .nil hv
end Go.Proofs.YtfglcgbgaeegaaaGreatDoor
