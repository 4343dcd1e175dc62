/-
 Gathered texts of this proof: VcL,Cn15,Rf1,Rf2,Rf3,Rf4,Me7,Pl6,Me8,Rf5,Fa1,Rg1,La1,Pn2,La2,Rg2,Rf6,Rg5.
-/
import Derived.Test.YtfglcgbgaeegaaaGreatDoorG03
import Derived.Test.YtfglcgbgaeegaaaGreatDoorChecked
import Derived.Test.YtfglcgbgaeegaaaGreatDoorG09
import Derived.Laws.Strings
import Derived.Test.YtfglcgbgaeegaaaGreatDoorG08
import Derived.Test.YtfglcgbgaeegaaaGreatDoorG06
set_option maxRecDepth 100000

namespace Go.Proofs.YtfglcgbgaeegaaaGreatDoor
open Go Go.Vcg
def law19_DraftMoves_vc (a:OA) (b c:Nat) (d:OA) (e f:Nat) (g:Int) (i:Int) (h:Heap) (R:Value->Heap->Prop):Prop:=
 ∃ j:Bool->Heap->Prop,(∀ (n3:Bool) (n4:Heap),j n3 n4->
 Br (n3)
 (CallsU Tryz.prog 14 [] n4 fun t1 t2=>
 ∃ k,t1 = .bool k/\
 R (.bool k) t2)
 (∀ (n5:Nat) (n6:Heap),n4 n5=none->n6=Heap.put n4 n5 ⟨[.int .i64 2,.bool false,.slice none 0 0,.slice none 0 0,.string (⟨#[122,120]⟩:ByteArray),.slice none 0 0,.int .i64 2,.bool false,.slice none 0 0,.slice none 0 0,.string (⟨#[122,121]⟩:ByteArray),.slice none 0 0],39,(0,0)⟩->
 ∀ (n7:Nat) (n8:Heap),n6 n7=none->n8=Heap.put n6 n7 ⟨[.string (⟨#[79,114,105,103,105,110,48,48]⟩:ByteArray),.int .i64 1,.slice none 0 0,.slice (some ⟨n5,0,none⟩) 2 2],42,(0,0)⟩->
 ∃ l:Nat->OA->Nat->Nat->Int->Heap->Prop,(∃ m,l m (some ⟨n7,0,none⟩) 1 1 0 n8)/\
 ∀ (m:Nat) (n9:OA) (o0 o1:Nat) (o2:Int) (o3:Heap),l m n9 o0 o1 o2 o3->
 Br (decide (o2<(b:Int)))
 (∃ n:Addr,a=some n/\0<=o2/\o2<(b:Int)/\
 ∃ o p q r s t u v,LdN o3 (Addr.add n (Int.toNat o2*4)) [.string o,.int .i64 p,.slice q r s,.slice t u v]/\
 Br (o.toList==(⟨#[79,114,105,103,105,110,48,48]⟩:ByteArray).toList)
 (CallsU Tryz.prog 14 [] o3 fun t3 t4=>
 ∃ w,t3 = .bool w/\
 R (.bool w) t4)
 (Br ((p:Int)==1)
 (∀ (o4:Nat) (o5:Heap),o3 o4=none->o5=Heap.put o3 o4 ⟨[.string (⟨#[79,114,105,103,105,110,48,48]⟩:ByteArray)],9,(0,0)⟩->
 ∀ (o6:Nat) (o7:Heap),o5 o6=none->o7=Heap.put o5 o6 ⟨[.string o,.int .i64 2,.slice (some ⟨o4,0,none⟩) 1 1,.slice t u v],42,(0,0)⟩->
 ∃ y:List Value,RdS o7 (some ⟨o6,0,none⟩) (1*4) y/\(∀ x∈y,Go.Vcg.one x=true)/\
 (o0+1<=o1-> ∃ (o8:Addr) (o9:Blk),n9=some o8/\o8.spot=none/\o7 o8.block=some o9/\o9.fz=(0,0)/\o8.off+o0*4+1*4<=o9.cells.length/\
 ∀ l8:Heap,l8=Heap.put o7 o8.block { o9 with cells:=setSeg o9.cells (o8.off+o0*4) y }->
 ∀ l9:Int,l9=IntKind.i64.wrap (o2+1)->
 ∃ z,z<m/\l z n9 (o0+1) o1 l9 l8)/\
 (o1<o0+1-> ∃ a0:List Value,RdS o7 n9 (o0*4) a0/\(o0+1)*72<=140737488355328/\
 ∀ (p0 p1:Nat) (p2:Heap),o7 p0=none->o0+1<=p1->p2=Heap.put o7 p0 ⟨a0++y++repV [.string ByteArray.empty,.int .i64 0,.slice none 0 0,.slice none 0 0] (p1-(o0+1)),42,(0,0)⟩->
 ∀ m0:Int,m0=IntKind.i64.wrap (o2+1)->
 ∃ z,z<m/\l z (some ⟨p0,0,none⟩) (o0+1) p1 m0 p2))
 (∀ (p3:Nat) (p4:Heap),o3 p3=none->p4=Heap.put o3 p3 ⟨[.string o,.int .i64 p,.slice q r s,.slice t u v],42,(0,0)⟩->
 ∃ a1:List Value,RdS p4 (some ⟨p3,0,none⟩) (1*4) a1/\(∀ x∈a1,Go.Vcg.one x=true)/\
 (o0+1<=o1-> ∃ (p5:Addr) (p6:Blk),n9=some p5/\p5.spot=none/\p4 p5.block=some p6/\p6.fz=(0,0)/\p5.off+o0*4+1*4<=p6.cells.length/\
 ∀ m1:Heap,m1=Heap.put p4 p5.block { p6 with cells:=setSeg p6.cells (p5.off+o0*4) a1 }->
 ∀ m2:Int,m2=IntKind.i64.wrap (o2+1)->
 ∃ z,z<m/\l z n9 (o0+1) o1 m2 m1)/\
 (o1<o0+1-> ∃ a2:List Value,RdS p4 n9 (o0*4) a2/\(o0+1)*72<=140737488355328/\
 ∀ (p7 p8:Nat) (p9:Heap),p4 p7=none->o0+1<=p8->p9=Heap.put p4 p7 ⟨a2++a1++repV [.string ByteArray.empty,.int .i64 0,.slice none 0 0,.slice none 0 0] (p8-(o0+1)),42,(0,0)⟩->
 ∀ m3:Int,m3=IntKind.i64.wrap (o2+1)->
 ∃ z,z<m/\l z (some ⟨p7,0,none⟩) (o0+1) p8 m3 p9))))
 (CallsU Tryz.prog 15 [.int .i64 (IntKind.i64.wrap g),.int .i64 1] o3 fun t5 t6=>
 ∃ a3 a4 a5 a6 a7 a8 a9,t5 = .agg #[.bool a3,.slice a4 a5 a6,.slice a7 a8 a9]/\
 LeH o3 t6/\
 CallsU Tryz.prog 15 [.int .i64 (IntKind.i64.wrap i),.int .i64 1] t6 fun t7 t8=>
 ∃ b0 b1 b2 b3 b4 b5 b6,t7 = .agg #[.bool b0,.slice b1 b2 b3,.slice b4 b5 b6]/\
 ∀ (q0:Nat) (q1:Heap),t8 q0=none->q1=Heap.put t8 q0 ⟨[.string (⟨#[122,120]⟩:ByteArray),.bool a3,.slice a4 a5 a6,.slice a7 a8 a9,.string (⟨#[122,121]⟩:ByteArray),.bool b0,.slice b1 b2 b3,.slice b4 b5 b6],45,(0,0)⟩->
 ∃ b7:OA->Nat->Nat->Heap->Prop,(∀ (q2:OA) (q3 q4:Nat) (q5:Heap),b7 q2 q3 q4 q5->
 CallsU Tryz.prog 16 [.slice a b c,.slice q2 q3 q4] q5 fun t9 u0=>
 ∃ b8 b9 c0 c1 c2,t9 = .tuple #[.slice b8 b9 c0,.int .i64 c1,.int .i64 c2]/\
 CallsU Tryz.prog 16 [.slice n9 o0 o1,.slice q2 q3 q4] u0 fun u1 u2=>
 ∃ c3 c4 c5 c6 c7,u1 = .tuple #[.slice c3 c4 c5,.int .i64 c6,.int .i64 c7]/\
 ∃ c8:Bool->Heap->Prop,(∀ (q6:Bool) (q7:Heap),c8 q6 q7->
 Br (q6)
 (CallsU Tryz.prog 14 [] q7 fun u3 u4=>
 ∃ c9,u3 = .bool c9/\
 R (.bool c9) u4)
 (Br ((c1:Int) != 0)
 (∃ d0:Bool->Heap->Prop,(∀ (q8:Bool) (q9:Heap),d0 q8 q9->
 R (.bool q8) q9)/\
 Br ((c1:Int)==c6)
 (∀ m4:Int,m4=IntKind.i64.wrap (c2+1)->
 Br ((c7:Int)==m4)
 (∀ m5:Int,m5=IntKind.i64.wrap ((b9:Int)+(c4:Int))->
 Br ((m5:Int)==0)
 (CallsU Tryz.prog 14 [] q7 fun u5 u6=>
 ∃ d1,u5 = .bool d1/\
 d0 d1 u6)
 (d0 false q7))
 (d0 false q7))
 (d0 false q7))
 (∃ d2:Bool->Heap->Prop,(∀ (r0:Bool) (r1:Heap),d2 r0 r1->
 Br (r0)
 (R (.bool false) r1)
 (∃ d3:Nat->Int->Heap->Prop,(∃ d4,d3 d4 0 r1)/\
 ∀ (d4:Nat) (r2:Int) (r3:Heap),d3 d4 r2 r3->
 Br (decide (r2<(b9:Int)))
 (∀ m6:Int,m6=IntKind.i64.wrap (r2+1)->
 ∃ d5:Addr,c3=some d5/\0<=m6/\m6<(c4:Int)/\
 ∃ d6 d7 d8 d9 e0 e1 e2 e3 e4 e5 e6 e7 e8 e9,LdN r3 (Addr.add (Addr.add d5 (Int.toNat m6*7)) 1) [.bool d6,.slice d7 d8 d9,.slice e0 e1 e2,.bool e3,.slice e4 e5 e6,.slice e7 e8 e9]/\
 ∃ f0:Addr,b8=some f0/\0<=r2/\r2<(b9:Int)/\
 ∃ f1 f2 f3 f4 f5 f6 f7 f8 f9 g0 g1 g2 g3 g4,LdN r3 (Addr.add (Addr.add f0 (Int.toNat r2*7)) 1) [.bool f1,.slice f2 f3 f4,.slice f5 f6 f7,.bool f8,.slice f9 g0 g1,.slice g2 g3 g4]/\
 CallsU Tryz.prog 19 [.int .i64 (IntKind.i64.wrap g),.int .i64 (IntKind.i64.wrap i)] r3 fun u7 u8=>
 ∃ g5 g6 g7 g8 g9 i0 i1 i2 i3 i4 i5 i6 i7 i8,u7 = .agg #[.bool g5,.slice g6 g7 g8,.slice g9 i0 i1,.bool i2,.slice i3 i4 i5,.slice i6 i7 i8]/\
 LeH r3 u8/\
 CallsU Tryz.prog 18 [.agg #[.bool f1,.slice f2 f3 f4,.slice f5 f6 f7,.bool f8,.slice f9 g0 g1,.slice g2 g3 g4],.agg #[.bool g5,.slice g6 g7 g8,.slice g9 i0 i1,.bool i2,.slice i3 i4 i5,.slice i6 i7 i8]] u8 fun u9 v0=>
 ∃ i9 j0 j1 j2 j3 j4 j5 j6 j7 j8 j9 k0 k1 k2,u9 = .agg #[.bool i9,.slice j0 j1 j2,.slice j3 j4 j5,.bool j6,.slice j7 j8 j9,.slice k0 k1 k2]/\
 LeH u8 v0/\
 CallsU Tryz.prog 17 [.agg #[.bool d6,.slice d7 d8 d9,.slice e0 e1 e2,.bool e3,.slice e4 e5 e6,.slice e7 e8 e9],.agg #[.bool i9,.slice j0 j1 j2,.slice j3 j4 j5,.bool j6,.slice j7 j8 j9,.slice k0 k1 k2]] v0 fun v1 v2=>
 ∃ k3,v1 = .bool k3/\
 Br (!k3)
 (R (.bool false) v2)
 (∀ m7:Int,m7=IntKind.i64.wrap (r2+1)->
 ∃ k4:Addr,c3=some k4/\0<=m7/\m7<(c4:Int)/\
 ∃ k5,LdN v2 (Addr.add (Addr.add k4 (Int.toNat m7*7)) 0) [.string k5]/\
 ∃ k6:Addr,b8=some k6/\0<=r2/\r2<(b9:Int)/\
 ∃ k7,LdN v2 (Addr.add (Addr.add k6 (Int.toNat r2*7)) 0) [.string k7]/\
 Br (!(k5.toList==k7.toList))
 (R (.bool false) v2)
 (∀ m8:Int,m8=IntKind.i64.wrap (r2+1)->
 ∃ k8,k8<d4/\d3 k8 m8 v2)))
 (CallsU Tryz.prog 14 [] r3 fun v3 v4=>
 ∃ k9,v3 = .bool k9/\
 R (.bool k9) v4)))/\
 Br ((c6:Int) != 0)
 (d2 true q7)
 (∀ m9:Int,m9=IntKind.i64.wrap ((b9:Int)+1)->
 d2 ((c4:Int) != m9) q7))))/\
 Br ((c1:Int)==5)
 (c8 true u2)
 (c8 ((c6:Int)==5) u2))/\
 ∀ (r4:Nat) (r5:Heap),q1 r4=none->r5=Heap.put q1 r4 ⟨[],45,(0,0)⟩->
 ∃ l0:List Value,RdS r5 (some ⟨q0,0,none⟩) (2*4) l0/\(∀ x∈l0,Go.Vcg.one x=true)/\
 (0+2<=0-> ∃ (r6:Addr) (r7:Blk),some ⟨r4,0,none⟩=some r6/\r6.spot=none/\r5 r6.block=some r7/\r7.fz=(0,0)/\r6.off+0*4+2*4<=r7.cells.length/\
 ∀ n0:Heap,n0=Heap.put r5 r6.block { r7 with cells:=setSeg r7.cells (r6.off+0*4) l0 }->
 ∃ l1:List Value,RdS n0 d (e*4) l1/\(∀ x∈l1,Go.Vcg.one x=true)/\
 (0+2+e<=0->Br (decide (e*4=0)) (b7 (some ⟨r4,0,none⟩) (0+2+e) 0 n0)
 (∃ (r8:Addr) (r9:Blk),some ⟨r4,0,none⟩=some r8/\r8.spot=none/\n0 r8.block=some r9/\r9.fz=(0,0)/\r8.off+(0+2)*4+e*4<=r9.cells.length/\
 ∀ n1:Heap,n1=Heap.put n0 r8.block { r9 with cells:=setSeg r9.cells (r8.off+(0+2)*4) l1 }->
 b7 (some ⟨r4,0,none⟩) (0+2+e) 0 n1))/\
 (0<0+2+e-> ∃ l2:List Value,RdS n0 (some ⟨r4,0,none⟩) ((0+2)*4) l2/\(0+2+e)*72<=140737488355328/\
 ∀ (s0 s1:Nat) (s2:Heap),n0 s0=none->0+2+e<=s1->s2=Heap.put n0 s0 ⟨l2++l1++repV [.string ByteArray.empty,.bool false,.slice none 0 0,.slice none 0 0] (s1-(0+2+e)),45,(0,0)⟩->
 b7 (some ⟨s0,0,none⟩) (0+2+e) s1 s2))/\
 (0<0+2-> ∃ l3:List Value,RdS r5 (some ⟨r4,0,none⟩) (0*4) l3/\(0+2)*72<=140737488355328/\
 ∀ (s3 s4:Nat) (s5:Heap),r5 s3=none->0+2<=s4->s5=Heap.put r5 s3 ⟨l3++l0++repV [.string ByteArray.empty,.bool false,.slice none 0 0,.slice none 0 0] (s4-(0+2)),45,(0,0)⟩->
 ∃ l4:List Value,RdS s5 d (e*4) l4/\(∀ x∈l4,Go.Vcg.one x=true)/\
 (0+2+e<=s4->Br (decide (e*4=0)) (b7 (some ⟨s3,0,none⟩) (0+2+e) s4 s5)
 (∃ (s6:Addr) (s7:Blk),some ⟨s3,0,none⟩=some s6/\s6.spot=none/\s5 s6.block=some s7/\s7.fz=(0,0)/\s6.off+(0+2)*4+e*4<=s7.cells.length/\
 ∀ n2:Heap,n2=Heap.put s5 s6.block { s7 with cells:=setSeg s7.cells (s6.off+(0+2)*4) l4 }->
 b7 (some ⟨s3,0,none⟩) (0+2+e) s4 n2))/\
 (s4<0+2+e-> ∃ l5:List Value,RdS s5 (some ⟨s3,0,none⟩) ((0+2)*4) l5/\(0+2+e)*72<=140737488355328/\
 ∀ (s8 s9:Nat) (t0:Heap),s5 s8=none->0+2+e<=s9->t0=Heap.put s5 s8 ⟨l5++l4++repV [.string ByteArray.empty,.bool false,.slice none 0 0,.slice none 0 0] (s9-(0+2+e)),45,(0,0)⟩->
 b7 (some ⟨s8,0,none⟩) (0+2+e) s9 t0)))))/\
 CallsU Tryz.prog 12 [.slice a b c,.slice d e f] h fun v5 v6=>
 ∃ l6,v5 = .bool l6/\
 Br (!l6)
 (j true v6)
 (Br (decide ((b:Int)>=64))
 (j true v6)
 (CallsU Tryz.prog 13 [.slice a b c] v6 fun v7 v8=>
 ∃ l7,v7 = .int .i64 l7/\
 j ((l7:Int) != 0) v8))
theorem law19_DraftMoves_ok {a:OA} {b c:Nat} {d:OA} {e f:Nat} {g:Int} {i:Int} {h:Heap} {R:Value->Heap->Prop} (hv:law19_DraftMoves_vc a b c d e f g i h R):CallsU Tryz.prog 3 [.slice a b c,.slice d e f,.agg #[.int .i16 g,.int .i16 i]] h R:=
 fn_ok Tryz.func3 (fun _=>false) (.two .nil (.two (.cut ⟨[(34,Sh.bool)],[]⟩ .nil .nil) (.two .nil (.two .nil (.two .nil (.two (.two .nil (.one (.loop ⟨[(9,Sh.slice),(10,Sh.int .i64)],[]⟩ .nil))) (.two (.ord [0,1,2,5,6,7,3,4,8,9,10,11]) (.cut ⟨[(13,Sh.slice)],[]⟩ .nil (.two .nil (.two .nil (.two (.cut ⟨[(102,Sh.bool)],[]⟩ .nil .nil) (.two (.two .nil (.two (.cut ⟨[(6,Sh.bool)],[]⟩ .nil .nil) .nil)) (.two (.cut ⟨[(135,Sh.bool)],[]⟩ .nil .nil) (.two (.two .nil (.one (.loop ⟨[(20,Sh.int .i64)],[]⟩ (.two .nil (.two (.one (.two (.ord [0,1,2,3,4,5,6,7,8,9,10,11,12,13,14,15,16,17,18,19,20,21,22,23,24,25,26,27,28,29,30,31,32,33,34]) .nil)) .nil))))) .nil)))))))))))))) hv
def law19_DraftNeeds_vc (a:OA) (b c:Nat) (d:OA) (e f:Nat) (g:ByteArray) (i:Bool) (j:OA) (k l:Nat) (m:OA) (n o:Nat) (h:Heap) (R:Value->Heap->Prop):Prop:=
 ∃ p:OA->Nat->Nat->Heap->Prop,(∀ (e7:OA) (e8 e9:Nat) (f0:Heap),p e7 e8 e9 f0->
 CallsU Tryz.prog 12 [.slice a b c,.slice e7 e8 e9] f0 fun g4 g5=>
 ∃ q,g4 = .bool q/\
 Br (!q)
 (CallsU Tryz.prog 14 [] g5 fun g6 g7=>
 ∃ r,g6 = .bool r/\
 R (.bool r) g7)
 (∃ s:Nat->Int->Heap->Prop,(∃ t,s t 0 g5)/\
 ∀ (t:Nat) (f1:Int) (f2:Heap),s t f1 f2->
 Br (decide (f1<(b:Int)))
 (∃ u:Nat->Int->Heap->Prop,(∃ v,u v 0 f2)/\
 ∀ (v:Nat) (f3:Int) (f4:Heap),u v f3 f4->
 ∃ w:Addr,a=some w/\0<=f1/\f1<(b:Int)/\
 ∃ y z a0,LdN f4 (Addr.add (Addr.add w (Int.toNat f1*4)) 3) [.slice y z a0]/\
 Br (decide (f3<(z:Int)))
 (∃ a1:Addr,a=some a1/\0<=f1/\f1<(b:Int)/\
 ∃ a2 a3 a4,LdN f4 (Addr.add (Addr.add a1 (Int.toNat f1*4)) 3) [.slice a2 a3 a4]/\
 ∃ a5:Addr,a2=some a5/\0<=f3/\f3<(a3:Int)/\
 ∃ a6 a7 a8 a9 b0 b1 b2 b3 b4 b5 b6 b7,LdN f4 (Addr.add a5 (Int.toNat f3*6)) [.int .i64 a6,.bool a7,.slice a8 a9 b0,.slice b1 b2 b3,.string b4,.slice b5 b6 b7]/\
 CallsU Tryz.prog 20 [.agg #[.int .i64 a6,.bool a7,.slice a8 a9 b0,.slice b1 b2 b3,.string b4,.slice b5 b6 b7]] f4 fun g8 g9=>
 ∃ b8 b9 c0,g8 = .slice b8 b9 c0/\
 ∃ c1:Nat->Int->Heap->Prop,(∃ c2,c1 c2 0 g9)/\
 ∀ (c2:Nat) (f5:Int) (f6:Heap),c1 c2 f5 f6->
 Br (decide (f5<(b9:Int)))
 (∃ c3:Addr,b8=some c3/\0<=f5/\f5<(b9:Int)/\
 ∃ c4,LdN f6 (Addr.add c3 (Int.toNat f5*1)) [.string c4]/\
 Br (c4.toList==g.toList)
 (CallsU Tryz.prog 14 [] f6 fun i0 i1=>
 ∃ c5,i0 = .bool c5/\
 R (.bool c5) i1)
 (∀ e3:Int,e3=IntKind.i64.wrap (f5+1)->
 ∃ c6,c6<c2/\c1 c6 e3 f6))
 (∀ e4:Int,e4=IntKind.i64.wrap (f3+1)->
 ∃ c7,c7<v/\u c7 e4 f6))
 (∀ e5:Int,e5=IntKind.i64.wrap (f1+1)->
 ∃ c8,c8<t/\s c8 e5 f4))
 (CallsU Tryz.prog 16 [.slice a b c,.slice d e f] f2 fun i2 i3=>
 ∃ c9 d0 d1 d2 d3,i2 = .tuple #[.slice c9 d0 d1,.int .i64 d2,.int .i64 d3]/\
 CallsU Tryz.prog 16 [.slice a b c,.slice e7 e8 e9] i3 fun i4 i5=>
 ∃ d4 d5 d6 d7 d8,i4 = .tuple #[.slice d4 d5 d6,.int .i64 d7,.int .i64 d8]/\
 CallsU Tryz.prog 21 [.slice c9 d0 d1,.slice d4 d5 d6] i5 fun i6 i7=>
 ∃ d9,i6 = .bool d9/\
 Br (d9)
 (Br ((d2:Int)==d7)
 (Br ((d3:Int)==d8)
 (CallsU Tryz.prog 14 [] i7 fun i8 i9=>
 ∃ e0,i8 = .bool e0/\
 R (.bool e0) i9)
 (R (.bool false) i7))
 (R (.bool false) i7))
 (R (.bool false) i7))))/\
 ∀ (f7:Nat) (f8:Heap),h f7=none->f8=Heap.put h f7 ⟨[.string g,.bool i,.slice j k l,.slice m n o],45,(0,0)⟩->
 ∃ e1:List Value,RdS f8 d (e*4) e1/\(∀ x∈e1,Go.Vcg.one x=true)/\
 (1+e<=1->Br (decide (e*4=0)) (p (some ⟨f7,0,none⟩) (1+e) 1 f8)
 (∃ (f9:Addr) (g0:Blk),some ⟨f7,0,none⟩=some f9/\f9.spot=none/\f8 f9.block=some g0/\g0.fz=(0,0)/\f9.off+1*4+e*4<=g0.cells.length/\
 ∀ e6:Heap,e6=Heap.put f8 f9.block { g0 with cells:=setSeg g0.cells (f9.off+1*4) e1 }->
 p (some ⟨f7,0,none⟩) (1+e) 1 e6))/\
 (1<1+e-> ∃ e2:List Value,RdS f8 (some ⟨f7,0,none⟩) (1*4) e2/\(1+e)*72<=140737488355328/\
 ∀ (g1 g2:Nat) (g3:Heap),f8 g1=none->1+e<=g2->g3=Heap.put f8 g1 ⟨e2++e1++repV [.string ByteArray.empty,.bool false,.slice none 0 0,.slice none 0 0] (g2-(1+e)),45,(0,0)⟩->
 p (some ⟨g1,0,none⟩) (1+e) g2 g3)
theorem law19_DraftNeeds_ok {a:OA} {b c:Nat} {d:OA} {e f:Nat} {g:ByteArray} {i:Bool} {j:OA} {k l:Nat} {m:OA} {n o:Nat} {h:Heap} {R:Value->Heap->Prop} (hv:law19_DraftNeeds_vc a b c d e f g i j k l m n o h R):CallsU Tryz.prog 4 [.slice a b c,.slice d e f,.agg #[.string g,.bool i,.slice j k l,.slice m n o]] h R:=
 fn_ok Tryz.func4 (fun _=>false) (.two .nil (.cut ⟨[(7,Sh.slice)],[]⟩ .nil (.two .nil (.two (.two .nil (.one (.loop ⟨[(8,Sh.int .i64)],[]⟩ (.two .nil (.two (.one (.two .nil (.one (.loop ⟨[(9,Sh.int .i64)],[]⟩ (.two .nil (.two (.one (.two .nil (.two .nil (.one (.loop ⟨[(11,Sh.int .i64)],[]⟩ (.two .nil (.two (.one (.two (.ord [0,1,2,3,4,5,6]) .nil)) .nil))))))) .nil)))))) .nil))))) .nil)))) hv
def law19_DraftReads_vc (a:OA) (b c:Nat) (d:ByteArray) (h:Heap) (R:Value->Heap->Prop):Prop:=
 ∃ e:Bool->Heap->Prop,(∀ (b1:Bool) (b2:Heap),e b1 b2->
 Br (b1)
 (CallsU Tryz.prog 14 [] b2 fun b6 b7=>
 ∃ f,b6 = .bool f/\
 R (.bool f) b7)
 (CallsU Tryz.prog 27 [.slice a b c] b2 fun b8 b9=>
 ∃ g i,b8 = .tuple #[.string g,.int .i64 i]/\
 CallsU Tryz.prog 24 [.string g] b9 fun c0 c1=>
 ∃ j k l m n,c0 = .tuple #[.slice j k l,.int .i64 m,.int .i64 n]/\
 ∃ o:Heap->Prop,(∀  (b3:Heap),o b3->
 CallsU Tryz.prog 24 [.string d] b3 fun c2 c3=>
 ∃ p q r s t,c2 = .tuple #[.slice p q r,.int .i64 s,.int .i64 t]/\
 Br ((s:Int) != 0)
 (∃ u:Bool->Heap->Prop,(∀ (b4:Bool) (b5:Heap),u b4 b5->
 R (.bool b4) b5)/\
 Br ((q:Int)==0)
 (CallsU Tryz.prog 14 [] c3 fun c4 c5=>
 ∃ v,c4 = .bool v/\
 u v c5)
 (u false c3))
 (CallsU Tryz.prog 27 [.slice p q r] c3 fun c6 c7=>
 ∃ w y,c6 = .tuple #[.string w,.int .i64 y]/\
 CallsU Tryz.prog 24 [.string w] c7 fun c8 c9=>
 ∃ z a0 a1 a2 a3,c8 = .tuple #[.slice z a0 a1,.int .i64 a2,.int .i64 a3]/\
 Br ((y:Int)==5)
 (CallsU Tryz.prog 13 [.slice p q r] c9 fun d0 d1=>
 ∃ a4,d0 = .int .i64 a4/\
 Br ((a4:Int)==0)
 (CallsU Tryz.prog 14 [] d1 fun d2 d3=>
 ∃ a5,d2 = .bool a5/\
 R (.bool a5) d3)
 (R (.bool false) d1))
 (Br ((y:Int)==0)
 (Br ((a2:Int)==0)
 (CallsU Tryz.prog 26 [.slice p q r,.slice z a0 a1] c9 fun d4 d5=>
 ∃ a6,d4 = .bool a6/\
 Br (a6)
 (CallsU Tryz.prog 13 [.slice p q r] d5 fun d6 d7=>
 ∃ a7,d6 = .int .i64 a7/\
 Br ((a7:Int)==0)
 (CallsU Tryz.prog 14 [] d7 fun d8 d9=>
 ∃ a8,d8 = .bool a8/\
 R (.bool a8) d9)
 (R (.bool false) d7))
 (R (.bool false) d5))
 (R (.bool false) c9))
 (R (.bool false) c9))))/\
 Br ((i:Int)==0)
 (Br ((m:Int) != 0)
 (R (.bool false) c1)
 (Br ((n:Int) != 0)
 (R (.bool false) c1)
 (CallsU Tryz.prog 26 [.slice j k l,.slice a b c] c1 fun e0 e1=>
 ∃ a9,e0 = .bool a9/\
 Br (!a9)
 (R (.bool false) e1)
 (o e1))))
 (o c1)))/\
 CallsU Tryz.prog 22 [.slice a b c] h fun e2 e3=>
 ∃ b0,e2 = .bool b0/\
 Br (!b0)
 (e true e3)
 (e (decide ((d.size:Int)>3000)) e3)
theorem law19_DraftReads_ok {a:OA} {b c:Nat} {d:ByteArray} {h:Heap} {R:Value->Heap->Prop} (hv:law19_DraftReads_vc a b c d h R):CallsU Tryz.prog 9 [.slice a b c,.string d] h R:=
 fn_ok Tryz.func9 (fun _=>false) (.two .nil (.two (.cut ⟨[(25,Sh.bool)],[]⟩ .nil .nil) (.two .nil (.two .nil (.cut ⟨[],[]⟩ .nil (.two .nil (.two (.two .nil (.two (.cut ⟨[(4,Sh.bool)],[]⟩ .nil .nil) .nil)) .nil))))))) hv
def law19_DraftBegins_vc (a:OA) (b c:Nat) (d:OA) (e f:Nat) (g:Int) (h:Heap) (R:Value->Heap->Prop):Prop:=
 ∃ i:Bool->Heap->Prop,(∀ (e4:Bool) (e5:Heap),i e4 e5->
 Br (e4)
 (CallsU Tryz.prog 14 [] e5 fun f3 f4=>
 ∃ j,f3 = .bool j/\
 R (.bool j) f4)
 (∀ e0:Int,e0=IntKind.i64.wrap ((b:Int)+1)->
 Br (decide (e0=0)) False
 (∀ e1:Int,e1=(Int.tmod (IntKind.i64.wrap g) e0)->
 CallsU Tryz.prog 16 [.slice a b c,.slice d e f] e5 fun f5 f6=>
 ∃ k l m n o,f5 = .tuple #[.slice k l m,.int .i64 n,.int .i64 o]/\
 ((0:Nat):Int)<=e1/\e1<=(c:Int)/\
 CallsU Tryz.prog 16 [.slice a (Int.toNat e1) c,.slice d e f] f6 fun f7 f8=>
 ∃ p q r s t,f7 = .tuple #[.slice p q r,.int .i64 s,.int .i64 t]/\
 ∃ u:Bool->Heap->Prop,(∀ (e6:Bool) (e7:Heap),u e6 e7->
 Br (e6)
 (∃ v:Bool->Heap->Prop,(∀ (e8:Bool) (e9:Heap),v e8 e9->
 R (.bool e8) e9)/\
 Br ((s:Int)==n)
 (Br ((t:Int)==o)
 (Br ((q:Int)==0)
 (CallsU Tryz.prog 14 [] e7 fun f9 g0=>
 ∃ w,f9 = .bool w/\
 v w g0)
 (v false e7))
 (v false e7))
 (v false e7))
 (∃ y:Heap->Prop,(∀  (f0:Heap),y f0->
 ∃ z:Nat->Int->Heap->Prop,(∃ a0,z a0 0 f0)/\
 ∀ (a0:Nat) (f1:Int) (f2:Heap),z a0 f1 f2->
 Br (decide (f1<e1))
 (∃ a1:Addr,p=some a1/\0<=f1/\f1<(q:Int)/\
 ∃ a2,LdN f2 (Addr.add (Addr.add a1 (Int.toNat f1*7)) 0) [.string a2]/\
 ∃ a3:Addr,a=some a3/\0<=f1/\f1<(b:Int)/\
 ∃ a4,LdN f2 (Addr.add (Addr.add a3 (Int.toNat f1*4)) 0) [.string a4]/\
 Br (!(a2.toList==a4.toList))
 (R (.bool false) f2)
 (Br ((n:Int)==0)
 (∃ a5:Addr,k=some a5/\0<=f1/\f1<(l:Int)/\
 ∃ a6 a7 a8 a9 b0 b1 b2 b3 b4 b5 b6 b7 b8 b9,LdN f2 (Addr.add (Addr.add a5 (Int.toNat f1*7)) 1) [.bool a6,.slice a7 a8 a9,.slice b0 b1 b2,.bool b3,.slice b4 b5 b6,.slice b7 b8 b9]/\
 ∃ c0:Addr,p=some c0/\0<=f1/\f1<(q:Int)/\
 ∃ c1 c2 c3 c4 c5 c6 c7 c8 c9 d0 d1 d2 d3 d4,LdN f2 (Addr.add (Addr.add c0 (Int.toNat f1*7)) 1) [.bool c1,.slice c2 c3 c4,.slice c5 c6 c7,.bool c8,.slice c9 d0 d1,.slice d2 d3 d4]/\
 CallsU Tryz.prog 17 [.agg #[.bool a6,.slice a7 a8 a9,.slice b0 b1 b2,.bool b3,.slice b4 b5 b6,.slice b7 b8 b9],.agg #[.bool c1,.slice c2 c3 c4,.slice c5 c6 c7,.bool c8,.slice c9 d0 d1,.slice d2 d3 d4]] f2 fun g1 g2=>
 ∃ d5,g1 = .bool d5/\
 Br (!d5)
 (R (.bool false) g2)
 (∀ e2:Int,e2=IntKind.i64.wrap (f1+1)->
 ∃ d6,d6<a0/\z d6 e2 g2))
 (∀ e3:Int,e3=IntKind.i64.wrap (f1+1)->
 ∃ d6,d6<a0/\z d6 e3 f2)))
 (CallsU Tryz.prog 14 [] f2 fun g3 g4=>
 ∃ d7,g3 = .bool d7/\
 R (.bool d7) g4))/\
 Br ((s:Int) != 0)
 (R (.bool false) e7)
 (Br ((q:Int) != e1)
 (R (.bool false) e7)
 (Br ((n:Int)==0)
 (Br ((l:Int) != (b:Int))
 (R (.bool false) e7)
 (y e7))
 (y e7)))))/\
 Br ((n:Int) != 0)
 (u (decide (o<e1)) f8)
 (u false f8))))/\
 CallsU Tryz.prog 12 [.slice a b c,.slice d e f] h fun g5 g6=>
 ∃ d8,g5 = .bool d8/\
 Br (!d8)
 (i true g6)
 (CallsU Tryz.prog 13 [.slice a b c] g6 fun g7 g8=>
 ∃ d9,g7 = .int .i64 d9/\
 i ((d9:Int) != 0) g8)
theorem law19_DraftBegins_ok {a:OA} {b c:Nat} {d:OA} {e f:Nat} {g:Int} {h:Heap} {R:Value->Heap->Prop} (hv:law19_DraftBegins_vc a b c d e f g h R):CallsU Tryz.prog 10 [.slice a b c,.slice d e f,.int .u8 g] h R:=
 fn_ok Tryz.func10 (fun _=>false) (.two .nil (.two (.cut ⟨[(23,Sh.bool)],[]⟩ .nil .nil) (.two .nil (.two .nil (.two .nil (.two (.cut ⟨[(53,Sh.bool)],[]⟩ .nil (.two (.cut ⟨[(6,Sh.bool)],[]⟩ .nil .nil) .nil)) (.cut ⟨[],[]⟩ .nil (.two (.two .nil (.one (.loop ⟨[(14,Sh.int .i64)],[]⟩ (.two .nil (.two (.one (.two (.ord [0,1,2,3,4,5,6,7,8,9,10,11,12,13,14,15,16,17,18,19,20,21,22,23,24,25,26,27,28]) .nil)) .nil))))) .nil)))))))) hv
def law19_light_vc (a:OA) (b c:Nat) (d:OA) (e f:Nat) (h:Heap) (R:Value->Heap->Prop):Prop:=
 CallsU Tryz.prog 22 [.slice a b c] h fun j k=>
 ∃ g,j = .bool g/\
 Br (g)
 (CallsU Tryz.prog 30 [.slice d e f] k fun l m=>
 ∃ i,l = .bool i/\
 R (.bool i) m)
 (R (.bool false) k)
theorem law19_light_ok {a:OA} {b c:Nat} {d:OA} {e f:Nat} {h:Heap} {R:Value->Heap->Prop} (hv:law19_light_vc a b c d e f h R):CallsU Tryz.prog 12 [.slice a b c,.slice d e f] h R:=
 fn_ok Tryz.func12 (fun _=>false) .nil hv
def law19_alive_vc  (h:Heap) (R:Value->Heap->Prop):Prop:=
 CallsU Tryz.prog 24 [.string (⟨#[35,32,97,32,110,101,99,107,108,105,110,101,10,65,32,61,32,97,116,32,48,32,44,32,48,10,66,32,61,32,102,114,111,109,32,65,32,98,121,32,119,32,47,32,50,32,44,32,48,10,67,32,61,32,102,114,111,109,32,65,32,98,121,32,48,32,44,32,109,97,120,40,119,44,32,52,41,10,68,32,61,32,111,110,32,66,32,67,32,97,116,32,48,46,53,10,69,32,61,32,102,111,111,116,32,65,32,66,32,67,10,70,32,61,32,109,105,114,114,111,114,32,65,32,66,32,67,10,71,32,61,32,109,101,101,116,32,65,32,68,32,66,32,67,10]⟩:ByteArray)] h fun n1 n2=>
 ∃ a b c d e,n1 = .tuple #[.slice a b c,.int .i64 d,.int .i64 e]/\
 CallsU Tryz.prog 32 [] n2 fun n3 n4=>
 ∃ f g i,n3 = .slice f g i/\
 CallsU Tryz.prog 16 [.slice a b c,.slice f g i] n4 fun n5 n6=>
 ∃ j k l m n,n5 = .tuple #[.slice j k l,.int .i64 m,.int .i64 n]/\
 CallsU Tryz.prog 24 [.string (⟨#[65,32,61,32,97,116,32,48,32,44,32,48,10,10,66,32,61,32,111,110,32,65,32,67,32,97,116,32,49,10]⟩:ByteArray)] n6 fun n7 n8=>
 ∃ o p q r s,n7 = .tuple #[.slice o p q,.int .i64 r,.int .i64 s]/\
 CallsU Tryz.prog 27 [.slice a b c] n8 fun n9 o0=>
 ∃ t u,n9 = .tuple #[.string t,.int .i64 u]/\
 ∃ v:Bool->Heap->Prop,(∀ (m9:Bool) (n0:Heap),v m9 n0->
 Br (m9)
 (R (.bool false) n0)
 (CallsU Tryz.prog 15 [.int .i64 16,.int .i64 5] n0 fun o1 o2=>
 ∃ w y z a0 a1 a2 a3,o1 = .agg #[.bool w,.slice y z a0,.slice a1 a2 a3]/\
 CallsU Tryz.prog 15 [.int .i64 8,.int .i64 5] o2 fun o3 o4=>
 ∃ a4 a5 a6 a7 a8 a9 b0,o3 = .agg #[.bool a4,.slice a5 a6 a7,.slice a8 a9 b0]/\
 ∃ b1:Addr,j=some b1/\0<=(6:Int)/\(6:Int)<(k:Int)/\
 ∃ b2,LdN o4 (Addr.add (Addr.add b1 (6*7)) 0) [.string b2]/\
 Br (b2.toList==(⟨#[71]⟩:ByteArray).toList)
 (∃ b3:Addr,j=some b3/\0<=(3:Int)/\(3:Int)<(k:Int)/\
 ∃ b4 b5 b6 b7 b8 b9 c0 c1 c2 c3 c4 c5 c6 c7,LdN o4 (Addr.add (Addr.add b3 (3*7)) 1) [.bool b4,.slice b5 b6 b7,.slice b8 b9 c0,.bool c1,.slice c2 c3 c4,.slice c5 c6 c7]/\
 CallsU Tryz.prog 34 [.int .i64 2,.int .i64 4] o4 fun o5 o6=>
 ∃ c8 c9 d0 d1 d2 d3 d4 d5 d6 d7 d8 d9 e0 e1,o5 = .agg #[.bool c8,.slice c9 d0 d1,.slice d2 d3 d4,.bool d5,.slice d6 d7 d8,.slice d9 e0 e1]/\
 LeH o4 o6/\
 CallsU Tryz.prog 33 [.agg #[.bool b4,.slice b5 b6 b7,.slice b8 b9 c0,.bool c1,.slice c2 c3 c4,.slice c5 c6 c7],.agg #[.bool c8,.slice c9 d0 d1,.slice d2 d3 d4,.bool d5,.slice d6 d7 d8,.slice d9 e0 e1]] o6 fun o7 o8=>
 ∃ e2,o7 = .bool e2/\
 Br (e2)
 (∃ e3:Addr,j=some e3/\0<=(4:Int)/\(4:Int)<(k:Int)/\
 ∃ e4 e5 e6 e7 e8 e9 f0 f1 f2 f3 f4 f5 f6 f7,LdN o8 (Addr.add (Addr.add e3 (4*7)) 1) [.bool e4,.slice e5 e6 e7,.slice e8 e9 f0,.bool f1,.slice f2 f3 f4,.slice f5 f6 f7]/\
 CallsU Tryz.prog 33 [.agg #[.bool e4,.slice e5 e6 e7,.slice e8 e9 f0,.bool f1,.slice f2 f3 f4,.slice f5 f6 f7],.agg #[.bool w,.slice y z a0,.slice a1 a2 a3,.bool a4,.slice a5 a6 a7,.slice a8 a9 b0]] o8 fun o9 p0=>
 ∃ f8,o9 = .bool f8/\
 Br (f8)
 (∃ f9:Addr,j=some f9/\0<=(5:Int)/\(5:Int)<(k:Int)/\
 ∃ g0 g1 g2 g3 g4 g5 g6 g7 g8 g9 i0 i1 i2 i3,LdN p0 (Addr.add (Addr.add f9 (5*7)) 1) [.bool g0,.slice g1 g2 g3,.slice g4 g5 g6,.bool g7,.slice g8 g9 i0,.slice i1 i2 i3]/\
 CallsU Tryz.prog 35 [.agg #[.bool w,.slice y z a0,.slice a1 a2 a3,.bool a4,.slice a5 a6 a7,.slice a8 a9 b0],.agg #[.bool w,.slice y z a0,.slice a1 a2 a3,.bool a4,.slice a5 a6 a7,.slice a8 a9 b0]] p0 fun p1 p2=>
 ∃ i4 i5 i6 i7 i8 i9 j0 j1 j2 j3 j4 j5 j6 j7,p1 = .agg #[.bool i4,.slice i5 i6 i7,.slice i8 i9 j0,.bool j1,.slice j2 j3 j4,.slice j5 j6 j7]/\
 LeH p0 p2/\
 CallsU Tryz.prog 33 [.agg #[.bool g0,.slice g1 g2 g3,.slice g4 g5 g6,.bool g7,.slice g8 g9 i0,.slice i1 i2 i3],.agg #[.bool i4,.slice i5 i6 i7,.slice i8 i9 j0,.bool j1,.slice j2 j3 j4,.slice j5 j6 j7]] p2 fun p3 p4=>
 ∃ j8,p3 = .bool j8/\
 Br (j8)
 (∃ j9:Addr,j=some j9/\0<=(6:Int)/\(6:Int)<(k:Int)/\
 ∃ k0 k1 k2 k3 k4 k5 k6 k7 k8 k9 l0 l1 l2 l3,LdN p4 (Addr.add (Addr.add j9 (6*7)) 1) [.bool k0,.slice k1 k2 k3,.slice k4 k5 k6,.bool k7,.slice k8 k9 l0,.slice l1 l2 l3]/\
 CallsU Tryz.prog 34 [.int .i64 2,.int .i64 4] p4 fun p5 p6=>
 ∃ l4 l5 l6 l7 l8 l9 m0 m1 m2 m3 m4 m5 m6 m7,p5 = .agg #[.bool l4,.slice l5 l6 l7,.slice l8 l9 m0,.bool m1,.slice m2 m3 m4,.slice m5 m6 m7]/\
 LeH p4 p6/\
 CallsU Tryz.prog 33 [.agg #[.bool k0,.slice k1 k2 k3,.slice k4 k5 k6,.bool k7,.slice k8 k9 l0,.slice l1 l2 l3],.agg #[.bool l4,.slice l5 l6 l7,.slice l8 l9 m0,.bool m1,.slice m2 m3 m4,.slice m5 m6 m7]] p6 fun p7 p8=>
 ∃ m8,p7 = .bool m8/\
 Br (m8)
 (((0:Nat):Int)<=(13:Int)/\13<=(((⟨#[35,32,97,32,110,101,99,107,108,105,110,101,10,65,32,61,32,97,116,32,48,32,44,32,48,10,66,32,61,32,102,114,111,109,32,65,32,98,121,32,119,32,47,32,50,32,44,32,48,10,67,32,61,32,102,114,111,109,32,65,32,98,121,32,48,32,44,32,109,97,120,40,119,44,32,52,41,10,68,32,61,32,111,110,32,66,32,67,32,97,116,32,48,46,53,10,69,32,61,32,102,111,111,116,32,65,32,66,32,67,10,70,32,61,32,109,105,114,114,111,114,32,65,32,66,32,67,10,71,32,61,32,109,101,101,116,32,65,32,68,32,66,32,67,10]⟩:ByteArray).size:Nat):Int)/\
 R (.bool (t.toList==(ByteArray.extract (⟨#[35,32,97,32,110,101,99,107,108,105,110,101,10,65,32,61,32,97,116,32,48,32,44,32,48,10,66,32,61,32,102,114,111,109,32,65,32,98,121,32,119,32,47,32,50,32,44,32,48,10,67,32,61,32,102,114,111,109,32,65,32,98,121,32,48,32,44,32,109,97,120,40,119,44,32,52,41,10,68,32,61,32,111,110,32,66,32,67,32,97,116,32,48,46,53,10,69,32,61,32,102,111,111,116,32,65,32,66,32,67,10,70,32,61,32,109,105,114,114,111,114,32,65,32,66,32,67,10,71,32,61,32,109,101,101,116,32,65,32,68,32,66,32,67,10]⟩:ByteArray) 13 ((⟨#[35,32,97,32,110,101,99,107,108,105,110,101,10,65,32,61,32,97,116,32,48,32,44,32,48,10,66,32,61,32,102,114,111,109,32,65,32,98,121,32,119,32,47,32,50,32,44,32,48,10,67,32,61,32,102,114,111,109,32,65,32,98,121,32,48,32,44,32,109,97,120,40,119,44,32,52,41,10,68,32,61,32,111,110,32,66,32,67,32,97,116,32,48,46,53,10,69,32,61,32,102,111,111,116,32,65,32,66,32,67,10,70,32,61,32,109,105,114,114,111,114,32,65,32,66,32,67,10,71,32,61,32,109,101,101,116,32,65,32,68,32,66,32,67,10]⟩:ByteArray).size)).toList)) p8)
 (R (.bool false) p8))
 (LeH p4 p4/\
 R (.bool false) p4))
 (LeH p0 p0/\
 LeH p0 p0/\
 R (.bool false) p0))
 (LeH o8 o8/\
 LeH o8 o8/\
 R (.bool false) o8))
 (LeH o4 o4/\
 LeH o4 o4/\
 LeH o4 o4/\
 R (.bool false) o4)))/\
 Br ((d:Int) != 0)
 (v true o0)
 (Br ((m:Int) != 0)
 (v true o0)
 (Br ((e:Int) != 0)
 (v true o0)
 (Br ((n:Int) != 0)
 (v true o0)
 (Br ((r:Int) != 6)
 (v true o0)
 (Br ((s:Int) != 3)
 (v true o0)
 (Br ((u:Int) != 0)
 (v true o0)
 (Br ((b:Int) != 7)
 (v true o0)
 (Br ((k:Int) != 7)
 (v true o0)
 (v ((t.size:Int) != 132) o0)))))))))
theorem law19_alive_ok  {h:Heap} {R:Value->Heap->Prop} (hv:law19_alive_vc  h R):CallsU Tryz.prog 14 [] h R:=
 fn_ok Tryz.func14 (fun _=>false) (.two .nil (.two .nil (.two .nil (.two .nil (.two .nil (.two (.cut ⟨[(75,Sh.bool)],[]⟩ .nil .nil) (.two .nil (.two (.ord [0,1,2,3,4,5,6,7,8,9,10,11,12,13,14,15,16,17,18,19,20,21,22,23,24,25,26,27,28,29,30,31,32,33,34,35,36,37,38,39,40,41,42,43,44]) .nil)))))))) hv
def law19_ratio_vc (a:Int) (b:Int) (h:Heap) (R:Value->Heap->Prop):Prop:=
 CallsU Tryz.prog 36 [.int .i64 a,.int .i64 b] h fun l m=>
 ∃ c d e f g i j k,l = .tuple #[.agg #[.bool c,.slice d e f,.slice g i j],.bool k]/\
 R (.agg #[.bool c,.slice d e f,.slice g i j]) m
theorem law19_ratio_ok {a:Int} {b:Int} {h:Heap} {R:Value->Heap->Prop} (hv:law19_ratio_vc a b h R):CallsU Tryz.prog 15 [.int .i64 a,.int .i64 b] h R:=
 fn_ok Tryz.func15 (fun _=>false) .nil hv
def law19_env_vc  (h:Heap) (R:Value->Heap->Prop):Prop:=
 CallsU Tryz.prog 65 [.int .i64 8] h fun k l=>
 ∃ a b c d e f g,k = .agg #[.bool a,.slice b c d,.slice e f g]/\
 ∀ (i:Nat) (j:Heap),l i=none->j=Heap.put l i ⟨[.string (⟨#[119]⟩:ByteArray),.bool a,.slice b c d,.slice e f g],45,(0,0)⟩->
 R (.slice (some ⟨i,0,none⟩) 1 1) j
theorem law19_env_ok  {h:Heap} {R:Value->Heap->Prop} (hv:law19_env_vc  h R):CallsU Tryz.prog 32 [] h R:=
 fn_ok Tryz.func32 (fun _=>false) .nil hv
end Go.Proofs.YtfglcgbgaeegaaaGreatDoor

namespace Go.Proofs.YtfglcgbgaeegaaaGreatDoor
open Go Go.Vcg
attribute [local irreducible] Br
theorem lv_one1 (y:Nat):Go.Vcg.one (lv y)=true:=rfl
theorem Sl.u32 {h:Heap} {A:Option Addr} {n c:Nat} {xs:List Nat} (u:Sl lv h A n c xs) (hlt : ∀ x∈xs,x<4294967296):U32 h A n c xs:=⟨u.len,u.cap,hlt,u.mem⟩
theorem r1of_c (n:Nat) (hn:n<18446744073709551616) (h:Heap) :
  CallsU Tryz.prog 116 [.int .u64 n] h fun r h' => ∃ A m c,r = .slice A m c/\m<=2/\NmN h' A m c n/\Le h h' := by
 apply ref01_Of_ok
 have hB:B32=4294967296:=rfl
 refine ⟨fun m x oA on oc h' => ∃ gs:List Nat,x=(m:Int)/\val gs+B32^gs.length*m=n/\(∀ y∈gs,y<4294967296)/\(m=0->Nrm gs)/\gs.length<=2/\OwnE lv 166 h h' oA on oc gs/\Le h h', ⟨n,[],rfl,by simp [val],by simp,fun _=>nrm_nil,by simp,OwnE.nil h,Le.refl h⟩, ?_⟩
 rintro m _ oA on oc h1 ⟨gs,rfl,hval,hlt,hnz,hlen,own,hle⟩
 have hon:=own.1
 refine Br.mk (fun q=> ?_) (fun q=> ?_)
 ·have q' : 0<m:=by simp at q;omega
  have hl1:gs.length<=1:=by
   rcases Nat.lt_or_ge gs.length 2 with a | a
   ·omega
   ·exfalso
    have e:gs.length=2:=by omega
    rw [e,hB] at hval
    omega
  have hm:m<=n:=by
   have:1*m<=B32^gs.length*m:=Nat.mul_le_mul_right _ (Nat.pow_pos (by decide))
   omega
  rintro _ rfl g0 _ hg0 rfl
  have e1:IntKind.u32.wrap (Int.tmod (m:Int) 4294967296)=((m%4294967296:Nat):Int):=by
   rw [Int.tmod_eq_emod_of_nonneg (by omega),wrap_u32_mod];omega
  rw [e1]
  refine own.app (x:=m%4294967296) (z:=0) (bs:=4) (K:=fun A c hh=> ∀ t:Int,t=IntKind.u64.wrap (Int.tdiv (m:Int) 4294967296)-> ∃ m', m' < m/\ ∃ gs:List Nat,t=(m' : Int)/\val gs+B32^gs.length*m' = n/\(∀ y∈gs,y<4294967296)/\(m' = 0->Nrm gs)/\gs.length<=2/\OwnE lv 166 h hh A (on+1) c gs/\Le h hh) hle lv_one1 rfl rfl hg0 (by omega) ?_
  intro A' c' h' o l _
  rintro _ rfl
  have e2:IntKind.u64.wrap (Int.tdiv (m:Int) 4294967296)=((m/4294967296:Nat):Int):=by
   rw [Int.tdiv_eq_ediv_of_nonneg (by omega),wrap_u64_mod];omega
  rw [e2]
  refine ⟨_,Nat.div_lt_self q' (by decide),gs++[m%4294967296],rfl, ?_, ?_, ?_,by simp;omega,o,l⟩
  ·rw [val_append,List.length_append,List.length_singleton,Nat.pow_succ,<- hval]
   simp only [val,Nat.mul_zero,Nat.add_zero]
   have h2:=Nat.mod_add_div m 4294967296
   rw [hB] at *
   generalize 4294967296^gs.length=M at *
   rw [Nat.mul_assoc,Nat.add_assoc,<- Nat.mul_add,h2]
  ·intro y hy
   rcases List.mem_append.1 hy with a | a
   ·exact hlt y a
   ·rw [List.mem_singleton.1 a];exact Nat.mod_lt _ (by decide)
  ·intro e
   simp only [Nrm,List.getLast?_append,List.getLast?_singleton,Option.some_or,ne_eq,Option.some.injEq]
   omega
 ·have q' : m=0:=by simp at q;omega
  subst q'
  rw [Nat.mul_zero,Nat.add_zero] at hval
  exact ⟨_,_,_,rfl,by omega,⟨gs,own.sl.u32 hlt,hval,hnz rfl⟩,hle⟩
theorem r2of_c (z:Int) (h1 : -9223372036854775808<=z) (h2:z<9223372036854775808) (h:Heap) :
  CallsU Tryz.prog 69 [.int .i64 z] h fun r h' => ∃ s' A' k c', r = .agg #[.bool s', .slice A' k c']/\NmI h' s' A' k c' z/\k<=2/\Le h h' := by
 apply ref02_Of_ok
 refine Br.mk (fun q=> ?_) (fun q=> ?_)
 ·have hz:z<0:=by simpa using q
  rintro _ rfl _ rfl _ rfl
  have e:IntKind.u64.wrap (IntKind.u64.wrap (IntKind.i64.wrap (0-IntKind.i64.wrap (z+1)))+1)=((z.natAbs:Nat):Int):=by
   rw [wrap_i64 (x:=z+1) (by omega) (by omega),wrap_i64 (by omega) (by omega),wrap_u64 (x:=0-(z+1)) (by omega) (by omega),wrap_u64 (by omega) (by omega)];omega
  rw [e]
  refine (r1of_c z.natAbs (by omega) h).mono ?_
  rintro _ h1 ⟨A,m,c,rfl,hm,hN,hl⟩
  exact ⟨_,_,_,rfl,_,_,_,_,rfl,⟨hN,by simp [hz]⟩,hm,hl⟩
 ·have hz:0<=z:=by simpa using q
  rw [wu (n:=z.natAbs) (by omega) (by omega)]
  refine (r1of_c z.natAbs (by omega) h).mono ?_
  rintro _ h1 ⟨A,m,c,rfl,hm,hN,hl⟩
  exact ⟨_,_,_,rfl,_,_,_,_,rfl,⟨hN,by simp;omega⟩,hm,hl⟩
theorem whole_c (z:Int) (h1 : -9223372036854775808<=z) (h2:z<9223372036854775808) (h:Heap) :
  CallsU Tryz.prog 65 [.int .i64 z] h fun r h' => ∃ s' A' n' c' B' m' d', r = .agg #[.bool s', .slice A' n' c', .slice B' m' d']/\NmQ h' s' A' n' c' B' m' d' (z:Rat)/\n' <= 2/\m' <= 2/\Le h h' := by
 apply ref03_Whole_ok
 refine (r2of_c z h1 h2 h).mono ?_
 rintro _ h1 ⟨s,A,k,c,rfl,hI,hk,hl⟩
 refine ⟨_,_,_,_,rfl,(r1of_c 1 (by omega) h1).mono ?_⟩
 rintro _ h2 ⟨B,m,d,rfl,hm,hN,hl2⟩
 exact ⟨_,_,_,rfl,_,_,_,_,_,_,_,rfl,⟨hI.mono hl2,hN⟩,hk,hm,hl.trans hl2⟩
theorem limb_c {h:Heap} {A:Option Addr} {n c:Nat} {xs:List Nat} (u:U32 h A n c xs) (i:Nat) :
  CallsU Tryz.prog 192 [.slice A n c,.int .i64 i] h fun r h' => r = .int .u64 (xs.getD i 0)/\h=h' := by
 apply ref01_limb_ok
 refine Br.mk (fun q=>by simp at q;omega) (fun _=>Br.mk (fun q=> ?_) (fun q=> ?_))
 ·have q' : n<=i:=by have:=of_decide_eq_true q;omega
  rw [getD_ge (by rw [u.len];exact q')]
  exact ⟨rfl,rfl⟩
 ·have q' : i<n:=by have:=of_decide_eq_false q;omega
  obtain ⟨ad,hA,hl⟩:=u.get q'
  have hlt:=u.getD_lt i
  rw [Int.toNat_natCast]
  refine ⟨ad,hA,by omega,by omega,_,hl, ?_⟩
  rw [wu (n:=xs.getD i 0) rfl (by omega)]
  exact ⟨rfl,rfl⟩
theorem app_none {h:Heap} {A:Option Addr} {c:Nat} {xs:List Nat} {m:Nat} (u:U32 h A m c xs) (hm:m<=35184372088832) {K:Option Addr->Nat->Nat->Heap->Prop}
  (k0:m=0->K none 0 0 h) (k1 : ∀ (g cap:Nat),h g=none->m<=cap->0<m->K (some ⟨g,0,none⟩) m cap (h.put g ⟨(xs++List.replicate (cap-m) 0).map lv,166,(0,0)⟩)) :
  ∃ ys:List Value,RdS h A (m*1) ys/\(∀ x∈ys,Go.Vcg.one x=true)/\
   (0+m<=0->Br (decide (m*1=0)) (K none (0+m) 0 h) (∃ (ad:Addr) (b:Blk),none=some ad/\ad.spot=none/\h ad.block=some b/\b.fz=(0,0)/\ad.off+0*1+m*1<=b.cells.length/\
    ∀ h' : Heap,h' = Heap.put h ad.block { b with cells:=setSeg b.cells (ad.off+0*1) ys }->K none (0+m) 0 h'))/\
   (0<0+m-> ∃ olds:List Value,RdS h none (0*1) olds/\(0+m)*4<=140737488355328/\
    ∀ (g cap:Nat) (h' : Heap),h g=none->0+m<=cap->h' = Heap.put h g ⟨olds++ys++repV [Value.int .u32 0] (cap-(0+m)),166,(0,0)⟩->K (some ⟨g,0,none⟩) (0+m) cap h'):=by
 rw [Nat.zero_add]
 refine ⟨xs.map lv,u.rds,lv_one _,fun h0=>Br.mk (fun _=> ?_) (fun q=> ?_),fun hp=> ?_⟩
 ·have:m=0:=by omega
  subst this
  exact k0 rfl
 ·exfalso
  have:m=0:=by omega
  subst this
  simp at q
 ·refine ⟨[],⟨rfl,fun q=>absurd q (Nat.lt_irrefl 0)⟩,by omega, ?_⟩
  rintro g cap h' hg hc rfl
  rw [repV_lv,List.nil_append,<- List.map_append]
  exact k1 g cap hg hc hp
theorem r1norm_c {h:Heap} {A:Option Addr} {n c v:Nat} (u:IsN h A n c v) (hn:n<=35184372088832) :
  CallsU Tryz.prog 185 [.slice A n c] h fun r h' => ∃ A' m c', r = .slice A' m c' /\ m<=n/\NmN h' A' m c' v/\Le h h' := by
 apply ref01_Norm_ok
 obtain ⟨xs,u,rfl⟩:=u
 have hc:=u.cap
 refine ⟨fun m k h' => h=h' /\ k=(m:Int)/\m<=n/\trimL xs=trimL (xs.take m),⟨n,rfl,rfl,Nat.le_refl _,by rw [List.take_of_length_le (Nat.le_of_eq u.len)]⟩, ?_⟩
 rintro m k h' ⟨rfl,rfl,hm,ht⟩
 have fin:Nrm (xs.take m)-> ∃ ys:List Value,RdS h A (m*1) ys/\(∀ x∈ys,Go.Vcg.one x=true)/\
   (0+m<=0->Br (decide (m*1=0)) ((fun r h' => ∃ A' m c', r = .slice A' m c' /\ m<=n/\NmN h' A' m c' (val xs)/\Le h h') (Value.slice none (0+m) 0) h) (∃ (ad:Addr) (b:Blk),none=some ad/\ad.spot=none/\h ad.block=some b/\b.fz=(0,0)/\ad.off+0*1+m*1<=b.cells.length/\
    ∀ h_3:Heap,h_3=Heap.put h ad.block { b with cells:=setSeg b.cells (ad.off+0*1) ys }->(fun r h' => ∃ A' m c', r = .slice A' m c' /\ m<=n/\NmN h' A' m c' (val xs)/\Le h h') (Value.slice none (0+m) 0) h_3))/\
   (0<0+m-> ∃ olds:List Value,RdS h none (0*1) olds/\(0+m)*4<=140737488355328/\
    ∀ (g cap:Nat) (h_4:Heap),h g=none->0+m<=cap->h_4=Heap.put h g ⟨olds++ys++repV [Value.int .u32 0] (cap-(0+m)),166,(0,0)⟩->(fun r h' => ∃ A' m c', r = .slice A' m c' /\ m<=n/\NmN h' A' m c' (val xs)/\Le h h') (Value.slice (some ⟨g,0,none⟩) (0+m) cap) h_4):=by
  intro hN
  have hval:val (xs.take m)=val xs:=by rw [<- trimL_val xs,ht,trimL_of_nrm hN]
  refine app_none (K:=fun A m c h' => (fun r h' => ∃ A' m c', r = .slice A' m c' /\ m<=n/\NmN h' A' m c' (val xs)/\Le h h') (Value.slice A m c) h') (u.take hm) (by omega) (fun e=> ?_) (fun g cap hg hcap hp=> ?_)
  ·subst e
   exact ⟨_,_,_,rfl,Nat.zero_le _,⟨[],U32.nil _ _ _,by rw [<- hval];rfl,nrm_nil⟩,Le.refl _⟩
  ·refine ⟨_,_,_,rfl,hm,⟨xs.take m, ?_,hval,hN⟩,Le.new hg _⟩
   have:=U32.of_blk (m:=m) (k:=cap) (h:=h.put g ⟨(xs.take m++List.replicate (cap-m) 0).map lv,166,(0,0)⟩) (Heap.put_same _ _ _) (fun x hx=> ?_) (by simp [u.len];omega) hcap
   ·rwa [List.take_left' (by simp [u.len];omega)] at this
   ·rcases List.mem_append.1 hx with a | a
    ·exact u.lt x (List.mem_of_mem_take a)
    ·rw [(List.mem_replicate.1 a).2];decide
 refine Br.mk (fun hp=> ?_) (fun hp=> ?_)
 ·have hp' : 0<m:=by simp at hp;omega
  obtain ⟨m,rfl⟩ : ∃ q,m=q+1:=⟨m-1,by omega⟩
  rintro _ rfl
  rw [wi (n:=m) (by omega) (by omega)]
  obtain ⟨ad,hA,hl⟩:=u.get (i:=m) (by omega)
  rw [Int.toNat_natCast,Int.toNat_natCast]
  refine ⟨ad,hA,by omega,by omega,_,hl,Br.mk (fun h0=> ?_) (fun h0=> ?_)⟩
  ·rintro _ rfl
   refine ⟨m,by omega,rfl,rfl,by omega, ?_⟩
   rw [ht,take_last (by rw [u.len];omega)]
   have:xs.getD m 0=0:=by have:=beq_iff_eq.1 h0;omega
   rw [this,trimL_snoc_zero]
  ·have hnz:xs.getD m 0≠0:=by
    have:=beq_eq_false_iff_ne.1 h0
    omega
   refine ⟨by omega,by omega,fin ?_⟩
   rw [take_last (by rw [u.len];omega)]
   simpa [Nrm] using hnz
 ·have hp' : m=0:=by simp at hp;omega
  subst hp'
  rw [Int.toNat_natCast]
  exact ⟨by omega,by omega,fin (by simp [Nrm])⟩
theorem max_ite (n m:Nat):(if decide (((m:Nat):Int)>((n:Nat):Int)) then ((m:Nat):Int) else ((n:Nat):Int))=((max n m:Nat):Int):=by
 simp only [decide_eq_true_eq]
 split<;>omega
theorem val_take_le (xs:List Nat) {k:Nat} (h:xs.length<=k):val (xs.take k)=val xs:=by rw [List.take_of_length_le h]
theorem val_take_lt' {xs:List Nat} (h : ∀ x∈xs,x<B32) (k:Nat):val (xs.take k)<B32^k:=by
 rcases Nat.lt_or_ge k xs.length with q | q
 ·exact val_take_lt h (by omega)
 ·rw [val_take_le _ q]
  exact Nat.lt_of_lt_of_le (val_lt h) (Nat.pow_le_pow_right (by decide) q)
theorem cmp_step {X Y H a b M:Nat} (hX:X<M) (hab:a<b):X+M*a+H<Y+M*b+H:=by
 have:M*(a+1)<=M*b:=Nat.mul_le_mul_left _ hab
 rw [Nat.mul_add] at this
 omega
theorem r1cmp_c {h:Heap} {A B:Option Addr} {n c m d x y:Nat} (ux:IsN h A n c x) (uy:IsN h B m d y) (hn:n<=1099511627776) (hm:m<=1099511627776) :
  CallsU Tryz.prog 228 [.slice A n c,.slice B m d] h fun v h' => v = .int .i64 (cmpI x y)/\h=h' := by
 apply ref01_Cmp_ok
 obtain ⟨xs,u,rfl⟩:=ux
 obtain ⟨ys,w,rfl⟩:=uy
 unfold ref01_Cmp_vc
 rw [max_ite]
 rintro _ rfl
 rw [wrap_i64 (by omega) (by omega)]
 refine ⟨fun q i h' => ∃ H:Nat,i=(q:Int)-1/\q<=max n m/\h=h' /\ val xs=val (xs.take q)+H/\val ys=val (ys.take q)+H,⟨max n m,0,rfl,Nat.le_refl _,rfl, ?_, ?_⟩, ?_⟩
 ·rw [val_take_le _ (by rw [u.len];omega)];rfl
 ·rw [val_take_le _ (by rw [w.len];omega)];rfl
 rintro q _ _ ⟨H,rfl,hq,rfl,hx,hy⟩
 refine Br.mk (fun b=> ?_) (fun b=> ?_)
 ·have b' : 0<q:=by have:=of_decide_eq_true b;omega
  obtain ⟨q,rfl⟩ : ∃ t,q=t+1:=⟨q-1,by omega⟩
  rw [show ((q+1:Nat):Int)-1=(q:Int) from by omega]
  have lx:=val_take_lt' (xs:=xs) u.lt q
  have ly:=val_take_lt' (xs:=ys) w.lt q
  rw [val_take_succ'] at hx hy
  refine (limb_c u q).mono ?_
  rintro _ _ ⟨rfl,rfl⟩
  refine ⟨_,rfl,(limb_c w q).mono ?_⟩
  rintro _ _ ⟨rfl,rfl⟩
  refine ⟨_,rfl,Br.mk (fun b1=> ?_) (fun b1=> ?_)⟩
  ·have b2:xs.getD q 0<ys.getD q 0:=by have:=of_decide_eq_true b1;omega
   rw [cmpI_lt]
   ·exact ⟨rfl,rfl⟩
   ·rw [hx,hy];exact cmp_step lx b2
  ·have b2:ys.getD q 0<=xs.getD q 0:=by have:=of_decide_eq_false b1;omega
   refine (limb_c u q).mono ?_
   rintro _ _ ⟨rfl,rfl⟩
   refine ⟨_,rfl,(limb_c w q).mono ?_⟩
   rintro _ _ ⟨rfl,rfl⟩
   refine ⟨_,rfl,Br.mk (fun b3=> ?_) (fun b3=> ?_)⟩
   ·have b4:ys.getD q 0<xs.getD q 0:=by have:=of_decide_eq_true b3;omega
    rw [cmpI_gt]
    ·exact ⟨rfl,rfl⟩
    ·rw [hx,hy];exact cmp_step ly b4
   ·have b4:xs.getD q 0=ys.getD q 0:=by have:=of_decide_eq_false b3;omega
    rintro _ rfl
    rw [wrap_i64 (by omega) (by omega)]
    refine ⟨q,by omega,H+B32^q*xs.getD q 0,rfl,by omega,rfl,by omega,by rw [b4];omega⟩
 ·have b' : q=0:=by have:=of_decide_eq_false b;omega
  subst b'
  have:val xs=val ys:=by simp [val] at hx hy;omega
  rw [this,cmpI_eq]
  exact ⟨rfl,rfl⟩
theorem own_is {h h' : Heap} {A:Option Addr} {n c:Nat} {gs:List Nat} (o:OwnE lv 166 h h' A n c gs) (hlt : ∀ x∈gs,x<4294967296):IsN h' A n c (val gs):=⟨gs,o.sl.u32 hlt,rfl⟩
theorem mem_snoc32 {gs:List Nat} {y:Nat} (h : ∀ x∈gs,x<4294967296) (hy:y<4294967296) : ∀ x∈gs++[y],x<4294967296:=fun x hx=>by
 rcases List.mem_append.1 hx with a | a
 ·exact h x a
 ·rw [List.mem_singleton.1 a];exact hy
theorem val_snoc32 (gs:List Nat) (y:Nat):val (gs++[y])=val gs+B32^gs.length*y:=by
 rw [val_append]
 simp [val]
theorem w32t {a:Int} {n:Nat} (h:a=n):IntKind.u32.wrap (Int.tmod a 4294967296)=((n%B32:Nat):Int):=by
 subst h
 rw [Int.tmod_eq_emod_of_nonneg (by omega),wrap_u32_mod]
 unfold B32
 omega
theorem wdiv {a:Int} {n:Nat} (h:a=n) (hn:n<18446744073709551616):IntKind.u64.wrap (Int.tdiv a 4294967296)=((n/B32:Nat):Int):=by
 subst h
 rw [Int.tdiv_eq_ediv_of_nonneg (by omega),wrap_u64_mod]
 unfold B32
 omega
theorem modB (t:Nat):t%B32<4294967296:=Nat.mod_lt _ (by decide)
def AddI (h:Heap) (xs ys:List Nat) (M:Nat) (m:Nat) (oA:Option Addr) (on oc:Nat) (carry i:Int) (h' : Heap):Prop:=
 ∃ (k cN:Nat) (gs:List Nat),m=(M-k)*2+cN/\i=(k:Int)/\carry=(cN:Int)/\cN<=1/\(k<=M\/(k=M+1/\cN=0))/\gs.length=k/\(∀ x∈gs,x<4294967296)/\
  val gs+B32^k*cN=val (xs.take k)+val (ys.take k)/\OwnE lv 166 h h' oA on oc gs/\Le h h'
theorem radd_step {G X Y c p q x y t:Nat} (h:G+p*c=X+Y) (ht:x+y+c=t) (hq:q=p*B32):(G+p*(t%B32))+q*(t/B32)=(X+p*x)+(Y+p*y):=by
 have:=Nat.mod_add_div t B32
 subst hq
 grind
theorem r1add_c {h:Heap} {A B:Option Addr} {n c m d x y:Nat} (ux:IsN h A n c x) (uy:IsN h B m d y) (hn:n<=1099511627776) (hm:m<=1099511627776) :
  CallsU Tryz.prog 190 [.slice A n c,.slice B m d] h fun r h' => ∃ A' k c', r = .slice A' k c' /\ NmN h' A' k c' (x+y)/\Le h h' := by
 apply ref01_Add_ok
 obtain ⟨xs,u,rfl⟩:=ux
 obtain ⟨ys,w,rfl⟩:=uy
 have hB:B32=4294967296:=rfl
 unfold ref01_Add_vc
 refine ⟨AddI h xs ys (max n m),⟨_,0,0,[],rfl,rfl,rfl,by omega,Or.inl (by omega),rfl,by simp,by simp [val],OwnE.nil h,Le.refl h⟩, ?_⟩
 rintro _ oA on oc _ _ h1 ⟨k,cN,gs,rfl,rfl,rfl,hc,hk,hgl,hlt,hv,own,hle⟩
 have hon:=own.1
 refine ⟨fun h2=>h1=h2/\(k<max n m\/0<cN), ?_, ?_⟩
 ·rintro _ ⟨rfl,hgo⟩
  have lx:=u.getD_lt k
  have ly:=w.getD_lt k
  refine (limb_c (u.mono hle) k).mono ?_
  rintro _ _ ⟨rfl,rfl⟩
  refine ⟨_,rfl,(limb_c (w.mono hle) k).mono ?_⟩
  rintro _ _ ⟨rfl,rfl⟩
  refine ⟨_,rfl, ?_⟩
  rintro _ rfl _ rfl _ rfl g0 _ hg0 rfl
  rw [wu (a:=((xs.getD k 0:Nat):Int)+((ys.getD k 0:Nat):Int)) (n:=xs.getD k 0+ys.getD k 0) (by omega) (by omega),wu (a:=((xs.getD k 0+ys.getD k 0:Nat):Int)+(cN:Int)) (n:=xs.getD k 0+ys.getD k 0+cN) (by omega) (by omega),w32t rfl]
  generalize ht:xs.getD k 0+ys.getD k 0+cN=t
  refine own.app (x:=t%B32) (z:=0) (bs:=4) (K:=fun A c hh=> ∀ t38:Int,t38=IntKind.u64.wrap (Int.tdiv (t:Int) 4294967296)-> ∀ t21:Int,t21=IntKind.i64.wrap ((k:Int)+1)-> ∃ m', m' < (max n m-k)*2+cN/\AddI h xs ys (max n m) m' A (on+1) c t38 t21 hh) hle lv_one1 rfl rfl hg0 (by omega) ?_
  intro A' c' h' o l _
  rintro _ rfl _ rfl
  rw [wdiv rfl (by omega),wi (n:=k+1) (by omega) (by omega)]
  have hk1:k<=max n m:=by omega
  have hend:k=max n m->t<=1:=fun e=>by
   have e1:=getD_ge (xs:=xs) (k:=k) (by rw [u.len];omega)
   have e2:=getD_ge (xs:=ys) (k:=k) (by rw [w.len];omega)
   omega
  refine ⟨_, ?_,k+1,t/B32,gs++[t%B32],rfl,rfl,rfl, ?_, ?_,by simp [hgl],mem_snoc32 hlt (modB t), ?_,o,l⟩
  ·rw [hB];omega
  ·rw [hB];omega
  ·rw [hB];omega
  ·rw [val_snoc32,hgl,val_take_succ', val_take_succ']
   exact radd_step hv ht (Nat.pow_succ _ _)
 ·rw [max_ite]
  refine Br.mk (fun b=>⟨rfl,Or.inl (by have:=of_decide_eq_true b;omega)⟩) (fun b=>Br.mk (fun b2=>⟨rfl,Or.inr (by have:=of_decide_eq_true b2;omega)⟩) (fun b2=> ?_))
  have b' : max n m<=k:=by have:=of_decide_eq_false b;omega
  have c0:cN=0:=by have:=of_decide_eq_false b2;omega
  subst c0
  rw [val_take_le xs (by rw [u.len];omega),val_take_le ys (by rw [w.len];omega),Nat.mul_zero,Nat.add_zero] at hv
  refine (r1norm_c (own_is own hlt) (by omega)).mono ?_
  rintro _ h2 ⟨A', k', c', rfl,_,hN,hl⟩
  rw [hv] at hN
  exact ⟨_,_,_,rfl,_,_,_,rfl,hN,hle.trans hl⟩
def SubI (h:Heap) (xs ys:List Nat) (M:Nat) (m:Nat) (oA:Option Addr) (on oc:Nat) (borrow i:Int) (h' : Heap):Prop:=
 ∃ (k bN:Nat) (gs:List Nat),m=M-k/\i=(k:Int)/\borrow=(bN:Int)/\bN<=1/\k<=M/\gs.length=k/\(∀ x∈gs,x<4294967296)/\
  val gs+val (ys.take k)=val (xs.take k)+B32^k*bN/\OwnE lv 166 h h' oA on oc gs/\Le h h'
theorem rsub_step {G X Y b p q x y t:Nat} (h:G+Y=X+p*b) (ht:B32+x=t+y+b) (hb:t/B32<=1) (hq:q=p*B32):(G+p*(t%B32))+(Y+p*y)=(X+p*x)+q*(1-t/B32):=by
 have h1:=Nat.mod_add_div t B32
 subst hq
 rcases Nat.le_one_iff_eq_zero_or_eq_one.1 hb with e0 | e0
 ·rw [e0] at h1 ⊢
  simp only [Nat.sub_zero,Nat.mul_one,Nat.mul_zero,Nat.add_zero] at *
  generalize t%B32=r at *
  subst h1
  have:p*B32+p*x=p*r+p*y+p*b:=by rw [<- Nat.mul_add,ht];rw [Nat.mul_add,Nat.mul_add]
  omega
 ·rw [e0] at h1 ⊢
  simp only [Nat.sub_self,Nat.mul_one,Nat.mul_zero,Nat.add_zero] at *
  generalize t%B32=r at *
  have hr:x=r+y+b:=by omega
  subst hr
  rw [Nat.mul_add,Nat.mul_add]
  omega
theorem r1sub_c {h:Heap} {A B:Option Addr} {n c m d x y:Nat} (ux:IsN h A n c x) (uy:IsN h B m d y) (hn:n<=1099511627776) (hm:m<=1099511627776) :
  CallsU Tryz.prog 191 [.slice A n c,.slice B m d] h fun r h' => (x<y/\r = .tuple #[.slice none 0 0,.bool false]/\h=h')\/(y<=x/\ ∃ A' k c', r = .tuple #[.slice A' k c', .bool true]/\NmN h' A' k c' (x-y)/\Le h h'):=by
 apply ref01_Sub_ok
 refine (r1cmp_c ux uy hn hm).mono ?_
 rintro _ _ ⟨rfl,rfl⟩
 refine ⟨_,rfl,Br.mk (fun b=> ?_) (fun b=> ?_)⟩
 ·have b' := of_decide_eq_true b
  refine Or.inl ⟨?_,rfl,rfl⟩
  unfold cmpI at b'
  split at b'
  ·omega
  ·split at b' <;> omega
 ·have b' := of_decide_eq_false b
  have hyx:y<=x:=by
   unfold cmpI at b'
   split at b'
   ·omega
   ·omega
  obtain ⟨xs,u,rfl⟩:=ux
  obtain ⟨ys,w,rfl⟩:=uy
  have hB:B32=4294967296:=rfl
  refine ⟨SubI h xs ys (max n m),⟨_,0,0,[],rfl,rfl,rfl,by omega,by omega,rfl,by simp,by simp [val],OwnE.nil h,Le.refl h⟩, ?_⟩
  rintro _ oA on oc _ _ h1 ⟨k,bN,gs,rfl,rfl,rfl,hb,hk,hgl,hlt,hv,own,hle⟩
  have hon:=own.1
  rw [max_ite]
  refine Br.mk (fun q=> ?_) (fun q=> ?_)
  ·have q' : k<max n m:=by have:=of_decide_eq_true q;omega
   have lx:=u.getD_lt k
   have ly:=w.getD_lt k
   refine (limb_c (u.mono hle) k).mono ?_
   rintro _ _ ⟨rfl,rfl⟩
   refine ⟨_,rfl, ?_⟩
   rintro _ rfl
   rw [wu (n:=4294967296+xs.getD k 0) (by omega) (by omega)]
   refine (limb_c (w.mono hle) k).mono ?_
   rintro _ _ ⟨rfl,rfl⟩
   refine ⟨_,rfl, ?_⟩
   rintro _ rfl _ rfl _ rfl g0 _ hg0 rfl
   rw [wu (a:=((4294967296+xs.getD k 0:Nat):Int)-((ys.getD k 0:Nat):Int)) (n:=4294967296+xs.getD k 0-ys.getD k 0) (by omega) (by omega),wu (a:=((4294967296+xs.getD k 0-ys.getD k 0:Nat):Int)-(bN:Int)) (n:=4294967296+xs.getD k 0-ys.getD k 0-bN) (by omega) (by omega),w32t rfl]
   have ht:B32+xs.getD k 0=(4294967296+xs.getD k 0-ys.getD k 0-bN)+ys.getD k 0+bN:=by rw [hB];omega
   have htl:4294967296+xs.getD k 0-ys.getD k 0-bN<2*4294967296:=by omega
   generalize 4294967296+xs.getD k 0-ys.getD k 0-bN=t at ht htl ⊢
   refine own.app (x:=t%B32) (z:=0) (bs:=4) (K:=fun A c hh=> ∀ t40:Int,t40=IntKind.u64.wrap (Int.tdiv (t:Int) 4294967296)-> ∀ t41:Int,t41=IntKind.u64.wrap (1-t40)-> ∀ t22:Int,t22=IntKind.i64.wrap ((k:Int)+1)-> ∃ m', m' < max n m-k/\SubI h xs ys (max n m) m' A (on+1) c t41 t22 hh) hle lv_one1 rfl rfl hg0 (by omega) ?_
   intro A' c' h' o l _
   rintro _ rfl _ rfl _ rfl
   have hd:t/B32<=1:=by rw [hB];omega
   rw [wdiv rfl (by omega),wi (n:=k+1) (by omega) (by omega),wu (a:=1-((t/B32:Nat):Int)) (n:=1-t/B32) (by omega) (Nat.lt_of_le_of_lt (Nat.sub_le 1 _) (by decide))]
   refine ⟨_,by omega,k+1,1-t/B32,gs++[t%B32],rfl,rfl,rfl,Nat.sub_le 1 _,by omega,by simp [hgl],mem_snoc32 hlt (modB t), ?_,o,l⟩
   rw [val_snoc32,hgl,val_take_succ', val_take_succ']
   exact rsub_step hv ht hd (Nat.pow_succ _ _)
  ·have q' : k=max n m:=by have:=of_decide_eq_false q;omega
   have hg:=val_lt (l:=gs) hlt
   rw [hgl] at hg
   rw [val_take_le ys (by rw [w.len];omega),val_take_le xs (by rw [u.len];omega)] at hv
   have b0:bN=0:=by
    rcases Nat.eq_zero_or_pos bN with e | e
    ·exact e
    ·exfalso
     have:bN=1:=by omega
     subst this
     omega
   subst b0
   refine (r1norm_c (own_is own hlt) (by omega)).mono ?_
   rintro _ h2 ⟨A', k', c', rfl,_,hN,hl⟩
   rw [show val gs=val xs-val ys from by omega] at hN
   exact ⟨_,_,_,rfl,Or.inr ⟨hyx,_,_,_,rfl,hN,hle.trans hl⟩⟩
theorem r1mul_c {h:Heap} {A B:Option Addr} {n c m d x y:Nat} (ux:IsN h A n c x) (uy:IsN h B m d y) (hn:n<=1099511627776) (hm:m<=1099511627776) :
  CallsU Tryz.prog 122 [.slice A n c,.slice B m d] h fun r h' => ∃ A' k c', r = .slice A' k c' /\ NmN h' A' k c' (x*y)/\Le h h' := by
 apply ref01_Mul_ok
 obtain ⟨xs,a,rfl⟩:=ux
 obtain ⟨ys,b,rfl⟩:=uy
 have la:=a.len
 have lb:=b.len
 have hbd2:B32*B32=18446744073709551616:=by decide
 rintro _ rfl
 rw [wi (n:=n+m) (by omega) (by omega)]
 refine ⟨by omega,by omega,by omega,by omega, ?_⟩
 rintro g h4 hg rfl
 simp only [Int.toNat_natCast]
 refine ⟨fun q i h' => ∃ (k:Nat) (rs:List Nat),q=n-k/\k<=n/\i=(k:Int)/\rs.length=n+m/\(∀ x∈rs,x<B32)/\(∀ j,k+m<=j->rs.getD j 0=0)/\
   h' g=some ⟨rs.map lv,166,(0,0)⟩/\Le h h' /\ val (rs.take (k+m))=val (xs.take k)*val ys,
  ⟨n,0,List.replicate (n+m) 0,rfl,by omega,rfl,by simp,fun x hx=>by rw [List.mem_replicate] at hx;rw [hx.2];decide,fun j _=>by simp [List.getElem?_replicate];split<;>rfl,
   by rw [Heap.put_same,repV_lv],Le.new hg _,by rw [List.take_replicate,val_zeros];simp [val]⟩, ?_⟩
 rintro _ _ h5 ⟨k,rs,rfl,hk,rfl,hrl,hrs,hz,hb,hl,hval⟩
 refine Br.mk (fun q=> ?_) (fun q=> ?_)
 ·have q' : k<n:=by have:=of_decide_eq_true q;omega
  have hxk:=a.getD_lt k
  refine ⟨fun m2 carry i2 h' => ∃ (j cN:Nat) (ss:List Nat),m2=m-j/\j<=m/\i2=(j:Int)/\carry=(cN:Int)/\cN<B32/\ss.length=n+m/\(∀ x∈ss,x<B32)/\ss.drop (k+j)=rs.drop (k+j)/\
    h' g=some ⟨ss.map lv,166,(0,0)⟩/\Le h h' /\ val (ss.take (k+j))+B32^(k+j)*cN=val (rs.take (k+j))+B32^k*xs.getD k 0*val (ys.take j),
   ⟨m,0,0,rs,rfl,by omega,rfl,rfl,by decide,hrl,hrs,rfl,hb,hl,by simp [val]⟩, ?_⟩
  rintro _ _ _ h6 ⟨j,cN,ss,rfl,hj,rfl,rfl,hc,hsl,hss,hdrop,hb6,hl6,hv6⟩
  refine Br.mk (fun q2=> ?_) (fun q2=> ?_)
  ·have q2' : j<m:=by have:=of_decide_eq_true q2;omega
   have hyj:=b.getD_lt j
   have hsk:ss.getD (k+j) 0<B32:=getD_lt hss (by decide) _
   have hbd:=limb_bound (x:=xs.getD k 0) (y:=ys.getD j 0) hxk hyj hsk hc
   refine (limb_c (a.mono hl6) k).mono ?_
   rintro _ _ ⟨rfl,rfl⟩
   refine ⟨_,rfl,(limb_c (b.mono hl6) j).mono ?_⟩
   rintro _ _ ⟨rfl,rfl⟩
   refine ⟨_,rfl, ?_⟩
   rintro _ rfl _ rfl
   rw [wi (n:=k+j) (by omega) (by omega)]
   have us:=U32.of_blk (m:=n+m) (k:=n+m) hb6 hss (by omega) (Nat.le_refl _)
   rw [List.take_of_length_le (by omega)] at us
   refine (limb_c us (k+j)).mono ?_
   rintro _ _ ⟨rfl,rfl⟩
   refine ⟨_,rfl, ?_⟩
   rintro _ rfl _ rfl _ rfl _ rfl
   rw [wu (a:=((xs.getD k 0:Nat):Int)*((ys.getD j 0:Nat):Int)) (n:=xs.getD k 0*ys.getD j 0) (by rw [Int.natCast_mul]) (by omega),wu (a:=((xs.getD k 0*ys.getD j 0:Nat):Int)+((ss.getD (k+j) 0:Nat):Int)) (n:=xs.getD k 0*ys.getD j 0+ss.getD (k+j) 0) (Int.natCast_add _ _).symm (by omega),
    wu (a:=((xs.getD k 0*ys.getD j 0+ss.getD (k+j) 0:Nat):Int)+(cN:Int)) (n:=xs.getD k 0*ys.getD j 0+ss.getD (k+j) 0+cN) (Int.natCast_add _ _).symm (by omega),w32t rfl]
   have ht:cN+(xs.getD k 0*ys.getD j 0+ss.getD (k+j) 0)=xs.getD k 0*ys.getD j 0+ss.getD (k+j) 0+cN:=by omega
   rw [<- ht]
   generalize ht2:cN+(xs.getD k 0*ys.getD j 0+ss.getD (k+j) 0)=t at hbd ⊢
   simp only [Int.toNat_natCast]
   refine ⟨_,rfl,by omega,by omega,st_own (t%B32) hb6 (by omega) rfl ?_⟩
   rintro _ rfl _ rfl
   rw [wdiv rfl (by omega),wi (n:=j+1) (by omega) (by omega)]
   refine ⟨m-(j+1),by omega,j+1,t/B32,ss.set (k+j) (t%B32),rfl,by omega,rfl,rfl,Nat.div_lt_of_lt_mul hbd,by simp [hsl],mem_set hss (Nat.mod_lt _ (by decide)), ?_,Heap.put_same _ _ _,hl6.put hg _, ?_⟩
   ·rw [drop_set (by omega)]
    have:=congrArg (List.drop 1) hdrop
    simpa [List.drop_drop,Nat.add_assoc] using this
   ·rw [<- Nat.add_assoc,val_take_succ (by simp;omega),take_set_ge (Nat.le_refl _),getD_set_eq (by omega),val_take_succ (xs:=rs) (by omega),val_take_succ (xs:=ys) (by omega),<- getD_drop hdrop (Nat.le_refl _)]
    exact mul_step _ _ _ _ _ _ _ _ _ _ _ hv6 ht2 (by rw [Nat.pow_succ]) (B32^j) (by rw [Nat.pow_add])
  ·have hjm:j=m:=by have:=of_decide_eq_false q2;omega
   subst hjm
   rintro _ rfl
   rw [wi (n:=k+j) (by omega) (by omega)]
   simp only [Int.toNat_natCast]
   refine ⟨_,rfl,by omega,by omega,st_own cN hb6 (by omega) (by rw [w32 rfl,Nat.mod_eq_of_lt hc]) ?_⟩
   rintro _ rfl
   rw [wi (n:=k+1) (by omega) (by omega)]
   refine ⟨n-(k+1),by omega,k+1,ss.set (k+j) cN,rfl,by omega,rfl,by simp [hsl],mem_set hss hc,fun i hi=> ?_,Heap.put_same _ _ _,hl6.put hg _, ?_⟩
   ·rw [getD_set_ne (by omega),getD_drop hdrop (by omega)]
    exact hz i (by omega)
   ·have e:k+1+j=k+j+1:=by omega
    rw [e,val_take_succ (by simp;omega),take_set_ge (Nat.le_refl _),getD_set_eq (by omega),hv6,hval,val_take_succ (xs:=xs) (by omega),List.take_of_length_le (l:=ys) (by omega)]
    grind
 ·have hka:k=n:=by have:=of_decide_eq_false q;omega
  subst hka
  have u:=U32.of_blk (m:=k+m) (k:=k+m) hb hrs (by omega) (Nat.le_refl _)
  have hv2:val (rs.take (k+m))=val xs*val ys:=by rw [hval,List.take_of_length_le (by omega)]
  refine (r1norm_c ⟨_,u,hv2⟩ (by omega)).mono ?_
  rintro _ _ ⟨A', m2,c', rfl,hm2,hN,hl2⟩
  exact ⟨_,_,_,rfl,_,_,_,rfl,hN,hl.trans hl2⟩
def HalfI (h:Heap) (xs:List Nat) (n:Nat) (m:Nat) (oA:Option Addr) (on oc:Nat) (i:Int) (h' : Heap):Prop:=
 ∃ (k:Nat) (gs:List Nat),m=n-k/\i=(k:Int)/\k<=n/\gs.length=k/\(∀ x∈gs,x<4294967296)/\
  val gs*2+xs.getD 0 0%2=val (xs.take k)+B32^k*(xs.getD k 0%2)/\OwnE lv 166 h h' oA on oc gs/\Le h h'
theorem half_step {G X p q r x y:Nat} (h:G*2+r=X+p*(x%2)) (hq:q=p*B32):(G+p*(x/2+y%2*2147483648))*2+r=(X+p*x)+q*(y%2):=by
 have h1:=Nat.mod_add_div x 2
 subst hq
 have hB:B32=2147483648*2:=rfl
 rw [hB]
 generalize x%2=a at *
 generalize x/2=b at *
 subst h1
 generalize y%2=e at *
 grind
theorem r1half_c {h:Heap} {A:Option Addr} {n c x:Nat} (ux:IsN h A n c x) (hn:n<=1099511627776) :
  CallsU Tryz.prog 195 [.slice A n c] h fun r h' => ∃ A' k c', r = .slice A' k c' /\ NmN h' A' k c' (x/2)/\Le h h' := by
 apply ref01_Half_ok
 obtain ⟨xs,u,rfl⟩:=ux
 refine ⟨HalfI h xs n,⟨_,0,[],rfl,rfl,by omega,rfl,by simp,by simp [val],OwnE.nil h,Le.refl h⟩, ?_⟩
 rintro _ oA on oc _ h1 ⟨k,gs,rfl,rfl,hk,hgl,hlt,hv,own,hle⟩
 have hon:=own.1
 refine Br.mk (fun q=> ?_) (fun q=> ?_)
 ·have q' : k<n:=by have:=of_decide_eq_true q;omega
  have lx:=u.getD_lt k
  have ly:=u.getD_lt (k+1)
  refine (limb_c (u.mono hle) k).mono ?_
  rintro _ _ ⟨rfl,rfl⟩
  refine ⟨_,rfl, ?_⟩
  rintro _ rfl _ rfl
  rw [wi (n:=k+1) (by omega) (by omega)]
  refine (limb_c (u.mono hle) (k+1)).mono ?_
  rintro _ _ ⟨rfl,rfl⟩
  refine ⟨_,rfl, ?_⟩
  rintro _ rfl _ rfl _ rfl g0 _ hg0 rfl
  have e1:Int.tdiv ((xs.getD k 0:Nat):Int) 2=((xs.getD k 0/2:Nat):Int):=by rw [Int.tdiv_eq_ediv_of_nonneg (by omega)];omega
  have e2:Int.tmod ((xs.getD (k+1) 0:Nat):Int) 2=((xs.getD (k+1) 0%2:Nat):Int):=by rw [Int.tmod_eq_emod_of_nonneg (by omega)];omega
  rw [e1,e2,wu (a:=((xs.getD k 0/2:Nat):Int)) (n:=xs.getD k 0/2) rfl (by omega),wu (a:=((xs.getD (k+1) 0%2:Nat):Int)*2147483648) (n:=xs.getD (k+1) 0%2*2147483648) (by omega) (by omega),wu (a:=((xs.getD k 0/2:Nat):Int)+((xs.getD (k+1) 0%2*2147483648:Nat):Int)) (n:=xs.getD k 0/2+xs.getD (k+1) 0%2*2147483648) (by omega) (by omega),w32 rfl,Nat.mod_eq_of_lt (by unfold B32;omega)]
  refine own.app (x:=xs.getD k 0/2+xs.getD (k+1) 0%2*2147483648) (z:=0) (bs:=4) (K:=fun A c hh=> ∀ t10:Int,t10=((k+1:Nat):Int)-> ∃ m', m' < n-k/\HalfI h xs n m' A (on+1) c t10 hh) hle lv_one1 rfl rfl hg0 (by omega) ?_
  intro A' c' h' o l _
  rintro _ rfl
  refine ⟨_,by omega,k+1,_,rfl,rfl,by omega,by simp [hgl],mem_snoc32 hlt (by omega), ?_,o,l⟩
  rw [val_snoc32,hgl,val_take_succ']
  exact half_step hv (Nat.pow_succ _ _)
 ·have q' : k=n:=by have:=of_decide_eq_false q;omega
  rw [val_take_le _ (by rw [u.len];omega),getD_ge (xs:=xs) (k:=k) (by rw [u.len];omega),Nat.zero_mod,Nat.mul_zero,Nat.add_zero] at hv
  refine (r1norm_c (own_is own hlt) (by omega)).mono ?_
  rintro _ h2 ⟨A', k', c', rfl,_,hN,hl⟩
  rw [show val gs=val xs/2 from by omega] at hN
  exact ⟨_,_,_,rfl,_,_,_,rfl,hN,hle.trans hl⟩
def ShiftI (h:Heap) (xs:List Nat) (n qd r:Nat) (m:Nat) (oA:Option Addr) (on oc:Nat) (carry i:Int) (h' : Heap):Prop:=
 ∃ (k cN:Nat) (ds:List Nat),m=n+1-k/\i=(k:Int)/\carry=(cN:Int)/\cN<2^r/\k<=n+1/\ds.length=k/\(∀ x∈ds,x<4294967296)/\
  val ds+B32^k*cN=2^r*val (xs.take k)/\OwnE lv 166 h h' oA on oc (List.replicate qd 0++ds)/\Le h h'
theorem shift_step {D X p q s x c t:Nat} (h:D+p*c=s*X) (ht:x*s+c=t) (hq:q=p*B32):(D+p*(t%B32))+q*(t/B32)=s*(X+p*x):=by
 have:=Nat.mod_add_div t B32
 subst hq
 grind
theorem r1shift_c {h:Heap} {A:Option Addr} {n c x:Nat} (ux:IsN h A n c x) (hn:n<=1099511627776) (s:Nat) (hs:s<=35184372088832) :
  CallsU Tryz.prog 194 [.slice A n c,.int .i64 s] h fun r h' => ∃ A' k c', r = .slice A' k c' /\ NmN h' A' k c' (x*2^s)/\Le h h' := by
 apply ref01_Shift_ok
 obtain ⟨xs,u,rfl⟩:=ux
 have hB:B32=2^32:=by decide
 have hB' : B32=4294967296:=rfl
 have e1:Int.tdiv ((s:Nat):Int) 32=((s/32:Nat):Int):=by rw [Int.tdiv_eq_ediv_of_nonneg (by omega)];omega
 have e2:Int.tmod ((s:Nat):Int) 32=((s%32:Nat):Int):=by rw [Int.tmod_eq_emod_of_nonneg (by omega)];omega
 rintro _ rfl
 rw [e1,wi (n:=s/32) rfl (by omega)]
 refine ⟨by omega,by omega,by omega,by omega, ?_⟩
 rintro g _ hg rfl
 rw [Int.toNat_natCast]
 have hs2:s=32*(s/32)+s%32:=by omega
 have hr:s%32<32:=Nat.mod_lt _ (by decide)
 have hp:0<2^(s%32):=Nat.pow_pos (by decide)
 have hp2:2^(s%32)<=2^31:=Nat.pow_le_pow_right (by decide) (by omega)
 have hp3:(2:Nat)^31=2147483648:=by decide
 have hqd:s/32<=1099511627776:=by omega
 have hpow:(2:Nat)^s=B32^(s/32)*2^(s%32):=by
  rw [hB,<- Nat.pow_mul,<- Nat.pow_add,<- hs2]
 rw [hpow]
 generalize s/32=qd at *
 generalize s%32=r at *
 refine ⟨ShiftI h xs n qd r,⟨_,0,0,[],rfl,rfl,rfl,hp,by omega,rfl,by simp,by simp [val], ?_,Le.new hg _⟩, ?_⟩
 ·refine ⟨by simp,Or.inr ⟨g,[],rfl,hg, ?_,by simp⟩⟩
  rw [Heap.put_same,repV_lv]
  simp
 rintro _ oA on oc _ _ h1 ⟨k,cN,ds,rfl,rfl,rfl,hc,hk,hdl,hlt,hv,own,hle⟩
 have hon:=own.1
 rw [List.length_append,List.length_replicate,hdl] at hon
 refine Br.mk (fun q=> ?_) (fun q=> ?_)
 ·have q' : k<=n:=by have:=of_decide_eq_true q;omega
  have lx:=u.getD_lt k
  refine (limb_c (u.mono hle) k).mono ?_
  rintro _ _ ⟨rfl,rfl⟩
  refine ⟨_,rfl, ?_⟩
  rintro _ rfl
  rw [e2,wu (n:=r) rfl (by omega),Int.toNat_natCast,Nat.min_eq_left (by omega)]
  refine Br.mk (fun q1=>by have:=of_decide_eq_true q1;omega) (fun _=> ?_)
  rintro _ rfl _ rfl _ rfl g0 _ hg0 rfl
  have hpI:((2:Int)^r)=((2^r:Nat):Int):=by simp
  have hxs:xs.getD k 0*2^r+2^r<=4294967296*2^r:=by
   have:(xs.getD k 0+1)*2^r<=4294967296*2^r:=Nat.mul_le_mul_right _ lx
   rw [Nat.add_mul,Nat.one_mul] at this
   exact this
  rw [hpI,wu (a:=((xs.getD k 0:Nat):Int)*((2^r:Nat):Int)) (n:=xs.getD k 0*2^r) (by rw [Int.natCast_mul]) (by omega),wu (a:=((xs.getD k 0*2^r:Nat):Int)+(cN:Int)) (n:=xs.getD k 0*2^r+cN) (Int.natCast_add _ _).symm (by omega),w32t rfl]
  generalize ht:xs.getD k 0*2^r+cN=t
  have htl:t<2^r*B32:=by rw [hB', Nat.mul_comm (2^r)];omega
  refine own.app (x:=t%B32) (z:=0) (bs:=4) (K:=fun A c hh=> ∀ t34:Int,t34=IntKind.u64.wrap (Int.tdiv (t:Int) 4294967296)-> ∀ t17:Int,t17=IntKind.i64.wrap ((k:Int)+1)-> ∃ m', m' < n+1-k/\ShiftI h xs n qd r m' A (on+1) c t34 t17 hh) hle lv_one1 rfl rfl hg0 (by omega) ?_
  intro A' c' h' o l _
  rintro _ rfl _ rfl
  rw [wdiv rfl (by omega),wi (n:=k+1) (by omega) (by omega)]
  refine ⟨_,by omega,k+1,t/B32,ds++[t%B32],rfl,rfl,rfl,Nat.div_lt_of_lt_mul (by rw [Nat.mul_comm];exact htl),by omega,by simp [hdl],mem_snoc32 hlt (modB t), ?_,by rw [<- List.append_assoc];exact o,l⟩
  rw [val_snoc32,hdl,val_take_succ']
  exact shift_step hv ht (Nat.pow_succ _ _)
 ·have q' : k=n+1:=by have:=of_decide_eq_false q;omega
  subst q'
  have hzero:cN=0:=by
   rw [val_take_le _ (by rw [u.len];omega)] at hv
   have hx:=val_lt (l:=xs) u.lt
   rw [u.len] at hx
   rcases Nat.eq_zero_or_pos cN with e | e
   ·exact e
   ·exfalso
    have h1:B32*B32^n<=B32^(n+1)*cN:=by
     have:=Nat.mul_le_mul_left (B32^(n+1)) e
     rw [show B32*B32^n=B32^(n+1)*(0+1) from by rw [Nat.pow_succ,Nat.mul_comm,Nat.zero_add,Nat.mul_one]]
     exact this
    have h2:2^r*val xs<2^r*B32^n:=Nat.mul_lt_mul_of_pos_left hx hp
    have h3:2^r*B32^n<=B32*B32^n:=Nat.mul_le_mul_right _ (by omega)
    omega
  subst hzero
  rw [val_take_le _ (by rw [u.len];omega),Nat.mul_zero,Nat.add_zero] at hv
  have hlt2 : ∀ x∈List.replicate qd 0++ds,x<4294967296:=fun x hx=>by
   rcases List.mem_append.1 hx with a | a
   ·rw [(List.mem_replicate.1 a).2];decide
   ·exact hlt x a
  refine (r1norm_c (own_is own hlt2) (by omega)).mono ?_
  rintro _ h2 ⟨A', k', c', rfl,_,hN,hl⟩
  rw [val_append,val_zeros,List.length_replicate,Nat.zero_add,hv,show B32^qd*(2^r*val xs)=val xs*(B32^qd*2^r) from by rw [Nat.mul_comm (val xs),Nat.mul_assoc]] at hN
  exact ⟨_,_,_,rfl,_,_,_,rfl,hN,hle.trans hl⟩
theorem r1bits_c {h:Heap} {A:Option Addr} {n c x:Nat} (ux:IsN h A n c x) (hn:n<=1099511627776) :
  CallsU Tryz.prog 193 [.slice A n c] h fun r h' => ∃ t:Nat,r = .int .i64 t/\x<2^t/\(x≠0->1<=t/\2^(t-1)<=x)/\(x=0->t=0)/\t<=32*n/\Le h h' := by
 apply ref01_Bits_ok
 have hB:B32=2^32:=by decide
 refine (r1norm_c ux (by omega)).mono ?_
 rintro _ h1 ⟨A1,m,c1,rfl,hm,hN,hl⟩
 have hz:=NmN.zero_iff hN
 refine ⟨_,_,_,rfl,Br.mk (fun q=> ?_) (fun q=> ?_)⟩
 ·have q' : m=0:=by have:=beq_iff_eq.1 q;omega
  have x0:=hz.1 q'
  subst x0
  exact ⟨0,rfl,by decide,fun e=>absurd rfl e,fun _=>rfl,by omega,hl⟩
 ·have q' : 0<m:=by have:=beq_eq_false_iff_ne.1 q;omega
  obtain ⟨xs,u,hv,nr⟩:=hN
  have lu:=u.len
  obtain ⟨m,rfl⟩ : ∃ k,m=k+1:=⟨m-1,by omega⟩
  have hne:xs≠[]:=fun e=>by rw [e] at lu;simp at lu
  have hval:val xs=val (xs.take m)+B32^m*xs.getD m 0:=by rw [<- val_take_succ', val_take_le _ (by omega)]
  have hlow:=val_take_lt' (xs:=xs) u.lt m
  have htop:xs.getD m 0≠0:=fun e=>by
   have h2:=nrm_val_pos nr hne
   rw [lu,Nat.add_sub_cancel] at h2
   rw [e,Nat.mul_zero] at hval
   omega
  have htl:=u.getD_lt m
  rintro _ rfl _ rfl _ rfl
  rw [wi (a:=(((m+1:Nat):Int)-1)) (n:=m) (by omega) (by omega),wi (n:=32*m) (by omega) (by omega)]
  obtain ⟨ad,hA,hld⟩:=u.get (i:=m) (by omega)
  rw [Int.toNat_natCast]
  refine ⟨ad,hA,by omega,by omega,_,hld, ?_⟩
  generalize xs.getD m 0=top at *
  refine ⟨fun q nn tt h' => ∃ (j:Nat),tt=(q:Int)/\nn=((32*m+j:Nat):Int)/\j<=32/\q=top/2^j/\h1=h' /\ (0<j->2^(j-1)<=top),⟨top,0,rfl,rfl,by omega,by simp,rfl,fun e=>absurd e (Nat.lt_irrefl 0)⟩, ?_⟩
  rintro q _ _ _ ⟨j,rfl,rfl,hj,rfl,rfl,hpos⟩
  refine Br.mk (fun b=> ?_) (fun b=> ?_)
  ·have b' : 0<top/2^j:=by have:=of_decide_eq_true b;omega
   have hge:2^j<=top:=by
    rcases Nat.lt_or_ge top (2^j) with e | e
    ·rw [Nat.div_eq_of_lt e] at b';omega
    ·exact e
   have hj32:j<32:=by
    rcases Nat.lt_or_ge j 32 with e | e
    ·exact e
    ·have:2^32<=2^j:=Nat.pow_le_pow_right (by decide) e
     have e2:(2:Nat)^32=4294967296:=by decide
     omega
   rintro _ rfl _ rfl
   have hdl:top/2^j<=top:=Nat.div_le_self _ _
   have e1:Int.tdiv ((top/2^j:Nat):Int) 2=((top/2^j/2:Nat):Int):=by rw [Int.tdiv_eq_ediv_of_nonneg (by omega)];omega
   rw [wi (n:=32*m+j+1) (by omega) (by omega),e1,w32 rfl,Nat.mod_eq_of_lt (by unfold B32;omega)]
   refine ⟨top/2^j/2,by omega,j+1,rfl,by rw [Nat.add_assoc],by omega,by rw [Nat.div_div_eq_div_mul,<- Nat.pow_succ],rfl,fun _=>by rw [Nat.add_sub_cancel];exact hge⟩
  ·have b' : top/2^j=0:=by
    have:=of_decide_eq_false b
    generalize top/2^j=z at this ⊢
    omega
   have hlt:top<2^j:=by
    rcases Nat.lt_or_ge top (2^j) with e | e
    ·exact e
    ·have:=Nat.div_pos e (Nat.pow_pos (by decide));omega
   have hj0:0<j:=by
    rcases Nat.eq_zero_or_pos j with e | e
    ·rw [e] at hlt;simp at hlt;omega
    ·exact e
   have hp:=hpos hj0
   have hpm:B32^m=2^(32*m):=by rw [hB,<- Nat.pow_mul]
   refine ⟨32*m+j,rfl, ?_,fun _=>⟨by omega, ?_⟩,fun e=> ?_,by omega,hl⟩
   ·rw [<- hv,hval,Nat.pow_add,<- hpm]
    have:B32^m*(top+1)<=B32^m*2^j:=Nat.mul_le_mul_left _ hlt
    rw [Nat.mul_add] at this
    omega
   ·rw [<- hv,hval,show 32*m+j-1=32*m+(j-1) from by omega,Nat.pow_add,<- hpm]
    have:B32^m*2^(j-1)<=B32^m*top:=Nat.mul_le_mul_left _ hp
    omega
   ·exfalso
    have h3:B32^m*1<=B32^m*top:=Nat.mul_le_mul_left _ (by omega)
    have h4:0<B32^m:=Nat.pow_pos (by decide)
    omega
theorem val_set_add : ∀ {qs:List Nat} {i d:Nat},i<qs.length->val (qs.set i (qs.getD i 0+d))=val qs+B32^i*d
 | [],i,d,h=>by simp at h
 | x::r,0,d,_=>by simp [val];omega
 | x::r,i+1,d,h=>by
  have ih:=val_set_add (qs:=r) (i:=i) (d:=d) (by simpa using h)
  simp only [List.set_cons_succ,val,List.getD_cons_succ]
  rw [ih,Nat.mul_add,Nat.pow_succ,Nat.mul_comm (B32^i) B32,Nat.mul_assoc,Nat.add_assoc]
theorem limb_mult : ∀ {qs:List Nat} {i j t:Nat},(∀ x∈qs,x<4294967296)->i<qs.length->j<32->val qs=2^(32*i+(j+1))*t->qs.getD i 0+2^j<4294967296
 | [],i,j,t,_,h,_,_=>by simp at h
 | x::r,0,j,t,hlt,_,hj,hv=>by
  have hx:=hlt x (by simp)
  simp only [val,Nat.mul_zero,Nat.zero_add] at hv
  simp only [List.getD_cons_zero]
  have hB:B32=2^(j+1)*2^(31-j):=by rw [<- Nat.pow_add,show j+1+(31-j)=32 from by omega];rfl
  have hB2:(4294967296:Nat)=2^(j+1)*2^(31-j):=hB
  rw [hB,Nat.mul_assoc] at hv
  have hd:x=2^(j+1)*(t-2^(31-j)*val r):=by rw [Nat.mul_sub,<- hv];omega
  rw [hB2] at hx ⊢
  rw [Nat.pow_succ] at *
  generalize t-2^(31-j)*val r=a at *
  subst hd
  have ha:a<2^(31-j):=Nat.lt_of_mul_lt_mul_left hx
  have:=Nat.mul_le_mul_left (2^j*2) ha
  rw [Nat.mul_succ] at this
  have hp:0<2^j:=Nat.pow_pos (by decide)
  omega
 | x::r,i+1,j,t,hlt,h,hj,hv=>by
  have hx:=hlt x (by simp)
  simp only [val] at hv
  rw [show 32*(i+1)+(j+1)=32+(32*i+(j+1)) from by omega,Nat.pow_add,Nat.mul_assoc,show (2:Nat)^32=B32 from rfl] at hv
  have hm:(x+B32*val r)%B32=(B32*(2^(32*i+(j+1))*t))%B32:=by rw [hv]
  rw [Nat.add_mul_mod_self_left,Nat.mul_mod_right,Nat.mod_eq_of_lt (show x<B32 from hx)] at hm
  subst hm
  rw [Nat.zero_add] at hv
  have hv2:=Nat.eq_of_mul_eq_mul_left (by decide) hv
  simp only [List.getD_cons_succ]
  exact limb_mult (fun y hy=>hlt y (by simp [hy])) (by simpa using h) hj hv2
def DmI (h:Heap) (g:Nat) (x y n q1:Nat) (m:Nat) (rA:Option Addr) (rn rc:Nat) (pA:Option Addr) (pn pc:Nat) (k:Int) (h' : Heap):Prop:=
 ∃ (H:Heap) (qs:List Nat) (r p t:Nat),k=(m:Int)-1/\m<=n+1/\h' = H.put g ⟨qs.map lv,166,(0,0)⟩/\H g=none/\Le h H/\NmN H rA rn rc r/\NmN H pA pn pc p/\(0<m->p=y*2^(m-1))/\p<=y*2^n/\
  qs.length=q1/\(∀ z∈qs,z<4294967296)/\val qs=2^m*t/\val qs*y+r=x/\r<y*2^m
theorem r1divmod_c {h:Heap} {A B:Option Addr} {n c m d x y:Nat} (ux:IsN h A n c x) (uy:IsN h B m d y) (hn:n<=1073741824) (hm:m<=1073741824) (hy:y≠0) :
  CallsU Tryz.prog 124 [.slice A n c,.slice B m d] h fun r h' => ∃ A1 n1 c1 A2 n2 c2,r = .tuple #[.slice A1 n1 c1,.slice A2 n2 c2,.bool true]/\NmN h' A1 n1 c1 (x/y)/\NmN h' A2 n2 c2 (x%y)/\Le h h' := by
 apply ref01_DivMod_ok
 have hsx:=ux.sz
 refine (r1bits_c uy (by omega)).mono ?_
 rintro _ h1 ⟨tb0,rfl,_,hb0,_,_,hl1⟩
 obtain ⟨hb1,_⟩:=hb0 hy
 refine ⟨_,rfl,Br.mk (fun q=>by have:=beq_iff_eq.1 q;omega) (fun _=> ?_)⟩
 refine (r1norm_c (ux.mono hl1) (by omega)).mono ?_
 rintro _ h2 ⟨A2,n2,c2,rfl,hn2,hN2,hl2⟩
 refine ⟨_,_,_,rfl,(r1bits_c hN2.is (by omega)).mono ?_⟩
 rintro _ h3 ⟨tr,rfl,hr1,hr2,hr0,hr3,hl3⟩
 refine ⟨_,rfl,(r1bits_c ((uy.mono hl1).mono (hl2.trans hl3)) (by omega)).mono ?_⟩
 rintro _ h4 ⟨tb,rfl,ht1,ht2,_,ht4,hl4⟩
 obtain ⟨hb3,hb4⟩:=ht2 hy
 have hl14:Le h h4:=((hl1.trans hl2).trans hl3).trans hl4
 have hN4:=hN2.mono (hl3.trans hl4)
 refine ⟨_,rfl, ?_⟩
 rintro _ rfl
 rw [wrap_i64 (by omega) (by omega)]
 refine Br.mk (fun q=> ?_) (fun q=> ?_)
 ·have q' : tr<tb:=by have:=of_decide_eq_true q;omega
  have hlt:x<y:=by
   have:2^tr<=2^(tb-1):=Nat.pow_le_pow_right (by decide) (by omega)
   omega
  exact ⟨_,_,_,_,_,_,rfl,by rw [Nat.div_eq_of_lt hlt];exact NmN.nil _ _ _,by rw [Nat.mod_eq_of_lt hlt];exact hN4,hl14⟩
 ·have q' : tb<=tr:=by have:=of_decide_eq_false q;omega
  have hx0:x≠0:=fun e=>by have:=hr0 e;omega
  obtain ⟨hr4,hr5⟩:=hr2 hx0
  obtain ⟨k,hk⟩ : ∃ k,tr=tb+k:=⟨tr-tb,by omega⟩
  rw [show ((tr:Nat):Int)-((tb:Nat):Int)=(k:Int) from by omega]
  have hinit:x<y*2^(k+1):=by
   have h5:2^tr=2^(tb-1)*2^(k+1):=by rw [<- Nat.pow_add];congr 1;omega
   have h6:2^(tb-1)*2^(k+1)<=y*2^(k+1):=Nat.mul_le_mul_right _ hb4
   omega
  have hpart:Sz (y*2^k) (n+1):=by
   have h5:y*2^k<2^tb*2^k:=Nat.mul_lt_mul_of_pos_right ht1 (Nat.pow_pos (by decide))
   rw [<- Nat.pow_add,<- hk] at h5
   have h6:2^tr=2^(tr-1)*2:=by rw [<- Nat.pow_succ];congr 1;omega
   unfold Sz at *
   rw [Nat.pow_succ]
   have:B32^n*2<=B32^n*B32:=Nat.mul_le_mul_left _ (by decide)
   omega
  have e1 : ∀ z:Nat,Int.tdiv ((z:Nat):Int) 32=((z/32:Nat):Int):=fun z=>by rw [Int.tdiv_eq_ediv_of_nonneg (by omega)];omega
  have e2 : ∀ z:Nat,Int.tmod ((z:Nat):Int) 32=((z%32:Nat):Int):=fun z=>by rw [Int.tmod_eq_emod_of_nonneg (by omega)];omega
  rintro _ rfl _ rfl
  rw [e1,wi (n:=k/32) rfl (by omega),wi (n:=k/32+1) (by omega) (by omega)]
  refine ⟨by omega,by omega,by omega,by omega, ?_⟩
  rintro g _ hg rfl
  rw [Int.toNat_natCast]
  refine (CallsU.frame (r1shift_c (h:=h4) (((uy.mono hl1).mono (hl2.trans hl3)).mono hl4) (by omega) k (by omega)) hg).mono ?_
  rintro _ _ ⟨h5,⟨A5,n5,c5,rfl,hN5,hl5⟩,hg5,rfl⟩
  refine ⟨_,_,_,rfl,DmI h g x y k (k/32+1),⟨k+1,h5,List.replicate (k/32+1) 0,x,y*2^k,0,by omega,by omega,by rw [repV_lv],hg5,hl14.trans hl5,hN4.mono hl5,hN5,fun _=>rfl,Nat.le_refl _,by simp,fun z hz=>by rw [(List.mem_replicate.1 hz).2];decide,by rw [val_zeros,Nat.mul_zero],by rw [val_zeros,Nat.zero_mul,Nat.zero_add],hinit⟩, ?_⟩
  rintro mm rA rn rc pA pn pc _ _ ⟨H,qs,r,p,t,rfl,hmm,rfl,hgH,hleH,hNr,hNp,hp,hpn,hql,hqlt,hqm,hqr,hrlt⟩
  have hrx:r<=x:=by omega
  have hrn:=NmN.le_of hNr (hsx.le hrx)
  have hpl:=NmN.le_of hNp (hpart.le hpn)
  refine Br.mk (fun b=> ?_) (fun b=> ?_)
  ·have b' : 0<mm:=by have:=of_decide_eq_true b;omega
   obtain ⟨i,rfl⟩ : ∃ i,mm=i+1:=⟨mm-1,by omega⟩
   have hp' := hp b'
   rw [Nat.add_sub_cancel] at hp'
   rw [show ((i+1:Nat):Int)-1=(i:Int) from by omega]
   have hp2:2^(i+1)=2*2^i:=by rw [Nat.pow_succ,Nat.mul_comm]
   have hhalf:0<i->p/2=y*2^(i-1):=fun hi=>by
    obtain ⟨j,rfl⟩ : ∃ j,i=j+1:=⟨i-1,by omega⟩
    rw [hp', Nat.add_sub_cancel,Nat.pow_succ,<- Nat.mul_assoc,Nat.mul_div_cancel _ (by decide)]
   refine (CallsU.frame (r1sub_c (h:=H) hNr.is hNp.is (by omega) (by omega)) hgH).mono ?_
   rintro _ _ ⟨h8,hsub,hg8,rfl⟩
   rcases hsub with ⟨hlt,rfl,rfl⟩ | ⟨hge,A8,n8,c8,rfl,hN8,hl8⟩
   ·refine ⟨_,_,_,_,rfl,Br.mk (fun q=>by cases q) (fun _=> ?_)⟩
    refine (CallsU.frame (r1half_c (h:=H) hNp.is (by omega)) hgH).mono ?_
    rintro _ _ ⟨h9,⟨A9,n9,c9,rfl,hN9,hl9⟩,hg9,rfl⟩
    refine ⟨_,_,_,rfl, ?_⟩
    rintro _ rfl
    rw [wrap_i64 (by omega) (by omega)]
    refine ⟨i,by omega,h9,qs,r,p/2,2*t,rfl,by omega,rfl,hg9,hleH.trans hl9,hNr.mono hl9,hN9,hhalf,Nat.le_trans (Nat.div_le_self _ _) hpn,hql,hqlt, ?_,hqr,by rw [hp'] at hlt;exact hlt⟩
    rw [hqm,hp2,Nat.mul_comm 2 (2^i),Nat.mul_assoc]
   ·refine ⟨_,_,_,_,rfl,Br.mk (fun _=> ?_) (fun q=>by cases q)⟩
    rintro _ rfl _ rfl
    have hidx:i/32<qs.length:=by rw [hql];omega
    have hmult:=limb_mult (qs:=qs) (i:=i/32) (j:=i%32) (t:=t) hqlt hidx (Nat.mod_lt _ (by decide)) (by rw [hqm];congr 2;omega)
    rw [e1,wi (n:=i/32) rfl (by omega)]
    simp only [Int.toNat_natCast]
    refine ⟨_,rfl,by omega,by omega,_,ld_own (Heap.put_same _ _ _) hidx, ?_⟩
    rintro _ rfl
    rw [e2,wu (n:=i%32) rfl (by omega),Int.toNat_natCast,Nat.min_eq_left (by omega)]
    refine Br.mk (fun q=>by have:=of_decide_eq_true q;omega) (fun _=> ?_)
    rintro _ rfl _ rfl
    have hpI:((2:Int)^(i%32))=((2^(i%32):Nat):Int):=by simp
    have hpb:2^(i%32)<4294967296:=by omega
    rw [Int.one_mul,hpI,w32 rfl,Nat.mod_eq_of_lt (by exact hpb),w32 (n:=qs.getD (i/32) 0+2^(i%32)) (Int.natCast_add _ _).symm,Nat.mod_eq_of_lt (by exact hmult)]
    refine ⟨_,rfl,by omega,by omega,st_own (qs.getD (i/32) 0+2^(i%32)) (Heap.put_same _ _ _) hidx rfl ?_⟩
    rw [Heap.put_put]
    refine (CallsU.frame (r1half_c (h:=h8) (hNp.mono hl8).is (by omega)) hg8).mono ?_
    rintro _ _ ⟨h9,⟨A9,n9,c9,rfl,hN9,hl9⟩,hg9,rfl⟩
    refine ⟨_,_,_,rfl, ?_⟩
    rintro _ rfl
    rw [wrap_i64 (by omega) (by omega)]
    have hpow:B32^(i/32)*2^(i%32)=2^i:=by
     rw [show B32=2^32 from rfl,<- Nat.pow_mul,<- Nat.pow_add]
     congr 1
     omega
    have hvs:val (qs.set (i/32) (qs.getD (i/32) 0+2^(i%32)))=val qs+2^i:=by rw [val_set_add hidx,hpow]
    refine ⟨i,by omega,h9,_,r-p,p/2,2*t+1,rfl,by omega,rfl,hg9,(hleH.trans hl8).trans hl9,hN8.mono hl9,hN9,hhalf,Nat.le_trans (Nat.div_le_self _ _) hpn,by rw [List.length_set];exact hql,mem_set hqlt hmult, ?_, ?_, ?_⟩
    ·rw [hvs,hqm,hp2,Nat.mul_add,Nat.mul_one,Nat.mul_comm 2 (2^i),Nat.mul_assoc]
    ·rw [hvs,Nat.add_mul,Nat.mul_comm (2^i) y,<- hp']
     omega
    ·rw [hp2,Nat.mul_left_comm,<- hp'] at hrlt
     rw [<- hp']
     omega
  ·have b' : mm=0:=by have:=of_decide_eq_false b;omega
   subst b'
   rw [Nat.pow_zero,Nat.mul_one] at hrlt
   have hq:x/y=val qs:=by
    rw [<- hqr,Nat.add_comm,Nat.add_mul_div_right _ _ (by omega),Nat.div_eq_of_lt hrlt,Nat.zero_add]
   have hr:x%y=r:=by rw [<- hqr,Nat.add_comm,Nat.add_mul_mod_self_right,Nat.mod_eq_of_lt hrlt]
   have u:=U32.of_blk (h:=H.put g ⟨qs.map lv,166,(0,0)⟩) (m:=k/32+1) (k:=k/32+1) (Heap.put_same _ _ _) hqlt (by omega) (Nat.le_refl _)
   rw [List.take_of_length_le (by omega)] at u
   have hlp:Le H (H.put g ⟨qs.map lv,166,(0,0)⟩):=Le.new hgH _
   refine (r1norm_c ⟨_,u,rfl⟩ (by omega)).mono ?_
   rintro _ h9 ⟨A9,n9,c9,rfl,_,hN9,hl9⟩
   refine ⟨_,_,_,rfl,_,_,_,_,_,_,rfl,by rw [hq];exact hN9,by rw [hr];exact (hNr.mono hlp).mono hl9,(hleH.trans hlp).trans hl9⟩
theorem r1gcd_c {h:Heap} {A B:Option Addr} {n c m d x y:Nat} (ux:IsN h A n c x) (uy:IsN h B m d y) (hn:n<=1073741824) (hm:m<=1073741824) :
  CallsU Tryz.prog 123 [.slice A n c,.slice B m d] h fun r h' => ∃ A' k c', r = .slice A' k c' /\ NmN h' A' k c' (Nat.gcd x y)/\k<=max n m/\Le h h' := by
 apply ref01_Gcd_ok
 refine (r1norm_c ux (by omega)).mono ?_
 rintro _ h1 ⟨A1,n1,c1,rfl,hn1,nx,hl1⟩
 refine ⟨_,_,_,rfl,(r1norm_c (uy.mono hl1) (by omega)).mono ?_⟩
 rintro _ h2 ⟨A2,n2,c2,rfl,hn2,ny,hl2⟩
 refine ⟨_,_,_,rfl,fun v aA an ac bA bn bc h' => ∃ u,NmN h' aA an ac u/\NmN h' bA bn bc v/\Nat.gcd u v=Nat.gcd x y/\an<=max n m/\bn<=max n m/\Le h h', ⟨y,x,nx.mono hl2,ny,rfl,by omega,by omega,hl1.trans hl2⟩, ?_⟩
 rintro v aA an ac bA bn bc h' ⟨u,nu,nv,hg,ha,hb,hl⟩
 have hz:=NmN.zero_iff nv
 refine Br.mk (fun q=> ?_) (fun q=> ?_)
 ·have hv:v≠0:=by have:=of_decide_eq_true q;omega
  refine (r1divmod_c nu.is nv.is (by omega) (by omega) hv).mono ?_
  rintro _ h4 ⟨A3,n3,c3,A4,n4,c4,rfl,_,hN,hl'⟩
  have hlt:u%v<v:=Nat.mod_lt _ (by omega)
  refine ⟨_,_,_,_,_,_,_,rfl,u%v,hlt,v,nv.mono hl', hN, ?_,hb, ?_,hl.trans hl'⟩
  ·rw [<- hg,Nat.gcd_comm v,Nat.gcd_comm u,<- Nat.gcd_rec]
  ·have:=NmN.le_of hN (nv.sz.le (Nat.le_of_lt hlt));omega
 ·have hv:v=0:=by have:=of_decide_eq_false q;omega
  subst hv
  rw [Nat.gcd_zero_right] at hg
  subst hg
  exact ⟨_,_,_,rfl,nu,ha,hl⟩
theorem make1_c {h:Heap} {s:Bool} {A:Option Addr} {n c:Nat} {z:Int} (u:IsI h s A n c z) (hn:n<=1099511627776) :
  CallsU Tryz.prog 189 [.bool s,.slice A n c] h fun r h' => ∃ s' A' k c', r = .agg #[.bool s', .slice A' k c']/\NmI h' s' A' k c' z/\k<=n/\Le h h' := by
 apply ref02_make1_ok
 obtain ⟨v,uv,ez⟩:=u
 have ev:z.natAbs=v:=by subst ez;cases s<;>simp
 refine (r1norm_c uv (by omega)).mono ?_
 rintro _ h1 ⟨A', k,c', rfl,hk,hN,hl⟩
 have hz:=NmN.zero_iff hN
 rw [<- ev] at hN
 refine ⟨_,_,_,rfl,Br.mk (fun q=> ?_) (fun q=> ?_)⟩
 ·subst q
  refine ⟨_,_,_,_,rfl,⟨hN, ?_⟩,hk,hl⟩
  simp only [if_true] at ez
  apply decide_eq_decide.2
  omega
 ·subst q
  refine ⟨_,_,_,_,rfl,⟨hN, ?_⟩,hk,hl⟩
  simp only [Bool.false_eq_true,if_false] at ez
  symm
  apply decide_eq_false
  omega
theorem r2norm_c {h:Heap} {s:Bool} {A:Option Addr} {n c:Nat} {z:Int} (u:IsI h s A n c z) (hn:n<=1099511627776) :
  CallsU Tryz.prog 125 [.agg #[.bool s,.slice A n c]] h fun r h' => ∃ s' A' k c', r = .agg #[.bool s', .slice A' k c']/\NmI h' s' A' k c' z/\k<=n/\Le h h' := by
 apply ref02_Norm_ok
 refine (make1_c u hn).mono ?_
 rintro _ _ ⟨s', A', k,c', rfl,r⟩
 exact ⟨_,_,_,_,rfl,_,_,_,_,rfl,r⟩
theorem r2mul_c {h:Heap} {s s2:Bool} {A B:Option Addr} {n c m d:Nat} {z w:Int} (u:IsI h s A n c z) (v:IsI h s2 B m d w) (hn:n<=549755813888) (hm:m<=549755813888) :
  CallsU Tryz.prog 121 [.agg #[.bool s,.slice A n c],.agg #[.bool s2,.slice B m d]] h fun r h' => ∃ s' A' k c', r = .agg #[.bool s', .slice A' k c']/\NmI h' s' A' k c' (z*w)/\k<=n+m/\Le h h' := by
 apply ref02_Mul_ok
 obtain ⟨x,ux,rfl⟩:=u
 obtain ⟨y,uy,rfl⟩:=v
 refine (r1mul_c ux uy (by omega) (by omega)).mono ?_
 rintro _ h1 ⟨A', k,c', rfl,hN,hl⟩
 have hk:=NmN.le_of hN (ux.sz.mul uy.sz)
 refine ⟨_,_,_,rfl,(by first | assumption | exact Le.refl _),(make1_c ⟨_,hN.is,rfl⟩ (by omega)).mono ?_⟩
 rintro _ _ ⟨s', A', k,c', rfl,r,hk', hl'⟩
 exact ⟨_,_,_,_,rfl,_,_,_,_,rfl,by rw [mul_sign];exact r,by omega,hl.trans hl'⟩
theorem r2add_c {h:Heap} {s s2:Bool} {A B:Option Addr} {n c m d:Nat} {z w:Int} (u:IsI h s A n c z) (v:IsI h s2 B m d w) (hn:n<=549755813888) (hm:m<=549755813888) :
  CallsU Tryz.prog 120 [.agg #[.bool s,.slice A n c],.agg #[.bool s2,.slice B m d]] h fun r h' => ∃ s' A' k c', r = .agg #[.bool s', .slice A' k c']/\NmI h' s' A' k c' (z+w)/\k<=max n m+1/\Le h h' := by
 apply ref02_Add_ok
 obtain ⟨x,ux,rfl⟩:=u
 obtain ⟨y,uy,rfl⟩:=v
 have hsx:Sz x (max n m):=ux.sz.mono (by omega)
 have hsy:Sz y (max n m):=uy.sz.mono (by omega)
 refine Br.mk (fun q=> ?_) (fun q=> ?_)
 ·have e:s=s2:=by simpa using q
  subst e
  refine (r1add_c ux uy (by omega) (by omega)).mono ?_
  rintro _ h1 ⟨A', k,c', rfl,hN,hl⟩
  have hk:=NmN.le_of hN (hsx.add hsy)
  refine ⟨_,_,_,rfl,(by first | assumption | exact Le.refl _),(make1_c (s:=s) (z:=(if s then -(x:Int) else x)+(if s then -(y:Int) else y)) ⟨_,hN.is,by cases s<;>simp<;>omega⟩ (by omega)).mono ?_⟩
  rintro _ _ ⟨s', A', k,c', rfl,r,hk', hl'⟩
  exact ⟨_,_,_,_,rfl,_,_,_,_,rfl,r,by omega,hl.trans hl'⟩
 ·have e:s2 = !s:=by cases s<;>cases s2<;>simp at q ⊢
  subst e
  refine (r1sub_c ux uy (by omega) (by omega)).mono ?_
  rintro _ h1 (⟨hlt,rfl,rfl⟩ | ⟨hge,A1,k1,c1,rfl,hN,hl⟩)
  ·refine ⟨_,_,_,_,rfl,Br.mk (fun q=>by cases q) (fun _=> ?_)⟩
   refine (r1sub_c uy ux (by omega) (by omega)).mono ?_
   rintro _ h1 (⟨hlt2,_⟩ | ⟨hge,A1,k1,c1,rfl,hN,hl⟩)
   ·omega
   ·have hk:=NmN.le_of hN (hsy.le (Nat.sub_le _ _))
    refine ⟨_,_,_,_,rfl,(make1_c (s:= !s) (z:=(if s then -(x:Int) else x)+(if (!s)=true then -(y:Int) else y)) ⟨_,hN.is,by cases s<;>simp<;>omega⟩ (by omega)).mono ?_⟩
    rintro _ _ ⟨s', A', k,c', rfl,r,hk', hl'⟩
    exact ⟨_,_,_,_,rfl,_,_,_,_,rfl,r,by omega,hl.trans hl'⟩
  ·have hk:=NmN.le_of hN (hsx.le (Nat.sub_le _ _))
   refine ⟨_,_,_,_,rfl,Br.mk (fun _=> ?_) (fun q=>by cases q)⟩
   refine (make1_c (s:=s) (z:=(if s then -(x:Int) else x)+(if (!s)=true then -(y:Int) else y)) ⟨_,hN.is,by cases s<;>simp<;>omega⟩ (by omega)).mono ?_
   rintro _ _ ⟨s', A', k,c', rfl,r,hk', hl'⟩
   exact ⟨_,_,_,_,rfl,_,_,_,_,rfl,r,by omega,hl.trans hl'⟩
theorem r3reduce_c {h:Heap} {s:Bool} {A B:Option Addr} {n c m d:Nat} {z:Int} {v:Nat} (u:IsI h s A n c z) (w:IsN h B m d v) (hv:v≠0) (hn:n<=1073741824) (hm:m<=1073741824) :
  CallsU Tryz.prog 70 [.bool s,.slice A n c,.slice B m d] h fun r h' => ∃ s' A' n' c' B' m' d', r = .agg #[.bool s', .slice A' n' c', .slice B' m' d']/\NmQ h' s' A' n' c' B' m' d' (mkRat z v)/\n' <= n/\m' <= m/\Le h h' := by
 apply ref03_reduce_ok
 have un:=u.natAbs
 obtain ⟨e1,e2⟩:=mkRat_num (z:=z) hv
 refine (r1gcd_c un w hn hm).mono ?_
 rintro _ h1 ⟨A1,k1,c1,rfl,hN1,hk1,hl1⟩
 have hg:Nat.gcd z.natAbs v≠0:=by have:=Nat.gcd_pos_of_pos_right z.natAbs (show 0<v by omega);omega
 refine ⟨_,_,_,rfl,(r1divmod_c (un.mono hl1) hN1.is hn (by omega) hg).mono ?_⟩
 rintro _ h2 ⟨A2,k2,c2,A3,k3,c3,rfl,hN2,_,hl2⟩
 refine ⟨_,_,_,_,_,_,_,rfl,(r1divmod_c (w.mono (hl1.trans hl2)) (hN1.mono hl2).is hm (by omega) hg).mono ?_⟩
 rintro _ h3 ⟨A4,k4,c4,A5,k5,c5,rfl,hN4,_,hl3⟩
 have hk2:=NmN.le_of hN2 (un.sz.le (Nat.div_le_self _ _))
 have hk4:=NmN.le_of hN4 (w.sz.le (Nat.div_le_self _ _))
 have hI:IsI h3 s A2 k2 c2 (mkRat z v).num:=by
  refine ⟨_,(hN2.mono hl3).is, ?_⟩
  rw [<- e1]
  have hs:=mkRat_sign (z:=z) hv
  obtain ⟨x,_,ez⟩:=u
  have:(mkRat z v).num=0↔z=0:=by rw [Rat.num_eq_zero];exact Rat.mkRat_eq_zero hv
  cases s<;>simp at ez ⊢ <;> omega
 refine ⟨_,_,_,_,_,_,_,rfl,(r2norm_c hI (by omega)).mono ?_⟩
 rintro _ h4 ⟨s', A6,k6,c6,rfl,hN6,hk6,hl4⟩
 refine ⟨_,_,_,_,rfl,_,_,_,_,_,_,_,rfl,⟨hN6, ?_⟩,by omega,hk4,((hl1.trans hl2).trans hl3).trans hl4⟩
 rw [e2]
 exact hN4.mono hl4
theorem r3zero_c {h:Heap} {s:Bool} {A B:Option Addr} {n c m d:Nat} {z:Int} {v:Nat} (u:IsI h s A n c z) (w:IsN h B m d v) (hn:n<=1099511627776) (hm:m<=1099511627776) :
  CallsU Tryz.prog 188 [.agg #[.bool s,.slice A n c,.slice B m d]] h fun r h' => r = .bool (decide (z=0\/v=0))/\Le h h' := by
 apply ref03_Zero_ok
 refine (r1norm_c u.natAbs (by omega)).mono ?_
 rintro _ h1 ⟨A1,k1,c1,rfl,_,hN1,hl1⟩
 have hz1:=NmN.zero_iff hN1
 refine ⟨_,_,_,rfl,Br.mk (fun q=> ?_) (fun q=> ?_)⟩
 ·have q' : k1=0:=by have:=beq_iff_eq.1 q;omega
  have:=hz1.1 q'
  rw [decide_eq_true (Or.inl (by omega))]
  exact ⟨rfl,hl1⟩
 ·have q' : k1≠0:=by have:=beq_eq_false_iff_ne.1 q;omega
  refine (r1norm_c (w.mono hl1) (by omega)).mono ?_
  rintro _ h2 ⟨A2,k2,c2,rfl,_,hN2,hl2⟩
  have hz2:=NmN.zero_iff hN2
  refine ⟨_,_,_,rfl, ?_,hl1.trans hl2⟩
  congr 1
  rw [Bool.eq_iff_iff,beq_iff_eq,decide_eq_true_eq]
  omega
theorem r3norm_c {h:Heap} {s:Bool} {A B:Option Addr} {n c m d:Nat} {q:Rat} (u:IsQ h s A n c B m d q) (hn:n<=1073741824) (hm:m<=1073741824) :
  CallsU Tryz.prog 119 [.agg #[.bool s,.slice A n c,.slice B m d]] h fun r h' => ∃ s' A' n' c' B' m' d', r = .agg #[.bool s', .slice A' n' c', .slice B' m' d']/\NmQ h' s' A' n' c' B' m' d' q/\n' <= max n 2/\m' <= max m 2/\Le h h' := by
 apply ref03_Norm_ok
 obtain ⟨z,v,uz,uv,rfl⟩:=u
 refine (r3zero_c uz uv (by omega) (by omega)).mono ?_
 rintro _ h1 ⟨rfl,hl1⟩
 refine ⟨_,rfl,Br.mk (fun b=> ?_) (fun b=> ?_)⟩
 ·have b' := of_decide_eq_true b
  refine (whole_c 0 (by omega) (by omega) h1).mono ?_
  rintro _ h2 ⟨s2,A2,n2,c2,B2,m2,d2,rfl,hN,hn2,hm2,hl2⟩
  have e:mkRat z v=((0:Int):Rat):=by
   rcases b' with e | e
   ·rw [e];simp
   ·rw [e];simp
  rw [<- e] at hN
  exact ⟨_,_,_,_,_,_,_,rfl,_,_,_,_,_,_,_,rfl,hN,by omega,by omega,hl1.trans hl2⟩
 ·have b' := of_decide_eq_false b
  refine (r3reduce_c (uz.mono hl1) (uv.mono hl1) (fun e=>b' (Or.inr e)) hn hm).mono ?_
  rintro _ h2 ⟨s2,A2,n2,c2,B2,m2,d2,rfl,hN,hn2,hm2,hl2⟩
  exact ⟨_,_,_,_,_,_,_,rfl,_,_,_,_,_,_,_,rfl,hN,by omega,by omega,hl1.trans hl2⟩
theorem mkRat_add {z w:Int} {v u:Nat} (hv:v≠0) (hu:u≠0):mkRat (z*u+w*v) (v*u)=mkRat z v+mkRat w u:=by
 rw [Rat.mkRat_add_mkRat _ _ hv hu]
theorem r3add_b {h:Heap} {s s2:Bool} {A B C D:Option Addr} {n c m d n2 c2 m2 d2:Nat} {q p:Rat} (u:IsQ h s A n c B m d q) (w:IsQ h s2 C n2 c2 D m2 d2 p) (hn:n<=134217728) (hm:m<=134217728) (hn2:n2<=134217728) (hm2:m2<=134217728) :
  CallsU Tryz.prog 68 [.agg #[.bool s,.slice A n c,.slice B m d],.agg #[.bool s2,.slice C n2 c2,.slice D m2 d2]] h fun r h' => ∃ s' A' n' c' B' m' d', r = .agg #[.bool s', .slice A' n' c', .slice B' m' d']/\NmQ h' s' A' n' c' B' m' d' (q+p)/\n' <= max (max n 2+max m2 2) (max n2 2+max m 2)+1/\m' <= max m 2+max m2 2/\Le h h' := by
 apply ref03_Add_ok
 refine (r3norm_c u (by omega) (by omega)).mono ?_
 rintro _ h1 ⟨s1,A1,n1,c1,B1,m1,d1,rfl,nq,hn1,hm1,hl1⟩
 refine ⟨_,_,_,_,_,_,_,rfl,(by first | assumption | exact Le.refl _),(r3norm_c (w.mono hl1) (by omega) (by omega)).mono ?_⟩
 rintro _ h2 ⟨s3,A3,n3,c3,B3,m3,d3,rfl,np,hn3,hm3,hl2⟩
 have nq2:=nq.mono hl2
 refine ⟨_,_,_,_,_,_,_,rfl,(r2mul_c nq2.1.is (IsI.pos np.2.is) (by omega) (by omega)).mono ?_⟩
 rintro _ h3 ⟨s4,A4,k4,c4,rfl,hN4,hk4,hl3⟩
 refine ⟨_,_,_,_,rfl,(by first | assumption | exact Le.refl _),(r2mul_c (np.1.mono hl3).is (IsI.pos (nq2.2.mono hl3).is) (by omega) (by omega)).mono ?_⟩
 rintro _ h4 ⟨s5,A5,k5,c5,rfl,hN5,hk5,hl4⟩
 refine ⟨_,_,_,_,rfl,(r2add_c (hN4.mono hl4).is hN5.is (by omega) (by omega)).mono ?_⟩
 rintro _ h5 ⟨s6,A6,k6,c6,rfl,hN6,hk6,hl5⟩
 have hl25:=(hl3.trans hl4).trans hl5
 refine ⟨_,_,_,_,rfl,(r1mul_c (nq2.2.mono hl25).is (np.2.mono hl25).is (by omega) (by omega)).mono ?_⟩
 rintro _ h6 ⟨A7,k7,c7,rfl,hN7,hl6⟩
 have hk7:=NmN.le_of hN7 (nq2.2.sz.mul np.2.sz)
 refine ⟨_,_,_,rfl,(by first | assumption | exact Le.refl _),(r3reduce_c (hN6.mono hl6).is hN7.is (Nat.mul_ne_zero q.den_nz p.den_nz) (by omega) (by omega)).mono ?_⟩
 rintro _ h7 ⟨s8,A8,n8,c8,B8,m8,d8,rfl,hN8,b1,b2,hl7⟩
 rw [mkRat_add q.den_nz p.den_nz,Rat.mkRat_self,Rat.mkRat_self] at hN8
 exact ⟨_,_,_,_,_,_,_,rfl,_,_,_,_,_,_,_,rfl,hN8,by omega,by omega,((hl1.trans hl2).trans hl25).trans (hl6.trans hl7)⟩
end Go.Proofs.YtfglcgbgaeegaaaGreatDoor

namespace Go.Proofs.YtfglcgbgaeegaaaGreatDoor
open Go Go.Vcg
theorem rat_of_mk (x:Rat):x=mkRat x.num x.den:=(Rat.mkRat_self x).symm
end Go.Proofs.YtfglcgbgaeegaaaGreatDoor

namespace Go.Proofs.YtfglcgbgaeegaaaGreatDoor
open Go Go.Vcg
attribute [local irreducible] Br
theorem r3of_c (z w:Int) (hz1 : -9223372036854775808<=z) (hz2:z<9223372036854775808) (hw1 : -9223372036854775808<=w) (hw2:w<9223372036854775808) (hw:w≠0) (h:Heap) :
  CallsU Tryz.prog 36 [.int .i64 z,.int .i64 w] h fun r h' => ∃ s' A' n' c' B' m' d', r = .tuple #[.agg #[.bool s', .slice A' n' c', .slice B' m' d'],.bool true]/\NmQ h' s' A' n' c' B' m' d' ((z:Rat)/(w:Rat))/\n' <= 2/\m' <= 2/\Le h h' := by
 apply ref03_Of_ok
 refine Br.mk (fun q=>by simp at q;omega) (fun _=> ?_)
 refine (r2of_c z hz1 hz2 h).mono ?_
 rintro _ h1 ⟨s1,A1,k1,c1,rfl,n1,hk1,hl1⟩
 refine ⟨_,_,_,_,rfl,(r2of_c w hw1 hw2 h1).mono ?_⟩
 rintro _ h2 ⟨s2,A2,k2,c2,rfl,n2,hk2,hl2⟩
 have e1:=n1.2
 have e2:=n2.2
 have hI:IsI h2 (!(s1==s2)) A1 k1 c1 (if w<0 then -z else z):=by
  refine ⟨_,(n1.mono hl2).1.is, ?_⟩
  rw [e1,e2]
  by_cases a:z<0<;>by_cases b:w<0<;>simp [a,b]<;>omega
 refine ⟨_,_,_,_,rfl,(r3reduce_c hI n2.1.is (by omega) (by omega) (by omega)).mono ?_⟩
 rintro _ h3 ⟨s3,A3,n3,c3,B3,m3,d3,rfl,hN,hn3,hm3,hl3⟩
 have e:mkRat (if w<0 then -z else z) w.natAbs=(z:Rat)/(w:Rat):=by
  rw [Rat.mkRat_eq_div]
  by_cases b:w<0
  ·simp only [b,if_true]
   have:((w.natAbs:Nat):Rat) = -(w:Rat):=by rw [<- Rat.intCast_natCast,<- Rat.intCast_neg];congr 1;omega
   rw [this,Rat.intCast_neg]
   grind
  ·simp only [b,if_false]
   have:((w.natAbs:Nat):Rat)=(w:Rat):=by rw [<- Rat.intCast_natCast];congr 1;omega
   rw [this]
 rw [e] at hN
 exact ⟨_,_,_,_,_,_,_,rfl,_,_,_,_,_,_,_,rfl,hN,by omega,by omega,(hl1.trans hl2).trans hl3⟩
end Go.Proofs.YtfglcgbgaeegaaaGreatDoor

namespace Go.Proofs.YtfglcgbgaeegaaaGreatDoor
open Go Go.Vcg Go.RowKit Go.Sort
attribute [local irreducible] Br
def gx (o:Except Int Ex):Ex:=match o with | .ok x=>x | .error _=> .mk 0 0 0 0 [] []
def prB (o:Except Int (List UInt8)) (t:List UInt8):Bool:=match o with | .ok x=>x==t | .error _=>false
theorem prB_ok {o:Except Int (List UInt8)} {t:List UInt8} (h:prB o t=true):o = .ok t:=by
 cases o with
 | ok x=>rw [eq_of_beq h]
 | error e=>cases h
mutual
theorem evV_lk {ms ms' : List Meas} (h : ∀ nm,lookV ms nm=lookV ms' nm) : ∀ e:Ex,evV ms e=evV ms' e
 | .mk k q n m nm kids=>by
  rw [evV,evV,evL_lk h kids]
  have : ∀ vs,apV ms k q nm vs=apV ms' k q nm vs:=fun vs=>by unfold apV;rw [h]
  simp only [this]
theorem evL_lk {ms ms' : List Meas} (h : ∀ nm,lookV ms nm=lookV ms' nm) : ∀ es:List Ex,evL ms es=evL ms' es
 | []=>by rw [evL,evL]
 | e::es=>by rw [evL,evL,evV_lk h e,evL_lk h es]
end
theorem evalV_lk {ms ms' : List Meas} (h : ∀ nm,lookV ms nm=lookV ms' nm) (e:Ex):evalV ms e=evalV ms' e:=by
 unfold evalV;rw [evV_lk h e]
mutual
def leftV:Ex->Int->Int->Int
 | .mk _ _ n m nm kids,most,deep=>if most<1\/deep<1\/60<nm.length\/4<n\/4<m then -1 else leftL kids (most-1) (deep-1)
def leftL:List Ex->Int->Int->Int
 | [],most,_=>most
 | e::es,most,deep=>if most<0 then most else leftL es (leftV e most deep) deep
end
mutual
theorem leftV_ub : ∀ (e:Ex) (most deep:Int),0<=most-> -1<=leftV e most deep/\leftV e most deep<=most-1
 | .mk _ _ n m nm kids,most,deep,h=>by
  rw [leftV]
  split
  ·omega
  ·have:=leftL_ub kids (most-1) (deep-1) (by omega)
   omega
theorem leftL_ub : ∀ (es:List Ex) (most deep:Int),-1<=most-> -1<=leftL es most deep/\leftL es most deep<=most
 | [],most,deep,h=>by rw [leftL];omega
 | e::es,most,deep,h=>by
  rw [leftL]
  split
  ·omega
  ·have h1:=leftV_ub e most deep (by omega)
   have h2:=leftL_ub es (leftV e most deep) deep (by omega)
   omega
end
mutual
def cntE:Ex->Nat
 | .mk _ _ _ _ _ kids=>1+cntL kids
def cntL:List Ex->Nat
 | []=>0
 | e::es=>cntE e+cntL es
end
mutual
theorem names_cnt : ∀ e:Ex,(namesE e).length<=cntE e
 | .mk k _ _ _ nm kids=>by
  rw [namesE,cntE,List.length_append]
  have:=namesL_cnt kids
  split<;>simp<;>omega
theorem namesL_cnt : ∀ es:List Ex,(namesL es).length<=cntL es
 | []=>by rw [namesL,cntL];simp
 | e::es=>by
  rw [namesL,cntL,List.length_append]
  have h1:=names_cnt e
  have h2:=namesL_cnt es
  omega
end
theorem cntE_pos (e:Ex):0<cntE e:=by cases e;rw [cntE];omega
theorem cntL_len : ∀ es:List Ex,es.length<=cntL es
 | []=>by rw [cntL];simp
 | e::es=>by
  rw [cntL,List.length_cons]
  have h1:=cntE_pos e
  have h2:=cntL_len es
  omega
theorem leftL_neg : ∀ (es:List Ex) (most deep:Int),most<0->leftL es most deep=most
 | [],most,deep,h=>by rw [leftL]
 | e::es,most,deep,h=>by rw [leftL,if_pos h]
mutual
theorem leftV_ok : ∀ (e:Ex) (most deep:Int),most<=1000->0<=leftV e most deep->Szs e/\(cntE e:Int)+leftV e most deep<=most
 | .mk _ _ n m nm kids,most,deep,hm,h=>by
  rw [leftV] at h ⊢
  split at h
  ·omega
  ·rename_i q
   rw [if_neg q]
   obtain ⟨h1,h2⟩:=leftL_ok kids (most-1) (deep-1) (by omega) h
   have h3:=cntL_len kids
   rw [cntE]
   unfold Szs
   exact ⟨⟨by omega,by omega,by omega,by omega,h1⟩,by omega⟩
theorem leftL_ok : ∀ (es:List Ex) (most deep:Int),most<=1000->0<=leftL es most deep->SzsL es/\(cntL es:Int)+leftL es most deep<=most
 | [],most,deep,hm,h=>by
  rw [leftL,cntL]
  unfold SzsL
  exact ⟨trivial,by omega⟩
 | e::es,most,deep,hm,h=>by
  rw [leftL] at h ⊢
  split at h
  ·omega
  ·rename_i q
   rw [if_neg q]
   have hu:=leftV_ub e most deep (by omega)
   have hv:0<=leftV e most deep:=by
    rcases Int.lt_or_le (leftV e most deep) 0 with q2 | q2
    ·rw [leftL_neg es _ _ q2] at h;exact h
    ·exact q2
   obtain ⟨h1,h2⟩:=leftV_ok e most deep hm hv
   obtain ⟨h3,h4⟩:=leftL_ok es (leftV e most deep) deep (by omega) h
   rw [cntL]
   unfold SzsL
   exact ⟨⟨h1,h3⟩,by omega⟩
end
def LfOk (e:Ex):Prop:= ∀ {h:Heap} {vs:List Value} (most deep:Int),IsE h e vs-> -1<=most->most<=1000-> -1000<=deep->deep<=1000->
 CallsU Tryz.prog 88 [.agg vs.toArray,.int .i64 most,.int .i64 deep] h fun r h' => r = .int .i64 (leftV e most deep)/\h=h'
theorem rLeft_node {k:Int} {q0:Rat} {n m:Nat} {nm:List UInt8} {kids:List Ex} (ih:evAll LfOk kids):LfOk (.mk k q0 n m nm kids):=by
 intro h vs most deep u hm1 hm2 hd1 hd2
 obtain ⟨s,A,c,B,d,K,kc,rfl,uq,hc,hk⟩:=u.open
 simp only [Ex.kind,Ex.kids,Ex.ln,Ex.lm,Ex.val,Ex.name] at uq hc hk
 apply ref17_Left_ok
 unfold ref17_Left_vc
 have hlen:(Ex.mk k q0 n m nm kids).kids.length=kids.length:=rfl
 rw [hlen,ba_size,leftV]
 show ∃ C:Bool->Heap->Prop,_
 refine ⟨fun t h' => h=h' /\ (t=true↔(most<1\/deep<1\/60<nm.length\/4<n\/4<m)), ?_, ?_⟩
 ·rintro t _ ⟨rfl,ht⟩
  refine Br.mk (fun q=> ?_) (fun q=> ?_)
  ·rw [if_pos (ht.1 q)]
   exact ⟨rfl,rfl⟩
  ·have hn : ¬ (most<1\/deep<1\/60<nm.length\/4<n\/4<m):=fun q2=>by rw [ht.2 q2] at q;cases q
   rw [if_neg hn]
   rintro _ rfl
   rw [wrap_i64 (by omega) (by omega)]
   refine ⟨fun mm mo i h' => ∃ j,j<=kids.length/\mm=kids.length-j/\i=(j:Int)/\h=h' /\ -1<=mo/\mo+j<=most-1/\leftL (kids.drop j) mo (deep-1)=leftL kids (most-1) (deep-1),⟨kids.length,0,by omega,by omega,rfl,rfl,by omega,by omega,by simp⟩, ?_⟩
   rintro mm mo _ _ ⟨j,hj,rfl,rfl,rfl,hmo1,hmo2,heq⟩
   refine ⟨fun t h' => h=h' /\ (t=true↔(j<kids.length/\0<=mo)), ?_, ?_⟩
   ·rintro t _ ⟨rfl,ht⟩
    refine Br.mk (fun q=> ?_) (fun q=> ?_)
    ·obtain ⟨hlt,h0⟩:=ht.1 q
     obtain ⟨x,hx⟩ : ∃ x,kids[j]?=some x:=⟨_,List.getElem?_eq_getElem hlt⟩
     obtain ⟨ad,vs', eA', hld,ux⟩:=kid_ld (e:= .mk k q0 n m nm kids) hk hx
     have ux' := ux
     obtain ⟨s', A', c', B', d', K', kc', rfl,_,_,_⟩:=ux'.open
     refine ⟨ad,eA', by omega,by omega,_,_,_,_,_,_,_,_,_,_,_,_,by rw [Int.toNat_natCast];exact hld, ?_⟩
     rintro _ rfl
     rw [wrap_i64 (by omega) (by omega)]
     refine ((ih.get hx) mo (deep-1) ux hmo1 (by omega) (by omega) (by omega)).mono ?_
     rintro _ _ ⟨rfl,rfl⟩
     refine ⟨_,rfl, ?_⟩
     rintro _ rfl
     have hub:=leftV_ub x mo (deep-1) h0
     refine ⟨kids.length-(j+1),by omega,j+1,by omega,rfl,wi (by omega) (by omega),rfl,by omega,by omega, ?_⟩
     rw [<- heq,List.drop_eq_getElem_cons hlt,leftL,if_neg (by omega)]
     have ex:kids[j]=x:=by rw [List.getElem?_eq_getElem hlt] at hx;exact Option.some.inj hx
     rw [ex]
    ·have hn : ¬ (j<kids.length/\0<=mo):=fun q2=>by rw [ht.2 q2] at q;cases q
     refine ⟨?_,rfl⟩
     rw [<- heq]
     rcases Int.lt_or_le mo 0 with q2 | q2
     ·rw [leftL_neg _ _ _ q2]
     ·have:j=kids.length:=by omega
      subst this
      rw [List.drop_length,leftL]
   ·refine Br.mk (fun q=>⟨rfl, ?_⟩) (fun q=>⟨rfl, ?_⟩)
    ·have:=of_decide_eq_true q
     rw [decide_eq_true_eq]
     omega
    ·have:=of_decide_eq_false q
     constructor
     ·intro q;cases q
     ·intro q;omega
 ·refine Br.mk (fun q1=>⟨rfl,fun _=>Or.inl (of_decide_eq_true q1),fun _=>rfl⟩) (fun q1=>Br.mk (fun q2=>⟨rfl,fun _=>Or.inr (Or.inl (of_decide_eq_true q2)),fun _=>rfl⟩) (fun q2=>Br.mk (fun q3=>⟨rfl,fun _=> ?_,fun _=>rfl⟩) (fun q3=>Br.mk (fun q4=>⟨rfl,fun _=> ?_,fun _=>rfl⟩) (fun q4=>⟨rfl, ?_⟩))))
  ·have:=of_decide_eq_true q3
   have h60:60<nm.length:=Int.ofNat_lt.1 this
   omega
  ·have:=of_decide_eq_true q4
   have h60:4<n:=Int.ofNat_lt.1 this
   omega
  ·have a1:=of_decide_eq_false q1
   have a2:=of_decide_eq_false q2
   have a3 : ¬ 60<nm.length:=fun q=>of_decide_eq_false q3 (Int.ofNat_lt.2 q)
   have a4 : ¬ 4<n:=fun q=>of_decide_eq_false q4 (Int.ofNat_lt.2 q)
   rw [decide_eq_true_eq]
   constructor
   ·intro q
    have:4<m:=Int.ofNat_lt.1 q
    omega
   ·intro q
    have:4<m:=by omega
    exact Int.ofNat_lt.2 this
mutual
theorem rLeft_all : ∀ e:Ex,LfOk e
 | .mk _ _ _ _ _ kids=>rLeft_node (rLeft_allL kids)
theorem rLeft_allL : ∀ es:List Ex,evAll LfOk es
 | []=>trivial
 | e::es=>⟨rLeft_all e,rLeft_allL es⟩
end
theorem rSmall_c {e:Ex} {h:Heap} {vs:List Value} (u:IsE h e vs):CallsU Tryz.prog 45 [.agg vs.toArray] h fun r h' => r = .bool (decide (0<=leftV e 60 20))/\h=h' := by
 have u' := u
 obtain ⟨s,A0,c0,B,d,K,kc,rfl,_⟩:=u'.open
 apply ref17_Small_ok
 refine ((rLeft_all e) 60 20 u (by omega) (by omega) (by omega) (by omega)).mono ?_
 rintro _ _ ⟨rfl,rfl⟩
 exact ⟨_,rfl,rfl,rfl⟩
theorem small_ok {e:Ex} (h:0<=leftV e 60 20):Szs e/\cntE e<=60/\(namesE e).length<=60:=by
 obtain ⟨h1,h2⟩:=leftV_ok e 60 20 (by omega) h
 have:=names_cnt e
 exact ⟨h1,by omega,by omega⟩
structure EnvA (h:Heap) (A:Option Addr) (n c:Nat) (ms:List Meas):Prop where
 len:n=ms.length
 cap:n<=c
 mem:ms≠[]-> ∃ (ad:Addr) (b:Blk),A=some ad/\ad.spot=none/\h ad.block=some b/\IsMs h ms (b.cells.drop ad.off)
def briefV (ms:List Meas):Bool:=decide (ms.length<=20)&&ms.all fun x=>decide (x.name.length<=60/\x.ln<=2/\x.lm<=2)
theorem EnvA.s {h:Heap} {A:Option Addr} {n c:Nat} {ms:List Meas} (u:EnvA h A n c ms) (hb:briefV ms=true):EnvS h A n c ms:=by
 unfold briefV at hb
 rw [Bool.and_eq_true,decide_eq_true_eq,List.all_eq_true] at hb
 refine ⟨u.len,u.cap,by omega,fun x hx=> ?_,u.mem⟩
 have:=hb.2 x hx
 rw [decide_eq_true_eq] at this
 omega
theorem rBrief_c {h:Heap} {A:Option Addr} {n c:Nat} {ms:List Meas} (u:EnvA h A n c ms) :
  CallsU Tryz.prog 30 [.slice A n c] h fun r h' => r = .bool (briefV ms)/\h=h' := by
 apply ref17_Brief_ok
 have hlen:=u.len
 refine ⟨fun m i h' => ∃ k,k<=ms.length/\k<=21/\m=ms.length-k/\i=(k:Int)/\h=h' /\ ∀ j x,j<k->ms[j]?=some x->x.name.length<=60/\x.ln<=2/\x.lm<=2,⟨ms.length,0,by omega,by omega,by omega,rfl,rfl,fun j x hj=>by omega⟩, ?_⟩
 rintro m _ _ ⟨k,hk,hk21,rfl,rfl,rfl,hall⟩
 have bad : ∀ x,ms[k]?=some x-> ¬ (x.name.length<=60/\x.ln<=2/\x.lm<=2)->briefV ms=false:=fun x hx hn=>by
  unfold briefV
  rw [Bool.and_eq_false_iff]
  refine Or.inr ?_
  rw [List.all_eq_false]
  exact ⟨x,List.mem_of_getElem? hx,by rw [decide_eq_true_eq];exact hn⟩
 refine ⟨fun t h' => h=h' /\ (t=true↔k<ms.length/\k<=20), ?_, ?_⟩
 ·rintro t _ ⟨rfl,ht⟩
  refine Br.mk (fun q=> ?_) (fun q=> ?_)
  ·obtain ⟨hlt,h20⟩:=ht.1 q
   obtain ⟨x,hx⟩ : ∃ x,ms[k]?=some x:=⟨_,List.getElem?_eq_getElem hlt⟩
   obtain ⟨ad,b,a1,a2,a3,a4⟩:=u.mem (fun q=>by rw [q] at hx;simp at hx)
   obtain ⟨s,A', c', B,d,e,uq⟩:=a4.get hx
   rw [List.drop_drop] at e
   have cell : ∀ (i:Nat) (v:Value),i<4->([sv x.name,.bool s,.slice A' x.ln c', .slice B x.lm d]:List Value)[i]?=some v->b.cells[ad.off+k*4+i]?=some v:=by
    intro i v hi hv
    rw [<- e,List.getElem?_take_of_lt hi,List.getElem?_drop] at hv
    exact hv
   rw [Int.toNat_natCast]
   refine ⟨ad,a1,by omega,by omega,⟨x.name.toArray⟩, ?_, ?_⟩
   ·exact ld_of (i:=0) (addr_spot _ _ a2) (by rw [addr_block];exact a3) (by rw [addr_off];exact cell 0 _ (by omega) rfl)
   rw [ba_size]
   refine Br.mk (fun q1=> ?_) (fun q1=>⟨ad,a1,by omega,by omega,A', x.ln,c', ?_, ?_⟩)
   ·have:=of_decide_eq_true q1
    rw [bad x hx (by omega)]
    exact ⟨rfl,rfl⟩
   ·refine ld_of (i:=1) (addr_spot _ _ (addr_spot _ _ (addr_spot _ _ a2))) (by rw [addr_block,addr_block,addr_block];exact a3) ?_
    rw [addr_off,addr_off,addr_off]
    exact cell 2 _ (by omega) rfl
   refine Br.mk (fun q2=> ?_) (fun q2=>⟨ad,a1,by omega,by omega,B,x.lm,d, ?_, ?_⟩)
   ·have:=of_decide_eq_true q2
    rw [bad x hx (by omega)]
    exact ⟨rfl,rfl⟩
   ·refine ld_of (i:=2) (addr_spot _ _ (addr_spot _ _ a2)) (by rw [addr_block,addr_block];exact a3) ?_
    rw [addr_off,addr_off]
    exact cell 3 _ (by omega) rfl
   refine Br.mk (fun q3=> ?_) (fun q3=> ?_)
   ·have:=of_decide_eq_true q3
    rw [bad x hx (by omega)]
    exact ⟨rfl,rfl⟩
   ·have b1:=of_decide_eq_false q1
    have b2:=of_decide_eq_false q2
    have b3:=of_decide_eq_false q3
    rintro _ rfl
    refine ⟨ms.length-(k+1),by omega,k+1,by omega,by omega,rfl,wi (by omega) (by omega),rfl,fun j y hj hy=> ?_⟩
    rcases Nat.lt_succ_iff_lt_or_eq.1 hj with q | q
    ·exact hall j y q hy
    ·subst q
     rw [hx] at hy
     cases hy
     omega
  ·have hn : ¬ (k<ms.length/\k<=20):=fun q2=>by rw [ht.2 q2] at q;cases q
   refine ⟨?_,rfl⟩
   unfold briefV
   rcases Nat.lt_or_ge 20 ms.length with q2 | q2
   ·rw [decide_eq_false (by omega),decide_eq_false (by omega)];rfl
   ·have hk' : k=ms.length:=by omega
    subst hk'
    rw [decide_eq_true (by omega),decide_eq_true (by omega),Bool.true_and]
    congr 1
    symm
    rw [List.all_eq_true]
    intro x hx
    obtain ⟨i,hi⟩:=List.getElem?_of_mem hx
    rw [decide_eq_true_eq]
    exact hall i x (List.getElem?_eq_some_iff.1 hi).1 hi
 ·refine Br.mk (fun q=>⟨rfl, ?_⟩) (fun q=>⟨rfl, ?_⟩)
  ·have:=of_decide_eq_true q
   rw [decide_eq_true_eq]
   omega
  ·have:=of_decide_eq_false q
   constructor
   ·intro q;cases q
   ·intro q;omega
theorem rSameNat_c {h:Heap} {A B:Option Addr} {n c m d:Nat} {xs ys:List Nat} (u:U32 h A n c xs) (w:U32 h B m d ys) (hn:n<=1099511627776) :
  CallsU Tryz.prog 118 [.slice A n c,.slice B m d] h fun r h' => r = .bool (decide (xs=ys))/\h=h' := by
 apply ref08_sameNat_ok
 have l1:xs.length=n:=u.1
 have l2:ys.length=m:=w.1
 refine Br.mk (fun q=> ?_) (fun q=> ?_)
 ·have:n≠m:=fun e=>by subst e;simp at q
  rw [decide_eq_false (fun e=>this (by rw [<- l1,<- l2,e]))]
  exact ⟨rfl,rfl⟩
 ·have hnm:n=m:=by
   have:(((n:Nat):Int) != ((m:Nat):Int))=false:=q
   simp only [bne_eq_false_iff_eq] at this
   omega
  subst hnm
  refine ⟨fun mm i h' => ∃ k,k<=n/\mm=n-k/\i=(k:Int)/\h=h' /\ ∀ j,j<k->xs.getD j 0=ys.getD j 0,⟨n,0,by omega,by omega,rfl,rfl,fun j hj=>by omega⟩, ?_⟩
  rintro mm _ _ ⟨k,hk,rfl,rfl,rfl,hall⟩
  refine Br.mk (fun q2=> ?_) (fun q2=> ?_)
  ·have hlt:k<n:=by have:=of_decide_eq_true q2;omega
   obtain ⟨ad,eA,hld⟩:=u.get hlt
   obtain ⟨ad2,eB,hld2⟩:=w.get hlt
   rw [Int.toNat_natCast]
   refine ⟨ad,eA,by omega,by omega,_,hld,ad2,eB,by omega,by omega,_,hld2,Br.mk (fun q3=> ?_) (fun q3=> ?_)⟩
   ·have hne:xs.getD k 0≠ys.getD k 0:=fun e=>by rw [e] at q3;simp at q3
    rw [decide_eq_false (fun e=>hne (by rw [e]))]
    exact ⟨rfl,rfl⟩
   ·have he:xs.getD k 0=ys.getD k 0:=by
     have:(((xs.getD k 0:Nat):Int) != ((ys.getD k 0:Nat):Int))=false:=q3
     simp only [bne_eq_false_iff_eq] at this
     omega
    rintro _ rfl
    refine ⟨n-(k+1),by omega,k+1,by omega,rfl,wi (by omega) (by omega),rfl,fun j hj=> ?_⟩
    rcases Nat.lt_succ_iff_lt_or_eq.1 hj with q | q
    ·exact hall j q
    ·subst q;exact he
  ·have hk' : k=n:=by have:=of_decide_eq_false q2;omega
   subst hk'
   have:xs=ys:=by
    apply List.ext_getElem?
    intro i
    rcases Nat.lt_or_ge i k with q | q
    ·have h1:=hall i q
     rw [List.getD_eq_getElem?_getD,List.getD_eq_getElem?_getD] at h1
     rw [List.getElem?_eq_getElem (by omega),List.getElem?_eq_getElem (by omega)] at h1 ⊢
     simpa using h1
    ·rw [List.getElem?_eq_none (by omega),List.getElem?_eq_none (by omega)]
   rw [decide_eq_true this]
   exact ⟨rfl,rfl⟩
theorem r2same_c {h:Heap} {s s2:Bool} {A B:Option Addr} {n c m d:Nat} {xs ys:List Nat} (u:U32 h A n c xs) (w:U32 h B m d ys) (hn:n<=1099511627776) :
  CallsU Tryz.prog 117 [.agg #[.bool s,.slice A n c],.agg #[.bool s2,.slice B m d]] h fun r h' => r = .bool (decide (s=s2/\xs=ys))/\h=h' := by
 apply ref02_Same_ok
 have l1:xs.length=n:=u.1
 have l2:ys.length=m:=w.1
 refine ⟨fun t h' => h=h' /\ (t=true-> ¬ (s=s2/\xs=ys))/\(t=false->s=s2/\n=m), ?_, ?_⟩
 ·rintro t _ ⟨rfl,ht,hf⟩
  refine Br.mk (fun q=> ?_) (fun q=> ?_)
  ·rw [decide_eq_false (ht q)];exact ⟨rfl,rfl⟩
  ·obtain ⟨rfl,hnm⟩:=hf q
   subst hnm
   refine ⟨fun mm i h' => ∃ k,k<=n/\mm=n-k/\i=(k:Int)/\h=h' /\ ∀ j,j<k->xs.getD j 0=ys.getD j 0,⟨n,0,by omega,by omega,rfl,rfl,fun j hj=>by omega⟩, ?_⟩
   rintro mm _ _ ⟨k,hk,rfl,rfl,rfl,hall⟩
   refine Br.mk (fun q2=> ?_) (fun q2=> ?_)
   ·have hlt:k<n:=by have:=of_decide_eq_true q2;omega
    obtain ⟨ad,eA,hld⟩:=u.get hlt
    obtain ⟨ad2,eB,hld2⟩:=w.get hlt
    rw [Int.toNat_natCast]
    refine ⟨ad,eA,by omega,by omega,_,hld,ad2,eB,by omega,by omega,_,hld2,Br.mk (fun q3=> ?_) (fun q3=> ?_)⟩
    ·have hne:xs.getD k 0≠ys.getD k 0:=fun e=>by rw [e] at q3;simp at q3
     rw [decide_eq_false (fun e=>hne (by rw [e.2]))]
     exact ⟨rfl,rfl⟩
    ·have he:xs.getD k 0=ys.getD k 0:=by
      have:(((xs.getD k 0:Nat):Int) != ((ys.getD k 0:Nat):Int))=false:=q3
      simp only [bne_eq_false_iff_eq] at this
      omega
     rintro _ rfl
     refine ⟨n-(k+1),by omega,k+1,by omega,rfl,wi (by omega) (by omega),rfl,fun j hj=> ?_⟩
     rcases Nat.lt_succ_iff_lt_or_eq.1 hj with q | q
     ·exact hall j q
     ·subst q;exact he
   ·have hk' : k=n:=by have:=of_decide_eq_false q2;omega
    subst hk'
    have:xs=ys:=by
     apply List.ext_getElem?
     intro i
     rcases Nat.lt_or_ge i k with q | q
     ·have h1:=hall i q
      rw [List.getD_eq_getElem?_getD,List.getD_eq_getElem?_getD] at h1
      rw [List.getElem?_eq_getElem (by omega),List.getElem?_eq_getElem (by omega)] at h1 ⊢
      simpa using h1
     ·rw [List.getElem?_eq_none (by omega),List.getElem?_eq_none (by omega)]
    rw [decide_eq_true ⟨rfl,this⟩]
    exact ⟨rfl,rfl⟩
 ·refine Br.mk (fun q=>⟨rfl,fun _=> ?_,fun q=>by cases q⟩) (fun q=>⟨rfl,fun q2=> ?_,fun q2=> ?_⟩)
  ·rintro ⟨rfl,_⟩
   simp at q
  ·rintro ⟨_,rfl⟩
   have:n=m:=by omega
   subst this
   simp at q2
  ·have:(((n:Nat):Int) != ((m:Nat):Int))=false:=q2
   simp only [bne_eq_false_iff_eq] at this
   exact ⟨by simpa using q,by omega⟩
theorem rSameRatio_c {h:Heap} {s s2:Bool} {A B C D:Option Addr} {n c m d n2 c2 m2 d2:Nat} {xs ys zs ws:List Nat} (u1:U32 h A n c xs) (u2:U32 h B m d ys) (w1:U32 h C n2 c2 zs) (w2:U32 h D m2 d2 ws) (hn:n<=1099511627776) (hm:m<=1099511627776) :
  CallsU Tryz.prog 66 [.agg #[.bool s,.slice A n c,.slice B m d],.agg #[.bool s2,.slice C n2 c2,.slice D m2 d2]] h fun r h' => r = .bool (decide (s=s2/\xs=zs/\ys=ws))/\h=h' := by
 apply ref08_SameRatio_ok
 refine (r2same_c u1 w1 hn).mono ?_
 rintro _ _ ⟨rfl,rfl⟩
 refine ⟨_,rfl,Br.mk (fun q=> ?_) (fun q=> ?_)⟩
 ·have:=of_decide_eq_true q
  refine (rSameNat_c u2 w2 hm).mono ?_
  rintro _ _ ⟨rfl,rfl⟩
  refine ⟨_,rfl, ?_,rfl⟩
  congr 1
  rw [Bool.eq_iff_iff,decide_eq_true_eq,decide_eq_true_eq]
  exact ⟨fun h=>⟨this.1,this.2,h⟩,fun h=>h.2.2⟩
 ·have:=of_decide_eq_false q
  rw [decide_eq_false (fun h=>this ⟨h.1,h.2.1⟩)]
  exact ⟨rfl,rfl⟩
theorem rSameQ_c {h:Heap} {s s2:Bool} {A B C D:Option Addr} {n c m d n2 c2 m2 d2:Nat} {q:Rat} (u:NmQ h s A n c B m d q) (w:NmQ h s2 C n2 c2 D m2 d2 q) (hn:n<=1099511627776) (hm:m<=1099511627776) :
  CallsU Tryz.prog 66 [.agg #[.bool s,.slice A n c,.slice B m d],.agg #[.bool s2,.slice C n2 c2,.slice D m2 d2]] h fun r h' => r = .bool true/\h=h' := by
 obtain ⟨⟨⟨xs,u1,v1,N1⟩,s1⟩,⟨ys,u2,v2,N2⟩⟩:=u
 obtain ⟨⟨⟨zs,w1,v3,N3⟩,s3⟩,⟨ws,w2,v4,N4⟩⟩:=w
 refine (rSameRatio_c u1 u2 w1 w2 hn hm).mono ?_
 rintro _ _ ⟨rfl,rfl⟩
 refine ⟨?_,rfl⟩
 rw [decide_eq_true]
 refine ⟨by rw [s1,s3],nrm_inj u1.3 w1.3 N1 N3 (by rw [v1,v3]),nrm_inj u2.3 w2.3 N2 N4 (by rw [v2,v4])⟩
theorem cmpQ_self (x:Rat):cmpQ x x=0:=by unfold cmpQ;rw [if_neg (by grind),if_neg (by grind)]
theorem cmpQ_eq {x y:Rat} (h:cmpQ x y=0):x=y:=by
 unfold cmpQ at h
 split at h
 ·omega
 ·split at h
  ·omega
  ·grind
end Go.Proofs.YtfglcgbgaeegaaaGreatDoor

namespace Go.Proofs.YtfglcgbgaeegaaaGreatDoor
open Go Go.Vcg Go.RowKit Go.Sort
theorem nm_le_lt {a b c:List UInt8} (h1:a<=b) (h2:b<c):a<c:=by
 obtain ⟨h3,h4⟩:=nm_lt.1 h2
 refine nm_lt.2 ⟨nm_trans h1 h3,fun e=> ?_⟩
 subst e
 exact h4 (nm_anti h3 h1)
theorem pw_le {zs:List (List UInt8)} (hs:zs.Pairwise (· <= ·)) {i j:Nat} {x y:List UInt8} (hi:zs[i]?=some x) (hj:zs[j]?=some y) (hij:i<=j):x<=y:=by
 rcases Nat.lt_or_eq_of_le hij with q | q
 ·obtain ⟨hi', rfl⟩:=List.getElem?_eq_some_iff.1 hi
  obtain ⟨hj', rfl⟩:=List.getElem?_eq_some_iff.1 hj
  exact List.pairwise_iff_getElem.1 hs i j hi' hj' q
 ·subst q
  rw [hi] at hj
  cases hj
  rcases nm_total x x with q | q<;>exact q
theorem compact_spec {zs:List (List UInt8)} (hs:zs.Pairwise (· <= ·)) : ∀ m,m<=zs.length->(∀ x,x∈Lib.compactUpTo zs.toArray m ↔ ∃ j,j<m/\zs[j]?=some x)/\(Lib.compactUpTo zs.toArray m).Pairwise (· < ·)
 | 0,_=>by
  constructor
  ·intro x
   simp [Lib.compactUpTo]
  ·simp [Lib.compactUpTo]
 | m+1,hm=>by
  obtain ⟨h1,h2⟩:=compact_spec hs m (by omega)
  rw [Lib.compactUpTo_succ]
  have hget : ∀ j,j<zs.length->zs[j]?=some (zs.toArray[j]!):=fun j hj=>by
   rw [List.getElem?_eq_getElem hj]
   simp [hj]
  have hgm:=hget m (by omega)
  split
  ·rename_i hk
   refine ⟨fun x=> ?_, ?_⟩
   ·rw [List.mem_append,h1,List.mem_singleton]
    constructor
    ·rintro (⟨j,hj,hx⟩ | rfl)
     ·exact ⟨j,by omega,hx⟩
     ·exact ⟨m,by omega,hgm⟩
    ·rintro ⟨j,hj,hx⟩
     rcases Nat.lt_succ_iff_lt_or_eq.1 hj with q | q
     ·exact Or.inl ⟨j,q,hx⟩
     ·subst q
      rw [hgm] at hx
      exact Or.inr (Option.some.inj hx).symm
   ·rw [List.pairwise_append]
    refine ⟨h2,by simp,fun x hx y hy=> ?_⟩
    rw [List.mem_singleton] at hy
    subst hy
    obtain ⟨j,hj,hxj⟩:=(h1 x).1 hx
    unfold Lib.keeps at hk
    rw [decide_eq_true_eq] at hk
    have hne:zs.toArray[m]! ≠ zs.toArray[m-1]! := by
     rcases hk with q | q
     ·omega
     ·exact q
    have hg1:=hget (m-1) (by omega)
    exact nm_le_lt (pw_le hs hxj hg1 (by omega)) (nm_lt.2 ⟨pw_le hs hg1 hgm (by omega),fun e=>hne e.symm⟩)
  ·rename_i hk
   unfold Lib.keeps at hk
   have hk' : ¬ (m=0\/zs.toArray[m]! ≠ zs.toArray[m-1]!):=by simpa using hk
   have h0:m≠0:=fun e=>hk' (Or.inl e)
   have heq:zs.toArray[m]! = zs.toArray[m-1]! := Classical.byContradiction fun e=>hk' (Or.inr e)
   rw [List.append_nil]
   refine ⟨fun x=> ?_,h2⟩
   rw [h1]
   constructor
   ·rintro ⟨j,hj,hx⟩;exact ⟨j,by omega,hx⟩
   ·rintro ⟨j,hj,hx⟩
    rcases Nat.lt_succ_iff_lt_or_eq.1 hj with q | q
    ·exact ⟨j,q,hx⟩
    ·subst q
     refine ⟨j-1,by omega, ?_⟩
     rw [hget (j-1) (by omega),<- heq,<- hgm]
     exact hx
theorem namesV_mem (e:Ex) (x:List UInt8):x∈namesV e↔x∈namesE e:=by
 unfold namesV Lib.compact
 rw [(compact_spec (sortS_pw (namesE e)) _ (Nat.le_refl _)).1]
 constructor
 ·rintro ⟨j,_,hx⟩
  exact (List.mergeSort_perm _ _).mem_iff.1 (List.mem_of_getElem? hx)
 ·intro hx
  have:x∈sortS (namesE e):=(List.mergeSort_perm _ _).mem_iff.2 hx
  obtain ⟨j,hj⟩:=List.getElem?_of_mem this
  exact ⟨j,(List.getElem?_eq_some_iff.1 hj).1,hj⟩
theorem namesV_len (e:Ex):(namesV e).length<=(namesE e).length:=by
 have h1:=compact_le (sortS (namesE e))
 have h2:(sortS (namesE e)).length=(namesE e).length:=List.length_mergeSort _
 unfold namesV
 omega
mutual
theorem evV_names {ms ms' : List Meas} : ∀ e:Ex,(∀ nm,nm∈namesE e->lookV ms nm=lookV ms' nm)->evV ms e=evV ms' e
 | .mk k q n m nm kids,h=>by
  rw [namesE] at h
  rw [evV,evV,evL_names kids fun x hx=>h x (List.mem_append_right _ hx)]
  have : ∀ vs,apV ms k q nm vs=apV ms' k q nm vs:=fun vs=>by
   unfold apV
   by_cases k2:k=2
   ·rw [h nm (by rw [if_pos k2];simp)]
   ·simp only [k2,if_false]
  simp only [this]
theorem evL_names {ms ms' : List Meas} : ∀ es:List Ex,(∀ nm,nm∈namesL es->lookV ms nm=lookV ms' nm)->evL ms es=evL ms' es
 | [],_=>by rw [evL,evL]
 | e::es,h=>by
  rw [namesL] at h
  rw [evL,evL,evV_names e fun x hx=>h x (List.mem_append_left _ hx),evL_names es fun x hx=>h x (List.mem_append_right _ hx)]
end
end Go.Proofs.YtfglcgbgaeegaaaGreatDoor

namespace Go.Proofs.YtfglcgbgaeegaaaGreatDoor
open Go Go.Vcg Go.RowKit Go.Sort
attribute [local irreducible] Br
theorem IsMs.take {h:Heap} : ∀ {ms:List Meas} {cs:List Value},IsMs h ms cs->IsMs h ms (cs.take (4*ms.length))
 | [],_,_=>trivial
 | y::ms,cs,u=>by
  rw [List.length_cons,show 4*(ms.length+1)=4+4*ms.length by omega]
  refine ⟨by rw [List.take_take,Nat.min_eq_left (by omega)];exact u.1, ?_⟩
  rw [List.drop_take,show 4+4*ms.length-4=4*ms.length by omega]
  exact IsMs.take u.2
theorem r2cmp_c {h:Heap} {s s2:Bool} {A B:Option Addr} {n c m d:Nat} {z w:Int} (u:IsI h s A n c z) (v:IsI h s2 B m d w) (hn:n<=1099511627776) (hm:m<=1099511627776) :
  CallsU Tryz.prog 172 [.agg #[.bool s,.slice A n c],.agg #[.bool s2,.slice B m d]] h fun r h' => r = .int .i64 (cmpI z w)/\Le h h' := by
 apply ref02_Cmp_ok
 refine (r2norm_c u hn).mono ?_
 rintro _ h1 ⟨s1,A1,k1,c1,rfl,N1,hk1,hl1⟩
 refine ⟨_,_,_,_,rfl,hl1,(r2norm_c (v.mono hl1) hm).mono ?_⟩
 rintro _ h2 ⟨s2', A2,k2,c2,rfl,N2,hk2,hl2⟩
 have M1:=N1.mono hl2
 have e1:s1=decide (z<0):=N1.2
 have e2:s2' = decide (w<0):=N2.2
 have l2:=hl1.trans hl2
 have K1:=r1cmp_c N2.1.is M1.1.is (by omega) (by omega)
 have K2:=r1cmp_c M1.1.is N2.1.is (by omega) (by omega)
 refine ⟨_,_,_,_,rfl,fun t h' => h2=h' /\ (t=true↔z<0/\ ¬ w<0), ?_, ?_⟩
 ·rintro t _ ⟨rfl,ht⟩
  refine Br.mk (fun q=> ?_) (fun q=> ?_)
  ·have:=ht.1 q
   refine ⟨?_,l2⟩
   unfold cmpI
   rw [if_pos (by omega)]
  ·have hn1 : ¬ (z<0/\ ¬ w<0):=fun q2=>by rw [ht.2 q2] at q;cases q
   refine ⟨fun t h' => h2=h' /\ (t=true ↔ ¬ z<0/\w<0), ?_, ?_⟩
   ·rintro t _ ⟨rfl,ht⟩
    refine Br.mk (fun q=> ?_) (fun q=> ?_)
    ·have:=ht.1 q
     refine ⟨?_,l2⟩
     unfold cmpI
     rw [if_neg (by omega),if_pos (by omega)]
    ·have hn2 : ¬ (¬ z<0/\w<0):=fun q2=>by rw [ht.2 q2] at q;cases q
     refine Br.mk (fun q3=> ?_) (fun q3=> ?_)
     ·have hz:z<0:=by rw [e1] at q3;exact of_decide_eq_true q3
      refine K1.mono ?_
      rintro _ _ ⟨rfl,rfl⟩
      refine ⟨_,rfl, ?_,l2⟩
      unfold cmpI
      have a1:((w.natAbs:Nat):Int) = -w:=by omega
      have a2:((z.natAbs:Nat):Int) = -z:=by omega
      rw [a1,a2]
      congr 1
      split<;>split<;>(try split)<;>(try split)<;>omega
     ·have hz : ¬ z<0:=by rw [e1] at q3;exact of_decide_eq_false q3
      refine K2.mono ?_
      rintro _ _ ⟨rfl,rfl⟩
      refine ⟨_,rfl, ?_,l2⟩
      unfold cmpI
      have a1:((w.natAbs:Nat):Int)=w:=by omega
      have a2:((z.natAbs:Nat):Int)=z:=by omega
      rw [a1,a2]
   ·rw [e1,e2]
    refine Br.mk (fun q3=>⟨rfl, ?_⟩) (fun q3=>⟨rfl, ?_⟩)
    ·have hz : ¬ z<0:=by simpa using q3
     rw [decide_eq_true_eq]
     omega
    ·have hz:z<0:=by simpa using q3
     constructor
     ·intro q;cases q
     ·intro q;omega
 ·rw [e1,e2]
  refine Br.mk (fun q3=>⟨rfl, ?_⟩) (fun q3=>⟨rfl, ?_⟩)
  ·have hz:z<0:=by simpa using q3
   rw [Bool.not_eq_true', decide_eq_false_iff_not]
   omega
  ·have hz : ¬ z<0:=by simpa using q3
   constructor
   ·intro q;cases q
   ·intro q;omega
theorem r3cmp_c {h:Heap} {s s2:Bool} {A B C D:Option Addr} {n c m d n2 c2 m2 d2:Nat} {q p:Rat} (u:IsQ h s A n c B m d q) (w:IsQ h s2 C n2 c2 D m2 d2 p) (hn:n<=134217728) (hm:m<=134217728) (hn2:n2<=134217728) (hm2:m2<=134217728) :
  CallsU Tryz.prog 101 [.agg #[.bool s,.slice A n c,.slice B m d],.agg #[.bool s2,.slice C n2 c2,.slice D m2 d2]] h fun r h' => r = .int .i64 (cmpQ q p)/\Le h h' := by
 apply ref03_Cmp_ok
 refine (r3norm_c u (by omega) (by omega)).mono ?_
 rintro _ h1 ⟨s1,A1,n1,c1,B1,m1,d1,rfl,N1,a1,b1,hl1⟩
 refine ⟨_,_,_,_,_,_,_,rfl,hl1,(r3norm_c (w.mono hl1) (by omega) (by omega)).mono ?_⟩
 rintro _ h2 ⟨s2', A2,n2', c2', B2,m2', d2', rfl,N2,a2,b2,hl2⟩
 have M1:=N1.mono hl2
 have pv : ∀ {B:Option Addr} {m d v:Nat} {h:Heap},IsN h B m d v->IsI h false B m d (v:Int):=fun u=>⟨_,u,rfl⟩
 refine ⟨_,_,_,_,_,_,_,rfl,(r2mul_c M1.1.is (pv N2.2.is) (by omega) (by omega)).mono ?_⟩
 rintro _ h3 ⟨s3,A3,k3,c3,rfl,N3,hk3,hl3⟩
 refine ⟨_,_,_,_,rfl,hl3,(r2mul_c (N2.mono hl3).1.is (pv (M1.mono hl3).2.is) (by omega) (by omega)).mono ?_⟩
 rintro _ h4 ⟨s4,A4,k4,c4,rfl,N4,hk4,hl4⟩
 refine ⟨_,_,_,_,rfl,(r2cmp_c (N3.mono hl4).is N4.is (by omega) (by omega)).mono ?_⟩
 rintro _ h5 ⟨rfl,hl5⟩
 refine ⟨_,rfl, ?_,(((hl1.trans hl2).trans hl3).trans hl4).trans hl5⟩
 rw [cmpQ_mk q.den_nz p.den_nz,Rat.mkRat_self,Rat.mkRat_self]
end Go.Proofs.YtfglcgbgaeegaaaGreatDoor

namespace Go.Proofs.YtfglcgbgaeegaaaGreatDoor
open Go Go.Vcg
attribute [local irreducible] Br
end Go.Proofs.YtfglcgbgaeegaaaGreatDoor

namespace Go.Proofs.YtfglcgbgaeegaaaGreatDoor
open Go Go.Vcg Go.RowKit Go.Sort
attribute [local irreducible] Br
theorem PrR.shape (o:Except Int (List UInt8)) : ∃ t er,PrR o = .tuple #[sv t,.int .i64 er]/\((o = .ok t/\er=0)\/(o = .error er/\t=[])):=by
 cases o with
 | ok t=>exact ⟨t,0,rfl,Or.inl ⟨rfl,rfl⟩⟩
 | error e=>exact ⟨[],e,rfl,Or.inr ⟨rfl,rfl⟩⟩
end Go.Proofs.YtfglcgbgaeegaaaGreatDoor
