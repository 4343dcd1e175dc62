/-
 Gathered texts of this proof: Dr5,Dr6,Dr7,Dr8,Dr9,Dr10,Dr11,Dl1,Dl2,Al1,Bd5,Dr12,Lw1,Lw2,Lw3,Lw4,Rd1,Rd2,Rd3,Rd4.
-/
import Derived.Test.YtfglcgbgaeegaaaGreatDoorG12
import Derived.Test.YtfglcgbgaeegaaaGreatDoorG11
import Derived.Test.YtfglcgbgaeegaaaGreatDoorG08

namespace Go.Proofs.YtfglcgbgaeegaaaGreatDoor
open Go Go.Vcg Go.RowKit Go.Sort
attribute [local irreducible] Br
def splGo (b:UInt8):Nat->List UInt8->List (List UInt8)
 | 0,l=>[l]
 | n+1,l=>l.takeWhile (· != b)::splGo b n ((l.dropWhile (· != b)).drop 1)
def splitV (b:UInt8) (l:List UInt8):List (List UInt8):=splGo b (l.count b) l
theorem splGo_len (b:UInt8) : ∀ (n:Nat) (l:List UInt8),(splGo b n l).length=n+1
 | 0,_=>rfl
 | n+1,l=>by rw [splGo,List.length_cons,splGo_len b n]
theorem count_dw {b:UInt8} {l:List UInt8} (h:b∈l):((l.dropWhile (· != b)).drop 1).count b+1=l.count b:=by
 induction l with
 | nil=>cases h
 | cons x l ih=>
  rw [List.dropWhile_cons]
  by_cases hx:x=b
  ·subst hx
   simp
  ·have:(x != b)=true:=by simpa using hx
   rw [if_pos this,List.count_cons_of_ne hx]
   exact ih ((List.mem_cons.1 h).resolve_left fun e=>hx e.symm)
theorem strIndex1_c {l:List UInt8} (b:UInt8) (h:Heap) :
  CallsU Tryz.prog 162 [sv l,sv [b]] h fun r h' => r = .int .i64 (Lib.indexByte l b)/\h=h' := by
 apply strings_Index_ok
 refine (slIndex1_c b h).mono ?_
 rintro _ _ ⟨rfl,rfl⟩
 exact ⟨_,rfl,rfl,rfl⟩
theorem strCount1_c {l:List UInt8} (b:UInt8) (h:Heap) :
  CallsU Tryz.prog 161 [sv l,sv [b]] h fun r h' => r = .int .i64 (l.count b:Int)/\h=h' :=
 callsU_same ⟨_,Tryz.func161,by kernel_rfl,by kernel_rfl⟩ fun w _=>by
  have h1:=Tryz.strings_Count_one ⟨l.toArray⟩ b w
  simpa [Lib.countByte] using h1
theorem setSeg_sv {done:List (List UInt8)} {x z:List UInt8} {rest:List (List UInt8)} {k:Nat} (hk:k=done.length):setSeg ((done++z::rest).map sv) k [sv x]=((done++[x])++rest).map sv:=by
 subst hk
 unfold setSeg
 rw [List.map_append,List.take_append_of_le_length (by simp),List.take_of_length_le (by simp)]
 simp [List.drop_append]
theorem genSplit1_c {l:List UInt8} (b:UInt8) (hl:l.length<=1000000) (h:Heap) :
  CallsU Tryz.prog 90 [sv l,sv [b],.int .i64 0,.int .i64 (-1)] h fun r h' => ∃ g,h g=none/\r = .slice (some ⟨g,0,none⟩) (splitV b l).length (splitV b l).length/\h' = h.put g ⟨(splitV b l).map sv,9,(0,0)⟩:=by
 apply strings_genSplit_ok
 unfold strings_genSplit_vc
 have hs:(⟨[b].toArray⟩:ByteArray).size=1:=rfl
 have hcl:l.count b<=l.length:=List.count_le_length
 rw [hs,bytes_toList,ba_size]
 refine Br.mk (fun q=>by exact absurd q (by decide)) (fun _=>Br.mk (fun q=>by have e:=eq_of_beq q;rw [show (⟨#[]⟩:ByteArray).toList=[] from bytes_toList []] at e;cases e) (fun _=> ?_))
 refine ⟨fun n h' => n=((l.count b+1:Nat):Int)/\h=h', ?_,Br.mk (fun _=> ?_) (fun q=>by exact absurd q (by decide))⟩
 ·rintro _ _ ⟨rfl,rfl⟩ _ rfl
  have e1:IntKind.i64.wrap ((l.length:Int)+1)=((l.length+1:Nat):Int):=wi (by omega) (by omega)
  have e2:(if decide (((l.length+1:Nat):Int)<((l.count b+1:Nat):Int))=true then ((l.length+1:Nat):Int) else ((l.count b+1:Nat):Int))=((l.count b+1:Nat):Int):=by
   rw [decide_eq_false (by omega)]
   rfl
  rw [e1,e2,Int.toNat_natCast]
  refine ⟨by omega,by omega,by omega,by omega, ?_⟩
  rintro g _ hg rfl _ rfl
  have e3:IntKind.i64.wrap (((l.count b+1:Nat):Int)-1)=((l.count b:Nat):Int):=wi (by omega) (by omega)
  rw [e3,repV_sv]
  refine ⟨fun m s i h' => ∃ k l' done,k<=l.count b/\m=l.count b-k/\i=(k:Int)/\s=⟨l'.toArray⟩/\l'.count b=l.count b-k/\l'.length<=1000000/\done.length=k/\h' = h.put g ⟨(done++List.replicate (l.count b+1-k) []).map sv,9,(0,0)⟩/\splitV b l=done++splGo b (l.count b-k) l', ⟨_,0,l,[],by omega,rfl,rfl,rfl,by omega,hl,rfl,rfl,rfl⟩, ?_⟩
  rintro m _ _ _ ⟨k,l', done,hk,rfl,rfl,rfl,hc,hl', hd,rfl,heq⟩
  have er:l.count b+1-k=(l.count b-k)+1:=by omega
  rw [er,List.replicate_succ]
  have hput : ∀ x:List UInt8,setSeg ((done++[]::List.replicate (l.count b-k) []).map sv) k [sv x]=((done++[x])++List.replicate (l.count b-k) []).map sv:=fun x=>setSeg_sv hd.symm
  have hadd:(⟨g,0,none⟩:Addr).add (Int.toNat (k:Int)*1)=⟨g,k,none⟩:=by
   rw [Int.toNat_natCast]
   rw [Nat.mul_one]
   unfold Addr.add
   simp only [Nat.zero_add]
   split
   ·rename_i h0;rw [h0]
   ·rfl
  refine Br.mk (fun q=> ?_) (fun q=> ?_)
  ·have hlt:k<l.count b:=by have:=of_decide_eq_true q;omega
   refine (strIndex1_c b _).mono ?_
   rintro _ _ ⟨rfl,rfl⟩
   have hb:b∈l' := List.count_pos_iff.1 (by omega)
   have hlt' := tw_lt hb
   rw [idx_spec,if_pos hb]
   refine ⟨_,rfl,Br.mk (fun q=>by have:=of_decide_eq_true q;omega) (fun _=> ?_)⟩
   rintro _ rfl
   have e4:IntKind.i64.wrap (((l'.takeWhile (· != b)).length:Int)+0)=(((l'.takeWhile (· != b)).length:Nat):Int):=wi (by omega) (by omega)
   have e5:IntKind.i64.wrap (((l'.takeWhile (· != b)).length:Int)+((1:Nat):Int))=(((l'.takeWhile (· != b)).length+1:Nat):Int):=wi (by omega) (by omega)
   rw [e4,ba_size]
   refine ⟨by omega,by omega,_,rfl,by omega,by omega, ?_⟩
   rw [hadd]
   refine ⟨_,Heap.put_same _ _ _,rfl,rfl,by simp;omega, ?_⟩
   rintro _ rfl _ rfl
   rw [e5]
   refine ⟨by omega,by omega, ?_⟩
   rintro _ rfl
   refine ⟨l.count b-(k+1),by omega,k+1,(l'.dropWhile (· != b)).drop 1,done++[l'.takeWhile (· != b)],by omega,rfl,wi (by omega) (by omega), ?_, ?_, ?_,by simp;omega, ?_, ?_⟩
   ·rw [Int.toNat_natCast,ba_ext,List.take_length,<- List.drop_drop,tw_drop]
   ·have:=count_dw hb
    omega
   ·rw [<- tw_drop,List.drop_drop,List.length_drop]
    omega
   ·rw [Int.toNat_natCast,ba_ext,List.drop_zero,tw_take,Heap.put_put]
    simp only
    rw [hput,show l.count b+1-(k+1)=l.count b-k by omega]
   ·rw [heq,show l.count b-k=(l.count b-(k+1))+1 by omega,splGo]
    simp
  ·have hke:k=l.count b:=by have:=of_decide_eq_false q;omega
   refine ⟨_,rfl,by omega,by omega, ?_⟩
   rw [hadd]
   refine ⟨_,Heap.put_same _ _ _,rfl,rfl,by simp;omega, ?_⟩
   rintro _ rfl _ rfl
   have e6:IntKind.i64.wrap ((k:Int)+1)=((l.count b+1:Nat):Int):=wi (by omega) (by omega)
   rw [e6]
   refine ⟨by omega,by omega,g,hg, ?_, ?_⟩
   ·rw [Int.toNat_natCast]
    unfold splitV
    rw [splGo_len]
   ·rw [Heap.put_put]
    simp only
    rw [hput,heq,hke,Nat.sub_self,splGo]
    simp
 ·refine (strCount1_c b h).mono ?_
  rintro _ _ ⟨rfl,rfl⟩
  refine ⟨_,rfl, ?_⟩
  rintro _ rfl
  exact ⟨wi (by omega) (by omega),rfl⟩
theorem split1_c {l:List UInt8} (b:UInt8) (hl:l.length<=1000000) (h:Heap) :
  CallsU Tryz.prog 47 [sv l,sv [b]] h fun r h' => ∃ g,h g=none/\r = .slice (some ⟨g,0,none⟩) (splitV b l).length (splitV b l).length/\h' = h.put g ⟨(splitV b l).map sv,9,(0,0)⟩:=by
 apply strings_Split_ok
 refine (genSplit1_c b hl h).mono ?_
 rintro _ _ ⟨g,h1,rfl,rfl⟩
 exact ⟨_,_,_,rfl,g,h1,rfl,rfl⟩
theorem callsU_own {P:Program} {f:FuncId} {args:List Value} {h:Heap} {ty n:Nat} {xs:List Value} (hc:Callable P f)
  (hw : ∀ w,Sat h w->Calls P f args.toArray w fun e w' => ∃ v', e = .returned v' /\ w'.ownsRow w.heap.size ty 1 v' n xs/\v' ≠ .slice none 0 0/\Below w.heap.size w w') :
  CallsU P f args h fun r h' => ∃ g cap cells,h g=none/\r = .slice (some ⟨g,0,none⟩) n cap/\n<=cap/\cells.take n=xs/\h' = h.put g ⟨cells,ty,(0,0)⟩:=by
 refine ⟨hc,fun w s=>(hw w s).mono fun e w' ⟨v,he,⟨hl,ho⟩,hne,b⟩=> ?_⟩
 rcases ho with ⟨e0,_⟩ | ⟨g,cap,cur,ev,hg,hcur,hcap,_,hsz,htk⟩
 ·exact absurd e0 hne
 ·have hgn:h g=none:=by
   cases q:h g with
   | none=>rfl
   | some x=>have:=(s g x q).lt;omega
  refine ⟨v,h.put g ⟨cur.toList,ty,(0,0)⟩,he,⟨g,cap,cur.toList,hgn,ev,hcap,by simpa using htk,rfl⟩,fun k x hk=> ?_,⟨b.size,b.os,b.tape,b.output,fun k hk h0=>⟨?_,b.block k hk⟩⟩⟩
  ·by_cases hkg:k=g
   ·subst hkg
    rw [Heap.put_same] at hk
    cases hk
    exact SatB.mk' (plain_fz rfl) (by simpa using hcur)
   ·rw [Heap.put_ne _ _ hkg] at hk
    have:=s k x hk
    exact this.same (b.block k this.lt)
  ·rw [Heap.put_ne _ _ (by omega)]
   exact h0
theorem cloneS_c {h:Heap} {g c ty:Nat} {pre zs rest:List (List UInt8)} (hb:h g=some ⟨(pre++zs++rest).map sv,ty,(0,0)⟩) (hsz:zs.length<=1000000) {n:Nat} (hn:n=zs.length) :
  CallsU Tryz.prog 163 [.slice (some ⟨g,pre.length,none⟩) n c] h fun r h' => ∃ g' cap,r = .slice (some ⟨g', 0,none⟩) n cap/\Sl sv h' (some ⟨g', 0,none⟩) n cap zs/\Le h h' := by
 subst hn
 have key:=callsU_own (h:=h) (P:=Tryz.prog) (f:=163) (args:=[.slice (some ⟨g,pre.length,none⟩) zs.length c]) (ty:=9) (n:=zs.length) (xs:=zs.map sv) ⟨_,Tryz.func163,by kernel_rfl,by kernel_rfl⟩ fun w s=>by
  have sg:=(s g _ hb).cells (plain_fz rfl)
  have:=Tryz.slices_Clone_string g pre.length zs.length c (zs.map fun x=>⟨x.toArray⟩) w (by simp) (by omega) (fun j hj=>by
   rw [List.length_map] at hj
   unfold World.cell?
   simp only [sg,Option.isSome_none,Bool.false_eq_true,if_false,List.getElem?_toArray]
   rw [List.getElem?_map,List.append_assoc,List.getElem?_append_right (by omega),Nat.add_sub_cancel_left,List.getElem?_append_left hj,List.getElem?_eq_getElem hj]
   simp [List.getD,hj])
  rw [show ((zs.map fun x=>(⟨x.toArray⟩:ByteArray)).take zs.length).map Value.string=zs.map sv by rw [List.take_of_length_le (by simp),List.map_map];rfl] at this
  exact this
 refine key.mono ?_
 rintro _ _ ⟨g', cap,cells,hg,rfl,hcap,htk,rfl⟩
 exact ⟨g', cap,rfl,⟨rfl,hcap,fun _=>⟨_,_,rfl,rfl,Heap.put_same _ _ _,by simpa using htk⟩⟩,Le.new hg _⟩
theorem joinO_c {h:Heap} {g c ty:Nat} {pre zs:List (List UInt8)} (sep:List UInt8) (hb:h g=some ⟨(pre++zs).map sv,ty,(0,0)⟩) {n:Nat} (hn:n=zs.length) (hc:n<=c) (hsz:n<=140737488355328) (hlen:(Lib.join zs sep).length<=140737488355328) :
  CallsU Tryz.prog 103 [.slice (some ⟨g,pre.length,none⟩) n c,sv sep] h fun r h' => r=sv (Lib.join zs sep)/\h=h' := by
 subst hn
 refine callsU_below ⟨_,Tryz.func103,by kernel_rfl,by kernel_rfl⟩ fun w s=> ?_
 have sg:=(s g _ hb).cells (plain_fz rfl)
 have hlt:g<w.heap.size:=(Array.getElem?_eq_some_iff.1 sg).1
 have e:(zs.map fun x=>(⟨x.toArray⟩:ByteArray)).map (fun x=>x.data.toList)=zs:=by
  rw [List.map_map]
  conv=>rhs;rw [<- List.map_id zs]
  apply List.map_congr_left
  intro x _
  rfl
 have:=Tryz.strings_Join g pre.length c (zs.map fun x=>⟨x.toArray⟩) ⟨sep.toArray⟩ w (fun j x hj=>by
  unfold World.cell?
  simp only [sg,Option.isSome_none,Bool.false_eq_true,if_false,List.getElem?_toArray]
  rw [List.getElem?_map] at hj ⊢
  rw [List.getElem?_append_right (by omega),Nat.add_sub_cancel_left]
  cases hz:zs[j]? with
  | none=>rw [hz] at hj;cases hj
  | some z=>
   rw [hz] at hj
   simp only [Option.map_some,Option.some.injEq] at hj ⊢
   rw [<- hj]) hlt (by simpa using hsz) (by simpa using hc) (by rw [e];exact hlen)
 rw [e,List.length_map] at this
 exact this
theorem hasPrefix_c (l p:List UInt8) (h:Heap) :
  CallsU Tryz.prog 204 [sv l,sv p] h fun r h' => r = .bool (Lib.hasPrefix l p)/\h=h' :=
 callsU_same ⟨_,Tryz.func204,by kernel_rfl,by kernel_rfl⟩ fun w _=>by simpa using Tryz.strings_HasPrefix ⟨l.toArray⟩ ⟨p.toArray⟩ w
def opN (op:Int) (c:UInt8):Int:=if c=40 then op+1 else if c=41 then op-1 else op
def commaAt (op:Int):List UInt8->Option Nat
 | []=>none
 | c::r=>if op=0/\Lib.hasPrefix (c::r) [32,44,32]=true then some 0 else (commaAt (opN op c) r).map (· + 1)
def divFV (ws:List (List UInt8)) (nums:Nat):Option (List (List UInt8)):=
 if nums=0\/ws=[] then (if nums=0/\ws=[] then some [] else none)
 else if nums=1 then some [Lib.join ws [32]]
 else (commaAt 0 (Lib.join ws [32])).map fun i=>[(Lib.join ws [32]).take i,(Lib.join ws [32]).drop (i+3)]
def DvR (o:Option (List (List UInt8))) (r:Value) (h' : Heap):Prop:=
 match o with
 | some ts=> ∃ A n c,r = .tuple #[.slice A n c,.bool true]/\Sl sv h' A n c ts
 | none=>r = .tuple #[.slice none 0 0,.bool false]
theorem drDivF_c {h:Heap} {A:Option Addr} {n c ty:Nat} {ws:List (List UInt8)} (nums:Nat) (hn:n=ws.length) (hc:n<=c) (hsz:n<=1000000) (hmem:ws≠[]-> ∃ g pre,A=some ⟨g,List.length pre,none⟩/\h g=some ⟨(pre++ws).map sv,ty,(0,0)⟩) (hlen:(Lib.join ws [32]).length<=1000000) :
  CallsU Tryz.prog 164 [.slice A n c,.int .i64 (nums:Int)] h fun r h' => DvR (divFV ws nums) r h' /\ Le h h' := by
 apply draft_divideFormulas_ok
 unfold draft_divideFormulas_vc divFV
 have hw0:ws=[]↔n=0:=by rw [hn,List.length_eq_zero_iff]
 refine ⟨fun t h' => h=h' /\ t=decide (nums=0\/ws=[]), ?_,Br.mk (fun q=> ?_) (fun q=> ?_)⟩
 ·rintro _ _ ⟨rfl,rfl⟩
  refine Br.mk (fun q=> ?_) (fun q=> ?_)
  ·have h0:=of_decide_eq_true q
   rw [if_pos h0]
   refine ⟨fun A' n' c' t h' => A' = none/\n' = 0/\c' = 0/\h=h' /\ t=decide (nums=0/\ws=[]), ?_,Br.mk (fun q=> ?_) (fun q=> ?_)⟩
   ·rintro _ _ _ _ _ ⟨rfl,rfl,rfl,rfl,rfl⟩
    by_cases h1:nums=0/\ws=[]
    ·rw [if_pos h1,decide_eq_true h1]
     exact ⟨⟨_,_,_,rfl,Sl.nil _ _ _⟩,Le.refl _⟩
    ·rw [if_neg h1,decide_eq_false h1]
     exact ⟨rfl,Le.refl _⟩
   ·have h1:nums=0:=by have:=beq_iff_eq.1 q;omega
    refine ⟨rfl,rfl,rfl,rfl, ?_⟩
    rw [Bool.eq_iff_iff,beq_iff_eq,decide_eq_true_iff,hw0]
    omega
   ·have h1:nums≠0:=fun e=>by rw [e] at q;exact absurd q (by decide)
    exact ⟨rfl,rfl,rfl,rfl,(decide_eq_false fun q=>h1 q.1).symm⟩
  ·have h0:=of_decide_eq_false q
   rw [if_neg h0]
   obtain ⟨h1,h2⟩:=not_or.1 h0
   obtain ⟨g,pre,rfl,hb⟩:=hmem h2
   refine (joinO_c [32] hb hn hc (by omega) (by omega)).mono ?_
   rintro _ _ ⟨rfl,rfl⟩
   generalize Lib.join ws [32]=t at hlen
   refine ⟨_,rfl,Br.mk (fun q=> ?_) (fun q=> ?_)⟩
   ·rw [if_pos (by have:=beq_iff_eq.1 q;omega)]
    rintro g1 _ hg1 rfl
    exact ⟨⟨_,_,_,rfl,Sl.of_blk (ys:=[t]) (Heap.put_same _ _ _) (Nat.le_refl _) (Nat.le_refl _)⟩,Le.new hg1 _⟩
   ·have h3:nums≠1:=fun e=>by rw [e] at q;exact absurd q (by decide)
    rw [if_neg h3,ba_size]
    refine ⟨fun m op i h' => ∃ k,k<=t.length/\m=t.length-k/\i=(k:Int)/\h=h' /\ (-(k:Int)<=op/\op<=k)/\commaAt 0 t=(commaAt op (t.drop k)).map (· + k),⟨_,0,by omega,rfl,rfl,rfl,by omega,by simp⟩, ?_⟩
    rintro m op _ _ ⟨k,hk,rfl,rfl,rfl,hop,heq⟩
    refine Br.mk (fun q=> ?_) (fun q=> ?_)
    ·have hlt:k<t.length:=by have:=of_decide_eq_true q;omega
     obtain ⟨x,hx⟩ : ∃ x,t[k]?=some x:=⟨_,List.getElem?_eq_getElem hlt⟩
     have hdr:t.drop k=x::t.drop (k+1):=by
      rw [List.drop_eq_getElem_cons hlt]
      rw [List.getElem?_eq_getElem hlt] at hx
      cases hx
      rfl
     have go : ∀ op', op' = opN op x-> ¬ (op=0/\Lib.hasPrefix (t.drop k) [32,44,32]=true)-> ∀ t61:Int,t61=IntKind.i64.wrap ((k:Int)+1)-> ∃ m_1,m_1<t.length-k/\ ∃ k', k' <= t.length/\m_1=t.length-k' /\ t61=(k' : Int)/\h=h/\(-(k' : Int)<=op' /\ op' <= k')/\commaAt 0 t=(commaAt op' (t.drop k')).map (· + k'):=by
      rintro op' rfl hno _ rfl
      refine ⟨t.length-(k+1),by omega,k+1,by omega,rfl,wi (by omega) (by omega),rfl, ?_, ?_⟩
      ·unfold opN
       split
       ·omega
       ·split<;>omega
      ·rw [hdr] at hno heq
       rw [heq,commaAt,if_neg hno,Option.map_map]
       congr 1
       funext i
       simp only [Function.comp]
       omega
     refine ⟨fun h' => h=h' /\ ¬ (op=0/\Lib.hasPrefix (t.drop k) [32,44,32]=true), ?_,Br.mk (fun q2=> ?_) (fun q2=> ?_)⟩
     ·rintro _ ⟨rfl,hno⟩
      refine ⟨x,by omega,by rw [Int.toNat_natCast,ba_get];exact hx,Br.mk (fun q3=> ?_) (fun q3=>Br.mk (fun q4=> ?_) (fun q4=> ?_))⟩
      ·have h40:x=40:=by have:=beq_iff_eq.1 q3;exact UInt8.toNat_inj.1 (by change x.toNat=40;omega)
       rintro _ rfl
       exact go _ (by rw [show IntKind.i64.wrap (op+1)=op+1 by rw [IntKind.wrap_i64];omega];unfold opN;rw [if_pos h40]) hno
      ·have h40:x≠40:=fun e=>by rw [e] at q3;exact absurd q3 (by decide)
       have h41:x=41:=by have:=beq_iff_eq.1 q4;exact UInt8.toNat_inj.1 (by change x.toNat=41;omega)
       rintro _ rfl
       exact go _ (by rw [show IntKind.i64.wrap (op-1)=op-1 by rw [IntKind.wrap_i64];omega];unfold opN;rw [if_neg h40,if_pos h41]) hno
      ·have h40:x≠40:=fun e=>by rw [e] at q3;exact absurd q3 (by decide)
       have h41:x≠41:=fun e=>by rw [e] at q4;exact absurd q4 (by decide)
       exact go _ (by unfold opN;rw [if_neg h40,if_neg h41]) hno
     ·have hop0:op=0:=beq_iff_eq.1 q2
      subst hop0
      rw [Int.toNat_natCast,ba_ext,List.take_length]
      refine ⟨by omega,by omega, ?_⟩
      refine (hasPrefix_c _ _ _).mono ?_
      rintro _ _ ⟨rfl,rfl⟩
      refine ⟨_,rfl,Br.mk (fun q3=> ?_) (fun q3=> ?_)⟩
      ·refine ⟨by omega,by omega, ?_⟩
       have hl3:k+3<=t.length:=by
        have h4:=(List.isPrefixOf_iff_prefix.1 q3).length_le
        rw [List.length_drop] at h4
        simp at h4
        omega
       rintro _ rfl
       rw [show IntKind.i64.wrap ((k:Int)+3)=((k+3:Nat):Int) from wi (by omega) (by omega),Int.toNat_natCast,ba_ext,ba_ext,List.take_length,List.drop_zero]
       refine ⟨by omega,by omega, ?_⟩
       rintro g1 _ hg1 rfl
       rw [hdr] at q3 heq
       rw [heq,commaAt,if_pos ⟨rfl,q3⟩]
       simp only [Option.map_some,Nat.zero_add]
       exact ⟨⟨_,_,_,rfl,Sl.of_blk (ys:=[t.take k,t.drop (k+3)]) (Heap.put_same _ _ _) (Nat.le_refl _) (Nat.le_refl _)⟩,Le.new hg1 _⟩
      ·exact ⟨rfl,fun q=>by rw [q.2] at q3;cases q3⟩
     ·exact ⟨rfl,fun q=>by rw [q.1] at q2;exact absurd q2 (by decide)⟩
    ·have hke:k=t.length:=by have:=of_decide_eq_false q;omega
     rw [heq,hke,List.drop_length,commaAt]
     exact ⟨rfl,Le.refl _⟩
 ·have h1:nums=0:=by have:=beq_iff_eq.1 q;omega
  exact ⟨rfl,(decide_eq_true (Or.inl h1)).symm⟩
 ·have h1:nums≠0:=fun e=>by rw [e] at q;exact absurd q (by decide)
  refine ⟨rfl, ?_⟩
  rw [Bool.eq_iff_iff,beq_iff_eq,decide_eq_true_iff,hw0]
  omega
def totL:List (List UInt8)->Nat
 | []=>0
 | z::zs=>z.length+1+totL zs
theorem totL_drop : ∀ (k:Nat) (zs:List (List UInt8)),totL (zs.drop k)<=totL zs
 | 0,_=>Nat.le_refl _
 | k+1,[]=>by simp
 | k+1,z::zs=>by rw [List.drop_succ_cons,totL];have:=totL_drop k zs;omega
theorem totL_mem : ∀ {zs:List (List UInt8)} {x:List UInt8},x∈zs->x.length<=totL zs
 | z::zs,x,h=>by
  rw [totL]
  rcases List.mem_cons.1 h with rfl | h
  ·omega
  ·have:=totL_mem h;omega
theorem totL_len : ∀ zs:List (List UInt8),zs.length<=totL zs
 | []=>Nat.le_refl _
 | z::zs=>by rw [totL,List.length_cons];have:=totL_len zs;omega
theorem totL_join (b:UInt8) : ∀ zs:List (List UInt8),(Lib.join zs [b]).length<=totL zs
 | []=>by simp [Lib.join_nil]
 | z::zs=>by
  have h2:(Lib.joinTail [b] zs).length<=totL zs:=by
   unfold Lib.joinTail
   induction zs with
   | nil=>simp
   | cons y r ih=>
    simp only [List.map_cons,List.flatten_cons,List.length_append,List.length_cons,List.length_nil]
    rw [totL]
    omega
  rw [Lib.join_cons,List.length_append,totL]
  omega
theorem totL_spl (b:UInt8) : ∀ (n:Nat) (l:List UInt8),totL (splGo b n l)<=l.length+n+1
 | 0,l=>by rw [splGo,totL,totL];omega
 | n+1,l=>by
  rw [splGo,totL]
  have h1:=totL_spl b n ((l.dropWhile (· != b)).drop 1)
  have h2:=congrArg List.length (List.takeWhile_append_dropWhile (p:=(· != b)) (l:=l))
  rw [List.length_append] at h2
  rw [List.length_drop] at h1
  omega
theorem totL_split (b:UInt8) (l:List UInt8):totL (splitV b l)<=2*l.length+1:=by
 have h1:=totL_spl b (l.count b) l
 have h2:l.count b<=l.length:=List.count_le_length
 unfold splitV
 omega
def kindV (w:List UInt8):Int:=if w=wdN 1 then 1 else if w=wdN 2 then 2 else if w=wdN 3 then 3 else if w=wdN 4 then 4 else if w=wdN 5 then 5 else if w=wdN 6 then 6 else 7
theorem kindV_ge (w:List UInt8):1<=kindV w:=by unfold kindV;repeat' split<;>try decide
theorem kindV_eq {w:List UInt8} {k:Int} (h:k=kindV w) (h3:k<=6):w=wdN k:=by
 subst h
 unfold kindV at h3 ⊢
 repeat' split at h3
 all_goals first | (exact absurd h3 (by decide)) | skip
 all_goals simp_all
theorem kindV_of {w:List UInt8} {k:Int} (h1:1<=k) (h3:k<=6) (h:w=wdN k):kindV w=k:=by
 subst h
 have hk:k=1\/k=2\/k=3\/k=4\/k=5\/k=6:=by omega
 rcases hk with rfl | rfl | rfl | rfl | rfl | rfl<;>decide
def linkV (lk:List UInt8) (r:List (List UInt8)):Option (List (List UInt8)):=if lk=[] then some r else match r with
 | []=>none
 | x::r' => if x=lk then some r' else none
def behindV (w0:List UInt8) (k:Int) (rest:List (List UInt8)):Option (List UInt8×Int×List (List UInt8)×List (List UInt8)):=
 if (frN k).toNat<=rest.length then
  if (rest.take (frN k).toNat).all isPointV then
   match linkV (lkN k) (rest.drop (frN k).toNat) with
   | none=>none
   | some r=>(divFV r (nuN k).toNat).map fun ts=>(w0,k,rest.take (frN k).toNat,ts)
  else none
 else none
def divWV (ws:List (List UInt8)):Option (List UInt8×Int×List (List UInt8)×List (List UInt8)):=
 match ws with
 | w0::w1::w2::rest=>if isPointV w0=true/\w1=[61] then (if kindV w2<=6 then behindV w0 (kindV w2) rest else none) else none
 | _=>none
def divLV (line:List UInt8):=divWV (splitV 32 line)
def DlR (o:Option (List UInt8×Int×List (List UInt8)×List (List UInt8))) (r:Value) (h' : Heap):Prop:=
 match o with
 | some (nm,k,fr,ts)=> ∃ F fc A n c,r = .tuple #[.agg #[sv nm,.int .i64 k,.slice F fr.length fc,.slice none 0 0],.slice A n c,.bool true]/\Sl sv h' F fr.length fc fr/\Sl sv h' A n c ts
 | none=> ∃ nm k F fn fc,r = .tuple #[.agg #[Value.string nm,.int .i64 k,.slice F fn fc,.slice none 0 0],.slice none 0 0,.bool false]
def Cur (g L:Nat) (A:Option Addr) (o:Nat):Prop:= ∃ o', A=some ⟨g,o', none⟩/\(o<L->o' = o)/\o' <= L
theorem Cur.step {g L:Nat} {A:Option Addr} {o k c:Nat} (u:Cur g L A o) (hc:c=L-o) (ho:o+k<=L):Cur g L (if c=k then A else Option.map (fun x=>Addr.add x (k*1)) A) (o+k):=by
 obtain ⟨o', rfl,h1,h2⟩:=u
 split
 ·exact ⟨o', rfl,fun q=>by omega,h2⟩
 ·have e:=h1 (by omega)
  subst e
  refine ⟨o' + k, ?_,fun _=>rfl,ho⟩
  rw [Nat.mul_one]
  simp only [Option.map_some]
  unfold Addr.add
  split
  ·rename_i h0;rw [h0];rfl
  ·rfl
theorem drDivL_c {line:List UInt8} (hl:line.length<=100000) {h:Heap} (t:Frms h) :
  CallsU Tryz.prog 91 [sv line] h fun r h' => DlR (divLV line) r h' /\ Le h h' := by
 apply draft_divideLine_ok
 unfold draft_divideLine_vc divLV
 refine (split1_c 32 (by omega) h).mono ?_
 rintro _ _ ⟨g,hg,rfl,rfl⟩
 have htot:=totL_split 32 line
 generalize splitV 32 line=ws at htot
 have l1:=Le.new hg (⟨ws.map sv,9,(0,0)⟩:Blk)
 have hb:(h.put g ⟨ws.map sv,9,(0,0)⟩) g=some ⟨ws.map sv,9,(0,0)⟩:=Heap.put_same _ _ _
 generalize h.put g ⟨ws.map sv,9,(0,0)⟩=h1 at l1 hb
 have uw:Sl sv h1 (some ⟨g,0,none⟩) ws.length ws.length ws:=by
  have:=Sl.of_blk (m:=ws.length) (k:=ws.length) hb (Nat.le_refl _) (Nat.le_refl _)
  simpa using this
 have hlen:=totL_len ws
 have bad : ∀ h' : Heap,Le h h' -> (DlR none (Value.tuple #[Value.agg #[Value.string ByteArray.empty,Value.int .i64 0,Value.slice none 0 0,Value.slice none 0 0],Value.slice none 0 0,Value.bool false]) h' /\ Le h h'):=fun h' l=>⟨⟨_,_,_,_,_,rfl⟩,l⟩
 refine ⟨_,_,_,rfl,fun b h' => h1=h' /\ (b=true->divWV ws=none)/\(b=false-> ∃ w0 w2 rest,ws=w0::[61]::w2::rest/\isPointV w0=true), ?_, ?_⟩
 ·rintro b _ ⟨rfl,hbt,hbf⟩
  refine Br.mk (fun q=> ?_) (fun q=> ?_)
  ·rw [hbt q];exact bad _ l1
  obtain ⟨w0,w2,rest,hws,hp0⟩:=hbf q
  have hwl:ws.length=rest.length+3:=by rw [hws];simp
  have edv:divWV ws=if kindV w2<=6 then behindV w0 (kindV w2) rest else none:=by
   rw [hws,divWV,if_pos ⟨hp0,rfl⟩]
  have hk1:=kindV_ge w2
  have hk7:kindV w2<=7:=by unfold kindV;repeat' split<;>try decide
  refine ⟨fun k h' => h1=h' /\ k=kindV w2, ?_, ?_⟩
  ·rintro _ _ ⟨rfl,rfl⟩
   refine Br.mk (fun q=> ?_) (fun q=> ?_)
   ·rw [edv,if_neg (by have:=of_decide_eq_true q;omega)];exact bad _ l1
   have hk6:kindV w2<=6:=by have:=of_decide_eq_false q;omega
   rw [edv,if_pos hk6]
   generalize kindV w2=k at hk1 hk6
   have hf0:0<=frN k/\frN k<=4:=by unfold frN;repeat' split<;>try decide
   have hn0:0<=nuN k/\nuN k<=2:=by unfold nuN;repeat' split<;>try decide
   refine ⟨by omega,by omega,_,_,_,_,(t.mono l1).row (by omega) hk6,by omega,by omega,Br.mk (fun q=> ?_) (fun q=> ?_)⟩
   ·have:=of_decide_eq_true q
    unfold behindV
    rw [if_neg (by omega)]
    exact bad _ l1
   have hfl:(frN k).toNat<=rest.length:=by have:=of_decide_eq_false q;omega
   refine ⟨by omega,by omega, ?_⟩
   have c0:Cur g ws.length (some ⟨g,0,none⟩) 0:=⟨0,rfl,fun _=>rfl,Nat.zero_le _⟩
   have c3:=c0.step (k:=3) (c:=ws.length) (by omega) (by omega)
   have c4:=c3.step (k:=(frN k).toNat) (c:=ws.length-3) (by omega) (by omega)
   have hdr : ∀ j,ws.drop (3+j)=rest.drop j:=fun j=>by rw [<- List.drop_drop,hws];rfl
   obtain ⟨o3,e3,h3,h3l⟩:=c3
   rw [show 0+3=3 from rfl] at h3
   have hz:(ws.drop o3).take (frN k).toNat=rest.take (frN k).toNat:=by
    by_cases h0:(frN k).toNat=0
    ·rw [h0];simp
    ·rw [h3 (by omega),show 3=3+0 from rfl,hdr];rfl
   have hb3:h1 g=some ⟨(ws.take o3++(ws.drop o3).take (frN k).toNat++(ws.drop o3).drop (frN k).toNat).map sv,9,(0,0)⟩:=by
    rw [hb,List.append_assoc,List.take_append_drop,List.take_append_drop]
   have ho3:o3=(ws.take o3).length:=by rw [List.length_take];omega
   have hzl:(frN k).toNat=((ws.drop o3).take (frN k).toNat).length:=by rw [hz,List.length_take];omega
   have kcl:=cloneS_c (c:=ws.length-3) hb3 (by omega) hzl
   rw [<- ho3] at kcl
   rw [e3]
   refine kcl.mono ?_
   rintro _ h2 ⟨g', cap,rfl,uc,l2⟩
   rw [hz] at uc
   rw [e3] at c4
   have l12:=l1.trans l2
   refine ⟨_,_,_,rfl,by omega,by omega, ?_⟩
   have hpt : ∀ x∈rest.take (frN k).toNat,x.length<=1000000:=fun x hx=>by
    have:x∈ws:=by rw [hws];simp [List.mem_of_mem_take hx]
    have:=totL_mem this
    omega
   refine ⟨fun m i a0 a1 a2 a3 a4 a5 a6 a7 h' => ∃ j,j<=(frN k).toNat/\m=(frN k).toNat-j/\i=(j:Int)/\h2=h' /\ ∀ i x,i<j->(rest.take (frN k).toNat)[i]?=some x->isPointV x=true,⟨_,0,by omega,rfl,rfl,rfl,fun i x hi=>by omega⟩, ?_⟩
   rintro m _ a0 a1 a2 a3 a4 a5 a6 a7 _ ⟨j,hj,rfl,rfl,rfl,hall⟩
   have htl:(rest.take (frN k).toNat).length=(frN k).toNat:=by rw [List.length_take];omega
   refine Br.mk (fun q=> ?_) (fun q=> ?_)
   ·have hlt:j<(frN k).toNat:=by have:=of_decide_eq_true q;omega
    obtain ⟨x,hx⟩ : ∃ x,(rest.take (frN k).toNat)[j]?=some x:=⟨_,List.getElem?_eq_getElem (by omega)⟩
    obtain ⟨ad,ea,hld⟩:=uc.get hx
    refine ⟨ad,ea,by omega,by omega,_,by rw [Int.toNat_natCast];exact hld, ?_⟩
    refine (drPoint_c x (hpt x (List.mem_of_getElem? hx)) h2).mono ?_
    rintro _ _ ⟨rfl,rfl⟩
    refine ⟨_,rfl,Br.mk (fun q2=> ?_) (fun q2=> ?_)⟩
    ·unfold behindV
     rw [if_pos hfl,if_neg]
     ·exact bad _ l12
     ·intro ha
      rw [List.all_eq_true.1 ha x (List.mem_of_getElem? hx)] at q2
      cases q2
    ·rintro _ rfl
     refine ⟨(frN k).toNat-(j+1),by omega,j+1,by omega,rfl,wi (by omega) (by omega),rfl,fun i y hi hy=> ?_⟩
     rcases Nat.lt_succ_iff_lt_or_eq.1 hi with q3 | q3
     ·exact hall i y q3 hy
     ·subst q3
      rw [hx] at hy
      cases hy
      simpa using q2
   ·have hje:j=(frN k).toNat:=by have:=of_decide_eq_false q;omega
    have hal:(rest.take (frN k).toNat).all isPointV=true:=by
     rw [List.all_eq_true]
     intro x hx
     obtain ⟨i,hi⟩:=List.getElem?_of_mem hx
     exact hall i x (by rw [hje,<- htl];exact (List.getElem?_eq_some_iff.1 hi).1) hi
    unfold behindV
    rw [if_pos hfl,if_pos hal]
    have hb2:h2 g=some ⟨ws.map sv,9,(0,0)⟩:=l2 _ _ hb
    refine ⟨fun A n c a0 a1 a2 a3 a4 a5 a6 a7 h' => h2=h' /\ ∃ r o,linkV (lkN k) (rest.drop (frN k).toNat)=some r/\ws.drop o=r/\o<=ws.length/\n=ws.length-o/\c=ws.length-o/\Cur g ws.length A o, ?_,Br.mk (fun q3=> ?_) (fun q3=> ?_)⟩
    ·rintro A n c _ _ _ _ _ _ _ _ _ ⟨rfl,r,o,er,hdo,hol,rfl,rfl,ca⟩
     rw [er]
     simp only
     have hrl:ws.length-o=r.length:=by rw [<- hdo,List.length_drop]
     have hrt:totL r<=totL ws:=by rw [<- hdo];exact totL_drop _ _
     have hjl:=totL_join 32 r
     obtain ⟨o', rfl,ho', ho'l⟩:=ca
     have key:=drDivF_c (h:=h2) (A:=some ⟨g,o', none⟩) (c:=ws.length-o) (ty:=9) (ws:=r) (nuN k).toNat hrl (Nat.le_refl _) (by omega) (fun hne=>by
      have:0<r.length:=List.length_pos_iff.2 hne
      refine ⟨g,ws.take o, ?_, ?_⟩
      ·rw [ho' (by omega),List.length_take,Nat.min_eq_left hol]
      ·rw [hb2,<- hdo,List.take_append_drop]) (by omega)
     rw [show (((nuN k).toNat:Nat):Int)=nuN k by omega] at key
     refine key.mono ?_
     rintro _ h4 ⟨hR,l4⟩
     obtain ⟨ad,ea,hld⟩:=(uw.mono (l2.trans l4)).get (i:=0) (x:=w0) (by rw [hws];rfl)
     have l14:=l12.trans l4
     cases hd:divFV r (nuN k).toNat with
     | none=>
      rw [hd] at hR
      have hR' : _=Value.tuple #[Value.slice none 0 0,Value.bool false]:=hR
      subst hR'
      exact ⟨_,_,_,_,rfl,ad,ea,by omega,by omega,_,hld,⟨_,_,_,_,_,rfl⟩,l14⟩
     | some ts=>
      rw [hd] at hR
      obtain ⟨A,n,c,rfl,us⟩:=hR
      refine ⟨_,_,_,_,rfl,ad,ea,by omega,by omega,_,hld,⟨_,_,_,_,_, ?_,uc.mono l4 |> fun u=>by rw [htl];exact u,us⟩,l14⟩
      rw [htl]
    ·rw [bytes_toList,show (⟨#[]⟩:ByteArray).toList=[] from bytes_toList []] at q3
     have hlk:lkN k≠[]:=fun e=>by rw [e] at q3;exact absurd q3 (by decide)
     refine Br.mk (fun q4=> ?_) (fun q4=> ?_)
     ·have:rest.drop (frN k).toNat=[]:=List.drop_of_length_le (by have:=beq_iff_eq.1 q4;omega)
      rw [this,linkV,if_neg hlk]
      exact bad _ l12
     ·have hne:(frN k).toNat<rest.length:=by
       rcases Nat.lt_or_ge (frN k).toNat rest.length with q | q
       ·exact q
       ·have:((ws.length-3-(frN k).toNat:Nat):Int)=0:=by omega
        rw [this] at q4
        exact absurd q4 (by decide)
      obtain ⟨o4,e4,h4,h4l⟩:=c4
      have e4' := h4 (by omega)
      rw [show 0+3=3 from rfl] at e4'
      obtain ⟨x,hx⟩ : ∃ x,rest[(frN k).toNat]?=some x:=⟨_,List.getElem?_eq_getElem hne⟩
      have hrd:rest.drop (frN k).toNat=x::rest.drop ((frN k).toNat+1):=by
       rw [List.drop_eq_getElem_cons hne]
       rw [List.getElem?_eq_getElem hne] at hx
       cases hx
       rfl
      have hld:LdN h2 (Addr.add ⟨g,o4,none⟩ (0*1)) [sv x]:=by
       refine ld_of rfl hb2 ?_
       simp only
       rw [e4', List.getElem?_map,Nat.zero_mul,Nat.add_zero,hws]
       rw [show 3+(frN k).toNat=(frN k).toNat+1+1+1 by omega]
       simp [hx]
      refine ⟨_,e4,by omega,by omega,_,hld, ?_⟩
      rw [bytes_toList,bytes_toList]
      refine Br.mk (fun q5=> ?_) (fun q5=> ?_)
      ·rw [hrd,linkV,if_neg hlk]
       simp only
       rw [if_neg (fun e=>by rw [e] at q5;simp at q5)]
       exact bad _ l12
      ·have hxe:x=lkN k:=by simpa using q5
       refine ⟨by omega,by omega,rfl,rest.drop ((frN k).toNat+1),3+((frN k).toNat+1), ?_,hdr _,by omega,by omega,by omega, ?_⟩
       ·rw [hrd,linkV,if_neg hlk,if_pos hxe]
       ·have c5:=(show Cur g ws.length _ (0+3+(frN k).toNat) from ⟨o4,e4,h4,h4l⟩).step (k:=1) (c:=ws.length-3-(frN k).toNat) (by omega) (by omega)
        exact c5
    ·rw [bytes_toList,show (⟨#[]⟩:ByteArray).toList=[] from bytes_toList []] at q3
     have hlk:lkN k=[]:=by simpa using q3
     refine ⟨rfl,rest.drop (frN k).toNat,3+(frN k).toNat,by rw [linkV.eq_def,if_pos hlk],hdr _,by omega,by omega,by omega,c4⟩
  ·refine ⟨fun m k h' => h1=h' /\ m=(7-k).toNat/\1<=k/\k<=kindV w2,⟨_,rfl,rfl,by omega,hk1⟩, ?_⟩
   rintro m k _ ⟨rfl,rfl,h2,h3⟩
   refine Br.mk (fun q=> ?_) (fun q=> ?_)
   ·have hk6:k<=6:=of_decide_eq_true q
    obtain ⟨ad,ea,hld⟩:=uw.get (i:=2) (x:=w2) (by rw [hws];rfl)
    refine ⟨by omega,by omega,_,LdN.cell ((t.mono l1).row (by omega) hk6) (i:=0) rfl,ad,ea,by omega,by omega,_,hld, ?_⟩
    rw [bytes_toList,bytes_toList]
    refine Br.mk (fun q2=> ?_) (fun q2=> ?_)
    ·rintro _ rfl
     rw [show IntKind.i64.wrap (k+1)=k+1 by rw [IntKind.wrap_i64];omega]
     refine ⟨(7-(k+1)).toNat,by omega,rfl,rfl,by omega, ?_⟩
     rcases Int.lt_or_le k (kindV w2) with q3 | q3
     ·omega
     ·have:=kindV_eq (w:=w2) (k:=k) (by omega) hk6
      rw [this] at q2
      simp at q2
    ·exact ⟨rfl,(kindV_of h2 hk6 (by have:wdN k=w2:=(by simpa using q2);exact this.symm)).symm⟩
   ·exact ⟨rfl,by have:=of_decide_eq_false q;omega⟩
 ·refine Br.mk (fun q=> ?_) (fun q=> ?_)
  ·have hlt:ws.length<3:=by have:=of_decide_eq_true q;omega
   refine ⟨rfl,fun _=> ?_,fun e=>by cases e⟩
   match ws,hlt with
   | [],_=>rfl
   | [_],_=>rfl
   | [_,_],_=>rfl
  ·have hge:3<=ws.length:=by have:=of_decide_eq_false q;omega
   obtain ⟨w0,w1,w2,rest,hws⟩ : ∃ w0 w1 w2 rest,ws=w0::w1::w2::rest:=by
    match ws,hge with
    | w0::w1::w2::rest,_=>exact ⟨_,_,_,_,rfl⟩
   obtain ⟨ad,ea,hld⟩:=uw.get (i:=0) (x:=w0) (by rw [hws];rfl)
   obtain ⟨ad1,ea1,hld1⟩:=uw.get (i:=1) (x:=w1) (by rw [hws];rfl)
   refine ⟨ad,ea,by omega,by omega,_,hld, ?_⟩
   have hw0:w0.length<=1000000:=by have:=totL_mem (zs:=ws) (x:=w0) (by rw [hws];simp);omega
   refine (drPoint_c w0 hw0 h1).mono ?_
   rintro _ _ ⟨rfl,rfl⟩
   refine ⟨_,rfl,Br.mk (fun q2=> ?_) (fun q2=> ?_)⟩
   ·refine ⟨rfl,fun _=> ?_,fun e=>by cases e⟩
    rw [hws,divWV,if_neg (fun e=>by rw [e.1] at q2;cases q2)]
   ·have hp:isPointV w0=true:=by simpa using q2
    refine ⟨ad1,ea1,by omega,by omega,_,hld1,rfl,fun e=> ?_,fun e=> ?_⟩
    ·rw [bytes_toList,show (⟨#[61]⟩:ByteArray).toList=[61] from bytes_toList [61]] at e
     rw [hws,divWV,if_neg (fun q=>by rw [q.2] at e;simp at e)]
    ·rw [bytes_toList,show (⟨#[61]⟩:ByteArray).toList=[61] from bytes_toList [61]] at e
     have:w1=[61]:=by simpa using e
     exact ⟨w0,w2,rest,by rw [hws,this],hp⟩
def KN (h0 h:Heap) (A:Option Addr) (n c:Nat) (es:List Ex):Prop:=
 es.length=n/\SzsL es/\((A=none/\n=0/\c=0)\/ ∃ gk cs,h0 gk=none/\A=some ⟨gk,0,none⟩/\h gk=some ⟨cs,39,(0,0)⟩/\cs.length=6*c/\n<=c/\IsEs (hole h gk) es cs)
theorem KN.k {h0 h:Heap} {A:Option Addr} {n c:Nat} {es:List Ex} (u:KN h0 h A n c es):IsK h A n c es:=by
 obtain ⟨a,_,b⟩:=u
 refine ⟨a.symm, ?_,fun hn=> ?_⟩
 ·rcases b with ⟨_,e,e2⟩ | ⟨gp,cs,b1,b2,b3,b4,b5,b6⟩
  ·omega
  ·omega
 ·rcases b with ⟨_,e,_⟩ | ⟨gp,cs,b1,b2,b3,b4,b5,b6⟩
  ·exact absurd (List.length_eq_zero_iff.1 (by omega)) hn
  ·exact ⟨_,_,b2,rfl,b3,by simp only;omega,by simpa using IsEs.mono (hole_le _ _) _ _ b6⟩
theorem knParse_c (s:List UInt8) {h0 h:Heap} {A:Option Addr} {n c:Nat} {es:List Ex} (u:KN h0 h A n c es) :
  CallsU Tryz.prog 92 [sv s] h fun v h' => Le h h' /\ match foParseV s with
   | .error e=>e≠0/\v = .tuple #[.agg zE.toArray,.int .i64 e]
   | .ok x=> ∃ vs:List Value,v = .tuple #[.agg vs.toArray,.int .i64 0]/\IsE (cutA h' A) x vs/\Szs x/\chkV x 1=0/\KN h0 h' A n c es:=by
 obtain ⟨a1,a2,a3⟩:=u
 rcases a3 with ⟨rfl,rfl,rfl⟩ | ⟨gk,cs,b1,rfl,b3,b4,b5,b6⟩
 ·refine (foParseW_c s h).mono ?_
  rintro v h' ⟨l,hm⟩
  refine ⟨l, ?_⟩
  cases ho:foParseV s with
  | error e=>rw [ho] at hm;exact hm
  | ok x=>
   rw [ho] at hm
   obtain ⟨vs,hv,ux,zx,hc⟩:=hm
   exact ⟨vs,hv,ux,zx,hc,a1,a2,Or.inl ⟨rfl,rfl,rfl⟩⟩
 ·have fr:=(foParseW_c s (hole h gk)).frame (g:=gk) (b:=⟨cs,39,(0,0)⟩) (hole_at h gk)
  rw [put_hole b3] at fr
  refine fr.mono ?_
  rintro v _ ⟨h1,⟨hle,hm⟩,h1k,rfl⟩
  have hcut:hole (h1.put gk ⟨cs,39,(0,0)⟩) gk=h1:=by rw [hole_put,hole_none h1k]
  refine ⟨?_, ?_⟩
  ·intro j b hj
   by_cases e:j=gk
   ·subst e
    rw [b3] at hj
    cases hj
    rw [Heap.put_same]
   ·rw [Heap.put_ne _ _ e]
    apply hle
    rw [hole_ne _ e];exact hj
  ·cases ho:foParseV s with
   | error e=>rw [ho] at hm;exact hm
   | ok x=>
    rw [ho] at hm
    obtain ⟨vs,hv,ux,zx,hc⟩:=hm
    refine ⟨vs,hv, ?_,zx,hc,a1,a2,Or.inr ⟨gk,cs,b1,rfl,Heap.put_same _ _ _,b4,b5, ?_⟩⟩
    ·show IsE (hole (h1.put gk _) gk) x vs
     rw [hcut];exact ux
    ·rw [hcut]
     exact IsEs.mono hle _ _ b6
theorem KN.app {h0 h:Heap} {A:Option Addr} {n c:Nat} {es:List Ex} (u:KN h0 h A n c es) (hle:Le h0 h) {x:Ex} {vs:List Value} (w:IsE (cutA h A) x vs) (zx:Szs x) {g6:Nat} (hg6:h g6=none) (hn:n<=1000000) {K:Option Addr->Nat->Heap->Prop}
  (hK : ∀ A' c' h', KN h0 h' A' (n+1) c' (es++[x])->Le h0 h' -> K A' c' h') :
  ∃ xs:List Value,RdS (h.put g6 ⟨vs,39,(0,0)⟩) (some ⟨g6,0,none⟩) (1*6) xs/\(∀ y∈xs,Go.Vcg.one y=true)/\
   (n+1<=c-> ∃ (ad:Addr) (b:Blk),A=some ad/\ad.spot=none/\(h.put g6 ⟨vs,39,(0,0)⟩) ad.block=some b/\b.fz=(0,0)/\ad.off+n*6+1*6<=b.cells.length/\
    ∀ h' : Heap,h' = Heap.put (h.put g6 ⟨vs,39,(0,0)⟩) ad.block { b with cells:=setSeg b.cells (ad.off+n*6) xs }->K A c h')/\
   (c<n+1-> ∃ olds:List Value,RdS (h.put g6 ⟨vs,39,(0,0)⟩) A (n*6) olds/\(n+1)*104<=140737488355328/\
    ∀ (g1 cap:Nat) (h' : Heap),(h.put g6 ⟨vs,39,(0,0)⟩) g1=none->n+1<=cap->h' = Heap.put (h.put g6 ⟨vs,39,(0,0)⟩) g1 ⟨olds++xs++repV zE (cap-(n+1)),39,(0,0)⟩->K (some ⟨g1,0,none⟩) cap h'):=by
 obtain ⟨a1,a2,a3⟩:=u
 have l6:=Le.new hg6 (⟨vs,39,(0,0)⟩:Blk)
 have hvl:=w.len
 obtain ⟨s3,A3,c3,B3,d3,K3,kc3,hvs,_,_,_⟩:=w.open
 refine ⟨vs,⟨hvl,fun _=>⟨_,rfl,rfl,_,Heap.put_same _ _ _,by simp only [List.drop_zero];rw [List.take_of_length_le (by omega)]⟩⟩, ?_, ?_, ?_⟩
 ·intro v hv
  rw [hvs] at hv
  simp only [cellsE,List.mem_cons,List.not_mem_nil,or_false] at hv
  rcases hv with rfl | rfl | rfl | rfl | rfl | rfl<;>rfl
 ·intro hcap
  rcases a3 with ⟨_,_,rfl⟩ | ⟨gp,cs,b0,rfl,b3,b4,b5,b7⟩
  ·omega
  ·have hg6p:g6≠gp:=fun e=>by rw [e,b3] at hg6;cases hg6
   refine ⟨_,_,rfl,rfl,by rw [Heap.put_ne _ _ (fun e=>hg6p e.symm)];exact b3,rfl,by simp only;omega, ?_⟩
   rintro _ rfl
   have hcs:setSeg cs (0+n*6) vs=cs.take (6*es.length)++vs++cs.drop (0+n*6+vs.length):=by
    unfold setSeg
    rw [show 0+n*6=6*es.length by omega]
   refine hK _ _ _ ⟨by rw [List.length_append];simp;omega,SzsL.snoc a2 zx,Or.inr ⟨gp,_,b0,rfl,Heap.put_same _ _ _, ?_,hcap, ?_⟩⟩ ?_
   ·simp only
    rw [hcs,List.length_append,List.length_append,List.length_take,List.length_drop]
    omega
   ·simp only
    rw [hcs,hole_put]
    have hn7:hole h gp g6=none:=by rw [hole_ne _ hg6p];exact hg6
    have l7:=Le.new hn7 (⟨vs,39,(0,0)⟩:Blk)
    rw [hole_put_ne _ _ hg6p]
    exact IsEs.snoc (IsEs.mono l7 _ _ b7) (by omega) (IsE.mono l7 _ _ w)
   ·exact (hle.put (hle.free hg6) _).put b0 _
 ·intro hcap
  have holds : ∃ olds:List Value,RdS (h.put g6 ⟨vs,39,(0,0)⟩) A (n*6) olds/\IsEs h es olds/\olds.length=6*es.length:=by
   rcases a3 with ⟨rfl,rfl,rfl⟩ | ⟨gp,cs,b0,rfl,b3,b4,b5,b7⟩
   ·have:es=[]:=List.length_eq_zero_iff.1 a1
    subst this
    exact ⟨[],⟨rfl,fun q=>absurd q (by decide)⟩,by unfold IsEs;trivial,rfl⟩
   ·have hg6p:g6≠gp:=fun e=>by rw [e,b3] at hg6;cases hg6
    refine ⟨cs.take (6*es.length),⟨by rw [List.length_take];omega,fun _=>⟨_,rfl,rfl,_,by rw [Heap.put_ne _ _ (fun e=>hg6p e.symm)];exact b3, ?_⟩⟩,IsEs.take (IsEs.mono (hole_le _ _) _ _ b7),by rw [List.length_take];omega⟩
    simp only [List.drop_zero,List.length_take]
    congr 1
    omega
  obtain ⟨olds,hrd,hes,hol⟩:=holds
  refine ⟨olds,hrd,by omega, ?_⟩
  rintro g7 cap _ hg7 hcap7 rfl
  have hg76:g7≠g6:=fun e=>by rw [e,Heap.put_same] at hg7;cases hg7
  have hg7' : h g7=none:=by rw [Heap.put_ne _ _ hg76] at hg7;exact hg7
  refine hK _ _ _ ⟨by rw [List.length_append];simp;omega,SzsL.snoc a2 zx,Or.inr ⟨g7,_,hle.free hg7', rfl,Heap.put_same _ _ _, ?_,hcap7, ?_⟩⟩ ?_
  ·rw [List.length_append,List.length_append,hol,repV_six]
   omega
  ·rw [hole_put,hole_none hg7]
   have:=IsEs.snoc (rest:=repV zE (cap-(n+1))) (IsEs.mono l6 _ _ hes) (by omega) (IsE.mono l6 _ _ (IsE.mono (cutA_le _ _) _ _ w))
   rw [List.take_of_length_le (by omega)] at this
   exact this
  ·exact (hle.put (hle.free hg6) _).put (hle.free hg7') _
def numsP:List (List UInt8)->Except Int (List Ex)
 | []=> .ok []
 | t::ts=>match foParseV t with
  | .error e=> .error e
  | .ok x=>match numsP ts with
   | .error e=> .error e
   | .ok xs=> .ok (x::xs)
def numsQ (es:List Ex) (ts:List (List UInt8)):Except Int (List Ex):=match numsP ts with
 | .error e=> .error e
 | .ok xs=> .ok (es++xs)
theorem numsQ_nil (ts:List (List UInt8)):numsQ [] ts=numsP ts:=by unfold numsQ;cases numsP ts<;>rfl
def parseLV (line:List UInt8):Except Int Stp:=match divLV line with
 | none=> .error 2
 | some (nm,k,fr,ts)=>match numsP ts with
  | .error e=> .error e
  | .ok xs=> .ok ⟨nm,k,fr,xs⟩
abbrev zS:List Value:=[.string ByteArray.empty,.int .i64 0,.slice none 0 0,.slice none 0 0]
def PlR (o:Except Int Stp) (r:Value) (h' : Heap):Prop:=match o with
 | .error e=>e≠0/\r = .tuple #[.agg zS.toArray,.int .i64 e]
 | .ok s=> ∃ vs:List Value,r = .tuple #[.agg vs.toArray,.int .i64 0]/\IsS h' s vs/\SzsL s.nums/\ ∀ x∈s.nums,chkV x 1=0
theorem divFV_len {ws ts:List (List UInt8)} {n:Nat} (h:divFV ws n=some ts):ts.length<=2:=by
 unfold divFV at h
 split at h
 ·split at h
  ·cases h;simp
  ·cases h
 ·split at h
  ·cases h;simp
  ·rw [Option.map_eq_some_iff] at h
   obtain ⟨i,_,rfl⟩:=h
   simp
theorem divLV_len {line nm:List UInt8} {k:Int} {fr ts:List (List UInt8)} (h:divLV line=some (nm,k,fr,ts)):ts.length<=2:=by
 unfold divLV divWV at h
 split at h
 ·split at h
  ·split at h
   ·unfold behindV at h
    split at h
    ·split at h
     ·split at h
      ·cases h
      ·rw [Option.map_eq_some_iff] at h
       obtain ⟨ts', h1,h2⟩:=h
       cases h2
       exact divFV_len h1
     ·cases h
    ·cases h
   ·cases h
  ·cases h
 ·cases h
theorem drParseL_c {line:List UInt8} (hl:line.length<=100000) {h:Heap} (t:Frms h) :
  CallsU Tryz.prog 48 [sv line] h fun r h' => PlR (parseLV line) r h' /\ Le h h' := by
 apply draft_parseLine_ok
 unfold draft_parseLine_vc
 refine (drDivL_c hl t).mono ?_
 rintro _ h1 ⟨hR,l1⟩
 unfold parseLV
 cases hd:divLV line with
 | none=>
  rw [hd] at hR
  obtain ⟨nm,k,F,fn,fc,rfl⟩:=hR
  exact ⟨_,_,_,_,_,_,_,_,_,_,_,_,rfl,Br.mk (fun _=>⟨⟨by decide,rfl⟩,l1⟩) (fun q=>by exact absurd q (by decide))⟩
 | some p=>
  obtain ⟨nm,k,fr,ts⟩:=p
  have hts:=divLV_len hd
  rw [hd] at hR
  obtain ⟨F,fc,A,n,c,rfl,uf,ut⟩:=hR
  have htn:=ut.len
  simp only
  refine ⟨_,_,_,_,_,_,_,_,_,_,_,_,rfl,Br.mk (fun q=>by exact absurd q (by decide)) (fun _=> ?_)⟩
  refine ⟨fun m i _ _ _ _ _ _ _ _ s0 s1 F' fn' fc' K kn kc h' => ∃ j es,j<=ts.length/\m=ts.length-j/\i=(j:Int)/\s0=⟨nm.toArray⟩/\k=s1/\F=F' /\ fr.length=fn' /\ fc=fc' /\ KN h1 h' K kn kc es/\kn=j/\Le h1 h' /\ numsQ es (ts.drop j)=numsP ts/\ ∀ x∈es,chkV x 1=0,⟨_,0,[],by omega,rfl,rfl,rfl,rfl,rfl,rfl,rfl,⟨rfl,by unfold SzsL;trivial,Or.inl ⟨rfl,rfl,rfl⟩⟩,rfl,Le.refl _,numsQ_nil _,by simp⟩, ?_⟩
  rintro m _ a0 a1 a2 a3 a4 a5 a6 a7 _ _ _ _ _ K kn kc h2 ⟨j,es,hj,rfl,rfl,rfl,rfl,rfl,rfl,rfl,kn0,hkn,l2,heq,hck⟩
  refine Br.mk (fun q=> ?_) (fun q=> ?_)
  ·have hlt:j<ts.length:=by have:=of_decide_eq_true q;omega
   obtain ⟨x,hx⟩ : ∃ x,ts[j]?=some x:=⟨_,List.getElem?_eq_getElem hlt⟩
   have hdr:ts.drop j=x::ts.drop (j+1):=by
    rw [List.drop_eq_getElem_cons hlt]
    rw [List.getElem?_eq_getElem hlt] at hx
    cases hx
    rfl
   obtain ⟨ad,ea,hld⟩:=(ut.mono l2).get hx
   rw [hdr] at heq
   unfold numsQ at heq
   rw [numsP] at heq
   refine ⟨ad,ea,by omega,by omega,_,by rw [Int.toNat_natCast];exact hld, ?_⟩
   refine (knParse_c x kn0).mono ?_
   rintro _ h3 ⟨l3,hm⟩
   cases ho:foParseV x with
   | error e=>
    rw [ho] at hm heq
    obtain ⟨he,rfl⟩:=hm
    refine ⟨_,_,_,_,_,_,_,_,_,_,_,_,_,rfl,Br.mk (fun _=> ?_) (fun q=>by rw [bne_eq_false_iff_eq] at q;exact absurd q he)⟩
    simp only at heq
    rw [<- heq]
    exact ⟨⟨he,rfl⟩,(l1.trans l2).trans l3⟩
   | ok y=>
    rw [ho] at hm heq
    obtain ⟨vs,rfl,ux,zx,hc,kn3⟩:=hm
    obtain ⟨s3,A3,c3,B3,d3,K3,kc3,hvs,_,_,_⟩:=ux.open
    subst hvs
    refine ⟨_,_,_,_,_,_,_,_,_,_,_,_,_,rfl,Br.mk (fun q=>by exact absurd q (by decide)) (fun _=> ?_)⟩
    rintro g6 _ hg6 rfl
    refine kn3.app (l2.trans l3) ux zx hg6 (by omega) (K:=fun A' c' h' => ∀ t41:Int,t41=IntKind.i64.wrap ((j:Int)+1)-> ∃ m_1,m_1<ts.length-j/\ ∃ j' es', j' <= ts.length/\m_1=ts.length-j' /\ t41=(j' : Int)/\(⟨nm.toArray⟩:ByteArray)=⟨nm.toArray⟩/\k=k/\F=F/\fr.length=fr.length/\fc=fc/\KN h1 h' A' (kn+1) c' es' /\ kn+1=j' /\ Le h1 h' /\ numsQ es' (ts.drop j')=numsP ts/\ ∀ x∈es', chkV x 1=0) (fun A' c' h' kn' l' => ?_)
    rintro _ rfl
    refine ⟨ts.length-(j+1),by omega,j+1,es++[y],by omega,rfl,wi (by omega) (by omega),rfl,rfl,rfl,rfl,rfl,kn', by omega,l', ?_, ?_⟩
    ·rw [<- heq]
     unfold numsQ
     cases numsP (ts.drop (j+1)) with
     | error e=>rfl
     | ok xs=>simp
    ·intro z hz
     rcases List.mem_append.1 hz with q2 | q2
     ·exact hck z q2
     ·simp at q2;rw [q2];exact hc
  ·have hje:j=ts.length:=by have:=of_decide_eq_false q;omega
   rw [hje,List.drop_length] at heq
   unfold numsQ at heq
   rw [numsP] at heq
   simp only [List.append_nil] at heq
   rw [<- heq]
   refine ⟨⟨[sv nm,.int .i64 k,.slice F fr.length fc,.slice K kn kc],rfl,⟨F,fc,K,kc, ?_,uf.mono l2, ?_⟩,kn0.2.1,hck⟩,l1.trans l2⟩
   ·simp only;rw [kn0.1]
   ·simp only;rw [kn0.1];exact kn0.k
def SN (h0 h:Heap) (A:Option Addr) (n c:Nat) (ss:List Stp):Prop:=
 ss.length=n/\((A=none/\n=0/\c=0)\/ ∃ gs cs,h0 gs=none/\A=some ⟨gs,0,none⟩/\h gs=some ⟨cs,42,(0,0)⟩/\cs.length=4*c/\n<=c/\ ∀ i s,ss[i]?=some s->IsS (hole h gs) s ((cs.drop (i*4)).take 4))
theorem SN.s {h0 h:Heap} {A:Option Addr} {n c:Nat} {ss:List Stp} (u:SN h0 h A n c ss):StpS h A n c ss:=by
 obtain ⟨a,b⟩:=u
 refine ⟨a.symm, ?_,fun hn=> ?_⟩
 ·rcases b with ⟨_,e,e2⟩ | ⟨gp,cs,b1,b2,b3,b4,b5,b6⟩
  ·omega
  ·exact b5
 ·rcases b with ⟨_,e,_⟩ | ⟨gp,cs,b1,b2,b3,b4,b5,b6⟩
  ·exact absurd (List.length_eq_zero_iff.1 (by omega)) hn
  ·exact ⟨_,_,b2,rfl,b3,fun i s hs=>by simpa using (b6 i s hs).mono (hole_le _ _)⟩
theorem snParse_c {line:List UInt8} (hl:line.length<=100000) {h0 h:Heap} {A:Option Addr} {n c:Nat} {ss:List Stp} (u:SN h0 h A n c ss) (t:Frms h0) (l0:Le h0 h) :
  CallsU Tryz.prog 48 [sv line] h fun v h' => PlR (parseLV line) v (cutA h' A)/\Le h h' /\ SN h0 h' A n c ss:=by
 obtain ⟨a1,a3⟩:=u
 rcases a3 with ⟨rfl,rfl,rfl⟩ | ⟨gk,cs,b1,rfl,b3,b4,b5,b6⟩
 ·refine (drParseL_c hl (t.mono l0)).mono ?_
  rintro v h' ⟨hm,l⟩
  exact ⟨hm,l,a1,Or.inl ⟨rfl,rfl,rfl⟩⟩
 ·have th:Frms (hole h gk):=by
   obtain ⟨b,hb,hc⟩:=t
   refine ⟨b, ?_,hc⟩
   rw [hole_ne _ (fun e=>by rw [e,b1] at hb;cases hb)]
   exact l0 _ _ hb
  have fr:=(drParseL_c hl th).frame (g:=gk) (b:=⟨cs,42,(0,0)⟩) (hole_at h gk)
  rw [put_hole b3] at fr
  refine fr.mono ?_
  rintro v _ ⟨h1,⟨hm,hle⟩,h1k,rfl⟩
  have hcut:hole (h1.put gk ⟨cs,42,(0,0)⟩) gk=h1:=by rw [hole_put,hole_none h1k]
  refine ⟨?_, ?_,a1,Or.inr ⟨gk,cs,b1,rfl,Heap.put_same _ _ _,b4,b5, ?_⟩⟩
  ·show PlR _ _ (hole (h1.put gk _) gk)
   rw [hcut];exact hm
  ·intro j b hj
   by_cases e:j=gk
   ·subst e
    rw [b3] at hj
    cases hj
    rw [Heap.put_same]
   ·rw [Heap.put_ne _ _ e]
    apply hle
    rw [hole_ne _ e];exact hj
  ·rw [hcut]
   exact fun i s hs=>(b6 i s hs).mono hle
theorem IsS.len {h:Heap} {s:Stp} {vs:List Value} (u:IsS h s vs):vs.length=4:=by
 obtain ⟨_,_,_,_,rfl,_⟩:=u
 rfl
theorem snS {h:Heap} {ss:List Stp} {cs vs rest:List Value} {x:Stp} (u : ∀ i s,ss[i]?=some s->IsS h s ((cs.drop (i*4)).take 4)) (hl:4*ss.length<=cs.length) (w:IsS h x vs) :
  ∀ i s,(ss++[x])[i]?=some s->IsS h s (((cs.take (4*ss.length)++vs++rest).drop (i*4)).take 4):=by
 intro i q hq
 have htl:(cs.take (4*ss.length)).length=4*ss.length:=by rw [List.length_take];omega
 have hv:=w.len
 rcases Nat.lt_or_ge i ss.length with hi | hi
 ·rw [List.getElem?_append_left hi] at hq
  have:=u i q hq
  rw [List.append_assoc,List.drop_append_of_le_length (by omega),List.take_append_of_le_length (by rw [List.length_drop];omega),List.drop_take,List.take_take,Nat.min_eq_left (by omega)]
  exact this
 ·have hi' : i=ss.length:=by
   have:=(List.getElem?_eq_some_iff.1 hq).1
   simp at this
   omega
  subst hi'
  rw [List.getElem?_append_right (Nat.le_refl _),Nat.sub_self] at hq
  simp at hq
  subst hq
  rw [List.append_assoc,List.drop_append_of_le_length (by omega),List.drop_of_length_le (by omega),List.nil_append,List.take_append_of_le_length (by omega),List.take_of_length_le (by omega)]
  exact w
theorem repV_four (k:Nat):(repV zS k).length=4*k:=by
 induction k with
 | zero=>rfl
 | succ k ih=>rw [repV,List.length_append,ih];simp;omega
theorem SN.app {h0 h:Heap} {A:Option Addr} {n c:Nat} {ss:List Stp} (u:SN h0 h A n c ss) (hle:Le h0 h) {x:Stp} {vs:List Value} (w:IsS (cutA h A) x vs) {g6:Nat} (hg6:h g6=none) (hn:n<=1000000) {K:Option Addr->Nat->Heap->Prop}
  (hK : ∀ A' c' h', SN h0 h' A' (n+1) c' (ss++[x])->Le h0 h' -> K A' c' h') :
  ∃ xs:List Value,RdS (h.put g6 ⟨vs,42,(0,0)⟩) (some ⟨g6,0,none⟩) (1*4) xs/\(∀ y∈xs,Go.Vcg.one y=true)/\
   (n+1<=c-> ∃ (ad:Addr) (b:Blk),A=some ad/\ad.spot=none/\(h.put g6 ⟨vs,42,(0,0)⟩) ad.block=some b/\b.fz=(0,0)/\ad.off+n*4+1*4<=b.cells.length/\
    ∀ h' : Heap,h' = Heap.put (h.put g6 ⟨vs,42,(0,0)⟩) ad.block { b with cells:=setSeg b.cells (ad.off+n*4) xs }->K A c h')/\
   (c<n+1-> ∃ olds:List Value,RdS (h.put g6 ⟨vs,42,(0,0)⟩) A (n*4) olds/\(n+1)*72<=140737488355328/\
    ∀ (g1 cap:Nat) (h' : Heap),(h.put g6 ⟨vs,42,(0,0)⟩) g1=none->n+1<=cap->h' = Heap.put (h.put g6 ⟨vs,42,(0,0)⟩) g1 ⟨olds++xs++repV zS (cap-(n+1)),42,(0,0)⟩->K (some ⟨g1,0,none⟩) cap h'):=by
 obtain ⟨a1,a3⟩:=u
 have l6:=Le.new hg6 (⟨vs,42,(0,0)⟩:Blk)
 have hvl:=w.len
 refine ⟨vs,⟨hvl,fun _=>⟨_,rfl,rfl,_,Heap.put_same _ _ _,by simp only [List.drop_zero];rw [List.take_of_length_le (by omega)]⟩⟩, ?_, ?_, ?_⟩
 ·intro v hv
  obtain ⟨_,_,_,_,rfl,_⟩:=w
  simp only [List.mem_cons,List.not_mem_nil,or_false] at hv
  rcases hv with rfl | rfl | rfl | rfl<;>rfl
 ·intro hcap
  rcases a3 with ⟨_,_,rfl⟩ | ⟨gp,cs,b0,rfl,b3,b4,b5,b7⟩
  ·omega
  ·have hg6p:g6≠gp:=fun e=>by rw [e,b3] at hg6;cases hg6
   refine ⟨_,_,rfl,rfl,by rw [Heap.put_ne _ _ (fun e=>hg6p e.symm)];exact b3,rfl,by simp only;omega, ?_⟩
   rintro _ rfl
   have hcs:setSeg cs (0+n*4) vs=cs.take (4*ss.length)++vs++cs.drop (0+n*4+vs.length):=by
    unfold setSeg
    rw [show 0+n*4=4*ss.length by omega]
   refine hK _ _ _ ⟨by rw [List.length_append];simp;omega,Or.inr ⟨gp,_,b0,rfl,Heap.put_same _ _ _, ?_,hcap, ?_⟩⟩ ?_
   ·simp only
    rw [hcs,List.length_append,List.length_append,List.length_take,List.length_drop]
    omega
   ·simp only
    rw [hcs,hole_put]
    have hn7:hole h gp g6=none:=by rw [hole_ne _ hg6p];exact hg6
    have l7:=Le.new hn7 (⟨vs,42,(0,0)⟩:Blk)
    rw [hole_put_ne _ _ hg6p]
    exact snS (fun i s hs=>(b7 i s hs).mono l7) (by omega) (IsS.mono w l7)
   ·exact (hle.put (hle.free hg6) _).put b0 _
 ·intro hcap
  have holds : ∃ olds:List Value,RdS (h.put g6 ⟨vs,42,(0,0)⟩) A (n*4) olds/\(∀ i s,ss[i]?=some s->IsS h s ((olds.drop (i*4)).take 4))/\olds.length=4*ss.length:=by
   rcases a3 with ⟨rfl,rfl,rfl⟩ | ⟨gp,cs,b0,rfl,b3,b4,b5,b7⟩
   ·have:ss=[]:=List.length_eq_zero_iff.1 a1
    subst this
    exact ⟨[],⟨rfl,fun q=>absurd q (by decide)⟩,fun i s hs=>by simp at hs,rfl⟩
   ·have hg6p:g6≠gp:=fun e=>by rw [e,b3] at hg6;cases hg6
    refine ⟨cs.take (4*ss.length),⟨by rw [List.length_take];omega,fun _=>⟨_,rfl,rfl,_,by rw [Heap.put_ne _ _ (fun e=>hg6p e.symm)];exact b3, ?_⟩⟩,fun i s hs=> ?_,by rw [List.length_take];omega⟩
    ·simp only [List.drop_zero,List.length_take]
     congr 1
     omega
    ·have hi:=(List.getElem?_eq_some_iff.1 hs).1
     have:=(b7 i s hs).mono (hole_le _ _)
     rw [List.drop_take,List.take_take,Nat.min_eq_left (by omega)]
     exact this
  obtain ⟨olds,hrd,hes,hol⟩:=holds
  refine ⟨olds,hrd,by omega, ?_⟩
  rintro g7 cap _ hg7 hcap7 rfl
  have hg76:g7≠g6:=fun e=>by rw [e,Heap.put_same] at hg7;cases hg7
  have hg7' : h g7=none:=by rw [Heap.put_ne _ _ hg76] at hg7;exact hg7
  refine hK _ _ _ ⟨by rw [List.length_append];simp;omega,Or.inr ⟨g7,_,hle.free hg7', rfl,Heap.put_same _ _ _, ?_,hcap7, ?_⟩⟩ ?_
  ·rw [List.length_append,List.length_append,hol,repV_four]
   omega
  ·rw [hole_put,hole_none hg7]
   have:=snS (rest:=repV zS (cap-(n+1))) (fun i s hs=>(hes i s hs).mono l6) (by omega) (IsS.mono (IsS.mono w (cutA_le _ _)) l6)
   rw [List.take_of_length_le (by omega)] at this
   exact this
  ·exact (hle.put (hle.free hg6) _).put (hle.free hg7') _
def skipV (l:List UInt8):Bool:=match l with
 | []=>true
 | x::_=>x==35
def parFr:List (List UInt8)->Nat->List Stp->Except (Int×Nat) (List Stp)
 | [],_,ss=> .ok ss
 | l::ls,i,ss=>if skipV l=true then parFr ls (i+1) ss else match parseLV l with
  | .error e=> .error (e,i+1)
  | .ok s=>if ss.length=64 then .error (5,i+1) else if chkNm ss s=0 then parFr ls (i+1) (ss++[s]) else .error (chkNm ss s,i+1)
def drParseV (s:List UInt8):Except (Int×Nat) (List Stp):=if 20000<s.length then .error (5,0) else parFr (splitV 10 s) 0 []
def FmOk (ss:List Stp):Prop:= ∀ s∈ss,SzsL s.nums/\ ∀ x∈s.nums,chkV x 1=0
def DpR (o:Except (Int×Nat) (List Stp)) (r:Value) (h' : Heap):Prop:=match o with
 | .ok ss=> ∃ A n c,r = .tuple #[.slice A n c,.int .i64 0,.int .i64 0]/\StpS h' A n c ss/\FmOk ss
 | .error (e,i)=>e≠0/\r = .tuple #[.slice none 0 0,.int .i64 e,.int .i64 (i:Int)]
theorem divLV_frm {line nm:List UInt8} {k:Int} {fr ts:List (List UInt8)} (h:divLV line=some (nm,k,fr,ts)):fr.length<=4:=by
 unfold divLV divWV at h
 split at h
 ·split at h
  ·split at h
   ·unfold behindV at h
    split at h
    ·split at h
     ·split at h
      ·cases h
      ·rw [Option.map_eq_some_iff] at h
       obtain ⟨ts', h1,h2⟩:=h
       cases h2
       have hf0 : ∀ k:Int,frN k<=4:=fun k=>by unfold frN;repeat' split<;>try decide
       have:=hf0 (kindV ‹_›)
       rw [List.length_take]
       omega
     ·cases h
    ·cases h
   ·cases h
  ·cases h
 ·cases h
theorem parseLV_frm {line:List UInt8} {s:Stp} (h:parseLV line = .ok s):s.frm.length<=4:=by
 unfold parseLV at h
 split at h
 ·cases h
 ·rename_i hd
  split at h
  ·cases h
  ·cases h
   exact divLV_frm hd
theorem drParse_c (s:List UInt8) (hs:s.length<=1000000) {h:Heap} (t:Frms h) :
  CallsU Tryz.prog 24 [sv s] h fun r h' => DpR (drParseV s) r h' /\ Le h h' := by
 apply draft_Parse_ok
 unfold draft_Parse_vc drParseV
 rw [ba_size]
 refine Br.mk (fun q=> ?_) (fun q=> ?_)
 ·rw [if_pos (by have:=of_decide_eq_true q;omega)]
  exact ⟨⟨by decide,rfl⟩,Le.refl _⟩
 have hl:s.length<=20000:=by have:=of_decide_eq_false q;omega
 rw [if_neg (by omega)]
 refine (split1_c 10 (by omega) h).mono ?_
 rintro _ _ ⟨g,hg,rfl,rfl⟩
 have htot:=totL_split 10 s
 generalize splitV 10 s=ws at htot
 have l1:=Le.new hg (⟨ws.map sv,9,(0,0)⟩:Blk)
 have hb:(h.put g ⟨ws.map sv,9,(0,0)⟩) g=some ⟨ws.map sv,9,(0,0)⟩:=Heap.put_same _ _ _
 generalize h.put g ⟨ws.map sv,9,(0,0)⟩=h1 at l1 hb
 have uw:Sl sv h1 (some ⟨g,0,none⟩) ws.length ws.length ws:=by
  have:=Sl.of_blk (m:=ws.length) (k:=ws.length) hb (Nat.le_refl _) (Nat.le_refl _)
  simpa using this
 have hlen:=totL_len ws
 refine ⟨_,_,_,rfl, ?_⟩
 refine ⟨fun m A n c i h' => ∃ j ss,j<=ws.length/\m=ws.length-j/\i=(j:Int)/\SN h1 h' A n c ss/\n<=64/\Le h1 h' /\ FmOk ss/\parFr (ws.drop j) j ss=parFr ws 0 [],⟨_,0,[],by omega,rfl,rfl,⟨rfl,Or.inl ⟨rfl,rfl,rfl⟩⟩,by omega,Le.refl _,fun s hs=>by simp at hs,rfl⟩, ?_⟩
 rintro m A n c _ h2 ⟨j,ss,hj,rfl,rfl,sn,hn,l2,hfm,heq⟩
 refine Br.mk (fun q=> ?_) (fun q=> ?_)
 ·have hlt:j<ws.length:=by have:=of_decide_eq_true q;omega
  obtain ⟨x,hx⟩ : ∃ x,ws[j]?=some x:=⟨_,List.getElem?_eq_getElem hlt⟩
  have hdr:ws.drop j=x::ws.drop (j+1):=by
   rw [List.drop_eq_getElem_cons hlt]
   rw [List.getElem?_eq_getElem hlt] at hx
   cases hx
   rfl
  have hxl:x.length<=100000:=by have:=totL_mem (List.mem_of_getElem? hx);omega
  obtain ⟨ad,ea,hld⟩:=(uw.mono l2).get hx
  rw [hdr,parFr] at heq
  refine ⟨ad,ea,by omega,by omega,_,by rw [Int.toNat_natCast];exact hld,fun b h' => h2=h' /\ b=skipV x, ?_, ?_⟩
  ·rintro _ _ ⟨rfl,rfl⟩
   refine Br.mk (fun q2=> ?_) (fun q2=> ?_)
   ·rintro _ rfl
    rw [if_pos q2] at heq
    exact ⟨ws.length-(j+1),by omega,j+1,ss,by omega,rfl,wi (by omega) (by omega),sn,hn,l2,hfm,heq⟩
   rw [if_neg (by rw [q2];decide)] at heq
   have e1:IntKind.i64.wrap ((j:Int)+1)=((j+1:Nat):Int):=wi (by omega) (by omega)
   refine (snParse_c hxl sn (t.mono l1) l2).mono ?_
   rintro _ h3 ⟨hR,l3,sn3⟩
   have l13:=(l1.trans l2).trans l3
   cases hp:parseLV x with
   | error e=>
    rw [hp] at hR heq
    obtain ⟨he,rfl⟩:=hR
    simp only at heq
    refine ⟨_,_,_,_,_,_,_,_,_,rfl,fun e' h' => e=e' /\ h3=h', ?_,Br.mk (fun q3=>absurd (beq_iff_eq.1 q3) he) (fun _=>⟨rfl,rfl⟩)⟩
    rintro _ _ ⟨rfl,rfl⟩
    refine ⟨fun e'' h' => e=e'' /\ h3=h', ?_,Br.mk (fun q3=>absurd (beq_iff_eq.1 q3) he) (fun _=>⟨rfl,rfl⟩)⟩
    rintro _ _ ⟨rfl,rfl⟩
    refine Br.mk (fun _=> ?_) (fun q3=>by rw [bne_eq_false_iff_eq] at q3;exact absurd q3 he)
    rintro _ rfl
    rw [e1,<- heq]
    exact ⟨⟨he,rfl⟩,l13⟩
   | ok st=>
    rw [hp] at hR heq
    obtain ⟨vs,rfl,us,zs,hck⟩:=hR
    have us' := us
    obtain ⟨F,fc,K,kc,rfl,uf,uk⟩:=us'
    simp only at heq
    refine ⟨_,_,_,_,_,_,_,_,_,rfl,fun e' h' => h3=h' /\ e' = (if ss.length=64 then 5 else 0), ?_,Br.mk (fun _=>Br.mk (fun q4=> ?_) (fun q4=> ?_)) (fun q3=>by exact absurd q3 (by decide))⟩
    ·rintro _ _ ⟨rfl,rfl⟩
     refine ⟨fun e' h' => h3=h' /\ e' = (if ss.length=64 then 5 else chkNm ss st), ?_,Br.mk (fun q4=> ?_) (fun q4=> ?_)⟩
     ·rintro _ _ ⟨rfl,rfl⟩
      by_cases h64:ss.length=64
      ·rw [if_pos h64] at heq ⊢
       refine Br.mk (fun _=> ?_) (fun q4=>by exact absurd q4 (by decide))
       rintro _ rfl
       rw [e1,<- heq]
       exact ⟨⟨by decide,rfl⟩,l13⟩
      ·rw [if_neg h64] at heq ⊢
       refine Br.mk (fun q4=> ?_) (fun q4=> ?_)
       ·have hne:chkNm ss st≠0:=by simpa using q4
        rw [if_neg hne] at heq
        rintro _ rfl
        rw [e1,<- heq]
        exact ⟨⟨hne,rfl⟩,l13⟩
       ·have hz:chkNm ss st=0:=by simpa using q4
        rw [if_pos hz] at heq
        rintro g6 _ hg6 rfl
        refine sn3.app (l2.trans l3) us hg6 (by omega) (K:=fun A' c' h' => ∀ t54:Int,t54=IntKind.i64.wrap ((j:Int)+1)-> ∃ m_1,m_1<ws.length-j/\ ∃ j' ss', j' <= ws.length/\m_1=ws.length-j' /\ t54=(j' : Int)/\SN h1 h' A' (n+1) c' ss' /\ n+1<=64/\Le h1 h' /\ FmOk ss' /\ parFr (ws.drop j') j' ss' = parFr ws 0 []) (fun A' c' h' sn' l' => ?_)
        rintro _ rfl
        have hnn:=sn.1
        exact ⟨ws.length-(j+1),by omega,j+1,ss++[st],by omega,rfl,e1,sn', by omega,l', fun x hx=>by rcases List.mem_append.1 hx with q | q;(exact hfm x q);(simp at q;subst q;exact ⟨zs,hck⟩),heq⟩
     ·have h64:ss.length≠64:=fun e=>by rw [if_pos e] at q4;exact absurd q4 (by decide)
      have hfl:=parseLV_frm hp
      refine (drNames_c (s:=st) sn3.s (by omega) (uf.mono (cutA_le _ _)) (by omega)).mono ?_
      rintro _ _ ⟨rfl,rfl⟩
      exact ⟨_,rfl,rfl,by rw [if_neg h64]⟩
     ·have h64:ss.length=64:=by
       rcases Decidable.em (ss.length=64) with q | q
       ·exact q
       ·rw [if_neg q] at q4;exact absurd q4 (by decide)
      exact ⟨rfl,by rw [if_pos h64,if_pos h64]⟩
    ·have hnn:=sn.1
     exact ⟨rfl,by rw [if_pos (by have:=beq_iff_eq.1 q4;omega)]⟩
    ·have hnn:=sn.1
     refine ⟨rfl, ?_⟩
     rw [if_neg]
     intro e
     have:((n:Nat):Int)=64:=by omega
     rw [this] at q4
     exact absurd q4 (by decide)
  ·rw [bytes_toList,show (⟨#[]⟩:ByteArray).toList=[] from bytes_toList []]
   refine Br.mk (fun q2=> ?_) (fun q2=> ?_)
   ·rw [beq_iff_eq.1 q2]
    exact ⟨rfl,rfl⟩
   ·cases x with
    | nil=>exact absurd q2 (by decide)
    | cons y ys=>
     refine ⟨y,by omega,by rw [ba_get];rfl,rfl, ?_⟩
     rw [skipV,Bool.eq_iff_iff,beq_iff_eq,beq_iff_eq]
     constructor
     ·intro e;exact UInt8.toNat_inj.1 (by change y.toNat=35;omega)
     ·intro e;rw [e];rfl
 ·have hje:j=ws.length:=by have:=of_decide_eq_false q;omega
  rw [hje,List.drop_length,parFr] at heq
  rw [<- heq]
  exact ⟨⟨_,_,_,rfl,sn.s,hfm⟩,l1.trans l2⟩
def numW:Nat->List Ex->Except Int (List (List UInt8))
 | _,[]=> .ok []
 | i,e::es=>match prV e with
  | .error x=> .error x
  | .ok t=>match numW (i+1) es with
   | .error x=> .error x
   | .ok ws=> .ok ((if i=0 then [t] else [[44],t])++ws)
def numWQ (gs:List (List UInt8)) (i:Nat) (es:List Ex):Except Int (List (List UInt8)):=match numW i es with
 | .error x=> .error x
 | .ok ws=> .ok (gs++ws)
def headW (s:Stp):List (List UInt8):=[s.name,[61],wdN s.kind]++s.frm++(if lkN s.kind=[] then [] else [lkN s.kind])
def lineV (s:Stp):Except Int (List UInt8):=match numWQ (headW s) 0 s.nums with
 | .error e=> .error e
 | .ok ws=> .ok (Lib.join ws [32]++[10])
theorem totL_app : ∀ xs ys:List (List UInt8),totL (xs++ys)=totL xs+totL ys
 | [],ys=>by simp [totL]
 | x::xs,ys=>by rw [List.cons_append,totL,totL,totL_app xs ys];omega
theorem totL_le : ∀ (xs:List (List UInt8)),(∀ x∈xs,x.length<=100000)->totL xs<=100001*xs.length
 | [],_=>Nat.le_refl _
 | x::xs,h=>by
  have h1:=h x (by simp)
  have h2:=totL_le xs fun y hy=>h y (by simp [hy])
  rw [totL,List.length_cons,Nat.mul_add]
  omega
theorem prV_err {e:Ex} {x:Int} (h:prV e = .error x):x≠0:=by
 unfold prV at h
 split at h
 ·split at h
  ·cases h
  ·cases h;decide
 ·cases h;assumption
theorem ba_app10 (l:List UInt8):(⟨l.toArray⟩:ByteArray)++(⟨#[10]⟩:ByteArray)=⟨(l++[10]).toArray⟩:=by
 have : ∀ a b:ByteArray,a.data=b.data->a=b:=fun a b e=>by cases a;cases b;simp_all
 apply this
 simp
abbrev LnJ (h:Heap) (s:Stp) (m:Nat) (A:Option Addr) (n c:Nat) (i:Int) (h' : Heap):Prop:=
 ∃ j gs,j<=s.nums.length/\m=s.nums.length-j/\i=(j:Int)/\OwnE sv 9 h h' A n c gs/\Le h h' /\ n<=1004+2*j/\totL gs<=200000100+500*j/\numWQ gs j (s.nums.drop j)=numWQ (headW s) 0 s.nums
abbrev AppC (h9:Heap) (g2:Nat) (A:Option Addr) (n c:Nat) (P:Option Addr->Nat->Heap->Prop):Prop:=
 ∃ xs:List Value,RdS h9 (some ⟨g2,0,none⟩) (1*1) xs/\(∀ x∈xs,Go.Vcg.one x=true)/\
  (n+1<=c-> ∃ (ad:Addr) (b:Blk),A=some ad/\ad.spot=none/\h9 ad.block=some b/\b.fz=(0,0)/\ad.off+n*1+1*1<=b.cells.length/\
   ∀ h' : Heap,h' = Heap.put h9 ad.block { b with cells:=setSeg b.cells (ad.off+n*1) xs }->P A c h')/\
  (c<n+1-> ∃ olds:List Value,RdS h9 A (n*1) olds/\(n+1)*16<=140737488355328/\
   ∀ (g1 cap:Nat) (h' : Heap),h9 g1=none->n+1<=cap->h' = Heap.put h9 g1 ⟨olds++xs++repV [Value.string ByteArray.empty] (cap-(n+1)),9,(0,0)⟩->P (some ⟨g1,0,none⟩) cap h')
theorem drLine_c {h:Heap} {s:Stp} {F:Option Addr} {fc:Nat} {K:Option Addr} {kc:Nat} (uf:Sl sv h F s.frm.length fc s.frm) (uk:IsK h K s.nums.length kc s.nums) (z:SzS s) (hk1:0<=s.kind) (hk6:s.kind<=6) (t:Frms h) (tb:Tab h) :
  CallsU Tryz.prog 55 [.agg #[sv s.name,.int .i64 s.kind,.slice F s.frm.length fc,.slice K s.nums.length kc]] h fun r h' => r=PrR (lineV s)/\Le h h' := by
 apply draft_lineText_ok
 unfold draft_lineText_vc
 obtain ⟨z1,z2,z3,z4,z5⟩:=z
 have hwd:(wdN s.kind).length<=10:=by unfold wdN;repeat' split<;>try decide
 have hlk:(lkN s.kind).length<=10:=by unfold lkN;repeat' split<;>try decide
 have hfr:=totL_le s.frm z5
 have hh3:totL ([s.name,[61],wdN s.kind]++s.frm)<=200000000:=by
  rw [totL_app]
  simp only [totL,List.length_cons,List.length_nil]
  omega
 refine ⟨hk1,by omega,_,_,_,_,t.row hk1 hk6,fun A n c h' => OwnE sv 9 h h' A n c ([s.name,[61],wdN s.kind]++s.frm)/\Le h h', ?_, ?_⟩
 ·rintro A n c h1 ⟨ow,l1⟩
  have hn1:=ow.1
  simp only [List.length_append,List.length_cons,List.length_nil] at hn1
  refine ⟨fun A n c h' => OwnE sv 9 h h' A n c (headW s)/\Le h h' /\ n<=1004, ?_, ?_⟩
  ·rintro A n c h2 ⟨ow2,l2,hn2⟩
   have hh4:totL (headW s)<=200000100:=by
    unfold headW
    rw [totL_app]
    split
    ·simp only [totL];omega
    ·simp only [totL];omega
   refine ⟨LnJ h s,⟨_,0,_,by omega,rfl,rfl,ow2,l2,by omega,by omega,rfl⟩, ?_⟩
   rintro m A n c _ h3 ⟨j,gs,hj,rfl,rfl,ow3,l3,hn3,hto,heq⟩
   refine Br.mk (fun q=> ?_) (fun q=> ?_)
   ·have hlt:j<s.nums.length:=by have:=of_decide_eq_true q;omega
    obtain ⟨x,hx⟩ : ∃ x,s.nums[j]?=some x:=⟨_,List.getElem?_eq_getElem hlt⟩
    have hdr:s.nums.drop j=x::s.nums.drop (j+1):=by
     rw [List.drop_eq_getElem_cons hlt]
     rw [List.getElem?_eq_getElem hlt] at hx
     cases hx
     rfl
    obtain ⟨ad,vs,ea,hld,ux⟩:=(uk.mono l3).get hx
    have ux' := ux
    obtain ⟨s3,A3,c3,B3,d3,K3,kc3,hvs,_,_,_⟩:=ux'.open
    subst hvs
    rw [hdr] at heq
    unfold numWQ at heq
    rw [numW] at heq
    refine ⟨ad,ea,by omega,by omega,_,_,_,_,_,_,_,_,_,_,_,_,by rw [Int.toNat_natCast];exact hld, ?_⟩
    refine (foPrint_c ux (z4.get hx) (tb.mono l3)).mono ?_
    rintro _ h4 ⟨rfl,l4⟩
    cases hp:prV x with
    | error e=>
     rw [hp] at heq
     have he:=prV_err hp
     refine ⟨_,_,rfl,Br.mk (fun _=> ?_) (fun q=>by rw [bne_eq_false_iff_eq] at q;exact absurd q he)⟩
     unfold lineV numWQ
     simp only at heq
     rw [<- heq]
     exact ⟨rfl,l3.trans l4⟩
    | ok tx=>
     rw [hp] at heq
     obtain ⟨_,_,htl⟩:=prV_ok hp
     have e1:IntKind.i64.wrap ((j:Int)+1)=((j+1:Nat):Int):=wi (by omega) (by omega)
     have go : ∀ (ws:List (List UInt8)),ws=(if j=0 then [tx] else [[44],tx])->numWQ (gs++ws) (j+1) (s.nums.drop (j+1))=numWQ (headW s) 0 s.nums:=by
      rintro _ rfl
      unfold numWQ
      rw [<- heq]
      simp only
      cases numW (j+1) (s.nums.drop (j+1)) with
      | error e=>rfl
      | ok ws=>simp
     have K2 : ∀ (ws:List (List UInt8)) A' n' c' h', ws=(if j=0 then [tx] else [[44],tx])->n' = n+ws.length->OwnE sv 9 h h' A' n' c' (gs++ws)->Le h h' -> ∀ t55:Int,t55=IntKind.i64.wrap ((j:Int)+1)-> ∃ m_1,m_1<s.nums.length-j/\LnJ h s m_1 A' n' c' t55 h' := by
      rintro ws A' n' c' h' hws hn' ow' l' _ rfl
      refine ⟨s.nums.length-(j+1),by omega,j+1,gs++ws,by omega,rfl,e1,ow', l', ?_, ?_,go ws hws⟩
      ·rw [hws] at hn'
       split at hn' <;> simp at hn' <;> omega
      ·rw [totL_app,hws]
       split<;>simp [totL]<;>omega
     refine ⟨_,_,rfl,Br.mk (fun q=>by exact absurd q (by decide)) (fun _=>Br.mk (fun q2=> ?_) (fun q2=> ?_))⟩
     ·have hj0:j≠0:=by have:=of_decide_eq_true q2;omega
      rintro g0 _ hg0 rfl
      refine OwnE.app (x:=[44]) (z:=[]) (bs:=16) (K:=fun A' c' h' => ∀ (g_2:Nat) (h_9:Heap),h' g_2=none->h_9=Heap.put h' g_2 ⟨[sv tx],9,(0,0)⟩->AppC h_9 g_2 A' (n+1) c' fun A'' c'' h'' => ∀ t55:Int,t55=IntKind.i64.wrap ((j:Int)+1)-> ∃ m_1,m_1<s.nums.length-j/\LnJ h s m_1 A'' (n+1+1) c'' t55 h'') (ow3.le l4) (l3.trans l4) (fun _=>rfl) rfl rfl hg0 (by omega) (fun A' c' h' o l _=> ?_)
      rintro g2 _ hg2 rfl
      refine OwnE.app (x:=tx) (z:=[]) (bs:=16) (K:=fun A'' c'' h'' => ∀ t55:Int,t55=IntKind.i64.wrap ((j:Int)+1)-> ∃ m_1,m_1<s.nums.length-j/\LnJ h s m_1 A'' (n+1+1) c'' t55 h'') o l (fun _=>rfl) rfl rfl hg2 (by omega) (fun A'' c'' h'' o2 l2 _=> ?_)
      exact K2 [[44],tx] A'' (n+1+1) c'' h'' (by rw [if_neg hj0]) rfl (by simpa using o2) l2
     ·have hj0:j=0:=by have:=of_decide_eq_false q2;omega
      rintro g0 _ hg0 rfl
      refine OwnE.app (x:=tx) (z:=[]) (bs:=16) (K:=fun A' c' h' => ∀ t55:Int,t55=IntKind.i64.wrap ((j:Int)+1)-> ∃ m_1,m_1<s.nums.length-j/\LnJ h s m_1 A' (n+1) c' t55 h') (ow3.le l4) (l3.trans l4) (fun _=>rfl) rfl rfl hg0 (by omega) (fun A' c' h' o l _=> ?_)
      exact K2 [tx] A' (n+1) c' h' (by rw [if_pos hj0]) rfl o l
   ·have hje:j=s.nums.length:=by have:=of_decide_eq_false q;omega
    rw [hje,List.drop_length] at heq
    have hw:numWQ (headW s) 0 s.nums = .ok gs:=by
     rw [<- heq]
     unfold numWQ
     rw [numW]
     simp
    obtain ⟨hn,ho⟩:=ow3
    have hne:gs≠[]:=by
     intro e
     unfold numWQ at hw
     split at hw
     ·cases hw
     ·rw [e] at hw
      simp [headW] at hw
    have hjn:=totL_join 32 gs
    rcases ho with ⟨_,e,_⟩ | ⟨g,zs,rfl,h0,hb,hc⟩
    ·exact absurd (List.length_eq_zero_iff.1 (by omega)) hne
    refine (joinS_c [32] hb hn (by rw [hc,List.length_append];omega) (by omega) (by omega)).mono ?_
    rintro _ _ ⟨rfl,rfl⟩
    refine ⟨_,rfl, ?_, ?_,l3⟩
    ·rw [ba_size]
     have:(⟨#[10]⟩:ByteArray).size=1:=rfl
     omega
    ·unfold lineV
     rw [hw,ba_app10]
     rfl
  ·rw [bytes_toList,show (⟨#[]⟩:ByteArray).toList=[] from bytes_toList []]
   refine Br.mk (fun q=> ?_) (fun q=> ?_)
   ·have hne:lkN s.kind≠[]:=fun e=>by rw [e] at q;exact absurd q (by decide)
    rintro g0 _ hg0 rfl
    refine OwnE.app (x:=lkN s.kind) (z:=[]) (bs:=16) (K:=fun A' c' h' => OwnE sv 9 h h' A' (n+1) c' (headW s)/\Le h h' /\ n+1<=1004) ow l1 (fun _=>rfl) rfl rfl hg0 (by omega) (fun A' c' h' o l _=>⟨?_,l,by omega⟩)
    unfold headW
    rw [if_neg hne]
    exact o
   ·have he:lkN s.kind=[]:=by simpa using q
    refine ⟨?_,l1,by omega⟩
    unfold headW
    rw [if_pos he,List.append_nil]
    exact ow
 ·rintro g0 _ hg0 rfl
  have l0:=Le.new hg0 (⟨[sv s.name,sv [61],sv (wdN s.kind)],9,(0,0)⟩:Blk)
  refine ⟨s.frm.map sv,(uf.mono l0).rds,fun x hx=>by obtain ⟨y,_,rfl⟩:=List.mem_map.1 hx;rfl,fun hle=> ?_,fun hlt=>⟨[sv s.name,sv [61],sv (wdN s.kind)],⟨rfl,fun _=>⟨_,rfl,rfl,_,Heap.put_same _ _ _,rfl⟩⟩,by omega, ?_⟩⟩
  ·have hf0:s.frm=[]:=List.length_eq_zero_iff.1 (by omega)
   rw [hf0]
   exact Br.mk (fun _=>⟨⟨rfl,Or.inr ⟨g0,[],rfl,hg0,Heap.put_same _ _ _,rfl⟩⟩,l0⟩) (fun q=>by exact absurd q (by decide))
  ·rintro g1 cap _ hg1 hcap rfl
   have hg10:h g1=none:=l0.free hg1
   refine ⟨⟨by simp;omega,Or.inr ⟨g1,List.replicate (cap-(3+s.frm.length)) [],rfl,hg10, ?_,by simp;omega⟩⟩,l0.put hg10 _⟩
   rw [Heap.put_same,repV_sv]
   simp
end Go.Proofs.YtfglcgbgaeegaaaGreatDoor

namespace Go.Proofs.YtfglcgbgaeegaaaGreatDoor
open Go Go.Vcg Go.RowKit Go.Sort
theorem divFV_num {ws ts:List (List UInt8)} {n:Nat} (hn:n<=2) (h:divFV ws n=some ts):ts.length=n:=by
 unfold divFV at h
 split at h
 ·split at h
  ·rename_i h2
   cases h;rw [h2.1];rfl
  ·cases h
 ·rename_i h1
  split at h
  ·rename_i h2
   cases h;rw [h2];rfl
  ·rename_i h2
   rw [Option.map_eq_some_iff] at h
   obtain ⟨i,_,rfl⟩:=h
   have:n≠0:=fun e=>h1 (Or.inl e)
   simp
   omega
theorem nuN_bd (k:Int):0<=nuN k/\nuN k<=2:=by unfold nuN;repeat' split<;>try decide
theorem frN_bd (k:Int):0<=frN k/\frN k<=4:=by unfold frN;repeat' split<;>try decide
theorem divLV_ok {line nm:List UInt8} {k:Int} {fr ts:List (List UInt8)} (h:divLV line=some (nm,k,fr,ts)) :
  isPointV nm=true/\(1<=k/\k<=6)/\(fr.length:Int)=frN k/\(ts.length:Int)=nuN k/\ ∀ x∈fr,isPointV x=true:=by
 unfold divLV divWV at h
 split at h
 ·rename_i w0 w1 w2 rest _
  split at h
  ·rename_i h1
   split at h
   ·rename_i h2
    unfold behindV at h
    split at h
    ·rename_i h3
     split at h
     ·rename_i h4
      split at h
      ·cases h
      ·rw [Option.map_eq_some_iff] at h
       obtain ⟨ts', h5,h6⟩:=h
       have hb:=nuN_bd (kindV w2)
       have hf:=frN_bd (kindV w2)
       have h7:=divFV_num (by omega) h5
       cases h6
       refine ⟨h1.1,⟨kindV_ge _,h2⟩, ?_,by omega,fun x hx=>List.all_eq_true.1 h4 x hx⟩
       rw [List.length_take]
       omega
     ·cases h
    ·cases h
   ·cases h
  ·cases h
 ·cases h
theorem numsP_len : ∀ {ts:List (List UInt8)} {xs:List Ex},numsP ts = .ok xs->xs.length=ts.length
 | [],xs,h=>by rw [numsP] at h;cases h;rfl
 | t::ts,xs,h=>by
  rw [numsP] at h
  split at h
  ·cases h
  ·split at h
   ·cases h
   ·rename_i h2
    cases h
    rw [List.length_cons,List.length_cons,numsP_len h2]
theorem parseLV_ok {line:List UInt8} {s:Stp} (h:parseLV line = .ok s) :
  isPointV s.name=true/\(1<=s.kind/\s.kind<=6)/\(s.frm.length:Int)=frN s.kind/\(s.nums.length:Int)=nuN s.kind/\ ∀ x∈s.frm,isPointV x=true:=by
 unfold parseLV at h
 split at h
 ·cases h
 ·rename_i hd
  split at h
  ·cases h
  ·rename_i hn
   cases h
   obtain ⟨a,b,c,d,e⟩:=divLV_ok hd
   refine ⟨a,b,c, ?_,e⟩
   rw [<- d,numsP_len hn]
def runL (ms:List Meas):List Stp->Nat->List Nmd->Except (Int×Nat) (List Nmd)
 | [],_,ps=> .ok ps
 | s::r,i,ps=>match consV ms ps s with
  | .error e=> .error (e,i)
  | .ok p=>if tlV p.1||tlV p.2 then .error (5,i) else runL ms r (i+1) (ps++[⟨s.name,p⟩])
theorem runFr_L (ms:List Meas) (l:List Stp) : ∀ (f i:Nat) (ps:List Nmd),i+f=l.length->runFr ms l f i ps=runL ms (l.drop i) i ps
 | 0,i,ps,h=>by rw [runFr,List.drop_of_length_le (by omega),runL]
 | f+1,i,ps,h=>by
  have hlt:i<l.length:=by omega
  rw [runFr,List.getElem?_eq_getElem hlt,List.drop_eq_getElem_cons hlt,runL]
  simp only
  cases consV ms ps l[i] with
  | error e=>rfl
  | ok p=>
   simp only
   split
   ·rfl
   ·exact runFr_L ms l f (i+1) _ (by omega)
theorem runV_L (ms:List Meas) (l:List Stp):runV ms l=if (checkV l).1=0 then runL ms l 0 [] else .error (checkV l):=by
 unfold runV
 rw [runFr_L ms l l.length 0 [] (by omega),List.drop_zero]
theorem runL_ok {ms:List Meas} : ∀ {l:List Stp} {i:Nat} {ps qs:List Nmd},runL ms l i ps = .ok qs-> ∃ rs,qs=ps++rs/\rs.map (·.name)=l.map (·.name)
 | [],i,ps,qs,h=>by rw [runL] at h;cases h;exact ⟨[],by simp,rfl⟩
 | s::l,i,ps,qs,h=>by
  rw [runL] at h
  split at h
  ·cases h
  ·split at h
   ·cases h
   ·obtain ⟨rs,e,hn⟩:=runL_ok h
    exact ⟨_,by rw [e,List.append_assoc],by rw [List.map_append,hn];rfl⟩
theorem runL_len {ms:List Meas} {l:List Stp} {i:Nat} {ps qs:List Nmd} (h:runL ms l i ps = .ok qs):qs.length=ps.length+l.length:=by
 obtain ⟨rs,rfl,hn⟩:=runL_ok h
 have:=congrArg List.length hn
 rw [List.length_map,List.length_map] at this
 rw [List.length_append,this]
theorem numsV_congr {ms ms' : List Meas} : ∀ {es:List Ex},(∀ e∈es,evalV ms e=evalV ms' e)->numsV ms es=numsV ms' es
 | [],_=>rfl
 | e::es,h=>by
  rw [numsV,numsV,h e (by simp),numsV_congr fun x hx=>h x (by simp [hx])]
theorem consV_congr {ms ms' : List Meas} {ps:List Nmd} {s:Stp} (h : ∀ e∈s.nums,evalV ms e=evalV ms' e):consV ms ps s=consV ms' ps s:=by
 unfold consV
 rw [numsV_congr h]
theorem runL_congr {ms ms' : List Meas} : ∀ {l:List Stp} {i:Nat} {ps:List Nmd},(∀ s∈l,∀ e∈s.nums,evalV ms e=evalV ms' e)->runL ms l i ps=runL ms' l i ps
 | [],_,_,_=>rfl
 | s::l,i,ps,h=>by
  rw [runL,runL,consV_congr (h s (by simp))]
  cases consV ms' ps s with
  | error e=>rfl
  | ok p=>
   simp only
   rw [runL_congr fun x hx=>h x (by simp [hx])]
theorem runV_congr {ms ms' : List Meas} {l:List Stp} (h : ∀ s∈l,∀ e∈s.nums,evalV ms e=evalV ms' e):runV ms l=runV ms' l:=by
 rw [runV_L,runV_L,runL_congr h]
def SpC:List UInt8->Prop
 | []=>True
 | x::r=>(x=32-> ∃ y r', r=y::r' /\ y≠44)/\SpC r
structure PrT (t:List UInt8):Prop where
 sp:SpC t
 ne : ∃ y r,t=y::r/\y≠44
 bal : ∀ op,t.foldl opN op=op
 lf : ∀ x∈t,x≠10
def linesV:List Stp->Except Int (List UInt8)
 | []=> .ok []
 | s::l=>match lineV s with
  | .error e=> .error e
  | .ok t=>match linesV l with
   | .error e=> .error e
   | .ok u=> .ok (t++u)
def drPrintV (l:List Stp):Except Int (List UInt8):=if (checkV l).1=0 then (match linesV l with
  | .error e=> .error e
  | .ok t=>if 20000<t.length then .error 5 else .ok t) else .error (checkV l).1
theorem par_ok : ∀ {ls:List (List UInt8)} {i:Nat} {ss b:List Stp},parFr ls i ss = .ok b->ss.length<=64->(∀ j s,ss[j]?=some s->(∃ line,parseLV line = .ok s)/\chkNm (ss.take j) s=0)->
  b.length<=64/\ ∀ j s,b[j]?=some s->(∃ line,parseLV line = .ok s)/\chkNm (b.take j) s=0
 | [],i,ss,b,h,h64,hall=>by rw [parFr] at h;cases h;exact ⟨h64,hall⟩
 | l::ls,i,ss,b,h,h64,hall=>by
  rw [parFr] at h
  split at h
  ·exact par_ok h h64 hall
  ·split at h
   ·cases h
   ·rename_i s hs
    split at h
    ·cases h
    ·rename_i hne
     split at h
     ·rename_i hz
      refine par_ok h (by simp;omega) fun j x hx=> ?_
      rcases Nat.lt_or_ge j ss.length with q | q
      ·rw [List.getElem?_append_left q] at hx
       rw [List.take_append_of_le_length (by omega)]
       exact hall j x hx
      ·have hj:j=ss.length:=by
        have:=(List.getElem?_eq_some_iff.1 hx).1
        simp at this
        omega
       subst hj
       rw [List.getElem?_append_right (Nat.le_refl _),Nat.sub_self] at hx
       simp at hx
       subst hx
       rw [List.take_left]
       exact ⟨⟨l,hs⟩,hz⟩
     ·cases h
theorem parse_ok {s:List UInt8} {b:List Stp} (h:drParseV s = .ok b):b.length<=64/\ ∀ j x,b[j]?=some x->(∃ line,parseLV line = .ok x)/\chkNm (b.take j) x=0:=by
 unfold drParseV at h
 split at h
 ·cases h
 ·exact par_ok h (by simp) fun j x hx=>by simp at hx
theorem parse_sz {s:List UInt8} {b:List Stp} (h:drParseV s = .ok b) (hf : ∀ x∈b,SzsL x.nums):SzSs b:=by
 obtain ⟨h64,hall⟩:=parse_ok h
 intro x hx
 obtain ⟨j,hj⟩:=List.getElem?_of_mem hx
 obtain ⟨⟨line,hl⟩,hn⟩:=hall j x hj
 obtain ⟨a1,a2,a3,a4,a5⟩:=parseLV_ok hl
 have pl : ∀ {y:List UInt8},isPointV y=true->y.length<=8:=fun {y} hy=>by
  unfold isPointV at hy
  rw [Bool.and_eq_true,decide_eq_true_eq] at hy
  exact hy.1.2
 have b1:=frN_bd x.kind
 have b2:=nuN_bd x.kind
 have:=pl a1
 exact ⟨by omega,by omega,by omega,hf x hx,fun y hy=>by have:=pl (a5 y hy);omega⟩
abbrev al1:List UInt8:=[35,32,97,32,110,101,99,107,108,105,110,101,10,65,32,61,32,97,116,32,48,32,44,32,48,10,66,32,61,32,102,114,111,109,32,65,32,98,121,32,119,32,47,32,50,32,44,32,48,10,67,32,61,32,102,114,111,109,32,65,32,98,121,32,48,32,44,32,109,97,120,40,119,44,32,52,41,10,68,32,61,32,111,110,32,66,32,67,32,97,116,32,48,46,53,10,69,32,61,32,102,111,111,116,32,65,32,66,32,67,10,70,32,61,32,109,105,114,114,111,114,32,65,32,66,32,67,10,71,32,61,32,109,101,101,116,32,65,32,68,32,66,32,67,10]
abbrev al2:List UInt8:=[65,32,61,32,97,116,32,48,32,44,32,48,10,10,66,32,61,32,111,110,32,65,32,67,32,97,116,32,49,10]
abbrev al3:List UInt8:=[65,32,61,32,97,116,32,48,32,44,32,48,10,66,32,61,32,102,114,111,109,32,65,32,98,121,32,119,32,47,32,50,32,44,32,48,10,67,32,61,32,102,114,111,109,32,65,32,98,121,32,48,32,44,32,109,97,120,40,119,44,32,52,41,10,68,32,61,32,111,110,32,66,32,67,32,97,116,32,48,46,53,10,69,32,61,32,102,111,111,116,32,65,32,66,32,67,10,70,32,61,32,109,105,114,114,111,114,32,65,32,66,32,67,10,71,32,61,32,109,101,101,116,32,65,32,68,32,66,32,67,10]
def gl (o:Except (Int×Nat) (List Stp)):List Stp:=match o with | .ok x=>x | .error _=>[]
def okl (o:Except (Int×Nat) (List Stp)):Bool:=match o with | .ok _=>true | .error _=>false
theorem gl_ok {o:Except (Int×Nat) (List Stp)} (h:okl o=true):o = .ok (gl o):=by
 cases o with
 | ok x=>rfl
 | error e=>cases h
def erl (o:Except (Int×Nat) (List Stp)) (k:Int) (n:Nat):Bool:=match o with | .ok _=>false | .error e=>e.1==k&&e.2==n
theorem erl_ok {o:Except (Int×Nat) (List Stp)} {k:Int} {n:Nat} (h:erl o k n=true):o = .error (k,n):=by
 cases o with
 | ok x=>cases h
 | error e=>
  obtain ⟨a,b⟩:=e
  unfold erl at h
  rw [Bool.and_eq_true] at h
  have e1:a=k:=eq_of_beq h.1
  have e2:b=n:=eq_of_beq h.2
  rw [e1,e2]
def nmE (a b:List Nmd):Bool:=match a,b with
 | [],[]=>true
 | x::a,y::b=>x.name==y.name&&x.pos.1==y.pos.1&&x.pos.2==y.pos.2&&nmE a b
 | _,_=>false
theorem nmE_ok : ∀ {a b:List Nmd},nmE a b=true->a=b
 | [],[],_=>rfl
 | [],_::_,h=>by cases h
 | _::_,[],h=>by cases h
 | ⟨n,p,q⟩::a,⟨m,r,s⟩::b,h=>by
  unfold nmE at h
  simp only [Bool.and_eq_true] at h
  obtain ⟨⟨⟨h1,h2⟩,h3⟩,h4⟩:=h
  rw [eq_of_beq h1,eq_of_beq h2,eq_of_beq h3,nmE_ok h4]
def ruB (o:Except (Int×Nat) (List Nmd)) (t:List Nmd):Bool:=match o with | .ok x=>nmE x t | .error _=>false
theorem ruB_ok {o:Except (Int×Nat) (List Nmd)} {t:List Nmd} (h:ruB o t=true):o = .ok t:=by
 cases o with
 | ok x=>rw [nmE_ok h]
 | error e=>cases h
def alL:List Stp:=gl (drParseV al1)
abbrev alP:List Nmd:=[⟨[65],(0,0)⟩,⟨[66],(4,0)⟩,⟨[67],(0,8)⟩,⟨[68],(2,4)⟩,⟨[69],(16/5,8/5)⟩,⟨[70],(32/5,16/5)⟩,⟨[71],(2,4)⟩]
abbrev alM (a b:Nat):List Meas:=[⟨[119],8,a,b⟩]
set_option maxRecDepth 100000 in
theorem al_p:okl (drParseV al1)=true:=by decide +kernel
theorem al_l:alL.length=7:=by decide +kernel
theorem al_2:erl (drParseV al2) 6 3=true:=by decide +kernel
theorem al_r:ruB (runV (alM 0 0) alL) alP=true:=by decide +kernel
theorem al_s:prB (drPrintV alL) al3=true:=by decide +kernel
theorem al_lk (a b:Nat) (nm:List UInt8):lookV (alM a b) nm=lookV (alM 0 0) nm:=by
 unfold lookV
 simp only [List.find?_cons,List.find?_nil]
 cases ([119]==nm)<;>rfl
theorem al_run (a b:Nat):runV (alM a b) alL = .ok alP:=by
 rw [runV_congr (ms' := alM 0 0) fun s _ e _=>evalV_lk (al_lk a b) e]
 exact ruB_ok al_r
end Go.Proofs.YtfglcgbgaeegaaaGreatDoor

namespace Go.Proofs.YtfglcgbgaeegaaaGreatDoor
open Go Go.Vcg
attribute [local irreducible] Br
theorem strC_bv (l:List UInt8):strC ⟨l.toArray⟩=l.map bv:=rfl
theorem OwnE.appT {ty:Nat} {h h4:Heap} {A:Option Addr} {n c:Nat} {gs:List UInt8} {zv:Value} {K:Option Addr->Nat->Heap->Prop} (l:List UInt8) (o:OwnE bv ty h h4 A n c gs) (hl:Le h h4) (hz:zv=bv 0) (hn:n+l.length<=140737488355328)
  (hK : ∀ A' c' h', OwnE bv ty h h' A' (n+l.length) c' (gs++l)->Le h h' -> (∀ k,h4 k≠none->(∀ ad,A=some ad->k≠ad.block)->h' k=h4 k)->K A' c' h') :
  (n+l.length<=c->Br (decide (l.length=0)) (K A c h4) (∃ (ad:Addr) (b:Blk),A=some ad/\ad.spot=none/\h4 ad.block=some b/\b.fz=(0,0)/\ad.off+n*1+l.length*1<=b.cells.length/\
   ∀ h' : Heap,h' = Heap.put h4 ad.block { b with cells:=setSeg b.cells (ad.off+n*1) (strC ⟨l.toArray⟩) }->K A c h'))/\
  (c<n+l.length-> ∃ olds:List Value,RdS h4 A (n*1) olds/\(n+l.length)*1<=140737488355328/\
   ∀ (g1 cap:Nat) (h' : Heap),h4 g1=none->n+l.length<=cap->h' = Heap.put h4 g1 ⟨olds++strC ⟨l.toArray⟩++repV [zv] (cap-(n+l.length)),ty,(0,0)⟩->K (some ⟨g1,0,none⟩) cap h'):=by
 subst hz
 obtain ⟨en,o⟩:=o
 rw [strC_bv]
 refine ⟨fun hc=>Br.mk (fun q=> ?_) (fun q=> ?_),fun hc=> ?_⟩
 ·have h0:l=[]:=List.length_eq_zero_iff.1 (of_decide_eq_true q)
  subst h0
  refine hK _ _ _ ⟨by simp [en], ?_⟩ hl (fun _ _ _=>rfl)
  simpa using o
 ·have hm0:l.length≠0:=of_decide_eq_false q
  rcases o with ⟨_,_,e⟩ | ⟨g,zs,rfl,h0,hb,rfl⟩
  ·omega
  ·have hzl:l.length<=zs.length:=by simp at hc;omega
   refine ⟨_,_,rfl,rfl,hb,rfl,by simp;omega, ?_⟩
   rintro h' rfl
   have e:setSeg ((gs++zs).map bv) (0+n*1) (l.map bv)=((gs++l)++zs.drop l.length).map bv:=by
    unfold setSeg
    subst en
    have e1:(gs++zs).map bv=gs.map bv++zs.map bv:=by simp
    rw [e1,Nat.zero_add,Nat.mul_one,List.take_left' (by simp),List.length_map,List.drop_append,List.drop_eq_nil_of_le (by simp)]
    simp
   refine hK _ _ _ ⟨by simp [en],Or.inr ⟨g,zs.drop l.length,rfl,h0, ?_,by simp;omega⟩⟩ (hl.put h0 _) (fun k _ kA=> ?_)
   ·rw [Heap.put_same];simp only [e]
   ·rw [Heap.put_ne _ _ (kA _ rfl)]
 ·refine ⟨gs.map bv, ?_,by omega, ?_⟩
  ·refine ⟨by simp [en],fun h0=> ?_⟩
   rcases o with ⟨_,e,_⟩ | ⟨g,zs,rfl,h0,hb,_⟩
   ·omega
   ·exact ⟨_,rfl,rfl,_,hb,by simp⟩
  ·rintro g1 cap h' hg1 hcap rfl
   refine hK _ _ _ ⟨by simp [en],Or.inr ⟨g1,List.replicate (cap-(n+l.length)) 0,rfl,hl.free hg1, ?_,by simp [en];omega⟩⟩ (hl.put (hl.free hg1) _) (fun k kn _=> ?_)
   ·rw [Heap.put_same,repV_map];simp
   ·rw [Heap.put_ne _ _ (fun e=>kn (by rw [e];exact hg1))]
section
variable {h:Heap} {b:Nat} {q:Option Nat} {gs:List UInt8}
theorem wstring_c (u:IsB h b q gs) (l:List UInt8) (hn:gs.length+l.length<=140737488355328) :
  CallsU Tryz.prog 56 [.pointer (some ⟨b,0,none⟩),sv l] h fun v h' => ∃ k q', v = .tuple #[.int .i64 k,.nilIface]/\IsB h' b q' (gs++l)/\Rest h h' b q q' := by
 obtain ⟨p,c,hb,hp,h1,h2⟩:=u.blk
 apply strings_Builder_WriteString_ok
 unfold strings_Builder_WriteString_vc
 have hsz:(⟨l.toArray⟩:ByteArray).size=l.length:=rfl
 rw [hsz]
 refine (bcheck_c hb hp).mono ?_
 rintro _ _ ⟨rfl,rfl⟩
 have hb' : (h.put b (bdB (some ⟨b,0,none⟩) q gs.length c)) b=some (bdB (some ⟨b,0,none⟩) q gs.length c):=Heap.put_same _ _ _
 have h2' := IsB.checked hb h2
 refine ⟨rfl,_,_,_,bd_ld hb', ?_⟩
 have goal : ∀ A' c' h3,OwnE bv 5 (baseB (h.put b (bdB (some ⟨b,0,none⟩) q gs.length c)) b q) h3 A' (gs.length+l.length) c' (gs++l)->Le (baseB (h.put b (bdB (some ⟨b,0,none⟩) q gs.length c)) b q) h3->
   (∀ k,(h.put b (bdB (some ⟨b,0,none⟩) q gs.length c)) k≠none->(∀ ad,adQ q=some ad->k≠ad.block)->h3 k=(h.put b (bdB (some ⟨b,0,none⟩) q gs.length c)) k)->
   ∃ b_2:Blk,h3 (Addr.block (Addr.add ⟨b,0,none⟩ 1))=some b_2/\b_2.fz=(0,0)/\Addr.spot (Addr.add ⟨b,0,none⟩ 1)=none/\Addr.off (Addr.add ⟨b,0,none⟩ 1)+1<=b_2.cells.length/\
   ∀ h_6:Heap,h_6=Heap.put h3 (Addr.block (Addr.add ⟨b,0,none⟩ 1)) { b_2 with cells:=setSeg b_2.cells (Addr.off (Addr.add ⟨b,0,none⟩ 1)) [Value.slice A' (gs.length+l.length) c'] }-> ∃ k q', Value.tuple #[.int .i64 ((l.length:Nat):Int),.nilIface] = .tuple #[.int .i64 k,.nilIface]/\IsB h_6 b q' (gs++l)/\Rest h h_6 b q q' := by
  intro A' c' h3 o' l' s'
  obtain ⟨hb3,q', rfl,en,u', r'⟩:=IsB.back hb' h1 h2' rfl o' l' s'
  exact bd_st (n' := gs.length+l.length) (c' := c') hb3 ⟨_,_,rfl,u', r'.checked hb⟩
 exact OwnE.appT (K:=fun A' c' h3=> ∃ b_2:Blk,h3 (Addr.block (Addr.add ⟨b,0,none⟩ 1))=some b_2/\b_2.fz=(0,0)/\Addr.spot (Addr.add ⟨b,0,none⟩ 1)=none/\Addr.off (Addr.add ⟨b,0,none⟩ 1)+1<=b_2.cells.length/\
   ∀ h_6:Heap,h_6=Heap.put h3 (Addr.block (Addr.add ⟨b,0,none⟩ 1)) { b_2 with cells:=setSeg b_2.cells (Addr.off (Addr.add ⟨b,0,none⟩ 1)) [Value.slice A' (gs.length+l.length) c'] }-> ∃ k q', Value.tuple #[.int .i64 ((l.length:Nat):Int),.nilIface] = .tuple #[.int .i64 k,.nilIface]/\IsB h_6 b q' (gs++l)/\Rest h h_6 b q q')
  l (IsB.own (b:=b) h1 h2') (baseB_le _ _ _) rfl hn goal
theorem blen_c (u:IsB h b q gs) :
  CallsU Tryz.prog 57 [.pointer (some ⟨b,0,none⟩)] h fun v h' => v = .int .i64 ((gs.length:Nat):Int)/\h=h' := by
 obtain ⟨p,c,hb,hp,h1,h2⟩:=u.blk
 apply strings_Builder_Len_ok
 exact ⟨_,_,_,bd_ld hb,rfl,rfl⟩
end
end Go.Proofs.YtfglcgbgaeegaaaGreatDoor

namespace Go.Proofs.YtfglcgbgaeegaaaGreatDoor
open Go Go.Vcg Go.RowKit Go.Sort
attribute [local irreducible] Br
theorem numW_tot : ∀ {es:List Ex} {i:Nat} {ws:List (List UInt8)},numW i es = .ok ws->totL ws<=500*es.length
 | [],i,ws,h=>by rw [numW] at h;cases h;exact Nat.le_refl _
 | e::es,i,ws,h=>by
  rw [numW] at h
  split at h
  ·cases h
  ·rename_i t ht
   split at h
   ·cases h
   ·rename_i ws' hw
    cases h
    have h1:=numW_tot hw
    have h2:=(prV_ok ht).2.2
    rw [totL_app,List.length_cons,Nat.mul_add]
    split<;>simp only [totL,List.length_cons,List.length_nil]<;>omega
theorem lineV_len {s:Stp} {t:List UInt8} (z:SzS s) (h:lineV s = .ok t):t.length<=300000000/\t≠[]:=by
 obtain ⟨z1,z2,z3,z4,z5⟩:=z
 unfold lineV at h
 split at h
 ·cases h
 ·rename_i ws hws
  cases h
  refine ⟨?_,by simp⟩
  unfold numWQ at hws
  split at hws
  ·cases hws
  ·rename_i nws hnw
   cases hws
   have h1:=numW_tot hnw
   have hwd:(wdN s.kind).length<=10:=by unfold wdN;repeat' split<;>try decide
   have hlk:(lkN s.kind).length<=10:=by unfold lkN;repeat' split<;>try decide
   have hfr:=totL_le s.frm z5
   have hh:totL (headW s)<=200000100:=by
    unfold headW
    rw [totL_app,totL_app]
    split<;>simp only [totL,List.length_cons,List.length_nil]<;>omega
   have hj:=totL_join 32 (headW s++nws)
   rw [totL_app] at hj
   rw [List.length_append,List.length_singleton]
   omega
theorem lineV_er {s:Stp} {e:Int} (h:lineV s = .error e):e≠0:=by
 have key : ∀ {es:List Ex} {i:Nat} {x:Int},numW i es = .error x->x≠0:=fun {es}=>by
  induction es with
  | nil=>intro i x h;rw [numW] at h;cases h
  | cons a es ih=>
   intro i x h
   rw [numW] at h
   split at h
   ·rename_i hp
    cases h
    exact prV_err hp
   ·split at h
    ·rename_i hp
     cases h
     exact ih hp
    ·cases h
 unfold lineV numWQ at h
 split at h
 ·rename_i x hx
  cases h
  split at hx
  ·rename_i y hy
   cases hx
   exact key hy
  ·cases hx
 ·cases h
def linesQ (gs:List UInt8) (l:List Stp):Except Int (List UInt8):=match linesV l with
 | .error e=> .error e
 | .ok t=> .ok (gs++t)
theorem IsB.mono {h h' : Heap} {b:Nat} {q:Option Nat} {gs:List UInt8} (u:IsB h b q gs) (l:Le h h'):IsB h' b q gs:=by
 obtain ⟨p,c,a1,a2,a3,a4⟩:=u.blk
 exact ⟨p,c,l _ _ a1,a2,a3,fun g e=>let ⟨zs,e1,e2⟩:=a4 g e;⟨zs,l _ _ e1,e2⟩⟩
theorem drPrint_c {h:Heap} {A:Option Addr} {n c:Nat} {l:List Stp} (u:StpS h A n c l) (hn:n<=1000000) (z:n<=64->SzSs l) (t:Frms h) (tb:Tab h) :
  CallsU Tryz.prog 27 [.slice A n c] h fun r h' => r=PrR (drPrintV l)/\Le h h' := by
 apply draft_Print_ok
 unfold draft_Print_vc
 refine (drChk_c u hn z t).mono ?_
 rintro _ h1 ⟨rfl,l1⟩
 unfold drPrintV
 have hlen:=u.len
 refine ⟨_,rfl,Br.mk (fun q=> ?_) (fun q=> ?_)⟩
 ·have h0:(checkV l).1≠0:=by simpa using q
  rw [if_neg h0]
  exact ⟨rfl,l1⟩
 have h0:(checkV l).1=0:=by simpa using q
 obtain ⟨h64,hall⟩:=checkV_all h0
 rw [if_pos h0]
 have zl:=z (by omega)
 rintro g _ hg rfl
 have hg0:h g=none:=l1.free hg
 have l2:Le h (h1.put g ⟨[Value.pointer none,Value.slice none 0 0],97,(0,0)⟩):=l1.trans (Le.new hg _)
 refine ⟨fun m i h' => ∃ k q gs,k<=l.length/\m=l.length-k/\i=(k:Int)/\IsB h' g q gs/\Le h h' /\ (∀ x,q=some x->h x=none)/\(q=none\/gs≠[])/\gs.length<=300000000*k/\linesQ gs (l.drop k)=linesV l,
  ⟨l.length,0,none,[],by omega,by omega,rfl,⟨none,0,Heap.put_same _ _ _,.inl rfl,fun _=>⟨rfl,rfl⟩,fun x e=>by cases e⟩,l2,(fun x e=>by cases e),.inl rfl,by simp, ?_⟩, ?_⟩
 ·unfold linesQ
  rw [List.drop_zero]
  cases linesV l<;>rfl
 rintro m _ h3 ⟨k,q,gs,hk,rfl,rfl,ub,l3,hq,hq2,hgl,heq⟩
 refine Br.mk (fun q1=> ?_) (fun q1=> ?_)
 ·have hlt:k<l.length:=by have:=of_decide_eq_true q1;omega
  obtain ⟨s,hs⟩ : ∃ s,l[k]?=some s:=⟨_,List.getElem?_eq_getElem hlt⟩
  have hdr:l.drop k=s::l.drop (k+1):=by
   rw [List.drop_eq_getElem_cons hlt]
   rw [List.getElem?_eq_getElem hlt] at hs
   cases hs
   rfl
  obtain ⟨ad,F,fc,K,kc,eA,hld,uf,uk⟩:=(u.mono l3).get hs
  have zs:=zl s (List.mem_of_getElem? hs)
  obtain ⟨hk1,hk6,_⟩:=chkFm_ok (hall k s hs).1
  unfold linesQ at heq
  rw [hdr,linesV] at heq
  refine ⟨ad,eA,by omega,by omega,_,_,_,_,_,_,_,_,by rw [Int.toNat_natCast];exact hld, ?_⟩
  refine (drLine_c uf uk zs (by omega) hk6 (t.mono l3) (tb.mono l3)).mono ?_
  rintro _ h4 ⟨rfl,l4⟩
  cases hp:lineV s with
  | error e=>
   rw [hp] at heq
   have he:=lineV_er hp
   refine ⟨_,_,rfl,Br.mk (fun _=> ?_) (fun q=>by rw [bne_eq_false_iff_eq] at q;exact absurd q he)⟩
   simp only at heq
   rw [<- heq]
   exact ⟨rfl,l3.trans l4⟩
  | ok tx=>
   rw [hp] at heq
   obtain ⟨htl,htn⟩:=lineV_len zs hp
   refine ⟨_,_,rfl,Br.mk (fun q=>by exact absurd q (by decide)) (fun _=> ?_)⟩
   refine (wstring_c (ub.mono l4) tx (by omega)).mono ?_
   rintro _ h5 ⟨kk,q', rfl,ub5,r1,r2⟩
   refine ⟨_,_,rfl, ?_⟩
   rintro _ rfl
   refine ⟨l.length-(k+1),by omega,k+1,q', gs++tx,by omega,rfl,wi (by omega) (by omega),ub5, ?_, ?_,.inr (by simp [htn]),by rw [List.length_append];omega, ?_⟩
   ·intro x b hx
    refine r1 x b (l4 _ _ (l3 _ _ hx)) (fun e=>by rw [e,hg0] at hx;cases hx) (fun e=>by rw [hq x e] at hx;cases hx)
   ·intro x e
    rcases r2 x e with e | e
    ·exact hq x e
    ·exact (l3.trans l4).free e
   ·unfold linesQ
    rw [<- heq]
    simp only
    cases linesV (l.drop (k+1)) with
    | error e=>rfl
    | ok u=>simp
 ·have hk' : k=l.length:=by have:=of_decide_eq_false q1;omega
  rw [hk', List.drop_length] at heq
  unfold linesQ at heq
  rw [linesV] at heq
  simp only [List.append_nil] at heq
  rw [<- heq]
  refine (blen_c ub).mono ?_
  rintro _ _ ⟨rfl,rfl⟩
  refine ⟨_,rfl,Br.mk (fun q2=> ?_) (fun q2=> ?_)⟩
  ·have:=of_decide_eq_true q2
   simp only
   rw [if_pos (by omega)]
   exact ⟨rfl,l3⟩
  ·have:=of_decide_eq_false q2
   simp only
   rw [if_neg (by omega)]
   refine (bstring_c ub hq2 (by omega)).mono ?_
   rintro _ h6 ⟨rfl,hst⟩
   refine ⟨_,rfl,rfl,fun x b hx=>hst x b (l3 _ _ hx) (fun e=>by rw [hq x e] at hx;cases hx)⟩
theorem ratz_one (z:Int):((z:Rat)/((1:Int):Rat))=(z:Rat):=by
 rw [Rat.div_def]
 show (z:Rat)*(1:Rat)⁻¹=_
 rw [show ((1:Rat)⁻¹)=1 by decide +kernel,Rat.mul_one]
theorem lratio_c (z w:Int) (hz1 : -9223372036854775808<=z) (hz2:z<9223372036854775808) (hw1 : -9223372036854775808<=w) (hw2:w<9223372036854775808) (hw:w≠0) (h:Heap) :
  CallsU Tryz.prog 15 [.int .i64 z,.int .i64 w] h fun r h' => ∃ x,r=qv x/\QB h' 2 ((z:Rat)/(w:Rat)) x/\Le h h' := by
 apply law19_ratio_ok
 refine (r3of_c z w hz1 hz2 hw1 hw2 hw h).mono ?_
 rintro _ h1 ⟨s,A,n,c,B,m,d,rfl,hN,a,b,hl⟩
 exact ⟨_,_,_,_,_,_,_,_,rfl,⟨s,A,n,c,B,m,d⟩,rfl,⟨hN,a,b⟩,hl⟩
theorem r8whole_c (z:Int) (hz1 : -9223372036854775808<=z) (hz2:z<9223372036854775808) (h:Heap) :
  CallsU Tryz.prog 67 [.int .i64 z] h fun r h' => ∃ x,r=qv x/\QB h' 2 (z:Rat) x/\Le h h' := by
 apply ref08_whole_ok
 refine (r3of_c z 1 hz1 hz2 (by omega) (by omega) (by omega) h).mono ?_
 rintro _ h1 ⟨s,A,n,c,B,m,d,rfl,hN,a,b,hl⟩
 rw [ratz_one] at hN
 exact ⟨_,_,_,_,_,_,_,_,rfl,⟨s,A,n,c,B,m,d⟩,rfl,⟨hN,a,b⟩,hl⟩
theorem r8of_c (z w:Int) (hz1 : -9223372036854775808<=z) (hz2:z<9223372036854775808) (hw1 : -9223372036854775808<=w) (hw2:w<9223372036854775808) (h:Heap) :
  CallsU Tryz.prog 34 [.int .i64 z,.int .i64 w] h fun r h' => ∃ x y,r=pv x y/\PB h' 2 ((z:Rat),(w:Rat)) x y/\Le h h' := by
 apply ref08_Of_ok
 refine (r8whole_c z hz1 hz2 h).mono ?_
 rintro _ h1 ⟨x,rfl,ux,l1⟩
 refine ⟨_,_,_,_,_,_,_,rfl,(r8whole_c w hw1 hw2 h1).mono ?_⟩
 rintro _ h2 ⟨y,rfl,uy,l2⟩
 exact ⟨_,_,_,_,_,_,_,rfl,x,y,rfl,⟨ux.mono l2,uy⟩,l1.trans l2⟩
theorem lenv_c (h:Heap):CallsU Tryz.prog 32 [] h fun r h' => ∃ A a b,r = .slice A 1 1/\EnvS h' A 1 1 (alM a b)/\Le h h' := by
 apply law19_env_ok
 refine (whole_c 8 (by omega) (by omega) h).mono ?_
 rintro _ h1 ⟨s,A,n,c,B,m,d,rfl,hN,a,b,l1⟩
 refine ⟨_,_,_,_,_,_,_,rfl, ?_⟩
 rintro g _ hg rfl
 have lg:=Le.new hg (⟨[Value.string (⟨#[119]⟩:ByteArray),Value.bool s,Value.slice A n c,Value.slice B m d],45,(0,0)⟩:Blk)
 refine ⟨_,n,m,rfl,⟨rfl,Nat.le_refl _,by simp,fun x hx=> ?_,fun _=>⟨_,_,rfl,rfl,Heap.put_same _ _ _,⟨_,_,_,_,_,rfl,hN.is.mono lg⟩,trivial⟩⟩,l1.trans lg⟩
 simp only [List.mem_cons,List.not_mem_nil,or_false] at hx
 subst hx
 exact ⟨by simp only;omega,by simp only;omega⟩
theorem NPs.nm {h:Heap} {A:Option Addr} {n c:Nat} {ps:List Nmd} (u:NPs h A n c ps) {i:Nat} {p:Nmd} (hp:ps[i]?=some p) :
  ∃ ad x y,A=some ad/\LdN h (Addr.add (Addr.add ad (i*7)) 0) [sv p.name]/\LdN h (Addr.add (Addr.add ad (i*7)) 1) [.bool x.s,.slice x.A x.n x.c,.slice x.B x.m x.d,.bool y.s,.slice y.A y.n y.c,.slice y.B y.m y.d]/\PB h 25 p.pos x y:=by
 obtain ⟨ad,x,y,eA,hld,w⟩:=u.get hp
 refine ⟨ad,x,y,eA,LdN.cell hld (i:=0) rfl, ?_,w⟩
 obtain ⟨sp,b,hb,hc⟩:=hld
 refine LdN_of sp hb rfl ?_
 have:=congrArg (List.drop 1) hc
 rw [List.drop_take,List.drop_drop] at this
 exact this
set_option maxRecDepth 100000 in
theorem alive_c {h:Heap} (t:Frms h) (tb:Tab h):CallsU Tryz.prog 14 [] h fun r h' => r = .bool true/\Le h h' := by
 apply law19_alive_ok
 unfold law19_alive_vc
 refine (drParse_c al1 (by decide +kernel) t).mono ?_
 rintro _ h1 ⟨hP,l1⟩
 rw [gl_ok al_p] at hP
 obtain ⟨A,n,c,rfl,uS,hfm⟩:=hP
 have hn:n=7:=by rw [uS.len];exact al_l
 subst hn
 have hz:SzSs (gl (drParseV al1)):=parse_sz (gl_ok al_p) fun x hx=>(hfm x hx).1
 refine ⟨_,_,_,_,_,rfl,(lenv_c h1).mono ?_⟩
 rintro _ h2 ⟨eA,ea,eb,rfl,env,l2⟩
 have l02:=l1.trans l2
 refine ⟨_,_,_,rfl,(drRun_c (uS.mono l2) (by omega) (fun _=>hz) (t.mono l02) (tb.mono l02) env).mono ?_⟩
 rintro _ h3 ⟨hR,l3⟩
 rw [show runV (alM ea eb) (gl (drParseV al1)) = .ok alP from al_run ea eb] at hR
 obtain ⟨pA,pn,pc,rfl,uP⟩:=hR
 have hpn:pn=7:=uP.len
 subst hpn
 have l03:=l02.trans l3
 refine ⟨_,_,_,_,_,rfl,(drParse_c al2 (by decide +kernel) (t.mono l03)).mono ?_⟩
 rintro _ h4 ⟨hP4,l4⟩
 rw [erl_ok al_2] at hP4
 obtain ⟨_,rfl⟩:=hP4
 have l04:=l03.trans l4
 refine ⟨_,_,_,_,_,rfl,(drPrint_c (uS.mono ((l2.trans l3).trans l4)) (by omega) (fun _=>hz) (t.mono l04) (tb.mono l04)).mono ?_⟩
 rintro _ h5 ⟨rfl,l5⟩
 rw [show drPrintV (gl (drParseV al1)) = .ok al3 from prB_ok al_s]
 have l05:=l04.trans l5
 refine ⟨_,_,rfl,fun b h' => b=false/\h5=h', ?_, ?_⟩
 ·rintro _ _ ⟨rfl,rfl⟩
  refine Br.mk (fun q=>by cases q) (fun _=> ?_)
  refine (lratio_c 16 5 (by omega) (by omega) (by omega) (by omega) (by omega) h5).mono ?_
  rintro _ h6 ⟨f1,rfl,u6,l6⟩
  refine ⟨_,_,_,_,_,_,_,rfl, ?_⟩
  refine (lratio_c 8 5 (by omega) (by omega) (by omega) (by omega) (by omega) h6).mono ?_
  rintro _ h7 ⟨f2,rfl,u7,l7⟩
  rw [show (((16:Int):Rat)/((5:Int):Rat))=16/5 by decide +kernel] at u6
  rw [show (((8:Int):Rat)/((5:Int):Rat))=8/5 by decide +kernel] at u7
  have uf:PB h7 2 (16/5,8/5) f1 f2:=⟨u6.mono l7,u7⟩
  have l37:=(((l4.trans l5).trans l6).trans l7)
  have uP7:=uP.mono l37
  obtain ⟨ad6,x6,y6,e6,n6,p6,w6⟩:=uP7.nm (i:=6) rfl
  obtain ⟨ad3,x3,y3,e3,n3,p3,w3⟩:=uP7.nm (i:=3) rfl
  obtain ⟨ad4,x4,y4,e4,n4,p4,w4⟩:=uP7.nm (i:=4) rfl
  obtain ⟨ad5,x5,y5,e5,n5,p5,w5⟩:=uP7.nm (i:=5) rfl
  refine ⟨_,_,_,_,_,_,_,rfl,ad6,e6,by omega,by omega,_,n6,Br.mk (fun _=> ?_) (fun q=>by rw [bytes_toList] at q;exact absurd q (by decide))⟩
  refine ⟨ad3,e3,by omega,by omega,_,_,_,_,_,_,_,_,_,_,_,_,_,_,p3, ?_⟩
  refine (r8of_c 2 4 (by omega) (by omega) (by omega) (by omega) h7).mono ?_
  rintro _ h8 ⟨a1,a2,rfl,u8,l8⟩
  refine ⟨_,_,_,_,_,_,_,_,_,_,_,_,_,_,rfl,l8, ?_⟩
  refine (exact_c (w3.mono l8) u8 (by omega)).mono ?_
  rintro _ _ ⟨rfl,rfl⟩
  refine ⟨_,rfl,Br.mk (fun _=> ?_) (fun q=>by cases q)⟩
  refine ⟨ad4,e4,by omega,by omega,_,_,_,_,_,_,_,_,_,_,_,_,_,_,LdN.mono p4 l8, ?_⟩
  refine (exact_c (w4.mono l8) (uf.mono l8) (by omega)).mono ?_
  rintro _ _ ⟨rfl,rfl⟩
  refine ⟨_,rfl,Br.mk (fun _=> ?_) (fun q=>by cases q)⟩
  refine ⟨ad5,e5,by omega,by omega,_,_,_,_,_,_,_,_,_,_,_,_,_,_,LdN.mono p5 l8, ?_⟩
  refine (r8add_c (uf.mono l8) (uf.mono l8) (by omega) (by omega)).mono ?_
  rintro _ h9 ⟨b1,b2,rfl,u9,l9⟩
  rw [show ptAdd ((16/5:Rat),(8/5:Rat)) ((16/5:Rat),(8/5:Rat))=(32/5,16/5) by decide +kernel] at u9
  refine ⟨_,_,_,_,_,_,_,_,_,_,_,_,_,_,rfl,l9, ?_⟩
  have l89:=l8.trans l9
  refine (exact_c (w5.mono l89) u9 (by omega)).mono ?_
  rintro _ _ ⟨rfl,rfl⟩
  refine ⟨_,rfl,Br.mk (fun _=> ?_) (fun q=>by cases q)⟩
  refine ⟨ad6,e6,by omega,by omega,_,_,_,_,_,_,_,_,_,_,_,_,_,_,LdN.mono p6 l89, ?_⟩
  refine (r8of_c 2 4 (by omega) (by omega) (by omega) (by omega) h9).mono ?_
  rintro _ h10 ⟨c1,c2,rfl,u10,l10⟩
  refine ⟨_,_,_,_,_,_,_,_,_,_,_,_,_,_,rfl,l10, ?_⟩
  refine (exact_c (w6.mono (l89.trans l10)) u10 (by omega)).mono ?_
  rintro _ _ ⟨rfl,rfl⟩
  refine ⟨_,rfl,Br.mk (fun _=>⟨by decide,by decide, ?_,(((l05.trans l6).trans l7).trans l89).trans l10⟩) (fun q=>by cases q)⟩
  show Value.bool ((⟨al3.toArray⟩:ByteArray).toList==((⟨al1.toArray⟩:ByteArray).extract 13 (⟨al1.toArray⟩:ByteArray).size).toList)=Value.bool true
  rw [ba_size,ba_ext,bytes_toList,bytes_toList]
  exact congrArg Value.bool (by decide +kernel)
 ·refine Br.mk (fun q=>by exact absurd q (by decide)) (fun _=>Br.mk (fun q=>by exact absurd q (by decide)) (fun _=>Br.mk (fun q=>by exact absurd q (by decide)) (fun _=>Br.mk (fun q=>by exact absurd q (by decide)) (fun _=>Br.mk (fun q=>by exact absurd q (by decide)) (fun _=>Br.mk (fun q=>by exact absurd q (by decide)) (fun _=>Br.mk (fun q=>by exact absurd q (by decide)) (fun _=>Br.mk (fun q=>by exact absurd q (by decide)) (fun _=>Br.mk (fun q=>by exact absurd q (by decide)) (fun _=>⟨?_,rfl⟩)))))))))
  decide
def Lt1 (s:Stp):Prop:=s.name.length<=100/\s.frm.length<=6/\s.nums.length<=4/\(∀ x∈s.frm,x.length<=100)/\ ∀ e∈s.nums,0<=leftV e 60 20
def LtS (l:List Stp):Prop:=l.length<=70/\ ∀ s∈l,Lt1 s
theorem SzsL_all : ∀ {es:List Ex},(∀ e∈es,Szs e)->SzsL es
 | [],_=>by unfold SzsL;trivial
 | e::es,h=>by unfold SzsL;exact ⟨h e (by simp),SzsL_all fun x hx=>h x (by simp [hx])⟩
theorem Lt1.sz {s:Stp} (u:Lt1 s):SzS s:=by
 obtain ⟨a,b,c,d,e⟩:=u
 exact ⟨by omega,by omega,by omega,SzsL_all fun x hx=>(small_ok (e x hx)).1,fun x hx=>by have:=d x hx;omega⟩
theorem LtS.sz {l:List Stp} (u:LtS l):SzSs l:=fun s hs=>(u.2 s hs).sz
theorem rLight_c {h:Heap} {A:Option Addr} {n c:Nat} {l:List Stp} (u:StpS h A n c l) :
  CallsU Tryz.prog 22 [.slice A n c] h fun r h' => ∃ b,r = .bool b/\h=h' /\ (b=true->LtS l):=by
 apply ref19_Light_ok
 unfold ref19_Light_vc
 have hlen:=u.len
 refine Br.mk (fun q=>⟨_,rfl,rfl,fun e=>by cases e⟩) (fun q=> ?_)
 have h70:l.length<=70:=by have:=of_decide_eq_false q;omega
 refine ⟨fun m i h' => ∃ k,k<=l.length/\m=l.length-k/\i=(k:Int)/\h=h' /\ ∀ j s,j<k->l[j]?=some s->Lt1 s,⟨l.length,0,by omega,by omega,rfl,rfl,fun j s hj=>by omega⟩, ?_⟩
 rintro m _ _ ⟨k,hk,rfl,rfl,rfl,hall⟩
 refine Br.mk (fun q1=> ?_) (fun q1=> ?_)
 ·have hlt:k<l.length:=by have:=of_decide_eq_true q1;omega
  obtain ⟨s,hs⟩ : ∃ s,l[k]?=some s:=⟨_,List.getElem?_eq_getElem hlt⟩
  obtain ⟨ad,F,fc,K,kc,eA,hld,uf,uk⟩:=u.get hs
  rw [Int.toNat_natCast]
  have c0:=LdN.cell hld (i:=0) rfl
  have c2:=LdN.cell hld (i:=2) rfl
  have c3:=LdN.cell hld (i:=3) rfl
  refine ⟨fun b h' => h=h' /\ (b=false->s.name.length<=100/\s.frm.length<=6/\s.nums.length<=4), ?_,ad,eA,by omega,by omega,_,c0, ?_⟩
  ·rintro b _ ⟨rfl,hb⟩
   refine Br.mk (fun q2=>⟨_,rfl,rfl,fun e=>by cases e⟩) (fun q2=> ?_)
   obtain ⟨b1,b2,b3⟩:=hb q2
   refine ⟨fun m i h' => ∃ j,j<=s.frm.length/\m=s.frm.length-j/\i=(j:Int)/\h=h' /\ ∀ x,x∈s.frm.take j->x.length<=100,⟨s.frm.length,0,by omega,by omega,rfl,rfl,fun x hx=>by simp at hx⟩, ?_⟩
   rintro m2 _ _ ⟨j,hj,rfl,rfl,rfl,hfr⟩
   refine ⟨ad,eA,by omega,by omega,_,_,_,c2,Br.mk (fun q3=> ?_) (fun q3=> ?_)⟩
   ·have hjl:j<s.frm.length:=by have:=of_decide_eq_true q3;omega
    obtain ⟨x,hx⟩ : ∃ x,s.frm[j]?=some x:=⟨_,List.getElem?_eq_getElem hjl⟩
    obtain ⟨ad2,eF,hlx⟩:=uf.get hx
    refine ⟨ad,eA,by omega,by omega,_,_,_,c2,ad2,eF,by omega,by omega,_,by rw [Int.toNat_natCast];exact hlx, ?_⟩
    rw [ba_size]
    refine Br.mk (fun _=>⟨_,rfl,rfl,fun e=>by cases e⟩) (fun q4=> ?_)
    rintro _ rfl
    refine ⟨s.frm.length-(j+1),by omega,j+1,by omega,rfl,wi (by omega) (by omega),rfl,fun y hy=> ?_⟩
    rw [List.take_add_one,hx] at hy
    rcases List.mem_append.1 hy with q | q
    ·exact hfr y q
    ·simp at q
     subst q
     have:=of_decide_eq_false q4
     omega
   ·have hje:j=s.frm.length:=by have:=of_decide_eq_false q3;omega
    rw [hje,List.take_length] at hfr
    refine ⟨fun m i h' => ∃ j,j<=s.nums.length/\m=s.nums.length-j/\i=(j:Int)/\h=h' /\ ∀ x,x∈s.nums.take j->0<=leftV x 60 20,⟨s.nums.length,0,by omega,by omega,rfl,rfl,fun x hx=>by simp at hx⟩, ?_⟩
    rintro m3 _ _ ⟨i,hi,rfl,rfl,rfl,hnu⟩
    refine ⟨ad,eA,by omega,by omega,_,_,_,c3,Br.mk (fun q4=> ?_) (fun q4=> ?_)⟩
    ·have hil:i<s.nums.length:=by have:=of_decide_eq_true q4;omega
     obtain ⟨x,hx⟩ : ∃ x,s.nums[i]?=some x:=⟨_,List.getElem?_eq_getElem hil⟩
     obtain ⟨ad2,vs,eK,hlx,ux⟩:=uk.get hx
     have ux' := ux
     obtain ⟨sx,Ax,cx,Bx,dx,Kx,kcx,rfl,_,_,_⟩:=ux'.open
     refine ⟨ad,eA,by omega,by omega,_,_,_,c3,ad2,eK,by omega,by omega,_,_,_,_,_,_,_,_,_,_,_,_,by rw [Int.toNat_natCast];exact hlx,(rSmall_c ux).mono ?_⟩
     rintro _ _ ⟨rfl,rfl⟩
     refine ⟨_,rfl,Br.mk (fun _=>⟨_,rfl,rfl,fun e=>by cases e⟩) (fun q5=> ?_)⟩
     rintro _ rfl
     refine ⟨s.nums.length-(i+1),by omega,i+1,by omega,rfl,wi (by omega) (by omega),rfl,fun y hy=> ?_⟩
     rw [List.take_add_one,hx] at hy
     rcases List.mem_append.1 hy with q | q
     ·exact hnu y q
     ·simp at q
      subst q
      simpa using q5
    ·have hie:i=s.nums.length:=by have:=of_decide_eq_false q4;omega
     rw [hie,List.take_length] at hnu
     rintro _ rfl
     refine ⟨l.length-(k+1),by omega,k+1,by omega,rfl,wi (by omega) (by omega),rfl,fun j' y hj' hy=> ?_⟩
     rcases Nat.lt_succ_iff_lt_or_eq.1 hj' with q | q
     ·exact hall j' y q hy
     ·subst q
      rw [hs] at hy
      cases hy
      exact ⟨b1,b2,b3,hfr,hnu⟩
  ·rw [ba_size]
   refine Br.mk (fun _=>⟨rfl,fun e=>by cases e⟩) (fun q2=>⟨ad,eA,by omega,by omega,_,_,_,c2,Br.mk (fun _=>⟨rfl,fun e=>by cases e⟩) (fun q3=>⟨ad,eA,by omega,by omega,_,_,_,c3,rfl,fun q4=> ?_⟩)⟩)
   have a1:=of_decide_eq_false q2
   have a2:=of_decide_eq_false q3
   have a3:=of_decide_eq_false q4
   omega
 ·have hk' : k=l.length:=by have:=of_decide_eq_false q1;omega
  refine ⟨_,rfl,rfl,fun _=>⟨h70,fun s hs=> ?_⟩⟩
  obtain ⟨j,hj⟩:=List.getElem?_of_mem hs
  exact hall j s (by rw [hk'];exact (List.getElem?_eq_some_iff.1 hj).1) hj
theorem llight_c {h:Heap} {A:Option Addr} {n c:Nat} {l:List Stp} {eA:Option Addr} {en ec:Nat} {ms:List Meas} (u:StpS h A n c l) (env:EnvA h eA en ec ms) :
  CallsU Tryz.prog 12 [.slice A n c,.slice eA en ec] h fun r h' => ∃ b,r = .bool b/\h=h' /\ (b=true->LtS l/\briefV ms=true):=by
 apply law19_light_ok
 refine (rLight_c u).mono ?_
 rintro _ _ ⟨b,rfl,rfl,hb⟩
 refine ⟨_,rfl,Br.mk (fun q=> ?_) (fun q=>⟨_,rfl,rfl,fun e=>by cases e⟩)⟩
 refine (rBrief_c env).mono ?_
 rintro _ _ ⟨rfl,rfl⟩
 exact ⟨_,rfl,_,rfl,rfl,fun e=>⟨hb q,e⟩⟩
theorem rPlaces_c {h:Heap} {A B:Option Addr} {n c m d:Nat} {ps:List Nmd} (u:NPs h A n c ps) (w:NPs h B m d ps) (hn:n<=1000000) :
  CallsU Tryz.prog 21 [.slice A n c,.slice B m d] h fun r h' => r = .bool true/\h=h' := by
 apply ref19_Places_ok
 unfold ref19_Places_vc
 have hlen:=u.len
 have hlen2:=w.len
 have e:n=m:=by omega
 subst e
 refine Br.mk (fun q=>by simp at q) (fun _=> ?_)
 refine ⟨fun mm i h' => ∃ k,k<=ps.length/\mm=ps.length-k/\i=(k:Int)/\h=h', ⟨ps.length,0,by omega,by omega,rfl,rfl⟩, ?_⟩
 rintro mm _ _ ⟨k,hk,rfl,rfl,rfl⟩
 refine Br.mk (fun q1=> ?_) (fun q1=>⟨rfl,rfl⟩)
 have hlt:k<ps.length:=by have:=of_decide_eq_true q1;omega
 obtain ⟨p,hp⟩ : ∃ p,ps[k]?=some p:=⟨_,List.getElem?_eq_getElem hlt⟩
 obtain ⟨ad,x,y,eA,n1,p1,w1⟩:=u.nm hp
 obtain ⟨ad2,x2,y2,eB,n2,p2,w2⟩:=w.nm hp
 rw [Int.toNat_natCast]
 refine ⟨ad,eA,by omega,by omega,_,n1,ad2,eB,by omega,by omega,_,n2,Br.mk (fun q=>by simp at q) (fun _=> ?_)⟩
 refine ⟨ad,eA,by omega,by omega,_,_,_,_,_,_,_,_,_,_,_,_,_,_,p1,ad2,eB,by omega,by omega,_,_,_,_,_,_,_,_,_,_,_,_,_,_,p2, ?_⟩
 refine (exact_c w1 w2 (by omega)).mono ?_
 rintro _ _ ⟨rfl,rfl⟩
 refine ⟨_,rfl,Br.mk (fun q=>by cases q) (fun _=> ?_)⟩
 rintro _ rfl
 exact ⟨ps.length-(k+1),by omega,k+1,by omega,rfl,wi (by omega) (by omega),rfl⟩
theorem lv_c {W h' : Heap} {K:Bool->Heap->Prop} (t:Frms W) (tb:Tab W) (l:Le W h') (k : ∀ h2,Le W h2->K true h2):CallsU Tryz.prog 14 [] h' fun v h_2=> ∃ b:Bool,v=Value.bool b/\K b h_2:=by
 refine (alive_c (t.mono l) (tb.mono l)).mono ?_
 rintro _ h2 ⟨rfl,l2⟩
 exact ⟨_,rfl,k _ (l.trans l2)⟩
def okO (o:Except (Int×Nat) (List Nmd)):List Nmd:=match o with | .ok ps=>ps | .error _=>[]
def erO (o:Except (Int×Nat) (List Nmd)):Int:=match o with | .ok _=>0 | .error x=>x.1
def ixO (o:Except (Int×Nat) (List Nmd)):Int:=match o with | .ok _=>0 | .error x=>(x.2:Int)
theorem RunR.np {o:Except (Int×Nat) (List Nmd)} {r:Value} {h:Heap} (u:RunR o r h) : ∃ A n c,r = .tuple #[.slice A n c,.int .i64 (erO o),.int .i64 (ixO o)]/\NPs h A n c (okO o):=by
 cases o with
 | ok ps=>exact u
 | error x=>
  obtain ⟨e,i⟩:=x
  obtain ⟨_,rfl⟩:=u
  exact ⟨none,0,0,rfl,rfl,Nat.le_refl _,fun q=>absurd rfl q⟩
def rfrN (k:Int):Int:=if 1<=k/\k<=6 then frN k else -1
theorem rfroms_c (k:Int) (h:Heap):CallsU Tryz.prog 158 [.int .i64 k] h fun r h' => r = .int .i64 (rfrN k)/\h=h' := by
 apply ref19_froms_ok
 unfold ref19_froms_vc
 refine Br.mk (fun q=> ?_) (fun q1=>Br.mk (fun q=> ?_) (fun q2=>Br.mk (fun q=> ?_) (fun q3=>Br.mk (fun q=> ?_) (fun q4=>Br.mk (fun q=>Br.mk (fun _=> ?_) (fun q' => ?_)) (fun q5=>Br.mk (fun q=> ?_) (fun q6=> ?_))))))
 ·rw [beq_iff_eq.1 q];exact ⟨rfl,rfl⟩
 ·rw [beq_iff_eq.1 q];exact ⟨rfl,rfl⟩
 ·rw [beq_iff_eq.1 q];exact ⟨rfl,rfl⟩
 ·rw [beq_iff_eq.1 q];exact ⟨rfl,rfl⟩
 ·rw [beq_iff_eq.1 q];exact ⟨rfl,rfl⟩
 ·rw [q] at q';cases q'
 ·rw [beq_iff_eq.1 q];exact ⟨rfl,rfl⟩
 ·refine ⟨?_,rfl⟩
  have a1:=beq_eq_false_iff_ne.1 q1
  have a2:=beq_eq_false_iff_ne.1 q2
  have a3:=beq_eq_false_iff_ne.1 q3
  have a4:=beq_eq_false_iff_ne.1 q4
  have a5:=beq_eq_false_iff_ne.1 q5
  have a6:=beq_eq_false_iff_ne.1 q6
  unfold rfrN
  rw [if_neg (by omega)]
theorem rnums_c (k:Int) (h:Heap):CallsU Tryz.prog 159 [.int .i64 k] h fun r h' => r = .int .i64 (nuN k)/\h=h' := by
 apply ref19_nums_ok
 unfold ref19_nums_vc
 refine Br.mk (fun q=>Br.mk (fun _=> ?_) (fun q' => by rw [q] at q';cases q')) (fun q1=>Br.mk (fun q=> ?_) (fun q2=>Br.mk (fun q=> ?_) (fun q3=> ?_)))
 ·rw [beq_iff_eq.1 q];exact ⟨rfl,rfl⟩
 ·rw [beq_iff_eq.1 q];exact ⟨rfl,rfl⟩
 ·rw [beq_iff_eq.1 q];exact ⟨rfl,rfl⟩
 ·refine ⟨?_,rfl⟩
  have a1:=beq_eq_false_iff_ne.1 q1
  have a2:=beq_eq_false_iff_ne.1 q2
  have a3:=beq_eq_false_iff_ne.1 q3
  unfold nuN
  rw [if_neg (by omega),if_neg a3]
def findV (nm:List UInt8):List Stp->Nat->Int
 | [],_=> -1
 | s::l,i=>if s.name=nm then (i:Int) else findV nm l (i+1)
theorem rfind_c {h:Heap} {A:Option Addr} {n c:Nat} {l:List Stp} (u:StpS h A n c l) (hn:n<=1000000) (nm:List UInt8) :
  CallsU Tryz.prog 100 [.slice A n c,sv nm] h fun r h' => r = .int .i64 (findV nm l 0)/\h=h' := by
 apply ref19_find_ok
 have hlen:=u.len
 refine ⟨fun m i h' => ∃ k,k<=l.length/\m=l.length-k/\i=(k:Int)/\h=h' /\ findV nm (l.drop k) k=findV nm l 0,⟨l.length,0,by omega,by omega,rfl,rfl,rfl⟩, ?_⟩
 rintro m _ _ ⟨k,hk,rfl,rfl,rfl,heq⟩
 refine Br.mk (fun q=> ?_) (fun q=> ?_)
 ·have hlt:k<l.length:=by have:=of_decide_eq_true q;omega
  obtain ⟨s,hs⟩ : ∃ s,l[k]?=some s:=⟨_,List.getElem?_eq_getElem hlt⟩
  have hdr:l.drop k=s::l.drop (k+1):=by
   rw [List.drop_eq_getElem_cons hlt]
   rw [List.getElem?_eq_getElem hlt] at hs
   cases hs
   rfl
  obtain ⟨ad,F,fc,K,kc,eA,hld,_,_⟩:=u.get hs
  rw [hdr,findV] at heq
  refine ⟨ad,eA,by omega,by omega,_,by rw [Int.toNat_natCast];exact LdN.cell hld (i:=0) rfl, ?_⟩
  rw [bytes_toList,bytes_toList]
  refine Br.mk (fun q2=>⟨?_,rfl⟩) (fun q2=> ?_)
  ·rw [<- heq,if_pos (beq_iff_eq.1 q2)]
  ·rw [if_neg (beq_eq_false_iff_ne.1 q2)] at heq
   rintro _ rfl
   exact ⟨l.length-(k+1),by omega,k+1,by omega,rfl,wi (by omega) (by omega),rfl,heq⟩
 ·have hk' : k=l.length:=by have:=of_decide_eq_false q;omega
  rw [hk', List.drop_length,findV] at heq
  rw [<- heq]
  exact ⟨rfl,rfl⟩
theorem rPoint_c (l:List UInt8) (hl:l.length<=1000000) (h:Heap):CallsU Tryz.prog 157 [sv l] h fun r h' => r = .bool (isPointV l)/\h=h' := by
 apply ref19_Point_ok
 unfold ref19_Point_vc
 rw [ba_size]
 have bad : ∀ i x,l[i]?=some x->ptCh i x=false->isPointV l=false:=fun i x hx hn=>by
  unfold isPointV
  rw [Bool.and_eq_false_iff]
  refine Or.inr ?_
  cases hh:(l.zipIdx.all fun p=>ptCh p.2 p.1) with
  | false=>rfl
  | true=>rw [ptAll.1 hh i x hx] at hn;cases hn
 have short : ¬ (1<=l.length/\l.length<=8)->isPointV l=false:=fun q=>by
  unfold isPointV
  rw [decide_eq_false q]
  rfl
 refine ⟨fun b h' => h=h' /\ (b=true->isPointV l=false)/\(b=false->(1<=l.length/\l.length<=8)/\ ∀ x,l[0]?=some x->ptCh 0 x=true), ?_, ?_⟩
 ·rintro b _ ⟨rfl,h1,h2⟩
  refine Br.mk (fun q=> ?_) (fun q=> ?_)
  ·rw [h1 q];exact ⟨rfl,rfl⟩
  obtain ⟨hln,h0⟩:=h2 q
  refine ⟨fun m i h' => ∃ k,1<=k/\k<=l.length/\m=l.length-k/\i=(k:Int)/\h=h' /\ ∀ j x,j<k->l[j]?=some x->ptCh j x=true,⟨l.length-1,1,by omega,by omega,rfl,rfl,rfl,fun j x hj hx=> ?_⟩, ?_⟩
  ·have:j=0:=by omega
   subst this
   exact h0 x hx
  rintro m _ _ ⟨k,hk1,hk,rfl,rfl,rfl,hall⟩
  refine Br.mk (fun q=> ?_) (fun q=> ?_)
  ·have hlt:k<l.length:=by have:=of_decide_eq_true q;omega
   obtain ⟨x,hx⟩ : ∃ x,l[k]?=some x:=⟨_,List.getElem?_eq_getElem hlt⟩
   have go:ptCh k x=true-> ∀ t:Int,t=IntKind.i64.wrap ((k:Int)+1)-> ∃ m_1,m_1<l.length-k/\ ∃ k', 1<=k' /\ k' <= l.length/\m_1=l.length-k' /\ t=(k' : Int)/\h=h/\ ∀ j x,j<k' -> l[j]?=some x->ptCh j x=true:=fun hn t ht=>by
    subst ht
    refine ⟨l.length-(k+1),by omega,k+1,by omega,by omega,rfl,wi (by omega) (by omega),rfl,fun j y hj hy=> ?_⟩
    rcases Nat.lt_succ_iff_lt_or_eq.1 hj with q | q
    ·exact hall j y q hy
    ·subst q
     rw [hx] at hy
     cases hy
     exact hn
   have ev:ptCh k x=(decide (65<=x.toNat/\x.toNat<=90)||(decide (97<=x.toNat/\x.toNat<=122)||decide (48<=x.toNat/\x.toNat<=57))):=by
    unfold ptCh isUp isLow isDg
    rw [decide_eq_true (show k≠0 by omega),Bool.true_and]
   have yes:(65<=x.toNat/\x.toNat<=90)\/(97<=x.toNat/\x.toNat<=122)\/(48<=x.toNat/\x.toNat<=57)->ptCh k x=true:=fun q=>by
    rw [ev,Bool.or_eq_true,Bool.or_eq_true,decide_eq_true_iff,decide_eq_true_iff,decide_eq_true_iff]
    exact q
   have no : ¬ ((65<=x.toNat/\x.toNat<=90)\/(97<=x.toNat/\x.toNat<=122)\/(48<=x.toNat/\x.toNat<=57))->(Value.bool false=Value.bool (isPointV l)/\h=h):=fun q=>by
    rw [bad k x hx (by
     rw [<- Bool.not_eq_true,ev,Bool.or_eq_true,Bool.or_eq_true,decide_eq_true_iff,decide_eq_true_iff,decide_eq_true_iff]
     exact q)]
    exact ⟨rfl,rfl⟩
   refine ⟨x,by omega,by rw [Int.toNat_natCast,ba_get];exact hx, ?_⟩
   refine Br.mk (fun a=>Br.mk (fun b=>go (yes ?_)) (fun b=>Br.mk (fun c=>Br.mk (fun d=>go (yes ?_)) (fun d=>Br.mk (fun e=>Br.mk (fun f=>no ?_) (fun f=>go (yes ?_))) (fun e=>no ?_))) (fun c=>Br.mk (fun e=>Br.mk (fun f=>no ?_) (fun f=>go (yes ?_))) (fun e=>no ?_)))) (fun a=>Br.mk (fun c=>Br.mk (fun d=>go (yes ?_)) (fun d=>Br.mk (fun e=>Br.mk (fun f=>no ?_) (fun f=>go (yes ?_))) (fun e=>no ?_))) (fun c=>Br.mk (fun e=>Br.mk (fun f=>no ?_) (fun f=>go (yes ?_))) (fun e=>no ?_)))
   all_goals simp only [decide_eq_true_eq,decide_eq_false_iff_not,Bool.not_eq_true', Bool.not_eq_false'] at *
   all_goals omega
  ·have hk' : k=l.length:=by have:=of_decide_eq_false q;omega
   have:isPointV l=true:=by
    unfold isPointV
    rw [decide_eq_true hln,Bool.true_and,ptAll]
    exact fun i x hx=>hall i x (by rw [hk'];exact (List.getElem?_eq_some_iff.1 hx).1) hx
   rw [this]
   exact ⟨rfl,rfl⟩
 ·refine Br.mk (fun q=> ?_) (fun q=>Br.mk (fun q2=> ?_) (fun q2=> ?_))
  ·exact ⟨rfl,fun _=>short (by have:=of_decide_eq_true q;omega),fun e=>by cases e⟩
  ·exact ⟨rfl,fun _=>short (by have:=of_decide_eq_true q2;omega),fun e=>by cases e⟩
  ·have hln:1<=l.length/\l.length<=8:=by have:=of_decide_eq_false q;have:=of_decide_eq_false q2;omega
   obtain ⟨x,hx⟩ : ∃ x,l[0]?=some x:=⟨_,List.getElem?_eq_getElem (by omega)⟩
   have ev:ptCh 0 x=decide (65<=x.toNat/\x.toNat<=90):=by unfold ptCh isUp;simp
   refine ⟨x,by omega,by rw [ba_get];exact hx,Br.mk (fun q3=> ?_) (fun q3=>⟨x,by omega,by rw [ba_get];exact hx,rfl,fun e=> ?_,fun e=>⟨hln,fun y hy=> ?_⟩⟩)⟩
   ·exact ⟨rfl,fun _=>bad 0 x hx (by rw [ev,decide_eq_false_iff_not];have:=of_decide_eq_true q3;omega),fun e=>by cases e⟩
   ·exact bad 0 x hx (by rw [ev,decide_eq_false_iff_not];have:=of_decide_eq_true e;omega)
   ·rw [hx] at hy
    cases hy
    rw [ev,decide_eq_true_iff]
    have:=of_decide_eq_false e
    have:=of_decide_eq_false q3
    omega
theorem findV_def (nm:List UInt8) : ∀ (l:List Stp) (i:Nat),(0<=findV nm l i)=(defV l nm=true)
 | [],i=>by simp [findV,defV]
 | s::l,i=>by
  have ih:=findV_def nm l (i+1)
  unfold defV at ih ⊢
  rw [findV,List.any_cons]
  by_cases h:s.name=nm
  ·rw [if_pos h];simp [h]
  ·rw [if_neg h,ih];simp [h]
theorem rKnown_c {h:Heap} {A:Option Addr} {n c:Nat} {l:List Stp} (u:StpS h A n c l) (hn:n<=1000000) {s:Stp} {F:Option Addr} {fc:Nat} {K:Option Addr} {kn kc:Nat} (uf:Sl sv h F s.frm.length fc s.frm) (hf:s.frm.length<=1000000) :
  CallsU Tryz.prog 52 [.slice A n c,.agg #[sv s.name,.int .i64 s.kind,.slice F s.frm.length fc,.slice K kn kc]] h fun r h' => r = .int .i64 (chkNm l s)/\h=h' := by
 apply ref19_known_ok
 refine (rfind_c u hn s.name).mono ?_
 rintro _ _ ⟨rfl,rfl⟩
 unfold chkNm
 have hd:=findV_def s.name l 0
 refine ⟨_,rfl,Br.mk (fun q=> ?_) (fun q=> ?_)⟩
 ·have:defV l s.name=true:=by rw [<- hd];exact of_decide_eq_true q
  rw [if_pos this];exact ⟨rfl,rfl⟩
 have hnd : ¬ defV l s.name=true:=by rw [<- hd];exact of_decide_eq_false q
 rw [if_neg hnd]
 refine ⟨fun m i h' => ∃ k,k<=s.frm.length/\m=s.frm.length-k/\i=(k:Int)/\h=h' /\ ∀ j x,j<k->s.frm[j]?=some x->defV l x=true,⟨s.frm.length,0,by omega,by omega,rfl,rfl,fun j x hj=>by omega⟩, ?_⟩
 rintro m _ _ ⟨k,hk,rfl,rfl,rfl,hall⟩
 refine Br.mk (fun q1=> ?_) (fun q1=> ?_)
 ·have hlt:k<s.frm.length:=by have:=of_decide_eq_true q1;omega
  obtain ⟨x,hx⟩ : ∃ x,s.frm[k]?=some x:=⟨_,List.getElem?_eq_getElem hlt⟩
  obtain ⟨ad,eA,hld⟩:=uf.get hx
  have hx' := findV_def x l 0
  refine ⟨ad,eA,by omega,by omega,_,by rw [Int.toNat_natCast];exact hld,(rfind_c u hn x).mono ?_⟩
  rintro _ _ ⟨rfl,rfl⟩
  refine ⟨_,rfl,Br.mk (fun q2=> ?_) (fun q2=> ?_)⟩
  ·have hno : ¬ defV l x=true:=by rw [<- hx'];have:=of_decide_eq_true q2;omega
   rw [if_neg (fun e=>hno (List.all_eq_true.1 e x (List.mem_of_getElem? hx)))]
   exact ⟨rfl,rfl⟩
  ·have hyes:defV l x=true:=by rw [<- hx'];have:=of_decide_eq_false q2;omega
   rintro _ rfl
   refine ⟨s.frm.length-(k+1),by omega,k+1,by omega,rfl,wi (by omega) (by omega),rfl,fun j y hj hy=> ?_⟩
   rcases Nat.lt_succ_iff_lt_or_eq.1 hj with q | q
   ·exact hall j y q hy
   ·subst q
    rw [hx] at hy
    cases hy
    exact hyes
 ·have hk' : k=s.frm.length:=by have:=of_decide_eq_false q1;omega
  rw [if_pos]
  ·exact ⟨rfl,rfl⟩
  ·rw [List.all_eq_true]
   intro x hx
   obtain ⟨j,hj⟩:=List.getElem?_of_mem hx
   exact hall j x (by rw [hk'];exact (List.getElem?_eq_some_iff.1 hj).1) hj
theorem rForm_c {h:Heap} {s:Stp} {F:Option Addr} {fc:Nat} {K:Option Addr} {kc:Nat} (uk:IsK h K s.nums.length kc s.nums) (z:SzS s) :
  CallsU Tryz.prog 89 [.agg #[sv s.name,.int .i64 s.kind,.slice F s.frm.length fc,.slice K s.nums.length kc]] h fun r h' => r = .int .i64 (chkFm s)/\Le h h' := by
 obtain ⟨z1,z2,z3,z4,z5⟩:=z
 apply ref19_form_ok
 unfold ref19_form_vc
 have lr : ∀ g:Heap,LeH g g:=fun _ _ _ q=>q
 refine ⟨fun t h' => h=h' /\ chkFm s=if t then 1 else chkL s.nums 1, ?_, ?_⟩
 ·rintro t _ ⟨rfl,ht⟩
  refine Br.mk (fun q=> ?_) (fun q=> ?_)
  ·rw [q] at ht
   rw [ht]
   exact ⟨rfl,Le.refl _⟩
  rw [q] at ht
  rw [ht]
  simp only [Bool.false_eq_true,if_false]
  refine ⟨fun m i h' => ∃ k,k<=s.nums.length/\m=s.nums.length-k/\i=(k:Int)/\Le h h' /\ ∀ j e,j<k->s.nums[j]?=some e->chkV e 1=0,⟨s.nums.length,0,by omega,by omega,rfl,Le.refl _,fun j e hj=>by omega⟩, ?_⟩
  rintro m _ h1 ⟨k,hk,rfl,rfl,hle,hall⟩
  refine Br.mk (fun q1=> ?_) (fun q1=> ?_)
  ·have hlt:k<s.nums.length:=by have:=of_decide_eq_true q1;omega
   obtain ⟨x,hx⟩ : ∃ x,s.nums[k]?=some x:=⟨_,List.getElem?_eq_getElem hlt⟩
   obtain ⟨ad,vs,eA,hld,ux⟩:=(uk.mono hle).get hx
   have ux' := ux
   obtain ⟨sx,Ax,cx,Bx,dx,Kx,kcx,rfl,_,_,_⟩:=ux'.open
   refine ⟨ad,eA,by omega,by omega,_,_,_,_,_,_,_,_,_,_,_,_,by rw [Int.toNat_natCast];exact hld,(rChk_c ux (SzsL.get z4 hx)).mono ?_⟩
   rintro _ h2 ⟨rfl,hl2⟩
   refine ⟨_,rfl,Br.mk (fun q2=> ?_) (fun q2=> ?_)⟩
   ·have hne:chkV x 1≠0:=by simpa using q2
    have e1:=chkL_get s.nums 1 k hall
    rw [e1,List.drop_eq_getElem_cons hlt,chkL]
    have ex:s.nums[k]=x:=by rw [List.getElem?_eq_getElem hlt] at hx;exact Option.some.inj hx
    rw [ex,if_neg hne]
    exact ⟨rfl,hle.trans hl2⟩
   ·have h0:chkV x 1=0:=by simpa using q2
    rintro _ rfl
    refine ⟨s.nums.length-(k+1),by omega,k+1,by omega,rfl,wi (by omega) (by omega),hle.trans hl2,fun j y hj hy=> ?_⟩
    rcases Nat.lt_succ_iff_lt_or_eq.1 hj with q | q
    ·exact hall j y q hy
    ·subst q
     rw [hx] at hy
     cases hy
     exact h0
  ·have hk' : k=s.nums.length:=by have:=of_decide_eq_false q1;omega
   have e1:=chkL_get s.nums 1 k hall
   rw [hk', List.drop_length,chkL] at e1
   rw [e1]
   exact ⟨rfl,hle⟩
 ·refine (rPoint_c s.name (by omega) h).mono ?_
  rintro _ _ ⟨rfl,rfl⟩
  unfold chkFm
  refine ⟨_,rfl,Br.mk (fun q=>⟨lr _,lr _,rfl, ?_⟩) (fun q=> ?_)⟩
  ·have:isPointV s.name=false:=by simpa using q
   rw [this]
   rfl
  have hp:isPointV s.name=true:=by simpa using q
  refine (rfroms_c s.kind h).mono ?_
  rintro _ _ ⟨rfl,rfl⟩
  refine ⟨_,rfl,Br.mk (fun q1=>⟨lr _,lr _,rfl, ?_⟩) (fun q1=> ?_)⟩
  ·have h1:=of_decide_eq_true q1
   have hk : ¬ (1<=s.kind/\s.kind<=6):=fun e=>by
    unfold rfrN at h1
    rw [if_pos e] at h1
    have:=(frN_bd s.kind).1
    omega
   rw [decide_eq_false hk,hp]
   rfl
  have h1:=of_decide_eq_false q1
  have hk:1<=s.kind/\s.kind<=6:=by
   refine Decidable.byContradiction fun e=> ?_
   unfold rfrN at h1
   rw [if_neg e] at h1
   omega
  have hf:rfrN s.kind=frN s.kind:=by unfold rfrN;rw [if_pos hk]
  rw [decide_eq_true hk,hp]
  refine (rfroms_c s.kind h).mono ?_
  rintro _ _ ⟨rfl,rfl⟩
  rw [hf]
  refine ⟨_,rfl,lr _,Br.mk (fun q2=>⟨lr _,rfl, ?_⟩) (fun q2=> ?_)⟩
  ·have:(s.frm.length:Int)≠frN s.kind:=by simpa using q2
   rw [decide_eq_false (fun q=>this q.1)]
   rfl
  have h2:(s.frm.length:Int)=frN s.kind:=by simpa using q2
  refine (rnums_c s.kind h).mono ?_
  rintro _ _ ⟨rfl,rfl⟩
  refine ⟨_,rfl,lr _,rfl, ?_⟩
  by_cases h3:(s.nums.length:Int)=nuN s.kind
  ·rw [decide_eq_true ⟨h2,h3⟩,h3]
   simp
  ·rw [decide_eq_false (fun q=>h3 q.2)]
   have:(((s.nums.length:Nat):Int) != nuN s.kind)=true:=by simpa using h3
   rw [this]
   rfl
theorem rCheckS_c {h:Heap} {A:Option Addr} {n c:Nat} {l:List Stp} (u:StpS h A n c l) (hn:n<=1000000) (z:n<=64->SzSs l) :
  CallsU Tryz.prog 46 [.slice A n c] h fun r h' => r = .tuple #[.int .i64 (checkV l).1,.int .i64 ((checkV l).2:Int)]/\Le h h' := by
 apply ref19_check_ok
 unfold ref19_check_vc
 have hlen:=u.len
 have hcap:=u.cap
 unfold checkV
 refine Br.mk (fun q=> ?_) (fun q=> ?_)
 ·have:=of_decide_eq_true q
  rw [if_pos (by omega)]
  exact ⟨rfl,Le.refl _⟩
 have hn64:n<=64:=by have:=of_decide_eq_false q;omega
 rw [if_neg (by omega)]
 refine ⟨fun m i h' => ∃ k,k<=l.length/\m=l.length-k/\i=(k:Int)/\Le h h' /\ chkFr l l.length 0=chkFr l (l.length-k) k,⟨l.length,0,by omega,by omega,rfl,Le.refl _,by simp⟩, ?_⟩
 rintro m _ h1 ⟨k,hk,rfl,rfl,hle,heq⟩
 refine Br.mk (fun q1=> ?_) (fun q1=> ?_)
 ·have hlt:k<l.length:=by have:=of_decide_eq_true q1;omega
  obtain ⟨s,hs⟩ : ∃ s,l[k]?=some s:=⟨_,List.getElem?_eq_getElem hlt⟩
  have u1:=u.mono hle
  obtain ⟨ad,F,fc,K,kc,eA,hld,uf,uk⟩:=u1.get hs
  have zs:=z hn64 s (List.mem_of_getElem? hs)
  have ek:l.length-k=(l.length-(k+1))+1:=by omega
  rw [ek,chkFr,hs] at heq
  simp only at heq
  refine ⟨ad,eA,by omega,by omega,_,_,_,_,_,_,_,_,by rw [Int.toNat_natCast];exact hld,(rForm_c uk zs).mono ?_⟩
  rintro _ h2 ⟨rfl,hl2⟩
  refine ⟨_,rfl,Br.mk (fun q2=> ?_) (fun q2=> ?_)⟩
  ·have h0:chkFm s≠0:=by simpa using q2
   rw [if_neg h0] at heq
   rw [heq]
   exact ⟨rfl,hle.trans hl2⟩
  ·have h0:chkFm s=0:=by simpa using q2
   rw [if_pos h0] at heq
   refine ⟨by omega,by omega,ad,eA,by omega,by omega,_,_,_,_,_,_,_,_,by rw [Int.toNat_natCast];exact LdN.mono hld hl2, ?_⟩
   rw [Int.toNat_natCast]
   have z2:=zs.2.1
   refine (rKnown_c ((u1.mono hl2).take (m:=k) (by omega)) (by omega) (uf.mono hl2) (by omega)).mono ?_
   rintro _ _ ⟨rfl,rfl⟩
   refine ⟨_,rfl,Br.mk (fun q3=> ?_) (fun q3=> ?_)⟩
   ·have hne:chkNm (l.take k) s≠0:=by simpa using q3
    rw [if_neg hne] at heq
    rw [heq]
    exact ⟨rfl,hle.trans hl2⟩
   ·have h3:chkNm (l.take k) s=0:=by simpa using q3
    rw [if_pos h3] at heq
    rintro _ rfl
    exact ⟨l.length-(k+1),by omega,k+1,by omega,rfl,wi (by omega) (by omega),hle.trans hl2,heq⟩
 ·have hk' : k=l.length:=by have:=of_decide_eq_false q1;omega
  rw [hk', Nat.sub_self,chkFr] at heq
  rw [heq]
  exact ⟨rfl,hle⟩
end Go.Proofs.YtfglcgbgaeegaaaGreatDoor
