/-
 Gathered texts of this proof: Cn11,Cn12,Cn16,Cn17,Lib3,Pl3,Ex1.
-/
import Derived.Test.YtfglcgbgaeegaaaGreatDoorG04
import Derived.Lib.ItoaNum
import Derived.Lib.Join
import Derived.Lib.Repeat
import Derived.Test.YtfglcgbgaeegaaaGreatDoorGSh
import Derived.Lib.Walk
import Derived.Sort.Grow
import Derived.WalkKit
import Derived.BigCall
import Derived.BigGuard

namespace Go.Proofs
open Go.RowKit Go.Lib Go.Sort
theorem Tryz.isFormatUint_small (i:Nat) (hi:i<100) (w:World) :
  Calls Tryz.prog 202 #[.int .u64 i,.int .i64 10] w fun e w' => e = .returned (.string ⟨(Lib.decDigits i).toArray⟩)/\w' = w:=by
 have hw:IntKind.i64.wrap (i:Int)=(i:Int):=by rw [IntKind.wrap_i64];omega
 go_enter Tryz.func202,Tryz.ntmps202
 go_wp2_with (go_at_call 241;refine (Tryz.internal_strconv_small i hi _).mono ?_;rintro e w' ⟨rfl,rfl⟩)
 go_ret
 exact ⟨rfl,rfl⟩
end Go.Proofs
namespace Go.Proofs.YtfglcgbgaeegaaaGreatDoor
open Go Go.Vcg Go.RowKit Go.Sort
attribute [local irreducible] Br
theorem callsU_below {P:Program} {f:FuncId} {args:List Value} {h:Heap} {v:Value} (hc:Callable P f)
  (hw : ∀ w,Sat h w->Calls P f args.toArray w fun e w' => e = .returned v/\Below w.heap.size w w'):CallsU P f args h fun r h' => r=v/\h=h' :=
 ⟨hc,fun w s=>(hw w s).mono fun e w' ⟨he,b⟩=>⟨v,h,he,⟨rfl,rfl⟩,
  fun k x hk=>by
   have:=s k x hk
   exact this.same (b.block k this.lt),
  ⟨b.size,b.os,b.tape,b.output,fun k hk h0=>⟨h0,b.block k hk⟩⟩⟩⟩
theorem callsU_same {P:Program} {f:FuncId} {args:List Value} {h:Heap} {v:Value} (hc:Callable P f)
  (hw : ∀ w,Sat h w->Calls P f args.toArray w fun e w' => e = .returned v/\w' = w):CallsU P f args h fun r h' => r=v/\h=h' :=
 callsU_below hc fun w s=>(hw w s).mono fun _ _ ⟨a,b⟩=>⟨a,by rw [b];exact Below.refl _ _⟩
theorem putCells_seg {α:Type} [Inhabited α] {enc:α->Value} {off:Nat} (d:List α) (cells:List Value) (hle:off+d.length<=cells.length) :
  putCells enc off d.toArray cells.toArray=(setSeg cells off (d.map enc)).toArray:=by
 unfold putCells setSeg
 apply Array.ext_getElem?
 intro k
 simp only [Array.getElem?_mapIdx,List.getElem?_toArray,List.size_toArray,List.length_map]
 rcases Nat.lt_or_ge k off with h1 | h1
 ·rw [List.append_assoc,List.getElem?_append_left (by simp;omega),List.getElem?_take_of_lt h1,List.getElem?_eq_getElem (by omega)]
  simp only [Option.map_some]
  rw [if_neg (by omega)]
 ·rw [List.append_assoc,List.getElem?_append_right (by simp;omega),List.length_take,Nat.min_eq_left (by omega)]
  rcases Nat.lt_or_ge k (off+d.length) with h2 | h2
  ·rw [List.getElem?_append_left (by simp;omega),List.getElem?_eq_getElem (l:=cells) (by omega)]
   simp only [Option.map_some]
   rw [if_pos ⟨h1,h2⟩]
   have hj:k-off<d.length:=by omega
   simp [hj]
  ·rw [List.getElem?_append_right (by simp;omega),List.getElem?_drop,List.length_map,show off+d.length+(k-off-d.length)=k from by omega]
   cases hk:cells[k]? with
   | none=>rfl
   | some x=>simp only [Option.map_some];rw [if_neg (by omega)]
theorem callsU_row {α:Type} [Inhabited α] {P:Program} {f:FuncId} {args:List Value} {h:Heap} {g off ty:Nat} {cells:List Value} {enc:α->Value} (d d' : List α) (hc:Callable P f) (hb:h g=some ⟨cells,ty,(0,0)⟩)
  (hd:(cells.drop off).take d.length=d.map enc) (hl:d'.length=d.length) (hle:off+d.length<=cells.length)
  (hw : ∀ w,g<w.heap.size->Holds enc w g off d.toArray->Calls P f args.toArray w fun e w' => e = .returned (.tuple #[])/\ ∃ n os,w' = grow (putRow enc (Sort.ahead w n) g off d'.toArray) os) :
  CallsU P f args h fun r h' => r = .tuple #[]/\h' = h.put g ⟨setSeg cells off (d'.map enc),ty,(0,0)⟩:=by
 refine ⟨hc,fun w s=> ?_⟩
 have sg:=(s g _ hb).cells (plain_fz rfl)
 have hlt:g<w.heap.size:=(Array.getElem?_eq_some_iff.1 sg).1
 have hH:Holds enc w g off d.toArray:=by
  intro j hj
  have hj' : j<d.length:=by simpa using hj
  refine ⟨?_, ?_⟩
  ·unfold World.cell?
   simp only [sg]
   have h1:((cells.drop off).take d.length)[j]?=(d.map enc)[j]?:=by rw [hd]
   rw [List.getElem?_take_of_lt hj', List.getElem?_drop] at h1
   simp only [Option.isSome_none,Bool.false_eq_true,if_false,List.getElem?_toArray]
   rw [h1]
   simp [hj']
  ·unfold World.frozen?
   simp [sg]
 refine (hw w hlt hH).mono ?_
 rintro e w' ⟨he,n,os,rfl⟩
 have hsz:(w.heap.modify g (onCells (putCells enc off d'.toArray))).size=w.heap.size:=Array.size_modify
 have hg:(w.heap.modify g (onCells (putCells enc off d'.toArray)))[g]?=some (.cells (setSeg cells off (d'.map enc)).toArray ty (0,0)):=by
  rw [Array.getElem?_modify,if_pos rfl,sg]
  simp only [Option.map_some,onCells]
  rw [putCells_seg d' cells (by omega)]
 have hne : ∀ k,k≠g->(w.heap.modify g (onCells (putCells enc off d'.toArray)))[k]?=w.heap[k]?:=fun k hk=>by
  rw [Array.getElem?_modify,if_neg (fun e=>hk e.symm)]
 have hgr : ∀ k,k<w.heap.size->(grow (putRow enc (Sort.ahead w n) g off d'.toArray) os).heap[k]?=(w.heap.modify g (onCells (putCells enc off d'.toArray)))[k]?:=fun k hk=>by
  show ((w.heap.modify g (onCells (putCells enc off d'.toArray)))++os)[k]?=_
  rw [Array.getElem?_append_left (by omega)]
 refine ⟨_,_,he,⟨rfl,rfl⟩, ?_,⟨?_,rfl,rfl,rfl, ?_⟩⟩
 ·intro k b hk
  by_cases e:k=g
  ·subst e
   rw [Heap.put_same] at hk
   cases hk
   exact .mk' (plain_fz rfl) (by rw [hgr _ hlt,hg])
  ·rw [Heap.put_ne _ _ e] at hk
   have sk:=s k b hk
   exact sk.same (by rw [hgr k sk.lt,hne k e])
 ·show w.heap.size<=((w.heap.modify g (onCells (putCells enc off d'.toArray)))++os).size
  rw [Array.size_append];omega
 ·intro k hk h0
  have e:k≠g:=fun e=>by rw [e,hb] at h0;cases h0
  exact ⟨by rw [Heap.put_ne _ _ e];exact h0,by rw [hgr k hk,hne k e]⟩
theorem reverse_c {h:Heap} {g c ty:Nat} {zs rest:List (List UInt8)} (hb:h g=some ⟨(zs++rest).map sv,ty,(0,0)⟩) {n:Nat} (hn:n=zs.length) (hsz:n<4611686018427387904) :
  CallsU Tryz.prog 136 [.slice (some ⟨g,0,none⟩) n c] h fun r h' => r = .tuple #[]/\h' = h.put g ⟨(zs.reverse++rest).map sv,ty,(0,0)⟩:=by
 subst hn
 refine (callsU_row (enc:=sv) (off:=0) zs zs.reverse ⟨_,Tryz.func136,by kernel_rfl,by kernel_rfl⟩ hb (by rw [List.drop_zero,List.map_append,List.take_append_of_le_length (by simp),<- List.length_map (f:=sv),List.take_length]) (by simp) (by simp) ?_).mono ?_
 ·intro w hlt hH
  refine (Tryz.slices_Reverse_string g 0 c zs w hH (by omega)).mono ?_
  rintro _ _ ⟨a,n,b⟩
  refine ⟨a,n,#[], ?_⟩
  rw [b]
  show _=({ (putRow sv (Sort.ahead w n) g 0 zs.reverse.toArray) with heap:=(putRow sv (Sort.ahead w n) g 0 zs.reverse.toArray).heap ++ #[] }:World)
  rw [Array.append_empty]
 ·rintro _ _ ⟨rfl,rfl⟩
  refine ⟨rfl, ?_⟩
  congr 2
  unfold setSeg
  simp
theorem join_empty (zs:List (List UInt8)):Lib.join zs []=zs.flatten:=by
 cases zs with
 | nil=>rfl
 | cons x r=>rw [Lib.join_cons];simp [Lib.joinTail]
theorem join_c {h:Heap} {g c ty:Nat} {zs rest:List (List UInt8)} (hb:h g=some ⟨(zs++rest).map sv,ty,(0,0)⟩) {n:Nat} (hn:n=zs.length) (hc:n<=c) (hsz:n<=140737488355328) (hlen:zs.flatten.length<=140737488355328) :
  CallsU Tryz.prog 103 [.slice (some ⟨g,0,none⟩) n c,.string ⟨#[]⟩] h fun r h' => r=sv zs.flatten/\h=h' := by
 subst hn
 refine callsU_below ⟨_,Tryz.func103,by kernel_rfl,by kernel_rfl⟩ fun w s=> ?_
 have sg:=(s g _ hb).cells (plain_fz rfl)
 have hlt:g<w.heap.size:=(Array.getElem?_eq_some_iff.1 sg).1
 have e:(zs.map fun x=>(⟨x.toArray⟩:ByteArray)).map (fun x=>x.data.toList)=zs:=by
  rw [List.map_map]
  conv=>rhs;rw [<- List.map_id zs]
  apply List.map_congr_left
  intro x _
  rfl
 have:=Tryz.strings_Join g 0 c (zs.map fun x=>⟨x.toArray⟩) ⟨#[]⟩ w (fun j x hj=>by
  unfold World.cell?
  simp only [sg,Option.isSome_none,Bool.false_eq_true,if_false,List.getElem?_toArray,Nat.zero_add]
  rw [List.getElem?_map] at hj ⊢
  have hjl:j<zs.length:=by
   rcases Nat.lt_or_ge j zs.length with q | q
   ·exact q
   ·rw [List.getElem?_eq_none q] at hj;cases hj
  rw [List.getElem?_append_left hjl]
  rw [List.getElem?_eq_getElem hjl] at hj ⊢
  simp only [Option.map_some,Option.some.injEq] at hj ⊢
  rw [<- hj]) hlt (by simpa using hsz) (by simpa using hc) (by rw [e];simpa [join_empty] using hlen)
 rw [e,List.length_map,show (⟨#[]⟩:ByteArray).data.toList=[] from rfl,join_empty] at this
 exact this
theorem repeat_c (s:List UInt8) (c:Nat) (h:Heap) (hc:c<=9223372036854775807) (hl:s.length*c<=140737488355328) :
  CallsU Tryz.prog 135 [sv s,.int .i64 c] h fun r h' => r=sv (Lib.repeatL s c)/\h=h' :=
 callsU_below ⟨_,Tryz.func135,by kernel_rfl,by kernel_rfl⟩ fun w _=>Tryz.strings_Repeat ⟨s.toArray⟩ c w hc (by simpa [ByteArray.size] using hl)
theorem fmt_small_c (i:Nat) (hi:i<100) (h:Heap):CallsU Tryz.prog 134 [.int .u64 i,.int .i64 10] h fun r h' => r=sv (Lib.decDigits i)/\h=h' := by
 apply strconv_FormatUint_ok
 refine (callsU_same (v:=sv (Lib.decDigits i)) ⟨_,Tryz.func202,by kernel_rfl,by kernel_rfl⟩ fun w _=>Tryz.isFormatUint_small i hi w).mono ?_
 rintro _ _ ⟨rfl,rfl⟩
 exact ⟨_,rfl,rfl,rfl⟩
def padK:Nat->Nat->List UInt8
 | 0,_=>[]
 | k+1,r=>padK k (r/10)++[UInt8.ofNat (48+r%10)]
theorem dec_lt {u:Nat} (h:u<10):Lib.decDigits u=[UInt8.ofNat (48+u)]:=by rw [Lib.decDigits,dif_pos h]
theorem dec_ge {u:Nat} (h : ¬ u<10):Lib.decDigits u=Lib.decDigits (u/10)++[UInt8.ofNat (48+u%10)]:=by rw [Lib.decDigits,dif_neg h]
theorem dec_split : ∀ (k x:Nat),10^k<=x->Lib.decDigits x=Lib.decDigits (x/10^k)++padK k (x%10^k)
 | 0,x,_=>by simp [padK]
 | k+1,x,h=>by
  have hp:0<10^k:=Nat.pow_pos (by decide)
  rw [Nat.pow_succ] at h
  have hx : ¬ x<10:=by omega
  have hd:10^k<=x/10:=by omega
  rw [dec_ge hx,dec_split k (x/10) hd,padK,List.append_assoc]
  have e1:x/10/10^k=x/10^(k+1):=by rw [Nat.div_div_eq_div_mul,Nat.pow_succ,Nat.mul_comm]
  have e2:x%10^(k+1)/10=x/10%10^k:=by
   rw [Nat.pow_succ,Nat.mul_comm,Nat.mod_mul_right_div_self]
  have e3:x%10^(k+1)%10=x%10:=by
   rw [Nat.pow_succ]
   exact Nat.mod_mod_of_dvd _ (Nat.dvd_mul_left _ _)
  rw [e1,e2,e3]
theorem padK_zero : ∀ k,padK k 0=List.replicate k 48
 | 0=>rfl
 | k+1=>by
  rw [padK,Nat.zero_div,padK_zero k,List.replicate_succ']
  rfl
theorem dec_length (u:Nat):(Lib.decDigits u).length=Lib.nDigits u:=Lib.decDigits_length u
theorem padK_dec : ∀ (k r:Nat),r<10^k->1<=k->padK k r=List.replicate (k-Lib.nDigits r) 48++Lib.decDigits r/\Lib.nDigits r<=k
 | 0,_,_,h=>by omega
 | k+1,r,h,_=>by
  rcases Nat.lt_or_ge r 10 with hr | hr
  ·rw [padK,Nat.div_eq_of_lt hr,padK_zero,dec_lt hr,Lib.nDigits_small hr,Nat.mod_eq_of_lt hr]
   exact ⟨rfl,by omega⟩
  ·have hr' : ¬ r<10:=by omega
   have hk:1<=k:=by
    rcases k with _ | k
    ·simp at h;omega
    ·omega
   have ih:=padK_dec k (r/10) (by rw [Nat.pow_succ] at h;omega) hk
   rw [padK,ih.1,dec_ge hr', Lib.nDigits_big hr', List.append_assoc]
   exact ⟨by rw [Nat.add_sub_add_right],by omega⟩
theorem repeatL_48 : ∀ c,Lib.repeatL [48] c=List.replicate c 48
 | 0=>rfl
 | c+1=>by rw [Lib.repeatL,repeatL_48 c,List.replicate_succ];rfl
end Go.Proofs.YtfglcgbgaeegaaaGreatDoor

namespace Go.Proofs.YtfglcgbgaeegaaaGreatDoor
open Go Go.Vcg
attribute [local irreducible] Br
def preD (x:Nat):List UInt8:=if x=0 then [] else Lib.decDigits x
def grp (x:Nat):List UInt8:=if x/10^9=0 then Lib.decDigits (x%10^9) else padK 9 (x%10^9)
theorem preD_step (x:Nat):preD (x/10^9)++grp x=Lib.decDigits x:=by
 unfold preD grp
 by_cases h:x/10^9=0
 ·rw [if_pos h,if_pos h,List.nil_append,Nat.mod_eq_of_lt]
  rcases Nat.lt_or_ge x (10^9) with q | q
  ·exact q
  ·have:=Nat.div_pos q (by decide);omega
 ·rw [if_neg h,if_neg h]
  refine (dec_split 9 x ?_).symm
  rcases Nat.lt_or_ge x (10^9) with q | q
  ·exact absurd (Nat.div_eq_of_lt q) h
  ·exact q
theorem ba_append (a b:List UInt8):(⟨a.toArray⟩:ByteArray)++⟨b.toArray⟩=⟨(a++b).toArray⟩:=by
 apply ByteArray.ext
 rw [ByteArray.data_append]
 simp
theorem ba_size (a:List UInt8):(⟨a.toArray⟩:ByteArray).size=a.length:=by simp [ByteArray.size]
def Own (h h' : Heap) (A:Option Addr) (n c:Nat) (gs:List (List UInt8)):Prop:=
 n=gs.length/\((A=none/\n=0/\c=0)\/ ∃ g zs,A=some ⟨g,0,none⟩/\h g=none/\h' g=some ⟨(gs++zs).map sv,9,(0,0)⟩/\c=(gs++zs).length)
theorem Own.le {h h' h'' : Heap} {A:Option Addr} {n c:Nat} {gs:List (List UInt8)} (o:Own h h' A n c gs) (l:Le h' h''):Own h h'' A n c gs:=by
 obtain ⟨a,b⟩:=o
 refine ⟨a,b.imp id ?_⟩
 rintro ⟨g,zs,e,h0,hb,hc⟩
 exact ⟨g,zs,e,h0,l _ _ hb,hc⟩
theorem repV_sv (n:Nat):repV [Value.string ByteArray.empty] n=(List.replicate n ([]:List UInt8)).map sv:=by
 induction n with
 | zero=>rfl
 | succ n ih=>simp only [repV,ih,List.replicate_succ];rfl
theorem Own.app {h h4:Heap} {A:Option Addr} {n c:Nat} {gs:List (List UInt8)} {x:List UInt8} {K:Option Addr->Nat->Heap->Prop} (o:Own h h4 A n c gs) (hl:Le h h4) {g0:Nat} (hg0:h4 g0=none) (hn:(n+1)*16<=140737488355328)
  (hK : ∀ A' c' h', Own h h' A' (n+1) c' (gs++[x])->Le h h' -> (∀ k,k≠g0->h4 k≠none->(∀ ad,A=some ad->k≠ad.block)->h' k=h4 k)->K A' c' h') :
  ∃ xs:List Value,RdS (h4.put g0 ⟨[sv x],9,(0,0)⟩) (some ⟨g0,0,none⟩) (1*1) xs/\(∀ y∈xs,Go.Vcg.one y=true)/\
   (n+1<=c-> ∃ (ad:Addr) (b:Blk),A=some ad/\ad.spot=none/\(h4.put g0 ⟨[sv x],9,(0,0)⟩) ad.block=some b/\b.fz=(0,0)/\ad.off+n*1+1*1<=b.cells.length/\
    ∀ h' : Heap,h' = Heap.put (h4.put g0 ⟨[sv x],9,(0,0)⟩) ad.block { b with cells:=setSeg b.cells (ad.off+n*1) xs }->K A c h')/\
   (c<n+1-> ∃ olds:List Value,RdS (h4.put g0 ⟨[sv x],9,(0,0)⟩) A (n*1) olds/\(n+1)*16<=140737488355328/\
    ∀ (g1 cap:Nat) (h' : Heap),(h4.put g0 ⟨[sv x],9,(0,0)⟩) g1=none->n+1<=cap->h' = Heap.put (h4.put g0 ⟨[sv x],9,(0,0)⟩) g1 ⟨olds++xs++repV [Value.string ByteArray.empty] (cap-(n+1)),9,(0,0)⟩->K (some ⟨g1,0,none⟩) cap h'):=by
 obtain ⟨en,o⟩:=o
 have hg0h:h g0=none:=hl.free hg0
 refine ⟨[sv x],⟨rfl,fun _=>⟨_,rfl,rfl,_,Heap.put_same _ _ _,rfl⟩⟩,fun y hy=>by simp at hy;subst hy;rfl,fun hc=> ?_,fun hc=> ?_⟩
 ·rcases o with ⟨_,_,e⟩ | ⟨g,zs,rfl,h0,hb,rfl⟩
  ·omega
  ·have hne:g≠g0:=fun e=>by rw [e,hg0] at hb;cases hb
   have hzl:0<zs.length:=by simp at hc;omega
   obtain ⟨z,zs', rfl⟩ : ∃ z zs', zs=z::zs' := by
    cases zs with
    | nil=>simp at hzl
    | cons z r=>exact ⟨z,r,rfl⟩
   refine ⟨_,_,rfl,rfl,(Heap.put_ne _ _ hne).trans hb,rfl,by simp;omega, ?_⟩
   rintro h' rfl
   have e:setSeg ((gs++z::zs').map sv) (0+n*1) [sv x]=((gs++[x])++zs').map sv:=by
    unfold setSeg
    subst en
    simp [List.drop_append]
   refine hK _ _ _ ⟨by simp [en],Or.inr ⟨g,zs', rfl,h0, ?_,by simp⟩⟩ ((hl.put hg0h _).put h0 _) (fun k k0 _ kA=> ?_)
   ·rw [Heap.put_same];simp only [e]
   ·rw [Heap.put_ne _ _ (kA _ rfl),Heap.put_ne _ _ k0]
 ·refine ⟨gs.map sv, ?_,hn, ?_⟩
  ·refine ⟨by simp [en],fun h0=> ?_⟩
   rcases o with ⟨_,e,_⟩ | ⟨g,zs,rfl,h0,hb,_⟩
   ·omega
   ·have hne:g≠g0:=fun e=>by rw [e,hg0] at hb;cases hb
    exact ⟨_,rfl,rfl,_,(Heap.put_ne _ _ hne).trans hb,by simp⟩
  ·rintro g1 cap h' hg1 hcap rfl
   have hne:g1≠g0:=fun e=>by rw [e,Heap.put_same] at hg1;cases hg1
   have hg1' : h4 g1=none:=by rw [Heap.put_ne _ _ hne] at hg1;exact hg1
   refine hK _ _ _ ⟨by simp [en],Or.inr ⟨g1,List.replicate (cap-(n+1)) [],rfl,hl.free hg1', ?_,by simp [en];omega⟩⟩ ((hl.put hg0h _).put (hl.free hg1') _) (fun k k0 kn _=> ?_)
   ·rw [Heap.put_same,repV_sv];simp
   ·rw [Heap.put_ne _ _ (fun e=>kn (by rw [e];exact hg1')),Heap.put_ne _ _ k0]
theorem U32.agree {h h' : Heap} {A:Option Addr} {n c:Nat} {xs:List Nat} (u:U32 h A n c xs) (ha : ∀ ad b,0<n->A=some ad->h ad.block=some b->(b.cells.drop ad.off).take n=xs.map lv->h' ad.block=some b):U32 h' A n c xs:=
 ⟨u.len,u.cap,u.lt,fun hn=>let ⟨ad,b,e,sp,hb,hc⟩:=u.mem hn;⟨ad,b,e,sp,ha ad b hn e hb hc,hc⟩⟩
theorem not_str {xs:List Nat} {ys:List (List UInt8)} {o n:Nat} (hn:0<n) (hl:xs.length=n) (h:((ys.map sv).drop o).take n=xs.map lv):False:=by
 cases xs with
 | nil=>simp at hl;omega
 | cons x r=>
  have h1:(((ys.map sv).drop o).take n)[0]?=(List.map lv (x::r))[0]?:=by rw [h]
  rw [List.getElem?_take_of_lt hn,List.getElem?_drop,List.getElem?_map] at h1
  cases hy:ys[o+0]? with
  | none=>rw [hy] at h1;simp at h1
  | some y=>rw [hy] at h1;simp at h1
theorem NmN.app {h h4 h' : Heap} {A B:Option Addr} {n c k d x g0:Nat} {gs:List (List UInt8)} (u:NmN h4 B k d x) (o:Own h h4 A n c gs) (hg0:h4 g0=none)
  (ha : ∀ k,k≠g0->h4 k≠none->(∀ ad,A=some ad->k≠ad.block)->h' k=h4 k):NmN h' B k d x:=by
 obtain ⟨xs,a,e,r⟩:=u
 refine ⟨xs,U32.agree a fun ad b hk eB hb hc=> ?_,e,r⟩
 rw [ha ad.block (fun q=>by rw [q,hg0] at hb;cases hb) (fun q=>by rw [q] at hb;cases hb) ?_]
 ·exact hb
 ·intro ad' eA q
  rcases o.2 with ⟨e1,_,_⟩ | ⟨g,zs,e1,_,hg,_⟩
  ·rw [e1] at eA;cases eA
  ·rw [e1] at eA
   cases eA
   rw [q,hg] at hb
   cases hb
   exact not_str hk a.len hc
theorem groups_lt {k v n:Nat} (h:(10^9)^k<=v) (hv:v<B32^n):k<2*n:=by
 have h1:(2^16)^k<=(10^9)^k:=Nat.pow_le_pow_left (by decide) k
 have h2:B32^n=(2^16)^(2*n):=by rw [Nat.pow_mul];rfl
 rw [h2] at hv
 exact (Nat.pow_lt_pow_iff_right (by decide)).1 (Nat.lt_of_le_of_lt (Nat.le_trans h1 h) hv)
theorem digits_le {v n:Nat} (hn:1<=n) (hv:v<B32^n):Lib.nDigits v<=10*n:=by
 have h2:B32^n<=10^(10*n):=by rw [Nat.pow_mul];exact Nat.pow_le_pow_left (by decide) n
 exact (padK_dec (10*n) v (Nat.lt_of_lt_of_le hv h2) (by omega)).2
theorem dec_ne (v:Nat):Lib.decDigits v≠[]:=fun e=>by
 have h1:=dec_length v
 have h2:=Lib.nDigits_pos v
 rw [e,List.length_nil] at h1
 omega
theorem text_c {h:Heap} {A:Option Addr} {n c v:Nat} (u:IsN h A n c v) (hn:n<=4294967296)
  (hF : ∀ (r:Nat) (h' : Heap),r<=v->r<10^9->Le h h' -> CallsU Tryz.prog 134 [.int .u64 r,.int .i64 10] h' fun s h'' => s=sv (Lib.decDigits r)/\h' = h'') :
  CallsU Tryz.prog 77 [.slice A n c] h fun r h' => r=sv (Lib.decDigits v)/\Le h h' := by
 apply natural_Text_ok
 refine (trim_n u (by omega)).mono ?_
 rintro _ _ ⟨n', rfl,hn', nv,rfl⟩
 have hz:=NmN.zero_iff nv
 have hvlt:v<B32^n:=u.lt
 refine ⟨_,_,_,rfl,Br.mk (fun q=> ?_) (fun q=> ?_)⟩
 ·have:v=0:=by simp at q;omega
  subst this
  exact ⟨by rw [dec_lt (by decide)];rfl,Le.refl _⟩
 ·have hv0:v≠0:=by simp at q;omega
  have hn1:1<=n:=by simp at q;omega
  have hB:Sz v n:=hvlt
  refine ⟨fun x aA an ac gA gn gc h' => ∃ gs,NmN h' aA an ac x/\Own h h' gA gn gc gs/\Le h h' /\ preD x++gs.reverse.flatten=Lib.decDigits v/\x*(10^9)^gs.length<=v/\gs.length<=2*n,
   ⟨v,[],nv,⟨rfl,Or.inl ⟨rfl,rfl,rfl⟩⟩,Le.refl _,by simp [preD,hv0],by simp,by simp⟩, ?_⟩
  rintro x aA an ac gA gn gc h2 ⟨gs,nx,own,hl,hdig,hxk,hgl⟩
  have hxz:=NmN.zero_iff nx
  have hgn:=own.1
  have hpk:0<(10^9)^gs.length:=Nat.pow_pos (by decide)
  have hxv:x<=v:=Nat.le_trans (Nat.le_mul_of_pos_right _ hpk) hxk
  have han:=NmN.le_of nx (hB.le hxv)
  refine Br.mk (fun q2=> ?_) (fun q2=> ?_)
  ·have hx0:x≠0:=by simp at q2;omega
   have hk:gs.length<2*n:=by
    refine groups_lt (v:=v) ?_ hvlt
    have:=Nat.mul_le_mul_right ((10^9)^gs.length) (show 1<=x by omega)
    omega
   have hdiv:x/10^9<x:=Nat.div_lt_self (by omega) (by decide)
   have hmodlt:x%10^9<10^9:=Nat.mod_lt _ (by decide)
   have hxk' : x/10^9*(10^9)^(gs.length+1)<=v:=by
    refine Nat.le_trans ?_ hxk
    rw [show (10^9)^(gs.length+1)=(10^9)^gs.length*10^9 from Nat.pow_succ _ _,Nat.mul_comm _ (10^9),<- Nat.mul_assoc]
    exact Nat.mul_le_mul_right _ (Nat.div_mul_le_self _ _)
   refine (short_c nx.is (by omega) (d:=1000000000) (by decide) (by decide)).mono ?_
   rintro _ h3 ⟨A3,n3,c3,rfl,n3N,hl3⟩
   have hz3:=NmN.zero_iff n3N
   refine ⟨_,_,_,_,rfl, ?_⟩
   rw [wu (n:=x%1000000000) rfl (by omega)]
   refine (hF (x%10^9) h3 (Nat.le_trans (Nat.mod_le _ _) hxv) hmodlt (hl.trans hl3)).mono ?_
   rintro _ _ ⟨rfl,rfl⟩
   refine ⟨_,rfl, ?_⟩
   have own3:=own.le hl3
   have fin : ∀ (A' : Option Addr) (c' : Nat) (h' : Heap) (g0:Nat),h3 g0=none->Own h h' A' (gn+1) c' (gs++[grp x])->Le h h' -> (∀ k,k≠g0->h3 k≠none->(∀ ad,gA=some ad->k≠ad.block)->h' k=h3 k)->
     ∃ m_1,m_1<x/\ ∃ gs,NmN h' A3 n3 c3 m_1/\Own h h' A' (gn+1) c' gs/\Le h h' /\ preD m_1++gs.reverse.flatten=Lib.decDigits v/\m_1*(10^9)^gs.length<=v/\gs.length<=2*n:=by
    intro A' c' h' g0 hg0 o l a
    refine ⟨x/10^9,hdiv,gs++[grp x],n3N.app own3 hg0 a,o,l, ?_,by rw [List.length_append,List.length_singleton];exact hxk', by simp;omega⟩
    rw [List.reverse_append,List.reverse_singleton,List.flatten_append,List.flatten_singleton,<- List.append_assoc,preD_step,<- hdig]
    rw [preD,if_neg hx0]
   refine Br.mk (fun q3=> ?_) (fun q3=> ?_)
   ·have h30:x/10^9≠0:=by
     intro e;have:=hz3.2 e;simp at q3;omega
    have hpd:=padK_dec 9 (x%10^9) hmodlt (by omega)
    have hg:grp x=List.replicate (9-Lib.nDigits (x%10^9)) 48++Lib.decDigits (x%10^9):=by rw [grp,if_neg h30,hpd.1]
    have hlen:=dec_length (x%10^9)
    have hb2:Lib.nDigits (x%1000000000)<=9:=hpd.2
    rw [ba_size,hlen]
    rintro _ rfl
    rw [wi (n:=9-Lib.nDigits (x%10^9)) (by omega) (by omega)]
    refine (repeat_c [48] (9-Lib.nDigits (x%10^9)) h3 (by omega) (by simp;omega)).mono ?_
    rintro _ _ ⟨rfl,rfl⟩
    refine ⟨_,rfl, ?_⟩
    rw [ba_size,ba_append,repeatL_48,<- hg]
    refine ⟨by simp;omega, ?_⟩
    rintro g0 _ hg0 rfl
    exact own3.app (hl.trans hl3) hg0 (by omega) (fun A' c' h' o l a=>fin A' c' h' g0 hg0 o l a)
   ·have h30:x/10^9=0:=by
     have:n3=0:=by simp at q3;omega
     exact hz3.1 this
    have hg:grp x=Lib.decDigits (x%10^9):=by rw [grp,if_pos h30]
    rw [<- hg]
    rintro g0 _ hg0 rfl
    exact own3.app (hl.trans hl3) hg0 (by omega) (fun A' c' h' o l a=>fin A' c' h' g0 hg0 o l a)
  ·have hx0:x=0:=by simp at q2;omega
   subst hx0
   rw [preD,if_pos rfl,List.nil_append] at hdig
   rcases own.2 with ⟨_,e,_⟩ | ⟨g,zs,rfl,hg0,hgb,hgc⟩
   ·exfalso
    have:gs=[]:=List.length_eq_zero_iff.1 (by omega)
    rw [this] at hdig
    exact dec_ne v hdig.symm
   ·refine (reverse_c (zs:=gs) hgb hgn (by omega)).mono ?_
    rintro _ _ ⟨rfl,rfl⟩
    refine ⟨rfl, ?_⟩
    have hfl:gs.reverse.flatten.length<=10*n:=by rw [hdig,dec_length];exact digits_le hn1 hvlt
    refine (join_c (zs:=gs.reverse) (Heap.put_same _ _ _) (by rw [List.length_reverse];exact hgn) (by rw [hgc];simp;omega) (by omega) (by omega)).mono ?_
    rintro _ _ ⟨rfl,rfl⟩
    exact ⟨_,rfl,by rw [hdig],hl.put hg0 _⟩
theorem sub_digit {x y b:Nat} (hx:x<4294967296) (hy:y<4294967296) (hb:b<=1) :
  ∃ r b' : Nat,IntKind.u32.wrap (IntKind.u64.wrap ((x:Int)-b-y))=(r:Int)/\Int.fdiv (IntKind.u64.wrap ((x:Int)-b-y)) (2^(63:Nat))=(b' : Int)/\x+B32*b' = r+y+b/\r<4294967296/\b' <= 1:=by
 have e63:((2:Int)^(63:Nat))=9223372036854775808:=by decide
 rw [Int.fdiv_eq_ediv_of_nonneg _ (by decide),e63,wrap_u64_mod,wrap_u32_mod]
 have hB:B32=4294967296:=rfl
 rw [hB]
 rcases Nat.lt_or_ge x (y+b) with q | q
 ·exact ⟨4294967296+x-y-b,1,by omega,by omega,by omega,by omega,by omega⟩
 ·exact ⟨x-y-b,0,by omega,by omega,by omega,by omega,by omega⟩
theorem sub_val {G X Y p q x y r b b' : Nat} (h:G+Y=X+p*b) (hd:x+B32*b' = r+y+b) (hq:q=p*B32):(G+p*r)+(Y+p*y)=(X+p*x)+q*b' := by
 subst hq
 have:p*x+p*(B32*b')=p*r+p*y+p*b:=by rw [<- Nat.mul_add,hd,Nat.mul_add,Nat.mul_add]
 rw [Nat.mul_assoc]
 omega
theorem sub_c {h:Heap} {A B:Option Addr} {n c m d x y:Nat} (ux:IsN h A n c x) (uy:IsN h B m d y) (hn:n<=1099511627776) (hm:m<=1099511627776) :
  CallsU Tryz.prog 143 [.slice A n c,.slice B m d] h fun r h' => (x<y/\r = .tuple #[.slice none 0 0,.bool false]/\h=h')\/(y<=x/\ ∃ A' k c', r = .tuple #[.slice A' k c', .bool true]/\NmN h' A' k c' (x-y)/\Le h h'):=by
 apply natural_Sub_ok
 refine (trim_n ux (by omega)).mono ?_
 rintro _ _ ⟨n', rfl,hn', nx,rfl⟩
 refine ⟨_,_,_,rfl,(trim_n uy (by omega)).mono ?_⟩
 rintro _ _ ⟨m', rfl,hm', ny,rfl⟩
 refine ⟨_,_,_,rfl,(cmp_c nx.is ny.is (by omega) (by omega)).mono ?_⟩
 rintro _ _ ⟨rfl,rfl⟩
 refine ⟨_,rfl,Br.mk (fun b=> ?_) (fun b=> ?_)⟩
 ·have b' := of_decide_eq_true b
  refine Or.inl ⟨?_,rfl,rfl⟩
  unfold cmpI at b'
  split at b'
  ·omega
  ·split at b' <;> omega
 ·have b' := of_decide_eq_false b
  have hyx:y<=x:=by
   unfold cmpI at b'
   split at b'
   ·omega
   ·omega
  have hmn:m' <= n' := NmN.le_of ny (nx.sz.le hyx)
  obtain ⟨xs,u,hx,_⟩:=nx
  obtain ⟨ys,w,hy,_⟩:=ny
  subst hx hy
  have lu:=u.len
  have lw:=w.len
  refine ⟨by omega,by omega,by omega,by omega, ?_⟩
  rintro g _ hg rfl
  simp only [Int.toNat_natCast]
  refine ⟨fun q bo i h' => ∃ (k bN:Nat) (rs:List Nat),q=n' - k/\k<=n' /\ i=(k:Int)/\bo=(bN:Int)/\bN<=1/\rs.length=n' /\ (∀ z∈rs,z<4294967296)/\h' g=some ⟨rs.map lv,166,(0,0)⟩/\Le h h' /\
    val (rs.take k)+val (ys.take k)=val (xs.take k)+B32^k*bN,
   ⟨_,0,0,List.replicate n' 0,rfl,by omega,rfl,rfl,by omega,by simp,fun z hz=>by rw [(List.mem_replicate.1 hz).2];decide,by rw [Heap.put_same,repV_lv],Le.new hg _,by simp [val]⟩, ?_⟩
  rintro _ _ _ h5 ⟨k,bN,rs,rfl,hk,rfl,rfl,hb,hrl,hrlt,hbk,hle,hv⟩
  refine Br.mk (fun q=> ?_) (fun q=> ?_)
  ·have q' : k<n' := by have:=of_decide_eq_true q;omega
   obtain ⟨ad,hA,hld⟩:=(u.mono hle).get q'
   have lx:=u.getD_lt k
   have ly:=w.getD_lt k
   rw [Int.toNat_natCast]
   refine ⟨ad,hA,by omega,by omega,_,hld, ?_⟩
   rintro _ rfl
   rw [wu (n:=xs.getD k 0) rfl (by omega)]
   obtain ⟨r,b2,d1,d2,d3,d4,d5⟩:=sub_digit lx ly hb
   refine ⟨fun dd h' => h5=h' /\ dd=IntKind.u64.wrap (((xs.getD k 0:Nat):Int)-bN-((ys.getD k 0:Nat):Int)), ?_, ?_⟩
   ·rintro _ _ ⟨rfl,rfl⟩
    refine ⟨_,rfl,by omega,by omega,st_own r hbk (by omega) (by rw [d1]) ?_⟩
    rintro _ rfl _ rfl
    rw [d2,wi (n:=k+1) (by omega) (by omega)]
    refine ⟨_,by omega,k+1,b2,rs.set k r,rfl,by omega,rfl,rfl,d5,by simp [hrl],mem_set hrlt d4,Heap.put_same _ _ _,hle.put hg _, ?_⟩
    rw [val_take_succ (by simp;omega),take_set_ge (Nat.le_refl _),getD_set_eq (by omega),val_take_succ', val_take_succ']
    exact sub_val hv d3 (Nat.pow_succ _ _)
   ·refine Br.mk (fun q2=> ?_) (fun q2=> ?_)
    ·have q3:k<m' := by have:=of_decide_eq_true q2;omega
     obtain ⟨ad2,hB,hld2⟩:=(w.mono hle).get q3
     refine ⟨ad2,hB,by omega,by omega,_,hld2, ?_⟩
     rintro _ rfl
     rw [wu (a:=((ys.getD k 0:Nat):Int)) (n:=ys.getD k 0) rfl (by omega)]
     refine ⟨rfl, ?_⟩
     rw [wrap_u64_mod,wrap_u64_mod,wrap_u64_mod]
     omega
    ·have q3:m' <= k:=by have:=of_decide_eq_false q2;omega
     refine ⟨rfl, ?_⟩
     rw [getD_ge (xs:=ys) (k:=k) (by omega)]
     congr 1
     omega
  ·have q' : k=n' := by have:=of_decide_eq_false q;omega
   subst q'
   have hg1:=val_lt (l:=rs) hrlt
   rw [List.take_of_length_le (by omega),List.take_of_length_le (by omega),List.take_of_length_le (by omega)] at hv
   rw [hrl] at hg1
   have b0:bN=0:=by
    rcases Nat.eq_zero_or_pos bN with e | e
    ·exact e
    ·exfalso
     have:bN=1:=by omega
     subst this
     omega
   subst b0
   have us:=U32.of_blk (m:=k) (k:=k) hbk hrlt (by omega) (Nat.le_refl _)
   rw [List.take_of_length_le (by omega)] at us
   refine (trim_n ⟨_,us,rfl⟩ (by omega)).mono ?_
   rintro _ _ ⟨m2,rfl,_,hN,rfl⟩
   rw [show val rs=val xs-val ys from by omega] at hN
   exact ⟨_,_,_,rfl,Or.inr ⟨hyx,_,_,_,rfl,hN,hle⟩⟩
theorem iadd_c {h:Heap} {s s2:Bool} {A B:Option Addr} {n c m d:Nat} {z w:Int} (u:IsI h s A n c z) (v:IsI h s2 B m d w) (hn:n<=549755813888) (hm:m<=549755813888) :
  CallsU Tryz.prog 82 [.agg #[.bool s,.slice A n c],.agg #[.bool s2,.slice B m d]] h fun r h' => ∃ s' A' k c', r = .agg #[.bool s', .slice A' k c']/\NmI h' s' A' k c' (z+w)/\k<=max n m+1/\Le h h' := by
 apply integer_Add_ok
 obtain ⟨x,ux,rfl⟩:=u
 obtain ⟨y,uy,rfl⟩:=v
 have hsx:Sz x (max n m):=ux.sz.mono (by omega)
 have hsy:Sz y (max n m):=uy.sz.mono (by omega)
 refine Br.mk (fun q=> ?_) (fun q=> ?_)
 ·have e:s=s2:=by simpa using q
  subst e
  refine (add_c ux uy (by omega) (by omega)).mono ?_
  rintro _ h1 ⟨A', k,c', rfl,hN,hl⟩
  have hk:=NmN.le_of hN (hsx.add hsy)
  refine ⟨_,_,_,rfl,(by first | assumption | exact Le.refl _),(signed_c (s:=s) (z:=(if s then -(x:Int) else x)+(if s then -(y:Int) else y)) ⟨_,hN.is,by cases s<;>simp<;>omega⟩ (by omega)).mono ?_⟩
  rintro _ _ ⟨s', A', k,c', rfl,r,hk', hl'⟩
  exact ⟨_,_,_,_,rfl,_,_,_,_,rfl,r,by omega,hl.trans hl'⟩
 ·have e:s2 = !s:=by cases s<;>cases s2<;>simp at q ⊢
  subst e
  refine (sub_c ux uy (by omega) (by omega)).mono ?_
  rintro _ h1 (⟨hlt,rfl,rfl⟩ | ⟨hge,A1,k1,c1,rfl,hN,hl⟩)
  ·refine ⟨_,_,_,_,rfl,Br.mk (fun q=>by cases q) (fun _=> ?_)⟩
   refine (sub_c uy ux (by omega) (by omega)).mono ?_
   rintro _ h1 (⟨hlt2,_⟩ | ⟨hge,A1,k1,c1,rfl,hN,hl⟩)
   ·omega
   ·have hk:=NmN.le_of hN (hsy.le (Nat.sub_le _ _))
    refine ⟨_,_,_,_,rfl,(signed_c (s:= !s) (z:=(if s then -(x:Int) else x)+(if (!s)=true then -(y:Int) else y)) ⟨_,hN.is,by cases s<;>simp<;>omega⟩ (by omega)).mono ?_⟩
    rintro _ _ ⟨s', A', k,c', rfl,r,hk', hl'⟩
    exact ⟨_,_,_,_,rfl,_,_,_,_,rfl,r,by omega,hl.trans hl'⟩
  ·have hk:=NmN.le_of hN (hsx.le (Nat.sub_le _ _))
   refine ⟨_,_,_,_,rfl,Br.mk (fun _=> ?_) (fun q=>by cases q)⟩
   refine (signed_c (s:=s) (z:=(if s then -(x:Int) else x)+(if (!s)=true then -(y:Int) else y)) ⟨_,hN.is,by cases s<;>simp<;>omega⟩ (by omega)).mono ?_
   rintro _ _ ⟨s', A', k,c', rfl,r,hk', hl'⟩
   exact ⟨_,_,_,_,rfl,_,_,_,_,rfl,r,by omega,hl.trans hl'⟩
theorem radd_b {h:Heap} {s s2:Bool} {A B C D:Option Addr} {n c m d n2 c2 m2 d2:Nat} {q p:Rat} (u:IsQ h s A n c B m d q) (w:IsQ h s2 C n2 c2 D m2 d2 p) (hn:n<=134217728) (hm:m<=134217728) (hn2:n2<=134217728) (hm2:m2<=134217728) :
  CallsU Tryz.prog 40 [.agg #[.bool s,.slice A n c,.slice B m d],.agg #[.bool s2,.slice C n2 c2,.slice D m2 d2]] h fun r h' => ∃ s' A' n' c' B' m' d', r = .agg #[.bool s', .slice A' n' c', .slice B' m' d']/\NmQ h' s' A' n' c' B' m' d' (q+p)/\n' <= max (n+max m2 2) (n2+max m 2)+1/\m' <= max m 2+max m2 2/\Le h h' := by
 apply ratio_Add_ok
 refine (rvalue_c u (by omega)).mono ?_
 rintro _ h1 ⟨s1,A1,n1,c1,B1,m1,d1,rfl,⟨z,v,hv,uz,uv,rfl⟩,hn1,hm1,hl1⟩
 refine ⟨_,_,_,_,_,_,_,rfl,(by first | assumption | exact Le.refl _),(rvalue_c (w.mono hl1) (by omega)).mono ?_⟩
 rintro _ h2 ⟨s3,A3,n3,c3,B3,m3,d3,rfl,⟨y,t,ht,uy,ut,rfl⟩,hn3,hm3,hl2⟩
 refine ⟨_,_,_,_,_,_,_,rfl,(rpos_c ut).mono ?_⟩
 rintro _ _ ⟨rfl,pt,rfl⟩
 refine ⟨_,_,_,_,rfl,(by first | assumption | exact Le.refl _),(imul_c (uz.mono hl2) pt (by omega) (by omega)).mono ?_⟩
 rintro _ h3 ⟨s4,A4,k4,c4,rfl,hN4,hk4,hl4⟩
 refine ⟨_,_,_,_,rfl,(by first | assumption | exact Le.refl _),(rpos_c ((uv.mono hl2).mono hl4)).mono ?_⟩
 rintro _ _ ⟨rfl,pv,rfl⟩
 refine ⟨_,_,_,_,rfl,(by first | assumption | exact Le.refl _),(imul_c (uy.mono hl4) pv (by omega) (by omega)).mono ?_⟩
 rintro _ h5 ⟨s6,A6,k6,c6,rfl,hN6,hk6,hl6⟩
 refine ⟨_,_,_,_,rfl,(iadd_c (hN4.mono hl6).is hN6.is (by omega) (by omega)).mono ?_⟩
 rintro _ h6 ⟨s7,A7,k7,c7,rfl,hN7,hk7,hl7⟩
 have hl27:=(hl4.trans hl6).trans hl7
 refine ⟨_,_,_,_,rfl,(mul_c ((uv.mono hl2).mono hl27) (ut.mono hl27) (by omega) (by omega)).mono ?_⟩
 rintro _ h7 ⟨A8,k8,c8,rfl,hN8,hl8⟩
 have hk8:=NmN.le_of hN8 (uv.sz.mul ut.sz)
 refine ⟨_,_,_,rfl,(by first | assumption | exact Le.refl _),(reduce_c (hN7.mono hl8).is hN8.is (Nat.mul_ne_zero hv ht) (by omega) (by omega)).mono ?_⟩
 rintro _ h8 ⟨s9,A9,n9,c9,B9,m9,d9,rfl,hN9,b1,b2,hl9⟩
 rw [<- Rat.mkRat_add_mkRat _ _ hv ht] at hN9
 exact ⟨_,_,_,_,_,_,_,rfl,_,_,_,_,_,_,_,rfl,hN9,by omega,by omega,((hl1.trans hl2).trans hl27).trans (hl8.trans hl9)⟩
theorem rmul_c {h:Heap} {s s2:Bool} {A B C D:Option Addr} {n c m d n2 c2 m2 d2:Nat} {q p:Rat} (u:IsQ h s A n c B m d q) (w:IsQ h s2 C n2 c2 D m2 d2 p) (hn:n<=134217728) (hm:m<=134217728) (hn2:n2<=134217728) (hm2:m2<=134217728) :
  CallsU Tryz.prog 199 [.agg #[.bool s,.slice A n c,.slice B m d],.agg #[.bool s2,.slice C n2 c2,.slice D m2 d2]] h fun r h' => ∃ s' A' n' c' B' m' d', r = .agg #[.bool s', .slice A' n' c', .slice B' m' d']/\NmQ h' s' A' n' c' B' m' d' (q*p)/\n' <= n+n2/\m' <= max m 2+max m2 2/\Le h h' := by
 apply ratio_Mul_ok
 refine (rvalue_c u (by omega)).mono ?_
 rintro _ h1 ⟨s1,A1,n1,c1,B1,m1,d1,rfl,⟨z,v,hv,uz,uv,rfl⟩,hn1,hm1,hl1⟩
 refine ⟨_,_,_,_,_,_,_,rfl,(by first | assumption | exact Le.refl _),(rvalue_c (w.mono hl1) (by omega)).mono ?_⟩
 rintro _ h2 ⟨s3,A3,n3,c3,B3,m3,d3,rfl,⟨y,t,ht,uy,ut,rfl⟩,hn3,hm3,hl2⟩
 refine ⟨_,_,_,_,_,_,_,rfl,(imul_c (uz.mono hl2) uy (by omega) (by omega)).mono ?_⟩
 rintro _ h3 ⟨s4,A4,k4,c4,rfl,hN4,hk4,hl4⟩
 refine ⟨_,_,_,_,rfl,(by first | assumption | exact Le.refl _),(mul_c ((uv.mono hl2).mono hl4) (ut.mono hl4) (by omega) (by omega)).mono ?_⟩
 rintro _ h7 ⟨A8,k8,c8,rfl,hN8,hl8⟩
 have hk8:=NmN.le_of hN8 (uv.sz.mul ut.sz)
 refine ⟨_,_,_,rfl,(reduce_c (hN4.mono hl8).is hN8.is (Nat.mul_ne_zero hv ht) (by omega) (by omega)).mono ?_⟩
 rintro _ h8 ⟨s9,A9,n9,c9,B9,m9,d9,rfl,hN9,b1,b2,hl9⟩
 rw [<- Rat.mkRat_mul_mkRat] at hN9
 exact ⟨_,_,_,_,_,_,_,rfl,_,_,_,_,_,_,_,rfl,hN9,by omega,by omega,((hl1.trans hl2).trans hl4).trans (hl8.trans hl9)⟩
theorem ineg_c {h:Heap} {s:Bool} {A:Option Addr} {n c:Nat} {z:Int} (u:IsI h s A n c z) (hn:n<=1099511627776) :
  CallsU Tryz.prog 240 [.agg #[.bool s,.slice A n c]] h fun r h' => ∃ s' A' k c', r = .agg #[.bool s', .slice A' k c']/\NmI h' s' A' k c' (-z)/\k<=n/\Le h h' := by
 apply integer_Neg_ok
 have hI:IsI h (!s) A n c (-z):=by
  obtain ⟨v,a,e⟩:=u
  exact ⟨v,a,by subst e;cases s<;>simp⟩
 refine (signed_c hI hn).mono ?_
 rintro _ _ ⟨s', A', k,c', rfl,r⟩
 exact ⟨_,_,_,_,rfl,_,_,_,_,rfl,r⟩
theorem rneg_c {h:Heap} {s:Bool} {A B:Option Addr} {n c m d:Nat} {q:Rat} (u:IsQ h s A n c B m d q) (hn:n<=1099511627776) (hm:m<=1099511627776) :
  CallsU Tryz.prog 200 [.agg #[.bool s,.slice A n c,.slice B m d]] h fun r h' => ∃ s' A' n' c' B' m' d', r = .agg #[.bool s', .slice A' n' c', .slice B' m' d']/\NmQ h' s' A' n' c' B' m' d' (-q)/\n' <= n/\m' <= max m 2/\Le h h' := by
 apply ratio_Neg_ok
 refine (rvalue_c u hm).mono ?_
 rintro _ h1 ⟨s1,A1,n1,c1,B1,m1,d1,rfl,⟨z,v,hv,uz,uv,e⟩,hn1,hm1,hl1⟩
 refine ⟨_,_,_,_,_,_,_,rfl,(ineg_c uz (by omega)).mono ?_⟩
 rintro _ h2 ⟨s2,A2,k2,c2,rfl,hN2,hk2,hl2⟩
 refine ⟨_,_,_,_,rfl,hl2,(reduce_c hN2.is (uv.mono hl2) hv (by omega) (by omega)).mono ?_⟩
 rintro _ h3 ⟨s3,A3,n3,c3,B3,m3,d3,rfl,hN3,a3,b3,hl3⟩
 rw [<- Rat.neg_mkRat,e] at hN3
 exact ⟨_,_,_,_,_,_,_,rfl,_,_,_,_,_,_,_,rfl,hN3,by omega,by omega,(hl1.trans hl2).trans hl3⟩
theorem rsub_c {h:Heap} {s s2:Bool} {A B C D:Option Addr} {n c m d n2 c2 m2 d2:Nat} {q p:Rat} (u:IsQ h s A n c B m d q) (w:IsQ h s2 C n2 c2 D m2 d2 p) (hn:n<=134217728) (hm:m<=134217728) (hn2:n2<=134217728) (hm2:m2<=134217728) :
  CallsU Tryz.prog 198 [.agg #[.bool s,.slice A n c,.slice B m d],.agg #[.bool s2,.slice C n2 c2,.slice D m2 d2]] h fun r h' => ∃ s' A' n' c' B' m' d', r = .agg #[.bool s', .slice A' n' c', .slice B' m' d']/\NmQ h' s' A' n' c' B' m' d' (q-p)/\n' <= max (n+max m2 2) (n2+max m 2)+1/\m' <= max m 2+max m2 2/\Le h h' := by
 apply ratio_Sub_ok
 refine (rneg_c w (by omega) (by omega)).mono ?_
 rintro _ h1 ⟨s1,A1,n1,c1,B1,m1,d1,rfl,hN1,a1,b1,hl1⟩
 refine ⟨_,_,_,_,_,_,_,rfl,hl1,(radd_b (u.mono hl1) hN1.is (by omega) (by omega) (by omega) (by omega)).mono ?_⟩
 rintro _ h2 ⟨s2,A2,n2,c2,B2,m2,d2,rfl,hN2,a2,b2,hl2⟩
 rw [<- Rat.sub_eq_add_neg] at hN2
 exact ⟨_,_,_,_,_,_,_,rfl,_,_,_,_,_,_,_,rfl,hN2,by omega,by omega,hl1.trans hl2⟩
def fitsZ (z:Int):Bool:=decide (-9223372036854775808<=z/\z<9223372036854775808)
theorem small_c {h:Heap} {s:Bool} {A:Option Addr} {n c:Nat} {z:Int} (u:IsI h s A n c z) (hn:n<=1099511627776) :
  CallsU Tryz.prog 283 [.agg #[.bool s,.slice A n c]] h fun r h' => r = .tuple #[.int .i64 (if fitsZ z then z else 0),.bool (fitsZ z)]/\Le h h' := by
 apply integer_Small_ok
 refine (inorm_c u hn).mono ?_
 rintro _ h1 ⟨s1,A1,k1,c1,rfl,⟨hN,hs⟩,hk1,hl1⟩
 have hB:B32=4294967296:=rfl
 have hsz:=NmN.sz hN
 refine ⟨_,_,_,_,rfl,Br.mk (fun q=> ?_) (fun q=> ?_)⟩
 ·have q' := of_decide_eq_true q
  have hbig : ¬ z.natAbs<B32^2:=fun hlt=>by have:=NmN.len_le hN hlt;omega
  have hf:fitsZ z=false:=decide_eq_false (by rw [hB] at hbig;omega)
  rw [hf]
  exact ⟨rfl,hl1⟩
 ·have q' := of_decide_eq_false q
  have hz64:z.natAbs<18446744073709551616:=by
   have:=hsz.mono (show k1<=2 by omega)
   unfold Sz at this
   rw [hB] at this
   omega
  obtain ⟨xs,a,ez,_⟩:=hN
  have la:=a.len
  refine ⟨fun m nn t h' => ∃ k,k<=k1/\m=k1-k/\t=(k:Int)/\nn=((val (xs.take k):Nat):Int)/\h1=h', ⟨k1,0,by omega,by omega,rfl,by simp [val],rfl⟩, ?_⟩
  rintro m _ _ _ ⟨k,hk,rfl,rfl,rfl,rfl⟩
  refine Br.mk (fun q2=> ?_) (fun q2=> ?_)
  ·have hlt:k<k1:=by have:=of_decide_eq_true q2;omega
   obtain ⟨ad,hA,hld⟩:=a.get (i:=k) hlt
   simp only [Int.toNat_natCast]
   have hx:=a.getD_lt k
   refine ⟨ad,hA,by omega,by omega,_,hld, ?_⟩
   rintro _ rfl
   have hk01:k=0\/k=1:=by omega
   refine Br.mk (fun q3=> ?_) (fun _=> ?_)
   ·have:=of_decide_eq_true q3
    rw [IntKind.wrap_i64] at this
    omega
   ·rintro _ rfl _ rfl _ rfl
    refine ⟨k1-(k+1),by omega,k+1,by omega,rfl,by rw [IntKind.wrap_i64];omega, ?_,by first | rfl | trivial⟩
    rw [val_take_succ (by omega)]
    rcases hk01 with rfl | rfl
    ·have e:IntKind.u64.wrap (IntKind.u64.wrap ((xs.getD 0 0:Nat):Int)*2^(min (Int.toNat (IntKind.i64.wrap (32*((0:Nat):Int)))) 64:Nat))=((xs.getD 0 0:Nat):Int):=by
      rw [wu (n:=xs.getD 0 0) rfl (by omega)]
      have:IntKind.i64.wrap (32*((0:Nat):Int))=0:=by rw [IntKind.wrap_i64];omega
      rw [this]
      simp only [Int.toNat_zero,Nat.zero_min,Int.pow_zero,Int.mul_one]
      exact wu rfl (by omega)
     rw [e]
     have:=or64 (x:=((0:Nat):Int)) (hi:=0) (lo:=xs.getD 0 0) (by simp) rfl hx (by decide)
     simpa [val] using this
    ·have e:IntKind.u64.wrap (IntKind.u64.wrap ((xs.getD 1 0:Nat):Int)*2^(min (Int.toNat (IntKind.i64.wrap (32*((1:Nat):Int)))) 64:Nat))=((xs.getD 1 0*B32:Nat):Int):=by
      rw [wu (n:=xs.getD 1 0) rfl (by omega)]
      have:IntKind.i64.wrap (32*((1:Nat):Int))=32:=by rw [IntKind.wrap_i64];omega
      rw [this]
      exact shlB rfl hx
     rw [e]
     have hv:val (xs.take 1)<B32:=by
      have:=U32.val_lt (a.take (m:=1) (by omega))
      simpa using this
     have:=or64_zero (x:=((val (xs.take 1):Nat):Int)) (hi:=xs.getD 1 0) (lo:=val (xs.take 1)) rfl rfl hv hx
     rw [this]
     congr 1
     rw [Nat.pow_one,Nat.mul_comm B32]
     omega
  ·have hkk:k=k1:=by have:=of_decide_eq_false q2;omega
   subst hkk
   rw [List.take_of_length_le (by omega)]
   have hv:val xs=z.natAbs:=ez
   refine ⟨fun t h' => h1=h' /\ t=(s1&&decide ((val xs:Int)<=9223372036854775808)), ?_, ?_⟩
   ·rintro t _ ⟨rfl,et⟩
    rw [hv] at et ⊢
    refine Br.mk (fun q3=> ?_) (fun q3=> ?_)
    ·rintro _ rfl
     subst q3
     rw [eq_comm,Bool.and_eq_true,decide_eq_true_eq,hs,decide_eq_true_eq] at et
     have hf:fitsZ z=true:=decide_eq_true (by omega)
     rw [hf]
     refine ⟨?_,hl1⟩
     have e:IntKind.i64.wrap (IntKind.u64.wrap (0-(z.natAbs:Int)))=z:=by rw [IntKind.wrap_u64,IntKind.wrap_i64];omega
     rw [e,if_pos rfl]
    ·refine Br.mk (fun q4=>Br.mk (fun q5=> ?_) (fun q5=> ?_)) (fun q4=> ?_)
     ·have q5' := of_decide_eq_true q5
      have hz:0<=z:=by rw [hs] at q4;simp at q4;exact q4
      have hf:fitsZ z=true:=decide_eq_true (by omega)
      rw [hf]
      refine ⟨?_,hl1⟩
      have e:IntKind.i64.wrap (z.natAbs:Int)=z:=by rw [IntKind.wrap_i64];omega
      rw [e,if_pos rfl]
     ·have q5' := of_decide_eq_false q5
      have hz:0<=z:=by rw [hs] at q4;simp at q4;exact q4
      have hf:fitsZ z=false:=decide_eq_false (by omega)
      rw [hf]
      exact ⟨rfl,hl1⟩
     ·have hz:z<0:=by rw [hs] at q4;simp at q4;exact q4
      rw [q3,hs,decide_eq_true hz,Bool.true_and,eq_comm] at et
      have:=of_decide_eq_false et
      have hf:fitsZ z=false:=decide_eq_false (by omega)
      rw [hf]
      exact ⟨rfl,hl1⟩
   ·refine Br.mk (fun q3=>⟨rfl,by rw [q3,Bool.true_and]⟩) (fun q3=>⟨rfl,by rw [q3,Bool.false_and]⟩)
abbrev bv (x:UInt8):Value:= .int .u8 (x.toNat:Int)
section
variable {α:Type} {enc:α->Value} {ty:Nat} {h h' h'' : Heap} {A:Option Addr} {n c:Nat} {gs:List α}
end
end Go.Proofs.YtfglcgbgaeegaaaGreatDoor

namespace Go.Proofs.YtfglcgbgaeegaaaGreatDoor
open Go Go.Vcg
def isDg (x:UInt8):Bool:=decide (48<=x.toNat/\x.toNat<=57)
structure Sc where
 form:List UInt8
 runs:List (List UInt8)
 inRun:Bool
end Go.Proofs.YtfglcgbgaeegaaaGreatDoor

namespace Go.Proofs.YtfglcgbgaeegaaaGreatDoor
open Go Go.Vcg
attribute [local irreducible] Br
inductive Ex
 | mk (kind:Int) (val:Rat) (n m:Nat) (name:List UInt8) (kids:List Ex)
namespace Ex
def kind:Ex->Int | mk k _ _ _ _ _=>k
def val:Ex->Rat | mk _ q _ _ _ _=>q
def ln:Ex->Nat | mk _ _ n _ _ _=>n
def lm:Ex->Nat | mk _ _ _ m _ _=>m
def name:Ex->List UInt8 | mk _ _ _ _ s _=>s
def kids:Ex->List Ex | mk _ _ _ _ _ ks=>ks
end Ex
def cellsE (k:Int) (s:Bool) (A:Option Addr) (n c:Nat) (B:Option Addr) (m d:Nat) (nm:List UInt8) (K:Option Addr) (kn kc:Nat):List Value:=
 [.int .i64 k,.bool s,.slice A n c,.slice B m d,sv nm,.slice K kn kc]
mutual
def IsE (h:Heap):Ex->List Value->Prop
 | .mk k q n m nm kids,vs=> ∃ s A c B d K kc,vs=cellsE k s A n c B m d nm K kids.length kc/\IsQ h s A n c B m d q/\kids.length<=kc/\
   (kids≠[]-> ∃ (ad:Addr) (b:Blk),K=some ad/\ad.spot=none/\h ad.block=some b/\ad.off+6*kids.length<=b.cells.length/\IsEs h kids (b.cells.drop ad.off))
def IsEs (h:Heap):List Ex->List Value->Prop
 | [],_=>True
 | e::es,cs=>IsE h e (cs.take 6)/\IsEs h es (cs.drop 6)
end
mutual
theorem IsE.mono {h h' : Heap} (l:Le h h') : ∀ (e:Ex) (vs:List Value),IsE h e vs->IsE h' e vs
 | .mk k q n m nm kids,vs,u=>by
  unfold IsE at u ⊢
  obtain ⟨s,A,c,B,d,K,kc,e,uq,hc,hk⟩:=u
  refine ⟨s,A,c,B,d,K,kc,e,uq.mono l,hc,fun hn=> ?_⟩
  obtain ⟨ad,b,e1,e2,hb,hl,hs⟩:=hk hn
  exact ⟨ad,b,e1,e2,l _ _ hb,hl,IsEs.mono l kids _ hs⟩
theorem IsEs.mono {h h' : Heap} (l:Le h h') : ∀ (es:List Ex) (cs:List Value),IsEs h es cs->IsEs h' es cs
 | [],_,_=>by unfold IsEs;trivial
 | e::es,cs,u=>by
  unfold IsEs at u ⊢
  exact ⟨IsE.mono l e _ u.1,IsEs.mono l es _ u.2⟩
end
theorem IsEs.get {h:Heap} : ∀ {es:List Ex} {cs:List Value} {i:Nat} {e:Ex},IsEs h es cs->es[i]?=some e->IsE h e ((cs.drop (i*6)).take 6)
 | [],_,i,e,_,he=>by simp at he
 | x::es,cs,0,e,u,he=>by
  unfold IsEs at u
  simp at he
  subst he
  simpa using u.1
 | x::es,cs,i+1,e,u,he=>by
  unfold IsEs at u
  have:=IsEs.get u.2 (i:=i) (by simpa using he)
  rw [List.drop_drop] at this
  rw [show (i+1)*6=6+i*6 by omega]
  exact this
theorem LdN_of {h:Heap} {ad:Addr} {b:Blk} {o k:Nat} {vs:List Value} (hs:ad.spot=none) (hb:h ad.block=some b) (hk:vs.length=k) (hv:(b.cells.drop (ad.off+o)).take k=vs):LdN h (ad.add o) vs:=by
 refine ⟨?_,b, ?_, ?_⟩
 ·unfold Addr.add;split
  ·exact hs
  ·rfl
 ·rw [show (ad.add o).block=ad.block from by unfold Addr.add;split<;>rfl]
  exact hb
 ·rw [show (ad.add o).off=ad.off+o from by unfold Addr.add;split<;>simp_all,hk]
  exact hv
theorem cellsE_len (k:Int) (s:Bool) (A:Option Addr) (n c:Nat) (B:Option Addr) (m d:Nat) (nm:List UInt8) (K:Option Addr) (kn kc:Nat):(cellsE k s A n c B m d nm K kn kc).length=6:=rfl
theorem IsE.len {h:Heap} {e:Ex} {vs:List Value} (u:IsE h e vs):vs.length=6:=by
 cases e
 unfold IsE at u
 obtain ⟨_,_,_,_,_,_,_,rfl,_⟩:=u
 rfl
theorem IsE.open {h:Heap} {e:Ex} {vs:List Value} (u:IsE h e vs) : ∃ s A c B d K kc,vs=cellsE e.kind s A e.ln c B e.lm d e.name K e.kids.length kc/\IsQ h s A e.ln c B e.lm d e.val/\e.kids.length<=kc/\
  (e.kids≠[]-> ∃ (ad:Addr) (b:Blk),K=some ad/\ad.spot=none/\h ad.block=some b/\ad.off+6*e.kids.length<=b.cells.length/\IsEs h e.kids (b.cells.drop ad.off)):=by
 cases e
 unfold IsE at u
 exact u
theorem kid_ld {h:Heap} {e:Ex} {K:Option Addr} {i:Nat} {x:Ex} (hk:e.kids≠[]-> ∃ (ad:Addr) (b:Blk),K=some ad/\ad.spot=none/\h ad.block=some b/\ad.off+6*e.kids.length<=b.cells.length/\IsEs h e.kids (b.cells.drop ad.off)) (hx:e.kids[i]?=some x) :
  ∃ ad vs,K=some ad/\LdN h (ad.add (i*6)) vs/\IsE h x vs:=by
 have hne:e.kids≠[]:=fun q=>by rw [q] at hx;simp at hx
 obtain ⟨ad,b,e1,sp,hb,hl,hs⟩:=hk hne
 have hi:i<e.kids.length:=(List.getElem?_eq_some_iff.1 hx).1
 have u:=hs.get hx
 rw [List.drop_drop] at u
 exact ⟨ad,_,e1,LdN_of sp hb (IsE.len u) rfl,u⟩
theorem Ex.eta (e:Ex):e = .mk e.kind e.val e.ln e.lm e.name e.kids:=by cases e;rfl
mutual
def Szs:Ex->Prop
 | .mk _ _ n m nm kids=>n<=64/\m<=64/\nm.length<=1000/\kids.length<=1000000/\SzsL kids
def SzsL:List Ex->Prop
 | []=>True
 | e::es=>Szs e/\SzsL es
end
theorem SzsL.get : ∀ {es:List Ex} {i:Nat} {e:Ex},SzsL es->es[i]?=some e->Szs e
 | [],i,e,_,h=>by simp at h
 | x::es,0,e,u,h=>by unfold SzsL at u;simp at h;subst h;exact u.1
 | x::es,i+1,e,u,h=>by unfold SzsL at u;exact SzsL.get u.2 (i:=i) (by simpa using h)
theorem Szs.open {e:Ex} (u:Szs e):e.ln<=64/\e.lm<=64/\e.name.length<=1000/\e.kids.length<=1000000/\SzsL e.kids:=by
 cases e
 unfold Szs at u
 exact u
end Go.Proofs.YtfglcgbgaeegaaaGreatDoor
