/-
 Gathered texts of this proof: Fo8,Fo9,Fo4,Pn1,Pl1,Pl2,VcM,Cn13,Cn14.
-/
import Derived.Test.YtfglcgbgaeegaaaGreatDoorG08
import Derived.Lib.SlicesCompact
import Derived.Test.YtfglcgbgaeegaaaGreatDoorG04
import Derived.Test.YtfglcgbgaeegaaaGreatDoorG03
import Derived.Test.YtfglcgbgaeegaaaGreatDoorChecked
import Derived.Test.YtfglcgbgaeegaaaGreatDoorG06
set_option maxRecDepth 100000

namespace Go.Proofs.YtfglcgbgaeegaaaGreatDoor
open Go Go.Vcg Go.RowKit Go.Sort
attribute [local irreducible] Br
def hole (h:Heap) (g:Nat):Heap:=fun k=>if k=g then none else h k
theorem hole_at (h:Heap) (g:Nat):hole h g g=none:=by unfold hole;rw [if_pos rfl]
theorem hole_ne (h:Heap) {g k:Nat} (hk:k≠g):hole h g k=h k:=by unfold hole;rw [if_neg hk]
theorem hole_put (h:Heap) (g:Nat) (b:Blk):hole (h.put g b) g=hole h g:=by
 funext k
 unfold hole
 by_cases e:k=g
 ·rw [if_pos e,if_pos e]
 ·rw [if_neg e,if_neg e,Heap.put_ne _ _ e]
theorem hole_put_ne (h:Heap) {g g' : Nat} (b:Blk) (hg:g' ≠ g):hole (h.put g' b) g=(hole h g).put g' b:=by
 funext k
 by_cases e:k=g
 ·subst e
  rw [hole_at,Heap.put_ne _ _ (fun q=>hg q.symm),hole_at]
 ·rw [hole_ne _ e]
  by_cases e2:k=g'
  ·subst e2;rw [Heap.put_same,Heap.put_same]
  ·rw [Heap.put_ne _ _ e2,Heap.put_ne _ _ e2,hole_ne _ e]
theorem put_hole {h:Heap} {g:Nat} {b:Blk} (hg:h g=some b):(hole h g).put g b=h:=by
 funext k
 by_cases e:k=g
 ·subst e;rw [Heap.put_same,hg]
 ·rw [Heap.put_ne _ _ e,hole_ne _ e]
theorem hole_none {h:Heap} {g:Nat} (hg:h g=none):hole h g=h:=by
 funext k
 by_cases e:k=g
 ·subst e;rw [hole_at,hg]
 ·rw [hole_ne _ e]
theorem hole_le (h:Heap) (g:Nat):Le (hole h g) h:=fun k b hk=>by
 by_cases e:k=g
 ·subst e;rw [hole_at] at hk;cases hk
 ·rwa [hole_ne _ e] at hk
theorem Le.hole {h h' : Heap} (l:Le h h') (g:Nat):Le (hole h g) (hole h' g):=fun k b hk=>by
 by_cases e:k=g
 ·subst e;rw [hole_at] at hk;cases hk
 ·rw [hole_ne _ e] at hk ⊢;exact l k b hk
theorem hole_comm (h:Heap) (a b:Nat):hole (hole h a) b=hole (hole h b) a:=by
 funext k
 unfold Go.Proofs.YtfglcgbgaeegaaaGreatDoor.hole
 split<;>split<;>rfl
def Ps (h:Heap) (g:Nat) (l r:List UInt8):Prop:= ∃ (pre:List UInt8) (ty:Nat),l=pre++r/\h g=some ⟨[sv l,.int .i64 (pre.length:Int)],ty,(0,0)⟩
theorem Ps.ld0 {h:Heap} {g:Nat} {l pre:List UInt8} {ty:Nat} (hb:h g=some ⟨[sv l,.int .i64 (pre.length:Int)],ty,(0,0)⟩):LdN h (Addr.add ⟨g,0,none⟩ 0) [.string ⟨l.toArray⟩]:=
 ld_of rfl hb rfl
theorem Ps.ld1 {h:Heap} {g:Nat} {l pre:List UInt8} {ty:Nat} (hb:h g=some ⟨[sv l,.int .i64 (pre.length:Int)],ty,(0,0)⟩):LdN h (Addr.add ⟨g,0,none⟩ 1) [.int .i64 (pre.length:Int)]:=
 ld_of rfl hb rfl
def nd (x:UInt8):Bool:= !(([43,45,42,47,40,41,44,32]:List UInt8).contains x)
def skipS (r:List UInt8):List UInt8:=r.dropWhile (· == 32)
def tokOf (r:List UInt8):List UInt8:=if r.takeWhile nd=[] then r.take 1 else r.takeWhile nd
def tk (r:List UInt8):List UInt8:=tokOf (skipS r)
def aft (r:List UInt8):List UInt8:=(skipS r).drop (tk r).length
theorem tokOf_pre (r:List UInt8):r.take (tokOf r).length=tokOf r:=by
 unfold tokOf
 split
 ·cases r with
  | nil=>rfl
  | cons x r=>rfl
 ·exact tw_take r nd
theorem tokOf_le (r:List UInt8):(tokOf r).length<=r.length:=by
 have:=congrArg List.length (tokOf_pre r)
 rw [List.length_take] at this
 omega
theorem tk_split (r:List UInt8):tk r++aft r=skipS r:=by
 unfold aft tk
 conv=>lhs;lhs;rw [<- tokOf_pre]
 exact List.take_append_drop _ _
theorem skip_le (r:List UInt8):(skipS r).length<=r.length:=by
 have:=congrArg List.length (List.takeWhile_append_dropWhile (p:=(· == 32)) (l:=r))
 rw [List.length_append] at this
 unfold skipS
 omega
theorem strIdx_c (l:List UInt8) (b:UInt8) (h:Heap) :
  CallsU Tryz.prog 224 [sv l,.int .u8 (b.toNat:Int)] h fun r h' => r = .int .i64 (Lib.indexByte l b)/\h=h' :=
 callsU_same ⟨_,Tryz.func224,by kernel_rfl,by kernel_rfl⟩ fun w _=>by
  have h1:=Tryz.strings_IndexByte ⟨l.toArray⟩ (b.toNat:Int) w
  rw [Int.toNat_natCast] at h1
  have h2:b.toNat.toUInt8=b:=by simp
  rw [h2] at h1
  exact h1
theorem tw_at {l:List UInt8} {p:UInt8->Bool} {k:Nat} (hk:k<=l.length) (h1:(l.take k).all p=true) (h2 : ∀ x,l[k]?=some x->p x=false):l.takeWhile p=l.take k:=by
 induction l generalizing k with
 | nil=>simp
 | cons x l ih=>
  cases k with
  | zero=>
   rw [List.takeWhile_cons,if_neg (by rw [h2 x rfl];decide)]
   rfl
  | succ k=>
   rw [List.take_succ_cons,List.all_cons,Bool.and_eq_true] at h1
   rw [List.takeWhile_cons,if_pos h1.1,List.take_succ_cons,ih (by simpa using hk) h1.2 (fun y hy=>h2 y (by simpa using hy))]
theorem foNext_c {h:Heap} {g:Nat} {l r:List UInt8} (u:Ps h g l r) (hl:l.length<=1000000) :
  CallsU Tryz.prog 166 [.pointer (some ⟨g,0,none⟩)] h fun v h' => v=sv (tk r)/\Ps h' g l (skipS r)/\hole h' g=hole h g:=by
 apply garment_formula_parser_next_ok
 refine ⟨fun h' => Ps h' g l (skipS r)/\hole h' g=hole h g, ?_,fun m h' => ∃ r', Ps h' g l r' /\ skipS r' = skipS r/\m=r'.length/\hole h' g=hole h g,⟨_,r,u,rfl,rfl,rfl⟩, ?_⟩
 ·rintro h1 ⟨⟨pre,ty,hlr,hb⟩,ho⟩
  unfold tk
  generalize skipS r=s at *
  have hlen:l.length=pre.length+s.length:=by rw [hlr,List.length_append]
  refine ⟨_,Ps.ld1 hb,fun e h' => h1=h' /\ e=((pre.length+(s.takeWhile nd).length:Nat):Int), ?_,fun m e h' => ∃ k,k<=s.length/\m=s.length-k/\e=((pre.length+k:Nat):Int)/\h1=h' /\ (s.take k).all nd=true,⟨_,0,by omega,rfl,rfl,rfl,by simp⟩, ?_⟩
  ·rintro _ _ ⟨rfl,rfl⟩
   have htw:=tw_le s nd
   have htl:=tokOf_le s
   refine ⟨fun e h' => h1=h' /\ e=((pre.length+(tokOf s).length:Nat):Int), ?_,_,Ps.ld1 hb, ?_⟩
   ·rintro _ _ ⟨rfl,rfl⟩
    refine ⟨_,Ps.ld0 hb,_,Ps.ld1 hb,by omega,by rw [ba_size];omega,by omega,by omega, ?_,⟨pre,ty,hlr,hb⟩,ho⟩
    rw [Int.toNat_natCast,Int.toNat_natCast,ba_ext]
    have:(l.take (pre.length+(tokOf s).length)).drop pre.length=tokOf s:=by
     rw [hlr,List.take_length_add_append,List.drop_left,tokOf_pre]
    rw [this]
   ·refine Br.mk (fun q=> ?_) (fun q=>⟨rfl, ?_⟩)
    ·have h0:(s.takeWhile nd).length=0:=by have:=beq_iff_eq.1 q;omega
     have h0' : s.takeWhile nd=[]:=List.length_eq_zero_iff.1 h0
     refine ⟨_,Ps.ld0 hb, ?_⟩
     rw [ba_size,h0]
     refine Br.mk (fun q2=> ?_) (fun q2=>⟨rfl, ?_⟩)
     ·have h3:=of_decide_eq_true q2
      rintro _ rfl
      refine ⟨rfl,wi ?_ ?_⟩
      ·unfold tokOf
       rw [if_pos h0', List.length_take]
       omega
      ·omega
     ·have h3:=of_decide_eq_false q2
      have:s.length=0:=by omega
      have h4:tokOf s=[]:=List.length_eq_zero_iff.1 (by omega)
      rw [h4];rfl
    ·have h0:(s.takeWhile nd).length≠0:=by have:=beq_eq_false_iff_ne.1 q;omega
     have h0' : s.takeWhile nd≠[]:=fun e=>h0 (by rw [e];rfl)
     unfold tokOf
     rw [if_neg h0']
  ·rintro m _ _ ⟨k,hk,rfl,rfl,rfl,hall⟩
   refine ⟨_,Ps.ld0 hb, ?_⟩
   rw [ba_size]
   refine Br.mk (fun q=> ?_) (fun q=>⟨rfl, ?_⟩)
   ·have hlt:k<s.length:=by have:=of_decide_eq_true q;omega
    obtain ⟨x,hx⟩ : ∃ x,s[k]?=some x:=⟨_,List.getElem?_eq_getElem hlt⟩
    refine ⟨_,Ps.ld0 hb,x,by omega, ?_, ?_⟩
    ·rw [Int.toNat_natCast,ba_get,hlr,List.getElem?_append_right (by omega)]
     simpa using hx
    ·refine (strIdx_c [43,45,42,47,40,41,44,32] x h1).mono ?_
     rintro _ _ ⟨rfl,rfl⟩
     refine ⟨_,rfl, ?_⟩
     rw [idx_spec]
     have hnd:nd x=true↔x∉([43,45,42,47,40,41,44,32]:List UInt8):=by
      unfold nd
      rw [Bool.not_eq_true', List.contains_eq_mem,decide_eq_false_iff_not]
     refine Br.mk (fun q2=> ?_) (fun q2=>⟨rfl, ?_⟩)
     ·have hn:nd x=true:=by
       rw [hnd]
       intro hm
       rw [if_pos hm] at q2
       have:=of_decide_eq_true q2
       omega
      rintro _ rfl
      refine ⟨s.length-(k+1),by omega,k+1,by omega,rfl,wi (by omega) (by omega),rfl, ?_⟩
      rw [List.take_add_one,hx,List.all_append,hall]
      simp [hn]
     ·have hn:nd x=false:=by
       cases hh:nd x with
       | false=>rfl
       | true=>
        rw [if_neg (hnd.1 hh)] at q2
        exact absurd q2 (by decide)
      rw [tw_at (by omega) hall (fun y hy=>by rw [hx] at hy;cases hy;exact hn),List.length_take,Nat.min_eq_left (by omega)]
   ·have hk' : k=s.length:=by have:=of_decide_eq_false q;omega
    subst hk'
    rw [tw_at (Nat.le_refl _) hall (fun y hy=>by rw [List.getElem?_eq_none (Nat.le_refl _)] at hy;cases hy),List.take_length]
 ·rintro m h1 ⟨r', ⟨pre,ty,hlr,hb⟩,hs,rfl,ho⟩
  have hlen:l.length=pre.length+r'.length:=by rw [hlr,List.length_append]
  refine ⟨_,Ps.ld1 hb,_,Ps.ld0 hb, ?_⟩
  rw [ba_size]
  refine Br.mk (fun q=> ?_) (fun q=> ?_)
  ·have hlt:pre.length<l.length:=by have:=of_decide_eq_true q;omega
   obtain ⟨x,t,rfl⟩ : ∃ x t,r' = x::t:=by
    cases r' with
    | nil=>simp at hlen;omega
    | cons x t=>exact ⟨x,t,rfl⟩
   refine ⟨_,Ps.ld0 hb,_,Ps.ld1 hb,x,by omega, ?_,Br.mk (fun q2=> ?_) (fun q2=> ?_)⟩
   ·rw [Int.toNat_natCast,ba_get,hlr,List.getElem?_append_right (by omega)]
    simp
   ·have hx:x=32:=by
     apply UInt8.toNat_inj.1
     have:=beq_iff_eq.1 q2
     have h2:(32:UInt8).toNat=32:=rfl
     omega
    subst hx
    refine ⟨_,Ps.ld1 hb, ?_⟩
    rintro _ rfl
    have e1:IntKind.i64.wrap ((pre.length:Int)+1)=((pre.length+1:Nat):Int):=wi (by omega) (by omega)
    rw [e1,addr_block,addr_off]
    refine ⟨_,hb,rfl,addr_spot _ _ rfl,by simp, ?_⟩
    rintro _ rfl
    refine ⟨t.length,by simp,t,⟨pre++[32],ty,by rw [hlr];simp, ?_⟩, ?_,rfl,by rw [hole_put];exact ho⟩
    ·rw [Heap.put_same]
     simp [setSeg]
    ·rw [<- hs]
     unfold skipS
     rw [List.dropWhile_cons,if_pos (by decide)]
   ·have hx:x≠32:=fun e=>by subst e;exact absurd q2 (by decide)
    refine ⟨⟨pre,ty, ?_,hb⟩,ho⟩
    rw [<- hs]
    unfold skipS
    rw [List.dropWhile_cons,if_neg (by simpa using hx)]
    exact hlr
  ·have h0:r' = []:=List.length_eq_zero_iff.1 (by have:=of_decide_eq_false q;omega)
   subst h0
   refine ⟨⟨pre,ty, ?_,hb⟩,ho⟩
   rw [<- hs]
   exact hlr
theorem foTake_c {h:Heap} {g:Nat} {l r:List UInt8} (u:Ps h g l r) (hl:l.length<=1000000) :
  CallsU Tryz.prog 223 [.pointer (some ⟨g,0,none⟩)] h fun v h' => v=sv (tk r)/\Ps h' g l (aft r)/\hole h' g=hole h g:=by
 apply garment_formula_parser_take_ok
 refine (foNext_c u hl).mono ?_
 rintro _ h1 ⟨rfl,⟨pre,ty,hlr,hb⟩,ho⟩
 have hlen:l.length=pre.length+(skipS r).length:=by rw [hlr,List.length_append]
 have hsp:=congrArg List.length (tk_split r)
 rw [List.length_append] at hsp
 refine ⟨_,rfl,_,Ps.ld1 hb, ?_⟩
 rintro _ rfl
 rw [ba_size,addr_block,addr_off]
 have e1:IntKind.i64.wrap ((pre.length:Int)+((tk r).length:Nat))=((pre.length+(tk r).length:Nat):Int):=wi (by omega) (by omega)
 rw [e1]
 refine ⟨_,hb,rfl,addr_spot _ _ rfl,by simp, ?_⟩
 rintro _ rfl
 refine ⟨rfl,⟨pre++tk r,ty,by rw [List.append_assoc,tk_split];exact hlr, ?_⟩,by rw [hole_put];exact ho⟩
 rw [Heap.put_same]
 simp [setSeg]
def expV (t r:List UInt8):Int:=if tk r=t then 0 else if tk r=[] then 4 else 2
theorem foExpect_c {h:Heap} {g:Nat} {l r:List UInt8} (t:List UInt8) (u:Ps h g l r) (hl:l.length<=1000000) :
  CallsU Tryz.prog 277 [.pointer (some ⟨g,0,none⟩),sv t] h fun v h' => v = .int .i64 (expV t r)/\Ps h' g l (aft r)/\hole h' g=hole h g:=by
 apply garment_formula_parser_expect_ok
 refine (foTake_c u hl).mono ?_
 rintro _ h1 ⟨rfl,hp,ho⟩
 have e0:(⟨#[]⟩:ByteArray).toList=[]:=bytes_toList []
 refine ⟨_,rfl, ?_⟩
 rw [bytes_toList,bytes_toList,e0]
 unfold expV
 refine Br.mk (fun q=> ?_) (fun q=>Br.mk (fun q2=> ?_) (fun q2=> ?_))
 ·rw [if_pos (beq_iff_eq.1 q)];exact ⟨rfl,hp,ho⟩
 ·rw [if_neg (beq_eq_false_iff_ne.1 q),if_pos (beq_iff_eq.1 q2)];exact ⟨rfl,hp,ho⟩
 ·rw [if_neg (beq_eq_false_iff_ne.1 q),if_neg (beq_eq_false_iff_ne.1 q2)];exact ⟨rfl,hp,ho⟩
def op2 (k:Int) (x y:Ex):Ex:= .mk k 0 0 0 [] [x,y]
mutual
def pSum:Nat->List UInt8->Except Int (Ex×List UInt8)
 | 0,_=> .error 99
 | n+1,r=>match pProd n r with
  | .error e=> .error e
  | .ok (x,r')=>pSumL n x r'
def pSumL:Nat->Ex->List UInt8->Except Int (Ex×List UInt8)
 | 0,_,_=> .error 99
 | n+1,x,r=>if tk r=[43] then (match pProd n (aft r) with
   | .error e=> .error e
   | .ok (y,r')=>pSumL n (op2 3 x y) r')
  else if tk r=[45] then (match pProd n (aft r) with
   | .error e=> .error e
   | .ok (y,r')=>pSumL n (op2 4 x y) r')
  else .ok (x,skipS r)
def pProd:Nat->List UInt8->Except Int (Ex×List UInt8)
 | 0,_=> .error 99
 | n+1,r=>match pFac n r with
  | .error e=> .error e
  | .ok (x,r')=>pProdL n x r'
def pProdL:Nat->Ex->List UInt8->Except Int (Ex×List UInt8)
 | 0,_,_=> .error 99
 | n+1,x,r=>if tk r=[42] then (match pFac n (aft r) with
   | .error e=> .error e
   | .ok (y,r')=>pProdL n (op2 5 x y) r')
  else if tk r=[47] then (match pFac n (aft r) with
   | .error e=> .error e
   | .ok (y,r')=>pProdL n (op2 6 x y) r')
  else .ok (x,skipS r)
def pFac:Nat->List UInt8->Except Int (Ex×List UInt8)
 | 0,_=> .error 99
 | n+1,r=>
  if tk r=[] then .error 4
  else if tk r=[45] then (match pFac n (aft r) with
   | .error e=> .error e
   | .ok (x,r')=> .ok (.mk 7 0 0 0 [] [x],r'))
  else if tk r=[40] then (match pSum n (aft r) with
   | .error e=> .error e
   | .ok (x,r')=>if expV [41] r' = 0 then .ok (x,aft r') else .error (expV [41] r'))
  else if tk r=[109,105,110] then pCall n 8 (aft r)
  else if tk r=[109,97,120] then pCall n 9 (aft r)
  else match numberV (tk r) with
   | some q=> .ok (.mk 1 q (lmb q.num.natAbs) (lmb q.den) [] [],aft r)
   | none=>if isNameV (tk r) then .ok (.mk 2 0 0 0 (tk r) [],aft r) else .error 2
def pCall:Nat->Int->List UInt8->Except Int (Ex×List UInt8)
 | 0,_,_=> .error 99
 | n+1,k,r=>if expV [40] r=0 then pCallL n k [] (aft r) else .error (expV [40] r)
def pCallL:Nat->Int->List Ex->List UInt8->Except Int (Ex×List UInt8)
 | 0,_,_,_=> .error 99
 | n+1,k,es,r=>match pSum n r with
  | .error e=> .error e
  | .ok (x,r')=>
   if tk r' = [41] then .ok (.mk k 0 0 0 [] (es++[x]),aft r')
   else if tk r' = [] then .error 4
   else if tk r' ≠ [44] then .error 2
   else if es.length+1=8 then .error 2
   else pCallL n k (es++[x]) (aft r')
end
def foParseV (s:List UInt8):Except Int Ex:=
 if 400<s.length then .error 5
 else match pSum 4000 s with
  | .error e=> .error e
  | .ok (x,r)=>if tk r=[] then (if chkV x 1=0 then .ok x else .error (chkV x 1)) else .error 2
abbrev zE:List Value:=[.int .i64 0,.bool false,.slice none 0 0,.slice none 0 0,.string ByteArray.empty,.slice none 0 0]
theorem IsQ.nul (h:Heap):IsQ h false none 0 0 none 0 0 0:=⟨0,0,IsI.pos (NmN.nil h none 0).is,(NmN.nil h none 0).is,by simp⟩
def PaR (o:Except Int (Ex×List UInt8)) (g:Nat) (l:List UInt8) (h:Heap) (r:Value) (h' : Heap):Prop:=
 Le (hole h g) (hole h' g)/\match o with
  | .error e=>e≠0/\r = .tuple #[.agg zE.toArray,.int .i64 e]
  | .ok (x,rest)=> ∃ vs:List Value,r = .tuple #[.agg vs.toArray,.int .i64 0]/\IsE (hole h' g) x vs/\Szs x/\Ps h' g l rest
theorem IsE_op {h:Heap} {k:Int} {es:List Ex} {gk c ty:Nat} {cs:List Value} (hb:h gk=some ⟨cs,ty,(0,0)⟩) (hc:es.length<=c) (hl:6*es.length<=cs.length) (hs:IsEs h es cs) :
  IsE h (.mk k 0 0 0 [] es) [.int .i64 k,.bool false,.slice none 0 0,.slice none 0 0,.string ByteArray.empty,.slice (some ⟨gk,0,none⟩) es.length c]:=by
 unfold IsE
 exact ⟨false,none,0,none,0,some ⟨gk,0,none⟩,c,rfl,IsQ.nul h,hc,fun _=>⟨⟨gk,0,none⟩,_,rfl,rfl,hb,by simpa using hl,by simpa using hs⟩⟩
theorem IsEs.snoc {h:Heap} : ∀ {es:List Ex} {cs:List Value} {x:Ex} {vs rest:List Value},IsEs h es cs->6*es.length<=cs.length->IsE h x vs->IsEs h (es++[x]) (cs.take (6*es.length)++vs++rest)
 | [],cs,x,vs,rest,_,_,ux=>by
  have hv:=ux.len
  unfold IsEs
  refine ⟨?_,by unfold IsEs;trivial⟩
  simp only [List.length_nil,Nat.mul_zero,List.take_zero,List.nil_append]
  rw [List.take_append_of_le_length (by omega),List.take_of_length_le (by omega)]
  exact ux
 | e::es,cs,x,vs,rest,u,hl,ux=>by
  unfold IsEs at u
  rw [List.length_cons] at hl
  rw [List.cons_append]
  unfold IsEs
  rw [List.length_cons,show 6*(es.length+1)=6+6*es.length by omega]
  have e1:cs.take (6+6*es.length)=cs.take 6++(cs.drop 6).take (6*es.length):=List.take_add
  have h6:(cs.take 6).length=6:=by rw [List.length_take];omega
  rw [e1]
  refine ⟨?_, ?_⟩
  ·rw [List.append_assoc,List.append_assoc,List.take_append_of_le_length (by omega),List.take_take,Nat.min_self]
   exact u.1
  ·rw [List.append_assoc,List.append_assoc,List.drop_append_of_le_length (by omega),List.drop_of_length_le (l:=cs.take 6) (by omega),List.nil_append,<- List.append_assoc]
   exact IsEs.snoc u.2 (by rw [List.length_drop];omega) ux
theorem SzsL.snoc : ∀ {es:List Ex} {x:Ex},SzsL es->Szs x->SzsL (es++[x])
 | [],x,_,z=>by unfold SzsL;exact ⟨z,by unfold SzsL;trivial⟩
 | e::es,x,u,z=>by
  unfold SzsL at u
  rw [List.cons_append]
  unfold SzsL
  exact ⟨u.1,SzsL.snoc u.2 z⟩
theorem IsE_two {h:Heap} {k:Int} {x y:Ex} {vs ws:List Value} {gk ty:Nat} (hg:h gk=none) (ux:IsE h x vs) (uy:IsE h y ws) :
  IsE (h.put gk ⟨vs++ws,ty,(0,0)⟩) (op2 k x y) [.int .i64 k,.bool false,.slice none 0 0,.slice none 0 0,.string ByteArray.empty,.slice (some ⟨gk,0,none⟩) 2 2]:=by
 have l:=Le.new hg ⟨vs++ws,ty,(0,0)⟩
 have h1:=ux.len
 have h2:=uy.len
 refine IsE_op (es:=[x,y]) (cs:=vs++ws) (Heap.put_same _ _ _) (by simp) (by simp;omega) ?_
 unfold IsEs
 refine ⟨by rw [List.take_append_of_le_length (by omega),List.take_of_length_le (by omega)];exact IsE.mono l _ _ ux, ?_⟩
 unfold IsEs
 refine ⟨?_,by unfold IsEs;trivial⟩
 rw [List.drop_append_of_le_length (by omega),List.drop_of_length_le (by omega),List.nil_append,List.take_of_length_le (by omega)]
 exact IsE.mono l _ _ uy
theorem Szs_two {k:Int} {x y:Ex} (zx:Szs x) (zy:Szs y):Szs (op2 k x y):=by
 unfold op2 Szs SzsL SzsL SzsL
 exact ⟨by omega,by omega,by simp,by simp,zx,zy,trivial⟩
def MOk (f:FuncId) (args:Nat->List Value) (o:List UInt8->Except Int (Ex×List UInt8)):Prop:=
 ∀ {h:Heap} {g:Nat} {l r:List UInt8},Ps h g l r->l.length<=400->o r ≠ .error 99->CallsU Tryz.prog f (args g) h (PaR (o r) g l h)
abbrev ptr (g:Nat):List Value:=[.pointer (some ⟨g,0,none⟩)]
theorem skip_skip (r:List UInt8):skipS (skipS r)=skipS r:=by
 unfold skipS
 induction r with
 | nil=>rfl
 | cons x r ih=>
  rw [List.dropWhile_cons]
  split
  ·exact ih
  ·rename_i hx
   rw [List.dropWhile_cons,if_neg hx]
theorem foProd_step {n:Nat} (ih : ∀ k,k<=n->MOk 256 ptr (pFac k)):MOk 222 ptr (pProd (n+1)):=by
 intro h g l r u hl hne
 rw [pProd] at hne ⊢
 apply garment_formula_parser_product_ok
 have hsub:=ih n (Nat.le_refl _) (r:=r) u hl
 cases ho:pFac n r with
 | error e=>
  rw [ho] at hne
  rw [ho] at hsub
  refine (hsub hne).mono ?_
  rintro _ h1 ⟨hle,he,rfl⟩
  refine ⟨_,_,_,_,_,_,_,_,_,_,_,_,_,rfl,fun m err _ _ _ _ _ _ _ _ _ _ _ _ _ _ _ _ _ _ _ _ _ _ _ _ h' => err=e/\h' = h1,⟨0,rfl,rfl⟩, ?_⟩
  rintro m _ _ _ _ _ _ _ _ _ _ _ _ _ _ _ _ _ _ _ _ _ _ _ _ _ _ ⟨rfl,rfl⟩
  refine Br.mk (fun q=>absurd (beq_iff_eq.1 q) he) (fun _=>⟨hle,he,rfl⟩)
 | ok p=>
  obtain ⟨x,r1⟩:=p
  rw [ho] at hne
  rw [ho] at hsub
  simp only at hne ⊢
  refine (hsub (by intro q;cases q)).mono ?_
  rintro _ h1 ⟨hle,vs,rfl,ux,zx,hp⟩
  have ux' := ux
  obtain ⟨s0,A0,c0,B0,d0,K0,kc0,rfl,_,_,_⟩:=ux'.open
  refine ⟨_,_,_,_,_,_,_,_,_,_,_,_,_,rfl,fun m err _ _ _ _ _ _ _ _ _ _ _ _ l0 l1 l2A l2n l2c l3A l3n l3c l4 l5A l5n l5c h' => Le (hole h g) (hole h' g)/\((err≠0/\pProdL n x r1 = .error err)\/(err=0/\m<=n/\ ∃ y r2,pProdL m y r2=pProdL n x r1/\IsE (hole h' g) y [.int .i64 l0,.bool l1,.slice l2A l2n l2c,.slice l3A l3n l3c,.string l4,.slice l5A l5n l5c]/\Szs y/\Ps h' g l r2)),⟨n,hle,Or.inr ⟨rfl,Nat.le_refl _,x,r1,rfl,ux,zx,hp⟩⟩, ?_⟩
  rintro m err _ _ _ _ _ _ _ _ _ _ _ _ l0 l1 l2A l2n l2c l3A l3n l3c l4 l5A l5n l5c h2 ⟨hle2,hcase⟩
  refine Br.mk (fun q=> ?_) (fun q=> ?_)
  ·rcases hcase with ⟨h0,_⟩ | ⟨_,hm,y,r2,hy,uy,zy,hp2⟩
   ·exact absurd (beq_iff_eq.1 q) h0
   ·cases m with
    | zero=>rw [pProdL] at hy;exact absurd hy.symm hne
    | succ m=>
     rw [<- hy] at hne
     rw [pProdL] at hy hne
     have go : ∀ (kd:Int) (h3:Heap),Ps h3 g l (skipS r2)->hole h3 g=hole h2 g->tk r2≠[]->(match pFac m (aft r2) with | .error e=> .error e | .ok (z,r')=>pProdL m (op2 kd y z) r')=pProdL n x r1->
      CallsU Tryz.prog 223 (ptr g) h3 fun v_1 h_4=>
       ∃ t23:ByteArray,v_1=Value.string t23/\
       CallsU Tryz.prog 256 (ptr g) h_4 fun v_2 h_5=>
       ∃ t26_0_0:Int,∃ t26_0_1:Bool,∃ t26_0_2A:Option Addr,∃ t26_0_2n t26_0_2c:Nat,∃ t26_0_3A:Option Addr,∃ t26_0_3n t26_0_3c:Nat,∃ t26_0_4:ByteArray,∃ t26_0_5A:Option Addr,∃ t26_0_5n t26_0_5c:Nat,∃ t26_1:Int,v_2=Value.tuple #[Value.agg #[Value.int .i64 t26_0_0,Value.bool t26_0_1,Value.slice t26_0_2A t26_0_2n t26_0_2c,Value.slice t26_0_3A t26_0_3n t26_0_3c,Value.string t26_0_4,Value.slice t26_0_5A t26_0_5n t26_0_5c],Value.int .i64 t26_1]/\
       ∀ (g_1:Nat) (h_6:Heap),h_5 g_1=none->h_6=Heap.put h_5 g_1 ⟨[Value.int .i64 l0,Value.bool l1,Value.slice l2A l2n l2c,Value.slice l3A l3n l3c,Value.string l4,Value.slice l5A l5n l5c,Value.int .i64 t26_0_0,Value.bool t26_0_1,Value.slice t26_0_2A t26_0_2n t26_0_2c,Value.slice t26_0_3A t26_0_3n t26_0_3c,Value.string t26_0_4,Value.slice t26_0_5A t26_0_5n t26_0_5c],39,(0,0)⟩->
       ∃ m_1,m_1<m+1/\Le (hole h g) (hole h_6 g)/\((t26_1≠0/\pProdL n x r1 = .error t26_1)\/(t26_1=0/\m_1<=n/\ ∃ y r2,pProdL m_1 y r2=pProdL n x r1/\IsE (hole h_6 g) y [.int .i64 kd,.bool false,.slice none 0 0,.slice none 0 0,.string ByteArray.empty,.slice (some ⟨g_1,0,none⟩) 2 2]/\Szs y/\Ps h_6 g l r2)):=by
      intro kd h3 hp3 ho3 htk heq
      refine (foTake_c hp3 (by omega)).mono ?_
      rintro _ h4 ⟨rfl,hp4,ho4⟩
      have ea:aft (skipS r2)=aft r2:=by unfold aft tk;rw [skip_skip]
      rw [ea] at hp4
      refine ⟨_,rfl, ?_⟩
      have hs2:=ih m (by omega) (r:=aft r2) hp4 hl
      cases ho5:pFac m (aft r2) with
      | error e=>
       rw [ho5] at heq hs2
       simp only at heq
       refine (hs2 (by intro q;rw [q] at heq;exact absurd heq.symm (by rw [hy] at hne;exact hne))).mono ?_
       rintro _ h5 ⟨hle5,he,rfl⟩
       refine ⟨_,_,_,_,_,_,_,_,_,_,_,_,_,rfl, ?_⟩
       rintro g1 _ hg1 rfl
       have hng:hole h5 g g1=none:=by
        unfold Go.Proofs.YtfglcgbgaeegaaaGreatDoor.hole;split
        ·rfl
        ·exact hg1
       have hl5:Le (hole h g) (hole h5 g):=(hle2.trans (by rw [<- ho3,<- ho4];exact hle5))
       refine ⟨m,by omega, ?_,Or.inl ⟨he,heq.symm⟩⟩
       by_cases e1:g1=g
       ·subst e1;rw [hole_put];exact hl5
       ·rw [hole_put_ne _ _ e1];exact hl5.trans (Le.new hng _)
      | ok p=>
       obtain ⟨z,r3⟩:=p
       rw [ho5] at heq hs2
       simp only at heq
       refine (hs2 (by intro q;cases q)).mono ?_
       rintro _ h5 ⟨hle5,vs5,rfl,uz,zz,hp5⟩
       have uz' := uz
       obtain ⟨s5,A5,c5,B5,d5,K5,kc5,rfl,_,_,_⟩:=uz'.open
       refine ⟨_,_,_,_,_,_,_,_,_,_,_,_,_,rfl, ?_⟩
       rintro g1 _ hg1 rfl
       have hgg:g1≠g:=fun e=>by
        obtain ⟨_,_,_,hb⟩:=hp5
        rw [e,hb] at hg1;cases hg1
       have hng:hole h5 g g1=none:=by rw [hole_ne _ hgg];exact hg1
       have hl25:Le (hole h2 g) (hole h5 g):=by rw [<- ho3,<- ho4];exact hle5
       refine ⟨m,by omega, ?_,Or.inr ⟨rfl,by omega,op2 kd y z,r3,heq, ?_,Szs_two zy zz, ?_⟩⟩
       ·rw [hole_put_ne _ _ hgg]
        exact (hle2.trans hl25).trans (Le.new hng _)
       ·rw [hole_put_ne _ _ hgg]
        exact IsE_two hng (IsE.mono hl25 _ _ uy) uz
       ·obtain ⟨pre,ty,hlr,hb⟩:=hp5
        exact ⟨pre,ty,hlr,by rw [Heap.put_ne _ _ (fun e=>hgg e.symm)];exact hb⟩
     refine ⟨fun kd _ _ _ _ _ _ _ _ _ _ _ _ h3=>Ps h3 g l (skipS r2)/\hole h3 g=hole h2 g/\tk r2≠[]/\(match pFac m (aft r2) with | .error e=> .error e | .ok (z,r')=>pProdL m (op2 kd y z) r')=pProdL n x r1, ?_, ?_⟩
     ·rintro kd _ _ _ _ _ _ _ _ _ _ _ _ h3 ⟨a1,a2,a3,a4⟩
      exact go kd h3 a1 a2 a3 a4
     ·refine (foNext_c hp2 (by omega)).mono ?_
      rintro _ h3 ⟨rfl,hp3,ho3⟩
      have b1:(⟨#[42]⟩:ByteArray).toList=[42]:=bytes_toList _
      have b2:(⟨#[47]⟩:ByteArray).toList=[47]:=bytes_toList _
      refine ⟨_,rfl, ?_⟩
      rw [bytes_toList,b1,b2]
      refine Br.mk (fun q1=> ?_) (fun q1=>Br.mk (fun q2=> ?_) (fun q2=> ?_))
      ·have e1:=beq_iff_eq.1 q1
       rw [if_pos e1] at hy
       exact ⟨hp3,ho3,by rw [e1];simp,hy⟩
      ·have e1:=beq_eq_false_iff_ne.1 q1
       have e2:=beq_iff_eq.1 q2
       rw [if_neg e1,if_pos e2] at hy
       exact ⟨hp3,ho3,by rw [e2];simp,hy⟩
      ·have e1:=beq_eq_false_iff_ne.1 q1
       have e2:=beq_eq_false_iff_ne.1 q2
       rw [if_neg e1,if_neg e2] at hy
       rw [<- hy]
       exact ⟨by rw [ho3];exact hle2,_,rfl,by rw [ho3];exact uy,zy,hp3⟩
  ·rcases hcase with ⟨h0,hy⟩ | ⟨h0,_⟩
   ·rw [hy]
    exact ⟨hle2,h0,rfl⟩
   ·rw [h0] at q;exact absurd q (by decide)
theorem foSum_step {n:Nat} (ih : ∀ k,k<=n->MOk 222 ptr (pProd k)):MOk 165 ptr (pSum (n+1)):=by
 intro h g l r u hl hne
 rw [pSum] at hne ⊢
 apply garment_formula_parser_sum_ok
 have hsub:=ih n (Nat.le_refl _) (r:=r) u hl
 cases ho:pProd n r with
 | error e=>
  rw [ho] at hne
  rw [ho] at hsub
  refine (hsub hne).mono ?_
  rintro _ h1 ⟨hle,he,rfl⟩
  refine ⟨_,_,_,_,_,_,_,_,_,_,_,_,_,rfl,fun m err _ _ _ _ _ _ _ _ _ _ _ _ _ _ _ _ _ _ _ _ _ _ _ _ h' => err=e/\h' = h1,⟨0,rfl,rfl⟩, ?_⟩
  rintro m _ _ _ _ _ _ _ _ _ _ _ _ _ _ _ _ _ _ _ _ _ _ _ _ _ _ ⟨rfl,rfl⟩
  refine Br.mk (fun q=>absurd (beq_iff_eq.1 q) he) (fun _=>⟨hle,he,rfl⟩)
 | ok p=>
  obtain ⟨x,r1⟩:=p
  rw [ho] at hne
  rw [ho] at hsub
  simp only at hne ⊢
  refine (hsub (by intro q;cases q)).mono ?_
  rintro _ h1 ⟨hle,vs,rfl,ux,zx,hp⟩
  have ux' := ux
  obtain ⟨s0,A0,c0,B0,d0,K0,kc0,rfl,_,_,_⟩:=ux'.open
  refine ⟨_,_,_,_,_,_,_,_,_,_,_,_,_,rfl,fun m err _ _ _ _ _ _ _ _ _ _ _ _ l0 l1 l2A l2n l2c l3A l3n l3c l4 l5A l5n l5c h' => Le (hole h g) (hole h' g)/\((err≠0/\pSumL n x r1 = .error err)\/(err=0/\m<=n/\ ∃ y r2,pSumL m y r2=pSumL n x r1/\IsE (hole h' g) y [.int .i64 l0,.bool l1,.slice l2A l2n l2c,.slice l3A l3n l3c,.string l4,.slice l5A l5n l5c]/\Szs y/\Ps h' g l r2)),⟨n,hle,Or.inr ⟨rfl,Nat.le_refl _,x,r1,rfl,ux,zx,hp⟩⟩, ?_⟩
  rintro m err _ _ _ _ _ _ _ _ _ _ _ _ l0 l1 l2A l2n l2c l3A l3n l3c l4 l5A l5n l5c h2 ⟨hle2,hcase⟩
  refine Br.mk (fun q=> ?_) (fun q=> ?_)
  ·rcases hcase with ⟨h0,_⟩ | ⟨_,hm,y,r2,hy,uy,zy,hp2⟩
   ·exact absurd (beq_iff_eq.1 q) h0
   ·cases m with
    | zero=>rw [pSumL] at hy;exact absurd hy.symm hne
    | succ m=>
     rw [<- hy] at hne
     rw [pSumL] at hy hne
     have go : ∀ (kd:Int) (h3:Heap),Ps h3 g l (skipS r2)->hole h3 g=hole h2 g->tk r2≠[]->(match pProd m (aft r2) with | .error e=> .error e | .ok (z,r')=>pSumL m (op2 kd y z) r')=pSumL n x r1->
      CallsU Tryz.prog 223 (ptr g) h3 fun v_1 h_4=>
       ∃ t23:ByteArray,v_1=Value.string t23/\
       CallsU Tryz.prog 222 (ptr g) h_4 fun v_2 h_5=>
       ∃ t26_0_0:Int,∃ t26_0_1:Bool,∃ t26_0_2A:Option Addr,∃ t26_0_2n t26_0_2c:Nat,∃ t26_0_3A:Option Addr,∃ t26_0_3n t26_0_3c:Nat,∃ t26_0_4:ByteArray,∃ t26_0_5A:Option Addr,∃ t26_0_5n t26_0_5c:Nat,∃ t26_1:Int,v_2=Value.tuple #[Value.agg #[Value.int .i64 t26_0_0,Value.bool t26_0_1,Value.slice t26_0_2A t26_0_2n t26_0_2c,Value.slice t26_0_3A t26_0_3n t26_0_3c,Value.string t26_0_4,Value.slice t26_0_5A t26_0_5n t26_0_5c],Value.int .i64 t26_1]/\
       ∀ (g_1:Nat) (h_6:Heap),h_5 g_1=none->h_6=Heap.put h_5 g_1 ⟨[Value.int .i64 l0,Value.bool l1,Value.slice l2A l2n l2c,Value.slice l3A l3n l3c,Value.string l4,Value.slice l5A l5n l5c,Value.int .i64 t26_0_0,Value.bool t26_0_1,Value.slice t26_0_2A t26_0_2n t26_0_2c,Value.slice t26_0_3A t26_0_3n t26_0_3c,Value.string t26_0_4,Value.slice t26_0_5A t26_0_5n t26_0_5c],39,(0,0)⟩->
       ∃ m_1,m_1<m+1/\Le (hole h g) (hole h_6 g)/\((t26_1≠0/\pSumL n x r1 = .error t26_1)\/(t26_1=0/\m_1<=n/\ ∃ y r2,pSumL m_1 y r2=pSumL n x r1/\IsE (hole h_6 g) y [.int .i64 kd,.bool false,.slice none 0 0,.slice none 0 0,.string ByteArray.empty,.slice (some ⟨g_1,0,none⟩) 2 2]/\Szs y/\Ps h_6 g l r2)):=by
      intro kd h3 hp3 ho3 htk heq
      refine (foTake_c hp3 (by omega)).mono ?_
      rintro _ h4 ⟨rfl,hp4,ho4⟩
      have ea:aft (skipS r2)=aft r2:=by unfold aft tk;rw [skip_skip]
      rw [ea] at hp4
      refine ⟨_,rfl, ?_⟩
      have hs2:=ih m (by omega) (r:=aft r2) hp4 hl
      cases ho5:pProd m (aft r2) with
      | error e=>
       rw [ho5] at heq hs2
       simp only at heq
       refine (hs2 (by intro q;rw [q] at heq;exact absurd heq.symm (by rw [hy] at hne;exact hne))).mono ?_
       rintro _ h5 ⟨hle5,he,rfl⟩
       refine ⟨_,_,_,_,_,_,_,_,_,_,_,_,_,rfl, ?_⟩
       rintro g1 _ hg1 rfl
       have hng:hole h5 g g1=none:=by
        unfold Go.Proofs.YtfglcgbgaeegaaaGreatDoor.hole;split
        ·rfl
        ·exact hg1
       have hl5:Le (hole h g) (hole h5 g):=(hle2.trans (by rw [<- ho3,<- ho4];exact hle5))
       refine ⟨m,by omega, ?_,Or.inl ⟨he,heq.symm⟩⟩
       by_cases e1:g1=g
       ·subst e1;rw [hole_put];exact hl5
       ·rw [hole_put_ne _ _ e1];exact hl5.trans (Le.new hng _)
      | ok p=>
       obtain ⟨z,r3⟩:=p
       rw [ho5] at heq hs2
       simp only at heq
       refine (hs2 (by intro q;cases q)).mono ?_
       rintro _ h5 ⟨hle5,vs5,rfl,uz,zz,hp5⟩
       have uz' := uz
       obtain ⟨s5,A5,c5,B5,d5,K5,kc5,rfl,_,_,_⟩:=uz'.open
       refine ⟨_,_,_,_,_,_,_,_,_,_,_,_,_,rfl, ?_⟩
       rintro g1 _ hg1 rfl
       have hgg:g1≠g:=fun e=>by
        obtain ⟨_,_,_,hb⟩:=hp5
        rw [e,hb] at hg1;cases hg1
       have hng:hole h5 g g1=none:=by rw [hole_ne _ hgg];exact hg1
       have hl25:Le (hole h2 g) (hole h5 g):=by rw [<- ho3,<- ho4];exact hle5
       refine ⟨m,by omega, ?_,Or.inr ⟨rfl,by omega,op2 kd y z,r3,heq, ?_,Szs_two zy zz, ?_⟩⟩
       ·rw [hole_put_ne _ _ hgg]
        exact (hle2.trans hl25).trans (Le.new hng _)
       ·rw [hole_put_ne _ _ hgg]
        exact IsE_two hng (IsE.mono hl25 _ _ uy) uz
       ·obtain ⟨pre,ty,hlr,hb⟩:=hp5
        exact ⟨pre,ty,hlr,by rw [Heap.put_ne _ _ (fun e=>hgg e.symm)];exact hb⟩
     refine ⟨fun kd _ _ _ _ _ _ _ _ _ _ _ _ h3=>Ps h3 g l (skipS r2)/\hole h3 g=hole h2 g/\tk r2≠[]/\(match pProd m (aft r2) with | .error e=> .error e | .ok (z,r')=>pSumL m (op2 kd y z) r')=pSumL n x r1, ?_, ?_⟩
     ·rintro kd _ _ _ _ _ _ _ _ _ _ _ _ h3 ⟨a1,a2,a3,a4⟩
      exact go kd h3 a1 a2 a3 a4
     ·refine (foNext_c hp2 (by omega)).mono ?_
      rintro _ h3 ⟨rfl,hp3,ho3⟩
      have b1:(⟨#[43]⟩:ByteArray).toList=[43]:=bytes_toList _
      have b2:(⟨#[45]⟩:ByteArray).toList=[45]:=bytes_toList _
      refine ⟨_,rfl, ?_⟩
      rw [bytes_toList,b1,b2]
      refine Br.mk (fun q1=> ?_) (fun q1=>Br.mk (fun q2=> ?_) (fun q2=> ?_))
      ·have e1:=beq_iff_eq.1 q1
       rw [if_pos e1] at hy
       exact ⟨hp3,ho3,by rw [e1];simp,hy⟩
      ·have e1:=beq_eq_false_iff_ne.1 q1
       have e2:=beq_iff_eq.1 q2
       rw [if_neg e1,if_pos e2] at hy
       exact ⟨hp3,ho3,by rw [e2];simp,hy⟩
      ·have e1:=beq_eq_false_iff_ne.1 q1
       have e2:=beq_eq_false_iff_ne.1 q2
       rw [if_neg e1,if_neg e2] at hy
       rw [<- hy]
       exact ⟨by rw [ho3];exact hle2,_,rfl,by rw [ho3];exact uy,zy,hp3⟩
  ·rcases hcase with ⟨h0,hy⟩ | ⟨h0,_⟩
   ·rw [hy]
    exact ⟨hle2,h0,rfl⟩
   ·rw [h0] at q;exact absurd q (by decide)
def KO (h0 h:Heap) (g:Nat) (A:Option Addr) (n c:Nat) (es:List Ex):Prop:=
 es.length=n/\SzsL es/\((A=none/\n=0/\c=0)\/ ∃ gk cs,h0 gk=none/\gk≠g/\A=some ⟨gk,0,none⟩/\h gk=some ⟨cs,39,(0,0)⟩/\cs.length=6*c/\n<=c/\IsEs (hole (hole h g) gk) es cs)
theorem IsEs.take {h:Heap} : ∀ {es:List Ex} {cs:List Value},IsEs h es cs->IsEs h es (cs.take (6*es.length))
 | [],cs,_=>by unfold IsEs;trivial
 | e::es,cs,u=>by
  unfold IsEs at u ⊢
  rw [List.length_cons,show 6*(es.length+1)=6+6*es.length by omega]
  refine ⟨by rw [List.take_take,Nat.min_eq_left (by omega)];exact u.1, ?_⟩
  rw [List.drop_take,show 6+6*es.length-6=6*es.length by omega]
  exact IsEs.take u.2
theorem repV_six (k:Nat):(repV zE k).length=6*k:=by
 induction k with
 | zero=>rfl
 | succ k ih=>rw [repV,List.length_append,ih];simp;omega
theorem lmb_le (v:Nat):lmb v<=2:=by unfold lmb;split<;>(try split)<;>omega
def cutA (h:Heap):Option Addr->Heap
 | none=>h
 | some a=>hole h a.block
theorem cutA_le (h:Heap) (A:Option Addr):Le (cutA h A) h:=by
 cases A with
 | none=>exact Le.refl _
 | some a=>exact hole_le _ _
theorem foKid_c {n:Nat} (ih:MOk 165 ptr (pSum n)) {h:Heap} {g:Nat} {l r:List UInt8} (h0:Heap) (A:Option Addr) (k c:Nat) (es:List Ex) (u:Ps h g l r) (hl:l.length<=400) (hne:pSum n r ≠ .error 99) (ko:KO h0 h g A k c es) :
  CallsU Tryz.prog 165 (ptr g) h fun v h' => Le (hole h g) (hole h' g)/\match pSum n r with
   | .error e=>e≠0/\v = .tuple #[.agg zE.toArray,.int .i64 e]
   | .ok (x,rest)=> ∃ vs:List Value,v = .tuple #[.agg vs.toArray,.int .i64 0]/\IsE (cutA (hole h' g) A) x vs/\Szs x/\Ps h' g l rest/\KO h0 h' g A k c es:=by
 obtain ⟨k1,k2,k3⟩:=ko
 rcases k3 with ⟨rfl,rfl,rfl⟩ | ⟨gk,cs,hg0,hgk,rfl,hb,hcl,hkc,hes⟩
 ·refine (ih u hl hne).mono ?_
  rintro v h' ⟨hle,hm⟩
  refine ⟨hle, ?_⟩
  cases ho:pSum n r with
  | error e=>rw [ho] at hm;exact hm
  | ok p=>
   obtain ⟨x,r'⟩:=p
   rw [ho] at hm
   obtain ⟨vs,hv,ux,zx,hp⟩:=hm
   exact ⟨vs,hv,ux,zx,hp,k1,k2,Or.inl ⟨rfl,rfl,rfl⟩⟩
 ·have u0:Ps (hole h gk) g l r:=by
   obtain ⟨pre,ty,e1,e2⟩:=u
   exact ⟨pre,ty,e1,by rw [hole_ne _ (fun e=>hgk e.symm)];exact e2⟩
  have fr:=(ih u0 hl hne).frame (g:=gk) (b:=⟨cs,39,(0,0)⟩) (hole_at h gk)
  rw [put_hole hb] at fr
  refine fr.mono ?_
  rintro v _ ⟨h1,⟨hle,hm⟩,h1k,rfl⟩
  have hx:hole (h1.put gk ⟨cs,39,(0,0)⟩) g=(hole h1 g).put gk ⟨cs,39,(0,0)⟩:=hole_put_ne _ _ hgk
  have h1n:hole h1 g gk=none:=by rw [hole_ne _ hgk];exact h1k
  have hcut:hole ((hole h1 g).put gk ⟨cs,39,(0,0)⟩) gk=hole h1 g:=by rw [hole_put,hole_none h1n]
  refine ⟨?_, ?_⟩
  ·rw [hx]
   intro j b hj
   by_cases e:j=gk
   ·subst e
    rw [hole_ne _ hgk,hb] at hj
    cases hj
    rw [Heap.put_same]
   ·rw [Heap.put_ne _ _ e]
    apply hle
    by_cases e2:j=g
    ·subst e2;rw [hole_at] at hj;cases hj
    ·rw [hole_ne _ e2] at hj ⊢
     rw [hole_ne _ e];exact hj
  ·cases ho:pSum n r with
   | error e=>rw [ho] at hm;exact hm
   | ok p=>
    obtain ⟨x,r'⟩:=p
    rw [ho] at hm
    obtain ⟨vs,hv,ux,zx,hp⟩:=hm
    refine ⟨vs,hv, ?_,zx, ?_,k1,k2,Or.inr ⟨gk,cs,hg0,hgk,rfl,Heap.put_same _ _ _,hcl,hkc, ?_⟩⟩
    ·show IsE (hole (hole (h1.put gk _) g) gk) x vs
     rw [hx,hcut];exact ux
    ·obtain ⟨pre,ty,e1,e2⟩:=hp
     exact ⟨pre,ty,e1,by rw [Heap.put_ne _ _ (fun e=>hgk e.symm)];exact e2⟩
    ·rw [hx,hcut]
     refine IsEs.mono ?_ _ _ hes
     rw [hole_comm];exact hle
theorem foCall_step {n:Nat} (kd:Int) (ih : ∀ k,k<=n->MOk 165 ptr (pSum k)):MOk 278 (fun g=>[.pointer (some ⟨g,0,none⟩),.int .i64 kd]) (pCall (n+1) kd):=by
 intro h g l r u hl hne
 rw [pCall] at hne ⊢
 apply garment_formula_parser_call_ok
 refine (foExpect_c [40] u (by omega)).mono ?_
 rintro _ h1 ⟨rfl,hp,ho⟩
 refine ⟨_,rfl,Br.mk (fun q=> ?_) (fun q=> ?_)⟩
 ·have h0:expV [40] r≠0:=by simpa using q
  rw [if_neg h0]
  exact ⟨by rw [ho];exact Le.refl _,h0,rfl⟩
 ·have h0:expV [40] r=0:=by simpa using q
  rw [if_pos h0] at hne ⊢
  generalize hr:aft r=r1 at *
  refine ⟨fun m A k c _ _ _ _ _ _ _ _ _ _ _ _ h' => ∃ es r2,m<=n/\pCallL m kd es r2=pCallL n kd [] r1/\KO h h' g A k c es/\k<8/\Ps h' g l r2/\Le (hole h g) (hole h' g),⟨n,[],r1,Nat.le_refl _,rfl,⟨rfl,by unfold SzsL;trivial,Or.inl ⟨rfl,rfl,rfl⟩⟩,by omega,hp,by rw [ho];exact Le.refl _⟩, ?_⟩
  rintro m A k c _ _ _ _ _ _ _ _ _ _ _ _ h2 ⟨es,r2,hm,heq,ko,hk8,hp2,hle2⟩
  cases m with
  | zero=>rw [pCallL] at heq;exact absurd heq.symm hne
  | succ m=>
   rw [<- heq] at hne
   rw [pCallL] at heq hne
   have kc:=foKid_c (ih m (by omega)) (r:=r2) h A k c es hp2 hl
   cases ho5:pSum m r2 with
   | error e=>
    rw [ho5] at heq hne kc
    simp only at heq hne
    refine (kc hne ko).mono ?_
    rintro _ h3 ⟨hle3,he,rfl⟩
    refine ⟨_,_,_,_,_,_,_,_,_,_,_,_,_,rfl,Br.mk (fun _=> ?_) (fun q=>by rw [bne_eq_false_iff_eq] at q;exact absurd q he)⟩
    rw [<- heq]
    exact ⟨hle2.trans hle3,he,rfl⟩
   | ok p=>
    obtain ⟨x,r3⟩:=p
    rw [ho5] at heq hne kc
    simp only at heq hne
    refine (kc (by intro q;cases q) ko).mono ?_
    rintro _ h3 ⟨hle3,vs,rfl,ux,zx,hp3,ko3⟩
    have ux' := ux
    have hvl:=ux.len
    obtain ⟨s3,A3,c3,B3,d3,K3,kc3,hvs,_,_,_⟩:=ux'.open
    subst hvs
    refine ⟨_,_,_,_,_,_,_,_,_,_,_,_,_,rfl,Br.mk (fun q=>by exact absurd q (by decide)) (fun _=> ?_)⟩
    refine ⟨fun A' k' c' h' => KO h h' g A' k' c' (es++[x])/\k' = k+1/\Ps h' g l r3/\Le (hole h g) (hole h' g)/\A' ≠ none, ?_, ?_⟩
    ·rintro A' k' c' h4 ⟨ko4,rfl,hp4,hle4,hA'⟩
     refine (foTake_c hp4 (by omega)).mono ?_
     rintro _ h5 ⟨rfl,hp5,ho5⟩
     have hle5:Le (hole h g) (hole h5 g):=by rw [ho5];exact hle4
     have b1:(⟨#[41]⟩:ByteArray).toList=[41]:=bytes_toList _
     have b2:(⟨#[44]⟩:ByteArray).toList=[44]:=bytes_toList _
     have b0:(⟨#[]⟩:ByteArray).toList=[]:=bytes_toList []
     have hlen:=ko4.1
     rw [List.length_append,List.length_singleton] at hlen
     have ko5:KO h h5 g A' (k+1) c' (es++[x]):=by
      obtain ⟨a1,a2,a3⟩:=ko4
      refine ⟨a1,a2, ?_⟩
      rcases a3 with a3 | ⟨gk,cs,b0', b1,b2,b3,b4,b5,b6⟩
      ·exact Or.inl a3
      ·refine Or.inr ⟨gk,cs,b0', b1,b2, ?_,b4,b5,by rw [ho5];exact b6⟩
       have:=congrFun ho5 gk
       rw [hole_ne _ b1,hole_ne _ b1] at this
       rw [this];exact b3
     refine ⟨_,rfl, ?_⟩
     rw [bytes_toList,b1,b2,b0]
     refine Br.mk (fun q1=> ?_) (fun q1=>Br.mk (fun q2=> ?_) (fun q2=>Br.mk (fun q3=> ?_) (fun q3=>Br.mk (fun q4=> ?_) (fun q4=> ?_))))
     ·rw [if_pos (beq_iff_eq.1 q1)] at heq
      rw [<- heq]
      obtain ⟨a1,a2,a3⟩:=ko5
      rcases a3 with ⟨a3,_⟩ | ⟨gk,cs,b0', b1,b2,b3,b4,b5,b6⟩
      ·exact absurd a3 hA'
      ·subst b2
       refine ⟨hle5,_,rfl, ?_, ?_,hp5⟩
       ·have e1:=IsE_op (h:=hole h5 g) (k:=kd) (es:=es++[x]) (gk:=gk) (c:=c') (ty:=39) (cs:=cs) (by rw [hole_ne _ b1];exact b3) (by omega) (by omega) (IsEs.mono (hole_le _ _) _ _ b6)
        rw [a1] at e1
        exact e1
       ·unfold Szs
        exact ⟨by omega,by omega,by simp,by omega,a2⟩
     ·rw [if_neg (beq_eq_false_iff_ne.1 q1),if_pos (beq_iff_eq.1 q2)] at heq
      rw [<- heq]
      exact ⟨hle5,by decide,rfl⟩
     ·have h3:tk r3≠[44]:=by simpa using q3
      rw [if_neg (beq_eq_false_iff_ne.1 q1),if_neg (beq_eq_false_iff_ne.1 q2),if_pos h3] at heq
      rw [<- heq]
      exact ⟨hle5,by decide,rfl⟩
     ·have h3:tk r3=[44]:=by simpa using q3
      have h4:es.length+1=8:=by have:=beq_iff_eq.1 q4;omega
      rw [if_neg (beq_eq_false_iff_ne.1 q1),if_neg (beq_eq_false_iff_ne.1 q2),if_neg (by simp [h3]),if_pos h4] at heq
      rw [<- heq]
      exact ⟨hle5,by decide,rfl⟩
     ·have h3:tk r3=[44]:=by simpa using q3
      have h4:es.length+1≠8:=by have:=beq_eq_false_iff_ne.1 q4;omega
      rw [if_neg (beq_eq_false_iff_ne.1 q1),if_neg (beq_eq_false_iff_ne.1 q2),if_neg (by simp [h3]),if_neg h4] at heq
      exact ⟨m,by omega,es++[x],aft r3,by omega,heq,ko5,by omega,hp5,hle5⟩
    ·rintro g6 _ hg6 rfl
     obtain ⟨a1,a2,a3⟩:=ko3
     have hgg:g6≠g:=fun e=>by
      obtain ⟨_,_,_,hb⟩:=hp3
      rw [e,hb] at hg6;cases hg6
     refine ⟨cellsE x.kind s3 A3 x.ln c3 B3 x.lm d3 x.name K3 x.kids.length kc3,⟨rfl,fun _=>⟨_,rfl,rfl,_,Heap.put_same _ _ _,rfl⟩⟩, ?_, ?_, ?_⟩
     ·intro y hy
      simp only [cellsE,List.mem_cons,List.not_mem_nil,or_false] at hy
      rcases hy with rfl | rfl | rfl | rfl | rfl | rfl<;>rfl
     ·intro hcap
      rcases a3 with ⟨_,_,rfl⟩ | ⟨gk,cs,b0', b1,rfl,b3,b4,b5,b6⟩
      ·omega
      ·have hg6k:g6≠gk:=fun e=>by rw [e,b3] at hg6;cases hg6
       refine ⟨_,_,rfl,rfl,by rw [Heap.put_ne _ _ (fun e=>hg6k e.symm)];exact b3,rfl,by simp only;omega, ?_⟩
       rintro _ rfl
       have hx1 : ∀ B6 B7:Blk,hole ((h3.put g6 B6).put gk B7) g=((hole h3 g).put g6 B6).put gk B7:=fun B6 B7=>by
        rw [hole_put_ne _ _ b1,hole_put_ne _ _ hgg]
       have hn6:hole h3 g g6=none:=by rw [hole_ne _ hgg];exact hg6
       refine ⟨⟨by rw [List.length_append];simp;omega,SzsL.snoc a2 zx,Or.inr ⟨gk,setSeg cs (0+k*6) (cellsE x.kind s3 A3 x.ln c3 B3 x.lm d3 x.name K3 x.kids.length kc3),b0', b1,rfl,Heap.put_same _ _ _, ?_,hcap, ?_⟩⟩,rfl, ?_, ?_,by simp⟩
       ·unfold setSeg
        rw [List.length_append,List.length_append,List.length_take,List.length_drop,cellsE_len]
        omega
       ·refine IsEs.mono (h:=(hole (hole h3 g) gk).put g6 ⟨cellsE x.kind s3 A3 x.ln c3 B3 x.lm d3 x.name K3 x.kids.length kc3,39,(0,0)⟩) ?_ _ _ ?_
        ·rw [hx1,hole_put,hole_put_ne _ _ hg6k]
         exact Le.refl _
        ·have hn7:hole (hole h3 g) gk g6=none:=by rw [hole_ne _ hg6k];exact hn6
         have l7:=Le.new hn7 ⟨cellsE x.kind s3 A3 x.ln c3 B3 x.lm d3 x.name K3 x.kids.length kc3,39,(0,0)⟩
         have:=IsEs.snoc (rest:=cs.drop (0+k*6+(cellsE x.kind s3 A3 x.ln c3 B3 x.lm d3 x.name K3 x.kids.length kc3).length)) (IsEs.mono l7 _ _ b6) (by omega) (IsE.mono l7 _ _ ux)
         unfold setSeg
         rw [show 0+k*6=6*es.length by omega] at this ⊢
         exact this
       ·obtain ⟨pre,ty,e1,e2⟩:=hp3
        exact ⟨pre,ty,e1,by rw [Heap.put_ne _ _ (fun e=>b1 e.symm),Heap.put_ne _ _ (fun e=>hgg e.symm)];exact e2⟩
       ·rw [hx1]
        refine Le.put ?_ (by rw [hole_ne _ b1];exact b0') _
        exact (hle2.trans hle3).trans (Le.new hn6 _)
     ·intro hcap
      have hn6:hole h3 g g6=none:=by rw [hole_ne _ hgg];exact hg6
      have hk6:k*6=6*es.length:=by omega
      have holds : ∃ olds:List Value,RdS (h3.put g6 ⟨cellsE x.kind s3 A3 x.ln c3 B3 x.lm d3 x.name K3 x.kids.length kc3,39,(0,0)⟩) A (k*6) olds/\IsEs (hole h3 g) es olds/\olds.length=6*es.length:=by
       rcases a3 with ⟨rfl,rfl,rfl⟩ | ⟨gk,cs,b0', b1,rfl,b3,b4,b5,b6⟩
       ·have:es=[]:=List.length_eq_zero_iff.1 a1
        subst this
        exact ⟨[],⟨rfl,fun q=>absurd q (by decide)⟩,by unfold IsEs;trivial,rfl⟩
       ·have hg6k:g6≠gk:=fun e=>by rw [e,b3] at hg6;cases hg6
        refine ⟨cs.take (6*es.length),⟨by rw [List.length_take];omega,fun _=>⟨_,rfl,rfl,_,by rw [Heap.put_ne _ _ (fun e=>hg6k e.symm)];exact b3, ?_⟩⟩, ?_,by rw [List.length_take];omega⟩
        ·simp only [List.drop_zero,List.length_take]
         congr 1
         omega
        ·exact IsEs.take (IsEs.mono (hole_le _ _) _ _ b6)
      obtain ⟨olds,hrd,hes,hol⟩:=holds
      refine ⟨olds,hrd,by omega, ?_⟩
      rintro g7 cap _ hg7 hcap7 rfl
      have hg76:g7≠g6:=fun e=>by rw [e,Heap.put_same] at hg7;cases hg7
      rw [Heap.put_ne _ _ hg76] at hg7
      have hgg7:g7≠g:=fun e=>by
       obtain ⟨_,_,_,hb⟩:=hp3
       rw [e,hb] at hg7;cases hg7
      have h07:h g7=none:=by
       cases hh:h g7 with
       | none=>rfl
       | some bb=>
        have:=(hle2.trans hle3) g7 bb (by rw [hole_ne _ hgg7];exact hh)
        rw [hole_ne _ hgg7,hg7] at this
        cases this
      have hx1 : ∀ B6 B7:Blk,hole ((h3.put g6 B6).put g7 B7) g=((hole h3 g).put g6 B6).put g7 B7:=fun B6 B7=>by
       rw [hole_put_ne _ _ hgg7,hole_put_ne _ _ hgg]
      refine ⟨⟨by rw [List.length_append];simp;omega,SzsL.snoc a2 zx,Or.inr ⟨g7,_,h07,hgg7,rfl,Heap.put_same _ _ _, ?_,hcap7, ?_⟩⟩,rfl, ?_, ?_,by simp⟩
      ·rw [List.length_append,List.length_append,hol,cellsE_len,repV_six]
       omega
      ·rw [hx1,hole_put,hole_none (by rw [Heap.put_ne _ _ hg76,hole_ne _ hgg7];exact hg7)]
       have l7:=Le.new hn6 ⟨cellsE x.kind s3 A3 x.ln c3 B3 x.lm d3 x.name K3 x.kids.length kc3,39,(0,0)⟩
       have:=IsEs.snoc (rest:=repV zE (cap-(k+1))) (IsEs.mono l7 _ _ hes) (by omega) (IsE.mono (cutA_le _ _) _ _ ux |> IsE.mono l7 _ _)
       rw [List.take_of_length_le (by omega)] at this
       exact this
      ·obtain ⟨pre,ty,e1,e2⟩:=hp3
       exact ⟨pre,ty,e1,by rw [Heap.put_ne _ _ (fun e=>hgg7 e.symm),Heap.put_ne _ _ (fun e=>hgg e.symm)];exact e2⟩
      ·rw [hx1]
       refine Le.put ?_ (by rw [hole_ne _ hgg7];exact h07) _
       exact (hle2.trans hle3).trans (Le.new hn6 _)
theorem foFac_step {n:Nat} (ihF:MOk 256 ptr (pFac n)) (ihS:MOk 165 ptr (pSum n)) (ihC : ∀ kd:Int,MOk 278 (fun g=>[.pointer (some ⟨g,0,none⟩),.int .i64 kd]) (pCall n kd)):MOk 256 ptr (pFac (n+1)):=by
 intro h g l r u hl hne
 rw [pFac] at hne ⊢
 apply garment_formula_parser_factor_ok
 refine (foTake_c u (by omega)).mono ?_
 rintro _ h1 ⟨rfl,hp,ho⟩
 have hle1:Le (hole h g) (hole h1 g):=by rw [ho];exact Le.refl _
 have b0:(⟨#[]⟩:ByteArray).toList=[]:=bytes_toList []
 have b1:(⟨#[45]⟩:ByteArray).toList=[45]:=bytes_toList _
 have b2:(⟨#[40]⟩:ByteArray).toList=[40]:=bytes_toList _
 have b3:(⟨#[109,105,110]⟩:ByteArray).toList=[109,105,110]:=bytes_toList _
 have b4:(⟨#[109,97,120]⟩:ByteArray).toList=[109,97,120]:=bytes_toList _
 refine ⟨_,rfl, ?_⟩
 rw [bytes_toList,b0,b1,b2,b3,b4]
 refine Br.mk (fun q0=> ?_) (fun q0=> ?_)
 ·rw [if_pos (beq_iff_eq.1 q0)]
  exact ⟨hle1,by decide,rfl⟩
 rw [if_neg (beq_eq_false_iff_ne.1 q0)] at hne ⊢
 refine Br.mk (fun q1=> ?_) (fun q1=> ?_)
 ·rw [if_pos (beq_iff_eq.1 q1)] at hne ⊢
  have hs:=ihF hp hl
  cases hoo:pFac n (aft r) with
  | error e=>
   rw [hoo] at hne hs
   simp only at hne
   refine (hs hne).mono ?_
   rintro _ h2 ⟨hle2,he,rfl⟩
   refine ⟨_,_,_,_,_,_,_,_,_,_,_,_,_,rfl,Br.mk (fun _=>⟨hle1.trans hle2,he,rfl⟩) (fun q=>by rw [bne_eq_false_iff_eq] at q;exact absurd q he)⟩
  | ok p=>
   obtain ⟨x,r'⟩:=p
   rw [hoo] at hne hs
   simp only at hne
   refine (hs (by intro q;cases q)).mono ?_
   rintro _ h2 ⟨hle2,vs,rfl,ux,zx,hp2⟩
   have ux' := ux
   obtain ⟨s3,A3,c3,B3,d3,K3,kc3,rfl,_,_,_⟩:=ux'.open
   refine ⟨_,_,_,_,_,_,_,_,_,_,_,_,_,rfl,Br.mk (fun q=>by exact absurd q (by decide)) (fun _=> ?_)⟩
   rintro g1 _ hg1 rfl
   have hgg:g1≠g:=fun e=>by
    obtain ⟨_,_,_,hb⟩:=hp2
    rw [e,hb] at hg1;cases hg1
   have hng:hole h2 g g1=none:=by rw [hole_ne _ hgg];exact hg1
   refine ⟨?_,_,rfl, ?_, ?_, ?_⟩
   ·rw [hole_put_ne _ _ hgg]
    exact (hle1.trans hle2).trans (Le.new hng _)
   ·rw [hole_put_ne _ _ hgg]
    refine IsE_op (es:=[x]) (Heap.put_same _ _ _) (by simp) (by simp) ?_
    unfold IsEs
    exact ⟨IsE.mono (Le.new hng _) _ _ ux,by unfold IsEs;trivial⟩
   ·unfold Szs SzsL SzsL
    exact ⟨by omega,by omega,by simp,by simp,zx,trivial⟩
   ·obtain ⟨pre,ty,hlr,hb⟩:=hp2
    exact ⟨pre,ty,hlr,by rw [Heap.put_ne _ _ (fun e=>hgg e.symm)];exact hb⟩
 rw [if_neg (beq_eq_false_iff_ne.1 q1)] at hne ⊢
 refine Br.mk (fun q2=> ?_) (fun q2=> ?_)
 ·rw [if_pos (beq_iff_eq.1 q2)] at hne ⊢
  have hs:=ihS hp hl
  cases hoo:pSum n (aft r) with
  | error e=>
   rw [hoo] at hne hs
   simp only at hne
   refine (hs hne).mono ?_
   rintro _ h2 ⟨hle2,he,rfl⟩
   refine ⟨_,_,_,_,_,_,_,_,_,_,_,_,_,rfl,Br.mk (fun q=>absurd (beq_iff_eq.1 q) he) (fun _=>Br.mk (fun _=>⟨hle1.trans hle2,he,rfl⟩) (fun q=>by rw [bne_eq_false_iff_eq] at q;exact absurd q he))⟩
  | ok p=>
   obtain ⟨x,r'⟩:=p
   rw [hoo] at hne hs
   simp only at hne
   refine (hs (by intro q;cases q)).mono ?_
   rintro _ h2 ⟨hle2,vs,rfl,ux,zx,hp2⟩
   have ux' := ux
   obtain ⟨s3,A3,c3,B3,d3,K3,kc3,rfl,_,_,_⟩:=ux'.open
   refine ⟨_,_,_,_,_,_,_,_,_,_,_,_,_,rfl,Br.mk (fun _=> ?_) (fun q=>by exact absurd q (by decide))⟩
   refine (foExpect_c [41] hp2 (by omega)).mono ?_
   rintro _ h3 ⟨rfl,hp3,ho3⟩
   have hle3:Le (hole h g) (hole h3 g):=by rw [ho3];exact hle1.trans hle2
   simp only
   refine ⟨_,rfl,Br.mk (fun q=> ?_) (fun q=> ?_)⟩
   ·have h0:expV [41] r' ≠ 0:=by simpa using q
    rw [if_neg h0]
    exact ⟨hle3,h0,rfl⟩
   ·have h0:expV [41] r' = 0:=by simpa using q
    rw [if_pos h0]
    exact ⟨hle3,_,rfl,by rw [ho3];exact ux,zx,hp3⟩
 rw [if_neg (beq_eq_false_iff_ne.1 q2)] at hne ⊢
 have call : ∀ kd:Int,pCall n kd (aft r) ≠ .error 99->CallsU Tryz.prog 278 [.pointer (some ⟨g,0,none⟩),.int .i64 kd] h1 fun v_4 h_6=>
   ∃ t63_0_0:Int,∃ t63_0_1:Bool,∃ t63_0_2A:Option Addr,∃ t63_0_2n t63_0_2c:Nat,∃ t63_0_3A:Option Addr,∃ t63_0_3n t63_0_3c:Nat,∃ t63_0_4:ByteArray,∃ t63_0_5A:Option Addr,∃ t63_0_5n t63_0_5c:Nat,∃ t63_1:Int,v_4=Value.tuple #[Value.agg #[Value.int .i64 t63_0_0,Value.bool t63_0_1,Value.slice t63_0_2A t63_0_2n t63_0_2c,Value.slice t63_0_3A t63_0_3n t63_0_3c,Value.string t63_0_4,Value.slice t63_0_5A t63_0_5n t63_0_5c],Value.int .i64 t63_1]/\
   PaR (pCall n kd (aft r)) g l h (Value.tuple #[Value.agg #[Value.int .i64 t63_0_0,Value.bool t63_0_1,Value.slice t63_0_2A t63_0_2n t63_0_2c,Value.slice t63_0_3A t63_0_3n t63_0_3c,Value.string t63_0_4,Value.slice t63_0_5A t63_0_5n t63_0_5c],Value.int .i64 t63_1]) h_6:=by
  intro kd hne2
  refine ((ihC kd) hp hl hne2).mono ?_
  intro v h2 hP
  cases hoo:pCall n kd (aft r) with
  | error e=>
   rw [hoo] at hP
   obtain ⟨hle2,he,rfl⟩:=hP
   exact ⟨_,_,_,_,_,_,_,_,_,_,_,_,_,rfl,hle1.trans hle2,he,rfl⟩
  | ok p=>
   obtain ⟨x,r'⟩:=p
   rw [hoo] at hP
   obtain ⟨hle2,vs,rfl,ux,zx,hp2⟩:=hP
   have ux' := ux
   obtain ⟨s3,A3,c3,B3,d3,K3,kc3,rfl,_,_,_⟩:=ux'.open
   exact ⟨_,_,_,_,_,_,_,_,_,_,_,_,_,rfl,hle1.trans hle2,_,rfl,ux,zx,hp2⟩
 refine Br.mk (fun q3=> ?_) (fun q3=> ?_)
 ·rw [if_pos (beq_iff_eq.1 q3)] at hne ⊢
  exact call 8 hne
 rw [if_neg (beq_eq_false_iff_ne.1 q3)] at hne ⊢
 refine Br.mk (fun q4=> ?_) (fun q4=> ?_)
 ·rw [if_pos (beq_iff_eq.1 q4)] at hne ⊢
  exact call 9 hne
 rw [if_neg (beq_eq_false_iff_ne.1 q4)] at hne ⊢
 obtain ⟨pre,ty,hlr,hb⟩:=hp
 have hsp:=congrArg List.length (tk_split r)
 have hlen:l.length=pre.length+(aft r).length:=by rw [hlr,List.length_append]
 have htl:(tk r).length<=400:=by
  obtain ⟨pre0,ty0,hlr0,_⟩:=u
  have h0:=skip_le r
  have h1:=tokOf_le (skipS r)
  have h2:l.length=pre0.length+r.length:=by rw [hlr0,List.length_append]
  unfold tk
  omega
 have fr:=(foNumber_c (w:=tk r) (by omega) (hole h1 g)).frame (g:=g) (b:=⟨[sv l,.int .i64 (pre.length:Int)],ty,(0,0)⟩) (hole_at h1 g)
 rw [put_hole hb] at fr
 refine fr.mono ?_
 rintro v _ ⟨h2,⟨hN,hle2⟩,h2g,rfl⟩
 have hx:hole (h2.put g ⟨[sv l,.int .i64 (pre.length:Int)],ty,(0,0)⟩) g=h2:=by rw [hole_put,hole_none h2g]
 have hps:Ps (h2.put g ⟨[sv l,.int .i64 (pre.length:Int)],ty,(0,0)⟩) g l (aft r):=⟨pre,ty,hlr,Heap.put_same _ _ _⟩
 cases hoo:numberV (tk r) with
 | some q=>
  rw [hoo] at hN
  obtain ⟨s,A,c,B,d,rfl,hq⟩:=hN
  refine ⟨_,_,_,_,_,_,_,_,rfl,Br.mk (fun _=> ?_) (fun q=>by cases q)⟩
  have hl1:=lmb_le q.num.natAbs
  have hl2:=lmb_le q.den
  refine ⟨by rw [hx];exact hle1.trans hle2,_,rfl, ?_, ?_,hps⟩
  ·rw [hx]
   unfold IsE
   exact ⟨s,A,c,B,d,none,0,rfl,hq.is,Nat.le_refl _,fun q=>absurd rfl q⟩
  ·unfold Szs SzsL
   exact ⟨by omega,by omega,by simp,by simp,trivial⟩
 | none=>
  rw [hoo] at hN
  cases hN
  refine ⟨_,_,_,_,_,_,_,_,rfl,Br.mk (fun q=>by cases q) (fun _=> ?_)⟩
  refine (foName_c (tk r) _).mono ?_
  rintro _ _ ⟨rfl,rfl⟩
  simp only
  refine ⟨_,rfl,Br.mk (fun q=> ?_) (fun q=> ?_)⟩
  ·rw [if_pos q]
   refine ⟨by rw [hx];exact hle1.trans hle2,_,rfl, ?_, ?_,hps⟩
   ·unfold IsE
    exact ⟨false,none,0,none,0,none,0,rfl,IsQ.nul _,Nat.le_refl _,fun q=>absurd rfl q⟩
   ·unfold Szs SzsL
    exact ⟨by omega,by omega,by omega,by simp,trivial⟩
  ·rw [if_neg (by rw [q];decide)]
   exact ⟨by rw [hx];exact hle1.trans hle2,by decide,rfl⟩
theorem foAll : ∀ n:Nat,∀ k,k<=n->MOk 165 ptr (pSum k)/\MOk 222 ptr (pProd k)/\MOk 256 ptr (pFac k)/\ ∀ kd:Int,MOk 278 (fun g=>[.pointer (some ⟨g,0,none⟩),.int .i64 kd]) (pCall k kd)
 | 0,k,hk=>by
  have:k=0:=by omega
  subst this
  refine ⟨?_, ?_, ?_,fun kd=> ?_⟩<;>intro h g l r _ _ hne
  ·rw [pSum] at hne;exact absurd rfl hne
  ·rw [pProd] at hne;exact absurd rfl hne
  ·rw [pFac] at hne;exact absurd rfl hne
  ·rw [pCall] at hne;exact absurd rfl hne
 | n+1,k,hk=>by
  have ih:=foAll n
  rcases Nat.lt_or_ge k (n+1) with q | q
  ·exact ih k (by omega)
  ·have:k=n+1:=by omega
   subst this
   exact ⟨foSum_step fun k hk=>(ih k hk).2.1,foProd_step fun k hk=>(ih k hk).2.2.1,foFac_step (ih n (Nat.le_refl _)).2.2.1 (ih n (Nat.le_refl _)).1 (ih n (Nat.le_refl _)).2.2.2,fun kd=>foCall_step kd fun k hk=>(ih k hk).1⟩
def FpR (o:Except Int Ex) (h:Heap) (r:Value) (h' : Heap):Prop:=
 Le h h' /\ match o with
  | .error e=>e≠0/\r = .tuple #[.agg zE.toArray,.int .i64 e]
  | .ok x=> ∃ vs:List Value,r = .tuple #[.agg vs.toArray,.int .i64 0]/\IsE h' x vs/\Szs x/\chkV x 1=0
theorem foParse_c {s:List UInt8} (hfu:pSum 4000 s ≠ .error 99) (h:Heap):CallsU Tryz.prog 92 [sv s] h (FpR (foParseV s) h):=by
 apply formula_Parse_ok
 unfold formula_Parse_vc foParseV
 rw [ba_size]
 refine Br.mk (fun q=> ?_) (fun q=> ?_)
 ·rw [if_pos (by have:=of_decide_eq_true q;omega)]
  exact ⟨Le.refl _,by decide,rfl⟩
 ·have hl:s.length<=400:=by have:=of_decide_eq_false q;omega
  rw [if_neg (by omega)]
  rintro g _ hg rfl
  refine ⟨_,Heap.put_same _ _ _,rfl,rfl,by simp, ?_⟩
  rintro _ rfl
  have hps:Ps (Heap.put (Heap.put h g ⟨[Value.string ByteArray.empty,Value.int .i64 0],193,(0,0)⟩) g ⟨setSeg [Value.string ByteArray.empty,Value.int .i64 0] 0 [sv s,Value.int .i64 0],193,(0,0)⟩) g s s:=
   ⟨[],193,rfl,by rw [Heap.put_same];rfl⟩
  have hho:hole (Heap.put (Heap.put h g ⟨[Value.string ByteArray.empty,Value.int .i64 0],193,(0,0)⟩) g ⟨setSeg [Value.string ByteArray.empty,Value.int .i64 0] 0 [sv s,Value.int .i64 0],193,(0,0)⟩) g=h:=by
   rw [hole_put,hole_put,hole_none hg]
  refine ((foAll 4000 4000 (Nat.le_refl _)).1 hps hl hfu).mono ?_
  intro v h1 hP
  have hle1:=hP.1
  rw [hho] at hle1
  have hle1' : Le h h1:=hle1.trans (hole_le _ _)
  cases hoo:pSum 4000 s with
  | error e=>
   rw [hoo] at hP
   obtain ⟨_,he,rfl⟩:=hP
   refine ⟨_,_,_,_,_,_,_,_,_,_,_,_,_,rfl,fun err h' => err=e/\h' = h1, ?_,Br.mk (fun q=>absurd (beq_iff_eq.1 q) he) (fun _=>⟨rfl,rfl⟩)⟩
   rintro _ _ ⟨rfl,rfl⟩
   exact Br.mk (fun q=>absurd (beq_iff_eq.1 q) he) (fun _=>Br.mk (fun _=>⟨hle1', he,rfl⟩) (fun q=>by rw [bne_eq_false_iff_eq] at q;exact absurd q he))
  | ok p=>
   obtain ⟨x,r'⟩:=p
   rw [hoo] at hP
   obtain ⟨_,vs,rfl,ux,zx,hp2⟩:=hP
   have ux' := ux
   obtain ⟨s3,A3,c3,B3,d3,K3,kc3,rfl,_,_,_⟩:=ux'.open
   refine ⟨_,_,_,_,_,_,_,_,_,_,_,_,_,rfl,fun err h' => hole h' g=hole h1 g/\err=if tk r' = [] then 0 else 2, ?_,Br.mk (fun _=> ?_) (fun q=>by exact absurd q (by decide))⟩
   ·rintro _ h2 ⟨ho2,rfl⟩
    have hle2:Le h h2:=by
     rw [<- ho2] at hle1
     exact hle1.trans (hole_le _ _)
    have ux2:IsE h2 x _:=IsE.mono (hole_le _ g) _ _ (by rw [ho2];exact ux)
    simp only
    by_cases ht:tk r' = []
    ·rw [if_pos ht,if_pos ht]
     refine Br.mk (fun _=>(foChk_c ux2 zx).mono ?_) (fun q=>by exact absurd q (by decide))
     rintro _ h3 ⟨rfl,hle3⟩
     refine ⟨_,rfl,Br.mk (fun q=> ?_) (fun q=> ?_)⟩
     ·have h0:chkV x 1≠0:=by simpa using q
      rw [if_neg h0]
      exact ⟨hle2.trans hle3,h0,rfl⟩
     ·have h0:chkV x 1=0:=by simpa using q
      rw [if_pos h0]
      exact ⟨hle2.trans hle3,_,rfl,IsE.mono hle3 _ _ ux2,zx,h0⟩
    ·rw [if_neg ht,if_neg ht]
     exact Br.mk (fun q=>by exact absurd q (by decide)) (fun _=>Br.mk (fun _=>⟨hle2,by decide,rfl⟩) (fun q=>by exact absurd q (by decide)))
   ·refine (foNext_c hp2 (by omega)).mono ?_
    rintro _ h2 ⟨rfl,_,ho2⟩
    have b0:(⟨#[]⟩:ByteArray).toList=[]:=bytes_toList []
    refine ⟨_,rfl, ?_⟩
    rw [bytes_toList,b0]
    refine Br.mk (fun q=>⟨ho2, ?_⟩) (fun q=>⟨ho2, ?_⟩)
    ·have:tk r' ≠ []:=by simpa using q
     rw [if_neg this]
    ·have:tk r' = []:=by simpa using q
     rw [if_pos this]
mutual
def namesE:Ex->List (List UInt8)
 | .mk k _ _ _ nm kids=>(if k=2 then [nm] else [])++namesL kids
def namesL:List Ex->List (List UInt8)
 | []=>[]
 | e::es=>namesE e++namesL es
end
theorem namesL_take {es:List Ex} {j:Nat} {e:Ex} (he:es[j]?=some e):namesL (es.take (j+1))=namesL (es.take j)++namesE e:=by
 induction es generalizing j with
 | nil=>simp at he
 | cons x es ih=>
  cases j with
  | zero=>simp at he;subst he;simp [namesL]
  | succ j=>
   simp only [List.take_succ_cons,namesL]
   rw [ih (by simpa using he),List.append_assoc]
theorem namesL_le {es:List Ex} (j:Nat):(namesL (es.take j)).length<=(namesL es).length:=by
 induction es generalizing j with
 | nil=>simp [namesL]
 | cons x es ih=>
  cases j with
  | zero=>simp [namesL]
  | succ j=>
   simp only [List.take_succ_cons,namesL,List.length_append]
   have:=ih j
   omega
def CoOk (e:Ex):Prop:= ∀ {h0 h:Heap} {vs:List Value} {A:Option Addr} {n c:Nat} {gs:List (List UInt8)},IsE h0 e vs->Szs e->OwnE sv 9 h0 h A n c gs->Le h0 h->gs.length+(namesE e).length<=1000000000->
 CallsU Tryz.prog 42 [.slice A n c,.agg vs.toArray] h fun r h' => ∃ A' n' c', r = .slice A' n' c' /\ OwnE sv 9 h0 h' A' n' c' (gs++namesE e)/\Le h0 h'
theorem foCollect_node {k:Int} {q:Rat} {n m:Nat} {nm:List UInt8} {kids:List Ex} (ih:evAll CoOk kids):CoOk (.mk k q n m nm kids):=by
 intro h0 h vs lA ln lc gs u z own hle hcnt
 have uo:=u.open
 obtain ⟨s,A,c,B,d,K,kc,rfl,uq,hc,hk⟩:=uo
 obtain ⟨z1,z2,z3,z4,z5⟩:=z.open
 simp only [Ex.kids,Ex.ln,Ex.lm,Ex.val,Ex.name] at uq hc hk z1 z2 z3 z4 z5
 have hnm:namesE (.mk k q n m nm kids)=(if k=2 then [nm] else [])++namesL kids:=by rw [namesE]
 rw [hnm] at hcnt ⊢
 rw [List.length_append] at hcnt
 have hln:=own.1
 apply formula_collect_ok
 unfold formula_collect_vc
 have hlen:(Ex.mk k q n m nm kids).kids.length=kids.length:=rfl
 rw [hlen]
 refine ⟨fun A' n' c' h' => OwnE sv 9 h0 h' A' n' c' (gs++if k=2 then [nm] else [])/\Le h0 h', ?_, ?_⟩
 ·rintro A1 n1 c1 h1 ⟨own1,hl1⟩
  generalize hG:gs++(if k=2 then [nm] else [])=gs1 at own1
  have hcnt1:gs1.length+(namesL kids).length<=1000000000:=by
   rw [<- hG,List.length_append];omega
  refine ⟨fun mm A' n' c' i h' => ∃ j,j<=kids.length/\mm=kids.length-j/\i=(j:Int)/\OwnE sv 9 h0 h' A' n' c' (gs1++namesL (kids.take j))/\Le h0 h', ⟨kids.length,0,by omega,by omega,rfl,by simpa [namesL] using own1,hl1⟩, ?_⟩
  rintro mm A2 n2 c2 _ h2 ⟨j,hj,rfl,rfl,own2,hl2⟩
  refine Br.mk (fun q1=> ?_) (fun q1=> ?_)
  ·have hlt:j<kids.length:=by have:=of_decide_eq_true q1;omega
   obtain ⟨x,hx⟩ : ∃ x,kids[j]?=some x:=⟨_,List.getElem?_eq_getElem hlt⟩
   obtain ⟨ad,vs', eA', hld,ux⟩:=kid_ld (e:= .mk k q n m nm kids) hk hx
   have ux' := ux
   obtain ⟨s', A', c', B', d', K', kc', rfl,_,_,_⟩:=ux'.open
   have e1:=namesL_take hx
   have hle2:=namesL_le (es:=kids) (j+1)
   rw [e1,List.length_append] at hle2
   refine ⟨ad,eA', by omega,by omega,_,_,_,_,_,_,_,_,_,_,_,_,by rw [Int.toNat_natCast];exact LdN.mono hld hl2, ?_⟩
   refine ((ih.get hx) ux (SzsL.get z5 hx) own2 hl2 (by rw [List.length_append];omega)).mono ?_
   rintro _ h3 ⟨A3,n3,c3,rfl,own3,hl3⟩
   refine ⟨_,_,_,rfl, ?_⟩
   rintro _ rfl
   refine ⟨kids.length-(j+1),by omega,j+1,by omega,rfl,wi (by omega) (by omega), ?_,hl3⟩
   rw [e1,<- List.append_assoc]
   exact own3
  ·have hj' : j=kids.length:=by have:=of_decide_eq_false q1;omega
   subst hj'
   rw [List.take_length] at own2
   refine ⟨_,_,_,rfl, ?_,hl2⟩
   rw [<- List.append_assoc,hG]
   exact own2
 ·refine Br.mk (fun q1=> ?_) (fun q1=> ?_)
  ·have e1:k=2:=beq_iff_eq.1 q1
   rw [if_pos e1] at hcnt ⊢
   rintro g _ hg rfl
   simp only [List.length_cons,List.length_nil] at hcnt
   exact OwnE.app (x:=nm) (z:=[]) (K:=fun A' c' h' => OwnE sv 9 h0 h' A' (ln+1) c' (gs++[nm])/\Le h0 h') own hle (fun _=>rfl) rfl rfl hg (by omega) (fun A' c' h' o l _=>⟨o,l⟩)
  ·have e1:k≠2:=beq_eq_false_iff_ne.1 q1
   rw [if_neg e1,List.append_nil]
   exact ⟨own,hle⟩
mutual
theorem foCollect_all : ∀ e:Ex,CoOk e
 | .mk _ _ _ _ _ kids=>foCollect_node (foCollect_allL kids)
theorem foCollect_allL : ∀ es:List Ex,evAll CoOk es
 | []=>trivial
 | e::es=>⟨foCollect_all e,foCollect_allL es⟩
end
theorem callsU_rowV {α:Type} [Inhabited α] {P:Program} {f:FuncId} {args:List Value} {h:Heap} {g off ty:Nat} {cells:List Value} {enc:α->Value} (v:Value) (d d' : List α) (hc:Callable P f) (hb:h g=some ⟨cells,ty,(0,0)⟩)
  (hd:(cells.drop off).take d.length=d.map enc) (hl:d'.length=d.length) (hle:off+d.length<=cells.length)
  (hw : ∀ w,g<w.heap.size->Holds enc w g off d.toArray->Calls P f args.toArray w fun e w' => e = .returned v/\ ∃ n os,w' = grow (putRow enc (Sort.ahead w n) g off d'.toArray) os) :
  CallsU P f args h fun r h' => r=v/\h' = h.put g ⟨setSeg cells off (d'.map enc),ty,(0,0)⟩:=by
 refine ⟨hc,fun w s=> ?_⟩
 have sg:=(s g _ hb).cells (plain_fz rfl)
 have hlt:g<w.heap.size:=(Array.getElem?_eq_some_iff.1 sg).1
 have hH:Holds enc w g off d.toArray:=by
  intro j hj
  have hj' : j<d.length:=by simpa using hj
  refine ⟨?_, ?_⟩
  ·unfold World.cell?
   simp only [sg]
   have h1:((cells.drop off).take d.length)[j]?=(d.map enc)[j]?:=by rw [hd]
   rw [List.getElem?_take_of_lt hj', List.getElem?_drop] at h1
   simp only [Option.isSome_none,Bool.false_eq_true,if_false,List.getElem?_toArray]
   rw [h1]
   simp [hj']
  ·unfold World.frozen?
   simp [sg]
 refine (hw w hlt hH).mono ?_
 rintro e w' ⟨he,n,os,rfl⟩
 have hg:(w.heap.modify g (onCells (putCells enc off d'.toArray)))[g]?=some (.cells (setSeg cells off (d'.map enc)).toArray ty (0,0)):=by
  rw [Array.getElem?_modify,if_pos rfl,sg]
  simp only [Option.map_some,onCells]
  rw [putCells_seg d' cells (by omega)]
 have hne : ∀ k,k≠g->(w.heap.modify g (onCells (putCells enc off d'.toArray)))[k]?=w.heap[k]?:=fun k hk=>by
  rw [Array.getElem?_modify,if_neg (fun e=>hk e.symm)]
 have hgr : ∀ k,k<w.heap.size->(grow (putRow enc (Sort.ahead w n) g off d'.toArray) os).heap[k]?=(w.heap.modify g (onCells (putCells enc off d'.toArray)))[k]?:=fun k hk=>by
  show ((w.heap.modify g (onCells (putCells enc off d'.toArray)))++os)[k]?=_
  rw [Array.getElem?_append_left (by rw [Array.size_modify];exact hk)]
 refine ⟨_,_,he,⟨rfl,rfl⟩, ?_,⟨?_,rfl,rfl,rfl, ?_⟩⟩
 ·intro k b hk
  by_cases e:k=g
  ·subst e
   rw [Heap.put_same] at hk
   cases hk
   exact .mk' (plain_fz rfl) (by rw [hgr _ hlt,hg])
  ·rw [Heap.put_ne _ _ e] at hk
   have sk:=s k b hk
   exact sk.same (by rw [hgr k sk.lt,hne k e])
 ·show w.heap.size<=((w.heap.modify g (onCells (putCells enc off d'.toArray)))++os).size
  rw [Array.size_append,Array.size_modify];omega
 ·intro k hk h0
  have e:k≠g:=fun e=>by rw [e,hb] at h0;cases h0
  exact ⟨by rw [Heap.put_ne _ _ e];exact h0,by rw [hgr k hk,hne k e]⟩
def sortS (zs:List (List UInt8)):List (List UInt8):=zs.mergeSort fun x y=>decide (x<=y)
theorem sortS_c {h:Heap} {g c ty:Nat} {zs rest:List (List UInt8)} (hb:h g=some ⟨(zs++rest).map sv,ty,(0,0)⟩) {n:Nat} (hn:n=zs.length) (hsz:n<4611686018427387904) :
  CallsU Tryz.prog 43 [.slice (some ⟨g,0,none⟩) n c] h fun r h' => r = .tuple #[]/\h' = h.put g ⟨(sortS zs++rest).map sv,ty,(0,0)⟩:=by
 subst hn
 have hsl:(sortS zs).length=zs.length:=List.length_mergeSort _
 refine (callsU_rowV (enc:=sv) (off:=0) (.tuple #[]) zs (sortS zs) ⟨_,Tryz.func43,by kernel_rfl,by kernel_rfl⟩ hb (by rw [List.drop_zero,List.map_append,List.take_append_of_le_length (by simp),<- List.length_map (f:=sv),List.take_length]) hsl (by simp) ?_).mono ?_
 ·intro w hlt hH
  exact Tryz.slices_Sort_string g 0 c zs w hH hlt (by omega)
 ·rintro _ _ ⟨rfl,rfl⟩
  refine ⟨rfl, ?_⟩
  congr 2
  unfold setSeg
  simp [hsl]
theorem compact_le (zs:List (List UInt8)):(Lib.compact zs).length<=zs.length:=by
 unfold Lib.compact Lib.compactUpTo
 rw [List.length_map]
 exact Nat.le_trans (List.length_filter_le _ _) (by simp)
theorem compactS_c {h:Heap} {g c ty:Nat} {zs rest:List (List UInt8)} (hb:h g=some ⟨(zs++rest).map sv,ty,(0,0)⟩) {n:Nat} (hn:n=zs.length) (hc:n<=c) (hsz:n<4611686018427387904) :
  CallsU Tryz.prog 44 [.slice (some ⟨g,0,none⟩) n c] h fun r h' => r = .slice (some ⟨g,0,none⟩) (Lib.compact zs).length c/\h' = h.put g ⟨(Lib.compact zs++(List.replicate (zs.length-(Lib.compact zs).length) []++rest)).map sv,ty,(0,0)⟩:=by
 subst hn
 have hcl:=compact_le zs
 have hsl:(Lib.compact zs++List.replicate (zs.length-(Lib.compact zs).length) ([]:List UInt8)).length=zs.length:=by simp;omega
 refine (callsU_rowV (enc:=sv) (off:=0) (.slice (some ⟨g,0,none⟩) (Lib.compact zs).length c) zs (Lib.compact zs++List.replicate (zs.length-(Lib.compact zs).length) []) ⟨_,Tryz.func44,by kernel_rfl,by kernel_rfl⟩ hb (by rw [List.drop_zero,List.map_append,List.take_append_of_le_length (by simp),<- List.length_map (f:=sv),List.take_length]) hsl (by simp) ?_).mono ?_
 ·intro w hlt hH
  refine (Tryz.slices_Compact_string g 0 c zs w hH (by omega) hc).mono ?_
  rintro _ _ ⟨a,n,b⟩
  refine ⟨a,n,#[], ?_⟩
  rw [b]
  show _=({ (putRow sv (Sort.ahead w n) g 0 _) with heap:=(putRow sv (Sort.ahead w n) g 0 _).heap ++ #[] }:World)
  rw [Array.append_empty]
 ·rintro _ _ ⟨rfl,rfl⟩
  refine ⟨rfl, ?_⟩
  congr 2
  unfold setSeg
  rw [List.take_zero,List.nil_append,List.length_map,hsl,Nat.zero_add,List.map_append (l₁:=zs),List.drop_append_of_le_length (by simp)]
  have:(zs.map sv).drop zs.length=[]:=List.drop_eq_nil_of_le (by simp)
  rw [this,List.nil_append]
  simp
def namesV (e:Ex):List (List UInt8):=Lib.compact (sortS (namesE e))
theorem foNames_c {e:Ex} {h:Heap} {vs:List Value} (u:IsE h e vs) (z:Szs e) (hcnt:(namesE e).length<=1000000000) :
  CallsU Tryz.prog 20 [.agg vs.toArray] h fun r h' => ∃ A n c,r = .slice A n c/\Sl sv h' A n c (namesV e)/\Le h h' := by
 have u' := u
 obtain ⟨s,A0,c0,B,d,K,kc,rfl,_⟩:=u'.open
 apply formula_Names_ok
 refine ((foCollect_all e) u z OwnE.start (Le.refl h) (by simpa using hcnt)).mono ?_
 rintro _ h1 ⟨A1,n1,c1,rfl,own,hl1⟩
 rw [List.nil_append] at own
 unfold namesV
 obtain ⟨hn,hA⟩:=own
 refine ⟨_,_,_,rfl, ?_⟩
 rcases hA with ⟨rfl,rfl,rfl⟩ | ⟨g,zs,rfl,hg,hb,rfl⟩
 ·have he:namesE e=[]:=List.length_eq_zero_iff.1 hn.symm
  have e0:Lib.compact (sortS [])=[]:=by simp [sortS,Lib.compact,Lib.compactUpTo]
  rw [he,e0]
  have s0:CallsU Tryz.prog 43 [.slice none 0 0] h1 fun r h' => r = .tuple #[]/\h1=h' :=
   callsU_same ⟨_,Tryz.func43,by kernel_rfl,by kernel_rfl⟩ fun w _=>Tryz.slices_Sort_string_none none 0 w
  have k0:CallsU Tryz.prog 44 [.slice none 0 0] h1 fun r h' => r = .slice none 0 0/\h1=h' :=
   callsU_same ⟨_,Tryz.func44,by kernel_rfl,by kernel_rfl⟩ fun w _=>Tryz.slices_Compact_string_empty none 0 w
  refine s0.mono ?_
  rintro _ _ ⟨rfl,rfl⟩
  refine ⟨rfl,k0.mono ?_⟩
  rintro _ _ ⟨rfl,rfl⟩
  exact ⟨_,_,_,rfl,_,_,_,rfl,Sl.nil _ _ _,hl1⟩
 ·refine (sortS_c hb hn (by omega)).mono ?_
  rintro _ _ ⟨rfl,rfl⟩
  have hsl:(sortS (namesE e)).length=(namesE e).length:=List.length_mergeSort _
  refine ⟨rfl,(compactS_c (zs:=sortS (namesE e)) (rest:=zs) (Heap.put_same _ _ _) (by omega) (by simp;omega) (by omega)).mono ?_⟩
  rintro _ _ ⟨rfl,rfl⟩
  have hcl:=compact_le (sortS (namesE e))
  refine ⟨_,_,_,rfl,_,_,_,rfl, ?_,(hl1.put hg _).put hg _⟩
  have:=Sl.of_blk (enc:=sv) (h:=Heap.put (Heap.put h1 g ⟨(sortS (namesE e)++zs).map sv,9,(0,0)⟩) g ⟨(Lib.compact (sortS (namesE e))++(List.replicate ((sortS (namesE e)).length-(Lib.compact (sortS (namesE e))).length) []++zs)).map sv,9,(0,0)⟩) (m:=(Lib.compact (sortS (namesE e))).length) (k:=(namesE e++zs).length) (Heap.put_same _ _ _) (by simp) (by simp;omega)
  rw [List.take_append_of_le_length (by omega),List.take_length] at this
  exact this
end Go.Proofs.YtfglcgbgaeegaaaGreatDoor

namespace Go.Proofs.YtfglcgbgaeegaaaGreatDoor
open Go Go.Vcg Go.RowKit Go.Sort
theorem nm_trans {a b c:List UInt8} (h1:a<=b) (h2:b<=c):a<=c:=List.le_trans h1 h2
theorem nm_total (a b:List UInt8):a<=b\/b<=a:=List.le_total a b
theorem nm_anti {a b:List UInt8} (h1:a<=b) (h2:b<=a):a=b:=List.le_antisymm h1 h2
theorem nm_lt {a b:List UInt8}:a<b↔a<=b/\a≠b:=by
 constructor
 ·intro h
  exact ⟨List.le_of_lt h,fun e=>by subst e;exact List.lt_irrefl a h⟩
 ·rintro ⟨h1,h2⟩
  rcases Classical.em (a<b) with q | q
  ·exact q
  ·exact absurd (nm_anti h1 (List.not_lt.1 q)) h2
theorem sortS_pw (l:List (List UInt8)):(sortS l).Pairwise (· <= ·):=by
 have:=List.pairwise_mergeSort (le:=fun x y:List UInt8=>decide (x<=y)) (fun a b c h1 h2=>by simp only [decide_eq_true_eq] at h1 h2 ⊢;exact nm_trans h1 h2) (fun a b=>by simp only [Bool.or_eq_true,decide_eq_true_eq];exact nm_total a b) l
 exact this.imp (fun h=>by simpa using h)
end Go.Proofs.YtfglcgbgaeegaaaGreatDoor

namespace Go.Proofs.YtfglcgbgaeegaaaGreatDoor
def sm (f:Nat->Nat):Nat->Nat
 | 0=>0
 | n+1=>sm f n+f n
def stf (d M n f:Nat):Nat:=chs d f*chs M (n-f)
def acc (n c d M:Nat):Nat:=sm (stf d M n) (c+1)
def cnt (p:Nat->Bool):Nat->Nat
 | 0=>0
 | k+1=>cnt p k+if p k then 1 else 0
end Go.Proofs.YtfglcgbgaeegaaaGreatDoor

namespace Go.Proofs.YtfglcgbgaeegaaaGreatDoor
open Go
end Go.Proofs.YtfglcgbgaeegaaaGreatDoor

namespace Go.Proofs.YtfglcgbgaeegaaaGreatDoor
open Go Go.Vcg
def ref19_Places_vc (a:OA) (b _c:Nat) (d:OA) (e _f:Nat) (h:Heap) (R:Value->Heap->Prop):Prop:=
 Br ((b:Int) != (e:Int))
 (R (.bool false) h)
 (∃ g:Nat->Int->Heap->Prop,(∃ i,g i 0 h)/\
 ∀ (i:Nat) (c1:Int) (c2:Heap),g i c1 c2->
 Br (decide (c1<(b:Int)))
 (∃ j:Addr,a=some j/\0<=c1/\c1<(b:Int)/\
 ∃ k,LdN c2 (Addr.add (Addr.add j (Int.toNat c1*7)) 0) [.string k]/\
 ∃ l:Addr,d=some l/\0<=c1/\c1<(e:Int)/\
 ∃ m,LdN c2 (Addr.add (Addr.add l (Int.toNat c1*7)) 0) [.string m]/\
 Br (!(k.toList==m.toList))
 (R (.bool false) c2)
 (∃ n:Addr,a=some n/\0<=c1/\c1<(b:Int)/\
 ∃ o p q r s t u v w y z a0 a1 a2,LdN c2 (Addr.add (Addr.add n (Int.toNat c1*7)) 1) [.bool o,.slice p q r,.slice s t u,.bool v,.slice w y z,.slice a0 a1 a2]/\
 ∃ a3:Addr,d=some a3/\0<=c1/\c1<(e:Int)/\
 ∃ a4 a5 a6 a7 a8 a9 b0 b1 b2 b3 b4 b5 b6 b7,LdN c2 (Addr.add (Addr.add a3 (Int.toNat c1*7)) 1) [.bool a4,.slice a5 a6 a7,.slice a8 a9 b0,.bool b1,.slice b2 b3 b4,.slice b5 b6 b7]/\
 CallsU Tryz.prog 33 [.agg #[.bool o,.slice p q r,.slice s t u,.bool v,.slice w y z,.slice a0 a1 a2],.agg #[.bool a4,.slice a5 a6 a7,.slice a8 a9 b0,.bool b1,.slice b2 b3 b4,.slice b5 b6 b7]] c2 fun c3 c4=>
 ∃ b8,c3 = .bool b8/\
 Br (!b8)
 (R (.bool false) c4)
 (∀ c0:Int,c0=IntKind.i64.wrap (c1+1)->
 ∃ b9,b9<i/\g b9 c0 c4)))
 (R (.bool true) c2))
theorem ref19_Places_ok {a:OA} {b c:Nat} {d:OA} {e f:Nat} {h:Heap} {R:Value->Heap->Prop} (hv:ref19_Places_vc a b c d e f h R):CallsU Tryz.prog 21 [.slice a b c,.slice d e f] h R:=
 fn_ok Tryz.func21 (fun _=>false) (.two .nil (.two .nil (.two (.two .nil (.one (.loop ⟨[(5,Sh.int .i64)],[]⟩ (.two .nil (.two (.one (.two (.ord [0,1,2,3,4,5,6,7,8,9,10,11,12,13,14,15,16,17,18,19,20,21,22,23,24]) .nil)) .nil))))) .nil))) hv
def ref19_Light_vc (a:OA) (b _c:Nat) (h:Heap) (R:Value->Heap->Prop):Prop:=
 Br (decide ((b:Int)>70))
 (R (.bool false) h)
 (∃ d:Nat->Int->Heap->Prop,(∃ e,d e 0 h)/\
 ∀ (e:Nat) (d4:Int) (d5:Heap),d e d4 d5->
 Br (decide (d4<(b:Int)))
 (∃ f:Bool->Heap->Prop,(∀ (d6:Bool) (d7:Heap),f d6 d7->
 Br (d6)
 (R (.bool false) d7)
 (∃ g:Nat->Int->Heap->Prop,(∃ i,g i 0 d7)/\
 ∀ (i:Nat) (d8:Int) (d9:Heap),g i d8 d9->
 ∃ j:Addr,a=some j/\0<=d4/\d4<(b:Int)/\
 ∃ k l m,LdN d9 (Addr.add (Addr.add j (Int.toNat d4*4)) 2) [.slice k l m]/\
 Br (decide (d8<(l:Int)))
 (∃ n:Addr,a=some n/\0<=d4/\d4<(b:Int)/\
 ∃ o p q,LdN d9 (Addr.add (Addr.add n (Int.toNat d4*4)) 2) [.slice o p q]/\
 ∃ r:Addr,o=some r/\0<=d8/\d8<(p:Int)/\
 ∃ s,LdN d9 (Addr.add r (Int.toNat d8*1)) [.string s]/\
 Br (decide ((s.size:Int)>100))
 (R (.bool false) d9)
 (∀ d1:Int,d1=IntKind.i64.wrap (d8+1)->
 ∃ t,t<i/\g t d1 d9))
 (∃ u:Nat->Int->Heap->Prop,(∃ v,u v 0 d9)/\
 ∀ (v:Nat) (e0:Int) (e1:Heap),u v e0 e1->
 ∃ w:Addr,a=some w/\0<=d4/\d4<(b:Int)/\
 ∃ y z a0,LdN e1 (Addr.add (Addr.add w (Int.toNat d4*4)) 3) [.slice y z a0]/\
 Br (decide (e0<(z:Int)))
 (∃ a1:Addr,a=some a1/\0<=d4/\d4<(b:Int)/\
 ∃ a2 a3 a4,LdN e1 (Addr.add (Addr.add a1 (Int.toNat d4*4)) 3) [.slice a2 a3 a4]/\
 ∃ a5:Addr,a2=some a5/\0<=e0/\e0<(a3:Int)/\
 ∃ a6 a7 a8 a9 b0 b1 b2 b3 b4 b5 b6 b7,LdN e1 (Addr.add a5 (Int.toNat e0*6)) [.int .i64 a6,.bool a7,.slice a8 a9 b0,.slice b1 b2 b3,.string b4,.slice b5 b6 b7]/\
 CallsU Tryz.prog 45 [.agg #[.int .i64 a6,.bool a7,.slice a8 a9 b0,.slice b1 b2 b3,.string b4,.slice b5 b6 b7]] e1 fun e2 e3=>
 ∃ b8,e2 = .bool b8/\
 Br (!b8)
 (R (.bool false) e3)
 (∀ d2:Int,d2=IntKind.i64.wrap (e0+1)->
 ∃ b9,b9<v/\u b9 d2 e3))
 (∀ d3:Int,d3=IntKind.i64.wrap (d4+1)->
 ∃ c0,c0<e/\d c0 d3 e1))))/\
 ∃ c1:Addr,a=some c1/\0<=d4/\d4<(b:Int)/\
 ∃ c2,LdN d5 (Addr.add (Addr.add c1 (Int.toNat d4*4)) 0) [.string c2]/\
 Br (decide ((c2.size:Int)>100))
 (f true d5)
 (∃ c3:Addr,a=some c3/\0<=d4/\d4<(b:Int)/\
 ∃ c4 c5 c6,LdN d5 (Addr.add (Addr.add c3 (Int.toNat d4*4)) 2) [.slice c4 c5 c6]/\
 Br (decide ((c5:Int)>6))
 (f true d5)
 (∃ c7:Addr,a=some c7/\0<=d4/\d4<(b:Int)/\
 ∃ c8 c9 d0,LdN d5 (Addr.add (Addr.add c7 (Int.toNat d4*4)) 3) [.slice c8 c9 d0]/\
 f (decide ((c9:Int)>4)) d5)))
 (R (.bool true) d5))
theorem ref19_Light_ok {a:OA} {b c:Nat} {h:Heap} {R:Value->Heap->Prop} (hv:ref19_Light_vc a b c h R):CallsU Tryz.prog 22 [.slice a b c] h R:=
 fn_ok Tryz.func22 (fun _=>false) (.two .nil (.two .nil (.two (.two .nil (.one (.loop ⟨[(3,Sh.int .i64)],[]⟩ (.two .nil (.two (.one (.two (.cut ⟨[(39,Sh.bool)],[]⟩ .nil .nil) (.two (.two .nil (.one (.loop ⟨[(4,Sh.int .i64)],[]⟩ .nil))) (.two .nil (.one (.loop ⟨[(5,Sh.int .i64)],[]⟩ .nil)))))) .nil))))) .nil))) hv
def ref19_Same_vc (a:OA) (b _c:Nat) (d:OA) (e _f:Nat) (h:Heap) (R:Value->Heap->Prop):Prop:=
 Br ((b:Int) != (e:Int))
 (R (.bool false) h)
 (∃ g:Nat->Int->Heap->Prop,(∃ i,g i 0 h)/\
 ∀ (i:Nat) (f5:Int) (f6:Heap),g i f5 f6->
 Br (decide (f5<(b:Int)))
 (∃ j:Bool->Heap->Prop,(∀ (f7:Bool) (f8:Heap),j f7 f8->
 Br (f7)
 (R (.bool false) f8)
 (∃ k:Nat->Int->Heap->Prop,(∃ l,k l 0 f8)/\
 ∀ (l:Nat) (f9:Int) (g0:Heap),k l f9 g0->
 ∃ m:Addr,a=some m/\0<=f5/\f5<(b:Int)/\
 ∃ n o p,LdN g0 (Addr.add (Addr.add m (Int.toNat f5*4)) 3) [.slice n o p]/\
 Br (decide (f9<(o:Int)))
 (∃ q:Addr,a=some q/\0<=f5/\f5<(b:Int)/\
 ∃ r s t,LdN g0 (Addr.add (Addr.add q (Int.toNat f5*4)) 3) [.slice r s t]/\
 ∃ u:Addr,r=some u/\0<=f9/\f9<(s:Int)/\
 ∃ v w y z a0 a1 a2 a3 a4 a5 a6 a7,LdN g0 (Addr.add u (Int.toNat f9*6)) [.int .i64 v,.bool w,.slice y z a0,.slice a1 a2 a3,.string a4,.slice a5 a6 a7]/\
 ∃ a8:Addr,d=some a8/\0<=f5/\f5<(e:Int)/\
 ∃ a9 b0 b1,LdN g0 (Addr.add (Addr.add a8 (Int.toNat f5*4)) 3) [.slice a9 b0 b1]/\
 ∃ b2:Addr,a9=some b2/\0<=f9/\f9<(b0:Int)/\
 ∃ b3 b4 b5 b6 b7 b8 b9 c0 c1 c2 c3 c4,LdN g0 (Addr.add b2 (Int.toNat f9*6)) [.int .i64 b3,.bool b4,.slice b5 b6 b7,.slice b8 b9 c0,.string c1,.slice c2 c3 c4]/\
 CallsU Tryz.prog 54 [.agg #[.int .i64 v,.bool w,.slice y z a0,.slice a1 a2 a3,.string a4,.slice a5 a6 a7],.agg #[.int .i64 b3,.bool b4,.slice b5 b6 b7,.slice b8 b9 c0,.string c1,.slice c2 c3 c4]] g0 fun g1 g2=>
 ∃ c5,g1 = .bool c5/\
 Br (!c5)
 (R (.bool false) g2)
 (∀ f3:Int,f3=IntKind.i64.wrap (f9+1)->
 ∃ c6,c6<l/\k c6 f3 g2))
 (∀ f4:Int,f4=IntKind.i64.wrap (f5+1)->
 ∃ c7,c7<i/\g c7 f4 g0)))/\
 ∃ c8:Addr,a=some c8/\0<=f5/\f5<(b:Int)/\
 ∃ c9,LdN f6 (Addr.add (Addr.add c8 (Int.toNat f5*4)) 0) [.string c9]/\
 ∃ d0:Addr,d=some d0/\0<=f5/\f5<(e:Int)/\
 ∃ d1,LdN f6 (Addr.add (Addr.add d0 (Int.toNat f5*4)) 0) [.string d1]/\
 Br (!(c9.toList==d1.toList))
 (j true f6)
 (∃ d2:Addr,a=some d2/\0<=f5/\f5<(b:Int)/\
 ∃ d3,LdN f6 (Addr.add (Addr.add d2 (Int.toNat f5*4)) 1) [.int .i64 d3]/\
 ∃ d4:Addr,d=some d4/\0<=f5/\f5<(e:Int)/\
 ∃ d5,LdN f6 (Addr.add (Addr.add d4 (Int.toNat f5*4)) 1) [.int .i64 d5]/\
 Br ((d3:Int) != d5)
 (j true f6)
 (∃ d6:Addr,a=some d6/\0<=f5/\f5<(b:Int)/\
 ∃ d7 d8 d9,LdN f6 (Addr.add (Addr.add d6 (Int.toNat f5*4)) 2) [.slice d7 d8 d9]/\
 ∃ e0:Addr,d=some e0/\0<=f5/\f5<(e:Int)/\
 ∃ e1 e2 e3,LdN f6 (Addr.add (Addr.add e0 (Int.toNat f5*4)) 2) [.slice e1 e2 e3]/\
 CallsU Tryz.prog 53 [.slice d7 d8 d9,.slice e1 e2 e3] f6 fun g3 g4=>
 ∃ e4,g3 = .bool e4/\
 Br (!e4)
 (j true g4)
 (∃ e5:Addr,a=some e5/\0<=f5/\f5<(b:Int)/\
 ∃ e6 e7 e8,LdN g4 (Addr.add (Addr.add e5 (Int.toNat f5*4)) 3) [.slice e6 e7 e8]/\
 ∃ e9:Addr,d=some e9/\0<=f5/\f5<(e:Int)/\
 ∃ f0 f1 f2,LdN g4 (Addr.add (Addr.add e9 (Int.toNat f5*4)) 3) [.slice f0 f1 f2]/\
 j ((e7:Int) != (f1:Int)) g4))))
 (R (.bool true) f6))
theorem ref19_Same_ok {a:OA} {b c:Nat} {d:OA} {e f:Nat} {h:Heap} {R:Value->Heap->Prop} (hv:ref19_Same_vc a b c d e f h R):CallsU Tryz.prog 26 [.slice a b c,.slice d e f] h R:=
 fn_ok Tryz.func26 (fun _=>false) (.two .nil (.two .nil (.two (.two .nil (.one (.loop ⟨[(5,Sh.int .i64)],[]⟩ (.two .nil (.two (.one (.two (.cut ⟨[(70,Sh.bool)],[]⟩ (.ord [0,1,2,3,4,5,6,7,8,9,10,11,12,13,14,15,16,17,18,19,20,21,22,23,24,25,26,27,28,29,30,31,32,33,34,35,36,37,38,39,40,41,42,43,44,45,46,47,48,49,50,51,52]) .nil) (.two .nil (.one (.loop ⟨[(6,Sh.int .i64)],[]⟩ (.two .nil (.two (.one (.two (.ord [0,1,2,3,4,5,6,7,8,9,10,11,12,13,14,15,16,17]) .nil)) .nil))))))) .nil))))) .nil))) hv
def ref17_Brief_vc (a:OA) (b _c:Nat) (h:Heap) (R:Value->Heap->Prop):Prop:=
 ∃ d:Nat->Int->Heap->Prop,(∃ e,d e 0 h)/\
 ∀ (e:Nat) (t:Int) (u:Heap),d e t u->
 ∃ f:Bool->Heap->Prop,(∀ (v:Bool) (w:Heap),f v w->
 Br (v)
 (∃ g:Addr,a=some g/\0<=t/\t<(b:Int)/\
 ∃ i,LdN w (Addr.add (Addr.add g (Int.toNat t*4)) 0) [.string i]/\
 Br (decide ((i.size:Int)>60))
 (R (.bool false) w)
 (∃ j:Addr,a=some j/\0<=t/\t<(b:Int)/\
 ∃ k l m,LdN w (Addr.add (Addr.add (Addr.add (Addr.add j (Int.toNat t*4)) 1) 0) 1) [.slice k l m]/\
 Br (decide ((l:Int)>2))
 (R (.bool false) w)
 (∃ n:Addr,a=some n/\0<=t/\t<(b:Int)/\
 ∃ o p q,LdN w (Addr.add (Addr.add (Addr.add n (Int.toNat t*4)) 1) 2) [.slice o p q]/\
 Br (decide ((p:Int)>2))
 (R (.bool false) w)
 (∀ s:Int,s=IntKind.i64.wrap (t+1)->
 ∃ r,r<e/\d r s w))))
 (R (.bool (decide ((b:Int)<=20))) w))/\
 Br (decide (t<(b:Int)))
 (f (decide (t<=20)) u)
 (f false u)
theorem ref17_Brief_ok {a:OA} {b c:Nat} {h:Heap} {R:Value->Heap->Prop} (hv:ref17_Brief_vc a b c h R):CallsU Tryz.prog 30 [.slice a b c] h R:=
 fn_ok Tryz.func30 (fun _=>false) (.two .nil (.two (.two .nil (.one (.loop ⟨[(3,Sh.int .i64)],[]⟩ (.two (.cut ⟨[(11,Sh.bool)],[]⟩ .nil .nil) .nil)))) .nil)) hv
def ref08_Exact_vc (a:Bool) (b:OA) (c d:Nat) (e:OA) (f g:Nat) (i:Bool) (j:OA) (k l:Nat) (m:OA) (n o:Nat) (p:Bool) (q:OA) (r s:Nat) (t:OA) (u v:Nat) (w:Bool) (y:OA) (z a0:Nat) (a1:OA) (a2 a3:Nat) (h:Heap) (R:Value->Heap->Prop):Prop:=
 CallsU Tryz.prog 66 [.agg #[.bool a,.slice b c d,.slice e f g],.agg #[.bool p,.slice q r s,.slice t u v]] h fun a6 a7=>
 ∃ a4,a6 = .bool a4/\
 Br (a4)
 (CallsU Tryz.prog 66 [.agg #[.bool i,.slice j k l,.slice m n o],.agg #[.bool w,.slice y z a0,.slice a1 a2 a3]] a7 fun a8 a9=>
 ∃ a5,a8 = .bool a5/\
 R (.bool a5) a9)
 (R (.bool false) a7)
theorem ref08_Exact_ok {a:Bool} {b:OA} {c d:Nat} {e:OA} {f g:Nat} {i:Bool} {j:OA} {k l:Nat} {m:OA} {n o:Nat} {p:Bool} {q:OA} {r s:Nat} {t:OA} {u v:Nat} {w:Bool} {y:OA} {z a0:Nat} {a1:OA} {a2 a3:Nat} {h:Heap} {R:Value->Heap->Prop} (hv:ref08_Exact_vc a b c d e f g i j k l m n o p q r s t u v w y z a0 a1 a2 a3 h R):CallsU Tryz.prog 33 [.agg #[.bool a,.slice b c d,.slice e f g,.bool i,.slice j k l,.slice m n o],.agg #[.bool p,.slice q r s,.slice t u v,.bool w,.slice y z a0,.slice a1 a2 a3]] h R:=
 fn_ok Tryz.func33 (fun _=>false) .nil hv
def ref08_Of_vc (a:Int) (b:Int) (h:Heap) (R:Value->Heap->Prop):Prop:=
 CallsU Tryz.prog 67 [.int .i64 a] h fun r s=>
 ∃ c d e f g i j,r = .agg #[.bool c,.slice d e f,.slice g i j]/\
 CallsU Tryz.prog 67 [.int .i64 b] s fun t u=>
 ∃ k l m n o p q,t = .agg #[.bool k,.slice l m n,.slice o p q]/\
 R (.agg #[.bool c,.slice d e f,.slice g i j,.bool k,.slice l m n,.slice o p q]) u
theorem ref08_Of_ok {a:Int} {b:Int} {h:Heap} {R:Value->Heap->Prop} (hv:ref08_Of_vc a b h R):CallsU Tryz.prog 34 [.int .i64 a,.int .i64 b] h R:=
 fn_ok Tryz.func34 (fun _=>false) .nil hv
def ref08_Add_vc (a:Bool) (b:OA) (c d:Nat) (e:OA) (f g:Nat) (i:Bool) (j:OA) (k l:Nat) (m:OA) (n o:Nat) (p:Bool) (q:OA) (r s:Nat) (t:OA) (u v:Nat) (w:Bool) (y:OA) (z a0:Nat) (a1:OA) (a2 a3:Nat) (h:Heap) (R:Value->Heap->Prop):Prop:=
 CallsU Tryz.prog 68 [.agg #[.bool a,.slice b c d,.slice e f g],.agg #[.bool p,.slice q r s,.slice t u v]] h fun b8 b9=>
 ∃ a4 a5 a6 a7 a8 a9 b0,b8 = .agg #[.bool a4,.slice a5 a6 a7,.slice a8 a9 b0]/\
 LeH h b9/\
 CallsU Tryz.prog 68 [.agg #[.bool i,.slice j k l,.slice m n o],.agg #[.bool w,.slice y z a0,.slice a1 a2 a3]] b9 fun c0 c1=>
 ∃ b1 b2 b3 b4 b5 b6 b7,c0 = .agg #[.bool b1,.slice b2 b3 b4,.slice b5 b6 b7]/\
 R (.agg #[.bool a4,.slice a5 a6 a7,.slice a8 a9 b0,.bool b1,.slice b2 b3 b4,.slice b5 b6 b7]) c1
theorem ref08_Add_ok {a:Bool} {b:OA} {c d:Nat} {e:OA} {f g:Nat} {i:Bool} {j:OA} {k l:Nat} {m:OA} {n o:Nat} {p:Bool} {q:OA} {r s:Nat} {t:OA} {u v:Nat} {w:Bool} {y:OA} {z a0:Nat} {a1:OA} {a2 a3:Nat} {h:Heap} {R:Value->Heap->Prop} (hv:ref08_Add_vc a b c d e f g i j k l m n o p q r s t u v w y z a0 a1 a2 a3 h R):CallsU Tryz.prog 35 [.agg #[.bool a,.slice b c d,.slice e f g,.bool i,.slice j k l,.slice m n o],.agg #[.bool p,.slice q r s,.slice t u v,.bool w,.slice y z a0,.slice a1 a2 a3]] h R:=
 fn_ok Tryz.func35 (fun _=>false) (.two .nil (.two (.ord [0,1,2,3,5,6,7,8,4,9,10,11]) .nil)) hv
def ref03_Of_vc (a:Int) (b:Int) (h:Heap) (R:Value->Heap->Prop):Prop:=
 Br ((b:Int)==0)
 (R (.tuple #[.agg #[.bool false,.slice none 0 0,.slice none 0 0],.bool false]) h)
 (CallsU Tryz.prog 69 [.int .i64 a] h fun s t=>
 ∃ c d e f,s = .agg #[.bool c,.slice d e f]/\
 CallsU Tryz.prog 69 [.int .i64 b] t fun u v=>
 ∃ g i j k,u = .agg #[.bool g,.slice i j k]/\
 CallsU Tryz.prog 70 [.bool (!(c==g)),.slice d e f,.slice i j k] v fun w y=>
 ∃ l m n o p q r,w = .agg #[.bool l,.slice m n o,.slice p q r]/\
 R (.tuple #[.agg #[.bool l,.slice m n o,.slice p q r],.bool true]) y)
theorem ref03_Of_ok {a:Int} {b:Int} {h:Heap} {R:Value->Heap->Prop} (hv:ref03_Of_vc a b h R):CallsU Tryz.prog 36 [.int .i64 a,.int .i64 b] h R:=
 fn_ok Tryz.func36 (fun _=>false) .nil hv
def ref17_Small_vc (a:Int) (b:Bool) (c:OA) (d e:Nat) (f:OA) (g i:Nat) (j:ByteArray) (k:OA) (l m:Nat) (h:Heap) (R:Value->Heap->Prop):Prop:=
 CallsU Tryz.prog 88 [.agg #[.int .i64 a,.bool b,.slice c d e,.slice f g i,.string j,.slice k l m],.int .i64 60,.int .i64 20] h fun o p=>
 ∃ n,o = .int .i64 n/\
 R (.bool (decide (n>=0))) p
theorem ref17_Small_ok {a:Int} {b:Bool} {c:OA} {d e:Nat} {f:OA} {g i:Nat} {j:ByteArray} {k:OA} {l m:Nat} {h:Heap} {R:Value->Heap->Prop} (hv:ref17_Small_vc a b c d e f g i j k l m h R):CallsU Tryz.prog 45 [.agg #[.int .i64 a,.bool b,.slice c d e,.slice f g i,.string j,.slice k l m]] h R:=
 fn_ok Tryz.func45 (fun _=>false) .nil hv
def ref19_names_vc (a:OA) (b _c:Nat) (d:OA) (e _f:Nat) (h:Heap) (R:Value->Heap->Prop):Prop:=
 Br ((b:Int) != (e:Int))
 (R (.bool false) h)
 (∃ g:Nat->Int->Heap->Prop,(∃ i,g i 0 h)/\
 ∀ (i:Nat) (p:Int) (q:Heap),g i p q->
 Br (decide (p<(b:Int)))
 (∃ j:Addr,a=some j/\0<=p/\p<(b:Int)/\
 ∃ k,LdN q (Addr.add j (Int.toNat p*1)) [.string k]/\
 ∃ l:Addr,d=some l/\0<=p/\p<(e:Int)/\
 ∃ m,LdN q (Addr.add l (Int.toNat p*1)) [.string m]/\
 Br (!(k.toList==m.toList))
 (R (.bool false) q)
 (∀ o:Int,o=IntKind.i64.wrap (p+1)->
 ∃ n,n<i/\g n o q))
 (R (.bool true) q))
theorem ref19_names_ok {a:OA} {b c:Nat} {d:OA} {e f:Nat} {h:Heap} {R:Value->Heap->Prop} (hv:ref19_names_vc a b c d e f h R):CallsU Tryz.prog 53 [.slice a b c,.slice d e f] h R:=
 fn_ok Tryz.func53 (fun _=>false) (.two .nil (.two .nil (.two (.two .nil (.one (.loop ⟨[(5,Sh.int .i64)],[]⟩ (.two .nil (.two (.one (.two (.ord [0,1,2,3,4,5,6,7,8]) .nil)) .nil))))) .nil))) hv
def ref17_Same_vc (a:Int) (b:Bool) (c:OA) (d e:Nat) (f:OA) (g i:Nat) (j:ByteArray) (k:OA) (l _m:Nat) (n:Int) (o:Bool) (p:OA) (q r:Nat) (s:OA) (t u:Nat) (v:ByteArray) (w:OA) (y _z:Nat) (h:Heap) (R:Value->Heap->Prop):Prop:=
 ∃ a0:Bool->Heap->Prop,(∀ (d3:Bool) (d4:Heap),a0 d3 d4->
 Br (d3)
 (R (.bool false) d4)
 (∃ a1:Nat->Int->Heap->Prop,(∃ a2,a1 a2 0 d4)/\
 ∀ (a2:Nat) (d5:Int) (d6:Heap),a1 a2 d5 d6->
 Br (decide (d5<(l:Int)))
 (∃ a3:Addr,k=some a3/\0<=d5/\d5<(l:Int)/\
 ∃ a4 a5 a6 a7 a8 a9 b0 b1 b2 b3 b4 b5,LdN d6 (Addr.add a3 (Int.toNat d5*6)) [.int .i64 a4,.bool a5,.slice a6 a7 a8,.slice a9 b0 b1,.string b2,.slice b3 b4 b5]/\
 ∃ b6:Addr,w=some b6/\0<=d5/\d5<(y:Int)/\
 ∃ b7 b8 b9 c0 c1 c2 c3 c4 c5 c6 c7 c8,LdN d6 (Addr.add b6 (Int.toNat d5*6)) [.int .i64 b7,.bool b8,.slice b9 c0 c1,.slice c2 c3 c4,.string c5,.slice c6 c7 c8]/\
 CallsU Tryz.prog 54 [.agg #[.int .i64 a4,.bool a5,.slice a6 a7 a8,.slice a9 b0 b1,.string b2,.slice b3 b4 b5],.agg #[.int .i64 b7,.bool b8,.slice b9 c0 c1,.slice c2 c3 c4,.string c5,.slice c6 c7 c8]] d6 fun d7 d8=>
 ∃ c9,d7 = .bool c9/\
 Br (!c9)
 (R (.bool false) d8)
 (∀ d2:Int,d2=IntKind.i64.wrap (d5+1)->
 ∃ d0,d0<a2/\a1 d0 d2 d8))
 (R (.bool true) d6)))/\
 Br ((a:Int) != n)
 (a0 true h)
 (Br (!(j.toList==v.toList))
 (a0 true h)
 (CallsU Tryz.prog 101 [.agg #[.bool b,.slice c d e,.slice f g i],.agg #[.bool o,.slice p q r,.slice s t u]] h fun d9 e0=>
 ∃ d1,d9 = .int .i64 d1/\
 Br ((d1:Int) != 0)
 (a0 true e0)
 (a0 ((l:Int) != (y:Int)) e0)))
theorem ref17_Same_ok {a:Int} {b:Bool} {c:OA} {d e:Nat} {f:OA} {g i:Nat} {j:ByteArray} {k:OA} {l m:Nat} {n:Int} {o:Bool} {p:OA} {q r:Nat} {s:OA} {t u:Nat} {v:ByteArray} {w:OA} {y z:Nat} {h:Heap} {R:Value->Heap->Prop} (hv:ref17_Same_vc a b c d e f g i j k l m n o p q r s t u v w y z h R):CallsU Tryz.prog 54 [.agg #[.int .i64 a,.bool b,.slice c d e,.slice f g i,.string j,.slice k l m],.agg #[.int .i64 n,.bool o,.slice p q r,.slice s t u,.string v,.slice w y z]] h R:=
 fn_ok Tryz.func54 (fun _=>false) (.two .nil (.two (.cut ⟨[(34,Sh.bool)],[]⟩ .nil .nil) (.two (.two .nil (.one (.loop ⟨[(5,Sh.int .i64)],[]⟩ (.two .nil (.two (.one (.two (.ord [0,1,2,3,4,5,6,7,8,9,10,11]) .nil)) .nil))))) .nil))) hv
def ref03_Whole_vc (n:Int) (h:Heap) (R:Value->Heap->Prop):Prop:=
 CallsU Tryz.prog 69 [.int .i64 n] h fun i j=>
 ∃ a b c d,i = .agg #[.bool a,.slice b c d]/\
 CallsU Tryz.prog 116 [.int .u64 1] j fun k l=>
 ∃ e f g,k = .slice e f g/\
 R (.agg #[.bool a,.slice b c d,.slice e f g]) l
theorem ref03_Whole_ok {n:Int} {h:Heap} {R:Value->Heap->Prop} (hv:ref03_Whole_vc n h R):CallsU Tryz.prog 65 [.int .i64 n] h R:=
 fn_ok Tryz.func65 (fun _=>false) .nil hv
def ref08_SameRatio_vc (a:Bool) (b:OA) (c d:Nat) (e:OA) (f g:Nat) (i:Bool) (j:OA) (k l:Nat) (m:OA) (n o:Nat) (h:Heap) (R:Value->Heap->Prop):Prop:=
 CallsU Tryz.prog 117 [.agg #[.bool a,.slice b c d],.agg #[.bool i,.slice j k l]] h fun r s=>
 ∃ p,r = .bool p/\
 Br (p)
 (CallsU Tryz.prog 118 [.slice e f g,.slice m n o] s fun t u=>
 ∃ q,t = .bool q/\
 R (.bool q) u)
 (R (.bool false) s)
theorem ref08_SameRatio_ok {a:Bool} {b:OA} {c d:Nat} {e:OA} {f g:Nat} {i:Bool} {j:OA} {k l:Nat} {m:OA} {n o:Nat} {h:Heap} {R:Value->Heap->Prop} (hv:ref08_SameRatio_vc a b c d e f g i j k l m n o h R):CallsU Tryz.prog 66 [.agg #[.bool a,.slice b c d,.slice e f g],.agg #[.bool i,.slice j k l,.slice m n o]] h R:=
 fn_ok Tryz.func66 (fun _=>false) .nil hv
def ref08_whole_vc (n:Int) (h:Heap) (R:Value->Heap->Prop):Prop:=
 CallsU Tryz.prog 36 [.int .i64 n,.int .i64 1] h fun j k=>
 ∃ a b c d e f g i,j = .tuple #[.agg #[.bool a,.slice b c d,.slice e f g],.bool i]/\
 R (.agg #[.bool a,.slice b c d,.slice e f g]) k
theorem ref08_whole_ok {n:Int} {h:Heap} {R:Value->Heap->Prop} (hv:ref08_whole_vc n h R):CallsU Tryz.prog 67 [.int .i64 n] h R:=
 fn_ok Tryz.func67 (fun _=>false) .nil hv
def ref03_Add_vc (a:Bool) (b:OA) (c d:Nat) (e:OA) (f g:Nat) (i:Bool) (j:OA) (k l:Nat) (m:OA) (n o:Nat) (h:Heap) (R:Value->Heap->Prop):Prop:=
 CallsU Tryz.prog 119 [.agg #[.bool a,.slice b c d,.slice e f g]] h fun c6 c7=>
 ∃ p q r s t u v,c6 = .agg #[.bool p,.slice q r s,.slice t u v]/\
 LeH h c7/\
 CallsU Tryz.prog 119 [.agg #[.bool i,.slice j k l,.slice m n o]] c7 fun c8 c9=>
 ∃ w y z a0 a1 a2 a3,c8 = .agg #[.bool w,.slice y z a0,.slice a1 a2 a3]/\
 CallsU Tryz.prog 121 [.agg #[.bool p,.slice q r s],.agg #[.bool false,.slice a1 a2 a3]] c9 fun d0 d1=>
 ∃ a4 a5 a6 a7,d0 = .agg #[.bool a4,.slice a5 a6 a7]/\
 LeH c9 d1/\
 CallsU Tryz.prog 121 [.agg #[.bool w,.slice y z a0],.agg #[.bool false,.slice t u v]] d1 fun d2 d3=>
 ∃ a8 a9 b0 b1,d2 = .agg #[.bool a8,.slice a9 b0 b1]/\
 CallsU Tryz.prog 120 [.agg #[.bool a4,.slice a5 a6 a7],.agg #[.bool a8,.slice a9 b0 b1]] d3 fun d4 d5=>
 ∃ b2 b3 b4 b5,d4 = .agg #[.bool b2,.slice b3 b4 b5]/\
 CallsU Tryz.prog 122 [.slice t u v,.slice a1 a2 a3] d5 fun d6 d7=>
 ∃ b6 b7 b8,d6 = .slice b6 b7 b8/\
 LeH d5 d7/\
 CallsU Tryz.prog 70 [.bool b2,.slice b3 b4 b5,.slice b6 b7 b8] d7 fun d8 d9=>
 ∃ b9 c0 c1 c2 c3 c4 c5,d8 = .agg #[.bool b9,.slice c0 c1 c2,.slice c3 c4 c5]/\
 R (.agg #[.bool b9,.slice c0 c1 c2,.slice c3 c4 c5]) d9
theorem ref03_Add_ok {a:Bool} {b:OA} {c d:Nat} {e:OA} {f g:Nat} {i:Bool} {j:OA} {k l:Nat} {m:OA} {n o:Nat} {h:Heap} {R:Value->Heap->Prop} (hv:ref03_Add_vc a b c d e f g i j k l m n o h R):CallsU Tryz.prog 68 [.agg #[.bool a,.slice b c d,.slice e f g],.agg #[.bool i,.slice j k l,.slice m n o]] h R:=
 fn_ok Tryz.func68 (fun _=>false) (.two .nil (.two (.ord [0,2,1,3,4,5,6,7]) (.two (.ord [0,1,2,3,4,6,7,8,9,10,5,11,12,13,14]) (.two (.ord [0,1,2,3,4,5,6,7,8,9,10]) .nil)))) hv
def ref02_Of_vc (n:Int) (h:Heap) (R:Value->Heap->Prop):Prop:=
 Br (decide (n<0))
 (∀ g:Int,g=IntKind.i64.wrap (n+1)->
 ∀ i:Int,i=IntKind.i64.wrap (0-g)->
 ∀ j:Int,j=IntKind.u64.wrap ((IntKind.u64.wrap i)+1)->
 CallsU Tryz.prog 116 [.int .u64 j] h fun k l=>
 ∃ a b c,k = .slice a b c/\
 R (.agg #[.bool true,.slice a b c]) l)
 (CallsU Tryz.prog 116 [.int .u64 (IntKind.u64.wrap n)] h fun m o=>
 ∃ d e f,m = .slice d e f/\
 R (.agg #[.bool false,.slice d e f]) o)
theorem ref02_Of_ok {n:Int} {h:Heap} {R:Value->Heap->Prop} (hv:ref02_Of_vc n h R):CallsU Tryz.prog 69 [.int .i64 n] h R:=
 fn_ok Tryz.func69 (fun _=>false) .nil hv
def ref03_reduce_vc (a:Bool) (b:OA) (c d:Nat) (e:OA) (f g:Nat) (h:Heap) (R:Value->Heap->Prop):Prop:=
 CallsU Tryz.prog 123 [.slice b c d,.slice e f g] h fun a4 a5=>
 ∃ i j k,a4 = .slice i j k/\
 CallsU Tryz.prog 124 [.slice b c d,.slice i j k] a5 fun a6 a7=>
 ∃ l m n o p q r,a6 = .tuple #[.slice l m n,.slice o p q,.bool r]/\
 CallsU Tryz.prog 124 [.slice e f g,.slice i j k] a7 fun a8 a9=>
 ∃ s t u v w y z,a8 = .tuple #[.slice s t u,.slice v w y,.bool z]/\
 CallsU Tryz.prog 125 [.agg #[.bool a,.slice l m n]] a9 fun b0 b1=>
 ∃ a0 a1 a2 a3,b0 = .agg #[.bool a0,.slice a1 a2 a3]/\
 R (.agg #[.bool a0,.slice a1 a2 a3,.slice s t u]) b1
theorem ref03_reduce_ok {a:Bool} {b:OA} {c d:Nat} {e:OA} {f g:Nat} {h:Heap} {R:Value->Heap->Prop} (hv:ref03_reduce_vc a b c d e f g h R):CallsU Tryz.prog 70 [.bool a,.slice b c d,.slice e f g] h R:=
 fn_ok Tryz.func70 (fun _=>false) .nil hv
def ref17_Left_vc (_a:Int) (_b:Bool) (_c:OA) (d _e:Nat) (_f:OA) (g _i:Nat) (j:ByteArray) (k:OA) (l _m:Nat) (n:Int) (o:Int) (h:Heap) (R:Value->Heap->Prop):Prop:=
 ∃ p:Bool->Heap->Prop,(∀ (b2:Bool) (b3:Heap),p b2 b3->
 Br (b2)
 (R (.int .i64 (-1)) b3)
 (∀ a9:Int,a9=IntKind.i64.wrap (n-1)->
 ∃ q:Nat->Int->Int->Heap->Prop,(∃ r,q r a9 0 b3)/\
 ∀ (r:Nat) (b4:Int) (b5:Int) (b6:Heap),q r b4 b5 b6->
 ∃ s:Bool->Heap->Prop,(∀ (b7:Bool) (b8:Heap),s b7 b8->
 Br (b7)
 (∃ t:Addr,k=some t/\0<=b5/\b5<(l:Int)/\
 ∃ u v w y z a0 a1 a2 a3 a4 a5 a6,LdN b8 (Addr.add t (Int.toNat b5*6)) [.int .i64 u,.bool v,.slice w y z,.slice a0 a1 a2,.string a3,.slice a4 a5 a6]/\
 ∀ b0:Int,b0=IntKind.i64.wrap (o-1)->
 CallsU Tryz.prog 88 [.agg #[.int .i64 u,.bool v,.slice w y z,.slice a0 a1 a2,.string a3,.slice a4 a5 a6],.int .i64 b4,.int .i64 b0] b8 fun b9 c0=>
 ∃ a7,b9 = .int .i64 a7/\
 ∀ b1:Int,b1=IntKind.i64.wrap (b5+1)->
 ∃ a8,a8<r/\q a8 a7 b1 c0)
 (R (.int .i64 b4) b8))/\
 Br (decide (b5<(l:Int)))
 (s (decide (b4>=0)) b6)
 (s false b6)))/\
 Br (decide (n<1))
 (p true h)
 (Br (decide (o<1))
 (p true h)
 (Br (decide ((j.size:Int)>60))
 (p true h)
 (Br (decide ((d:Int)>4))
 (p true h)
 (p (decide ((g:Int)>4)) h))))
theorem ref17_Left_ok {a:Int} {b:Bool} {c:OA} {d e:Nat} {f:OA} {g i:Nat} {j:ByteArray} {k:OA} {l m:Nat} {n:Int} {o:Int} {h:Heap} {R:Value->Heap->Prop} (hv:ref17_Left_vc a b c d e f g i j k l m n o h R):CallsU Tryz.prog 88 [.agg #[.int .i64 a,.bool b,.slice c d e,.slice f g i,.string j,.slice k l m],.int .i64 n,.int .i64 o] h R:=
 fn_ok Tryz.func88 (fun _=>false) (.two .nil (.two (.cut ⟨[(34,Sh.bool)],[]⟩ .nil .nil) (.two .nil (.two (.two .nil (.one (.loop ⟨[(1,Sh.int .i64),(7,Sh.int .i64)],[]⟩ (.two (.cut ⟨[(45,Sh.bool)],[]⟩ .nil .nil) .nil)))) .nil)))) hv
def ref03_Cmp_vc (a:Bool) (b:OA) (c d:Nat) (e:OA) (f g:Nat) (i:Bool) (j:OA) (k l:Nat) (m:OA) (n o:Nat) (h:Heap) (R:Value->Heap->Prop):Prop:=
 CallsU Tryz.prog 119 [.agg #[.bool a,.slice b c d,.slice e f g]] h fun b3 b4=>
 ∃ p q r s t u v,b3 = .agg #[.bool p,.slice q r s,.slice t u v]/\
 LeH h b4/\
 CallsU Tryz.prog 119 [.agg #[.bool i,.slice j k l,.slice m n o]] b4 fun b5 b6=>
 ∃ w y z a0 a1 a2 a3,b5 = .agg #[.bool w,.slice y z a0,.slice a1 a2 a3]/\
 CallsU Tryz.prog 121 [.agg #[.bool p,.slice q r s],.agg #[.bool false,.slice a1 a2 a3]] b6 fun b7 b8=>
 ∃ a4 a5 a6 a7,b7 = .agg #[.bool a4,.slice a5 a6 a7]/\
 LeH b6 b8/\
 CallsU Tryz.prog 121 [.agg #[.bool w,.slice y z a0],.agg #[.bool false,.slice t u v]] b8 fun b9 c0=>
 ∃ a8 a9 b0 b1,b9 = .agg #[.bool a8,.slice a9 b0 b1]/\
 CallsU Tryz.prog 172 [.agg #[.bool a4,.slice a5 a6 a7],.agg #[.bool a8,.slice a9 b0 b1]] c0 fun c1 c2=>
 ∃ b2,c1 = .int .i64 b2/\
 R (.int .i64 b2) c2
theorem ref03_Cmp_ok {a:Bool} {b:OA} {c d:Nat} {e:OA} {f g:Nat} {i:Bool} {j:OA} {k l:Nat} {m:OA} {n o:Nat} {h:Heap} {R:Value->Heap->Prop} (hv:ref03_Cmp_vc a b c d e f g i j k l m n o h R):CallsU Tryz.prog 101 [.agg #[.bool a,.slice b c d,.slice e f g],.agg #[.bool i,.slice j k l,.slice m n o]] h R:=
 fn_ok Tryz.func101 (fun _=>false) (.two .nil (.two (.ord [0,2,1,3,4,5,6,7]) (.two (.ord [0,1,2,3,4,6,7,8,9,10,5,11,12,13]) .nil))) hv
def ref01_Of_vc (n:Int) (h:Heap) (R:Value->Heap->Prop):Prop:=
 ∃ a:Nat->Int->OA->Nat->Nat->Heap->Prop,(∃ b,a b n none 0 0 h)/\
 ∀ (b:Nat) (k:Int) (l:OA) (m o:Nat) (p:Heap),a b k l m o p->
 Br (decide (k>0))
 (∀ f:Int,f=(Int.tmod k 4294967296)->
 ∀ (q:Nat) (r:Heap),p q=none->r=Heap.put p q ⟨[.int .u32 (IntKind.u32.wrap f)],166,(0,0)⟩->
 ∃ c:List Value,RdS r (some ⟨q,0,none⟩) (1*1) c/\(∀ x∈c,Go.Vcg.one x=true)/\
 (m+1<=o-> ∃ (s:Addr) (t:Blk),l=some s/\s.spot=none/\r s.block=some t/\t.fz=(0,0)/\s.off+m*1+1*1<=t.cells.length/\
 ∀ g:Heap,g=Heap.put r s.block { t with cells:=setSeg t.cells (s.off+m*1) c }->
 ∀ i:Int,i=IntKind.u64.wrap (Int.tdiv k 4294967296)->
 ∃ d,d<b/\a d i l (m+1) o g)/\
 (o<m+1-> ∃ e:List Value,RdS r l (m*1) e/\(m+1)*4<=140737488355328/\
 ∀ (u v:Nat) (w:Heap),r u=none->m+1<=v->w=Heap.put r u ⟨e++c++repV [.int .u32 0] (v-(m+1)),166,(0,0)⟩->
 ∀ j:Int,j=IntKind.u64.wrap (Int.tdiv k 4294967296)->
 ∃ d,d<b/\a d j (some ⟨u,0,none⟩) (m+1) v w))
 (R (.slice l m o) p)
theorem ref01_Of_ok {n:Int} {h:Heap} {R:Value->Heap->Prop} (hv:ref01_Of_vc n h R):CallsU Tryz.prog 116 [.int .u64 n] h R:=
 fn_ok Tryz.func116 (fun _=>false) (.two .nil (.two .nil (.two (.one (.loop ⟨[(0,Sh.int .u64),(3,Sh.slice)],[]⟩ .nil)) .nil))) hv
def ref02_Same_vc (a:Bool) (b:OA) (c _d:Nat) (e:Bool) (f:OA) (g _i:Nat) (h:Heap) (R:Value->Heap->Prop):Prop:=
 ∃ j:Bool->Heap->Prop,(∀ (s:Bool) (t:Heap),j s t->
 Br (s)
 (R (.bool false) t)
 (∃ k:Nat->Int->Heap->Prop,(∃ l,k l 0 t)/\
 ∀ (l:Nat) (u:Int) (v:Heap),k l u v->
 Br (decide (u<(c:Int)))
 (∃ m:Addr,b=some m/\0<=u/\u<(c:Int)/\
 ∃ n,LdN v (Addr.add m (Int.toNat u*1)) [.int .u32 n]/\
 ∃ o:Addr,f=some o/\0<=u/\u<(g:Int)/\
 ∃ p,LdN v (Addr.add o (Int.toNat u*1)) [.int .u32 p]/\
 Br ((n:Int) != p)
 (R (.bool false) v)
 (∀ r:Int,r=IntKind.i64.wrap (u+1)->
 ∃ q,q<l/\k q r v))
 (R (.bool true) v)))/\
 Br (!(a==e))
 (j true h)
 (j ((c:Int) != (g:Int)) h)
theorem ref02_Same_ok {a:Bool} {b:OA} {c d:Nat} {e:Bool} {f:OA} {g i:Nat} {h:Heap} {R:Value->Heap->Prop} (hv:ref02_Same_vc a b c d e f g i h R):CallsU Tryz.prog 117 [.agg #[.bool a,.slice b c d],.agg #[.bool e,.slice f g i]] h R:=
 fn_ok Tryz.func117 (fun _=>false) (.two .nil (.two (.cut ⟨[(19,Sh.bool)],[]⟩ .nil .nil) (.two (.two .nil (.one (.loop ⟨[(5,Sh.int .i64)],[]⟩ (.two .nil (.two (.one (.two (.ord [0,1,2,3,4,5,6,7,8,9,10]) .nil)) .nil))))) .nil))) hv
def ref08_sameNat_vc (a:OA) (b _c:Nat) (d:OA) (e _f:Nat) (h:Heap) (R:Value->Heap->Prop):Prop:=
 Br ((b:Int) != (e:Int))
 (R (.bool false) h)
 (∃ g:Nat->Int->Heap->Prop,(∃ i,g i 0 h)/\
 ∀ (i:Nat) (p:Int) (q:Heap),g i p q->
 Br (decide (p<(b:Int)))
 (∃ j:Addr,a=some j/\0<=p/\p<(b:Int)/\
 ∃ k,LdN q (Addr.add j (Int.toNat p*1)) [.int .u32 k]/\
 ∃ l:Addr,d=some l/\0<=p/\p<(e:Int)/\
 ∃ m,LdN q (Addr.add l (Int.toNat p*1)) [.int .u32 m]/\
 Br ((k:Int) != m)
 (R (.bool false) q)
 (∀ o:Int,o=IntKind.i64.wrap (p+1)->
 ∃ n,n<i/\g n o q))
 (R (.bool true) q))
theorem ref08_sameNat_ok {a:OA} {b c:Nat} {d:OA} {e f:Nat} {h:Heap} {R:Value->Heap->Prop} (hv:ref08_sameNat_vc a b c d e f h R):CallsU Tryz.prog 118 [.slice a b c,.slice d e f] h R:=
 fn_ok Tryz.func118 (fun _=>false) (.two .nil (.two .nil (.two (.two .nil (.one (.loop ⟨[(5,Sh.int .i64)],[]⟩ (.two .nil (.two (.one (.two (.ord [0,1,2,3,4,5,6,7,8]) .nil)) .nil))))) .nil))) hv
def ref03_Norm_vc (a:Bool) (b:OA) (c d:Nat) (e:OA) (f g:Nat) (h:Heap) (R:Value->Heap->Prop):Prop:=
 CallsU Tryz.prog 188 [.agg #[.bool a,.slice b c d,.slice e f g]] h fun y z=>
 ∃ i,y = .bool i/\
 Br (i)
 (CallsU Tryz.prog 65 [.int .i64 0] z fun a0 a1=>
 ∃ j k l m n o p,a0 = .agg #[.bool j,.slice k l m,.slice n o p]/\
 R (.agg #[.bool j,.slice k l m,.slice n o p]) a1)
 (CallsU Tryz.prog 70 [.bool a,.slice b c d,.slice e f g] z fun a2 a3=>
 ∃ q r s t u v w,a2 = .agg #[.bool q,.slice r s t,.slice u v w]/\
 R (.agg #[.bool q,.slice r s t,.slice u v w]) a3)
theorem ref03_Norm_ok {a:Bool} {b:OA} {c d:Nat} {e:OA} {f g:Nat} {h:Heap} {R:Value->Heap->Prop} (hv:ref03_Norm_vc a b c d e f g h R):CallsU Tryz.prog 119 [.agg #[.bool a,.slice b c d,.slice e f g]] h R:=
 fn_ok Tryz.func119 (fun _=>false) .nil hv
def ref02_Add_vc (a:Bool) (b:OA) (c d:Nat) (e:Bool) (f:OA) (g i:Nat) (h:Heap) (R:Value->Heap->Prop):Prop:=
 Br (a==e)
 (CallsU Tryz.prog 190 [.slice b c d,.slice f g i] h fun a7 a8=>
 ∃ j k l,a7 = .slice j k l/\
 LeH h a8/\
 CallsU Tryz.prog 189 [.bool a,.slice j k l] a8 fun a9 b0=>
 ∃ m n o p,a9 = .agg #[.bool m,.slice n o p]/\
 R (.agg #[.bool m,.slice n o p]) b0)
 (CallsU Tryz.prog 191 [.slice b c d,.slice f g i] h fun b1 b2=>
 ∃ q r s t,b1 = .tuple #[.slice q r s,.bool t]/\
 Br (t)
 (CallsU Tryz.prog 189 [.bool a,.slice q r s] b2 fun b3 b4=>
 ∃ u v w y,b3 = .agg #[.bool u,.slice v w y]/\
 R (.agg #[.bool u,.slice v w y]) b4)
 (CallsU Tryz.prog 191 [.slice f g i,.slice b c d] b2 fun b5 b6=>
 ∃ z a0 a1 a2,b5 = .tuple #[.slice z a0 a1,.bool a2]/\
 CallsU Tryz.prog 189 [.bool e,.slice z a0 a1] b6 fun b7 b8=>
 ∃ a3 a4 a5 a6,b7 = .agg #[.bool a3,.slice a4 a5 a6]/\
 R (.agg #[.bool a3,.slice a4 a5 a6]) b8))
theorem ref02_Add_ok {a:Bool} {b:OA} {c d:Nat} {e:Bool} {f:OA} {g i:Nat} {h:Heap} {R:Value->Heap->Prop} (hv:ref02_Add_vc a b c d e f g i h R):CallsU Tryz.prog 120 [.agg #[.bool a,.slice b c d],.agg #[.bool e,.slice f g i]] h R:=
 fn_ok Tryz.func120 (fun _=>false) (.two .nil (.two (.two .nil (.two (.two (.ord [0,1,2,3,4,5,6,7,8]) .nil) .nil)) .nil)) hv
def ref02_Mul_vc (a:Bool) (b:OA) (c d:Nat) (e:Bool) (f:OA) (g i:Nat) (h:Heap) (R:Value->Heap->Prop):Prop:=
 CallsU Tryz.prog 122 [.slice b c d,.slice f g i] h fun q r=>
 ∃ j k l,q = .slice j k l/\
 LeH h r/\
 CallsU Tryz.prog 189 [.bool (!(a==e)),.slice j k l] r fun s t=>
 ∃ m n o p,s = .agg #[.bool m,.slice n o p]/\
 R (.agg #[.bool m,.slice n o p]) t
theorem ref02_Mul_ok {a:Bool} {b:OA} {c d:Nat} {e:Bool} {f:OA} {g i:Nat} {h:Heap} {R:Value->Heap->Prop} (hv:ref02_Mul_vc a b c d e f g i h R):CallsU Tryz.prog 121 [.agg #[.bool a,.slice b c d],.agg #[.bool e,.slice f g i]] h R:=
 fn_ok Tryz.func121 (fun _=>false) (.two .nil (.two (.ord [0,1,2,3,4,5,6,7,8,9,10,11]) .nil)) hv
def ref01_Mul_vc (a:OA) (b c:Nat) (d:OA) (e f:Nat) (h:Heap) (R:Value->Heap->Prop):Prop:=
 ∀ y:Int,y=IntKind.i64.wrap ((b:Int)+(e:Int))->
 0<=y/\y<=y/\y*4<=140737488355328/\y<=9223372036854775807/\
 ∀ (b1:Nat) (b2:Heap),h b1=none->b2=Heap.put h b1 ⟨repV [.int .u32 0] (Int.toNat y),166,(0,0)⟩->
 ∃ g:Nat->Int->Heap->Prop,(∃ i,g i 0 b2)/\
 ∀ (i:Nat) (b3:Int) (b4:Heap),g i b3 b4->
 Br (decide (b3<(b:Int)))
 (∃ j:Nat->Int->Int->Heap->Prop,(∃ k,j k 0 0 b4)/\
 ∀ (k:Nat) (b5:Int) (b6:Int) (b7:Heap),j k b5 b6 b7->
 Br (decide (b6<(e:Int)))
 (CallsU Tryz.prog 192 [.slice a b c,.int .i64 b3] b7 fun b8 b9=>
 ∃ l,b8 = .int .u64 l/\
 CallsU Tryz.prog 192 [.slice d e f,.int .i64 b6] b9 fun c0 c1=>
 ∃ m,c0 = .int .u64 m/\
 ∀ z:Int,z=IntKind.u64.wrap (l*m)->
 ∀ a0:Int,a0=IntKind.i64.wrap (b3+b6)->
 CallsU Tryz.prog 192 [.slice (some ⟨b1,0,none⟩) (Int.toNat y) (Int.toNat y),.int .i64 a0] c1 fun c2 c3=>
 ∃ n,c2 = .int .u64 n/\
 ∀ a1:Int,a1=IntKind.u64.wrap (z+n)->
 ∀ a2:Int,a2=IntKind.u64.wrap (a1+b5)->
 ∀ a3:Int,a3=IntKind.i64.wrap (b3+b6)->
 ∀ a4:Int,a4=(Int.tmod a2 4294967296)->
 ∃ o:Addr,some ⟨b1,0,none⟩=some o/\0<=a3/\a3<(((Int.toNat y):Nat):Int)/\
 ∃ p:Blk,c3 (Addr.block (Addr.add o (Int.toNat a3*1)))=some p/\p.fz=(0,0)/\Addr.spot (Addr.add o (Int.toNat a3*1))=none/\Addr.off (Addr.add o (Int.toNat a3*1))+1<=p.cells.length/\
 ∀ a5:Heap,a5=Heap.put c3 (Addr.block (Addr.add o (Int.toNat a3*1))) { p with cells:=setSeg p.cells (Addr.off (Addr.add o (Int.toNat a3*1))) [.int .u32 (IntKind.u32.wrap a4)] }->
 ∀ a6:Int,a6=IntKind.u64.wrap (Int.tdiv a2 4294967296)->
 ∀ a7:Int,a7=IntKind.i64.wrap (b6+1)->
 ∃ q,q<k/\j q a6 a7 a5)
 (∀ a8:Int,a8=IntKind.i64.wrap (b3+(e:Int))->
 ∃ r:Addr,some ⟨b1,0,none⟩=some r/\0<=a8/\a8<(((Int.toNat y):Nat):Int)/\
 ∃ s:Blk,b7 (Addr.block (Addr.add r (Int.toNat a8*1)))=some s/\s.fz=(0,0)/\Addr.spot (Addr.add r (Int.toNat a8*1))=none/\Addr.off (Addr.add r (Int.toNat a8*1))+1<=s.cells.length/\
 ∀ a9:Heap,a9=Heap.put b7 (Addr.block (Addr.add r (Int.toNat a8*1))) { s with cells:=setSeg s.cells (Addr.off (Addr.add r (Int.toNat a8*1))) [.int .u32 (IntKind.u32.wrap b5)] }->
 ∀ b0:Int,b0=IntKind.i64.wrap (b3+1)->
 ∃ t,t<i/\g t b0 a9))
 (CallsU Tryz.prog 185 [.slice (some ⟨b1,0,none⟩) (Int.toNat y) (Int.toNat y)] b4 fun c4 c5=>
 ∃ u v w,c4 = .slice u v w/\
 R (.slice u v w) c5)
theorem ref01_Mul_ok {a:OA} {b c:Nat} {d:OA} {e f:Nat} {h:Heap} {R:Value->Heap->Prop} (hv:ref01_Mul_vc a b c d e f h R):CallsU Tryz.prog 122 [.slice a b c,.slice d e f] h R:=
 fn_ok Tryz.func122 (fun _=>false) (.two .nil (.two .nil (.two (.two .nil (.one (.loop ⟨[(6,Sh.int .i64)],[]⟩ (.two .nil (.two (.one (.two .nil (.two (.two .nil (.one (.loop ⟨[(7,Sh.int .u64),(8,Sh.int .i64)],[]⟩ .nil))) .nil))) .nil))))) .nil))) hv
def ref01_Gcd_vc (a:OA) (b c:Nat) (d:OA) (e f:Nat) (h:Heap) (R:Value->Heap->Prop):Prop:=
 CallsU Tryz.prog 185 [.slice a b c] h fun a5 a6=>
 ∃ g i j,a5 = .slice g i j/\
 CallsU Tryz.prog 185 [.slice d e f] a6 fun a7 a8=>
 ∃ k l m,a7 = .slice k l m/\
 ∃ n:Nat->OA->Nat->Nat->OA->Nat->Nat->Heap->Prop,(∃ o,n o g i j k l m a8)/\
 ∀ (o:Nat) (y:OA) (z a0:Nat) (a1:OA) (a2 a3:Nat) (a4:Heap),n o y z a0 a1 a2 a3 a4->
 Br (decide ((a2:Int)>0))
 (CallsU Tryz.prog 124 [.slice y z a0,.slice a1 a2 a3] a4 fun a9 b0=>
 ∃ p q r s t u v,a9 = .tuple #[.slice p q r,.slice s t u,.bool v]/\
 ∃ w,w<o/\n w a1 a2 a3 s t u b0)
 (R (.slice y z a0) a4)
theorem ref01_Gcd_ok {a:OA} {b c:Nat} {d:OA} {e f:Nat} {h:Heap} {R:Value->Heap->Prop} (hv:ref01_Gcd_vc a b c d e f h R):CallsU Tryz.prog 123 [.slice a b c,.slice d e f] h R:=
 fn_ok Tryz.func123 (fun _=>false) (.two .nil (.two .nil (.two (.one (.loop ⟨[(5,Sh.slice),(6,Sh.slice)],[]⟩ .nil)) .nil))) hv
def ref01_DivMod_vc (a:OA) (b c:Nat) (d:OA) (e f:Nat) (h:Heap) (R:Value->Heap->Prop):Prop:=
 CallsU Tryz.prog 193 [.slice d e f] h fun d2 d3=>
 ∃ g,d2 = .int .i64 g/\
 Br ((g:Int)==0)
 (R (.tuple #[.slice none 0 0,.slice none 0 0,.bool false]) d3)
 (CallsU Tryz.prog 185 [.slice a b c] d3 fun d4 d5=>
 ∃ i j k,d4 = .slice i j k/\
 CallsU Tryz.prog 193 [.slice i j k] d5 fun d6 d7=>
 ∃ l,d6 = .int .i64 l/\
 CallsU Tryz.prog 193 [.slice d e f] d7 fun d8 d9=>
 ∃ m,d8 = .int .i64 m/\
 ∀ b1:Int,b1=IntKind.i64.wrap (l-m)->
 Br (decide (b1<0))
 (R (.tuple #[.slice none 0 0,.slice i j k,.bool true]) d9)
 (∀ b2:Int,b2=IntKind.i64.wrap (Int.tdiv b1 32)->
 ∀ b3:Int,b3=IntKind.i64.wrap (b2+1)->
 0<=b3/\b3<=b3/\b3*4<=140737488355328/\b3<=9223372036854775807/\
 ∀ (c2:Nat) (c3:Heap),d9 c2=none->c3=Heap.put d9 c2 ⟨repV [.int .u32 0] (Int.toNat b3),166,(0,0)⟩->
 CallsU Tryz.prog 194 [.slice d e f,.int .i64 b1] c3 fun e0 e1=>
 ∃ n o p,e0 = .slice n o p/\
 ∃ q:Nat->OA->Nat->Nat->OA->Nat->Nat->Int->Heap->Prop,(∃ r,q r i j k n o p b1 e1)/\
 ∀ (r:Nat) (c4:OA) (c5 c6:Nat) (c7:OA) (c8 c9:Nat) (d0:Int) (d1:Heap),q r c4 c5 c6 c7 c8 c9 d0 d1->
 Br (decide (d0>=0))
 (CallsU Tryz.prog 191 [.slice c4 c5 c6,.slice c7 c8 c9] d1 fun e2 e3=>
 ∃ s t u v,e2 = .tuple #[.slice s t u,.bool v]/\
 Br (v)
 (∀ b4:Int,b4=IntKind.i64.wrap (Int.tdiv d0 32)->
 ∀ b5:Int,b5=IntKind.i64.wrap (Int.tdiv d0 32)->
 ∃ w:Addr,some ⟨c2,0,none⟩=some w/\0<=b5/\b5<(((Int.toNat b3):Nat):Int)/\
 ∃ y,LdN e3 (Addr.add w (Int.toNat b5*1)) [.int .u32 y]/\
 ∀ b6:Int,b6=(Int.tmod d0 32)->
 Br (decide (IntKind.u64.wrap b6<0)) False
 (∀ b7:Int,b7=IntKind.u32.wrap (1*2^(min (Int.toNat (IntKind.u64.wrap b6)) 32:Nat))->
 ∀ b8:Int,b8=IntKind.u32.wrap (y+b7)->
 ∃ z:Addr,some ⟨c2,0,none⟩=some z/\0<=b4/\b4<(((Int.toNat b3):Nat):Int)/\
 ∃ a0:Blk,e3 (Addr.block (Addr.add z (Int.toNat b4*1)))=some a0/\a0.fz=(0,0)/\Addr.spot (Addr.add z (Int.toNat b4*1))=none/\Addr.off (Addr.add z (Int.toNat b4*1))+1<=a0.cells.length/\
 ∀ b9:Heap,b9=Heap.put e3 (Addr.block (Addr.add z (Int.toNat b4*1))) { a0 with cells:=setSeg a0.cells (Addr.off (Addr.add z (Int.toNat b4*1))) [.int .u32 b8] }->
 CallsU Tryz.prog 195 [.slice c7 c8 c9] b9 fun e4 e5=>
 ∃ a1 a2 a3,e4 = .slice a1 a2 a3/\
 ∀ c0:Int,c0=IntKind.i64.wrap (d0-1)->
 ∃ a4,a4<r/\q a4 s t u a1 a2 a3 c0 e5))
 (CallsU Tryz.prog 195 [.slice c7 c8 c9] e3 fun e6 e7=>
 ∃ a5 a6 a7,e6 = .slice a5 a6 a7/\
 ∀ c1:Int,c1=IntKind.i64.wrap (d0-1)->
 ∃ a4,a4<r/\q a4 c4 c5 c6 a5 a6 a7 c1 e7))
 (CallsU Tryz.prog 185 [.slice (some ⟨c2,0,none⟩) (Int.toNat b3) (Int.toNat b3)] d1 fun e8 e9=>
 ∃ a8 a9 b0,e8 = .slice a8 a9 b0/\
 R (.tuple #[.slice a8 a9 b0,.slice c4 c5 c6,.bool true]) e9)))
theorem ref01_DivMod_ok {a:OA} {b c:Nat} {d:OA} {e f:Nat} {h:Heap} {R:Value->Heap->Prop} (hv:ref01_DivMod_vc a b c d e f h R):CallsU Tryz.prog 124 [.slice a b c,.slice d e f] h R:=
 fn_ok Tryz.func124 (fun _=>false) (.two .nil (.two .nil (.two .nil (.two .nil (.two .nil (.two .nil (.two .nil (.two (.two .nil (.one (.loop ⟨[(7,Sh.slice),(10,Sh.slice),(11,Sh.int .i64)],[]⟩ .nil))) .nil)))))))) hv
def ref02_Norm_vc (a:Bool) (b:OA) (c d:Nat) (h:Heap) (R:Value->Heap->Prop):Prop:=
 CallsU Tryz.prog 189 [.bool a,.slice b c d] h fun j k=>
 ∃ e f g i,j = .agg #[.bool e,.slice f g i]/\
 R (.agg #[.bool e,.slice f g i]) k
theorem ref02_Norm_ok {a:Bool} {b:OA} {c d:Nat} {h:Heap} {R:Value->Heap->Prop} (hv:ref02_Norm_vc a b c d h R):CallsU Tryz.prog 125 [.agg #[.bool a,.slice b c d]] h R:=
 fn_ok Tryz.func125 (fun _=>false) .nil hv
def ref02_Cmp_vc (a:Bool) (b:OA) (c d:Nat) (e:Bool) (f:OA) (g i:Nat) (h:Heap) (R:Value->Heap->Prop):Prop:=
 CallsU Tryz.prog 125 [.agg #[.bool a,.slice b c d]] h fun a0 a1=>
 ∃ j k l m,a0 = .agg #[.bool j,.slice k l m]/\
 LeH h a1/\
 CallsU Tryz.prog 125 [.agg #[.bool e,.slice f g i]] a1 fun a2 a3=>
 ∃ n o p q,a2 = .agg #[.bool n,.slice o p q]/\
 ∃ r:Bool->Heap->Prop,(∀ (v:Bool) (w:Heap),r v w->
 Br (v)
 (R (.int .i64 (-1)) w)
 (∃ s:Bool->Heap->Prop,(∀ (y:Bool) (z:Heap),s y z->
 Br (y)
 (R (.int .i64 1) z)
 (Br (j)
 (CallsU Tryz.prog 228 [.slice o p q,.slice k l m] z fun a4 a5=>
 ∃ t,a4 = .int .i64 t/\
 R (.int .i64 t) a5)
 (CallsU Tryz.prog 228 [.slice k l m,.slice o p q] z fun a6 a7=>
 ∃ u,a6 = .int .i64 u/\
 R (.int .i64 u) a7)))/\
 Br (!j)
 (s n w)
 (s false w)))/\
 Br (j)
 (r (!n) a3)
 (r false a3)
theorem ref02_Cmp_ok {a:Bool} {b:OA} {c d:Nat} {e:Bool} {f:OA} {g i:Nat} {h:Heap} {R:Value->Heap->Prop} (hv:ref02_Cmp_vc a b c d e f g i h R):CallsU Tryz.prog 172 [.agg #[.bool a,.slice b c d],.agg #[.bool e,.slice f g i]] h R:=
 fn_ok Tryz.func172 (fun _=>false) (.two .nil (.two (.ord [0,2,1,3,4,5,6,7]) (.two (.one (.cut ⟨[(11,Sh.bool)],[]⟩ .nil (.two .nil (.cut ⟨[(19,Sh.bool)],[]⟩ .nil .nil)))) .nil))) hv
def ref01_Norm_vc (a:OA) (b c:Nat) (h:Heap) (R:Value->Heap->Prop):Prop:=
 ∃ d:Nat->Int->Heap->Prop,(∃ e,d e (b:Int) h)/\
 ∀ (e:Nat) (n:Int) (s:Heap),d e n s->
 Br (decide (n>0))
 (∀ o:Int,o=IntKind.i64.wrap (n-1)->
 ∃ f:Addr,a=some f/\0<=o/\o<(b:Int)/\
 ∃ g,LdN s (Addr.add f (Int.toNat o*1)) [.int .u32 g]/\
 Br ((g:Int)==0)
 (∀ p:Int,p=IntKind.i64.wrap (n-1)->
 ∃ i,i<e/\d i p s)
 (((0:Nat):Int)<=n/\n<=(c:Int)/\
 ∃ j:List Value,RdS s a ((Int.toNat n)*1) j/\(∀ x∈j,Go.Vcg.one x=true)/\
 (0+(Int.toNat n)<=0->Br (decide ((Int.toNat n)*1=0)) (R (.slice none (0+(Int.toNat n)) 0) s)
 (∃ (t:Addr) (u:Blk),none=some t/\t.spot=none/\s t.block=some u/\u.fz=(0,0)/\t.off+0*1+(Int.toNat n)*1<=u.cells.length/\
 ∀ q:Heap,q=Heap.put s t.block { u with cells:=setSeg u.cells (t.off+0*1) j }->
 R (.slice none (0+(Int.toNat n)) 0) q))/\
 (0<0+(Int.toNat n)-> ∃ k:List Value,RdS s none (0*1) k/\(0+(Int.toNat n))*4<=140737488355328/\
 ∀ (v w:Nat) (y:Heap),s v=none->0+(Int.toNat n)<=w->y=Heap.put s v ⟨k++j++repV [.int .u32 0] (w-(0+(Int.toNat n))),166,(0,0)⟩->
 R (.slice (some ⟨v,0,none⟩) (0+(Int.toNat n)) w) y)))
 (((0:Nat):Int)<=n/\n<=(c:Int)/\
 ∃ l:List Value,RdS s a ((Int.toNat n)*1) l/\(∀ x∈l,Go.Vcg.one x=true)/\
 (0+(Int.toNat n)<=0->Br (decide ((Int.toNat n)*1=0)) (R (.slice none (0+(Int.toNat n)) 0) s)
 (∃ (z:Addr) (a0:Blk),none=some z/\z.spot=none/\s z.block=some a0/\a0.fz=(0,0)/\z.off+0*1+(Int.toNat n)*1<=a0.cells.length/\
 ∀ r:Heap,r=Heap.put s z.block { a0 with cells:=setSeg a0.cells (z.off+0*1) l }->
 R (.slice none (0+(Int.toNat n)) 0) r))/\
 (0<0+(Int.toNat n)-> ∃ m:List Value,RdS s none (0*1) m/\(0+(Int.toNat n))*4<=140737488355328/\
 ∀ (a1 a2:Nat) (a3:Heap),s a1=none->0+(Int.toNat n)<=a2->a3=Heap.put s a1 ⟨m++l++repV [.int .u32 0] (a2-(0+(Int.toNat n))),166,(0,0)⟩->
 R (.slice (some ⟨a1,0,none⟩) (0+(Int.toNat n)) a2) a3))
theorem ref01_Norm_ok {a:OA} {b c:Nat} {h:Heap} {R:Value->Heap->Prop} (hv:ref01_Norm_vc a b c h R):CallsU Tryz.prog 185 [.slice a b c] h R:=
 fn_ok Tryz.func185 (fun _=>false) (.two .nil (.two .nil (.two (.one (.loop ⟨[(3,Sh.int .i64)],[]⟩ .nil)) .nil))) hv
def ref03_Zero_vc (_a:Bool) (b:OA) (c d:Nat) (e:OA) (f g:Nat) (h:Heap) (R:Value->Heap->Prop):Prop:=
 CallsU Tryz.prog 185 [.slice b c d] h fun o p=>
 ∃ i j k,o = .slice i j k/\
 Br ((j:Int)==0)
 (R (.bool true) p)
 (CallsU Tryz.prog 185 [.slice e f g] p fun q r=>
 ∃ l m n,q = .slice l m n/\
 R (.bool ((m:Int)==0)) r)
theorem ref03_Zero_ok {a:Bool} {b:OA} {c d:Nat} {e:OA} {f g:Nat} {h:Heap} {R:Value->Heap->Prop} (hv:ref03_Zero_vc a b c d e f g h R):CallsU Tryz.prog 188 [.agg #[.bool a,.slice b c d,.slice e f g]] h R:=
 fn_ok Tryz.func188 (fun _=>false) .nil hv
def ref02_make1_vc (a:Bool) (b:OA) (c d:Nat) (h:Heap) (R:Value->Heap->Prop):Prop:=
 CallsU Tryz.prog 185 [.slice b c d] h fun i j=>
 ∃ e f g,i = .slice e f g/\
 Br (a)
 (R (.agg #[.bool (decide ((f:Int)>0)),.slice e f g]) j)
 (R (.agg #[.bool false,.slice e f g]) j)
theorem ref02_make1_ok {a:Bool} {b:OA} {c d:Nat} {h:Heap} {R:Value->Heap->Prop} (hv:ref02_make1_vc a b c d h R):CallsU Tryz.prog 189 [.bool a,.slice b c d] h R:=
 fn_ok Tryz.func189 (fun _=>false) .nil hv
def ref01_Add_vc (a:OA) (b c:Nat) (d:OA) (e f:Nat) (h:Heap) (R:Value->Heap->Prop):Prop:=
 ∃ g:Nat->OA->Nat->Nat->Int->Int->Heap->Prop,(∃ i,g i none 0 0 0 0 h)/\
 ∀ (i:Nat) (a1:OA) (a2 a3:Nat) (a4:Int) (a5:Int) (a6:Heap),g i a1 a2 a3 a4 a5 a6->
 ∃ j:Heap->Prop,(∀  (a7:Heap),j a7->
 CallsU Tryz.prog 192 [.slice a b c,.int .i64 a5] a7 fun b5 b6=>
 ∃ k,b5 = .int .u64 k/\
 CallsU Tryz.prog 192 [.slice d e f,.int .i64 a5] b6 fun b7 b8=>
 ∃ l,b7 = .int .u64 l/\
 ∀ s:Int,s=IntKind.u64.wrap (k+l)->
 ∀ t:Int,t=IntKind.u64.wrap (s+a4)->
 ∀ u:Int,u=(Int.tmod t 4294967296)->
 ∀ (a8:Nat) (a9:Heap),b8 a8=none->a9=Heap.put b8 a8 ⟨[.int .u32 (IntKind.u32.wrap u)],166,(0,0)⟩->
 ∃ m:List Value,RdS a9 (some ⟨a8,0,none⟩) (1*1) m/\(∀ x∈m,Go.Vcg.one x=true)/\
 (a2+1<=a3-> ∃ (b0:Addr) (b1:Blk),a1=some b0/\b0.spot=none/\a9 b0.block=some b1/\b1.fz=(0,0)/\b0.off+a2*1+1*1<=b1.cells.length/\
 ∀ v:Heap,v=Heap.put a9 b0.block { b1 with cells:=setSeg b1.cells (b0.off+a2*1) m }->
 ∀ w:Int,w=IntKind.u64.wrap (Int.tdiv t 4294967296)->
 ∀ y:Int,y=IntKind.i64.wrap (a5+1)->
 ∃ n,n<i/\g n a1 (a2+1) a3 w y v)/\
 (a3<a2+1-> ∃ o:List Value,RdS a9 a1 (a2*1) o/\(a2+1)*4<=140737488355328/\
 ∀ (b2 b3:Nat) (b4:Heap),a9 b2=none->a2+1<=b3->b4=Heap.put a9 b2 ⟨o++m++repV [.int .u32 0] (b3-(a2+1)),166,(0,0)⟩->
 ∀ z:Int,z=IntKind.u64.wrap (Int.tdiv t 4294967296)->
 ∀ a0:Int,a0=IntKind.i64.wrap (a5+1)->
 ∃ n,n<i/\g n (some ⟨b2,0,none⟩) (a2+1) b3 z a0 b4))/\
 Br (decide (a5<(if decide ((e:Int)>(b:Int)) then (e:Int) else (b:Int))))
 (j a6)
 (Br (decide (a4>0))
 (j a6)
 (CallsU Tryz.prog 185 [.slice a1 a2 a3] a6 fun b9 c0=>
 ∃ p q r,b9 = .slice p q r/\
 R (.slice p q r) c0))
theorem ref01_Add_ok {a:OA} {b c:Nat} {d:OA} {e f:Nat} {h:Heap} {R:Value->Heap->Prop} (hv:ref01_Add_vc a b c d e f h R):CallsU Tryz.prog 190 [.slice a b c,.slice d e f] h R:=
 fn_ok Tryz.func190 (fun _=>false) (.two .nil (.two .nil (.two .nil (.two (.two .nil (.one (.loop ⟨[(5,Sh.slice),(6,Sh.int .u64),(7,Sh.int .i64)],[]⟩ (.cut ⟨[],[]⟩ .nil .nil)))) .nil)))) hv
def ref01_Sub_vc (a:OA) (b c:Nat) (d:OA) (e f:Nat) (h:Heap) (R:Value->Heap->Prop):Prop:=
 CallsU Tryz.prog 228 [.slice a b c,.slice d e f] h fun b7 b8=>
 ∃ g,b7 = .int .i64 g/\
 Br (decide (g<0))
 (R (.tuple #[.slice none 0 0,.bool false]) b8)
 (∃ i:Nat->OA->Nat->Nat->Int->Int->Heap->Prop,(∃ j,i j none 0 0 0 0 b8)/\
 ∀ (j:Nat) (a4:OA) (a5 a6:Nat) (a7:Int) (a8:Int) (a9:Heap),i j a4 a5 a6 a7 a8 a9->
 Br (decide (a8<(if decide ((e:Int)>(b:Int)) then (e:Int) else (b:Int))))
 (CallsU Tryz.prog 192 [.slice a b c,.int .i64 a8] a9 fun b9 c0=>
 ∃ k,b9 = .int .u64 k/\
 ∀ s:Int,s=IntKind.u64.wrap (4294967296+k)->
 CallsU Tryz.prog 192 [.slice d e f,.int .i64 a8] c0 fun c1 c2=>
 ∃ l,c1 = .int .u64 l/\
 ∀ t:Int,t=IntKind.u64.wrap (s-l)->
 ∀ u:Int,u=IntKind.u64.wrap (t-a7)->
 ∀ v:Int,v=(Int.tmod u 4294967296)->
 ∀ (b0:Nat) (b1:Heap),c2 b0=none->b1=Heap.put c2 b0 ⟨[.int .u32 (IntKind.u32.wrap v)],166,(0,0)⟩->
 ∃ m:List Value,RdS b1 (some ⟨b0,0,none⟩) (1*1) m/\(∀ x∈m,Go.Vcg.one x=true)/\
 (a5+1<=a6-> ∃ (b2:Addr) (b3:Blk),a4=some b2/\b2.spot=none/\b1 b2.block=some b3/\b3.fz=(0,0)/\b2.off+a5*1+1*1<=b3.cells.length/\
 ∀ w:Heap,w=Heap.put b1 b2.block { b3 with cells:=setSeg b3.cells (b2.off+a5*1) m }->
 ∀ y:Int,y=IntKind.u64.wrap (Int.tdiv u 4294967296)->
 ∀ z:Int,z=IntKind.u64.wrap (1-y)->
 ∀ a0:Int,a0=IntKind.i64.wrap (a8+1)->
 ∃ n,n<j/\i n a4 (a5+1) a6 z a0 w)/\
 (a6<a5+1-> ∃ o:List Value,RdS b1 a4 (a5*1) o/\(a5+1)*4<=140737488355328/\
 ∀ (b4 b5:Nat) (b6:Heap),b1 b4=none->a5+1<=b5->b6=Heap.put b1 b4 ⟨o++m++repV [.int .u32 0] (b5-(a5+1)),166,(0,0)⟩->
 ∀ a1:Int,a1=IntKind.u64.wrap (Int.tdiv u 4294967296)->
 ∀ a2:Int,a2=IntKind.u64.wrap (1-a1)->
 ∀ a3:Int,a3=IntKind.i64.wrap (a8+1)->
 ∃ n,n<j/\i n (some ⟨b4,0,none⟩) (a5+1) b5 a2 a3 b6))
 (CallsU Tryz.prog 185 [.slice a4 a5 a6] a9 fun c3 c4=>
 ∃ p q r,c3 = .slice p q r/\
 R (.tuple #[.slice p q r,.bool true]) c4))
theorem ref01_Sub_ok {a:OA} {b c:Nat} {d:OA} {e f:Nat} {h:Heap} {R:Value->Heap->Prop} (hv:ref01_Sub_vc a b c d e f h R):CallsU Tryz.prog 191 [.slice a b c,.slice d e f] h R:=
 fn_ok Tryz.func191 (fun _=>false) (.two .nil (.two .nil (.two .nil (.two .nil (.two (.two .nil (.one (.loop ⟨[(6,Sh.slice),(7,Sh.int .u64),(8,Sh.int .i64)],[]⟩ .nil))) .nil))))) hv
def ref01_limb_vc (a:OA) (b _c:Nat) (d:Int) (h:Heap) (R:Value->Heap->Prop):Prop:=
 Br (decide (d<0))
 (R (.int .u64 0) h)
 (Br (decide (d>=(b:Int)))
 (R (.int .u64 0) h)
 (∃ e:Addr,a=some e/\0<=d/\d<(b:Int)/\
 ∃ f,LdN h (Addr.add e (Int.toNat d*1)) [.int .u32 f]/\
 R (.int .u64 (IntKind.u64.wrap f)) h))
theorem ref01_limb_ok {a:OA} {b c:Nat} {d:Int} {h:Heap} {R:Value->Heap->Prop} (hv:ref01_limb_vc a b c d h R):CallsU Tryz.prog 192 [.slice a b c,.int .i64 d] h R:=
 fn_ok Tryz.func192 (fun _=>false) .nil hv
def ref01_Bits_vc (a:OA) (b c:Nat) (h:Heap) (R:Value->Heap->Prop):Prop:=
 CallsU Tryz.prog 185 [.slice a b c] h fun u v=>
 ∃ d e f,u = .slice d e f/\
 Br ((e:Int)==0)
 (R (.int .i64 0) v)
 (∀ m:Int,m=IntKind.i64.wrap ((e:Int)-1)->
 ∀ o:Int,o=IntKind.i64.wrap (32*m)->
 ∀ p:Int,p=IntKind.i64.wrap ((e:Int)-1)->
 ∃ g:Addr,d=some g/\0<=p/\p<(e:Int)/\
 ∃ i,LdN v (Addr.add g (Int.toNat p*1)) [.int .u32 i]/\
 ∃ j:Nat->Int->Int->Heap->Prop,(∃ k,j k o i v)/\
 ∀ (k:Nat) (n:Int) (s:Int) (t:Heap),j k n s t->
 Br (decide (s>0))
 (∀ q:Int,q=IntKind.i64.wrap (n+1)->
 ∀ r:Int,r=IntKind.u32.wrap (Int.tdiv s 2)->
 ∃ l,l<k/\j l q r t)
 (R (.int .i64 n) t))
theorem ref01_Bits_ok {a:OA} {b c:Nat} {h:Heap} {R:Value->Heap->Prop} (hv:ref01_Bits_vc a b c h R):CallsU Tryz.prog 193 [.slice a b c] h R:=
 fn_ok Tryz.func193 (fun _=>false) (.two .nil (.two .nil (.two .nil (.two .nil (.two (.two .nil (.one (.loop ⟨[(4,Sh.int .i64),(5,Sh.int .u32)],[]⟩ .nil))) .nil))))) hv
def ref01_Shift_vc (a:OA) (b c:Nat) (n:Int) (h:Heap) (R:Value->Heap->Prop):Prop:=
 ∀ o:Int,o=IntKind.i64.wrap (Int.tdiv n 32)->
 0<=o/\o<=o/\o*4<=140737488355328/\o<=9223372036854775807/\
 ∀ (z:Nat) (a0:Heap),h z=none->a0=Heap.put h z ⟨repV [.int .u32 0] (Int.toNat o),166,(0,0)⟩->
 ∃ d:Nat->OA->Nat->Nat->Int->Int->Heap->Prop,(∃ e,d e (some ⟨z,0,none⟩) (Int.toNat o) (Int.toNat o) 0 0 a0)/\
 ∀ (e:Nat) (a1:OA) (a2 a3:Nat) (a4:Int) (a5:Int) (a6:Heap),d e a1 a2 a3 a4 a5 a6->
 Br (decide (a5<=(b:Int)))
 (CallsU Tryz.prog 192 [.slice a b c,.int .i64 a5] a6 fun b4 b5=>
 ∃ f,b4 = .int .u64 f/\
 ∀ p:Int,p=(Int.tmod n 32)->
 Br (decide (IntKind.u64.wrap p<0)) False
 (∀ q:Int,q=IntKind.u64.wrap (f*2^(min (Int.toNat (IntKind.u64.wrap p)) 64:Nat))->
 ∀ r:Int,r=IntKind.u64.wrap (q+a4)->
 ∀ s:Int,s=(Int.tmod r 4294967296)->
 ∀ (a7:Nat) (a8:Heap),b5 a7=none->a8=Heap.put b5 a7 ⟨[.int .u32 (IntKind.u32.wrap s)],166,(0,0)⟩->
 ∃ g:List Value,RdS a8 (some ⟨a7,0,none⟩) (1*1) g/\(∀ x∈g,Go.Vcg.one x=true)/\
 (a2+1<=a3-> ∃ (a9:Addr) (b0:Blk),a1=some a9/\a9.spot=none/\a8 a9.block=some b0/\b0.fz=(0,0)/\a9.off+a2*1+1*1<=b0.cells.length/\
 ∀ t:Heap,t=Heap.put a8 a9.block { b0 with cells:=setSeg b0.cells (a9.off+a2*1) g }->
 ∀ u:Int,u=IntKind.u64.wrap (Int.tdiv r 4294967296)->
 ∀ v:Int,v=IntKind.i64.wrap (a5+1)->
 ∃ i,i<e/\d i a1 (a2+1) a3 u v t)/\
 (a3<a2+1-> ∃ j:List Value,RdS a8 a1 (a2*1) j/\(a2+1)*4<=140737488355328/\
 ∀ (b1 b2:Nat) (b3:Heap),a8 b1=none->a2+1<=b2->b3=Heap.put a8 b1 ⟨j++g++repV [.int .u32 0] (b2-(a2+1)),166,(0,0)⟩->
 ∀ w:Int,w=IntKind.u64.wrap (Int.tdiv r 4294967296)->
 ∀ y:Int,y=IntKind.i64.wrap (a5+1)->
 ∃ i,i<e/\d i (some ⟨b1,0,none⟩) (a2+1) b2 w y b3)))
 (CallsU Tryz.prog 185 [.slice a1 a2 a3] a6 fun b6 b7=>
 ∃ k l m,b6 = .slice k l m/\
 R (.slice k l m) b7)
theorem ref01_Shift_ok {a:OA} {b c:Nat} {n:Int} {h:Heap} {R:Value->Heap->Prop} (hv:ref01_Shift_vc a b c n h R):CallsU Tryz.prog 194 [.slice a b c,.int .i64 n] h R:=
 fn_ok Tryz.func194 (fun _=>false) (.two .nil (.two .nil (.two .nil (.two (.two .nil (.one (.loop ⟨[(5,Sh.slice),(6,Sh.int .u64),(7,Sh.int .i64)],[]⟩ .nil))) .nil)))) hv
def ref01_Half_vc (a:OA) (b c:Nat) (h:Heap) (R:Value->Heap->Prop):Prop:=
 ∃ d:Nat->OA->Nat->Nat->Int->Heap->Prop,(∃ e,d e none 0 0 0 h)/\
 ∀ (e:Nat) (w:OA) (y z:Nat) (a0:Int) (a1:Heap),d e w y z a0 a1->
 Br (decide (a0<(b:Int)))
 (CallsU Tryz.prog 192 [.slice a b c,.int .i64 a0] a1 fun a9 b0=>
 ∃ f,a9 = .int .u64 f/\
 ∀ o:Int,o=IntKind.u64.wrap (Int.tdiv f 2)->
 ∀ p:Int,p=IntKind.i64.wrap (a0+1)->
 CallsU Tryz.prog 192 [.slice a b c,.int .i64 p] b0 fun b1 b2=>
 ∃ g,b1 = .int .u64 g/\
 ∀ q:Int,q=(Int.tmod g 2)->
 ∀ r:Int,r=IntKind.u64.wrap (q*2147483648)->
 ∀ s:Int,s=IntKind.u64.wrap (o+r)->
 ∀ (a2:Nat) (a3:Heap),b2 a2=none->a3=Heap.put b2 a2 ⟨[.int .u32 (IntKind.u32.wrap s)],166,(0,0)⟩->
 ∃ i:List Value,RdS a3 (some ⟨a2,0,none⟩) (1*1) i/\(∀ x∈i,Go.Vcg.one x=true)/\
 (y+1<=z-> ∃ (a4:Addr) (a5:Blk),w=some a4/\a4.spot=none/\a3 a4.block=some a5/\a5.fz=(0,0)/\a4.off+y*1+1*1<=a5.cells.length/\
 ∀ t:Heap,t=Heap.put a3 a4.block { a5 with cells:=setSeg a5.cells (a4.off+y*1) i }->
 ∀ u:Int,u=IntKind.i64.wrap (a0+1)->
 ∃ j,j<e/\d j w (y+1) z u t)/\
 (z<y+1-> ∃ k:List Value,RdS a3 w (y*1) k/\(y+1)*4<=140737488355328/\
 ∀ (a6 a7:Nat) (a8:Heap),a3 a6=none->y+1<=a7->a8=Heap.put a3 a6 ⟨k++i++repV [.int .u32 0] (a7-(y+1)),166,(0,0)⟩->
 ∀ v:Int,v=IntKind.i64.wrap (a0+1)->
 ∃ j,j<e/\d j (some ⟨a6,0,none⟩) (y+1) a7 v a8))
 (CallsU Tryz.prog 185 [.slice w y z] a1 fun b3 b4=>
 ∃ l m n,b3 = .slice l m n/\
 R (.slice l m n) b4)
theorem ref01_Half_ok {a:OA} {b c:Nat} {h:Heap} {R:Value->Heap->Prop} (hv:ref01_Half_vc a b c h R):CallsU Tryz.prog 195 [.slice a b c] h R:=
 fn_ok Tryz.func195 (fun _=>false) (.two .nil (.two .nil (.two (.two .nil (.one (.loop ⟨[(3,Sh.slice),(4,Sh.int .i64)],[]⟩ .nil))) .nil))) hv
def ref01_Cmp_vc (a:OA) (b c:Nat) (d:OA) (e f:Nat) (h:Heap) (R:Value->Heap->Prop):Prop:=
 ∀ o:Int,o=IntKind.i64.wrap ((if decide ((e:Int)>(b:Int)) then (e:Int) else (b:Int))-1)->
 ∃ g:Nat->Int->Heap->Prop,(∃ i,g i o h)/\
 ∀ (i:Nat) (q:Int) (r:Heap),g i q r->
 Br (decide (q>=0))
 (CallsU Tryz.prog 192 [.slice a b c,.int .i64 q] r fun s t=>
 ∃ j,s = .int .u64 j/\
 CallsU Tryz.prog 192 [.slice d e f,.int .i64 q] t fun u v=>
 ∃ k,u = .int .u64 k/\
 Br (decide (j<k))
 (R (.int .i64 (-1)) v)
 (CallsU Tryz.prog 192 [.slice a b c,.int .i64 q] v fun w y=>
 ∃ l,w = .int .u64 l/\
 CallsU Tryz.prog 192 [.slice d e f,.int .i64 q] y fun z a0=>
 ∃ m,z = .int .u64 m/\
 Br (decide (l>m))
 (R (.int .i64 1) a0)
 (∀ p:Int,p=IntKind.i64.wrap (q-1)->
 ∃ n,n<i/\g n p a0)))
 (R (.int .i64 0) r)
theorem ref01_Cmp_ok {a:OA} {b c:Nat} {d:OA} {e f:Nat} {h:Heap} {R:Value->Heap->Prop} (hv:ref01_Cmp_vc a b c d e f h R):CallsU Tryz.prog 228 [.slice a b c,.slice d e f] h R:=
 fn_ok Tryz.func228 (fun _=>false) (.two .nil (.two (.two .nil (.one (.loop ⟨[(5,Sh.int .i64)],[]⟩ .nil))) .nil)) hv
end Go.Proofs.YtfglcgbgaeegaaaGreatDoor

namespace Go.Proofs.YtfglcgbgaeegaaaGreatDoor
open Go Go.Vcg
attribute [local irreducible] Br
theorem getD_some {l:List Int} {i:Nat} (h:i<l.length):l[i]?=some (l.getD i 0):=by simp [h]
end Go.Proofs.YtfglcgbgaeegaaaGreatDoor
