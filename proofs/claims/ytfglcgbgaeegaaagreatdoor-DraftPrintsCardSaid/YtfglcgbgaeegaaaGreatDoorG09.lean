/-
 Gathered texts of this proof: Fo8,Fo9,Fo4,Pn1,Pl1,Pl2.
-/
import Derived.Test.YtfglcgbgaeegaaaGreatDoorG08
import Derived.Lib.SlicesCompact
import Derived.Test.YtfglcgbgaeegaaaGreatDoorG04

namespace Go.Proofs.YtfglcgbgaeegaaaGreatDoor
open Go Go.Vcg Go.RowKit Go.Sort
attribute [local irreducible] Br
def hole (h:Heap) (g:Nat):Heap:=fun k=>if k=g then none else h k
theorem hole_at (h:Heap) (g:Nat):hole h g g=none:=by unfold hole;rw [if_pos rfl]
theorem hole_ne (h:Heap) {g k:Nat} (hk:k≠g):hole h g k=h k:=by unfold hole;rw [if_neg hk]
theorem hole_put (h:Heap) (g:Nat) (b:Blk):hole (h.put g b) g=hole h g:=by
 funext k
 unfold hole
 by_cases e:k=g
 ·rw [if_pos e,if_pos e]
 ·rw [if_neg e,if_neg e,Heap.put_ne _ _ e]
theorem hole_put_ne (h:Heap) {g g' : Nat} (b:Blk) (hg:g' ≠ g):hole (h.put g' b) g=(hole h g).put g' b:=by
 funext k
 by_cases e:k=g
 ·subst e
  rw [hole_at,Heap.put_ne _ _ (fun q=>hg q.symm),hole_at]
 ·rw [hole_ne _ e]
  by_cases e2:k=g'
  ·subst e2;rw [Heap.put_same,Heap.put_same]
  ·rw [Heap.put_ne _ _ e2,Heap.put_ne _ _ e2,hole_ne _ e]
theorem put_hole {h:Heap} {g:Nat} {b:Blk} (hg:h g=some b):(hole h g).put g b=h:=by
 funext k
 by_cases e:k=g
 ·subst e;rw [Heap.put_same,hg]
 ·rw [Heap.put_ne _ _ e,hole_ne _ e]
theorem hole_none {h:Heap} {g:Nat} (hg:h g=none):hole h g=h:=by
 funext k
 by_cases e:k=g
 ·subst e;rw [hole_at,hg]
 ·rw [hole_ne _ e]
theorem hole_le (h:Heap) (g:Nat):Le (hole h g) h:=fun k b hk=>by
 by_cases e:k=g
 ·subst e;rw [hole_at] at hk;cases hk
 ·rwa [hole_ne _ e] at hk
theorem Le.hole {h h' : Heap} (l:Le h h') (g:Nat):Le (hole h g) (hole h' g):=fun k b hk=>by
 by_cases e:k=g
 ·subst e;rw [hole_at] at hk;cases hk
 ·rw [hole_ne _ e] at hk ⊢;exact l k b hk
theorem hole_comm (h:Heap) (a b:Nat):hole (hole h a) b=hole (hole h b) a:=by
 funext k
 unfold Go.Proofs.YtfglcgbgaeegaaaGreatDoor.hole
 split<;>split<;>rfl
def Ps (h:Heap) (g:Nat) (l r:List UInt8):Prop:= ∃ (pre:List UInt8) (ty:Nat),l=pre++r/\h g=some ⟨[sv l,.int .i64 (pre.length:Int)],ty,(0,0)⟩
theorem Ps.ld0 {h:Heap} {g:Nat} {l pre:List UInt8} {ty:Nat} (hb:h g=some ⟨[sv l,.int .i64 (pre.length:Int)],ty,(0,0)⟩):LdN h (Addr.add ⟨g,0,none⟩ 0) [.string ⟨l.toArray⟩]:=
 ld_of rfl hb rfl
theorem Ps.ld1 {h:Heap} {g:Nat} {l pre:List UInt8} {ty:Nat} (hb:h g=some ⟨[sv l,.int .i64 (pre.length:Int)],ty,(0,0)⟩):LdN h (Addr.add ⟨g,0,none⟩ 1) [.int .i64 (pre.length:Int)]:=
 ld_of rfl hb rfl
def nd (x:UInt8):Bool:= !(([43,45,42,47,40,41,44,32]:List UInt8).contains x)
def skipS (r:List UInt8):List UInt8:=r.dropWhile (· == 32)
def tokOf (r:List UInt8):List UInt8:=if r.takeWhile nd=[] then r.take 1 else r.takeWhile nd
def tk (r:List UInt8):List UInt8:=tokOf (skipS r)
def aft (r:List UInt8):List UInt8:=(skipS r).drop (tk r).length
theorem tokOf_pre (r:List UInt8):r.take (tokOf r).length=tokOf r:=by
 unfold tokOf
 split
 ·cases r with
  | nil=>rfl
  | cons x r=>rfl
 ·exact tw_take r nd
theorem tokOf_le (r:List UInt8):(tokOf r).length<=r.length:=by
 have:=congrArg List.length (tokOf_pre r)
 rw [List.length_take] at this
 omega
theorem tk_split (r:List UInt8):tk r++aft r=skipS r:=by
 unfold aft tk
 conv=>lhs;lhs;rw [<- tokOf_pre]
 exact List.take_append_drop _ _
theorem skip_le (r:List UInt8):(skipS r).length<=r.length:=by
 have:=congrArg List.length (List.takeWhile_append_dropWhile (p:=(· == 32)) (l:=r))
 rw [List.length_append] at this
 unfold skipS
 omega
theorem strIdx_c (l:List UInt8) (b:UInt8) (h:Heap) :
  CallsU Tryz.prog 224 [sv l,.int .u8 (b.toNat:Int)] h fun r h' => r = .int .i64 (Lib.indexByte l b)/\h=h' :=
 callsU_same ⟨_,Tryz.func224,by kernel_rfl,by kernel_rfl⟩ fun w _=>by
  have h1:=Tryz.strings_IndexByte ⟨l.toArray⟩ (b.toNat:Int) w
  rw [Int.toNat_natCast] at h1
  have h2:b.toNat.toUInt8=b:=by simp
  rw [h2] at h1
  exact h1
theorem tw_at {l:List UInt8} {p:UInt8->Bool} {k:Nat} (hk:k<=l.length) (h1:(l.take k).all p=true) (h2 : ∀ x,l[k]?=some x->p x=false):l.takeWhile p=l.take k:=by
 induction l generalizing k with
 | nil=>simp
 | cons x l ih=>
  cases k with
  | zero=>
   rw [List.takeWhile_cons,if_neg (by rw [h2 x rfl];decide)]
   rfl
  | succ k=>
   rw [List.take_succ_cons,List.all_cons,Bool.and_eq_true] at h1
   rw [List.takeWhile_cons,if_pos h1.1,List.take_succ_cons,ih (by simpa using hk) h1.2 (fun y hy=>h2 y (by simpa using hy))]
theorem foNext_c {h:Heap} {g:Nat} {l r:List UInt8} (u:Ps h g l r) (hl:l.length<=1000000) :
  CallsU Tryz.prog 166 [.pointer (some ⟨g,0,none⟩)] h fun v h' => v=sv (tk r)/\Ps h' g l (skipS r)/\hole h' g=hole h g:=by
 apply garment_formula_parser_next_ok
 refine ⟨fun h' => Ps h' g l (skipS r)/\hole h' g=hole h g, ?_,fun m h' => ∃ r', Ps h' g l r' /\ skipS r' = skipS r/\m=r'.length/\hole h' g=hole h g,⟨_,r,u,rfl,rfl,rfl⟩, ?_⟩
 ·rintro h1 ⟨⟨pre,ty,hlr,hb⟩,ho⟩
  unfold tk
  generalize skipS r=s at *
  have hlen:l.length=pre.length+s.length:=by rw [hlr,List.length_append]
  refine ⟨_,Ps.ld1 hb,fun e h' => h1=h' /\ e=((pre.length+(s.takeWhile nd).length:Nat):Int), ?_,fun m e h' => ∃ k,k<=s.length/\m=s.length-k/\e=((pre.length+k:Nat):Int)/\h1=h' /\ (s.take k).all nd=true,⟨_,0,by omega,rfl,rfl,rfl,by simp⟩, ?_⟩
  ·rintro _ _ ⟨rfl,rfl⟩
   have htw:=tw_le s nd
   have htl:=tokOf_le s
   refine ⟨fun e h' => h1=h' /\ e=((pre.length+(tokOf s).length:Nat):Int), ?_,_,Ps.ld1 hb, ?_⟩
   ·rintro _ _ ⟨rfl,rfl⟩
    refine ⟨_,Ps.ld0 hb,_,Ps.ld1 hb,by omega,by rw [ba_size];omega,by omega,by omega, ?_,⟨pre,ty,hlr,hb⟩,ho⟩
    rw [Int.toNat_natCast,Int.toNat_natCast,ba_ext]
    have:(l.take (pre.length+(tokOf s).length)).drop pre.length=tokOf s:=by
     rw [hlr,List.take_length_add_append,List.drop_left,tokOf_pre]
    rw [this]
   ·refine Br.mk (fun q=> ?_) (fun q=>⟨rfl, ?_⟩)
    ·have h0:(s.takeWhile nd).length=0:=by have:=beq_iff_eq.1 q;omega
     have h0' : s.takeWhile nd=[]:=List.length_eq_zero_iff.1 h0
     refine ⟨_,Ps.ld0 hb, ?_⟩
     rw [ba_size,h0]
     refine Br.mk (fun q2=> ?_) (fun q2=>⟨rfl, ?_⟩)
     ·have h3:=of_decide_eq_true q2
      rintro _ rfl
      refine ⟨rfl,wi ?_ ?_⟩
      ·unfold tokOf
       rw [if_pos h0', List.length_take]
       omega
      ·omega
     ·have h3:=of_decide_eq_false q2
      have:s.length=0:=by omega
      have h4:tokOf s=[]:=List.length_eq_zero_iff.1 (by omega)
      rw [h4];rfl
    ·have h0:(s.takeWhile nd).length≠0:=by have:=beq_eq_false_iff_ne.1 q;omega
     have h0' : s.takeWhile nd≠[]:=fun e=>h0 (by rw [e];rfl)
     unfold tokOf
     rw [if_neg h0']
  ·rintro m _ _ ⟨k,hk,rfl,rfl,rfl,hall⟩
   refine ⟨_,Ps.ld0 hb, ?_⟩
   rw [ba_size]
   refine Br.mk (fun q=> ?_) (fun q=>⟨rfl, ?_⟩)
   ·have hlt:k<s.length:=by have:=of_decide_eq_true q;omega
    obtain ⟨x,hx⟩ : ∃ x,s[k]?=some x:=⟨_,List.getElem?_eq_getElem hlt⟩
    refine ⟨_,Ps.ld0 hb,x,by omega, ?_, ?_⟩
    ·rw [Int.toNat_natCast,ba_get,hlr,List.getElem?_append_right (by omega)]
     simpa using hx
    ·refine (strIdx_c [43,45,42,47,40,41,44,32] x h1).mono ?_
     rintro _ _ ⟨rfl,rfl⟩
     refine ⟨_,rfl, ?_⟩
     rw [idx_spec]
     have hnd:nd x=true↔x∉([43,45,42,47,40,41,44,32]:List UInt8):=by
      unfold nd
      rw [Bool.not_eq_true', List.contains_eq_mem,decide_eq_false_iff_not]
     refine Br.mk (fun q2=> ?_) (fun q2=>⟨rfl, ?_⟩)
     ·have hn:nd x=true:=by
       rw [hnd]
       intro hm
       rw [if_pos hm] at q2
       have:=of_decide_eq_true q2
       omega
      rintro _ rfl
      refine ⟨s.length-(k+1),by omega,k+1,by omega,rfl,wi (by omega) (by omega),rfl, ?_⟩
      rw [List.take_add_one,hx,List.all_append,hall]
      simp [hn]
     ·have hn:nd x=false:=by
       cases hh:nd x with
       | false=>rfl
       | true=>
        rw [if_neg (hnd.1 hh)] at q2
        exact absurd q2 (by decide)
      rw [tw_at (by omega) hall (fun y hy=>by rw [hx] at hy;cases hy;exact hn),List.length_take,Nat.min_eq_left (by omega)]
   ·have hk' : k=s.length:=by have:=of_decide_eq_false q;omega
    subst hk'
    rw [tw_at (Nat.le_refl _) hall (fun y hy=>by rw [List.getElem?_eq_none (Nat.le_refl _)] at hy;cases hy),List.take_length]
 ·rintro m h1 ⟨r', ⟨pre,ty,hlr,hb⟩,hs,rfl,ho⟩
  have hlen:l.length=pre.length+r'.length:=by rw [hlr,List.length_append]
  refine ⟨_,Ps.ld1 hb,_,Ps.ld0 hb, ?_⟩
  rw [ba_size]
  refine Br.mk (fun q=> ?_) (fun q=> ?_)
  ·have hlt:pre.length<l.length:=by have:=of_decide_eq_true q;omega
   obtain ⟨x,t,rfl⟩ : ∃ x t,r' = x::t:=by
    cases r' with
    | nil=>simp at hlen;omega
    | cons x t=>exact ⟨x,t,rfl⟩
   refine ⟨_,Ps.ld0 hb,_,Ps.ld1 hb,x,by omega, ?_,Br.mk (fun q2=> ?_) (fun q2=> ?_)⟩
   ·rw [Int.toNat_natCast,ba_get,hlr,List.getElem?_append_right (by omega)]
    simp
   ·have hx:x=32:=by
     apply UInt8.toNat_inj.1
     have:=beq_iff_eq.1 q2
     have h2:(32:UInt8).toNat=32:=rfl
     omega
    subst hx
    refine ⟨_,Ps.ld1 hb, ?_⟩
    rintro _ rfl
    have e1:IntKind.i64.wrap ((pre.length:Int)+1)=((pre.length+1:Nat):Int):=wi (by omega) (by omega)
    rw [e1,addr_block,addr_off]
    refine ⟨_,hb,rfl,addr_spot _ _ rfl,by simp, ?_⟩
    rintro _ rfl
    refine ⟨t.length,by simp,t,⟨pre++[32],ty,by rw [hlr];simp, ?_⟩, ?_,rfl,by rw [hole_put];exact ho⟩
    ·rw [Heap.put_same]
     simp [setSeg]
    ·rw [<- hs]
     unfold skipS
     rw [List.dropWhile_cons,if_pos (by decide)]
   ·have hx:x≠32:=fun e=>by subst e;exact absurd q2 (by decide)
    refine ⟨⟨pre,ty, ?_,hb⟩,ho⟩
    rw [<- hs]
    unfold skipS
    rw [List.dropWhile_cons,if_neg (by simpa using hx)]
    exact hlr
  ·have h0:r' = []:=List.length_eq_zero_iff.1 (by have:=of_decide_eq_false q;omega)
   subst h0
   refine ⟨⟨pre,ty, ?_,hb⟩,ho⟩
   rw [<- hs]
   exact hlr
theorem foTake_c {h:Heap} {g:Nat} {l r:List UInt8} (u:Ps h g l r) (hl:l.length<=1000000) :
  CallsU Tryz.prog 223 [.pointer (some ⟨g,0,none⟩)] h fun v h' => v=sv (tk r)/\Ps h' g l (aft r)/\hole h' g=hole h g:=by
 apply garment_formula_parser_take_ok
 refine (foNext_c u hl).mono ?_
 rintro _ h1 ⟨rfl,⟨pre,ty,hlr,hb⟩,ho⟩
 have hlen:l.length=pre.length+(skipS r).length:=by rw [hlr,List.length_append]
 have hsp:=congrArg List.length (tk_split r)
 rw [List.length_append] at hsp
 refine ⟨_,rfl,_,Ps.ld1 hb, ?_⟩
 rintro _ rfl
 rw [ba_size,addr_block,addr_off]
 have e1:IntKind.i64.wrap ((pre.length:Int)+((tk r).length:Nat))=((pre.length+(tk r).length:Nat):Int):=wi (by omega) (by omega)
 rw [e1]
 refine ⟨_,hb,rfl,addr_spot _ _ rfl,by simp, ?_⟩
 rintro _ rfl
 refine ⟨rfl,⟨pre++tk r,ty,by rw [List.append_assoc,tk_split];exact hlr, ?_⟩,by rw [hole_put];exact ho⟩
 rw [Heap.put_same]
 simp [setSeg]
def expV (t r:List UInt8):Int:=if tk r=t then 0 else if tk r=[] then 4 else 2
theorem foExpect_c {h:Heap} {g:Nat} {l r:List UInt8} (t:List UInt8) (u:Ps h g l r) (hl:l.length<=1000000) :
  CallsU Tryz.prog 277 [.pointer (some ⟨g,0,none⟩),sv t] h fun v h' => v = .int .i64 (expV t r)/\Ps h' g l (aft r)/\hole h' g=hole h g:=by
 apply garment_formula_parser_expect_ok
 refine (foTake_c u hl).mono ?_
 rintro _ h1 ⟨rfl,hp,ho⟩
 have e0:(⟨#[]⟩:ByteArray).toList=[]:=bytes_toList []
 refine ⟨_,rfl, ?_⟩
 rw [bytes_toList,bytes_toList,e0]
 unfold expV
 refine Br.mk (fun q=> ?_) (fun q=>Br.mk (fun q2=> ?_) (fun q2=> ?_))
 ·rw [if_pos (beq_iff_eq.1 q)];exact ⟨rfl,hp,ho⟩
 ·rw [if_neg (beq_eq_false_iff_ne.1 q),if_pos (beq_iff_eq.1 q2)];exact ⟨rfl,hp,ho⟩
 ·rw [if_neg (beq_eq_false_iff_ne.1 q),if_neg (beq_eq_false_iff_ne.1 q2)];exact ⟨rfl,hp,ho⟩
def op2 (k:Int) (x y:Ex):Ex:= .mk k 0 0 0 [] [x,y]
mutual
def pSum:Nat->List UInt8->Except Int (Ex×List UInt8)
 | 0,_=> .error 99
 | n+1,r=>match pProd n r with
  | .error e=> .error e
  | .ok (x,r')=>pSumL n x r'
def pSumL:Nat->Ex->List UInt8->Except Int (Ex×List UInt8)
 | 0,_,_=> .error 99
 | n+1,x,r=>if tk r=[43] then (match pProd n (aft r) with
   | .error e=> .error e
   | .ok (y,r')=>pSumL n (op2 3 x y) r')
  else if tk r=[45] then (match pProd n (aft r) with
   | .error e=> .error e
   | .ok (y,r')=>pSumL n (op2 4 x y) r')
  else .ok (x,skipS r)
def pProd:Nat->List UInt8->Except Int (Ex×List UInt8)
 | 0,_=> .error 99
 | n+1,r=>match pFac n r with
  | .error e=> .error e
  | .ok (x,r')=>pProdL n x r'
def pProdL:Nat->Ex->List UInt8->Except Int (Ex×List UInt8)
 | 0,_,_=> .error 99
 | n+1,x,r=>if tk r=[42] then (match pFac n (aft r) with
   | .error e=> .error e
   | .ok (y,r')=>pProdL n (op2 5 x y) r')
  else if tk r=[47] then (match pFac n (aft r) with
   | .error e=> .error e
   | .ok (y,r')=>pProdL n (op2 6 x y) r')
  else .ok (x,skipS r)
def pFac:Nat->List UInt8->Except Int (Ex×List UInt8)
 | 0,_=> .error 99
 | n+1,r=>
  if tk r=[] then .error 4
  else if tk r=[45] then (match pFac n (aft r) with
   | .error e=> .error e
   | .ok (x,r')=> .ok (.mk 7 0 0 0 [] [x],r'))
  else if tk r=[40] then (match pSum n (aft r) with
   | .error e=> .error e
   | .ok (x,r')=>if expV [41] r' = 0 then .ok (x,aft r') else .error (expV [41] r'))
  else if tk r=[109,105,110] then pCall n 8 (aft r)
  else if tk r=[109,97,120] then pCall n 9 (aft r)
  else match numberV (tk r) with
   | some q=> .ok (.mk 1 q (lmb q.num.natAbs) (lmb q.den) [] [],aft r)
   | none=>if isNameV (tk r) then .ok (.mk 2 0 0 0 (tk r) [],aft r) else .error 2
def pCall:Nat->Int->List UInt8->Except Int (Ex×List UInt8)
 | 0,_,_=> .error 99
 | n+1,k,r=>if expV [40] r=0 then pCallL n k [] (aft r) else .error (expV [40] r)
def pCallL:Nat->Int->List Ex->List UInt8->Except Int (Ex×List UInt8)
 | 0,_,_,_=> .error 99
 | n+1,k,es,r=>match pSum n r with
  | .error e=> .error e
  | .ok (x,r')=>
   if tk r' = [41] then .ok (.mk k 0 0 0 [] (es++[x]),aft r')
   else if tk r' = [] then .error 4
   else if tk r' ≠ [44] then .error 2
   else if es.length+1=8 then .error 2
   else pCallL n k (es++[x]) (aft r')
end
def foParseV (s:List UInt8):Except Int Ex:=
 if 400<s.length then .error 5
 else match pSum 4000 s with
  | .error e=> .error e
  | .ok (x,r)=>if tk r=[] then (if chkV x 1=0 then .ok x else .error (chkV x 1)) else .error 2
abbrev zE:List Value:=[.int .i64 0,.bool false,.slice none 0 0,.slice none 0 0,.string ByteArray.empty,.slice none 0 0]
theorem IsQ.nul (h:Heap):IsQ h false none 0 0 none 0 0 0:=⟨0,0,IsI.pos (NmN.nil h none 0).is,(NmN.nil h none 0).is,by simp⟩
def PaR (o:Except Int (Ex×List UInt8)) (g:Nat) (l:List UInt8) (h:Heap) (r:Value) (h' : Heap):Prop:=
 Le (hole h g) (hole h' g)/\match o with
  | .error e=>e≠0/\r = .tuple #[.agg zE.toArray,.int .i64 e]
  | .ok (x,rest)=> ∃ vs:List Value,r = .tuple #[.agg vs.toArray,.int .i64 0]/\IsE (hole h' g) x vs/\Szs x/\Ps h' g l rest
theorem IsE_op {h:Heap} {k:Int} {es:List Ex} {gk c ty:Nat} {cs:List Value} (hb:h gk=some ⟨cs,ty,(0,0)⟩) (hc:es.length<=c) (hl:6*es.length<=cs.length) (hs:IsEs h es cs) :
  IsE h (.mk k 0 0 0 [] es) [.int .i64 k,.bool false,.slice none 0 0,.slice none 0 0,.string ByteArray.empty,.slice (some ⟨gk,0,none⟩) es.length c]:=by
 unfold IsE
 exact ⟨false,none,0,none,0,some ⟨gk,0,none⟩,c,rfl,IsQ.nul h,hc,fun _=>⟨⟨gk,0,none⟩,_,rfl,rfl,hb,by simpa using hl,by simpa using hs⟩⟩
theorem IsEs.snoc {h:Heap} : ∀ {es:List Ex} {cs:List Value} {x:Ex} {vs rest:List Value},IsEs h es cs->6*es.length<=cs.length->IsE h x vs->IsEs h (es++[x]) (cs.take (6*es.length)++vs++rest)
 | [],cs,x,vs,rest,_,_,ux=>by
  have hv:=ux.len
  unfold IsEs
  refine ⟨?_,by unfold IsEs;trivial⟩
  simp only [List.length_nil,Nat.mul_zero,List.take_zero,List.nil_append]
  rw [List.take_append_of_le_length (by omega),List.take_of_length_le (by omega)]
  exact ux
 | e::es,cs,x,vs,rest,u,hl,ux=>by
  unfold IsEs at u
  rw [List.length_cons] at hl
  rw [List.cons_append]
  unfold IsEs
  rw [List.length_cons,show 6*(es.length+1)=6+6*es.length by omega]
  have e1:cs.take (6+6*es.length)=cs.take 6++(cs.drop 6).take (6*es.length):=List.take_add
  have h6:(cs.take 6).length=6:=by rw [List.length_take];omega
  rw [e1]
  refine ⟨?_, ?_⟩
  ·rw [List.append_assoc,List.append_assoc,List.take_append_of_le_length (by omega),List.take_take,Nat.min_self]
   exact u.1
  ·rw [List.append_assoc,List.append_assoc,List.drop_append_of_le_length (by omega),List.drop_of_length_le (l:=cs.take 6) (by omega),List.nil_append,<- List.append_assoc]
   exact IsEs.snoc u.2 (by rw [List.length_drop];omega) ux
theorem SzsL.snoc : ∀ {es:List Ex} {x:Ex},SzsL es->Szs x->SzsL (es++[x])
 | [],x,_,z=>by unfold SzsL;exact ⟨z,by unfold SzsL;trivial⟩
 | e::es,x,u,z=>by
  unfold SzsL at u
  rw [List.cons_append]
  unfold SzsL
  exact ⟨u.1,SzsL.snoc u.2 z⟩
theorem IsE_two {h:Heap} {k:Int} {x y:Ex} {vs ws:List Value} {gk ty:Nat} (hg:h gk=none) (ux:IsE h x vs) (uy:IsE h y ws) :
  IsE (h.put gk ⟨vs++ws,ty,(0,0)⟩) (op2 k x y) [.int .i64 k,.bool false,.slice none 0 0,.slice none 0 0,.string ByteArray.empty,.slice (some ⟨gk,0,none⟩) 2 2]:=by
 have l:=Le.new hg ⟨vs++ws,ty,(0,0)⟩
 have h1:=ux.len
 have h2:=uy.len
 refine IsE_op (es:=[x,y]) (cs:=vs++ws) (Heap.put_same _ _ _) (by simp) (by simp;omega) ?_
 unfold IsEs
 refine ⟨by rw [List.take_append_of_le_length (by omega),List.take_of_length_le (by omega)];exact IsE.mono l _ _ ux, ?_⟩
 unfold IsEs
 refine ⟨?_,by unfold IsEs;trivial⟩
 rw [List.drop_append_of_le_length (by omega),List.drop_of_length_le (by omega),List.nil_append,List.take_of_length_le (by omega)]
 exact IsE.mono l _ _ uy
theorem Szs_two {k:Int} {x y:Ex} (zx:Szs x) (zy:Szs y):Szs (op2 k x y):=by
 unfold op2 Szs SzsL SzsL SzsL
 exact ⟨by omega,by omega,by simp,by simp,zx,zy,trivial⟩
def MOk (f:FuncId) (args:Nat->List Value) (o:List UInt8->Except Int (Ex×List UInt8)):Prop:=
 ∀ {h:Heap} {g:Nat} {l r:List UInt8},Ps h g l r->l.length<=400->o r ≠ .error 99->CallsU Tryz.prog f (args g) h (PaR (o r) g l h)
abbrev ptr (g:Nat):List Value:=[.pointer (some ⟨g,0,none⟩)]
theorem skip_skip (r:List UInt8):skipS (skipS r)=skipS r:=by
 unfold skipS
 induction r with
 | nil=>rfl
 | cons x r ih=>
  rw [List.dropWhile_cons]
  split
  ·exact ih
  ·rename_i hx
   rw [List.dropWhile_cons,if_neg hx]
theorem foProd_step {n:Nat} (ih : ∀ k,k<=n->MOk 256 ptr (pFac k)):MOk 222 ptr (pProd (n+1)):=by
 intro h g l r u hl hne
 rw [pProd] at hne ⊢
 apply garment_formula_parser_product_ok
 have hsub:=ih n (Nat.le_refl _) (r:=r) u hl
 cases ho:pFac n r with
 | error e=>
  rw [ho] at hne
  rw [ho] at hsub
  refine (hsub hne).mono ?_
  rintro _ h1 ⟨hle,he,rfl⟩
  refine ⟨_,_,_,_,_,_,_,_,_,_,_,_,_,rfl,fun m err _ _ _ _ _ _ _ _ _ _ _ _ _ _ _ _ _ _ _ _ _ _ _ _ h' => err=e/\h' = h1,⟨0,rfl,rfl⟩, ?_⟩
  rintro m _ _ _ _ _ _ _ _ _ _ _ _ _ _ _ _ _ _ _ _ _ _ _ _ _ _ ⟨rfl,rfl⟩
  refine Br.mk (fun q=>absurd (beq_iff_eq.1 q) he) (fun _=>⟨hle,he,rfl⟩)
 | ok p=>
  obtain ⟨x,r1⟩:=p
  rw [ho] at hne
  rw [ho] at hsub
  simp only at hne ⊢
  refine (hsub (by intro q;cases q)).mono ?_
  rintro _ h1 ⟨hle,vs,rfl,ux,zx,hp⟩
  have ux' := ux
  obtain ⟨s0,A0,c0,B0,d0,K0,kc0,rfl,_,_,_⟩:=ux'.open
  refine ⟨_,_,_,_,_,_,_,_,_,_,_,_,_,rfl,fun m err _ _ _ _ _ _ _ _ _ _ _ _ l0 l1 l2A l2n l2c l3A l3n l3c l4 l5A l5n l5c h' => Le (hole h g) (hole h' g)/\((err≠0/\pProdL n x r1 = .error err)\/(err=0/\m<=n/\ ∃ y r2,pProdL m y r2=pProdL n x r1/\IsE (hole h' g) y [.int .i64 l0,.bool l1,.slice l2A l2n l2c,.slice l3A l3n l3c,.string l4,.slice l5A l5n l5c]/\Szs y/\Ps h' g l r2)),⟨n,hle,Or.inr ⟨rfl,Nat.le_refl _,x,r1,rfl,ux,zx,hp⟩⟩, ?_⟩
  rintro m err _ _ _ _ _ _ _ _ _ _ _ _ l0 l1 l2A l2n l2c l3A l3n l3c l4 l5A l5n l5c h2 ⟨hle2,hcase⟩
  refine Br.mk (fun q=> ?_) (fun q=> ?_)
  ·rcases hcase with ⟨h0,_⟩ | ⟨_,hm,y,r2,hy,uy,zy,hp2⟩
   ·exact absurd (beq_iff_eq.1 q) h0
   ·cases m with
    | zero=>rw [pProdL] at hy;exact absurd hy.symm hne
    | succ m=>
     rw [<- hy] at hne
     rw [pProdL] at hy hne
     have go : ∀ (kd:Int) (h3:Heap),Ps h3 g l (skipS r2)->hole h3 g=hole h2 g->tk r2≠[]->(match pFac m (aft r2) with | .error e=> .error e | .ok (z,r')=>pProdL m (op2 kd y z) r')=pProdL n x r1->
      CallsU Tryz.prog 223 (ptr g) h3 fun v_1 h_4=>
       ∃ t23:ByteArray,v_1=Value.string t23/\
       CallsU Tryz.prog 256 (ptr g) h_4 fun v_2 h_5=>
       ∃ t26_0_0:Int,∃ t26_0_1:Bool,∃ t26_0_2A:Option Addr,∃ t26_0_2n t26_0_2c:Nat,∃ t26_0_3A:Option Addr,∃ t26_0_3n t26_0_3c:Nat,∃ t26_0_4:ByteArray,∃ t26_0_5A:Option Addr,∃ t26_0_5n t26_0_5c:Nat,∃ t26_1:Int,v_2=Value.tuple #[Value.agg #[Value.int .i64 t26_0_0,Value.bool t26_0_1,Value.slice t26_0_2A t26_0_2n t26_0_2c,Value.slice t26_0_3A t26_0_3n t26_0_3c,Value.string t26_0_4,Value.slice t26_0_5A t26_0_5n t26_0_5c],Value.int .i64 t26_1]/\
       ∀ (g_1:Nat) (h_6:Heap),h_5 g_1=none->h_6=Heap.put h_5 g_1 ⟨[Value.int .i64 l0,Value.bool l1,Value.slice l2A l2n l2c,Value.slice l3A l3n l3c,Value.string l4,Value.slice l5A l5n l5c,Value.int .i64 t26_0_0,Value.bool t26_0_1,Value.slice t26_0_2A t26_0_2n t26_0_2c,Value.slice t26_0_3A t26_0_3n t26_0_3c,Value.string t26_0_4,Value.slice t26_0_5A t26_0_5n t26_0_5c],39,(0,0)⟩->
       ∃ m_1,m_1<m+1/\Le (hole h g) (hole h_6 g)/\((t26_1≠0/\pProdL n x r1 = .error t26_1)\/(t26_1=0/\m_1<=n/\ ∃ y r2,pProdL m_1 y r2=pProdL n x r1/\IsE (hole h_6 g) y [.int .i64 kd,.bool false,.slice none 0 0,.slice none 0 0,.string ByteArray.empty,.slice (some ⟨g_1,0,none⟩) 2 2]/\Szs y/\Ps h_6 g l r2)):=by
      intro kd h3 hp3 ho3 htk heq
      refine (foTake_c hp3 (by omega)).mono ?_
      rintro _ h4 ⟨rfl,hp4,ho4⟩
      have ea:aft (skipS r2)=aft r2:=by unfold aft tk;rw [skip_skip]
      rw [ea] at hp4
      refine ⟨_,rfl, ?_⟩
      have hs2:=ih m (by omega) (r:=aft r2) hp4 hl
      cases ho5:pFac m (aft r2) with
      | error e=>
       rw [ho5] at heq hs2
       simp only at heq
       refine (hs2 (by intro q;rw [q] at heq;exact absurd heq.symm (by rw [hy] at hne;exact hne))).mono ?_
       rintro _ h5 ⟨hle5,he,rfl⟩
       refine ⟨_,_,_,_,_,_,_,_,_,_,_,_,_,rfl, ?_⟩
       rintro g1 _ hg1 rfl
       have hng:hole h5 g g1=none:=by
        unfold Go.Proofs.YtfglcgbgaeegaaaGreatDoor.hole;split
        ·rfl
        ·exact hg1
       have hl5:Le (hole h g) (hole h5 g):=(hle2.trans (by rw [<- ho3,<- ho4];exact hle5))
       refine ⟨m,by omega, ?_,Or.inl ⟨he,heq.symm⟩⟩
       by_cases e1:g1=g
       ·subst e1;rw [hole_put];exact hl5
       ·rw [hole_put_ne _ _ e1];exact hl5.trans (Le.new hng _)
      | ok p=>
       obtain ⟨z,r3⟩:=p
       rw [ho5] at heq hs2
       simp only at heq
       refine (hs2 (by intro q;cases q)).mono ?_
       rintro _ h5 ⟨hle5,vs5,rfl,uz,zz,hp5⟩
       have uz' := uz
       obtain ⟨s5,A5,c5,B5,d5,K5,kc5,rfl,_,_,_⟩:=uz'.open
       refine ⟨_,_,_,_,_,_,_,_,_,_,_,_,_,rfl, ?_⟩
       rintro g1 _ hg1 rfl
       have hgg:g1≠g:=fun e=>by
        obtain ⟨_,_,_,hb⟩:=hp5
        rw [e,hb] at hg1;cases hg1
       have hng:hole h5 g g1=none:=by rw [hole_ne _ hgg];exact hg1
       have hl25:Le (hole h2 g) (hole h5 g):=by rw [<- ho3,<- ho4];exact hle5
       refine ⟨m,by omega, ?_,Or.inr ⟨rfl,by omega,op2 kd y z,r3,heq, ?_,Szs_two zy zz, ?_⟩⟩
       ·rw [hole_put_ne _ _ hgg]
        exact (hle2.trans hl25).trans (Le.new hng _)
       ·rw [hole_put_ne _ _ hgg]
        exact IsE_two hng (IsE.mono hl25 _ _ uy) uz
       ·obtain ⟨pre,ty,hlr,hb⟩:=hp5
        exact ⟨pre,ty,hlr,by rw [Heap.put_ne _ _ (fun e=>hgg e.symm)];exact hb⟩
     refine ⟨fun kd _ _ _ _ _ _ _ _ _ _ _ _ h3=>Ps h3 g l (skipS r2)/\hole h3 g=hole h2 g/\tk r2≠[]/\(match pFac m (aft r2) with | .error e=> .error e | .ok (z,r')=>pProdL m (op2 kd y z) r')=pProdL n x r1, ?_, ?_⟩
     ·rintro kd _ _ _ _ _ _ _ _ _ _ _ _ h3 ⟨a1,a2,a3,a4⟩
      exact go kd h3 a1 a2 a3 a4
     ·refine (foNext_c hp2 (by omega)).mono ?_
      rintro _ h3 ⟨rfl,hp3,ho3⟩
      have b1:(⟨#[42]⟩:ByteArray).toList=[42]:=bytes_toList _
      have b2:(⟨#[47]⟩:ByteArray).toList=[47]:=bytes_toList _
      refine ⟨_,rfl, ?_⟩
      rw [bytes_toList,b1,b2]
      refine Br.mk (fun q1=> ?_) (fun q1=>Br.mk (fun q2=> ?_) (fun q2=> ?_))
      ·have e1:=beq_iff_eq.1 q1
       rw [if_pos e1] at hy
       exact ⟨hp3,ho3,by rw [e1];simp,hy⟩
      ·have e1:=beq_eq_false_iff_ne.1 q1
       have e2:=beq_iff_eq.1 q2
       rw [if_neg e1,if_pos e2] at hy
       exact ⟨hp3,ho3,by rw [e2];simp,hy⟩
      ·have e1:=beq_eq_false_iff_ne.1 q1
       have e2:=beq_eq_false_iff_ne.1 q2
       rw [if_neg e1,if_neg e2] at hy
       rw [<- hy]
       exact ⟨by rw [ho3];exact hle2,_,rfl,by rw [ho3];exact uy,zy,hp3⟩
  ·rcases hcase with ⟨h0,hy⟩ | ⟨h0,_⟩
   ·rw [hy]
    exact ⟨hle2,h0,rfl⟩
   ·rw [h0] at q;exact absurd q (by decide)
theorem foSum_step {n:Nat} (ih : ∀ k,k<=n->MOk 222 ptr (pProd k)):MOk 165 ptr (pSum (n+1)):=by
 intro h g l r u hl hne
 rw [pSum] at hne ⊢
 apply garment_formula_parser_sum_ok
 have hsub:=ih n (Nat.le_refl _) (r:=r) u hl
 cases ho:pProd n r with
 | error e=>
  rw [ho] at hne
  rw [ho] at hsub
  refine (hsub hne).mono ?_
  rintro _ h1 ⟨hle,he,rfl⟩
  refine ⟨_,_,_,_,_,_,_,_,_,_,_,_,_,rfl,fun m err _ _ _ _ _ _ _ _ _ _ _ _ _ _ _ _ _ _ _ _ _ _ _ _ h' => err=e/\h' = h1,⟨0,rfl,rfl⟩, ?_⟩
  rintro m _ _ _ _ _ _ _ _ _ _ _ _ _ _ _ _ _ _ _ _ _ _ _ _ _ _ ⟨rfl,rfl⟩
  refine Br.mk (fun q=>absurd (beq_iff_eq.1 q) he) (fun _=>⟨hle,he,rfl⟩)
 | ok p=>
  obtain ⟨x,r1⟩:=p
  rw [ho] at hne
  rw [ho] at hsub
  simp only at hne ⊢
  refine (hsub (by intro q;cases q)).mono ?_
  rintro _ h1 ⟨hle,vs,rfl,ux,zx,hp⟩
  have ux' := ux
  obtain ⟨s0,A0,c0,B0,d0,K0,kc0,rfl,_,_,_⟩:=ux'.open
  refine ⟨_,_,_,_,_,_,_,_,_,_,_,_,_,rfl,fun m err _ _ _ _ _ _ _ _ _ _ _ _ l0 l1 l2A l2n l2c l3A l3n l3c l4 l5A l5n l5c h' => Le (hole h g) (hole h' g)/\((err≠0/\pSumL n x r1 = .error err)\/(err=0/\m<=n/\ ∃ y r2,pSumL m y r2=pSumL n x r1/\IsE (hole h' g) y [.int .i64 l0,.bool l1,.slice l2A l2n l2c,.slice l3A l3n l3c,.string l4,.slice l5A l5n l5c]/\Szs y/\Ps h' g l r2)),⟨n,hle,Or.inr ⟨rfl,Nat.le_refl _,x,r1,rfl,ux,zx,hp⟩⟩, ?_⟩
  rintro m err _ _ _ _ _ _ _ _ _ _ _ _ l0 l1 l2A l2n l2c l3A l3n l3c l4 l5A l5n l5c h2 ⟨hle2,hcase⟩
  refine Br.mk (fun q=> ?_) (fun q=> ?_)
  ·rcases hcase with ⟨h0,_⟩ | ⟨_,hm,y,r2,hy,uy,zy,hp2⟩
   ·exact absurd (beq_iff_eq.1 q) h0
   ·cases m with
    | zero=>rw [pSumL] at hy;exact absurd hy.symm hne
    | succ m=>
     rw [<- hy] at hne
     rw [pSumL] at hy hne
     have go : ∀ (kd:Int) (h3:Heap),Ps h3 g l (skipS r2)->hole h3 g=hole h2 g->tk r2≠[]->(match pProd m (aft r2) with | .error e=> .error e | .ok (z,r')=>pSumL m (op2 kd y z) r')=pSumL n x r1->
      CallsU Tryz.prog 223 (ptr g) h3 fun v_1 h_4=>
       ∃ t23:ByteArray,v_1=Value.string t23/\
       CallsU Tryz.prog 222 (ptr g) h_4 fun v_2 h_5=>
       ∃ t26_0_0:Int,∃ t26_0_1:Bool,∃ t26_0_2A:Option Addr,∃ t26_0_2n t26_0_2c:Nat,∃ t26_0_3A:Option Addr,∃ t26_0_3n t26_0_3c:Nat,∃ t26_0_4:ByteArray,∃ t26_0_5A:Option Addr,∃ t26_0_5n t26_0_5c:Nat,∃ t26_1:Int,v_2=Value.tuple #[Value.agg #[Value.int .i64 t26_0_0,Value.bool t26_0_1,Value.slice t26_0_2A t26_0_2n t26_0_2c,Value.slice t26_0_3A t26_0_3n t26_0_3c,Value.string t26_0_4,Value.slice t26_0_5A t26_0_5n t26_0_5c],Value.int .i64 t26_1]/\
       ∀ (g_1:Nat) (h_6:Heap),h_5 g_1=none->h_6=Heap.put h_5 g_1 ⟨[Value.int .i64 l0,Value.bool l1,Value.slice l2A l2n l2c,Value.slice l3A l3n l3c,Value.string l4,Value.slice l5A l5n l5c,Value.int .i64 t26_0_0,Value.bool t26_0_1,Value.slice t26_0_2A t26_0_2n t26_0_2c,Value.slice t26_0_3A t26_0_3n t26_0_3c,Value.string t26_0_4,Value.slice t26_0_5A t26_0_5n t26_0_5c],39,(0,0)⟩->
       ∃ m_1,m_1<m+1/\Le (hole h g) (hole h_6 g)/\((t26_1≠0/\pSumL n x r1 = .error t26_1)\/(t26_1=0/\m_1<=n/\ ∃ y r2,pSumL m_1 y r2=pSumL n x r1/\IsE (hole h_6 g) y [.int .i64 kd,.bool false,.slice none 0 0,.slice none 0 0,.string ByteArray.empty,.slice (some ⟨g_1,0,none⟩) 2 2]/\Szs y/\Ps h_6 g l r2)):=by
      intro kd h3 hp3 ho3 htk heq
      refine (foTake_c hp3 (by omega)).mono ?_
      rintro _ h4 ⟨rfl,hp4,ho4⟩
      have ea:aft (skipS r2)=aft r2:=by unfold aft tk;rw [skip_skip]
      rw [ea] at hp4
      refine ⟨_,rfl, ?_⟩
      have hs2:=ih m (by omega) (r:=aft r2) hp4 hl
      cases ho5:pProd m (aft r2) with
      | error e=>
       rw [ho5] at heq hs2
       simp only at heq
       refine (hs2 (by intro q;rw [q] at heq;exact absurd heq.symm (by rw [hy] at hne;exact hne))).mono ?_
       rintro _ h5 ⟨hle5,he,rfl⟩
       refine ⟨_,_,_,_,_,_,_,_,_,_,_,_,_,rfl, ?_⟩
       rintro g1 _ hg1 rfl
       have hng:hole h5 g g1=none:=by
        unfold Go.Proofs.YtfglcgbgaeegaaaGreatDoor.hole;split
        ·rfl
        ·exact hg1
       have hl5:Le (hole h g) (hole h5 g):=(hle2.trans (by rw [<- ho3,<- ho4];exact hle5))
       refine ⟨m,by omega, ?_,Or.inl ⟨he,heq.symm⟩⟩
       by_cases e1:g1=g
       ·subst e1;rw [hole_put];exact hl5
       ·rw [hole_put_ne _ _ e1];exact hl5.trans (Le.new hng _)
      | ok p=>
       obtain ⟨z,r3⟩:=p
       rw [ho5] at heq hs2
       simp only at heq
       refine (hs2 (by intro q;cases q)).mono ?_
       rintro _ h5 ⟨hle5,vs5,rfl,uz,zz,hp5⟩
       have uz' := uz
       obtain ⟨s5,A5,c5,B5,d5,K5,kc5,rfl,_,_,_⟩:=uz'.open
       refine ⟨_,_,_,_,_,_,_,_,_,_,_,_,_,rfl, ?_⟩
       rintro g1 _ hg1 rfl
       have hgg:g1≠g:=fun e=>by
        obtain ⟨_,_,_,hb⟩:=hp5
        rw [e,hb] at hg1;cases hg1
       have hng:hole h5 g g1=none:=by rw [hole_ne _ hgg];exact hg1
       have hl25:Le (hole h2 g) (hole h5 g):=by rw [<- ho3,<- ho4];exact hle5
       refine ⟨m,by omega, ?_,Or.inr ⟨rfl,by omega,op2 kd y z,r3,heq, ?_,Szs_two zy zz, ?_⟩⟩
       ·rw [hole_put_ne _ _ hgg]
        exact (hle2.trans hl25).trans (Le.new hng _)
       ·rw [hole_put_ne _ _ hgg]
        exact IsE_two hng (IsE.mono hl25 _ _ uy) uz
       ·obtain ⟨pre,ty,hlr,hb⟩:=hp5
        exact ⟨pre,ty,hlr,by rw [Heap.put_ne _ _ (fun e=>hgg e.symm)];exact hb⟩
     refine ⟨fun kd _ _ _ _ _ _ _ _ _ _ _ _ h3=>Ps h3 g l (skipS r2)/\hole h3 g=hole h2 g/\tk r2≠[]/\(match pProd m (aft r2) with | .error e=> .error e | .ok (z,r')=>pSumL m (op2 kd y z) r')=pSumL n x r1, ?_, ?_⟩
     ·rintro kd _ _ _ _ _ _ _ _ _ _ _ _ h3 ⟨a1,a2,a3,a4⟩
      exact go kd h3 a1 a2 a3 a4
     ·refine (foNext_c hp2 (by omega)).mono ?_
      rintro _ h3 ⟨rfl,hp3,ho3⟩
      have b1:(⟨#[43]⟩:ByteArray).toList=[43]:=bytes_toList _
      have b2:(⟨#[45]⟩:ByteArray).toList=[45]:=bytes_toList _
      refine ⟨_,rfl, ?_⟩
      rw [bytes_toList,b1,b2]
      refine Br.mk (fun q1=> ?_) (fun q1=>Br.mk (fun q2=> ?_) (fun q2=> ?_))
      ·have e1:=beq_iff_eq.1 q1
       rw [if_pos e1] at hy
       exact ⟨hp3,ho3,by rw [e1];simp,hy⟩
      ·have e1:=beq_eq_false_iff_ne.1 q1
       have e2:=beq_iff_eq.1 q2
       rw [if_neg e1,if_pos e2] at hy
       exact ⟨hp3,ho3,by rw [e2];simp,hy⟩
      ·have e1:=beq_eq_false_iff_ne.1 q1
       have e2:=beq_eq_false_iff_ne.1 q2
       rw [if_neg e1,if_neg e2] at hy
       rw [<- hy]
       exact ⟨by rw [ho3];exact hle2,_,rfl,by rw [ho3];exact uy,zy,hp3⟩
  ·rcases hcase with ⟨h0,hy⟩ | ⟨h0,_⟩
   ·rw [hy]
    exact ⟨hle2,h0,rfl⟩
   ·rw [h0] at q;exact absurd q (by decide)
def KO (h0 h:Heap) (g:Nat) (A:Option Addr) (n c:Nat) (es:List Ex):Prop:=
 es.length=n/\SzsL es/\((A=none/\n=0/\c=0)\/ ∃ gk cs,h0 gk=none/\gk≠g/\A=some ⟨gk,0,none⟩/\h gk=some ⟨cs,39,(0,0)⟩/\cs.length=6*c/\n<=c/\IsEs (hole (hole h g) gk) es cs)
theorem IsEs.take {h:Heap} : ∀ {es:List Ex} {cs:List Value},IsEs h es cs->IsEs h es (cs.take (6*es.length))
 | [],cs,_=>by unfold IsEs;trivial
 | e::es,cs,u=>by
  unfold IsEs at u ⊢
  rw [List.length_cons,show 6*(es.length+1)=6+6*es.length by omega]
  refine ⟨by rw [List.take_take,Nat.min_eq_left (by omega)];exact u.1, ?_⟩
  rw [List.drop_take,show 6+6*es.length-6=6*es.length by omega]
  exact IsEs.take u.2
theorem repV_six (k:Nat):(repV zE k).length=6*k:=by
 induction k with
 | zero=>rfl
 | succ k ih=>rw [repV,List.length_append,ih];simp;omega
theorem lmb_le (v:Nat):lmb v<=2:=by unfold lmb;split<;>(try split)<;>omega
def cutA (h:Heap):Option Addr->Heap
 | none=>h
 | some a=>hole h a.block
theorem cutA_le (h:Heap) (A:Option Addr):Le (cutA h A) h:=by
 cases A with
 | none=>exact Le.refl _
 | some a=>exact hole_le _ _
theorem foKid_c {n:Nat} (ih:MOk 165 ptr (pSum n)) {h:Heap} {g:Nat} {l r:List UInt8} (h0:Heap) (A:Option Addr) (k c:Nat) (es:List Ex) (u:Ps h g l r) (hl:l.length<=400) (hne:pSum n r ≠ .error 99) (ko:KO h0 h g A k c es) :
  CallsU Tryz.prog 165 (ptr g) h fun v h' => Le (hole h g) (hole h' g)/\match pSum n r with
   | .error e=>e≠0/\v = .tuple #[.agg zE.toArray,.int .i64 e]
   | .ok (x,rest)=> ∃ vs:List Value,v = .tuple #[.agg vs.toArray,.int .i64 0]/\IsE (cutA (hole h' g) A) x vs/\Szs x/\Ps h' g l rest/\KO h0 h' g A k c es:=by
 obtain ⟨k1,k2,k3⟩:=ko
 rcases k3 with ⟨rfl,rfl,rfl⟩ | ⟨gk,cs,hg0,hgk,rfl,hb,hcl,hkc,hes⟩
 ·refine (ih u hl hne).mono ?_
  rintro v h' ⟨hle,hm⟩
  refine ⟨hle, ?_⟩
  cases ho:pSum n r with
  | error e=>rw [ho] at hm;exact hm
  | ok p=>
   obtain ⟨x,r'⟩:=p
   rw [ho] at hm
   obtain ⟨vs,hv,ux,zx,hp⟩:=hm
   exact ⟨vs,hv,ux,zx,hp,k1,k2,Or.inl ⟨rfl,rfl,rfl⟩⟩
 ·have u0:Ps (hole h gk) g l r:=by
   obtain ⟨pre,ty,e1,e2⟩:=u
   exact ⟨pre,ty,e1,by rw [hole_ne _ (fun e=>hgk e.symm)];exact e2⟩
  have fr:=(ih u0 hl hne).frame (g:=gk) (b:=⟨cs,39,(0,0)⟩) (hole_at h gk)
  rw [put_hole hb] at fr
  refine fr.mono ?_
  rintro v _ ⟨h1,⟨hle,hm⟩,h1k,rfl⟩
  have hx:hole (h1.put gk ⟨cs,39,(0,0)⟩) g=(hole h1 g).put gk ⟨cs,39,(0,0)⟩:=hole_put_ne _ _ hgk
  have h1n:hole h1 g gk=none:=by rw [hole_ne _ hgk];exact h1k
  have hcut:hole ((hole h1 g).put gk ⟨cs,39,(0,0)⟩) gk=hole h1 g:=by rw [hole_put,hole_none h1n]
  refine ⟨?_, ?_⟩
  ·rw [hx]
   intro j b hj
   by_cases e:j=gk
   ·subst e
    rw [hole_ne _ hgk,hb] at hj
    cases hj
    rw [Heap.put_same]
   ·rw [Heap.put_ne _ _ e]
    apply hle
    by_cases e2:j=g
    ·subst e2;rw [hole_at] at hj;cases hj
    ·rw [hole_ne _ e2] at hj ⊢
     rw [hole_ne _ e];exact hj
  ·cases ho:pSum n r with
   | error e=>rw [ho] at hm;exact hm
   | ok p=>
    obtain ⟨x,r'⟩:=p
    rw [ho] at hm
    obtain ⟨vs,hv,ux,zx,hp⟩:=hm
    refine ⟨vs,hv, ?_,zx, ?_,k1,k2,Or.inr ⟨gk,cs,hg0,hgk,rfl,Heap.put_same _ _ _,hcl,hkc, ?_⟩⟩
    ·show IsE (hole (hole (h1.put gk _) g) gk) x vs
     rw [hx,hcut];exact ux
    ·obtain ⟨pre,ty,e1,e2⟩:=hp
     exact ⟨pre,ty,e1,by rw [Heap.put_ne _ _ (fun e=>hgk e.symm)];exact e2⟩
    ·rw [hx,hcut]
     refine IsEs.mono ?_ _ _ hes
     rw [hole_comm];exact hle
theorem foCall_step {n:Nat} (kd:Int) (ih : ∀ k,k<=n->MOk 165 ptr (pSum k)):MOk 278 (fun g=>[.pointer (some ⟨g,0,none⟩),.int .i64 kd]) (pCall (n+1) kd):=by
 intro h g l r u hl hne
 rw [pCall] at hne ⊢
 apply garment_formula_parser_call_ok
 refine (foExpect_c [40] u (by omega)).mono ?_
 rintro _ h1 ⟨rfl,hp,ho⟩
 refine ⟨_,rfl,Br.mk (fun q=> ?_) (fun q=> ?_)⟩
 ·have h0:expV [40] r≠0:=by simpa using q
  rw [if_neg h0]
  exact ⟨by rw [ho];exact Le.refl _,h0,rfl⟩
 ·have h0:expV [40] r=0:=by simpa using q
  rw [if_pos h0] at hne ⊢
  generalize hr:aft r=r1 at *
  refine ⟨fun m A k c _ _ _ _ _ _ _ _ _ _ _ _ h' => ∃ es r2,m<=n/\pCallL m kd es r2=pCallL n kd [] r1/\KO h h' g A k c es/\k<8/\Ps h' g l r2/\Le (hole h g) (hole h' g),⟨n,[],r1,Nat.le_refl _,rfl,⟨rfl,by unfold SzsL;trivial,Or.inl ⟨rfl,rfl,rfl⟩⟩,by omega,hp,by rw [ho];exact Le.refl _⟩, ?_⟩
  rintro m A k c _ _ _ _ _ _ _ _ _ _ _ _ h2 ⟨es,r2,hm,heq,ko,hk8,hp2,hle2⟩
  cases m with
  | zero=>rw [pCallL] at heq;exact absurd heq.symm hne
  | succ m=>
   rw [<- heq] at hne
   rw [pCallL] at heq hne
   have kc:=foKid_c (ih m (by omega)) (r:=r2) h A k c es hp2 hl
   cases ho5:pSum m r2 with
   | error e=>
    rw [ho5] at heq hne kc
    simp only at heq hne
    refine (kc hne ko).mono ?_
    rintro _ h3 ⟨hle3,he,rfl⟩
    refine ⟨_,_,_,_,_,_,_,_,_,_,_,_,_,rfl,Br.mk (fun _=> ?_) (fun q=>by rw [bne_eq_false_iff_eq] at q;exact absurd q he)⟩
    rw [<- heq]
    exact ⟨hle2.trans hle3,he,rfl⟩
   | ok p=>
    obtain ⟨x,r3⟩:=p
    rw [ho5] at heq hne kc
    simp only at heq hne
    refine (kc (by intro q;cases q) ko).mono ?_
    rintro _ h3 ⟨hle3,vs,rfl,ux,zx,hp3,ko3⟩
    have ux' := ux
    have hvl:=ux.len
    obtain ⟨s3,A3,c3,B3,d3,K3,kc3,hvs,_,_,_⟩:=ux'.open
    subst hvs
    refine ⟨_,_,_,_,_,_,_,_,_,_,_,_,_,rfl,Br.mk (fun q=>by exact absurd q (by decide)) (fun _=> ?_)⟩
    refine ⟨fun A' k' c' h' => KO h h' g A' k' c' (es++[x])/\k' = k+1/\Ps h' g l r3/\Le (hole h g) (hole h' g)/\A' ≠ none, ?_, ?_⟩
    ·rintro A' k' c' h4 ⟨ko4,rfl,hp4,hle4,hA'⟩
     refine (foTake_c hp4 (by omega)).mono ?_
     rintro _ h5 ⟨rfl,hp5,ho5⟩
     have hle5:Le (hole h g) (hole h5 g):=by rw [ho5];exact hle4
     have b1:(⟨#[41]⟩:ByteArray).toList=[41]:=bytes_toList _
     have b2:(⟨#[44]⟩:ByteArray).toList=[44]:=bytes_toList _
     have b0:(⟨#[]⟩:ByteArray).toList=[]:=bytes_toList []
     have hlen:=ko4.1
     rw [List.length_append,List.length_singleton] at hlen
     have ko5:KO h h5 g A' (k+1) c' (es++[x]):=by
      obtain ⟨a1,a2,a3⟩:=ko4
      refine ⟨a1,a2, ?_⟩
      rcases a3 with a3 | ⟨gk,cs,b0', b1,b2,b3,b4,b5,b6⟩
      ·exact Or.inl a3
      ·refine Or.inr ⟨gk,cs,b0', b1,b2, ?_,b4,b5,by rw [ho5];exact b6⟩
       have:=congrFun ho5 gk
       rw [hole_ne _ b1,hole_ne _ b1] at this
       rw [this];exact b3
     refine ⟨_,rfl, ?_⟩
     rw [bytes_toList,b1,b2,b0]
     refine Br.mk (fun q1=> ?_) (fun q1=>Br.mk (fun q2=> ?_) (fun q2=>Br.mk (fun q3=> ?_) (fun q3=>Br.mk (fun q4=> ?_) (fun q4=> ?_))))
     ·rw [if_pos (beq_iff_eq.1 q1)] at heq
      rw [<- heq]
      obtain ⟨a1,a2,a3⟩:=ko5
      rcases a3 with ⟨a3,_⟩ | ⟨gk,cs,b0', b1,b2,b3,b4,b5,b6⟩
      ·exact absurd a3 hA'
      ·subst b2
       refine ⟨hle5,_,rfl, ?_, ?_,hp5⟩
       ·have e1:=IsE_op (h:=hole h5 g) (k:=kd) (es:=es++[x]) (gk:=gk) (c:=c') (ty:=39) (cs:=cs) (by rw [hole_ne _ b1];exact b3) (by omega) (by omega) (IsEs.mono (hole_le _ _) _ _ b6)
        rw [a1] at e1
        exact e1
       ·unfold Szs
        exact ⟨by omega,by omega,by simp,by omega,a2⟩
     ·rw [if_neg (beq_eq_false_iff_ne.1 q1),if_pos (beq_iff_eq.1 q2)] at heq
      rw [<- heq]
      exact ⟨hle5,by decide,rfl⟩
     ·have h3:tk r3≠[44]:=by simpa using q3
      rw [if_neg (beq_eq_false_iff_ne.1 q1),if_neg (beq_eq_false_iff_ne.1 q2),if_pos h3] at heq
      rw [<- heq]
      exact ⟨hle5,by decide,rfl⟩
     ·have h3:tk r3=[44]:=by simpa using q3
      have h4:es.length+1=8:=by have:=beq_iff_eq.1 q4;omega
      rw [if_neg (beq_eq_false_iff_ne.1 q1),if_neg (beq_eq_false_iff_ne.1 q2),if_neg (by simp [h3]),if_pos h4] at heq
      rw [<- heq]
      exact ⟨hle5,by decide,rfl⟩
     ·have h3:tk r3=[44]:=by simpa using q3
      have h4:es.length+1≠8:=by have:=beq_eq_false_iff_ne.1 q4;omega
      rw [if_neg (beq_eq_false_iff_ne.1 q1),if_neg (beq_eq_false_iff_ne.1 q2),if_neg (by simp [h3]),if_neg h4] at heq
      exact ⟨m,by omega,es++[x],aft r3,by omega,heq,ko5,by omega,hp5,hle5⟩
    ·rintro g6 _ hg6 rfl
     obtain ⟨a1,a2,a3⟩:=ko3
     have hgg:g6≠g:=fun e=>by
      obtain ⟨_,_,_,hb⟩:=hp3
      rw [e,hb] at hg6;cases hg6
     refine ⟨cellsE x.kind s3 A3 x.ln c3 B3 x.lm d3 x.name K3 x.kids.length kc3,⟨rfl,fun _=>⟨_,rfl,rfl,_,Heap.put_same _ _ _,rfl⟩⟩, ?_, ?_, ?_⟩
     ·intro y hy
      simp only [cellsE,List.mem_cons,List.not_mem_nil,or_false] at hy
      rcases hy with rfl | rfl | rfl | rfl | rfl | rfl<;>rfl
     ·intro hcap
      rcases a3 with ⟨_,_,rfl⟩ | ⟨gk,cs,b0', b1,rfl,b3,b4,b5,b6⟩
      ·omega
      ·have hg6k:g6≠gk:=fun e=>by rw [e,b3] at hg6;cases hg6
       refine ⟨_,_,rfl,rfl,by rw [Heap.put_ne _ _ (fun e=>hg6k e.symm)];exact b3,rfl,by simp only;omega, ?_⟩
       rintro _ rfl
       have hx1 : ∀ B6 B7:Blk,hole ((h3.put g6 B6).put gk B7) g=((hole h3 g).put g6 B6).put gk B7:=fun B6 B7=>by
        rw [hole_put_ne _ _ b1,hole_put_ne _ _ hgg]
       have hn6:hole h3 g g6=none:=by rw [hole_ne _ hgg];exact hg6
       refine ⟨⟨by rw [List.length_append];simp;omega,SzsL.snoc a2 zx,Or.inr ⟨gk,setSeg cs (0+k*6) (cellsE x.kind s3 A3 x.ln c3 B3 x.lm d3 x.name K3 x.kids.length kc3),b0', b1,rfl,Heap.put_same _ _ _, ?_,hcap, ?_⟩⟩,rfl, ?_, ?_,by simp⟩
       ·unfold setSeg
        rw [List.length_append,List.length_append,List.length_take,List.length_drop,cellsE_len]
        omega
       ·refine IsEs.mono (h:=(hole (hole h3 g) gk).put g6 ⟨cellsE x.kind s3 A3 x.ln c3 B3 x.lm d3 x.name K3 x.kids.length kc3,39,(0,0)⟩) ?_ _ _ ?_
        ·rw [hx1,hole_put,hole_put_ne _ _ hg6k]
         exact Le.refl _
        ·have hn7:hole (hole h3 g) gk g6=none:=by rw [hole_ne _ hg6k];exact hn6
         have l7:=Le.new hn7 ⟨cellsE x.kind s3 A3 x.ln c3 B3 x.lm d3 x.name K3 x.kids.length kc3,39,(0,0)⟩
         have:=IsEs.snoc (rest:=cs.drop (0+k*6+(cellsE x.kind s3 A3 x.ln c3 B3 x.lm d3 x.name K3 x.kids.length kc3).length)) (IsEs.mono l7 _ _ b6) (by omega) (IsE.mono l7 _ _ ux)
         unfold setSeg
         rw [show 0+k*6=6*es.length by omega] at this ⊢
         exact this
       ·obtain ⟨pre,ty,e1,e2⟩:=hp3
        exact ⟨pre,ty,e1,by rw [Heap.put_ne _ _ (fun e=>b1 e.symm),Heap.put_ne _ _ (fun e=>hgg e.symm)];exact e2⟩
       ·rw [hx1]
        refine Le.put ?_ (by rw [hole_ne _ b1];exact b0') _
        exact (hle2.trans hle3).trans (Le.new hn6 _)
     ·intro hcap
      have hn6:hole h3 g g6=none:=by rw [hole_ne _ hgg];exact hg6
      have hk6:k*6=6*es.length:=by omega
      have holds : ∃ olds:List Value,RdS (h3.put g6 ⟨cellsE x.kind s3 A3 x.ln c3 B3 x.lm d3 x.name K3 x.kids.length kc3,39,(0,0)⟩) A (k*6) olds/\IsEs (hole h3 g) es olds/\olds.length=6*es.length:=by
       rcases a3 with ⟨rfl,rfl,rfl⟩ | ⟨gk,cs,b0', b1,rfl,b3,b4,b5,b6⟩
       ·have:es=[]:=List.length_eq_zero_iff.1 a1
        subst this
        exact ⟨[],⟨rfl,fun q=>absurd q (by decide)⟩,by unfold IsEs;trivial,rfl⟩
       ·have hg6k:g6≠gk:=fun e=>by rw [e,b3] at hg6;cases hg6
        refine ⟨cs.take (6*es.length),⟨by rw [List.length_take];omega,fun _=>⟨_,rfl,rfl,_,by rw [Heap.put_ne _ _ (fun e=>hg6k e.symm)];exact b3, ?_⟩⟩, ?_,by rw [List.length_take];omega⟩
        ·simp only [List.drop_zero,List.length_take]
         congr 1
         omega
        ·exact IsEs.take (IsEs.mono (hole_le _ _) _ _ b6)
      obtain ⟨olds,hrd,hes,hol⟩:=holds
      refine ⟨olds,hrd,by omega, ?_⟩
      rintro g7 cap _ hg7 hcap7 rfl
      have hg76:g7≠g6:=fun e=>by rw [e,Heap.put_same] at hg7;cases hg7
      rw [Heap.put_ne _ _ hg76] at hg7
      have hgg7:g7≠g:=fun e=>by
       obtain ⟨_,_,_,hb⟩:=hp3
       rw [e,hb] at hg7;cases hg7
      have h07:h g7=none:=by
       cases hh:h g7 with
       | none=>rfl
       | some bb=>
        have:=(hle2.trans hle3) g7 bb (by rw [hole_ne _ hgg7];exact hh)
        rw [hole_ne _ hgg7,hg7] at this
        cases this
      have hx1 : ∀ B6 B7:Blk,hole ((h3.put g6 B6).put g7 B7) g=((hole h3 g).put g6 B6).put g7 B7:=fun B6 B7=>by
       rw [hole_put_ne _ _ hgg7,hole_put_ne _ _ hgg]
      refine ⟨⟨by rw [List.length_append];simp;omega,SzsL.snoc a2 zx,Or.inr ⟨g7,_,h07,hgg7,rfl,Heap.put_same _ _ _, ?_,hcap7, ?_⟩⟩,rfl, ?_, ?_,by simp⟩
      ·rw [List.length_append,List.length_append,hol,cellsE_len,repV_six]
       omega
      ·rw [hx1,hole_put,hole_none (by rw [Heap.put_ne _ _ hg76,hole_ne _ hgg7];exact hg7)]
       have l7:=Le.new hn6 ⟨cellsE x.kind s3 A3 x.ln c3 B3 x.lm d3 x.name K3 x.kids.length kc3,39,(0,0)⟩
       have:=IsEs.snoc (rest:=repV zE (cap-(k+1))) (IsEs.mono l7 _ _ hes) (by omega) (IsE.mono (cutA_le _ _) _ _ ux |> IsE.mono l7 _ _)
       rw [List.take_of_length_le (by omega)] at this
       exact this
      ·obtain ⟨pre,ty,e1,e2⟩:=hp3
       exact ⟨pre,ty,e1,by rw [Heap.put_ne _ _ (fun e=>hgg7 e.symm),Heap.put_ne _ _ (fun e=>hgg e.symm)];exact e2⟩
      ·rw [hx1]
       refine Le.put ?_ (by rw [hole_ne _ hgg7];exact h07) _
       exact (hle2.trans hle3).trans (Le.new hn6 _)
theorem foFac_step {n:Nat} (ihF:MOk 256 ptr (pFac n)) (ihS:MOk 165 ptr (pSum n)) (ihC : ∀ kd:Int,MOk 278 (fun g=>[.pointer (some ⟨g,0,none⟩),.int .i64 kd]) (pCall n kd)):MOk 256 ptr (pFac (n+1)):=by
 intro h g l r u hl hne
 rw [pFac] at hne ⊢
 apply garment_formula_parser_factor_ok
 refine (foTake_c u (by omega)).mono ?_
 rintro _ h1 ⟨rfl,hp,ho⟩
 have hle1:Le (hole h g) (hole h1 g):=by rw [ho];exact Le.refl _
 have b0:(⟨#[]⟩:ByteArray).toList=[]:=bytes_toList []
 have b1:(⟨#[45]⟩:ByteArray).toList=[45]:=bytes_toList _
 have b2:(⟨#[40]⟩:ByteArray).toList=[40]:=bytes_toList _
 have b3:(⟨#[109,105,110]⟩:ByteArray).toList=[109,105,110]:=bytes_toList _
 have b4:(⟨#[109,97,120]⟩:ByteArray).toList=[109,97,120]:=bytes_toList _
 refine ⟨_,rfl, ?_⟩
 rw [bytes_toList,b0,b1,b2,b3,b4]
 refine Br.mk (fun q0=> ?_) (fun q0=> ?_)
 ·rw [if_pos (beq_iff_eq.1 q0)]
  exact ⟨hle1,by decide,rfl⟩
 rw [if_neg (beq_eq_false_iff_ne.1 q0)] at hne ⊢
 refine Br.mk (fun q1=> ?_) (fun q1=> ?_)
 ·rw [if_pos (beq_iff_eq.1 q1)] at hne ⊢
  have hs:=ihF hp hl
  cases hoo:pFac n (aft r) with
  | error e=>
   rw [hoo] at hne hs
   simp only at hne
   refine (hs hne).mono ?_
   rintro _ h2 ⟨hle2,he,rfl⟩
   refine ⟨_,_,_,_,_,_,_,_,_,_,_,_,_,rfl,Br.mk (fun _=>⟨hle1.trans hle2,he,rfl⟩) (fun q=>by rw [bne_eq_false_iff_eq] at q;exact absurd q he)⟩
  | ok p=>
   obtain ⟨x,r'⟩:=p
   rw [hoo] at hne hs
   simp only at hne
   refine (hs (by intro q;cases q)).mono ?_
   rintro _ h2 ⟨hle2,vs,rfl,ux,zx,hp2⟩
   have ux' := ux
   obtain ⟨s3,A3,c3,B3,d3,K3,kc3,rfl,_,_,_⟩:=ux'.open
   refine ⟨_,_,_,_,_,_,_,_,_,_,_,_,_,rfl,Br.mk (fun q=>by exact absurd q (by decide)) (fun _=> ?_)⟩
   rintro g1 _ hg1 rfl
   have hgg:g1≠g:=fun e=>by
    obtain ⟨_,_,_,hb⟩:=hp2
    rw [e,hb] at hg1;cases hg1
   have hng:hole h2 g g1=none:=by rw [hole_ne _ hgg];exact hg1
   refine ⟨?_,_,rfl, ?_, ?_, ?_⟩
   ·rw [hole_put_ne _ _ hgg]
    exact (hle1.trans hle2).trans (Le.new hng _)
   ·rw [hole_put_ne _ _ hgg]
    refine IsE_op (es:=[x]) (Heap.put_same _ _ _) (by simp) (by simp) ?_
    unfold IsEs
    exact ⟨IsE.mono (Le.new hng _) _ _ ux,by unfold IsEs;trivial⟩
   ·unfold Szs SzsL SzsL
    exact ⟨by omega,by omega,by simp,by simp,zx,trivial⟩
   ·obtain ⟨pre,ty,hlr,hb⟩:=hp2
    exact ⟨pre,ty,hlr,by rw [Heap.put_ne _ _ (fun e=>hgg e.symm)];exact hb⟩
 rw [if_neg (beq_eq_false_iff_ne.1 q1)] at hne ⊢
 refine Br.mk (fun q2=> ?_) (fun q2=> ?_)
 ·rw [if_pos (beq_iff_eq.1 q2)] at hne ⊢
  have hs:=ihS hp hl
  cases hoo:pSum n (aft r) with
  | error e=>
   rw [hoo] at hne hs
   simp only at hne
   refine (hs hne).mono ?_
   rintro _ h2 ⟨hle2,he,rfl⟩
   refine ⟨_,_,_,_,_,_,_,_,_,_,_,_,_,rfl,Br.mk (fun q=>absurd (beq_iff_eq.1 q) he) (fun _=>Br.mk (fun _=>⟨hle1.trans hle2,he,rfl⟩) (fun q=>by rw [bne_eq_false_iff_eq] at q;exact absurd q he))⟩
  | ok p=>
   obtain ⟨x,r'⟩:=p
   rw [hoo] at hne hs
   simp only at hne
   refine (hs (by intro q;cases q)).mono ?_
   rintro _ h2 ⟨hle2,vs,rfl,ux,zx,hp2⟩
   have ux' := ux
   obtain ⟨s3,A3,c3,B3,d3,K3,kc3,rfl,_,_,_⟩:=ux'.open
   refine ⟨_,_,_,_,_,_,_,_,_,_,_,_,_,rfl,Br.mk (fun _=> ?_) (fun q=>by exact absurd q (by decide))⟩
   refine (foExpect_c [41] hp2 (by omega)).mono ?_
   rintro _ h3 ⟨rfl,hp3,ho3⟩
   have hle3:Le (hole h g) (hole h3 g):=by rw [ho3];exact hle1.trans hle2
   simp only
   refine ⟨_,rfl,Br.mk (fun q=> ?_) (fun q=> ?_)⟩
   ·have h0:expV [41] r' ≠ 0:=by simpa using q
    rw [if_neg h0]
    exact ⟨hle3,h0,rfl⟩
   ·have h0:expV [41] r' = 0:=by simpa using q
    rw [if_pos h0]
    exact ⟨hle3,_,rfl,by rw [ho3];exact ux,zx,hp3⟩
 rw [if_neg (beq_eq_false_iff_ne.1 q2)] at hne ⊢
 have call : ∀ kd:Int,pCall n kd (aft r) ≠ .error 99->CallsU Tryz.prog 278 [.pointer (some ⟨g,0,none⟩),.int .i64 kd] h1 fun v_4 h_6=>
   ∃ t63_0_0:Int,∃ t63_0_1:Bool,∃ t63_0_2A:Option Addr,∃ t63_0_2n t63_0_2c:Nat,∃ t63_0_3A:Option Addr,∃ t63_0_3n t63_0_3c:Nat,∃ t63_0_4:ByteArray,∃ t63_0_5A:Option Addr,∃ t63_0_5n t63_0_5c:Nat,∃ t63_1:Int,v_4=Value.tuple #[Value.agg #[Value.int .i64 t63_0_0,Value.bool t63_0_1,Value.slice t63_0_2A t63_0_2n t63_0_2c,Value.slice t63_0_3A t63_0_3n t63_0_3c,Value.string t63_0_4,Value.slice t63_0_5A t63_0_5n t63_0_5c],Value.int .i64 t63_1]/\
   PaR (pCall n kd (aft r)) g l h (Value.tuple #[Value.agg #[Value.int .i64 t63_0_0,Value.bool t63_0_1,Value.slice t63_0_2A t63_0_2n t63_0_2c,Value.slice t63_0_3A t63_0_3n t63_0_3c,Value.string t63_0_4,Value.slice t63_0_5A t63_0_5n t63_0_5c],Value.int .i64 t63_1]) h_6:=by
  intro kd hne2
  refine ((ihC kd) hp hl hne2).mono ?_
  intro v h2 hP
  cases hoo:pCall n kd (aft r) with
  | error e=>
   rw [hoo] at hP
   obtain ⟨hle2,he,rfl⟩:=hP
   exact ⟨_,_,_,_,_,_,_,_,_,_,_,_,_,rfl,hle1.trans hle2,he,rfl⟩
  | ok p=>
   obtain ⟨x,r'⟩:=p
   rw [hoo] at hP
   obtain ⟨hle2,vs,rfl,ux,zx,hp2⟩:=hP
   have ux' := ux
   obtain ⟨s3,A3,c3,B3,d3,K3,kc3,rfl,_,_,_⟩:=ux'.open
   exact ⟨_,_,_,_,_,_,_,_,_,_,_,_,_,rfl,hle1.trans hle2,_,rfl,ux,zx,hp2⟩
 refine Br.mk (fun q3=> ?_) (fun q3=> ?_)
 ·rw [if_pos (beq_iff_eq.1 q3)] at hne ⊢
  exact call 8 hne
 rw [if_neg (beq_eq_false_iff_ne.1 q3)] at hne ⊢
 refine Br.mk (fun q4=> ?_) (fun q4=> ?_)
 ·rw [if_pos (beq_iff_eq.1 q4)] at hne ⊢
  exact call 9 hne
 rw [if_neg (beq_eq_false_iff_ne.1 q4)] at hne ⊢
 obtain ⟨pre,ty,hlr,hb⟩:=hp
 have hsp:=congrArg List.length (tk_split r)
 have hlen:l.length=pre.length+(aft r).length:=by rw [hlr,List.length_append]
 have htl:(tk r).length<=400:=by
  obtain ⟨pre0,ty0,hlr0,_⟩:=u
  have h0:=skip_le r
  have h1:=tokOf_le (skipS r)
  have h2:l.length=pre0.length+r.length:=by rw [hlr0,List.length_append]
  unfold tk
  omega
 have fr:=(foNumber_c (w:=tk r) (by omega) (hole h1 g)).frame (g:=g) (b:=⟨[sv l,.int .i64 (pre.length:Int)],ty,(0,0)⟩) (hole_at h1 g)
 rw [put_hole hb] at fr
 refine fr.mono ?_
 rintro v _ ⟨h2,⟨hN,hle2⟩,h2g,rfl⟩
 have hx:hole (h2.put g ⟨[sv l,.int .i64 (pre.length:Int)],ty,(0,0)⟩) g=h2:=by rw [hole_put,hole_none h2g]
 have hps:Ps (h2.put g ⟨[sv l,.int .i64 (pre.length:Int)],ty,(0,0)⟩) g l (aft r):=⟨pre,ty,hlr,Heap.put_same _ _ _⟩
 cases hoo:numberV (tk r) with
 | some q=>
  rw [hoo] at hN
  obtain ⟨s,A,c,B,d,rfl,hq⟩:=hN
  refine ⟨_,_,_,_,_,_,_,_,rfl,Br.mk (fun _=> ?_) (fun q=>by cases q)⟩
  have hl1:=lmb_le q.num.natAbs
  have hl2:=lmb_le q.den
  refine ⟨by rw [hx];exact hle1.trans hle2,_,rfl, ?_, ?_,hps⟩
  ·rw [hx]
   unfold IsE
   exact ⟨s,A,c,B,d,none,0,rfl,hq.is,Nat.le_refl _,fun q=>absurd rfl q⟩
  ·unfold Szs SzsL
   exact ⟨by omega,by omega,by simp,by simp,trivial⟩
 | none=>
  rw [hoo] at hN
  cases hN
  refine ⟨_,_,_,_,_,_,_,_,rfl,Br.mk (fun q=>by cases q) (fun _=> ?_)⟩
  refine (foName_c (tk r) _).mono ?_
  rintro _ _ ⟨rfl,rfl⟩
  simp only
  refine ⟨_,rfl,Br.mk (fun q=> ?_) (fun q=> ?_)⟩
  ·rw [if_pos q]
   refine ⟨by rw [hx];exact hle1.trans hle2,_,rfl, ?_, ?_,hps⟩
   ·unfold IsE
    exact ⟨false,none,0,none,0,none,0,rfl,IsQ.nul _,Nat.le_refl _,fun q=>absurd rfl q⟩
   ·unfold Szs SzsL
    exact ⟨by omega,by omega,by omega,by simp,trivial⟩
  ·rw [if_neg (by rw [q];decide)]
   exact ⟨by rw [hx];exact hle1.trans hle2,by decide,rfl⟩
theorem foAll : ∀ n:Nat,∀ k,k<=n->MOk 165 ptr (pSum k)/\MOk 222 ptr (pProd k)/\MOk 256 ptr (pFac k)/\ ∀ kd:Int,MOk 278 (fun g=>[.pointer (some ⟨g,0,none⟩),.int .i64 kd]) (pCall k kd)
 | 0,k,hk=>by
  have:k=0:=by omega
  subst this
  refine ⟨?_, ?_, ?_,fun kd=> ?_⟩<;>intro h g l r _ _ hne
  ·rw [pSum] at hne;exact absurd rfl hne
  ·rw [pProd] at hne;exact absurd rfl hne
  ·rw [pFac] at hne;exact absurd rfl hne
  ·rw [pCall] at hne;exact absurd rfl hne
 | n+1,k,hk=>by
  have ih:=foAll n
  rcases Nat.lt_or_ge k (n+1) with q | q
  ·exact ih k (by omega)
  ·have:k=n+1:=by omega
   subst this
   exact ⟨foSum_step fun k hk=>(ih k hk).2.1,foProd_step fun k hk=>(ih k hk).2.2.1,foFac_step (ih n (Nat.le_refl _)).2.2.1 (ih n (Nat.le_refl _)).1 (ih n (Nat.le_refl _)).2.2.2,fun kd=>foCall_step kd fun k hk=>(ih k hk).1⟩
def FpR (o:Except Int Ex) (h:Heap) (r:Value) (h' : Heap):Prop:=
 Le h h' /\ match o with
  | .error e=>e≠0/\r = .tuple #[.agg zE.toArray,.int .i64 e]
  | .ok x=> ∃ vs:List Value,r = .tuple #[.agg vs.toArray,.int .i64 0]/\IsE h' x vs/\Szs x/\chkV x 1=0
theorem foParse_c {s:List UInt8} (hfu:pSum 4000 s ≠ .error 99) (h:Heap):CallsU Tryz.prog 92 [sv s] h (FpR (foParseV s) h):=by
 apply formula_Parse_ok
 unfold formula_Parse_vc foParseV
 rw [ba_size]
 refine Br.mk (fun q=> ?_) (fun q=> ?_)
 ·rw [if_pos (by have:=of_decide_eq_true q;omega)]
  exact ⟨Le.refl _,by decide,rfl⟩
 ·have hl:s.length<=400:=by have:=of_decide_eq_false q;omega
  rw [if_neg (by omega)]
  rintro g _ hg rfl
  refine ⟨_,Heap.put_same _ _ _,rfl,rfl,by simp, ?_⟩
  rintro _ rfl
  have hps:Ps (Heap.put (Heap.put h g ⟨[Value.string ByteArray.empty,Value.int .i64 0],193,(0,0)⟩) g ⟨setSeg [Value.string ByteArray.empty,Value.int .i64 0] 0 [sv s,Value.int .i64 0],193,(0,0)⟩) g s s:=
   ⟨[],193,rfl,by rw [Heap.put_same];rfl⟩
  have hho:hole (Heap.put (Heap.put h g ⟨[Value.string ByteArray.empty,Value.int .i64 0],193,(0,0)⟩) g ⟨setSeg [Value.string ByteArray.empty,Value.int .i64 0] 0 [sv s,Value.int .i64 0],193,(0,0)⟩) g=h:=by
   rw [hole_put,hole_put,hole_none hg]
  refine ((foAll 4000 4000 (Nat.le_refl _)).1 hps hl hfu).mono ?_
  intro v h1 hP
  have hle1:=hP.1
  rw [hho] at hle1
  have hle1' : Le h h1:=hle1.trans (hole_le _ _)
  cases hoo:pSum 4000 s with
  | error e=>
   rw [hoo] at hP
   obtain ⟨_,he,rfl⟩:=hP
   refine ⟨_,_,_,_,_,_,_,_,_,_,_,_,_,rfl,fun err h' => err=e/\h' = h1, ?_,Br.mk (fun q=>absurd (beq_iff_eq.1 q) he) (fun _=>⟨rfl,rfl⟩)⟩
   rintro _ _ ⟨rfl,rfl⟩
   exact Br.mk (fun q=>absurd (beq_iff_eq.1 q) he) (fun _=>Br.mk (fun _=>⟨hle1', he,rfl⟩) (fun q=>by rw [bne_eq_false_iff_eq] at q;exact absurd q he))
  | ok p=>
   obtain ⟨x,r'⟩:=p
   rw [hoo] at hP
   obtain ⟨_,vs,rfl,ux,zx,hp2⟩:=hP
   have ux' := ux
   obtain ⟨s3,A3,c3,B3,d3,K3,kc3,rfl,_,_,_⟩:=ux'.open
   refine ⟨_,_,_,_,_,_,_,_,_,_,_,_,_,rfl,fun err h' => hole h' g=hole h1 g/\err=if tk r' = [] then 0 else 2, ?_,Br.mk (fun _=> ?_) (fun q=>by exact absurd q (by decide))⟩
   ·rintro _ h2 ⟨ho2,rfl⟩
    have hle2:Le h h2:=by
     rw [<- ho2] at hle1
     exact hle1.trans (hole_le _ _)
    have ux2:IsE h2 x _:=IsE.mono (hole_le _ g) _ _ (by rw [ho2];exact ux)
    simp only
    by_cases ht:tk r' = []
    ·rw [if_pos ht,if_pos ht]
     refine Br.mk (fun _=>(foChk_c ux2 zx).mono ?_) (fun q=>by exact absurd q (by decide))
     rintro _ h3 ⟨rfl,hle3⟩
     refine ⟨_,rfl,Br.mk (fun q=> ?_) (fun q=> ?_)⟩
     ·have h0:chkV x 1≠0:=by simpa using q
      rw [if_neg h0]
      exact ⟨hle2.trans hle3,h0,rfl⟩
     ·have h0:chkV x 1=0:=by simpa using q
      rw [if_pos h0]
      exact ⟨hle2.trans hle3,_,rfl,IsE.mono hle3 _ _ ux2,zx,h0⟩
    ·rw [if_neg ht,if_neg ht]
     exact Br.mk (fun q=>by exact absurd q (by decide)) (fun _=>Br.mk (fun _=>⟨hle2,by decide,rfl⟩) (fun q=>by exact absurd q (by decide)))
   ·refine (foNext_c hp2 (by omega)).mono ?_
    rintro _ h2 ⟨rfl,_,ho2⟩
    have b0:(⟨#[]⟩:ByteArray).toList=[]:=bytes_toList []
    refine ⟨_,rfl, ?_⟩
    rw [bytes_toList,b0]
    refine Br.mk (fun q=>⟨ho2, ?_⟩) (fun q=>⟨ho2, ?_⟩)
    ·have:tk r' ≠ []:=by simpa using q
     rw [if_neg this]
    ·have:tk r' = []:=by simpa using q
     rw [if_pos this]
mutual
def namesE:Ex->List (List UInt8)
 | .mk k _ _ _ nm kids=>(if k=2 then [nm] else [])++namesL kids
def namesL:List Ex->List (List UInt8)
 | []=>[]
 | e::es=>namesE e++namesL es
end
end Go.Proofs.YtfglcgbgaeegaaaGreatDoor

namespace Go.Proofs.YtfglcgbgaeegaaaGreatDoor
open Go Go.Vcg Go.RowKit Go.Sort
end Go.Proofs.YtfglcgbgaeegaaaGreatDoor

namespace Go.Proofs.YtfglcgbgaeegaaaGreatDoor
def sm (f:Nat->Nat):Nat->Nat
 | 0=>0
 | n+1=>sm f n+f n
def stf (d M n f:Nat):Nat:=chs d f*chs M (n-f)
def acc (n c d M:Nat):Nat:=sm (stf d M n) (c+1)
def cnt (p:Nat->Bool):Nat->Nat
 | 0=>0
 | k+1=>cnt p k+if p k then 1 else 0
end Go.Proofs.YtfglcgbgaeegaaaGreatDoor

namespace Go.Proofs.YtfglcgbgaeegaaaGreatDoor
open Go
end Go.Proofs.YtfglcgbgaeegaaaGreatDoor
