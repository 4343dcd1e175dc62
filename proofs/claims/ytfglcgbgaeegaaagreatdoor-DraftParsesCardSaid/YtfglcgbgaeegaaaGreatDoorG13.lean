/-
 Gathered texts of this proof: Lw2,Lw3,Lw5,Dl5,Rd1,Rd2,Rd3,Rd8,Rp1,Rp2,Rp3.
-/
import Derived.Test.YtfglcgbgaeegaaaGreatDoorG12
import Derived.Test.YtfglcgbgaeegaaaGreatDoorG11

namespace Go.Proofs.YtfglcgbgaeegaaaGreatDoor
open Go Go.Vcg Go.RowKit Go.Sort
attribute [local irreducible] Br
theorem rNamesS_c {h:Heap} {A B:Option Addr} {n c m d:Nat} {xs:List (List UInt8)} (u:Sl sv h A n c xs) (w:Sl sv h B m d xs) (hn:n<=1000000) :
  CallsU Tryz.prog 53 [.slice A n c,.slice B m d] h fun r h' => r = .bool true/\h=h' := by
 apply ref19_names_ok
 unfold ref19_names_vc
 have hlen:=u.len
 have hlen2:=w.len
 have e:n=m:=by omega
 subst e
 refine Br.mk (fun q=>by simp at q) (fun _=> ?_)
 refine ⟨fun mm i h' => ∃ k,k<=xs.length/\mm=xs.length-k/\i=(k:Int)/\h=h', ⟨xs.length,0,by omega,by omega,rfl,rfl⟩, ?_⟩
 rintro mm _ _ ⟨k,hk,rfl,rfl,rfl⟩
 refine Br.mk (fun q1=> ?_) (fun q1=>⟨rfl,rfl⟩)
 have hlt:k<xs.length:=by have:=of_decide_eq_true q1;omega
 obtain ⟨p,hp⟩ : ∃ p,xs[k]?=some p:=⟨_,List.getElem?_eq_getElem hlt⟩
 obtain ⟨ad,eA,l1⟩:=u.get hp
 obtain ⟨ad2,eB,l2⟩:=w.get hp
 rw [Int.toNat_natCast]
 refine ⟨ad,eA,by omega,by omega,_,l1,ad2,eB,by omega,by omega,_,l2,Br.mk (fun q=>by simp at q) (fun _=> ?_)⟩
 rintro _ rfl
 exact ⟨xs.length-(k+1),by omega,k+1,by omega,rfl,wi (by omega) (by omega),rfl⟩
theorem rSameS_c {h:Heap} {A B:Option Addr} {n c m d:Nat} {l l' : List Stp} (u:StpS h A n c l) (w:StpS h B m d l') (hs:SameSs l l') (zl:SzSs l) (zl' : SzSs l') (hn:n<=1000000) :
  CallsU Tryz.prog 26 [.slice A n c,.slice B m d] h fun r h' => r = .bool true/\Le h h' := by
 apply ref19_Same_ok
 unfold ref19_Same_vc
 have hlen:=u.len
 have hlen2:=w.len
 obtain ⟨hll,hsame⟩:=hs
 have e:n=m:=by omega
 subst e
 refine Br.mk (fun q=>by simp at q) (fun _=> ?_)
 refine ⟨fun mm i h' => ∃ k,k<=l.length/\mm=l.length-k/\i=(k:Int)/\Le h h', ⟨l.length,0,by omega,by omega,rfl,Le.refl _⟩, ?_⟩
 rintro mm _ h1 ⟨k,hk,rfl,rfl,l1⟩
 refine Br.mk (fun q1=> ?_) (fun q1=>⟨rfl,l1⟩)
 have hlt:k<l.length:=by have:=of_decide_eq_true q1;omega
 obtain ⟨s,hs⟩ : ∃ s,l[k]?=some s:=⟨_,List.getElem?_eq_getElem hlt⟩
 obtain ⟨s', hs'⟩ : ∃ s,l'[k]?=some s:=⟨_,List.getElem?_eq_getElem (by omega)⟩
 obtain ⟨ad,F,fc,K,kc,eA,hld,uf,uk⟩:=u.get hs
 obtain ⟨ad', F', fc', K', kc', eB,hld', uf', uk'⟩:=w.get hs'
 obtain ⟨e1,e2,e3,e4⟩:=hsame k s s' hs hs'
 have z1:=zl s (List.mem_of_getElem? hs)
 have z2:=zl' s' (List.mem_of_getElem? hs')
 obtain ⟨_,zf,zn,zt,_⟩:=z1
 obtain ⟨_,zf', zn', zt', _⟩:=z2
 have el:=e4.len
 rw [Int.toNat_natCast]
 refine ⟨fun b h' => b=false/\Le h h', ?_, ?_⟩
 ·rintro _ h2 ⟨rfl,l2⟩
  refine Br.mk (fun q=>by cases q) (fun _=> ?_)
  refine ⟨fun mm i h' => ∃ j,j<=s.nums.length/\mm=s.nums.length-j/\i=(j:Int)/\Le h h', ⟨s.nums.length,0,by omega,by omega,rfl,l2⟩, ?_⟩
  rintro mm _ h3 ⟨j,hj,rfl,rfl,l3⟩
  have c3:=LdN.cell (LdN.mono hld l3) (i:=3) rfl
  have c3' := LdN.cell (LdN.mono hld' l3) (i:=3) rfl
  refine ⟨ad,eA,by omega,by omega,_,_,_,c3,Br.mk (fun q2=> ?_) (fun q2=> ?_)⟩
  ·have hjl:j<s.nums.length:=by have:=of_decide_eq_true q2;omega
   obtain ⟨x,hx⟩ : ∃ x,s.nums[j]?=some x:=⟨_,List.getElem?_eq_getElem hjl⟩
   obtain ⟨x', hx'⟩ : ∃ x,s'.nums[j]?=some x:=⟨_,List.getElem?_eq_getElem (by omega)⟩
   obtain ⟨a2,vs,eK,hlx,ux⟩:=(uk.mono l3).get hx
   obtain ⟨a2', vs', eK', hlx', ux'⟩:=(uk'.mono l3).get hx'
   have vx:=ux
   have vx' := ux'
   obtain ⟨_,_,_,_,_,_,_,rfl,_,_,_⟩:=vx.open
   obtain ⟨_,_,_,_,_,_,_,rfl,_,_,_⟩:=vx'.open
   rw [Int.toNat_natCast]
   refine ⟨ad,eA,by omega,by omega,_,_,_,c3,a2,eK,by omega,by omega,_,_,_,_,_,_,_,_,_,_,_,_,hlx,ad', eB,by omega,by omega,_,_,_,c3', a2', eK', by omega,by omega,_,_,_,_,_,_,_,_,_,_,_,_,hlx', ?_⟩
   refine ((rSame_all x) ux ux' (SzsL.get zt hx) (SzsL.get zt' hx') (e4.get hx hx')).mono ?_
   rintro _ h4 ⟨rfl,l4⟩
   refine ⟨_,rfl,Br.mk (fun q=>by cases q) (fun _=> ?_)⟩
   rintro _ rfl
   exact ⟨s.nums.length-(j+1),by omega,j+1,by omega,rfl,wi (by omega) (by omega),l3.trans l4⟩
  ·rintro _ rfl
   exact ⟨l.length-(k+1),by omega,k+1,by omega,rfl,wi (by omega) (by omega),l3⟩
 ·have d0:=LdN.cell (LdN.mono hld l1) (i:=0) rfl
  have d0' := LdN.cell (LdN.mono hld' l1) (i:=0) rfl
  have d1:=LdN.cell (LdN.mono hld l1) (i:=1) rfl
  have d1' := LdN.cell (LdN.mono hld' l1) (i:=1) rfl
  have d2:=LdN.cell (LdN.mono hld l1) (i:=2) rfl
  have d2' := LdN.cell (LdN.mono hld' l1) (i:=2) rfl
  have d3:=LdN.cell (LdN.mono hld l1) (i:=3) rfl
  have d3' := LdN.cell (LdN.mono hld' l1) (i:=3) rfl
  refine ⟨ad,eA,by omega,by omega,_,d0,ad', eB,by omega,by omega,_,d0', Br.mk (fun q=>by rw [e1] at q;simp at q) (fun _=> ?_)⟩
  refine ⟨ad,eA,by omega,by omega,_,d1,ad', eB,by omega,by omega,_,d1', Br.mk (fun q=>by rw [e2] at q;simp at q) (fun _=> ?_)⟩
  refine ⟨ad,eA,by omega,by omega,_,_,_,d2,ad', eB,by omega,by omega,_,_,_,d2', ?_⟩
  refine (rNamesS_c (xs:=s.frm) (uf.mono l1) (by rw [e3];exact uf'.mono l1) (by omega)).mono ?_
  rintro _ _ ⟨rfl,rfl⟩
  refine ⟨_,rfl,Br.mk (fun q=>by cases q) (fun _=> ?_)⟩
  refine ⟨ad,eA,by omega,by omega,_,_,_,d3,ad', eB,by omega,by omega,_,_,_,d3', ?_,l1⟩
  rw [el]
  simp
theorem lv_c {W h' : Heap} {K:Bool->Heap->Prop} (t:Frms W) (tb:Tab W) (l:Le W h') (k : ∀ h2,Le W h2->K true h2):CallsU Tryz.prog 14 [] h' fun v h_2=> ∃ b:Bool,v=Value.bool b/\K b h_2:=by
 refine (alive_c (t.mono l) (tb.mono l)).mono ?_
 rintro _ h2 ⟨rfl,l2⟩
 exact ⟨_,rfl,k _ (l.trans l2)⟩
theorem DpR.shape {o:Except (Int×Nat) (List Stp)} {r:Value} {h:Heap} (u:DpR o r h) : ∃ A n c er ix,r = .tuple #[.slice A n c,.int .i64 er,.int .i64 ix]/\
  ((∃ ss,o = .ok ss/\er=0/\ix=0/\StpS h A n c ss/\FmOk ss)\/(∃ e i,o = .error (e,i)/\e≠0/\er=e/\ix=(i:Int)/\n=0)):=by
 cases o with
 | ok ps=>
  obtain ⟨A,n,c,rfl,w,f⟩:=u
  exact ⟨A,n,c,0,0,rfl,.inl ⟨ps,rfl,rfl,rfl,w,f⟩⟩
 | error x=>
  obtain ⟨e,i⟩:=x
  obtain ⟨he,rfl⟩:=u
  exact ⟨none,0,0,e,i,rfl,.inr ⟨e,i,rfl,he,rfl,rfl,rfl⟩⟩
end Go.Proofs.YtfglcgbgaeegaaaGreatDoor

namespace Go.Proofs.YtfglcgbgaeegaaaGreatDoor
open Go Go.Vcg Go.RowKit Go.Sort
theorem split_mem {b:UInt8} : ∀ {l w:List UInt8},w∈splitV b l->b∉w
 | [],w,h=>by rw [split_nil] at h;simp at h;subst h;simp
 | c::l,w,h=>by
  by_cases hc:c=b
  ·subst hc
   rw [split_same] at h
   rcases List.mem_cons.1 h with rfl | h
   ·simp
   ·exact split_mem h
  ·obtain ⟨x,r,e1,e2⟩:=split_other hc l
   rw [e2] at h
   rcases List.mem_cons.1 h with rfl | h
   ·intro hm
    rcases List.mem_cons.1 hm with hm | hm
    ·exact hc hm.symm
    ·exact split_mem (b:=b) (l:=l) (w:=x) (by rw [e1];simp) hm
   ·exact split_mem (b:=b) (l:=l) (by rw [e1];simp [h])
def wordV (s:List UInt8):Option (List UInt8×List UInt8):=if (32:UInt8)∈s then some (s.takeWhile (· != 32),(s.dropWhile (· != 32)).drop 1) else none
theorem wordV_split (s:List UInt8):match wordV s with
  | some (p,r)=>splitV 32 s=p::splitV 32 r/\r.length<s.length
  | none=>splitV 32 s=[s]:=by
 unfold wordV
 by_cases h:(32:UInt8)∈s
 ·rw [if_pos h]
  simp only
  have hc:=count_dw h
  refine ⟨?_, ?_⟩
  ·unfold splitV
   rw [<- hc,splGo]
  ·have h1:=congrArg List.length (List.takeWhile_append_dropWhile (p:=(· != (32:UInt8))) (l:=s))
   rw [List.length_append] at h1
   rw [List.length_drop]
   have h2:=tw_lt h
   omega
 ·rw [if_neg h]
  exact split_none h
def pointsV (s:List UInt8):Nat->Option (List (List UInt8)×List UInt8)
 | 0=>some ([],s)
 | n+1=>match wordV s with
  | some (p,r)=>if isPointV p then (pointsV r n).map fun x=>(p::x.1,x.2) else none
  | none=>none
theorem pointsV_eq : ∀ (n:Nat) (s:List UInt8),pointsV s n=if n<(splitV 32 s).length/\((splitV 32 s).take n).all isPointV=true then some ((splitV 32 s).take n,Lib.join ((splitV 32 s).drop n) [32]) else none
 | 0,s=>by
  obtain ⟨x,r,e⟩:=split_ne 32 s
  rw [pointsV,if_pos (by rw [e];simp),List.take_zero,List.drop_zero,join_split]
 | n+1,s=>by
  rw [pointsV]
  have h:=wordV_split s
  cases hw:wordV s with
  | none=>
   rw [hw] at h
   simp only at h
   rw [h,if_neg (by simp)]
  | some x=>
   obtain ⟨p,r⟩:=x
   rw [hw] at h
   simp only at h
   rw [h.1]
   simp only
   rw [pointsV_eq n r]
   simp only [List.length_cons,List.take_succ_cons,List.drop_succ_cons,List.all_cons]
   by_cases hp:isPointV p=true
   ·rw [if_pos hp]
    by_cases hr:n<(splitV 32 r).length/\((splitV 32 r).take n).all isPointV=true
    ·rw [if_pos hr,if_pos ⟨by omega,by rw [hp,hr.2];rfl⟩]
     rfl
    ·rw [if_neg hr,if_neg (fun q=>hr ⟨by omega,by rw [Bool.and_eq_true] at q;exact q.2.2⟩)]
     rfl
   ·rw [if_neg hp,if_neg (fun q=>hp (by rw [Bool.and_eq_true] at q;exact q.2.1))]
def afterV (s b:List UInt8):Option (List UInt8):=if b.length<=s.length/\s.take b.length=b then some (s.drop b.length) else none
theorem afterV_app (b r:List UInt8):afterV (b++r) b=some r:=by
 unfold afterV
 rw [if_pos ⟨by simp,List.take_left⟩,List.drop_left]
theorem afterV_split {w s:List UInt8} (hw:(32:UInt8)∉w):afterV s (w++[32])=match splitV 32 s with
  | x::y::r=>if x=w then some (Lib.join (y::r) [32]) else none
  | _=>none:=by
 by_cases h:(w++[32]).length<=s.length/\s.take (w++[32]).length=w++[32]
 ·have hs:s=w++32::s.drop (w++[32]).length:=by
   have:=List.take_append_drop (w++[32]).length s
   rw [h.2] at this
   rw [<- this]
   simp
  generalize s.drop (w++[32]).length=r at hs
  subst hs
  rw [show w++32::r=(w++[32])++r by simp,afterV_app]
  rw [show (w++[32])++r=w++32::r by simp,split_app,split_none hw]
  obtain ⟨y,z,e⟩:=split_ne 32 r
  have hj:=join_split 32 r
  rw [e] at hj ⊢
  simp only [List.singleton_append,if_true]
  rw [hj]
 ·have h0:afterV s (w++[32])=none:=by unfold afterV;rw [if_neg h]
  rw [h0]
  split
  ·rename_i x y r e
   split
   ·rename_i hx
    subst hx
    exfalso
    apply h
    have hj:=join_split 32 s
    rw [e,join_two] at hj
    rw [<- hj]
    refine ⟨by simp, ?_⟩
    rw [show x++32::Lib.join (y::r) [32]=(x++[32])++Lib.join (y::r) [32] by simp,List.take_left]
   ·rfl
  ·rfl
def pairV (s:List UInt8):Option (List UInt8×List UInt8):=(commaAt 0 s).map fun i=>(s.take i,s.drop (i+3))
def textsV (k:Int) (s:List UInt8):Option (List (List UInt8)×List (List UInt8)):=
 if k=4\/k=5\/k=6 then match pointsV (s++[32]) (frN k).toNat with
  | some (l,r)=>if r=[] then some (l,[]) else none
  | none=>none
 else match pointsV s (frN k).toNat with
  | none=>none
  | some (l,r)=>if k=3 then (afterV r [97,116,32]).map fun t=>(l,[t])
   else if k=2 then match afterV r [98,121,32] with
    | none=>none
    | some t=>(pairV t).map fun x=>(l,[x.1,x.2])
   else (pairV r).map fun x=>(l,[x.1,x.2])
def rdivV (s:List UInt8):Option (List UInt8×Int×List (List UInt8)×List (List UInt8)):=
 match pointsV s 1 with
 | none=>none
 | some (nm,r)=>match afterV r [61,32] with
  | none=>none
  | some r2=>match wordV r2 with
   | none=>none
   | some (key,b)=>if kindV key<=6 then (textsV (kindV key) b).map fun x=>(nm.headD [],kindV key,x.1,x.2) else none
theorem split_words {ws:List (List UInt8)} (h:ws≠[]) (hw : ∀ w∈ws,(32:UInt8)∉w):splitV 32 (Lib.join ws [32])=ws:=by
 rw [split_join 32 ws h,flat_words hw]
theorem divF_pair {r:List (List UInt8)} (h:r≠[]):divFV r 2=(pairV (Lib.join r [32])).map fun x=>[x.1,x.2]:=by
 unfold divFV pairV
 rw [if_neg (by simp [h]),if_neg (by decide),Option.map_map]
 rfl
theorem link_after {lk:List UInt8} {ws:List (List UInt8)} (hl:lk≠[]) (h32:(32:UInt8)∉lk) (hw : ∀ w∈ws,(32:UInt8)∉w) (hne:ws≠[]):afterV (Lib.join ws [32]) (lk++[32])=match linkV lk ws with
  | none=>none
  | some r=>if r=[] then none else some (Lib.join r [32]):=by
 rw [afterV_split h32,split_words hne hw]
 unfold linkV
 rw [if_neg hl]
 match ws,hne with
 | [x],_=>
  simp only
  split
  ·rfl
  ·rename_i h;split at h
   ·cases h;rfl
   ·cases h
 | x::y::r,_=>
  simp only
  by_cases hx:x=lk
  ·rw [if_pos hx,if_pos hx];simp
  ·rw [if_neg hx,if_neg hx]
theorem texts_eq {k:Int} {nm:List UInt8} {ws:List (List UInt8)} (h1:1<=k) (h6:k<=6) (hw : ∀ w∈ws,(32:UInt8)∉w) (hne:ws≠[]):(textsV k (Lib.join ws [32])).map (fun x=>(nm,k,x.1,x.2))=behindV nm k ws:=by
 have hk:k=1\/k=2\/k=3\/k=4\/k=5\/k=6:=by omega
 have hsp:=split_words hne hw
 have hlen:0<ws.length:=List.length_pos_iff.2 hne
 have kinds:(k=4\/k=5\/k=6)->(textsV k (Lib.join ws [32])).map (fun x=>(nm,k,x.1,x.2))=behindV nm k ws:=fun h456=>by
  have hlk:lkN k=[]:=by rcases h456 with rfl | rfl | rfl<;>rfl
  have hnu:(nuN k).toNat=0:=by rcases h456 with rfl | rfl | rfl<;>rfl
  have hs2:splitV 32 (Lib.join ws [32]++[32])=ws++[[]]:=by rw [split_app,hsp,split_nil]
  unfold textsV behindV
  rw [if_pos h456,pointsV_eq,hs2,hlk,hnu]
  generalize (frN k).toNat=f
  have hl2:(ws++[[]]).length=ws.length+1:=by simp
  by_cases hf:f<=ws.length
  ·rw [if_pos hf,List.take_append_of_le_length hf]
   by_cases ha:(ws.take f).all isPointV=true
   ·rw [if_pos ⟨by omega,ha⟩,if_pos ha]
    simp only [linkV,if_true]
    rw [List.drop_append_of_le_length hf]
    unfold divFV
    cases hd:ws.drop f with
    | nil=>simp [join_one]
    | cons x r=>
     have:Lib.join (x::r++[[]]) [32]≠[]:=by
      cases r with
      | nil=>rw [List.cons_append,List.nil_append,join_two];simp
      | cons y r=>rw [List.cons_append,List.cons_append,join_two];simp
     rw [if_neg this]
     simp
   ·rw [if_neg (fun q=>ha q.2),if_neg ha];rfl
  ·rw [if_neg (fun q=>by omega),if_neg hf];rfl
 rcases hk with rfl | rfl | rfl | rfl | rfl | rfl
 ·
  unfold textsV behindV
  rw [if_neg (by decide),pointsV_eq,hsp]
  have e0:(frN 1).toNat=0:=rfl
  have e1:lkN 1=[]:=rfl
  have e2:(nuN 1).toNat=2:=rfl
  rw [e0,e1,e2,if_pos ⟨hlen,rfl⟩,if_pos (Nat.zero_le _),if_pos (show (List.take 0 ws).all isPointV=true from rfl)]
  simp only [List.take_zero,List.drop_zero,linkV,if_true]
  rw [if_neg (by decide),if_neg (by decide),divF_pair hne,Option.map_map,Option.map_map]
  rfl
 ·
  unfold textsV behindV
  rw [if_neg (by decide),pointsV_eq,hsp]
  have e0:(frN 2).toNat=1:=rfl
  have e1:lkN 2=[98,121]:=rfl
  have e2:(nuN 2).toNat=2:=rfl
  rw [e0,e1,e2]
  by_cases hlt:1<ws.length
  ·have hd:ws.drop 1≠[]:=fun e=>by have:=congrArg List.length e;simp at this;omega
   have hwd : ∀ w∈ws.drop 1,(32:UInt8)∉w:=fun w h=>hw w (List.mem_of_mem_drop h)
   by_cases ha:(ws.take 1).all isPointV=true
   ·rw [if_pos ⟨hlt,ha⟩,if_pos (by omega),if_pos ha]
    simp only
    have:=link_after (lk:=[98,121]) (by decide) (by decide) hwd hd
    rw [if_neg (by decide),if_pos trivial,show ([98,121,32]:List UInt8)=[98,121]++[32] from rfl,this]
    cases linkV [98,121] (ws.drop 1) with
    | none=>rfl
    | some r=>
     simp only
     by_cases hr:r=[]
     ·rw [if_pos hr,hr];rfl
     ·rw [if_neg hr,divF_pair hr]
      simp only
      rw [Option.map_map,Option.map_map]
      rfl
   ·rw [if_neg (fun q=>ha q.2),if_neg (c:=(ws.take 1).all isPointV=true) ha]
    simp
  ·have hl1:ws.length=1:=by omega
   have hd:ws.drop 1=[]:=List.drop_eq_nil_of_le (by omega)
   rw [if_neg (fun q=>hlt q.1),hd,if_pos (by omega),show linkV [98,121] []=none from rfl]
   simp
 ·
  unfold textsV behindV
  rw [if_neg (by decide),pointsV_eq,hsp]
  have e0:(frN 3).toNat=2:=rfl
  have e1:lkN 3=[97,116]:=rfl
  have e2:(nuN 3).toNat=1:=rfl
  rw [e0,e1,e2]
  by_cases hlt:2<ws.length
  ·have hd:ws.drop 2≠[]:=fun e=>by have:=congrArg List.length e;simp at this;omega
   have hwd : ∀ w∈ws.drop 2,(32:UInt8)∉w:=fun w h=>hw w (List.mem_of_mem_drop h)
   by_cases ha:(ws.take 2).all isPointV=true
   ·rw [if_pos ⟨hlt,ha⟩,if_pos (by omega),if_pos ha]
    simp only
    have:=link_after (lk:=[97,116]) (by decide) (by decide) hwd hd
    rw [if_pos trivial,show ([97,116,32]:List UInt8)=[97,116]++[32] from rfl,this]
    cases linkV [97,116] (ws.drop 2) with
    | none=>rfl
    | some r=>
     simp only
     by_cases hr:r=[]
     ·rw [if_pos hr,hr];rfl
     ·rw [if_neg hr]
      unfold divFV
      rw [if_neg (by simp [hr]),if_pos rfl]
      rfl
   ·rw [if_neg (fun q=>ha q.2),if_neg (c:=(ws.take 2).all isPointV=true) ha]
    simp
  ·rw [if_neg (fun q=>hlt q.1)]
   by_cases h2:2<=ws.length
   ·have hd:ws.drop 2=[]:=List.drop_eq_nil_of_le (by omega)
    rw [if_pos h2,hd,show linkV [97,116] []=none from rfl]
    simp
   ·rw [if_neg h2];rfl
 ·exact kinds (by omega)
 ·exact kinds (by omega)
 ·exact kinds (by omega)
theorem behind_nil {nm:List UInt8} {k:Int} (h1:1<=k) (h6:k<=6):behindV nm k []=none:=by
 have hk:k=1\/k=2\/k=3\/k=4\/k=5\/k=6:=by omega
 rcases hk with rfl | rfl | rfl | rfl | rfl | rfl<;>rfl
theorem rdiv_eq (s:List UInt8):rdivV s=divLV s:=by
 unfold rdivV divLV
 rw [pointsV_eq]
 have hmem : ∀ w∈splitV 32 s,(32:UInt8)∉w:=fun w h=>split_mem h
 generalize splitV 32 s=ws at hmem
 match ws with
 | []=>rfl
 | [a]=>rfl
 | a::b::r=>
  have hne:b::r≠[]:=by simp
  have hw2 : ∀ w∈b::r,(32:UInt8)∉w:=fun w h=>hmem w (by simp at h ⊢;exact .inr h)
  simp only [List.take_succ_cons,List.take_zero,List.drop_succ_cons,List.drop_zero,List.all_cons,List.all_nil,Bool.and_true,List.length_cons]
  by_cases ha:isPointV a=true
  ·rw [if_pos ⟨by omega,ha⟩]
   simp only
   have e61:([61,32]:List UInt8)=[61]++[32]:=rfl
   rw [e61,afterV_split (by decide),split_words hne hw2]
   match r with
   | []=>rfl
   | c::r=>
    have hw3 : ∀ w∈c::r,(32:UInt8)∉w:=fun w h=>hw2 w (by simp at h ⊢;exact .inr h)
    simp only
    rw [divWV]
    by_cases hb:b=[61]
    ·rw [if_pos hb,if_pos ⟨ha,hb⟩]
     simp only
     have hwd:=wordV_split (Lib.join (c::r) [32])
     have hs3:=split_words (ws:=c::r) (by simp) hw3
     rw [hs3] at hwd
     cases hv:wordV (Lib.join (c::r) [32]) with
     | none=>
      rw [hv] at hwd
      simp only at hwd
      injection hwd with _ hr
      subst hr
      simp only
      split
      ·rename_i h6
       exact (behind_nil (kindV_ge _) h6).symm
      ·rfl
     | some x=>
      obtain ⟨key,bh⟩:=x
      rw [hv] at hwd
      simp only at hwd
      have hwd:=hwd.1
      injection hwd with hk hr
      subst hk
      simp only
      split
      ·rename_i h6
       have hrne:r≠[]:=by obtain ⟨y,z,e⟩:=split_ne 32 bh;rw [hr,e];simp
       have hj:bh=Lib.join r [32]:=by rw [hr,join_split]
       rw [hj]
       exact texts_eq (nm:=a) (kindV_ge _) h6 (fun w h=>hw3 w (by simp [h])) hrne
      ·rfl
    ·rw [if_neg hb,if_neg (fun q=>hb q.2)]
  ·rw [if_neg (fun q=>ha q.2)]
   cases r with
   | nil=>rfl
   | cons c r=>simp only;rw [divWV,if_neg (fun q=>ha q.1)]
end Go.Proofs.YtfglcgbgaeegaaaGreatDoor

namespace Go.Proofs.YtfglcgbgaeegaaaGreatDoor
open Go Go.Vcg Go.RowKit Go.Sort
attribute [local irreducible] Br
def rfrN (k:Int):Int:=if 1<=k/\k<=6 then frN k else -1
theorem rfroms_c (k:Int) (h:Heap):CallsU Tryz.prog 158 [.int .i64 k] h fun r h' => r = .int .i64 (rfrN k)/\h=h' := by
 apply ref19_froms_ok
 unfold ref19_froms_vc
 refine Br.mk (fun q=> ?_) (fun q1=>Br.mk (fun q=> ?_) (fun q2=>Br.mk (fun q=> ?_) (fun q3=>Br.mk (fun q=> ?_) (fun q4=>Br.mk (fun q=>Br.mk (fun _=> ?_) (fun q' => ?_)) (fun q5=>Br.mk (fun q=> ?_) (fun q6=> ?_))))))
 ·rw [beq_iff_eq.1 q];exact ⟨rfl,rfl⟩
 ·rw [beq_iff_eq.1 q];exact ⟨rfl,rfl⟩
 ·rw [beq_iff_eq.1 q];exact ⟨rfl,rfl⟩
 ·rw [beq_iff_eq.1 q];exact ⟨rfl,rfl⟩
 ·rw [beq_iff_eq.1 q];exact ⟨rfl,rfl⟩
 ·rw [q] at q';cases q'
 ·rw [beq_iff_eq.1 q];exact ⟨rfl,rfl⟩
 ·refine ⟨?_,rfl⟩
  have a1:=beq_eq_false_iff_ne.1 q1
  have a2:=beq_eq_false_iff_ne.1 q2
  have a3:=beq_eq_false_iff_ne.1 q3
  have a4:=beq_eq_false_iff_ne.1 q4
  have a5:=beq_eq_false_iff_ne.1 q5
  have a6:=beq_eq_false_iff_ne.1 q6
  unfold rfrN
  rw [if_neg (by omega)]
def findV (nm:List UInt8):List Stp->Nat->Int
 | [],_=> -1
 | s::l,i=>if s.name=nm then (i:Int) else findV nm l (i+1)
theorem rfind_c {h:Heap} {A:Option Addr} {n c:Nat} {l:List Stp} (u:StpS h A n c l) (hn:n<=1000000) (nm:List UInt8) :
  CallsU Tryz.prog 100 [.slice A n c,sv nm] h fun r h' => r = .int .i64 (findV nm l 0)/\h=h' := by
 apply ref19_find_ok
 have hlen:=u.len
 refine ⟨fun m i h' => ∃ k,k<=l.length/\m=l.length-k/\i=(k:Int)/\h=h' /\ findV nm (l.drop k) k=findV nm l 0,⟨l.length,0,by omega,by omega,rfl,rfl,rfl⟩, ?_⟩
 rintro m _ _ ⟨k,hk,rfl,rfl,rfl,heq⟩
 refine Br.mk (fun q=> ?_) (fun q=> ?_)
 ·have hlt:k<l.length:=by have:=of_decide_eq_true q;omega
  obtain ⟨s,hs⟩ : ∃ s,l[k]?=some s:=⟨_,List.getElem?_eq_getElem hlt⟩
  have hdr:l.drop k=s::l.drop (k+1):=by
   rw [List.drop_eq_getElem_cons hlt]
   rw [List.getElem?_eq_getElem hlt] at hs
   cases hs
   rfl
  obtain ⟨ad,F,fc,K,kc,eA,hld,_,_⟩:=u.get hs
  rw [hdr,findV] at heq
  refine ⟨ad,eA,by omega,by omega,_,by rw [Int.toNat_natCast];exact LdN.cell hld (i:=0) rfl, ?_⟩
  rw [bytes_toList,bytes_toList]
  refine Br.mk (fun q2=>⟨?_,rfl⟩) (fun q2=> ?_)
  ·rw [<- heq,if_pos (beq_iff_eq.1 q2)]
  ·rw [if_neg (beq_eq_false_iff_ne.1 q2)] at heq
   rintro _ rfl
   exact ⟨l.length-(k+1),by omega,k+1,by omega,rfl,wi (by omega) (by omega),rfl,heq⟩
 ·have hk' : k=l.length:=by have:=of_decide_eq_false q;omega
  rw [hk', List.drop_length,findV] at heq
  rw [<- heq]
  exact ⟨rfl,rfl⟩
theorem rPoint_c (l:List UInt8) (hl:l.length<=1000000) (h:Heap):CallsU Tryz.prog 157 [sv l] h fun r h' => r = .bool (isPointV l)/\h=h' := by
 apply ref19_Point_ok
 unfold ref19_Point_vc
 rw [ba_size]
 have bad : ∀ i x,l[i]?=some x->ptCh i x=false->isPointV l=false:=fun i x hx hn=>by
  unfold isPointV
  rw [Bool.and_eq_false_iff]
  refine Or.inr ?_
  cases hh:(l.zipIdx.all fun p=>ptCh p.2 p.1) with
  | false=>rfl
  | true=>rw [ptAll.1 hh i x hx] at hn;cases hn
 have short : ¬ (1<=l.length/\l.length<=8)->isPointV l=false:=fun q=>by
  unfold isPointV
  rw [decide_eq_false q]
  rfl
 refine ⟨fun b h' => h=h' /\ (b=true->isPointV l=false)/\(b=false->(1<=l.length/\l.length<=8)/\ ∀ x,l[0]?=some x->ptCh 0 x=true), ?_, ?_⟩
 ·rintro b _ ⟨rfl,h1,h2⟩
  refine Br.mk (fun q=> ?_) (fun q=> ?_)
  ·rw [h1 q];exact ⟨rfl,rfl⟩
  obtain ⟨hln,h0⟩:=h2 q
  refine ⟨fun m i h' => ∃ k,1<=k/\k<=l.length/\m=l.length-k/\i=(k:Int)/\h=h' /\ ∀ j x,j<k->l[j]?=some x->ptCh j x=true,⟨l.length-1,1,by omega,by omega,rfl,rfl,rfl,fun j x hj hx=> ?_⟩, ?_⟩
  ·have:j=0:=by omega
   subst this
   exact h0 x hx
  rintro m _ _ ⟨k,hk1,hk,rfl,rfl,rfl,hall⟩
  refine Br.mk (fun q=> ?_) (fun q=> ?_)
  ·have hlt:k<l.length:=by have:=of_decide_eq_true q;omega
   obtain ⟨x,hx⟩ : ∃ x,l[k]?=some x:=⟨_,List.getElem?_eq_getElem hlt⟩
   have go:ptCh k x=true-> ∀ t:Int,t=IntKind.i64.wrap ((k:Int)+1)-> ∃ m_1,m_1<l.length-k/\ ∃ k', 1<=k' /\ k' <= l.length/\m_1=l.length-k' /\ t=(k' : Int)/\h=h/\ ∀ j x,j<k' -> l[j]?=some x->ptCh j x=true:=fun hn t ht=>by
    subst ht
    refine ⟨l.length-(k+1),by omega,k+1,by omega,by omega,rfl,wi (by omega) (by omega),rfl,fun j y hj hy=> ?_⟩
    rcases Nat.lt_succ_iff_lt_or_eq.1 hj with q | q
    ·exact hall j y q hy
    ·subst q
     rw [hx] at hy
     cases hy
     exact hn
   have ev:ptCh k x=(decide (65<=x.toNat/\x.toNat<=90)||(decide (97<=x.toNat/\x.toNat<=122)||decide (48<=x.toNat/\x.toNat<=57))):=by
    unfold ptCh isUp isLow isDg
    rw [decide_eq_true (show k≠0 by omega),Bool.true_and]
   have yes:(65<=x.toNat/\x.toNat<=90)\/(97<=x.toNat/\x.toNat<=122)\/(48<=x.toNat/\x.toNat<=57)->ptCh k x=true:=fun q=>by
    rw [ev,Bool.or_eq_true,Bool.or_eq_true,decide_eq_true_iff,decide_eq_true_iff,decide_eq_true_iff]
    exact q
   have no : ¬ ((65<=x.toNat/\x.toNat<=90)\/(97<=x.toNat/\x.toNat<=122)\/(48<=x.toNat/\x.toNat<=57))->(Value.bool false=Value.bool (isPointV l)/\h=h):=fun q=>by
    rw [bad k x hx (by
     rw [<- Bool.not_eq_true,ev,Bool.or_eq_true,Bool.or_eq_true,decide_eq_true_iff,decide_eq_true_iff,decide_eq_true_iff]
     exact q)]
    exact ⟨rfl,rfl⟩
   refine ⟨x,by omega,by rw [Int.toNat_natCast,ba_get];exact hx, ?_⟩
   refine Br.mk (fun a=>Br.mk (fun b=>go (yes ?_)) (fun b=>Br.mk (fun c=>Br.mk (fun d=>go (yes ?_)) (fun d=>Br.mk (fun e=>Br.mk (fun f=>no ?_) (fun f=>go (yes ?_))) (fun e=>no ?_))) (fun c=>Br.mk (fun e=>Br.mk (fun f=>no ?_) (fun f=>go (yes ?_))) (fun e=>no ?_)))) (fun a=>Br.mk (fun c=>Br.mk (fun d=>go (yes ?_)) (fun d=>Br.mk (fun e=>Br.mk (fun f=>no ?_) (fun f=>go (yes ?_))) (fun e=>no ?_))) (fun c=>Br.mk (fun e=>Br.mk (fun f=>no ?_) (fun f=>go (yes ?_))) (fun e=>no ?_)))
   all_goals simp only [decide_eq_true_eq,decide_eq_false_iff_not,Bool.not_eq_true', Bool.not_eq_false'] at *
   all_goals omega
  ·have hk' : k=l.length:=by have:=of_decide_eq_false q;omega
   have:isPointV l=true:=by
    unfold isPointV
    rw [decide_eq_true hln,Bool.true_and,ptAll]
    exact fun i x hx=>hall i x (by rw [hk'];exact (List.getElem?_eq_some_iff.1 hx).1) hx
   rw [this]
   exact ⟨rfl,rfl⟩
 ·refine Br.mk (fun q=> ?_) (fun q=>Br.mk (fun q2=> ?_) (fun q2=> ?_))
  ·exact ⟨rfl,fun _=>short (by have:=of_decide_eq_true q;omega),fun e=>by cases e⟩
  ·exact ⟨rfl,fun _=>short (by have:=of_decide_eq_true q2;omega),fun e=>by cases e⟩
  ·have hln:1<=l.length/\l.length<=8:=by have:=of_decide_eq_false q;have:=of_decide_eq_false q2;omega
   obtain ⟨x,hx⟩ : ∃ x,l[0]?=some x:=⟨_,List.getElem?_eq_getElem (by omega)⟩
   have ev:ptCh 0 x=decide (65<=x.toNat/\x.toNat<=90):=by unfold ptCh isUp;simp
   refine ⟨x,by omega,by rw [ba_get];exact hx,Br.mk (fun q3=> ?_) (fun q3=>⟨x,by omega,by rw [ba_get];exact hx,rfl,fun e=> ?_,fun e=>⟨hln,fun y hy=> ?_⟩⟩)⟩
   ·exact ⟨rfl,fun _=>bad 0 x hx (by rw [ev,decide_eq_false_iff_not];have:=of_decide_eq_true q3;omega),fun e=>by cases e⟩
   ·exact bad 0 x hx (by rw [ev,decide_eq_false_iff_not];have:=of_decide_eq_true e;omega)
   ·rw [hx] at hy
    cases hy
    rw [ev,decide_eq_true_iff]
    have:=of_decide_eq_false e
    have:=of_decide_eq_false q3
    omega
theorem findV_def (nm:List UInt8) : ∀ (l:List Stp) (i:Nat),(0<=findV nm l i)=(defV l nm=true)
 | [],i=>by simp [findV,defV]
 | s::l,i=>by
  have ih:=findV_def nm l (i+1)
  unfold defV at ih ⊢
  rw [findV,List.any_cons]
  by_cases h:s.name=nm
  ·rw [if_pos h];simp [h]
  ·rw [if_neg h,ih];simp [h]
theorem rKnown_c {h:Heap} {A:Option Addr} {n c:Nat} {l:List Stp} (u:StpS h A n c l) (hn:n<=1000000) {s:Stp} {F:Option Addr} {fc:Nat} {K:Option Addr} {kn kc:Nat} (uf:Sl sv h F s.frm.length fc s.frm) (hf:s.frm.length<=1000000) :
  CallsU Tryz.prog 52 [.slice A n c,.agg #[sv s.name,.int .i64 s.kind,.slice F s.frm.length fc,.slice K kn kc]] h fun r h' => r = .int .i64 (chkNm l s)/\h=h' := by
 apply ref19_known_ok
 refine (rfind_c u hn s.name).mono ?_
 rintro _ _ ⟨rfl,rfl⟩
 unfold chkNm
 have hd:=findV_def s.name l 0
 refine ⟨_,rfl,Br.mk (fun q=> ?_) (fun q=> ?_)⟩
 ·have:defV l s.name=true:=by rw [<- hd];exact of_decide_eq_true q
  rw [if_pos this];exact ⟨rfl,rfl⟩
 have hnd : ¬ defV l s.name=true:=by rw [<- hd];exact of_decide_eq_false q
 rw [if_neg hnd]
 refine ⟨fun m i h' => ∃ k,k<=s.frm.length/\m=s.frm.length-k/\i=(k:Int)/\h=h' /\ ∀ j x,j<k->s.frm[j]?=some x->defV l x=true,⟨s.frm.length,0,by omega,by omega,rfl,rfl,fun j x hj=>by omega⟩, ?_⟩
 rintro m _ _ ⟨k,hk,rfl,rfl,rfl,hall⟩
 refine Br.mk (fun q1=> ?_) (fun q1=> ?_)
 ·have hlt:k<s.frm.length:=by have:=of_decide_eq_true q1;omega
  obtain ⟨x,hx⟩ : ∃ x,s.frm[k]?=some x:=⟨_,List.getElem?_eq_getElem hlt⟩
  obtain ⟨ad,eA,hld⟩:=uf.get hx
  have hx' := findV_def x l 0
  refine ⟨ad,eA,by omega,by omega,_,by rw [Int.toNat_natCast];exact hld,(rfind_c u hn x).mono ?_⟩
  rintro _ _ ⟨rfl,rfl⟩
  refine ⟨_,rfl,Br.mk (fun q2=> ?_) (fun q2=> ?_)⟩
  ·have hno : ¬ defV l x=true:=by rw [<- hx'];have:=of_decide_eq_true q2;omega
   rw [if_neg (fun e=>hno (List.all_eq_true.1 e x (List.mem_of_getElem? hx)))]
   exact ⟨rfl,rfl⟩
  ·have hyes:defV l x=true:=by rw [<- hx'];have:=of_decide_eq_false q2;omega
   rintro _ rfl
   refine ⟨s.frm.length-(k+1),by omega,k+1,by omega,rfl,wi (by omega) (by omega),rfl,fun j y hj hy=> ?_⟩
   rcases Nat.lt_succ_iff_lt_or_eq.1 hj with q | q
   ·exact hall j y q hy
   ·subst q
    rw [hx] at hy
    cases hy
    exact hyes
 ·have hk' : k=s.frm.length:=by have:=of_decide_eq_false q1;omega
  rw [if_pos]
  ·exact ⟨rfl,rfl⟩
  ·rw [List.all_eq_true]
   intro x hx
   obtain ⟨j,hj⟩:=List.getElem?_of_mem hx
   exact hall j x (by rw [hk'];exact (List.getElem?_eq_some_iff.1 hj).1) hj
theorem word_app : ∀ (a b:List UInt8),(32:UInt8)∉a->(a++32::b).takeWhile (· != 32)=a/\(a++32::b).dropWhile (· != 32)=32::b
 | [],b,_=>by simp
 | x::a,b,h=>by
  have hx:x≠32:=fun e=>h (by rw [e];simp)
  obtain ⟨h1,h2⟩:=word_app a b (fun e=>h (List.mem_cons_of_mem _ e))
  have hb:(fun y:UInt8=>y != 32) x=true:=by simpa using hx
  rw [List.cons_append,List.takeWhile_cons_of_pos (p:=fun y:UInt8=>y != 32) hb,List.dropWhile_cons_of_pos (p:=fun y:UInt8=>y != 32) hb,h1,h2]
  exact ⟨rfl,rfl⟩
theorem drop_at {α:Type} {l:List α} {k:Nat} {x:α} (h:l[k]?=some x):l.drop k=x::l.drop (k+1):=by
 obtain ⟨hlt,e⟩:=List.getElem?_eq_some_iff.1 h
 rw [List.drop_eq_getElem_cons hlt,e]
theorem word_at {s:List UInt8} {k:Nat} (h:s[k]?=some 32) (hn:(32:UInt8)∉s.take k):wordV s=some (s.take k,s.drop (k+1)):=by
 have e:s=s.take k++32::s.drop (k+1):=by rw [<- drop_at h,List.take_append_drop]
 obtain ⟨h1,h2⟩:=word_app _ (s.drop (k+1)) hn
 rw [<- e] at h1 h2
 unfold wordV
 rw [if_pos (List.mem_of_getElem? h),h1,h2]
 rfl
def WdR (s:List UInt8) (o:Option (List UInt8×List UInt8)):Value:=match o with
 | some (p,r)=> .tuple #[sv p,sv r,.bool true]
 | none=> .tuple #[sv s,sv [],.bool false]
theorem take_mem {s:List UInt8} {k:Nat} {x y:UInt8} (h:s[k]?=some x) (hn:y∉s.take k) (hx:x≠y):y∉s.take (k+1):=by
 rw [List.take_add_one,h]
 simp only [Option.toList_some,List.mem_append,List.mem_singleton,not_or]
 exact ⟨hn,fun e=>hx e.symm⟩
theorem rword_c (s:List UInt8) (hl:s.length<=1000000) (h:Heap):CallsU Tryz.prog 96 [sv s] h fun r h' => r=WdR s (wordV s)/\h=h' := by
 apply ref19_word_ok
 unfold ref19_word_vc
 rw [ba_size]
 refine ⟨fun m i h' => ∃ k,k<=s.length/\m=s.length-k/\i=(k:Int)/\h=h' /\ (32:UInt8)∉s.take k,⟨_,0,by omega,rfl,rfl,rfl,by simp⟩, ?_⟩
 rintro m _ _ ⟨k,hk,rfl,rfl,rfl,hno⟩
 refine Br.mk (fun q=> ?_) (fun q=> ?_)
 ·have hlt:k<s.length:=by have:=of_decide_eq_true q;omega
  obtain ⟨x,hx⟩ : ∃ x,s[k]?=some x:=⟨_,List.getElem?_eq_getElem hlt⟩
  refine ⟨x,by omega,by rw [Int.toNat_natCast,ba_get];exact hx,Br.mk (fun q2=> ?_) (fun q2=> ?_)⟩
  ·have h32:x=32:=by have:=beq_iff_eq.1 q2;exact UInt8.toNat_inj.1 (by change x.toNat=32;omega)
   subst h32
   refine ⟨by omega,by omega, ?_⟩
   rintro _ rfl
   rw [show IntKind.i64.wrap ((k:Int)+1)=((k+1:Nat):Int) from wi (by omega) (by omega)]
   refine ⟨by omega,by omega, ?_⟩
   rw [Int.toNat_natCast,Int.toNat_natCast,ba_ext,ba_ext,List.take_length,List.drop_zero,word_at hx hno]
   exact ⟨rfl,rfl⟩
  ·have h32:x≠32:=fun e=>by rw [e] at q2;exact absurd q2 (by decide)
   rintro _ rfl
   exact ⟨s.length-(k+1),by omega,k+1,by omega,rfl,wi (by omega) (by omega),rfl,take_mem hx hno h32⟩
 ·have hke:k=s.length:=by have:=of_decide_eq_false q;omega
  rw [hke,List.take_length] at hno
  unfold wordV
  rw [if_neg hno]
  exact ⟨rfl,rfl⟩
def AfR (o:Option (List UInt8)):Value:=match o with
 | some t=> .tuple #[sv t,.bool true]
 | none=> .tuple #[sv [],.bool false]
theorem rafter_c (s b:List UInt8) (h:Heap):CallsU Tryz.prog 95 [sv s,sv b] h fun r h' => r=AfR (afterV s b)/\h=h' := by
 apply ref19_after_ok
 unfold ref19_after_vc afterV
 rw [ba_size,ba_size]
 refine Br.mk (fun q=> ?_) (fun q=> ?_)
 ·rw [if_neg (fun e=>by have:=of_decide_eq_true q;omega)]
  exact ⟨rfl,rfl⟩
 have hle:b.length<=s.length:=by have:=of_decide_eq_false q;omega
 refine ⟨by omega,by omega, ?_⟩
 rw [Int.toNat_natCast,ba_ext,ba_ext,List.take_length,List.drop_zero,bytes_toList,bytes_toList]
 refine Br.mk (fun q=> ?_) (fun q=>⟨by omega,by omega, ?_⟩)
 ·rw [if_neg (fun e=>by rw [e.2] at q;simp at q)]
  exact ⟨rfl,rfl⟩
 ·rw [if_pos ⟨hle,by simpa using q⟩]
  exact ⟨rfl,rfl⟩
def PairR (o:Option (List UInt8×List UInt8)):Value:=match o with
 | some (p,r)=> .tuple #[sv p,sv r,.bool true]
 | none=> .tuple #[sv [],sv [],.bool false]
theorem rpair_c (t:List UInt8) (hl:t.length<=1000000) (h:Heap):CallsU Tryz.prog 167 [sv t] h fun r h' => r=PairR (pairV t)/\h=h' := by
 apply ref19_pair_ok
 unfold ref19_pair_vc pairV
 rw [ba_size]
 refine ⟨fun m op i h' => ∃ k,k<=t.length/\m=t.length-k/\i=(k:Int)/\h=h' /\ (-(k:Int)<=op/\op<=k)/\commaAt 0 t=(commaAt op (t.drop k)).map (· + k),⟨_,0,by omega,rfl,rfl,rfl,by omega,by simp⟩, ?_⟩
 rintro m op _ _ ⟨k,hk,rfl,rfl,rfl,hop,heq⟩
 refine Br.mk (fun q=> ?_) (fun q=> ?_)
 ·have hlt:k<t.length:=by have:=of_decide_eq_true q;omega
  obtain ⟨x,hx⟩ : ∃ x,t[k]?=some x:=⟨_,List.getElem?_eq_getElem hlt⟩
  have hdr:=drop_at hx
  have hget:(⟨t.toArray⟩:ByteArray)[(Int.toNat (k:Int):Nat)]?=some x:=by rw [Int.toNat_natCast,ba_get];exact hx
  have go : ∀ op', op' = opN op x-> ¬ (op=0/\Lib.hasPrefix (x::t.drop (k+1)) [32,44,32]=true)-> ∀ t61:Int,t61=IntKind.i64.wrap ((k:Int)+1)-> ∃ m_1,m_1<t.length-k/\ ∃ k', k' <= t.length/\m_1=t.length-k' /\ t61=(k' : Int)/\h=h/\(-(k' : Int)<=op' /\ op' <= k')/\commaAt 0 t=(commaAt op' (t.drop k')).map (· + k'):=by
   rintro op' rfl hno _ rfl
   refine ⟨t.length-(k+1),by omega,k+1,by omega,rfl,wi (by omega) (by omega),rfl, ?_, ?_⟩
   ·unfold opN
    split
    ·omega
    ·split<;>omega
   ·rw [hdr] at heq
    rw [heq,commaAt,if_neg hno,Option.map_map]
    congr 1
    funext i
    simp only [Function.comp]
    omega
  have hpre : ∀ y:UInt8,y≠32->Lib.hasPrefix (y::t.drop (k+1)) [32,44,32]=true->False:=fun y hy e=>by
   have:=List.isPrefixOf_iff_prefix.1 e
   obtain ⟨r,hr⟩:=this
   injection hr with h1 h2
   exact hy h1.symm
  refine ⟨x,by omega,hget,Br.mk (fun q3=> ?_) (fun q3=>⟨x,by omega,hget,Br.mk (fun q4=> ?_) (fun q4=> ?_)⟩)⟩
  ·have h40:x=40:=by have:=beq_iff_eq.1 q3;exact UInt8.toNat_inj.1 (by change x.toNat=40;omega)
   rintro _ rfl
   exact go _ (by rw [show IntKind.i64.wrap (op+1)=op+1 by rw [IntKind.wrap_i64];omega];unfold opN;rw [if_pos h40]) (fun e=>hpre x (by rw [h40];decide) e.2)
  ·have h40:x≠40:=fun e=>by rw [e] at q3;exact absurd q3 (by decide)
   have h41:x=41:=by have:=beq_iff_eq.1 q4;exact UInt8.toNat_inj.1 (by change x.toNat=41;omega)
   rintro _ rfl
   exact go _ (by rw [show IntKind.i64.wrap (op-1)=op-1 by rw [IntKind.wrap_i64];omega];unfold opN;rw [if_neg h40,if_pos h41]) (fun e=>hpre x (by rw [h41];decide) e.2)
  ·have h40:x≠40:=fun e=>by rw [e] at q3;exact absurd q3 (by decide)
   have h41:x≠41:=fun e=>by rw [e] at q4;exact absurd q4 (by decide)
   have e3:IntKind.i64.wrap ((k:Int)+3)=((k+3:Nat):Int):=wi (by omega) (by omega)
   have hopx:op=opN op x:=by unfold opN;rw [if_neg h40,if_neg h41]
   refine ⟨fun b h' => h=h' /\ b=decide (op=0/\Lib.hasPrefix (x::t.drop (k+1)) [32,44,32]=true), ?_, ?_⟩
   ·rintro _ _ ⟨rfl,rfl⟩
    refine Br.mk (fun q5=> ?_) (fun q5=>go _ hopx (of_decide_eq_false q5))
    obtain ⟨h0,hp⟩:=of_decide_eq_true q5
    have hl3:k+3<=t.length:=by
     have h4:=(List.isPrefixOf_iff_prefix.1 hp).length_le
     rw [<- hdr,List.length_drop] at h4
     simp at h4
     omega
    refine ⟨by omega,by omega, ?_⟩
    rintro _ rfl
    rw [e3]
    refine ⟨by omega,by omega, ?_⟩
    rw [Int.toNat_natCast,Int.toNat_natCast,ba_ext,ba_ext,List.take_length,List.drop_zero]
    rw [hdr] at heq
    rw [heq,commaAt,if_pos ⟨h0,hp⟩]
    simp only [Option.map_some,Nat.zero_add]
    exact ⟨rfl,trivial⟩
   ·refine Br.mk (fun q5=> ?_) (fun q5=> ?_)
    ·have h0:op=0:=beq_iff_eq.1 q5
     rintro _ rfl
     rw [e3]
     refine Br.mk (fun q6=> ?_) (fun q6=> ?_)
     ·have hl3:k+3<=t.length:=by have:=of_decide_eq_true q6;omega
      rintro _ rfl
      refine ⟨by omega,by omega,by omega,by rw [Int.toNat_natCast];omega,rfl, ?_⟩
      rw [Int.toNat_natCast,Int.toNat_natCast,ba_ext,bytes_toList,show (⟨#[32,44,32]⟩:ByteArray).toList=[32,44,32] from bytes_toList [32,44,32],Bool.eq_iff_iff,beq_iff_eq,decide_eq_true_iff,<- hdr]
      have e4:(t.take (k+3)).drop k=(t.drop k).take 3:=by rw [List.drop_take];congr 1;omega
      rw [e4]
      constructor
      ·intro e
       refine ⟨h0,List.isPrefixOf_iff_prefix.2 ?_⟩
       rw [<- e]
       exact List.take_prefix _ _
      ·rintro ⟨_,e⟩
       obtain ⟨r,hr⟩:=List.isPrefixOf_iff_prefix.1 e
       rw [<- hr]
       rfl
     ·refine ⟨rfl, ?_⟩
      rw [eq_comm,decide_eq_false_iff_not]
      rintro ⟨_,e⟩
      have h4:=(List.isPrefixOf_iff_prefix.1 e).length_le
      rw [<- hdr,List.length_drop] at h4
      simp at h4
      have:=of_decide_eq_false q6
      omega
    ·refine ⟨rfl, ?_⟩
     rw [eq_comm,decide_eq_false_iff_not]
     rintro ⟨e,_⟩
     rw [e] at q5
     exact absurd q5 (by decide)
 ·have hke:k=t.length:=by have:=of_decide_eq_false q;omega
  rw [heq,hke,List.drop_length,commaAt]
  exact ⟨rfl,rfl⟩
def wds:List (List UInt8):=[[97,116],[102,114,111,109],[111,110],[109,101,101,116],[102,111,111,116],[109,105,114,114,111,114]]
def rkeyV (w:List UInt8):Int:=if kindV w<=6 then kindV w else 0
theorem wds_at {i:Nat} {x:List UInt8} (h:wds[i]?=some x):x=wdN ((i:Int)+1)/\i<6:=by
 have hi:i<6:=by have:=(List.getElem?_eq_some_iff.1 h).1;exact this
 have:i=0\/i=1\/i=2\/i=3\/i=4\/i=5:=by omega
 rcases this with rfl | rfl | rfl | rfl | rfl | rfl<;>(simp only [wds,List.getElem?_cons_zero,List.getElem?_cons_succ,Option.some.injEq] at h;subst h;exact ⟨rfl,hi⟩)
theorem rkeyword_c (w:List UInt8) (h:Heap):CallsU Tryz.prog 97 [sv w] h fun r h' => r = .int .i64 (rkeyV w)/\Le h h' := by
 apply ref19_keyword_ok
 unfold ref19_keyword_vc
 rintro g _ hg rfl
 have hb:Sl sv (h.put g ⟨wds.map sv,9,(0,0)⟩) (some ⟨g,0,none⟩) 6 6 wds:=Sl.of_blk (ys:=wds) (m:=6) (k:=6) (Heap.put_same _ _ _) (Nat.le_refl _) (Nat.le_refl _)
 have l1:=Le.new hg (⟨wds.map sv,9,(0,0)⟩:Blk)
 refine ⟨fun m i h' => ∃ k:Nat,k<=6/\m=6-k/\i=(k:Int)/\h.put g ⟨wds.map sv,9,(0,0)⟩=h' /\ (k:Int)<kindV w,⟨_,0,by omega,rfl,rfl,rfl,by have:=kindV_ge w;omega⟩, ?_⟩
 rintro m _ _ ⟨k,hk,rfl,rfl,rfl,hlt⟩
 refine Br.mk (fun q=> ?_) (fun q=> ?_)
 ·have hk6:k<6:=by have:=of_decide_eq_true q;omega
  obtain ⟨x,hx⟩ : ∃ x,wds[k]?=some x:=⟨_,List.getElem?_eq_getElem hk6⟩
  obtain ⟨ad,ea,hld⟩:=hb.get hx
  obtain ⟨hxw,_⟩:=wds_at hx
  have e1:IntKind.i64.wrap ((k:Int)+1)=((k+1:Nat):Int):=wi (by omega) (by omega)
  refine ⟨ad,ea,by omega,by omega,_,by rw [Int.toNat_natCast];exact hld, ?_⟩
  rw [bytes_toList,bytes_toList]
  refine Br.mk (fun q2=> ?_) (fun q2=> ?_)
  ·rintro _ rfl
   have hw:kindV w=(k:Int)+1:=kindV_of (by omega) (by omega) (by rw [<- hxw];exact (beq_iff_eq.1 q2).symm)
   refine ⟨?_,l1⟩
   rw [e1]
   unfold rkeyV
   rw [hw,if_pos (by omega)]
   rfl
  ·rintro _ rfl
   refine ⟨6-(k+1),by omega,k+1,by omega,rfl,e1,rfl, ?_⟩
   rcases Decidable.em (kindV w=(k:Int)+1) with e | e
   ·exfalso
    have:=kindV_eq e.symm (by omega)
    rw [<- hxw] at this
    rw [this] at q2
    simp at q2
   ·omega
 ·have:k=6:=by have:=of_decide_eq_false q;omega
  unfold rkeyV
  rw [if_neg (by omega)]
  exact ⟨rfl,l1⟩
def PnR (o:Option (List (List UInt8)×List UInt8)) (r:Value) (h' : Heap):Prop:=match o with
 | some (gs,rest)=> ∃ A n c,r = .tuple #[.slice A n c,sv rest,.bool true]/\Sl sv h' A n c gs
 | none=>r = .tuple #[.slice none 0 0,sv [],.bool false]
theorem rpoints_c (s:List UInt8) (hl:s.length<=1000000) (N:Nat) (hN:N<=1000) (h:Heap) :
  CallsU Tryz.prog 94 [sv s,.int .i64 (N:Int)] h fun r h' => PnR (pointsV s N) r h' /\ Le h h' := by
 apply ref19_points_ok
 unfold ref19_points_vc
 refine ⟨fun m q A n c i h' => ∃ k rest gs,k<=N/\m=N-k/\i=(k:Int)/\q=⟨rest.toArray⟩/\n=k/\OwnE sv 9 h h' A n c gs/\Le h h' /\ rest.length<=s.length/\pointsV s N=(pointsV rest (N-k)).map (fun x=>(gs++x.1,x.2)),⟨_,0,s,[],by omega,rfl,rfl,rfl,rfl,OwnE.nil h,Le.refl _,Nat.le_refl _,by rw [Nat.sub_zero];cases pointsV s N<;>rfl⟩, ?_⟩
 rintro m _ A n c _ h1 ⟨k,rest,gs,hk,rfl,rfl,rfl,rfl,own,l1,hrl,heq⟩
 refine Br.mk (fun q=> ?_) (fun q=> ?_)
 ·have hlt:n<N:=by have:=of_decide_eq_true q;omega
  obtain ⟨d,hd⟩ : ∃ d,N-n=d+1:=⟨N-n-1,by omega⟩
  rw [hd,pointsV] at heq
  refine (rword_c rest (by omega) h1).mono ?_
  rintro _ _ ⟨rfl,rfl⟩
  have hws:=wordV_split rest
  cases hw:wordV rest with
  | none=>
   rw [hw] at heq
   simp only [Option.map_none] at heq
   refine ⟨_,_,_,rfl,fun b h' => b=true/\h1=h', ?_,Br.mk (fun _=>⟨rfl,rfl⟩) (fun q2=>by exact absurd q2 (by decide))⟩
   rintro _ _ ⟨rfl,rfl⟩
   refine Br.mk (fun _=> ?_) (fun q2=>by cases q2)
   rw [heq]
   exact ⟨rfl,l1⟩
  | some x=>
   obtain ⟨p,r⟩:=x
   rw [hw] at heq hws
   simp only at heq hws
   have hpl:p.length<=1000000:=by
    unfold wordV at hw
    split at hw
    ·injection hw with hw
     injection hw with h1 h2
     rw [<- h1]
     have:=(List.takeWhile_sublist (fun x:UInt8=>x != 32) (l:=rest)).length_le
     omega
    ·cases hw
   refine ⟨_,_,_,rfl,fun b h' => b=(!isPointV p)/\h1=h', ?_,Br.mk (fun q2=>by exact absurd q2 (by decide)) (fun _=>(rPoint_c p hpl h1).mono ?_)⟩
   ·rintro _ _ ⟨rfl,rfl⟩
    refine Br.mk (fun q2=> ?_) (fun q2=> ?_)
    ·rw [if_neg (by simpa using q2)] at heq
     rw [heq]
     exact ⟨rfl,l1⟩
    ·rw [if_pos (by simpa using q2)] at heq
     rintro g0 _ hg0 rfl
     refine OwnE.app (x:=p) (z:=[]) (bs:=16) (K:=fun A' c' h' => ∀ o:Int,o=IntKind.i64.wrap ((n:Int)+1)-> ∃ j,j<N-n/\ ∃ k' rest' gs', k' <= N/\j=N-k' /\ o=(k' : Int)/\(⟨r.toArray⟩:ByteArray)=⟨rest'.toArray⟩/\n+1=k' /\ OwnE sv 9 h h' A' (n+1) c' gs' /\ Le h h' /\ rest'.length<=s.length/\pointsV s N=(pointsV rest' (N-k')).map (fun x=>(gs' ++ x.1,x.2))) own l1 (fun _=>rfl) rfl rfl hg0 (by omega) (fun A' c' h' own' l' _=> ?_)
     rintro _ rfl
     refine ⟨N-(n+1),by omega,n+1,r,gs++[p],by omega,rfl,wi (by omega) (by omega),rfl,rfl,own', l', by omega, ?_⟩
     rw [heq,show N-(n+1)=d by omega,Option.map_map]
     congr 1
     funext x
     simp only [Function.comp,List.append_assoc,List.singleton_append]
   ·rintro _ _ ⟨rfl,rfl⟩
    exact ⟨_,rfl,rfl,rfl⟩
 ·have hke:n=N:=by have:=of_decide_eq_false q;omega
  rw [hke,Nat.sub_self,pointsV] at heq
  simp only [Option.map_some,List.append_nil] at heq
  rw [heq]
  exact ⟨⟨_,_,_,rfl,own.sl⟩,l1⟩
theorem rLines_c (s:List UInt8) (hl:s.length<=1000000) (h:Heap) :
  CallsU Tryz.prog 50 [sv s] h fun r h' => (∃ A n c,r = .slice A n c/\Sl sv h' A n c (splitV 10 s))/\Le h h' := by
 apply ref19_Lines_ok
 unfold ref19_Lines_vc
 rw [ba_size]
 refine ⟨fun m A n c f i h' => ∃ k u gs,u<=k/\k<=s.length/\m=s.length-k/\i=(k:Int)/\f=(u:Int)/\n<=k/\OwnE sv 9 h h' A n c gs/\Le h h' /\ (10:UInt8)∉(s.take k).drop u/\splitV 10 s=gs++splitV 10 (s.drop u),⟨_,0,0,[],by omega,by omega,rfl,rfl,rfl,by omega,OwnE.nil h,Le.refl _,by simp,rfl⟩, ?_⟩
 rintro m A n c _ _ h1 ⟨k,u,gs,huk,hk,rfl,rfl,rfl,hn,own,l1,hno,heq⟩
 refine Br.mk (fun q=> ?_) (fun q=> ?_)
 ·have hlt:k<s.length:=by have:=of_decide_eq_true q;omega
  obtain ⟨x,hx⟩ : ∃ x,s[k]?=some x:=⟨_,List.getElem?_eq_getElem hlt⟩
  have e1:IntKind.i64.wrap ((k:Int)+1)=((k+1:Nat):Int):=wi (by omega) (by omega)
  refine ⟨x,by omega,by rw [Int.toNat_natCast,ba_get];exact hx,Br.mk (fun q2=> ?_) (fun q2=> ?_)⟩
  ·have h10:x=10:=by have:=beq_iff_eq.1 q2;exact UInt8.toNat_inj.1 (by change x.toNat=10;omega)
   subst h10
   refine ⟨by omega,by omega,by omega,by rw [Int.toNat_natCast];omega, ?_⟩
   rw [Int.toNat_natCast,Int.toNat_natCast,ba_ext]
   rintro g0 _ hg0 rfl
   refine OwnE.app (x:=(s.take k).drop u) (z:=[]) (bs:=16) (K:=fun A' c' h' => ∀ l:Int,l=IntKind.i64.wrap ((k:Int)+1)-> ∀ o:Int,o=IntKind.i64.wrap ((k:Int)+1)-> ∃ j,j<s.length-k/\ ∃ k' u' gs', u' <= k' /\ k' <= s.length/\j=s.length-k' /\ o=(k' : Int)/\l=(u' : Int)/\n+1<=k' /\ OwnE sv 9 h h' A' (n+1) c' gs' /\ Le h h' /\ (10:UInt8)∉(s.take k').drop u' /\ splitV 10 s=gs' ++ splitV 10 (s.drop u')) own l1 (fun _=>rfl) rfl rfl hg0 (by omega) (fun A' c' h' own' l' _=> ?_)
   rintro _ rfl _ rfl
   refine ⟨s.length-(k+1),by omega,k+1,k+1,gs++[(s.take k).drop u],by omega,by omega,rfl,e1,e1,by omega,own', l', by rw [List.drop_eq_nil_of_le (by rw [List.length_take];omega)];simp, ?_⟩
   have e2:s.drop u=(s.take k).drop u++10::s.drop (k+1):=by
    rw [<- drop_at hx]
    have:(s.take k).drop u++s.drop k=(s.take k++s.drop k).drop u:=by
     rw [List.drop_append_of_le_length (by rw [List.length_take];omega)]
    rw [this,List.take_append_drop]
   rw [heq,e2,split_app,split_none hno,List.append_assoc]
  ·have h10:x≠10:=fun e=>by rw [e] at q2;exact absurd q2 (by decide)
   rintro _ rfl
   refine ⟨s.length-(k+1),by omega,k+1,u,gs,by omega,by omega,rfl,e1,rfl,by omega,own,l1, ?_,heq⟩
   rw [List.take_add_one,hx,List.drop_append_of_le_length (by rw [List.length_take];omega)]
   simp only [Option.toList_some,List.mem_append,List.mem_singleton,not_or]
   exact ⟨hno,fun e=>h10 e.symm⟩
 ·have hke:k=s.length:=by have:=of_decide_eq_false q;omega
  subst hke
  rw [List.take_length] at hno
  refine ⟨by omega,by omega, ?_⟩
  rw [Int.toNat_natCast,ba_ext,List.take_length]
  rintro g0 _ hg0 rfl
  refine OwnE.app (x:=s.drop u) (z:=[]) (bs:=16) (K:=fun A' c' h' => (∃ A n c,Value.slice A' (_+1) c' = .slice A n c/\Sl sv h' A n c (splitV 10 s))/\Le h h') own l1 (fun _=>rfl) rfl rfl hg0 (by omega) (fun A' c' h' own' l' _=> ?_)
  refine ⟨⟨_,_,_,rfl, ?_⟩,l'⟩
  rw [heq,split_none hno]
  exact own'.sl
def Rdr (S:Option Addr×Nat) (h:Heap) (g:Nat) (T:List (List UInt8)) (a:Nat) (e:Int):Prop:=
 ∃ ty:Nat,Sl sv (hole h g) S.1 T.length S.2 T/\h g=some ⟨[.slice S.1 T.length S.2,.int .i64 (a:Int),.int .i64 e],ty,(0,0)⟩
def nxtV (T:List (List UInt8)) (a:Nat) (e:Int):List UInt8:=if e=0 then hdT (T.drop a) else []
def wrgV (T:List (List UInt8)) (a:Nat) (e:Int):Int:=if e=0 then (if T.length<=a then 4 else 2) else e
theorem cell0 {h:Heap} {g:Nat} {x y z:Value} {ty:Nat} (hb:h g=some ⟨[x,y,z],ty,(0,0)⟩):LdN h (Addr.add ⟨g,0,none⟩ 0) [x]:=ld_of rfl hb rfl
theorem cell1 {h:Heap} {g:Nat} {x y z:Value} {ty:Nat} (hb:h g=some ⟨[x,y,z],ty,(0,0)⟩):LdN h (Addr.add ⟨g,0,none⟩ 1) [y]:=ld_of rfl hb rfl
theorem cell2 {h:Heap} {g:Nat} {x y z:Value} {ty:Nat} (hb:h g=some ⟨[x,y,z],ty,(0,0)⟩):LdN h (Addr.add ⟨g,0,none⟩ 2) [z]:=ld_of rfl hb rfl
theorem Rdr.step {S:Option Addr×Nat} {h:Heap} {g:Nat} {T:List (List UInt8)} {a:Nat} {e:Int} (u:Rdr S h g T a e) (ha:a<=1000000) {K:Heap->Prop} (hk : ∀ h', Rdr S h' g T (a+1) e->hole h' g=hole h g->K h') :
  ∃ t:Int,LdN h (Addr.add ⟨g,0,none⟩ 1) [.int .i64 t]/\ ∀ t' : Int,t' = IntKind.i64.wrap (t+1)->
   ∃ b:Blk,h (Addr.block (Addr.add ⟨g,0,none⟩ 1))=some b/\b.fz=(0,0)/\Addr.spot (Addr.add ⟨g,0,none⟩ 1)=none/\Addr.off (Addr.add ⟨g,0,none⟩ 1)+1<=b.cells.length/\
   ∀ h' : Heap,h' = Heap.put h (Addr.block (Addr.add ⟨g,0,none⟩ 1)) { b with cells:=setSeg b.cells (Addr.off (Addr.add ⟨g,0,none⟩ 1)) [.int .i64 t'] }->K h' := by
 obtain ⟨ty,hs,hb⟩:=u
 refine ⟨_,cell1 hb, ?_⟩
 rintro _ rfl
 have e1:IntKind.i64.wrap ((a:Int)+1)=((a+1:Nat):Int):=wi (by omega) (by omega)
 rw [e1,addr_block,addr_off]
 refine ⟨_,hb,rfl,addr_spot _ _ rfl,by simp, ?_⟩
 rintro _ rfl
 refine hk _ ⟨ty,by rw [hole_put];exact hs, ?_⟩ (hole_put _ _ _)
 rw [Heap.put_same]
 simp [setSeg]
theorem rNext_c {S:Option Addr×Nat} {h:Heap} {g:Nat} {T:List (List UInt8)} {a:Nat} {e:Int} (u:Rdr S h g T a e) :
  CallsU Tryz.prog 227 [.pointer (some ⟨g,0,none⟩)] h fun v h' => v=sv (nxtV T a e)/\h=h' := by
 obtain ⟨ty,hs,hb⟩:=u
 apply garment_ref17_reader_next_ok
 refine ⟨fun t h' => h=h' /\ t=decide (e≠0\/T.length<=a), ?_,_,cell2 hb, ?_⟩
 ·rintro _ _ ⟨rfl,rfl⟩
  refine Br.mk (fun q=>⟨?_,rfl⟩) (fun q=> ?_)
  ·have:=of_decide_eq_true q
   unfold nxtV
   rcases this with q | q
   ·rw [if_neg q]
   ·rw [List.drop_eq_nil_of_le q]
    split
    ·rfl
    ·rfl
  ·have hq:=of_decide_eq_false q
   have he:e=0:=Classical.byContradiction fun q=>hq (Or.inl q)
   have hlt:a<T.length:=by omega
   obtain ⟨x,hx⟩ : ∃ x,T[a]?=some x:=⟨_,List.getElem?_eq_getElem hlt⟩
   obtain ⟨ad,eA,hld⟩:=hs.get hx
   refine ⟨_,_,_,cell0 hb,_,cell1 hb,ad,eA,by omega,by omega,_,by rw [Int.toNat_natCast];exact LdN.mono hld (hole_le _ _), ?_,rfl⟩
   unfold nxtV
   rw [if_pos he,List.drop_eq_getElem_cons hlt]
   rw [List.getElem?_eq_getElem hlt] at hx
   rw [Option.some.inj hx]
   rfl
 ·refine Br.mk (fun q=>⟨rfl, ?_⟩) (fun q=>⟨_,cell1 hb,_,_,_,cell0 hb,rfl, ?_⟩)
  ·have:e≠0:=by simpa using q
   rw [decide_eq_true (Or.inl this)]
  ·have:e=0:=by simpa using q
   rw [Bool.eq_iff_iff,decide_eq_true_eq,decide_eq_true_eq]
   constructor
   ·intro h1;exact Or.inr (by omega)
   ·rintro (h1 | h1)
    ·exact absurd this h1
    ·omega
theorem Rdr.setE {S:Option Addr×Nat} {h:Heap} {g:Nat} {T:List (List UInt8)} {a:Nat} {e:Int} (u:Rdr S h g T a e) (e' : Int) {K:Heap->Prop} (hk : ∀ h', Rdr S h' g T a e' -> hole h' g=hole h g->K h') :
  ∃ b:Blk,h (Addr.block (Addr.add ⟨g,0,none⟩ 2))=some b/\b.fz=(0,0)/\Addr.spot (Addr.add ⟨g,0,none⟩ 2)=none/\Addr.off (Addr.add ⟨g,0,none⟩ 2)+1<=b.cells.length/\
   ∀ h' : Heap,h' = Heap.put h (Addr.block (Addr.add ⟨g,0,none⟩ 2)) { b with cells:=setSeg b.cells (Addr.off (Addr.add ⟨g,0,none⟩ 2)) [.int .i64 e'] }->K h' := by
 obtain ⟨ty,hs,hb⟩:=u
 rw [addr_block,addr_off]
 refine ⟨_,hb,rfl,addr_spot _ _ rfl,by simp, ?_⟩
 rintro _ rfl
 refine hk _ ⟨ty,by rw [hole_put];exact hs, ?_⟩ (hole_put _ _ _)
 rw [Heap.put_same]
 simp [setSeg]
theorem rWrong_c {S:Option Addr×Nat} {h:Heap} {g:Nat} {T:List (List UInt8)} {a:Nat} {e:Int} (u:Rdr S h g T a e) :
  CallsU Tryz.prog 170 [.pointer (some ⟨g,0,none⟩)] h fun v h' => v = .tuple #[]/\Rdr S h' g T a (wrgV T a e)/\hole h' g=hole h g:=by
 have u' := u
 obtain ⟨ty,hs,hb⟩:=u'
 apply garment_ref17_reader_wrong_ok
 refine ⟨fun t h' => h=h' /\ t=decide (e=0/\T.length<=a), ?_,_,cell2 hb, ?_⟩
 ·rintro _ _ ⟨rfl,rfl⟩
  unfold wrgV
  refine Br.mk (fun q=> ?_) (fun q=>⟨_,cell2 hb,Br.mk (fun q2=> ?_) (fun q2=> ?_)⟩)
  ·obtain ⟨q1,q2⟩:=of_decide_eq_true q
   rw [if_pos q1,if_pos q2]
   refine u.setE 4 fun h1 u1 ho1=> ?_
   have u1' := u1
   obtain ⟨ty1,hs1,hb1⟩:=u1'
   exact ⟨_,cell2 hb1,Br.mk (fun q=>by exact absurd q (by decide)) (fun _=>⟨rfl,u1,ho1⟩)⟩
  ·have q1:=of_decide_eq_false q
   have e0:e=0:=beq_iff_eq.1 q2
   rw [if_pos e0,if_neg (fun q=>q1 ⟨e0,q⟩)]
   exact u.setE 2 fun h1 u1 ho1=>⟨rfl,u1,ho1⟩
  ·have e0:e≠0:=beq_eq_false_iff_ne.1 q2
   rw [if_neg e0]
   exact ⟨rfl,u,rfl⟩
 ·refine Br.mk (fun q=>⟨_,cell1 hb,_,_,_,cell0 hb,rfl, ?_⟩) (fun q=>⟨rfl, ?_⟩)
  ·have:e=0:=beq_iff_eq.1 q
   rw [Bool.eq_iff_iff,decide_eq_true_eq,decide_eq_true_eq]
   constructor
   ·intro h1;exact ⟨this,by omega⟩
   ·intro h1;omega
  ·have:e≠0:=beq_eq_false_iff_ne.1 q
   rw [decide_eq_false (fun q=>this q.1)]
theorem rTake_c {S:Option Addr×Nat} {h:Heap} {g:Nat} {T:List (List UInt8)} {a:Nat} {e:Int} (u:Rdr S h g T a e) (ha:a<=1000000) (s:List UInt8) :
  CallsU Tryz.prog 280 [.pointer (some ⟨g,0,none⟩),sv s] h fun v h' => v = .tuple #[]/\Rdr S h' g T (a+1) (if nxtV T a e=s then e else wrgV T a e)/\hole h' g=hole h g:=by
 apply garment_ref17_reader_take_ok
 refine (rNext_c u).mono ?_
 rintro _ _ ⟨rfl,rfl⟩
 refine ⟨_,rfl, ?_⟩
 rw [bytes_toList,bytes_toList]
 refine Br.mk (fun q=> ?_) (fun q=> ?_)
 ·have hne:nxtV T a e≠s:=by simpa using q
  refine (rWrong_c u).mono ?_
  rintro _ h1 ⟨rfl,u1,ho1⟩
  refine ⟨rfl,u1.step ha fun h2 u2 ho2=>⟨rfl, ?_,ho2.trans ho1⟩⟩
  rw [if_neg hne]
  exact u2
 ·have he:nxtV T a e=s:=by simpa using q
  refine u.step ha fun h2 u2 ho2=>⟨rfl, ?_,ho2⟩
  rw [if_pos he]
  exact u2
theorem rSign_c (x:UInt8) (h:Heap):CallsU Tryz.prog 225 [.int .u8 (x.toNat:Int)] h fun r h' => r = .bool (!nd x&&x != 32)/\h=h' := by
 have key : ∀ y:UInt8,((x.toNat:Int)==(y.toNat:Int))=(x==y):=fun y=>by
  rw [Bool.eq_iff_iff,beq_iff_eq,beq_iff_eq]
  constructor
  ·intro e;exact UInt8.toNat_inj.1 (by omega)
  ·rintro rfl;rfl
 apply ref17_sign_ok
 unfold ref17_sign_vc
 have k1:=key 43
 have k2:=key 45
 have k3:=key 42
 have k4:=key 47
 have k5:=key 40
 have k6:=key 41
 have k7:=key 44
 have hnd:(!nd x&&x != 32)=(x==43||x==45||x==42||x==47||x==40||x==41||x==44):=by
  unfold nd
  rw [Bool.not_not,List.contains_eq_mem,Bool.eq_iff_iff]
  simp only [Bool.and_eq_true,decide_eq_true_eq,bne_iff_ne,Bool.or_eq_true,beq_iff_eq,List.mem_cons,List.not_mem_nil,or_false]
  constructor
  ·rintro ⟨h1,h2⟩
   rcases h1 with h1 | h1 | h1 | h1 | h1 | h1 | h1 | h1<;>first | exact absurd h1 h2 | simp [h1]
  ·intro h1
   rcases h1 with (((((h1 | h1) | h1) | h1) | h1) | h1) | h1<;>subst h1<;>exact ⟨by simp,by decide⟩
 rw [hnd]
 refine Br.mk (fun q=>⟨?_,rfl⟩) (fun q1=>Br.mk (fun q=>⟨?_,rfl⟩) (fun q2=>Br.mk (fun q=>⟨?_,rfl⟩) (fun q3=>Br.mk (fun q=>⟨?_,rfl⟩) (fun q4=>Br.mk (fun q=>⟨?_,rfl⟩) (fun q5=>Br.mk (fun q=>⟨?_,rfl⟩) (fun q6=>⟨?_,rfl⟩))))))
 ·rw [show (x==43)=true from k1.symm.trans q];rfl
 ·rw [show (x==45)=true from k2.symm.trans q];simp
 ·rw [show (x==42)=true from k3.symm.trans q];simp
 ·rw [show (x==47)=true from k4.symm.trans q];simp
 ·rw [show (x==40)=true from k5.symm.trans q];simp
 ·rw [show (x==41)=true from k6.symm.trans q];simp
 ·rw [show (x==43)=false from k1.symm.trans q1,show (x==45)=false from k2.symm.trans q2,show (x==42)=false from k3.symm.trans q3,show (x==47)=false from k4.symm.trans q4,show (x==40)=false from k5.symm.trans q5,show (x==41)=false from k6.symm.trans q6]
  congr 1
theorem rDigits_c (l:List UInt8) (hl:l.length<=1000000) (h:Heap):CallsU Tryz.prog 296 [sv l] h fun r h' => r = .int .i64 ((l.takeWhile isDg).length:Int)/\h=h' := by
 apply ref17_digits_ok
 unfold ref17_digits_vc
 rw [ba_size]
 refine ⟨fun m n h' => ∃ k,k<=l.length/\m=l.length-k/\n=(k:Int)/\h=h' /\ (l.take k).all isDg=true,⟨l.length,0,by omega,by omega,rfl,rfl,by simp⟩, ?_⟩
 rintro m _ _ ⟨k,hk,rfl,rfl,rfl,hall⟩
 refine Br.mk (fun q=> ?_) (fun q=>⟨?_,rfl⟩)
 ·have hlt:k<l.length:=by have:=of_decide_eq_true q;omega
  obtain ⟨x,hx⟩ : ∃ x,l[k]?=some x:=⟨_,List.getElem?_eq_getElem hlt⟩
  refine ⟨x,by omega,by rw [Int.toNat_natCast,ba_get];exact hx, ?_⟩
  refine (rDigit_c x h).mono ?_
  rintro _ _ ⟨rfl,rfl⟩
  refine ⟨_,rfl,Br.mk (fun q2=> ?_) (fun q2=>⟨?_,rfl⟩)⟩
  ·rintro _ rfl
   refine ⟨l.length-(k+1),by omega,k+1,by omega,rfl,wi (by omega) (by omega),rfl, ?_⟩
   rw [List.take_add_one,hx,List.all_append,hall]
   simp [q2]
  ·rw [tw_at (by omega) hall (fun y hy=>by rw [hx] at hy;cases hy;exact q2),List.length_take,Nat.min_eq_left (by omega)]
 ·have hk' : k=l.length:=by have:=of_decide_eq_false q;omega
  subst hk'
  rw [tw_at (Nat.le_refl _) hall (fun y hy=>by rw [List.getElem?_eq_none (Nat.le_refl _)] at hy;cases hy),List.take_length]
def refNum (w:List UInt8):Option Nat:=
 let a:=w.takeWhile isDg
 if 1<=a.length/\a.length<=9/\ ¬ (1<a.length/\w.head?=some 48) then
  (if a.length<w.length then
   (if w[a.length]?=some 46/\w.drop (a.length+1)≠[]/\(w.drop (a.length+1)).length<=4/\(w.drop (a.length+1)).all isDg=true then some (dgV (a++(w.drop (a.length+1)++[48,48,48,48]).take 4)) else none)
  else some (dgV (a++[48,48,48,48])))
 else none
theorem dgV_app (a b:List UInt8):dgV (a++b)=dgV a*10^b.length+dgV b:=by
 unfold dgV
 rw [List.foldl_append,dgV_from]
 rfl
theorem take4 {r:List UInt8} (h:r.length<=4):(r++[48,48,48,48]).take 4=r++List.replicate (4-r.length) 48:=by
 have : ∀ k,k<=4->([48,48,48,48]:List UInt8).take k=List.replicate k 48:=by decide
 rw [List.take_append,List.take_of_length_le h,this _ (by omega)]
theorem dgsB_iff {l:List UInt8} {k:Nat}:dgsB l k=true↔l.all isDg=true/\1<=l.length/\l.length<=k:=by
 unfold dgsB
 rw [Bool.and_eq_true,decide_eq_true_eq]
theorem dg46 {x:UInt8} (h:isDg x=true):(x != 46)=true:=by
 have:=isDg_iff.1 h
 rw [bne_iff_ne]
 rintro rfl
 revert this;decide
theorem refNum_eq (w:List UInt8):numberV w=(refNum w).map (fun v:Nat=>(v:Rat)/10000):=by
 have hsplit:w.takeWhile isDg++w.dropWhile isDg=w:=List.takeWhile_append_dropWhile
 have hall : ∀ x∈w.takeWhile isDg,isDg x=true:=fun x hx=>by
  have:=List.all_takeWhile (p:=isDg) (l:=w)
  exact List.all_eq_true.1 this x hx
 have hhd : ∀ x,(w.dropWhile isDg).head?=some x->isDg x=false:=fun x hx=>by
  have:=List.head?_dropWhile_not isDg w
  rw [hx] at this
  simpa using this
 generalize ha:w.takeWhile isDg=a at *
 generalize hb:w.dropWhile isDg=b at *
 have alldg:a.all isDg=true:=List.all_eq_true.2 hall
 have tw46 : ∀ r:List UInt8,(a++r).takeWhile (· != 46)=a++r.takeWhile (· != 46):=fun r=>List.takeWhile_append_of_pos fun x hx=>dg46 (hall x hx)
 have head48 : ∀ r:List UInt8,1<a.length->(a++r).head?=a.head?:=fun r hl=>by
  cases a with
  | nil=>simp at hl
  | cons x a=>rfl
 unfold refNum
 simp only [ha]
 cases b with
 | nil=>
  rw [List.append_nil] at hsplit
  subst hsplit
  have e1:a.takeWhile (· != 46)=a:=by have:=tw46 [];rw [List.append_nil] at this;simpa using this
  have e2:a.dropWhile (· != 46)=[]:=by rw [<- tw_drop,e1,List.drop_length]
  have n46:decide ((46:UInt8)∈a)=false:=by
   rw [decide_eq_false_iff_not]
   intro hm
   exact absurd (dg46 (hall 46 hm)) (by decide)
  have hN:numberV a=if (dgsB a 9 && !(decide (1<a.length)&&a.head?==some 48))=true then some ((dgV a:Int)/((1:Nat):Int):Rat) else none:=by
   unfold numberV
   simp only [e1,e2,List.drop_nil,n46,List.append_nil,Bool.not_false,Bool.true_or,Bool.and_true,List.length_nil,Nat.pow_zero]
  rw [hN,if_neg (Nat.lt_irrefl a.length)]
  by_cases hc:1<=a.length/\a.length<=9/\ ¬ (1<a.length/\a.head?=some 48)
  ·have hb:(dgsB a 9 && !(decide (1<a.length)&&a.head?==some 48))=true:=by
    rw [Bool.and_eq_true,dgsB_iff]
    refine ⟨⟨alldg,hc.1,hc.2.1⟩, ?_⟩
    rw [Bool.not_eq_true', Bool.and_eq_false_iff]
    by_cases h1:1<a.length
    ·right
     have:a.head?≠some 48:=fun q=>hc.2.2 ⟨h1,q⟩
     simpa using this
    ·left;simpa using h1
   rw [if_pos hc,if_pos hb,Option.map_some]
   congr 1
   rw [dgV_app]
   have e3:dgV [48,48,48,48]=0:=by decide
   have e4:([48,48,48,48]:List UInt8).length=4:=rfl
   rw [e3,e4,Rat.intCast_natCast,Rat.intCast_natCast]
   exact rat_cross (a:=dgV a) (b:=1) (c:=dgV a*10^4+0) (d:=10000) (by decide) (by decide) (by omega)
  ·have hb : ¬ (dgsB a 9 && !(decide (1<a.length)&&a.head?==some 48))=true:=by
    rw [Bool.and_eq_true,dgsB_iff,Bool.not_eq_true', Bool.and_eq_false_iff]
    rintro ⟨⟨_,h1,h2⟩,h3⟩
    refine hc ⟨h1,h2, ?_⟩
    rintro ⟨h4,h5⟩
    rcases h3 with h3 | h3
    ·rw [decide_eq_false_iff_not] at h3;exact h3 h4
    ·rw [h5] at h3;simp at h3
   rw [if_neg hc,if_neg hb]
   rfl
 | cons y r=>
  have hy:=hhd y rfl
  subst hsplit
  have hlt:a.length<(a++y::r).length:=by simp
  have hget:(a++y::r)[a.length]?=some y:=by simp
  have hdrop:(a++y::r).drop (a.length+1)=r:=by
   rw [List.drop_append,List.drop_eq_nil_of_le (by omega)]
   simp
  rw [if_pos hlt,hget,hdrop]
  by_cases h46:y=46
  ·subst h46
   have e1:(a++46::r).takeWhile (· != 46)=a:=by rw [tw46];simp
   have e2:(a++46::r).dropWhile (· != 46)=46::r:=by rw [<- tw_drop,e1,List.drop_left]
   have n46:decide ((46:UInt8)∈a++46::r)=true:=by simp
   have hN:numberV (a++46::r)=if (dgsB a 9 && !(decide (1<a.length)&&a.head?==some 48)&&dgsB r 4)=true then some ((dgV (a++r):Int)/((10^r.length:Nat):Int):Rat) else none:=by
    unfold numberV
    simp only [e1,e2,List.drop_succ_cons,List.drop_zero,n46,Bool.not_true,Bool.false_or]
   rw [hN]
   by_cases hc:1<=a.length/\a.length<=9/\ ¬ (1<a.length/\(a++46::r).head?=some 48)
   ·rw [if_pos hc]
    by_cases hr:r≠[]/\r.length<=4/\r.all isDg=true
    ·have hb:(dgsB a 9 && !(decide (1<a.length)&&a.head?==some 48)&&dgsB r 4)=true:=by
      rw [Bool.and_eq_true,Bool.and_eq_true,dgsB_iff,dgsB_iff]
      have hr0:=List.length_pos_iff.2 hr.1
      refine ⟨⟨⟨alldg,hc.1,hc.2.1⟩, ?_⟩,hr.2.2,by omega,hr.2.1⟩
      rw [Bool.not_eq_true', Bool.and_eq_false_iff]
      by_cases h1:1<a.length
      ·right
       have:a.head?≠some 48:=fun q=>hc.2.2 ⟨h1,by rw [head48 _ h1];exact q⟩
       simpa using this
      ·left;simpa using h1
     rw [if_pos hb,if_pos (show some (46:UInt8)=some 46/\r≠[]/\r.length<=4/\r.all isDg=true from ⟨rfl,hr⟩),Option.map_some]
     congr 1
     rw [take4 hr.2.1,dgV_app,dgV_app,dgV_app,dgV_zeros,List.length_append,List.length_replicate,Nat.add_zero]
     have hpow:10^r.length*10^(4-r.length)=10000:=by rw [<- Nat.pow_add,show r.length+(4-r.length)=4 by have:=hr.2.1;omega]
     have hcross:(dgV a*10^r.length+dgV r)*10000=(dgV a*10^(r.length+(4-r.length))+dgV r*10^(4-r.length))*10^r.length:=by
      rw [Nat.pow_add,hpow,Nat.add_mul,Nat.add_mul]
      congr 1
      ·rw [Nat.mul_assoc,Nat.mul_assoc,Nat.mul_comm (10^r.length)]
      ·rw [<- hpow,Nat.mul_assoc,Nat.mul_comm (10^r.length)]
     rw [Rat.intCast_natCast,Rat.intCast_natCast]
     exact rat_cross (a:=dgV a*10^r.length+dgV r) (b:=10^r.length) (d:=10000) (Nat.pos_iff_ne_zero.1 (Nat.pow_pos (by decide))) (by decide) hcross
    ·have hb : ¬ (dgsB a 9 && !(decide (1<a.length)&&a.head?==some 48)&&dgsB r 4)=true:=by
      rw [Bool.and_eq_true,dgsB_iff]
      rintro ⟨_,h1,h2,h3⟩
      exact hr ⟨fun e=>by rw [e] at h2;simp at h2,h3,h1⟩
     rw [if_neg hb,if_neg (show ¬ (some (46:UInt8)=some 46/\r≠[]/\r.length<=4/\r.all isDg=true) from fun q=>hr q.2)]
     rfl
   ·have hb : ¬ (dgsB a 9 && !(decide (1<a.length)&&a.head?==some 48)&&dgsB r 4)=true:=by
     rw [Bool.and_eq_true,Bool.and_eq_true,dgsB_iff,Bool.not_eq_true', Bool.and_eq_false_iff]
     rintro ⟨⟨⟨_,h1,h2⟩,h3⟩,_⟩
     refine hc ⟨h1,h2, ?_⟩
     rintro ⟨h4,h5⟩
     rw [head48 _ h4] at h5
     rcases h3 with h3 | h3
     ·rw [decide_eq_false_iff_not] at h3;exact h3 h4
     ·rw [h5] at h3;simp at h3
    rw [if_neg hc,if_neg hb]
    rfl
  ·have hn:numberV (a++y::r)=none:=by
    have y46:(y != 46)=true:=by simpa using h46
    have e1:(a++y::r).takeWhile (· != 46)=a++y::r.takeWhile (· != 46):=by rw [tw46,List.takeWhile_cons,if_pos y46]
    have hf:dgsB (a++y::r.takeWhile (· != 46)) 9=false:=by
     cases hd:dgsB (a++y::r.takeWhile (· != 46)) 9 with
     | false=>rfl
     | true=>
      have:=(dgsB_iff.1 hd).1
      rw [List.all_append,List.all_cons,hy] at this
      simp at this
    unfold numberV
    simp only [e1,hf,Bool.false_and]
    rfl
   have hz : ¬ (some y=some (46:UInt8)/\r≠[]/\r.length<=4/\r.all isDg=true):=fun q=>h46 (Option.some.inj q.1)
   rw [hn,if_neg hz]
   split<;>rfl
theorem dgV_bound {l:List UInt8} (hd:l.all isDg=true) {k:Nat} (hk:l.length<=k):dgV l<10^k:=
 Nat.lt_of_lt_of_le (dgV_lt l (fun x hx=>List.all_eq_true.1 hd x hx)) (Nat.pow_le_pow_right (by decide) hk)
theorem rNumber17_c (l:List UInt8) (hl:l.length<=1000000) (h:Heap):CallsU Tryz.prog 282 [sv l] h fun r h' => r = .tuple #[.int .i64 ((refNum l).getD 0:Nat),.bool (refNum l).isSome]/\h=h' := by
 apply ref17_Number_ok
 unfold ref17_Number_vc
 refine (rDigits_c l hl h).mono ?_
 rintro _ _ ⟨rfl,rfl⟩
 unfold refNum
 have htl:=tw_le l isDg
 have htk:=tw_take l isDg
 have halldg:(l.takeWhile isDg).all isDg=true:=List.all_takeWhile
 generalize hA:l.takeWhile isDg=a at *
 dsimp only
 rw [ba_size]
 have e1:(⟨l.toArray⟩:ByteArray).extract 0 (Int.toNat (a.length:Int))=⟨a.toArray⟩:=by rw [Int.toNat_natCast,ba_ext];simp [htk]
 have c4:(⟨#[48,48,48,48]⟩:ByteArray)=⟨([48,48,48,48]:List UInt8).toArray⟩:=rfl
 have cnil:(⟨#[]⟩:ByteArray)=⟨([]:List UInt8).toArray⟩:=rfl
 refine ⟨_,rfl, ?_⟩
 rw [e1,c4]
 refine ⟨fun h' => h=h' /\ 1<=a.length/\a.length<=9/\ ¬ (1<a.length/\l.head?=some 48), ?_, ?_⟩
 ·rintro _ ⟨rfl,hc⟩
  rw [if_pos hc]
  refine ⟨fun rest h' => h=h' /\ ∃ r:List UInt8,rest=⟨r.toArray⟩/\r.length<=4/\r.all isDg=true/\(if a.length<l.length then (if l[a.length]?=some 46/\l.drop (a.length+1)≠[]/\(l.drop (a.length+1)).length<=4/\(l.drop (a.length+1)).all isDg=true then some (dgV (a++(l.drop (a.length+1)++[48,48,48,48]).take 4)) else none) else some (dgV (a++[48,48,48,48])))=some (dgV (a++(r++[48,48,48,48]).take 4)), ?_, ?_⟩
  ·rintro _ _ ⟨rfl,r,rfl,hr4,hrd,hval⟩
   rw [hval,ba_append,ba_size,ba_size,ba_size,ba_ext,ba_append,ba_size,ba_size]
   simp only [List.drop_zero,Option.getD_some,Option.isSome_some]
   have hal:=hc.2.1
   have htk4:=take4 hr4
   generalize hw:a++(r++[48,48,48,48]).take 4=w at *
   have hwl:w.length=a.length+4:=by rw [<- hw,htk4];simp;omega
   have hwd:w.all isDg=true:=by
    rw [<- hw,htk4,List.all_append,List.all_append,halldg,hrd]
    simp [List.all_replicate,isDg]
   have hsz:=ba_size w
   have l4:((r++[48,48,48,48]).take 4).length=4:=by rw [htk4,List.length_append,List.length_replicate];omega
   refine ⟨by omega,by omega,by simp;omega,by omega,by simp;omega,by omega, ?_⟩
   refine ⟨fun m v i h' => ∃ k,k<=w.length/\m=w.length-k/\i=(k:Int)/\v=(dgV (w.take k):Int)/\h=h', ⟨w.length,0,by omega,by omega,rfl,rfl,rfl⟩, ?_⟩
   rintro m _ _ _ ⟨k,hk,rfl,rfl,rfl,rfl⟩
   refine Br.mk (fun q=> ?_) (fun q=>⟨?_,rfl⟩)
   ·have hlt:k<w.length:=by have:=of_decide_eq_true q;omega
    obtain ⟨x,hx⟩ : ∃ x,w[k]?=some x:=⟨_,List.getElem?_eq_getElem hlt⟩
    have hxd:=isDg_iff.1 (List.all_eq_true.1 hwd x (List.mem_of_getElem? hx))
    have hb:=dgV_bound (l:=w.take k) (k:=13) (List.all_eq_true.2 fun y hy=>List.all_eq_true.1 hwd y (List.mem_of_mem_take hy)) (by rw [List.length_take];omega)
    rintro _ rfl
    refine ⟨x,by omega,by rw [Int.toNat_natCast,ba_get];exact hx, ?_⟩
    rintro _ rfl _ rfl _ rfl
    have w1:IntKind.i64.wrap (10*(dgV (w.take k):Int))=10*(dgV (w.take k):Int):=wrap_i64 (by omega) (by omega)
    have w2:IntKind.u8.wrap ((x.toNat:Int)-48)=((x.toNat-48:Nat):Int):=by rw [IntKind.wrap_u8];omega
    have w3:IntKind.i64.wrap ((x.toNat-48:Nat):Int)=((x.toNat-48:Nat):Int):=wrap_i64 (by omega) (by omega)
    rw [w1,w2,w3,wrap_i64 (by omega) (by omega)]
    refine ⟨w.length-(k+1),by omega,k+1,by omega,rfl,wi (by omega) (by omega), ?_,rfl⟩
    rw [List.take_add_one,hx]
    simp only [Option.toList_some]
    rw [dgV_snoc]
    omega
   ·have hk' : k=w.length:=by have:=of_decide_eq_false q;omega
    rw [hk', List.take_length]
  ·refine Br.mk (fun q=> ?_) (fun q=>⟨rfl,[],rfl,by simp,rfl, ?_⟩)
   ·have hlt:a.length<l.length:=by have:=of_decide_eq_true q;omega
    obtain ⟨x,hx⟩ : ∃ x,l[a.length]?=some x:=⟨_,List.getElem?_eq_getElem hlt⟩
    rw [if_pos hlt]
    rintro _ rfl
    have w1:IntKind.i64.wrap ((a.length:Int)+1)=((a.length+1:Nat):Int):=wi (by omega) (by omega)
    have e2:(⟨l.toArray⟩:ByteArray).extract (Int.toNat ((a.length+1:Nat):Int)) l.length=⟨(l.drop (a.length+1)).toArray⟩:=by rw [Int.toNat_natCast,ba_ext,List.take_length]
    rw [w1,e2,cnil,bytes_toList,bytes_toList,ba_size]
    generalize hR:l.drop (a.length+1)=r at *
    have hrl:r.length<=1000000:=by rw [<- hR,List.length_drop];omega
    refine ⟨by omega,by omega,x,by omega,by rw [Int.toNat_natCast,ba_get];exact hx, ?_⟩
    have no : ¬ (l[a.length]?=some 46/\r≠[]/\r.length<=4/\r.all isDg=true)->(Value.tuple #[.int .i64 0,.bool false]=Value.tuple #[.int .i64 (((if l[a.length]?=some 46/\r≠[]/\r.length<=4/\r.all isDg=true then some (dgV (a++(r++[48,48,48,48]).take 4)) else none):Option Nat).getD 0:Nat),.bool ((if l[a.length]?=some 46/\r≠[]/\r.length<=4/\r.all isDg=true then some (dgV (a++(r++[48,48,48,48]).take 4)) else none):Option Nat).isSome]):=fun hn=>by rw [if_neg hn];rfl
    refine Br.mk (fun q2=>⟨no ?_,rfl⟩) (fun q2=>Br.mk (fun q3=>⟨no ?_,rfl⟩) (fun q3=>Br.mk (fun q4=>⟨no ?_,rfl⟩) (fun q4=> ?_)))
    ·rintro ⟨h1,_⟩
     rw [hx] at h1
     cases h1
     exact absurd q2 (by decide)
    ·rintro ⟨_,h1,_⟩
     exact h1 (by simpa using q3)
    ·rintro ⟨_,_,h1,_⟩
     have:=of_decide_eq_true q4
     omega
    ·have hx46:x=46:=by
      apply UInt8.toNat_inj.1
      rw [bne_eq_false_iff_eq] at q2
      have:(46:UInt8).toNat=46:=rfl
      omega
     have hr0:r≠[]:=by simpa using q3
     have hr4:r.length<=4:=by have:=of_decide_eq_false q4;omega
     refine (rDigits_c r hrl h).mono ?_
     rintro _ _ ⟨rfl,rfl⟩
     have htr:=tw_le r isDg
     refine ⟨_,rfl,Br.mk (fun q5=>⟨no ?_,rfl⟩) (fun q5=>⟨rfl,r,rfl,hr4, ?_, ?_⟩)⟩
     ·rintro ⟨_,_,_,h1⟩
      have:=of_decide_eq_true q5
      rw [tw_self fun x hx=>List.all_eq_true.1 h1 x hx] at this
      omega
     ·have h5:=of_decide_eq_false q5
      have h6:r.takeWhile isDg=r:=by rw [<- tw_take,List.take_of_length_le (by omega)]
      rw [<- h6]
      exact List.all_takeWhile
     ·have h5:=of_decide_eq_false q5
      have h6:r.takeWhile isDg=r:=by rw [<- tw_take,List.take_of_length_le (by omega)]
      have h7:r.all isDg=true:=by
       rw [<- h6]
       exact List.all_takeWhile
      rw [if_pos ⟨by rw [hx,hx46],hr0,hr4,h7⟩]
   ·have hge : ¬ a.length<l.length:=by have:=of_decide_eq_false q;omega
    rw [if_neg hge]
    rfl
 ·have no : ¬ (1<=a.length/\a.length<=9/\ ¬ (1<a.length/\l.head?=some 48))-> ∀ X:Option Nat,(Value.tuple #[.int .i64 0,.bool false]=Value.tuple #[.int .i64 ((if 1<=a.length/\a.length<=9/\ ¬ (1<a.length/\l.head?=some 48) then X else none).getD 0:Nat),.bool (if 1<=a.length/\a.length<=9/\ ¬ (1<a.length/\l.head?=some 48) then X else none).isSome]):=fun hn X=>by rw [if_neg hn];rfl
  refine Br.mk (fun q=>⟨no ?_ _,rfl⟩) (fun q=>Br.mk (fun q2=>⟨no ?_ _,rfl⟩) (fun q2=>Br.mk (fun q3=> ?_) (fun q3=> ?_)))
  ·have:=of_decide_eq_true q
   omega
  ·have:=of_decide_eq_true q2
   omega
  ·have h1:=of_decide_eq_false q
   have h2:=of_decide_eq_false q2
   have h3:=of_decide_eq_true q3
   obtain ⟨x,hx⟩ : ∃ x,l[0]?=some x:=⟨_,List.getElem?_eq_getElem (by omega)⟩
   have hh:l.head?=some x:=by rw [List.head?_eq_getElem?];exact hx
   refine ⟨x,by omega,by rw [ba_get];exact hx,Br.mk (fun q4=>⟨no ?_ _,rfl⟩) (fun q4=>⟨rfl,by omega,by omega, ?_⟩)⟩
   ·rintro ⟨_,_,h4⟩
    refine h4 ⟨by omega, ?_⟩
    have:x=48:=by
     apply UInt8.toNat_inj.1
     have h5:=beq_iff_eq.1 q4
     have:(48:UInt8).toNat=48:=rfl
     omega
    rw [hh,this]
   ·rintro ⟨_,h4⟩
    rw [hh] at h4
    cases h4
    exact absurd q4 (by decide)
  ·have h1:=of_decide_eq_false q
   have h2:=of_decide_eq_false q2
   have h3:=of_decide_eq_false q3
   exact ⟨rfl,by omega,by omega,by omega⟩
theorem rSplit_c (l:List UInt8) (hl:l.length<=1000) (h:Heap):CallsU Tryz.prog 168 [sv l] h fun r h' => ∃ A n c,r = .slice A n c/\OwnE sv 9 h h' A n c (tks l)/\Le h h' := by
 apply ref17_split_ok
 unfold ref17_split_vc
 rw [ba_size]
 refine ⟨fun m A n c i h' => ∃ k gs,k<=l.length/\m=l.length-k/\i=(k:Int)/\OwnE sv 9 h h' A n c gs/\Le h h' /\ gs++tks (l.drop k)=tks l/\gs.length<=k,⟨l.length,0,[],by omega,by omega,rfl,OwnE.start,Le.refl _,by simp,by simp⟩, ?_⟩
 rintro m A n c _ h1 ⟨k,gs,hk,rfl,rfl,own,hle,hgs,hgl⟩
 refine Br.mk (fun q=> ?_) (fun q=> ?_)
 ·have hlt:k<l.length:=by have:=of_decide_eq_true q;omega
  obtain ⟨x,hx⟩ : ∃ x,l[k]?=some x:=⟨_,List.getElem?_eq_getElem hlt⟩
  have hdr:l.drop k=x::l.drop (k+1):=by
   rw [List.drop_eq_getElem_cons hlt]
   rw [List.getElem?_eq_getElem hlt] at hx
   rw [Option.some.inj hx]
  rintro _ rfl
  have w1:IntKind.i64.wrap ((k:Int)+1)=((k+1:Nat):Int):=wi (by omega) (by omega)
  rw [w1]
  have x32:((x.toNat:Int) != 32)=(x != 32):=by
   rw [Bool.eq_iff_iff,bne_iff_ne,bne_iff_ne]
   constructor
   ·intro h1 h2;subst h2;exact h1 rfl
   ·intro h1 h2;exact h1 (UInt8.toNat_inj.1 (by have:(32:UInt8).toNat=32:=rfl;omega))
  refine ⟨fun e h' => h1=h' /\ ∃ j:Nat,e=(j:Int)/\k<j/\j<=l.length/\(if nd x then (l.drop k).takeWhile nd=(l.drop k).take (j-k) else j=k+1), ?_, ?_⟩
  ·rintro _ _ ⟨rfl,j,rfl,hkj,hjl,hj⟩
   refine ⟨x,by omega,by rw [Int.toNat_natCast,ba_get];exact hx, ?_⟩
   rw [x32]
   have hsplit:(l.take j).drop k++l.drop j=l.drop k:=by
    rw [<- List.drop_append_of_le_length (by rw [List.length_take];omega),List.take_append_drop]
   have hw:(l.take j).drop k=(l.drop k).take (j-k):=by rw [List.drop_take]
   refine Br.mk (fun q2=> ?_) (fun q2=> ?_)
   ·have hx2:x≠32:=by simpa using q2
    have htok:tks (l.drop k)=(l.take j).drop k::tks (l.drop j):=by
     by_cases hn:nd x=true
     ·rw [if_pos hn] at hj
      rw [<- hsplit]
      refine tks_word ?_ ?_ ?_
      ·rw [hw,<- hj,hdr,List.takeWhile_cons,if_pos hn]
       simp
      ·rw [hw,<- hj]
       exact fun y hy=>List.all_eq_true.1 List.all_takeWhile y hy
      ·intro y hy
       have h5:=tw_drop (l.drop k) nd
       rw [hj,List.length_take,List.length_drop,Nat.min_eq_left (by omega),List.drop_drop,show k+(j-k)=j by omega] at h5
       rw [h5] at hy
       have:=List.head?_dropWhile_not nd (l.drop k)
       rw [hy] at this
       simpa using this
     ·have hn' : nd x=false:=by simpa using hn
      rw [if_neg hn] at hj
      subst hj
      have e1:(l.take (k+1)).drop k=[x]:=by rw [hw,hdr];simp
      rw [e1,hdr]
      exact tks_sign hn' hx2
    have hex:(⟨l.toArray⟩:ByteArray).extract (Int.toNat (k:Int)) (Int.toNat (j:Int))=⟨((l.take j).drop k).toArray⟩:=by rw [Int.toNat_natCast,Int.toNat_natCast,ba_ext]
    rw [hex]
    refine ⟨by omega,by omega,by omega,by rw [Int.toNat_natCast];omega, ?_⟩
    rintro g _ hg rfl
    have hnl:=own.1
    refine OwnE.app (x:=(l.take j).drop k) (z:=[]) (K:=fun A' c' h' => ∃ m_1,m_1<l.length-k/\ ∃ k' gs', k' <= l.length/\m_1=l.length-k' /\ (j:Int)=(k' : Int)/\OwnE sv 9 h h' A' (n+1) c' gs' /\ Le h h' /\ gs' ++ tks (l.drop k')=tks l/\gs'.length<=k') own hle (fun _=>rfl) rfl rfl hg (by omega) (fun A' c' h' o l' _=> ?_)
    refine ⟨l.length-j,by omega,j,_,hjl,rfl,rfl,o,l', ?_, ?_⟩
    ·rw [List.append_assoc,List.singleton_append,<- htok]
     exact hgs
    ·rw [List.length_append,List.length_singleton]
     omega
   ·have hx2:x=32:=by simpa using q2
    subst hx2
    rw [if_neg (by decide)] at hj
    subst hj
    refine ⟨l.length-(k+1),by omega,k+1,gs,by omega,rfl,rfl,own,hle, ?_,by omega⟩
    rw [<- hgs,hdr,tks_sp]
  ·refine ⟨fun m e h' => h1=h' /\ ∃ j:Nat,e=(j:Int)/\k<j/\j<=l.length/\m=l.length-j/\((l.drop k).take (j-k)).all (fun y=>nd y||decide (j=k+1))=true,⟨l.length-(k+1),rfl,k+1,rfl,by omega,by omega,rfl,by simp⟩, ?_⟩
   rintro m2 _ _ ⟨rfl,j,rfl,hkj,hjl,rfl,hall⟩
   refine ⟨x,by omega,by rw [Int.toNat_natCast,ba_get];exact hx,(rSign_c x h1).mono ?_⟩
   rintro _ _ ⟨rfl,rfl⟩
   have stop:nd x=false->j=k+1/\(if nd x then (l.drop k).takeWhile nd=(l.drop k).take (j-k) else j=k+1):=fun hn=>by
    have:j=k+1:=by
     rw [hdr,List.all_eq_true] at hall
     have:=hall x (by rw [show j-k=(j-k-1)+1 by omega,List.take_succ_cons];simp)
     rw [hn] at this
     simpa using this
    rw [hn,if_neg (by decide)]
    exact ⟨this,this⟩
   refine ⟨_,rfl,Br.mk (fun q2=> ?_) (fun q2=> ?_)⟩
   ·refine ⟨x,by omega,by rw [Int.toNat_natCast,ba_get];exact hx, ?_⟩
    rw [x32]
    refine Br.mk (fun q3=> ?_) (fun q3=> ?_)
    ·have hx2:x≠32:=by simpa using q3
     have hn:nd x=true:=by
      have h5:(!nd x&&x != 32)=false:=by rw [Bool.not_eq_true'] at q2;exact q2
      rw [q3,Bool.and_true,Bool.not_eq_false'] at h5
      exact h5
     have hall2:((l.drop k).take (j-k)).all nd=true:=by
      rw [List.all_eq_true] at hall ⊢
      intro y hy
      have:=hall y hy
      by_cases hj1:j=k+1
      ·subst hj1
       rw [hdr] at hy
       have e5:(x::l.drop (k+1)).take (k+1-k)=[x]:=by rw [show k+1-k=1 by omega];rfl
       rw [e5,List.mem_singleton] at hy
       rw [hy];exact hn
      ·simpa [hj1] using this
     have fin:(∀ y,(l.drop k)[j-k]?=some y->nd y=false)->(if nd x then (l.drop k).takeWhile nd=(l.drop k).take (j-k) else j=k+1):=fun hstop=>by
      rw [if_pos hn]
      exact tw_at (by rw [List.length_drop];omega) hall2 hstop
     refine Br.mk (fun q4=> ?_) (fun q4=>⟨rfl,j,rfl,hkj,hjl,fin fun y hy=> ?_⟩)
     ·have hjlt:j<l.length:=by have:=of_decide_eq_true q4;omega
      obtain ⟨y,hy⟩ : ∃ y,l[j]?=some y:=⟨_,List.getElem?_eq_getElem hjlt⟩
      have hyk:(l.drop k)[j-k]?=some y:=by rw [List.getElem?_drop,show k+(j-k)=j by omega];exact hy
      have y32:((y.toNat:Int) != 32)=(y != 32):=by
       rw [Bool.eq_iff_iff,bne_iff_ne,bne_iff_ne]
       constructor
       ·intro h1 h2;subst h2;exact h1 rfl
       ·intro h1 h2;exact h1 (UInt8.toNat_inj.1 (by have:(32:UInt8).toNat=32:=rfl;omega))
      have hnot : ∀ {z:UInt8},nd y=false->(l.drop k)[j-k]?=some z->nd z=false:=fun hn2 hz=>by rw [hyk] at hz;cases hz;exact hn2
      refine ⟨y,by omega,by rw [Int.toNat_natCast,ba_get];exact hy,(rSign_c y h1).mono ?_⟩
      rintro _ _ ⟨rfl,rfl⟩
      refine ⟨_,rfl,Br.mk (fun q5=> ?_) (fun q5=>⟨rfl,j,rfl,hkj,hjl,fin fun z hz=>hnot ?_ hz⟩)⟩
      ·refine ⟨y,by omega,by rw [Int.toNat_natCast,ba_get];exact hy, ?_⟩
       rw [y32]
       refine Br.mk (fun q6=> ?_) (fun q6=>⟨rfl,j,rfl,hkj,hjl,fin fun z hz=>hnot ?_ hz⟩)
       ·have hny:nd y=true:=by
         have h5:(!nd y&&y != 32)=false:=by rw [Bool.not_eq_true'] at q5;exact q5
         rw [q6,Bool.and_true,Bool.not_eq_false'] at h5
         exact h5
        rintro _ rfl
        refine ⟨l.length-(j+1),by omega,rfl,j+1,wi (by omega) (by omega),by omega,by omega,rfl, ?_⟩
        rw [show j+1-k=(j-k)+1 by omega,List.take_add_one,hyk,List.all_append]
        have:((l.drop k).take (j-k)).all (fun y=>nd y||decide (j+1=k+1))=true:=by
         rw [List.all_eq_true] at hall2 ⊢
         intro z hz
         rw [hall2 z hz];rfl
        rw [this]
        simp [hny]
       ·have:y=32:=by simpa using q6
        subst this;decide
      ·have h5:(!nd y&&y != 32)=true:=by simpa using q5
       rw [Bool.and_eq_true,Bool.not_eq_true'] at h5
       exact h5.1
     ·have:l.length<=j:=by have:=of_decide_eq_false q4;omega
      rw [List.getElem?_eq_none (by rw [List.length_drop];omega)] at hy
      cases hy
    ·have hx2:x=32:=by simpa using q3
     have hn:nd x=false:=by rw [hx2];decide
     exact ⟨rfl,j,rfl,hkj,hjl,(stop hn).2⟩
   ·have h5:(!nd x&&x != 32)=true:=by simpa using q2
    rw [Bool.and_eq_true,Bool.not_eq_true'] at h5
    exact ⟨rfl,j,rfl,hkj,hjl,(stop h5.1).2⟩
 ·have hk' : k=l.length:=by have:=of_decide_eq_false q;omega
  subst hk'
  rw [List.drop_length,tks_empty,List.append_nil] at hgs
  subst hgs
  exact ⟨A,n,c,rfl,own,hle⟩
def Shp (r:Value):Prop:= ∃ (k:Int) (s:Bool) (A:Option Addr) (n c:Nat) (B:Option Addr) (m d:Nat) (nm:List UInt8) (K:Option Addr) (kn kc:Nat),r = .agg (cellsE k s A n c B m d nm K kn kc).toArray
theorem Shp.of {h:Heap} {x:Ex} {vs:List Value} (u:IsE h x vs):Shp (.agg vs.toArray):=by
 obtain ⟨s,A,c,B,d,K,kc,rfl,_⟩:=u.open
 exact ⟨_,_,_,_,_,_,_,_,_,_,_,_,rfl⟩
def GR (S:Option Addr×Nat) (o:RT) (T:List (List UInt8)) (g a:Nat) (h:Heap) (r:Value) (h' : Heap):Prop:=
 Le (hole h g) (hole h' g)/\match o with
  | .ok (x,ts)=> ∃ (vs:List Value) (a' : Nat),r = .agg vs.toArray/\IsE (hole h' g) x vs/\Szs x/\Rdr S h' g T a' 0/\a<=a' /\ a' <= T.length/\T.drop a' = ts
  | .error er=>er≠0/\Shp r/\ ∃ a' : Nat,Rdr S h' g T a' er/\a' + 2*a<=3*T.length+2
def ROk (f:FuncId) (args:Nat->List Value) (o:List (List UInt8)->RT):Prop:=
 ∀ {S:Option Addr×Nat} {h:Heap} {g:Nat} {T:List (List UInt8)} {a:Nat},Rdr S h g T a 0->a<=T.length->T.length<=400->(∀ t∈T,t≠[]/\t.length<=400)->o (T.drop a) ≠ .error 99->CallsU Tryz.prog f (args g) h (GR S (o (T.drop a)) T g a h)
def RErr (f:FuncId) (args:Nat->List Value):Prop:=
 ∀ {S:Option Addr×Nat} {h:Heap} {g:Nat} {T:List (List UInt8)} {a:Nat} {e:Int},Rdr S h g T a e->e≠0->CallsU Tryz.prog f (args g) h fun r h' => Shp r/\Rdr S h' g T a e/\hole h' g=hole h g
theorem nxt_err (T:List (List UInt8)) (a:Nat) {e:Int} (h:e≠0):nxtV T a e=[]:=if_neg h
theorem nxt_ok (T:List (List UInt8)) (a:Nat):nxtV T a 0=hdT (T.drop a):=if_pos rfl
theorem wrg_err (T:List (List UInt8)) (a:Nat) {e:Int} (h:e≠0):wrgV T a e=e:=if_neg h
theorem hd_lt {T:List (List UInt8)} {a:Nat} (h:hdT (T.drop a)≠[]):a<T.length:=by
 rcases Nat.lt_or_ge a T.length with q | q
 ·exact q
 ·rw [List.drop_eq_nil_of_le q] at h;exact absurd rfl h
theorem drop_tail {T:List (List UInt8)} {a:Nat}:T.drop (a+1)=(T.drop a).tail:=by rw [List.tail_drop]
theorem Rdr.put {S:Option Addr×Nat} {h:Heap} {g k:Nat} {T:List (List UInt8)} {a:Nat} {e:Int} (u:Rdr S h g T a e) (hk:h k=none) (b:Blk):Rdr S (h.put k b) g T a e/\k≠g/\hole h g k=none/\hole (h.put k b) g=(hole h g).put k b:=by
 obtain ⟨ty,hs,hb⟩:=u
 have hne:k≠g:=fun q=>by rw [q,hb] at hk;cases hk
 have hn:hole h g k=none:=by rw [hole_ne _ hne];exact hk
 refine ⟨⟨ty, ?_,by rw [Heap.put_ne _ _ (fun q=>hne q.symm)];exact hb⟩,hne,hn,hole_put_ne _ _ hne⟩
 rw [hole_put_ne _ _ hne]
 exact hs.mono (Le.new hn _)
theorem rproduct_err (ih:RErr 257 ptr):RErr 226 ptr:=by
 intro S h g T a e u he
 apply garment_ref17_reader_product_ok
 unfold garment_ref17_reader_product_vc
 simp only [and_true,and_self]
 refine (ih u he).mono ?_
 rintro _ h1 ⟨⟨k,s,A,n,c,B,m,d,nm,K,kn,kc,rfl⟩,u1,ho1⟩
 refine ⟨_,_,_,_,_,_,_,_,_,_,_,_,rfl,fun m0 _ _ _ _ _ _ _ _ _ _ _ _ h' => h' = h1,⟨0,rfl⟩, ?_⟩
 rintro m0 e0 e1 e2A e2n e2c e3A e3n e3c e4 e5A e5n e5c _ rfl
 refine ⟨fun _=>False,fun _ q=>q.elim,(rNext_c u1).mono ?_⟩
 rintro _ _ ⟨rfl,rfl⟩
 have b1:(⟨#[42]⟩:ByteArray).toList=[42]:=bytes_toList _
 have b2:(⟨#[47]⟩:ByteArray).toList=[47]:=bytes_toList _
 refine ⟨_,rfl, ?_⟩
 rw [nxt_err _ _ he,bytes_toList,b1,b2]
 refine Br.mk (fun q=>by exact absurd q (by decide)) (fun _=>(rNext_c u1).mono ?_)
 rintro _ _ ⟨rfl,rfl⟩
 refine ⟨_,rfl, ?_⟩
 rw [nxt_err _ _ he,bytes_toList]
 refine Br.mk (fun q=>by exact absurd q (by decide)) (fun _=>⟨?_,u1,ho1⟩)
 exact ⟨e0,e1,e2A,e2n,e2c,e3A,e3n,e3c,e4.data.toList,e5A,e5n,e5c,rfl⟩
theorem rproduct_step {n:Nat} (ihE:RErr 257 ptr) (ih : ∀ k,k<=n->ROk 257 ptr (qFac k)):ROk 226 ptr (qProd (n+1)):=by
 intro S h g T a u ha hT hTl hne
 generalize hX:qProd (n+1) (T.drop a)=X at hne ⊢
 rw [qProd] at hX
 apply garment_ref17_reader_product_ok
 unfold garment_ref17_reader_product_vc
 simp only [and_true,and_self]
 have b1:(⟨#[42]⟩:ByteArray).toList=[42]:=bytes_toList _
 have b2:(⟨#[47]⟩:ByteArray).toList=[47]:=bytes_toList _
 have out : ∀ {h2:Heap} {er:Int} {a2:Nat} (e0:Int) (e1:Bool) (e2A:Option Addr) (e2n e2c:Nat) (e3A:Option Addr) (e3n e3c:Nat) (e4:ByteArray) (e5A:Option Addr) (e5n e5c:Nat),X = .error er->er≠0->Rdr S h2 g T a2 er->a2+2*a<=3*T.length+2->Le (hole h g) (hole h2 g)->
   GR S X T g a h (Value.agg #[Value.int .i64 e0,Value.bool e1,Value.slice e2A e2n e2c,Value.slice e3A e3n e3c,Value.string e4,Value.slice e5A e5n e5c]) h2:=by
  intro h2 er a2 e0 e1 e2A e2n e2c e3A e3n e3c e4 e5A e5n e5c hX he u2 hb hle
  rw [hX]
  exact ⟨hle,he,⟨e0,e1,e2A,e2n,e2c,e3A,e3n,e3c,e4.data.toList,e5A,e5n,e5c,rfl⟩,a2,u2,hb⟩
 have hsub:=ih n (Nat.le_refl _) (T:=T) (a:=a) u ha hT hTl (fun q=>by rw [q] at hX;exact hne hX.symm)
 refine hsub.mono ?_
 intro v h1 hG
 have start : ∃ k s A nn c B m d nm K kn kc,v = .agg (cellsE k s A nn c B m d nm K kn kc).toArray/\Le (hole h g) (hole h1 g)/\
   ((∃ er a', X = .error er/\er≠0/\Rdr S h1 g T a' er/\a' + 2*a<=3*T.length+2)\/ ∃ x a', qProdL n x (T.drop a')=X/\IsE (hole h1 g) x (cellsE k s A nn c B m d nm K kn kc)/\Szs x/\Rdr S h1 g T a' 0/\a<=a' /\ a' <= T.length):=by
  obtain ⟨hle,hG⟩:=hG
  cases ho:qFac n (T.drop a) with
  | error er=>
   rw [ho] at hG hX
   obtain ⟨he,⟨k,s,A,nn,c,B,m,d,nm,K,kn,kc,rfl⟩,a', u', hb⟩:=hG
   exact ⟨k,s,A,nn,c,B,m,d,nm,K,kn,kc,rfl,hle,Or.inl ⟨er,a', hX.symm,he,u', hb⟩⟩
  | ok p=>
   obtain ⟨x,ts⟩:=p
   rw [ho] at hG hX
   obtain ⟨vs,a', rfl,ux,zx,u', h3,h4,h5⟩:=hG
   have ux' := ux
   obtain ⟨s,A,c,B,d,K,kc,rfl,_⟩:=ux'.open
   exact ⟨_,_,_,_,_,_,_,_,_,_,_,_,rfl,hle,Or.inr ⟨x,a', by rw [h5];exact hX,ux,zx,u', h3,h4⟩⟩
 obtain ⟨k0,s0,A0,n0,c0,B0,m0,d0,nm0,K0,kn0,kc0,rfl,hle1,hcase⟩:=start
 refine ⟨_,_,_,_,_,_,_,_,_,_,_,_,rfl,fun m e0 e1 e2A e2n e2c e3A e3n e3c e4 e5A e5n e5c h' => Le (hole h g) (hole h' g)/\
   ((∃ er a', X = .error er/\er≠0/\Rdr S h' g T a' er/\a' + 2*a<=3*T.length+2)\/(m<=n/\ ∃ x a', qProdL m x (T.drop a')=X/\IsE (hole h' g) x [.int .i64 e0,.bool e1,.slice e2A e2n e2c,.slice e3A e3n e3c,.string e4,.slice e5A e5n e5c]/\Szs x/\Rdr S h' g T a' 0/\a<=a' /\ a' <= T.length)),⟨n,hle1,hcase.imp id fun q=>⟨Nat.le_refl _,q⟩⟩, ?_⟩
 rintro m e0 e1 e2A e2n e2c e3A e3n e3c e4 e5A e5n e5c h2 ⟨hle2,hcase2⟩
 rcases hcase2 with ⟨er,a', hXe,he,u2,hb⟩ | ⟨hm,x,a', hy,ux,zx,u2,ha1,ha2⟩
 ·refine ⟨fun _=>False,fun _ q=>q.elim,(rNext_c u2).mono ?_⟩
  rintro _ _ ⟨rfl,rfl⟩
  refine ⟨_,rfl, ?_⟩
  rw [nxt_err _ _ he,bytes_toList,b1,b2]
  refine Br.mk (fun q=>by exact absurd q (by decide)) (fun _=>(rNext_c u2).mono ?_)
  rintro _ _ ⟨rfl,rfl⟩
  refine ⟨_,rfl, ?_⟩
  rw [nxt_err _ _ he,bytes_toList]
  exact Br.mk (fun q=>by exact absurd q (by decide)) (fun _=>out _ _ _ _ _ _ _ _ _ _ _ _ hXe he u2 hb hle2)
 ·cases m with
  | zero=>rw [qProdL] at hy;exact absurd hy.symm hne
  | succ m=>
   rw [qProdL] at hy
   generalize hts:T.drop a' = ts at *
   have htl:T.drop (a' + 1)=ts.tail:=by rw [drop_tail,hts]
   have go : ∀ kd:Int,hdT ts≠[]->(match qFac m ts.tail with | .error e=> .error e | .ok (z,r')=>qProdL m (op2 kd x z) r' : RT)=X-> ∀ {h5:Heap},Rdr S h5 g T (a' + 1) 0->hole h5 g=hole h2 g->
     CallsU Tryz.prog 257 (ptr g) h5 fun v_1 h_6=>
     ∃ t28_0:Int,∃ t28_1:Bool,∃ t28_2A:Option Addr,∃ t28_2n t28_2c:Nat,∃ t28_3A:Option Addr,∃ t28_3n t28_3c:Nat,∃ t28_4:ByteArray,∃ t28_5A:Option Addr,∃ t28_5n t28_5c:Nat,v_1=Value.agg #[Value.int .i64 t28_0,Value.bool t28_1,Value.slice t28_2A t28_2n t28_2c,Value.slice t28_3A t28_3n t28_3c,Value.string t28_4,Value.slice t28_5A t28_5n t28_5c]/\
     ∀ (g_1:Nat) (h_7:Heap),h_6 g_1=none->h_7=Heap.put h_6 g_1 ⟨[Value.int .i64 e0,Value.bool e1,Value.slice e2A e2n e2c,Value.slice e3A e3n e3c,Value.string e4,Value.slice e5A e5n e5c,Value.int .i64 t28_0,Value.bool t28_1,Value.slice t28_2A t28_2n t28_2c,Value.slice t28_3A t28_3n t28_3c,Value.string t28_4,Value.slice t28_5A t28_5n t28_5c],39,(0,0)⟩->
     ∃ m_1,m_1<m+1/\(Le (hole h g) (hole h_7 g)/\
      ((∃ er a', X = .error er/\er≠0/\Rdr S h_7 g T a' er/\a' + 2*a<=3*T.length+2)\/(m_1<=n/\ ∃ x a', qProdL m_1 x (T.drop a')=X/\IsE (hole h_7 g) x [.int .i64 kd,.bool false,.slice none 0 0,.slice none 0 0,.string ByteArray.empty,.slice (some ⟨g_1,0,none⟩) 2 2]/\Szs x/\Rdr S h_7 g T a' 0/\a<=a' /\ a' <= T.length))):=by
    intro kd hh heq h5 u5 ho5
    have hlt:a' < T.length:=hd_lt (by rw [hts];exact hh)
    have hs2:=ih m (by omega) (T:=T) (a:=a' + 1) u5 (by omega) hT hTl (fun q=>by
     rw [htl] at q
     rw [q] at heq
     exact hne heq.symm)
    rw [htl] at hs2
    refine hs2.mono ?_
    rintro _ h6 ⟨hle6,hG6⟩
    have hle26:Le (hole h2 g) (hole h6 g):=by rw [<- ho5];exact hle6
    cases ho6:qFac m ts.tail with
    | error er=>
     rw [ho6] at hG6 heq
     obtain ⟨he,⟨k,s,A,nn,c,B,mm,d,nm,K,kn,kc,rfl⟩,a6,u6,hb6⟩:=hG6
     refine ⟨_,_,_,_,_,_,_,_,_,_,_,_,rfl, ?_⟩
     rintro g1 _ hg1 rfl
     obtain ⟨u7,hgg,hn7,ho7⟩:=u6.put hg1 _
     refine ⟨m,by omega, ?_,Or.inl ⟨er,a6,heq.symm,he,u7,by omega⟩⟩
     rw [ho7]
     exact (hle2.trans hle26).trans (Le.new hn7 _)
    | ok p=>
     obtain ⟨z,r3⟩:=p
     rw [ho6] at hG6 heq
     obtain ⟨vs,a6,rfl,uz,zz,u6,h61,h62,h63⟩:=hG6
     have uz' := uz
     obtain ⟨s,A,c,B,d,K,kc,rfl,_⟩:=uz'.open
     refine ⟨_,_,_,_,_,_,_,_,_,_,_,_,rfl, ?_⟩
     rintro g1 _ hg1 rfl
     obtain ⟨u7,hgg,hn7,ho7⟩:=u6.put hg1 _
     refine ⟨m,by omega, ?_,Or.inr ⟨by omega,op2 kd x z,a6,by rw [h63];exact heq, ?_,Szs_two zx zz,u7,by omega,h62⟩⟩
     ·rw [ho7]
      exact (hle2.trans hle26).trans (Le.new hn7 _)
     ·rw [ho7]
      exact IsE_two hn7 (IsE.mono hle26 _ _ ux) uz
   refine ⟨fun h' => h2=h' /\ (hdT ts=[42]\/hdT ts=[47]), ?_,(rNext_c u2).mono ?_⟩
   ·rintro _ ⟨rfl,hor⟩
    refine ⟨fun kd h' => h2=h' /\ hdT ts≠[]/\(match qFac m ts.tail with | .error e=> .error e | .ok (z,r')=>qProdL m (op2 kd x z) r' : RT)=X, ?_,(rNext_c u2).mono ?_⟩
    ·rintro kd _ ⟨rfl,hh,heq⟩
     exact u2.step (by omega) fun h5 u5 ho5=>go kd hh heq u5 ho5
    ·rintro _ _ ⟨rfl,rfl⟩
     refine ⟨_,rfl, ?_⟩
     rw [nxt_ok,hts,bytes_toList,b2]
     refine Br.mk (fun q=> ?_) (fun q=> ?_)
     ·have e1:=beq_iff_eq.1 q
      have d1:([47]:List UInt8)≠[42]:=by decide
      rw [e1,if_neg d1,if_pos rfl] at hy
      exact ⟨rfl,by rw [e1];simp,hy⟩
     ·have e2:=beq_eq_false_iff_ne.1 q
      have e1:=hor.resolve_right e2
      rw [e1,if_pos rfl] at hy
      exact ⟨rfl,by rw [e1];simp,hy⟩
   ·rintro _ _ ⟨rfl,rfl⟩
    refine ⟨_,rfl, ?_⟩
    rw [nxt_ok,hts,bytes_toList,b1,b2]
    refine Br.mk (fun q=>⟨rfl,Or.inl (beq_iff_eq.1 q)⟩) (fun q=>(rNext_c u2).mono ?_)
    rintro _ _ ⟨rfl,rfl⟩
    refine ⟨_,rfl, ?_⟩
    rw [nxt_ok,hts,bytes_toList]
    refine Br.mk (fun q2=>⟨rfl,Or.inr (beq_iff_eq.1 q2)⟩) (fun q2=> ?_)
    rw [if_neg (beq_eq_false_iff_ne.1 q),if_neg (beq_eq_false_iff_ne.1 q2)] at hy
    rw [<- hy]
    exact ⟨hle2,_,a', rfl,ux,zx,u2,ha1,ha2,hts⟩
theorem rsum_err (ih:RErr 226 ptr):RErr 169 ptr:=by
 intro S h g T a e u he
 apply garment_ref17_reader_sum_ok
 unfold garment_ref17_reader_sum_vc
 simp only [and_true,and_self]
 refine (ih u he).mono ?_
 rintro _ h1 ⟨⟨k,s,A,n,c,B,m,d,nm,K,kn,kc,rfl⟩,u1,ho1⟩
 refine ⟨_,_,_,_,_,_,_,_,_,_,_,_,rfl,fun m0 _ _ _ _ _ _ _ _ _ _ _ _ h' => h' = h1,⟨0,rfl⟩, ?_⟩
 rintro m0 e0 e1 e2A e2n e2c e3A e3n e3c e4 e5A e5n e5c _ rfl
 refine ⟨fun _=>False,fun _ q=>q.elim,(rNext_c u1).mono ?_⟩
 rintro _ _ ⟨rfl,rfl⟩
 have b1:(⟨#[43]⟩:ByteArray).toList=[43]:=bytes_toList _
 have b2:(⟨#[45]⟩:ByteArray).toList=[45]:=bytes_toList _
 refine ⟨_,rfl, ?_⟩
 rw [nxt_err _ _ he,bytes_toList,b1,b2]
 refine Br.mk (fun q=>by exact absurd q (by decide)) (fun _=>(rNext_c u1).mono ?_)
 rintro _ _ ⟨rfl,rfl⟩
 refine ⟨_,rfl, ?_⟩
 rw [nxt_err _ _ he,bytes_toList]
 refine Br.mk (fun q=>by exact absurd q (by decide)) (fun _=>⟨?_,u1,ho1⟩)
 exact ⟨e0,e1,e2A,e2n,e2c,e3A,e3n,e3c,e4.data.toList,e5A,e5n,e5c,rfl⟩
theorem rsum_step {n:Nat} (ihE:RErr 226 ptr) (ih : ∀ k,k<=n->ROk 226 ptr (qProd k)):ROk 169 ptr (qSum (n+1)):=by
 intro S h g T a u ha hT hTl hne
 generalize hX:qSum (n+1) (T.drop a)=X at hne ⊢
 rw [qSum] at hX
 apply garment_ref17_reader_sum_ok
 unfold garment_ref17_reader_sum_vc
 simp only [and_true,and_self]
 have b1:(⟨#[43]⟩:ByteArray).toList=[43]:=bytes_toList _
 have b2:(⟨#[45]⟩:ByteArray).toList=[45]:=bytes_toList _
 have out : ∀ {h2:Heap} {er:Int} {a2:Nat} (e0:Int) (e1:Bool) (e2A:Option Addr) (e2n e2c:Nat) (e3A:Option Addr) (e3n e3c:Nat) (e4:ByteArray) (e5A:Option Addr) (e5n e5c:Nat),X = .error er->er≠0->Rdr S h2 g T a2 er->a2+2*a<=3*T.length+2->Le (hole h g) (hole h2 g)->
   GR S X T g a h (Value.agg #[Value.int .i64 e0,Value.bool e1,Value.slice e2A e2n e2c,Value.slice e3A e3n e3c,Value.string e4,Value.slice e5A e5n e5c]) h2:=by
  intro h2 er a2 e0 e1 e2A e2n e2c e3A e3n e3c e4 e5A e5n e5c hX he u2 hb hle
  rw [hX]
  exact ⟨hle,he,⟨e0,e1,e2A,e2n,e2c,e3A,e3n,e3c,e4.data.toList,e5A,e5n,e5c,rfl⟩,a2,u2,hb⟩
 have hsub:=ih n (Nat.le_refl _) (T:=T) (a:=a) u ha hT hTl (fun q=>by rw [q] at hX;exact hne hX.symm)
 refine hsub.mono ?_
 intro v h1 hG
 have start : ∃ k s A nn c B m d nm K kn kc,v = .agg (cellsE k s A nn c B m d nm K kn kc).toArray/\Le (hole h g) (hole h1 g)/\
   ((∃ er a', X = .error er/\er≠0/\Rdr S h1 g T a' er/\a' + 2*a<=3*T.length+2)\/ ∃ x a', qSumL n x (T.drop a')=X/\IsE (hole h1 g) x (cellsE k s A nn c B m d nm K kn kc)/\Szs x/\Rdr S h1 g T a' 0/\a<=a' /\ a' <= T.length):=by
  obtain ⟨hle,hG⟩:=hG
  cases ho:qProd n (T.drop a) with
  | error er=>
   rw [ho] at hG hX
   obtain ⟨he,⟨k,s,A,nn,c,B,m,d,nm,K,kn,kc,rfl⟩,a', u', hb⟩:=hG
   exact ⟨k,s,A,nn,c,B,m,d,nm,K,kn,kc,rfl,hle,Or.inl ⟨er,a', hX.symm,he,u', hb⟩⟩
  | ok p=>
   obtain ⟨x,ts⟩:=p
   rw [ho] at hG hX
   obtain ⟨vs,a', rfl,ux,zx,u', h3,h4,h5⟩:=hG
   have ux' := ux
   obtain ⟨s,A,c,B,d,K,kc,rfl,_⟩:=ux'.open
   exact ⟨_,_,_,_,_,_,_,_,_,_,_,_,rfl,hle,Or.inr ⟨x,a', by rw [h5];exact hX,ux,zx,u', h3,h4⟩⟩
 obtain ⟨k0,s0,A0,n0,c0,B0,m0,d0,nm0,K0,kn0,kc0,rfl,hle1,hcase⟩:=start
 refine ⟨_,_,_,_,_,_,_,_,_,_,_,_,rfl,fun m e0 e1 e2A e2n e2c e3A e3n e3c e4 e5A e5n e5c h' => Le (hole h g) (hole h' g)/\
   ((∃ er a', X = .error er/\er≠0/\Rdr S h' g T a' er/\a' + 2*a<=3*T.length+2)\/(m<=n/\ ∃ x a', qSumL m x (T.drop a')=X/\IsE (hole h' g) x [.int .i64 e0,.bool e1,.slice e2A e2n e2c,.slice e3A e3n e3c,.string e4,.slice e5A e5n e5c]/\Szs x/\Rdr S h' g T a' 0/\a<=a' /\ a' <= T.length)),⟨n,hle1,hcase.imp id fun q=>⟨Nat.le_refl _,q⟩⟩, ?_⟩
 rintro m e0 e1 e2A e2n e2c e3A e3n e3c e4 e5A e5n e5c h2 ⟨hle2,hcase2⟩
 rcases hcase2 with ⟨er,a', hXe,he,u2,hb⟩ | ⟨hm,x,a', hy,ux,zx,u2,ha1,ha2⟩
 ·refine ⟨fun _=>False,fun _ q=>q.elim,(rNext_c u2).mono ?_⟩
  rintro _ _ ⟨rfl,rfl⟩
  refine ⟨_,rfl, ?_⟩
  rw [nxt_err _ _ he,bytes_toList,b1,b2]
  refine Br.mk (fun q=>by exact absurd q (by decide)) (fun _=>(rNext_c u2).mono ?_)
  rintro _ _ ⟨rfl,rfl⟩
  refine ⟨_,rfl, ?_⟩
  rw [nxt_err _ _ he,bytes_toList]
  exact Br.mk (fun q=>by exact absurd q (by decide)) (fun _=>out _ _ _ _ _ _ _ _ _ _ _ _ hXe he u2 hb hle2)
 ·cases m with
  | zero=>rw [qSumL] at hy;exact absurd hy.symm hne
  | succ m=>
   rw [qSumL] at hy
   generalize hts:T.drop a' = ts at *
   have htl:T.drop (a' + 1)=ts.tail:=by rw [drop_tail,hts]
   have go : ∀ kd:Int,hdT ts≠[]->(match qProd m ts.tail with | .error e=> .error e | .ok (z,r')=>qSumL m (op2 kd x z) r' : RT)=X-> ∀ {h5:Heap},Rdr S h5 g T (a' + 1) 0->hole h5 g=hole h2 g->
     CallsU Tryz.prog 226 (ptr g) h5 fun v_1 h_6=>
     ∃ t28_0:Int,∃ t28_1:Bool,∃ t28_2A:Option Addr,∃ t28_2n t28_2c:Nat,∃ t28_3A:Option Addr,∃ t28_3n t28_3c:Nat,∃ t28_4:ByteArray,∃ t28_5A:Option Addr,∃ t28_5n t28_5c:Nat,v_1=Value.agg #[Value.int .i64 t28_0,Value.bool t28_1,Value.slice t28_2A t28_2n t28_2c,Value.slice t28_3A t28_3n t28_3c,Value.string t28_4,Value.slice t28_5A t28_5n t28_5c]/\
     ∀ (g_1:Nat) (h_7:Heap),h_6 g_1=none->h_7=Heap.put h_6 g_1 ⟨[Value.int .i64 e0,Value.bool e1,Value.slice e2A e2n e2c,Value.slice e3A e3n e3c,Value.string e4,Value.slice e5A e5n e5c,Value.int .i64 t28_0,Value.bool t28_1,Value.slice t28_2A t28_2n t28_2c,Value.slice t28_3A t28_3n t28_3c,Value.string t28_4,Value.slice t28_5A t28_5n t28_5c],39,(0,0)⟩->
     ∃ m_1,m_1<m+1/\(Le (hole h g) (hole h_7 g)/\
      ((∃ er a', X = .error er/\er≠0/\Rdr S h_7 g T a' er/\a' + 2*a<=3*T.length+2)\/(m_1<=n/\ ∃ x a', qSumL m_1 x (T.drop a')=X/\IsE (hole h_7 g) x [.int .i64 kd,.bool false,.slice none 0 0,.slice none 0 0,.string ByteArray.empty,.slice (some ⟨g_1,0,none⟩) 2 2]/\Szs x/\Rdr S h_7 g T a' 0/\a<=a' /\ a' <= T.length))):=by
    intro kd hh heq h5 u5 ho5
    have hlt:a' < T.length:=hd_lt (by rw [hts];exact hh)
    have hs2:=ih m (by omega) (T:=T) (a:=a' + 1) u5 (by omega) hT hTl (fun q=>by
     rw [htl] at q
     rw [q] at heq
     exact hne heq.symm)
    rw [htl] at hs2
    refine hs2.mono ?_
    rintro _ h6 ⟨hle6,hG6⟩
    have hle26:Le (hole h2 g) (hole h6 g):=by rw [<- ho5];exact hle6
    cases ho6:qProd m ts.tail with
    | error er=>
     rw [ho6] at hG6 heq
     obtain ⟨he,⟨k,s,A,nn,c,B,mm,d,nm,K,kn,kc,rfl⟩,a6,u6,hb6⟩:=hG6
     refine ⟨_,_,_,_,_,_,_,_,_,_,_,_,rfl, ?_⟩
     rintro g1 _ hg1 rfl
     obtain ⟨u7,hgg,hn7,ho7⟩:=u6.put hg1 _
     refine ⟨m,by omega, ?_,Or.inl ⟨er,a6,heq.symm,he,u7,by omega⟩⟩
     rw [ho7]
     exact (hle2.trans hle26).trans (Le.new hn7 _)
    | ok p=>
     obtain ⟨z,r3⟩:=p
     rw [ho6] at hG6 heq
     obtain ⟨vs,a6,rfl,uz,zz,u6,h61,h62,h63⟩:=hG6
     have uz' := uz
     obtain ⟨s,A,c,B,d,K,kc,rfl,_⟩:=uz'.open
     refine ⟨_,_,_,_,_,_,_,_,_,_,_,_,rfl, ?_⟩
     rintro g1 _ hg1 rfl
     obtain ⟨u7,hgg,hn7,ho7⟩:=u6.put hg1 _
     refine ⟨m,by omega, ?_,Or.inr ⟨by omega,op2 kd x z,a6,by rw [h63];exact heq, ?_,Szs_two zx zz,u7,by omega,h62⟩⟩
     ·rw [ho7]
      exact (hle2.trans hle26).trans (Le.new hn7 _)
     ·rw [ho7]
      exact IsE_two hn7 (IsE.mono hle26 _ _ ux) uz
   refine ⟨fun h' => h2=h' /\ (hdT ts=[43]\/hdT ts=[45]), ?_,(rNext_c u2).mono ?_⟩
   ·rintro _ ⟨rfl,hor⟩
    refine ⟨fun kd h' => h2=h' /\ hdT ts≠[]/\(match qProd m ts.tail with | .error e=> .error e | .ok (z,r')=>qSumL m (op2 kd x z) r' : RT)=X, ?_,(rNext_c u2).mono ?_⟩
    ·rintro kd _ ⟨rfl,hh,heq⟩
     exact u2.step (by omega) fun h5 u5 ho5=>go kd hh heq u5 ho5
    ·rintro _ _ ⟨rfl,rfl⟩
     refine ⟨_,rfl, ?_⟩
     rw [nxt_ok,hts,bytes_toList,b2]
     refine Br.mk (fun q=> ?_) (fun q=> ?_)
     ·have e1:=beq_iff_eq.1 q
      have d1:([45]:List UInt8)≠[43]:=by decide
      rw [e1,if_neg d1,if_pos rfl] at hy
      exact ⟨rfl,by rw [e1];simp,hy⟩
     ·have e2:=beq_eq_false_iff_ne.1 q
      have e1:=hor.resolve_right e2
      rw [e1,if_pos rfl] at hy
      exact ⟨rfl,by rw [e1];simp,hy⟩
   ·rintro _ _ ⟨rfl,rfl⟩
    refine ⟨_,rfl, ?_⟩
    rw [nxt_ok,hts,bytes_toList,b1,b2]
    refine Br.mk (fun q=>⟨rfl,Or.inl (beq_iff_eq.1 q)⟩) (fun q=>(rNext_c u2).mono ?_)
    rintro _ _ ⟨rfl,rfl⟩
    refine ⟨_,rfl, ?_⟩
    rw [nxt_ok,hts,bytes_toList]
    refine Br.mk (fun q2=>⟨rfl,Or.inr (beq_iff_eq.1 q2)⟩) (fun q2=> ?_)
    rw [if_neg (beq_eq_false_iff_ne.1 q),if_neg (beq_eq_false_iff_ne.1 q2)] at hy
    rw [<- hy]
    exact ⟨hle2,_,a', rfl,ux,zx,u2,ha1,ha2,hts⟩
end Go.Proofs.YtfglcgbgaeegaaaGreatDoor
