/-
 Gathered texts of this proof: Lw4,Dl3,Lw7.
-/
import Derived.Test.YtfglcgbgaeegaaaGreatDoorG13
import Derived.Test.YtfglcgbgaeegaaaGreatDoorG10
import Derived.Test.YtfglcgbgaeegaaaGreatDoorG12

namespace Go.Proofs.YtfglcgbgaeegaaaGreatDoor
open Go Go.Vcg Go.RowKit Go.Sort
attribute [local irreducible] Br
def okO (o:Except (Int×Nat) (List Nmd)):List Nmd:=match o with | .ok ps=>ps | .error _=>[]
def erO (o:Except (Int×Nat) (List Nmd)):Int:=match o with | .ok _=>0 | .error x=>x.1
def ixO (o:Except (Int×Nat) (List Nmd)):Int:=match o with | .ok _=>0 | .error x=>(x.2:Int)
theorem RunR.np {o:Except (Int×Nat) (List Nmd)} {r:Value} {h:Heap} (u:RunR o r h) : ∃ A n c,r = .tuple #[.slice A n c,.int .i64 (erO o),.int .i64 (ixO o)]/\NPs h A n c (okO o):=by
 cases o with
 | ok ps=>exact u
 | error x=>
  obtain ⟨e,i⟩:=x
  obtain ⟨_,rfl⟩:=u
  exact ⟨none,0,0,rfl,rfl,Nat.le_refl _,fun q=>absurd rfl q⟩
theorem IsMs.one {h:Heap} : ∀ {ms:List Meas} {cs:List Value},IsMs h ms cs->4*ms.length<=cs.length/\ ∀ v∈cs.take (4*ms.length),Go.Vcg.one v=true
 | [],cs,_=>⟨by simp,fun v hv=>by simp at hv⟩
 | x::ms,cs,⟨⟨s,A,c,B,d,e,_⟩,r⟩=>by
  obtain ⟨h1,h2⟩:=IsMs.one r
  have h4:4<=cs.length:=by
   have:=congrArg List.length e
   rw [List.length_take] at this
   simp at this
   omega
  rw [List.length_drop] at h1
  refine ⟨by rw [List.length_cons];omega,fun v hv=> ?_⟩
  rw [List.length_cons,show 4*(ms.length+1)=4+4*ms.length by omega,List.take_add] at hv
  rcases List.mem_append.1 hv with hv | hv
  ·rw [e] at hv
   simp only [List.mem_cons,List.not_mem_nil,or_false] at hv
   rcases hv with rfl | rfl | rfl | rfl<;>rfl
  ·exact h2 v hv
theorem IsMs.app {h:Heap} : ∀ {ms:List Meas} {cs:List Value} (rest:List Value),IsMs h ms cs->IsMs h ms (cs++rest)
 | [],_,_,_=>trivial
 | x::ms,cs,rest,⟨⟨s,A,c,B,d,e,u⟩,r⟩=>by
  have h4:4<=cs.length:=by
   have:=congrArg List.length e
   rw [List.length_take] at this
   simp at this
   omega
  refine ⟨⟨s,A,c,B,d,by rw [List.take_append_of_le_length h4];exact e,u⟩, ?_⟩
  rw [List.drop_append_of_le_length h4]
  exact IsMs.app rest r
theorem EnvA.mono {h h' : Heap} {A:Option Addr} {n c:Nat} {ms:List Meas} (u:EnvA h A n c ms) (l:Le h h'):EnvA h' A n c ms:=
 ⟨u.len,u.cap,fun hn=>let ⟨ad,b,a1,a2,a3,a4⟩:=u.mem hn;⟨ad,b,a1,a2,l _ _ a3,IsMs.mono l a4⟩⟩
theorem EnvA.cells {h:Heap} {A:Option Addr} {n c:Nat} {ms:List Meas} (u:EnvA h A n c ms) : ∃ xs:List Value,RdS h A (n*4) xs/\(∀ v∈xs,Go.Vcg.one v=true)/\IsMs h ms xs:=by
 have hl:=u.len
 by_cases hm:ms=[]
 ·subst hm
  exact ⟨[],⟨by rw [hl];rfl,fun q=>by rw [hl] at q;simp at q⟩,fun v hv=>by simp at hv,trivial⟩
 ·obtain ⟨ad,b,a1,a2,a3,a4⟩:=u.mem hm
  obtain ⟨h1,h2⟩:=a4.one
  refine ⟨(b.cells.drop ad.off).take (4*ms.length),⟨by rw [List.length_take];omega,fun _=>⟨ad,a1,a2,b,a3, ?_⟩⟩,h2,IsMs.take a4⟩
  rw [List.length_take,Nat.min_eq_left h1]
theorem brief_tail {x:Meas} {ms:List Meas} (h:briefV (x::ms)=true):briefV ms=true:=by
 unfold briefV at h ⊢
 rw [Bool.and_eq_true,decide_eq_true_eq,List.all_eq_true] at h ⊢
 exact ⟨by have:=h.1;rw [List.length_cons] at this;omega,fun y hy=>h.2 y (by simp [hy])⟩
theorem needs_law {W:Heap} {A:Option Addr} {n c:Nat} {l:List Stp} {eA:Option Addr} {en ec:Nat} {ms:List Meas} {x:Meas} {sg:Bool} {mA:Option Addr} {mc:Nat} {mB:Option Addr} {md:Nat} (u:StpS W A n c l) (env:EnvA W eA en ec ms)
  (um:IsQ W sg mA x.ln mc mB x.lm md x.val) (hsz:en*72<=140737488351232) (t:Frms W) (tb:Tab W) :
  CallsU Tryz.prog 4 [.slice A n c,.slice eA en ec,.agg #[sv x.name,.bool sg,.slice mA x.ln mc,.slice mB x.lm md]] W fun v h' => v = .bool true/\Le W h' := by
 apply law19_DraftNeeds_ok
 unfold law19_DraftNeeds_vc
 have hlen:=u.len
 have hel:=env.len
 refine ⟨fun A' n' c' h' => Le W h' /\ EnvA h' A' n' c' (x::ms), ?_, ?_⟩
 ·rintro mA' mn mcp h1 ⟨l1,env1⟩
  refine (llight_c (u.mono l1) env1).mono ?_
  rintro _ _ ⟨b,rfl,rfl,hb⟩
  refine ⟨_,rfl,Br.mk (fun _=>lv_c t tb l1 fun _ l=>⟨rfl,l⟩) (fun q=> ?_)⟩
  obtain ⟨hl,hbr⟩:=hb (by simpa using q)
  have h70:=hl.1
  refine ⟨fun m i h' => ∃ k,k<=l.length/\m=l.length-k/\i=(k:Int)/\Le h1 h' /\ ∀ s∈l.take k,∀ e∈s.nums,x.name∉namesE e,⟨l.length,0,by omega,by omega,rfl,Le.refl _,fun s hs=>by simp at hs⟩, ?_⟩
  rintro m _ h2 ⟨k,hk,rfl,rfl,l2,hno⟩
  refine Br.mk (fun q1=> ?_) (fun q1=> ?_)
  ·have hlt:k<l.length:=by have:=of_decide_eq_true q1;omega
   obtain ⟨s,hs⟩ : ∃ s,l[k]?=some s:=⟨_,List.getElem?_eq_getElem hlt⟩
   have lts:=hl.2 s (List.mem_of_getElem? hs)
   have hn4:s.nums.length<=4:=lts.2.2.1
   refine ⟨fun m i h' => ∃ j,j<=s.nums.length/\m=s.nums.length-j/\i=(j:Int)/\Le h1 h' /\ ∀ e∈s.nums.take j,x.name∉namesE e,⟨s.nums.length,0,by omega,by omega,rfl,l2,fun e he=>by simp at he⟩, ?_⟩
   rintro m3 _ h3 ⟨j,hj,rfl,rfl,l3,hno3⟩
   have lW3:=l1.trans l3
   obtain ⟨ad,F,fc,K,kc,eAd,hld,uf,uk⟩:=(u.mono lW3).get hs
   have c3:=LdN.cell hld (i:=3) rfl
   rw [Int.toNat_natCast]
   refine ⟨ad,eAd,by omega,by omega,_,_,_,c3,Br.mk (fun q2=> ?_) (fun q2=> ?_)⟩
   ·have hjl:j<s.nums.length:=by have:=of_decide_eq_true q2;omega
    obtain ⟨e,he⟩ : ∃ e,s.nums[j]?=some e:=⟨_,List.getElem?_eq_getElem hjl⟩
    obtain ⟨ad2,vs,eK,hlx,ux⟩:=uk.get he
    have ux' := ux
    obtain ⟨sx,Ax,cx,Bx,dx,Kx,kcx,rfl,_,_,_⟩:=ux'.open
    obtain ⟨ze,_,hcnt⟩:=small_ok (lts.2.2.2.2 e (List.mem_of_getElem? he))
    refine ⟨ad,eAd,by omega,by omega,_,_,_,c3,ad2,eK,by omega,by omega,_,_,_,_,_,_,_,_,_,_,_,_,by rw [Int.toNat_natCast];exact hlx,(foNames_c ux ze (by omega)).mono ?_⟩
    rintro _ h4 ⟨nA,nn,nc,rfl,us,l4⟩
    have hnl:=us.len
    have hnl2:=namesV_len e
    refine ⟨_,_,_,rfl,fun m i h' => ∃ i', i' <= nn/\m=nn-i' /\ i=(i' : Int)/\Le h4 h' /\ ∀ y∈(namesV e).take i', y≠x.name,⟨nn,0,by omega,by omega,rfl,Le.refl _,fun y hy=>by simp at hy⟩, ?_⟩
    rintro m5 _ h5 ⟨i,hi,rfl,rfl,l5,hno5⟩
    refine Br.mk (fun q3=> ?_) (fun q3=> ?_)
    ·have hil:i<nn:=by have:=of_decide_eq_true q3;omega
     obtain ⟨y,hy⟩ : ∃ y,(namesV e)[i]?=some y:=⟨_,List.getElem?_eq_getElem (by omega)⟩
     obtain ⟨ad3,eN,hly⟩:=(us.mono l5).get hy
     refine ⟨ad3,eN,by omega,by omega,_,by rw [Int.toNat_natCast];exact hly, ?_⟩
     rw [bytes_toList,bytes_toList]
     refine Br.mk (fun _=>lv_c t tb ((lW3.trans l4).trans l5) fun _ l=>⟨rfl,l⟩) (fun q4=> ?_)
     rintro _ rfl
     refine ⟨nn-(i+1),by omega,i+1,by omega,rfl,wi (by omega) (by omega),l5,fun z hz=> ?_⟩
     rw [List.take_add_one,hy] at hz
     rcases List.mem_append.1 hz with h | h
     ·exact hno5 z h
     ·simp at h
      subst h
      exact beq_eq_false_iff_ne.1 q4
    ·have hie:i=nn:=by have:=of_decide_eq_false q3;omega
     rw [hie,<- hnl,List.take_length] at hno5
     rintro _ rfl
     refine ⟨s.nums.length-(j+1),by omega,j+1,by omega,rfl,wi (by omega) (by omega),(l3.trans l4).trans l5,fun z hz=> ?_⟩
     rw [List.take_add_one,he] at hz
     rcases List.mem_append.1 hz with h | h
     ·exact hno3 z h
     ·simp at h
      subst h
      exact fun hm=>hno5 _ ((namesV_mem z x.name).2 hm) rfl
   ·have hje:j=s.nums.length:=by have:=of_decide_eq_false q2;omega
    rw [hje,List.take_length] at hno3
    rintro _ rfl
    refine ⟨l.length-(k+1),by omega,k+1,by omega,rfl,wi (by omega) (by omega),l3,fun z hz=> ?_⟩
    rw [List.take_add_one,hs] at hz
    rcases List.mem_append.1 hz with h | h
    ·exact hno z h
    ·simp at h
     subst h
     exact hno3
  ·have hk' : k=l.length:=by have:=of_decide_eq_false q1;omega
   rw [hk', List.take_length] at hno
   have l02:=l1.trans l2
   have heq:runV (x::ms) l=runV ms l:=runV_congr fun s hs e he=>evalV_skip (hno s hs e he)
   refine (drRun_c (u.mono l02) (by omega) (fun _=>hl.sz) (t.mono l02) (tb.mono l02) ((env.s (brief_tail hbr)).mono l02)).mono ?_
   rintro _ h3 ⟨hR,l3⟩
   obtain ⟨rA,rn,rc,rfl,ur⟩:=hR.np
   have l03:=l02.trans l3
   refine ⟨_,_,_,_,_,rfl,(drRun_c (u.mono l03) (by omega) (fun _=>hl.sz) (t.mono l03) (tb.mono l03) ((env1.s hbr).mono (l2.trans l3))).mono ?_⟩
   rintro _ h4 ⟨hR4,l4⟩
   rw [heq] at hR4
   obtain ⟨sA,sn,sc,rfl,us⟩:=hR4.np
   have l04:=l03.trans l4
   have hol:(okO (runV ms l)).length<=70:=by
    cases ho:runV ms l with
    | error x=>simp [okO]
    | ok ps=>
     rw [runV_L] at ho
     split at ho
     ·have:=runL_len ho
      simp [okO] at this ⊢
      omega
     ·cases ho
   have hrn:=ur.len
   refine ⟨_,_,_,_,_,rfl,(rPlaces_c (ur.mono l4) us (by omega)).mono ?_⟩
   rintro _ _ ⟨rfl,rfl⟩
   exact ⟨_,rfl,Br.mk (fun _=>Br.mk (fun _=>Br.mk (fun _=>lv_c t tb l04 fun _ l=>⟨rfl,l⟩) (fun q=>by simp at q)) (fun q=>by simp at q)) (fun q=>by cases q)⟩
 ·rintro g _ hg rfl
  have lg:=Le.new hg (⟨[sv x.name,Value.bool sg,Value.slice mA x.ln mc,Value.slice mB x.lm md],45,(0,0)⟩:Blk)
  obtain ⟨xs,hrd,hone,hms⟩:=(env.mono lg).cells
  refine ⟨xs,hrd,hone,fun hle=> ?_,fun hlt=>⟨[sv x.name,Value.bool sg,Value.slice mA x.ln mc,Value.slice mB x.lm md],⟨rfl,fun _=>⟨_,rfl,rfl,_,Heap.put_same _ _ _,rfl⟩⟩,by omega, ?_⟩⟩
  ·have h0:en=0:=by omega
   subst h0
   have hm0:ms=[]:=List.length_eq_zero_iff.1 hel.symm
   subst hm0
   refine Br.mk (fun _=>⟨lg,rfl,Nat.le_refl _,fun _=>⟨_,_,rfl,rfl,Heap.put_same _ _ _,⟨_,_,_,_,_,rfl,um.mono lg⟩,trivial⟩⟩) (fun q=>by exact absurd q (by decide))
  ·rintro g1 cap _ hg1 hcap rfl
   have lg1:=Le.new hg1 (⟨[sv x.name,Value.bool sg,Value.slice mA x.ln mc,Value.slice mB x.lm md]++xs++repV [Value.string ByteArray.empty,Value.bool false,Value.slice none 0 0,Value.slice none 0 0] (cap-(1+en)),45,(0,0)⟩:Blk)
   refine ⟨lg.trans lg1,by rw [List.length_cons];omega,hcap,fun _=>⟨_,_,rfl,rfl,Heap.put_same _ _ _,⟨_,_,_,_,_,rfl,um.mono (lg.trans lg1)⟩, ?_⟩⟩
   simp only [List.drop_zero]
   exact IsMs.app _ (IsMs.mono lg1 hms)
end Go.Proofs.YtfglcgbgaeegaaaGreatDoor

namespace Go.Proofs.YtfglcgbgaeegaaaGreatDoor
open Go Go.Vcg Go.RowKit Go.Sort
abbrev orN:List UInt8:=[79,114,105,103,105,110,48,48]
def mvS (s:Stp):Stp:=if s.kind=1 then ⟨s.name,2,[orN],s.nums⟩ else s
def shN (d:Rat×Rat) (p:Nmd):Nmd:=⟨p.name,ptAdd p.pos d⟩
def mapP (d:Rat×Rat):Except Int (Rat×Rat)->Except Int (Rat×Rat)
 | .error e=> .error e
 | .ok p=> .ok (ptAdd p d)
theorem add_comm2 (a b:Rat×Rat):ptAdd a b=ptAdd b a:=by unfold ptAdd;rw [Rat.add_comm,Rat.add_comm a.2]
theorem sub_shift (a b d:Rat×Rat):ptSub (ptAdd a d) (ptAdd b d)=ptSub a b:=by unfold ptSub ptAdd;apply Prod.ext<;>simp only<;>grind
theorem add_shift (a q d:Rat×Rat):ptAdd (ptAdd a d) q=ptAdd (ptAdd a q) d:=by unfold ptAdd;apply Prod.ext<;>simp only<;>grind
theorem on_shift (a b d:Rat×Rat) (t:Rat):ptOn (ptAdd a d) (ptAdd b d) t=ptAdd (ptOn a b t) d:=by
 unfold ptOn
 rw [sub_shift,add_shift]
theorem meet_shift (a b c e d:Rat×Rat):ptMeet (ptAdd a d) (ptAdd b d) (ptAdd c d) (ptAdd e d)=mapP d (ptMeet a b c e):=by
 unfold ptMeet
 rw [sub_shift,sub_shift,sub_shift,on_shift]
 split<;>rfl
theorem foot_shift (p a b d:Rat×Rat):ptFoot (ptAdd p d) (ptAdd a d) (ptAdd b d)=mapP d (ptFoot p a b):=by
 unfold ptFoot
 rw [sub_shift,sub_shift,on_shift]
 split<;>rfl
theorem mirror_shift (p a b d:Rat×Rat):ptMirror (ptAdd p d) (ptAdd a d) (ptAdd b d)=mapP d (ptMirror p a b):=by
 unfold ptMirror
 rw [foot_shift]
 cases ptFoot p a b with
 | error e=>rfl
 | ok f=>
  show Except.ok _=Except.ok _
  congr 1
  unfold ptSub ptAdd
  apply Prod.ext<;>simp only<;>grind
theorem getD_shift {ps:List (Rat×Rat)} {d:Rat×Rat} {i:Nat} (h:i<ps.length):(ps.map (ptAdd · d)).getD i (0,0)=ptAdd (ps.getD i (0,0)) d:=by
 rw [List.getD_eq_getElem?_getD,List.getD_eq_getElem?_getD,List.getElem?_map,List.getElem?_eq_getElem h]
 rfl
theorem place_shift {k:Int} {ps:List (Rat×Rat)} {qs:List Rat} {d:Rat×Rat} (h2:2<=k) (h6:k<=6) (hl:(ps.length:Int)=frN k):placeV k (ps.map (ptAdd · d)) qs=mapP d (placeV k ps qs):=by
 have hk:k=2\/k=3\/k=4\/k=5\/k=6:=by omega
 unfold placeV
 simp only
 rcases hk with rfl | rfl | rfl | rfl | rfl
 ·have:frN 2=1:=by decide
  rw [getD_shift (by omega)]
  simp only [show ¬ ((2:Int)=1) by decide,if_false,if_true]
  show Except.ok _=Except.ok _
  rw [add_shift]
 ·have:frN 3=2:=by decide
  rw [getD_shift (by omega),getD_shift (by omega)]
  simp only [show ¬ ((3:Int)=1) by decide,show ¬ ((3:Int)=2) by decide,if_false,if_true]
  show Except.ok _=Except.ok _
  rw [on_shift]
 ·have:frN 4=4:=by decide
  rw [getD_shift (by omega),getD_shift (by omega),getD_shift (by omega),getD_shift (by omega)]
  simp only [show ¬ ((4:Int)=1) by decide,show ¬ ((4:Int)=2) by decide,show ¬ ((4:Int)=3) by decide,if_false,if_true]
  exact meet_shift _ _ _ _ _
 ·have:frN 5=3:=by decide
  rw [getD_shift (by omega),getD_shift (by omega),getD_shift (by omega)]
  simp only [show ¬ ((5:Int)=1) by decide,show ¬ ((5:Int)=2) by decide,show ¬ ((5:Int)=3) by decide,show ¬ ((5:Int)=4) by decide,if_false,if_true]
  exact foot_shift _ _ _ _
 ·have:frN 6=3:=by decide
  rw [getD_shift (by omega),getD_shift (by omega),getD_shift (by omega)]
  simp only [show ¬ ((6:Int)=1) by decide,show ¬ ((6:Int)=2) by decide,show ¬ ((6:Int)=3) by decide,show ¬ ((6:Int)=4) by decide,show ¬ ((6:Int)=5) by decide,if_false]
  exact mirror_shift _ _ _ _
theorem pos_shift {ps:List Nmd} {d:Rat×Rat} {nm:List UInt8} (h:nm≠orN):posV (⟨orN,d⟩::ps.map (shN d)) nm=(posV ps nm).map (ptAdd · d):=by
 unfold posV
 rw [List.find?_cons_of_neg (by simpa using fun e=>h e.symm),List.find?_map]
 have:((fun p:Nmd=>p.name==nm) ∘ shN d)=fun p=>p.name==nm:=rfl
 rw [this]
 cases ps.find? fun p=>p.name==nm<;>rfl
theorem cons_shift {ms:List Meas} {ps:List Nmd} {s:Stp} {d:Rat×Rat} (hc:chkFm s=0) (hf : ∀ nm∈s.frm,nm≠orN/\(posV ps nm).isSome=true):consV ms (⟨orN,d⟩::ps.map (shN d)) (mvS s)=mapP d (consV ms ps s):=by
 obtain ⟨hk1,hk6,hfl,hnl,_,_⟩:=chkFm_ok hc
 unfold consV mvS
 by_cases h1:s.kind=1
 ·rw [if_pos h1]
  simp only
  cases numsV ms s.nums with
  | error e=>rfl
  | ok qs=>
   simp only
   unfold placeV
   simp only [h1,show ¬ ((2:Int)=1) by decide,if_false,if_true]
   show Except.ok _=Except.ok _
   congr 1
   rw [add_comm2]
   rfl
 ·rw [if_neg h1]
  cases numsV ms s.nums with
  | error e=>rfl
  | ok qs=>
   simp only
   have e:(s.frm.map fun nm=>(posV (⟨orN,d⟩::ps.map (shN d)) nm).getD (0,0))=(s.frm.map fun nm=>(posV ps nm).getD (0,0)).map (ptAdd · d):=by
    rw [List.map_map]
    apply List.map_congr_left
    intro nm hn
    obtain ⟨h3,h4⟩:=hf nm hn
    rw [pos_shift h3]
    obtain ⟨p,hp⟩:=Option.isSome_iff_exists.1 h4
    simp only [Function.comp,hp]
    rfl
   rw [e,place_shift (by omega) hk6 (by rw [List.length_map];exact hfl)]
def MvR (d:Rat×Rat) (o o' : Except (Int×Nat) (List Nmd)):Prop:=
 (∃ n,o = .error (5,n))\/(∃ n,o' = .error (5,n))\/(∃ e n,e≠0/\o = .error (e,n)/\o' = .error (e,n+1))\/(∃ qs,o = .ok qs/\o' = .ok (⟨orN,d⟩::qs.map (shN d)))
theorem move_run {ms:List Meas} {d:Rat×Rat} : ∀ (l done:List Stp) (i:Nat) (ps:List Nmd),(∀ j s,(done++l)[j]?=some s->chkFm s=0/\chkNm ((done++l).take j) s=0)->(∀ s∈done++l,s.name≠orN)->ps.map (·.name)=done.map (·.name)->
  MvR d (runL ms l i ps) (runL ms (l.map mvS) (i+1) (⟨orN,d⟩::ps.map (shN d)))
 | [],done,i,ps,_,_,_=>by
  rw [List.map_nil,runL,runL]
  exact .inr (.inr (.inr ⟨ps,rfl,rfl⟩))
 | s::l,done,i,ps,hall,hor,hnm=>by
  obtain ⟨h1,h2⟩:=hall done.length s (by rw [List.getElem?_append_right (Nat.le_refl _),Nat.sub_self];rfl)
  rw [List.take_left] at h2
  have hf : ∀ nm∈s.frm,nm≠orN/\(posV ps nm).isSome=true:=fun nm hn=>by
   have hd:=(chkNm_ok h2).2 nm hn
   refine ⟨fun e=> ?_,pos_def hnm hd⟩
   unfold defV at hd
   rw [List.any_eq_true] at hd
   obtain ⟨x,hx,he⟩:=hd
   exact hor x (List.mem_append_left _ hx) (by rw [eq_of_beq he,e])
  rw [List.map_cons,runL,runL,cons_shift h1 hf]
  cases hc:consV ms ps s with
  | error e=>exact .inr (.inr (.inl ⟨e,i,consV_err hc,rfl,rfl⟩))
  | ok p=>
   simp only [mapP]
   split
   ·exact .inl ⟨i,rfl⟩
   ·split
    ·exact .inr (.inl ⟨i+1,rfl⟩)
    ·have e:done++s::l=(done++[s])++l:=by simp
     rw [e] at hall hor
     have ih:=move_run (ms:=ms) (d:=d) l (done++[s]) (i+1) (ps++[⟨s.name,p⟩]) hall hor (by rw [List.map_append,List.map_append,hnm];rfl)
     have en:(mvS s).name=s.name:=by unfold mvS;split<;>rfl
     rw [List.map_append] at ih
     rw [en]
     exact ih
abbrev orS (a b:Ex):Stp:=⟨orN,1,[],[a,b]⟩
theorem mv_name (s:Stp):(mvS s).name=s.name:=by unfold mvS;split<;>rfl
theorem mv_check {l:List Stp} {a b:Ex} (hc:(checkV l).1=0) (h63:l.length<64) (hor : ∀ s∈l,s.name≠orN) (ha:chkV a 1=0) (hb:chkV b 1=0):checkV (orS a b::l.map mvS)=(0,0):=by
 obtain ⟨_,hall⟩:=checkV_all hc
 refine checkV_of (by simp;omega) fun j s hs=> ?_
 cases j with
 | zero=>
  simp at hs
  subst hs
  refine ⟨?_,rfl⟩
  unfold chkFm
  rw [if_pos]
  ·show chkL [a,b] 1=0
   rw [chkL,if_pos ha,chkL,if_pos hb,chkL]
  ·show (isPointV orN&&decide ((1:Int)<=1/\(1:Int)<=6)&&decide (((0:Nat):Int)=frN 1/\((2:Nat):Int)=nuN 1))=true
   decide
 | succ j=>
  rw [List.getElem?_cons_succ,List.getElem?_map] at hs
  cases hj:l[j]? with
  | none=>rw [hj] at hs;cases hs
  | some x=>
   rw [hj] at hs
   cases hs
   obtain ⟨h1,h2⟩:=hall j x hj
   obtain ⟨hk1,hk6,hfl,hnl,hck,hpt⟩:=chkFm_ok h1
   obtain ⟨n1,n2⟩:=chkNm_ok h2
   have edef : ∀ nm,defV ((orS a b::l.map mvS).take (j+1)) nm=(orN==nm||defV (l.take j) nm):=fun nm=>by
    unfold defV
    rw [List.take_succ_cons,List.any_cons,<- List.map_take,List.any_map]
    congr 1
    apply List.any_congr rfl
    intro y
    simp only [Function.comp,mv_name]
   refine ⟨?_, ?_⟩
   ·unfold mvS
    split
    ·rename_i hk
     unfold chkFm
     have e2:nuN x.kind=2:=by rw [hk];rfl
     rw [if_pos]
     ·exact hck
     ·simp only [Bool.and_eq_true,decide_eq_true_eq]
      exact ⟨⟨hpt,by omega⟩,rfl,by rw [hnl,e2];rfl⟩
    ·exact h1
   ·have hne:orN≠x.name:=fun e=>hor x (List.mem_of_getElem? hj) e.symm
    unfold chkNm
    rw [edef,mv_name,n1]
    have:(orN==x.name)=false:=by simpa using hne
    rw [this]
    rw [if_neg (by decide),if_pos]
    rw [List.all_eq_true]
    intro y hy
    rw [edef]
    unfold mvS at hy
    split at hy
    ·simp at hy
     subst hy
     rfl
    ·rw [n2 y hy,Bool.or_true]
theorem move_all {ms:List Meas} {l:List Stp} {a b:Ex} {d:Rat×Rat} (hc:(checkV l).1=0) (h63:l.length<64) (hor : ∀ s∈l,s.name≠orN) (ha:evalV ms a = .ok d.1) (hb:evalV ms b = .ok d.2) (hta:tlV d.1=false) (htb:tlV d.2=false) :
  MvR d (runV ms l) (runV ms (orS a b::l.map mvS)):=by
 have ca : ∀ {x:Ex} {q:Rat},evalV ms x = .ok q->chkV x 1=0:=fun {x q} h=>by
  unfold evalV at h
  split at h
  ·assumption
  ·cases h
 rw [runV_L,runV_L,if_pos hc,if_pos (by rw [mv_check hc h63 hor (ca ha) (ca hb)])]
 have e:consV ms [] (orS a b) = .ok d:=by
  unfold consV
  simp only [numsV,ha,hb,catR]
  rfl
 rw [runL,e]
 simp only [hta,htb,Bool.or_false,Bool.false_eq_true,if_false]
 exact move_run l [] 0 [] (checkV_all hc).2 hor rfl
end Go.Proofs.YtfglcgbgaeegaaaGreatDoor

namespace Go.Proofs.YtfglcgbgaeegaaaGreatDoor
open Go Go.Vcg Go.RowKit Go.Sort
attribute [local irreducible] Br
abbrev exN (nm:List UInt8):Ex:= .mk 2 0 0 0 nm []
theorem SN.le {h0 h h' : Heap} {A:Option Addr} {n c:Nat} {ss:List Stp} (u:SN h0 h A n c ss) (l:Le h h'):SN h0 h' A n c ss:=by
 obtain ⟨a,b⟩:=u
 refine ⟨a,b.imp id ?_⟩
 rintro ⟨gs,cs,b1,b2,b3,b4,b5,b6⟩
 refine ⟨gs,cs,b1,b2,l _ _ b3,b4,b5,fun i s hs=>(b6 i s hs).mono fun k x hk=> ?_⟩
 by_cases e:k=gs
 ·subst e;rw [hole_at] at hk;cases hk
 ·rw [hole_ne _ e] at hk ⊢
  exact l _ _ hk
theorem SN.cut {h0 h:Heap} {A:Option Addr} {n c:Nat} {ss:List Stp} (u:SN h0 h A n c ss) (l:Le h0 h):Le h0 (cutA h A):=by
 obtain ⟨a,b⟩:=u
 rcases b with ⟨rfl,_,_⟩ | ⟨gs,cs,b1,rfl,_⟩
 ·exact l
 ·intro k x hk
  have e:k≠gs:=fun e=>by rw [e,b1] at hk;cases hk
  show hole h gs k=_
  rw [hole_ne _ e]
  exact l _ _ hk
theorem SN.cutNew {h0 h:Heap} {A:Option Addr} {n c g:Nat} {ss:List Stp} {b:Blk} (u:SN h0 h A n c ss) (hg:h g=none):cutA (h.put g b) A g=some b:=by
 obtain ⟨a,q⟩:=u
 rcases q with ⟨rfl,_,_⟩ | ⟨gs,cs,b1,rfl,b3,_⟩
 ·exact Heap.put_same _ _ _
 ·have e:g≠gs:=fun e=>by rw [e,b3] at hg;cases hg
  show hole (h.put g b) gs g=_
  rw [hole_ne _ e,Heap.put_same]
theorem tl_small {z:Int} (h1 : -40000<=z) (h2:z<=40000):tlV (z:Rat)=false:=by
 unfold tlV
 rw [Rat.num_intCast,Rat.den_intCast,Bool.or_eq_false_iff,decide_eq_false_iff_not,decide_eq_false_iff_not]
 have a:=dec_len (n:=z.natAbs) (k:=9) (by omega) (by decide)
 have b:=dec_len (n:=1) (k:=9) (by decide) (by decide)
 exact ⟨by omega,by omega⟩
theorem zx_ok (nm:List UInt8) (h:isNameV nm=true):chkV (exN nm) 1=0:=by
 rw [chkV,if_neg (by decide),if_pos,chkL]
 unfold rightV
 simp only [Ex.kind,Ex.kids,Ex.name,Ex.val]
 rw [if_pos trivial,if_neg (by decide),h]
 rfl
theorem zx_ev {ms:List Meas} {nm:List UInt8} {q:Rat} (h:isNameV nm=true) (hl:lookV ms nm = .ok q):evalV ms (exN nm) = .ok q:=by
 unfold evalV
 rw [if_pos (zx_ok nm h),evV,evL]
 simp only
 unfold apV
 rw [if_neg (by decide),if_pos rfl,hl]
theorem IsE_name (h:Heap) (nm:List UInt8):IsE h (exN nm) [.int .i64 2,.bool false,.slice none 0 0,.slice none 0 0,sv nm,.slice none 0 0]:=by
 unfold IsE
 exact ⟨false,none,0,none,0,none,0,rfl,IsQ.nul _,Nat.le_refl _,fun q=>absurd rfl q⟩
theorem mv_sz {s:Stp} (z:SzS s):SzS (mvS s):=by
 obtain ⟨z1,z2,z3,z4,z5⟩:=z
 unfold mvS
 split
 ·refine ⟨z1,by simp,z3,z4,fun x hx=> ?_⟩
  simp at hx
  subst hx
  decide
 ·exact ⟨z1,z2,z3,z4,z5⟩
theorem or_sz:SzS (orS (exN [122,120]) (exN [122,121])):=by
 refine ⟨by decide,by decide,by simp, ?_,fun x hx=>by simp at hx⟩
 unfold SzsL SzsL SzsL Szs SzsL
 exact ⟨⟨by omega,by omega,by simp,by simp,trivial⟩,⟨by omega,by omega,by simp,by simp,trivial⟩,trivial⟩
abbrev mvC (x y:QC):List Value:=[sv [122,120],.bool x.s,.slice x.A x.n x.c,.slice x.B x.m x.d,sv [122,121],.bool y.s,.slice y.A y.n y.c,.slice y.B y.m y.d]
theorem mv_env {h:Heap} {x y:QC} {p q:Rat} {ms:List Meas} {xs rest:List Value} {g c ty:Nat} (ux:QB h 2 p x) (uy:QB h 2 q y) (hm:IsMs h ms xs) (hb:h g=some ⟨mvC x y++xs++rest,ty,(0,0)⟩) (hbr:briefV ms=true) {n:Nat} (hn:n=0+2+ms.length) (hc:n<=c) :
  EnvS h (some ⟨g,0,none⟩) n c (⟨[122,120],p,x.n,x.m⟩::⟨[122,121],q,y.n,y.m⟩::ms):=by
 unfold briefV at hbr
 rw [Bool.and_eq_true,decide_eq_true_eq,List.all_eq_true] at hbr
 refine ⟨by simp;omega,hc,by simp;omega,fun z hz=> ?_,fun _=>⟨_,_,rfl,rfl,hb,⟨_,_,_,_,_,rfl,ux.1.is⟩,⟨_,_,_,_,_,rfl,uy.1.is⟩, ?_⟩⟩
 ·rcases List.mem_cons.1 hz with rfl | hz
  ·have:=ux.2;exact ⟨by simp only;omega,by simp only;omega⟩
  ·rcases List.mem_cons.1 hz with rfl | hz
   ·have:=uy.2;exact ⟨by simp only;omega,by simp only;omega⟩
   ·have:=hbr.2 z hz
    rw [decide_eq_true_eq] at this
    omega
 ·simp only [List.drop_zero]
  exact IsMs.app _ hm
set_option maxHeartbeats 1000000 in
theorem moves_law {W:Heap} {A:Option Addr} {n c:Nat} {l:List Stp} {eA:Option Addr} {en ec:Nat} {ms:List Meas} (dx dy:Int) (hx1 : -32768<=dx) (hx2:dx<=32767) (hy1 : -32768<=dy) (hy2:dy<=32767) (u:StpS W A n c l) (env:EnvA W eA en ec ms) (t:Frms W) (tb:Tab W) :
  CallsU Tryz.prog 3 [.slice A n c,.slice eA en ec,.agg #[.int .i16 dx,.int .i16 dy]] W fun v h' => v = .bool true/\Le W h' := by
 apply law19_DraftMoves_ok
 unfold law19_DraftMoves_vc
 have hlen:=u.len
 have hel:=env.len
 have ex:IntKind.i64.wrap dx=dx:=wrap_i64 (by omega) (by omega)
 have ey:IntKind.i64.wrap dy=dy:=wrap_i64 (by omega) (by omega)
 rw [ex,ey]
 refine ⟨fun b h' => Le W h' /\ (b=false->LtS l/\briefV ms=true/\l.length<64/\(checkV l).1=0), ?_, ?_⟩
 ·rintro b h1 ⟨l1,hb⟩
  refine Br.mk (fun q=>lv_c t tb l1 fun _ l=>⟨rfl,l⟩) (fun q=> ?_)
  obtain ⟨hl,hbr,h64,hck⟩:=hb q
  rintro g _ hg rfl g1 _ hg1 rfl
  have lg:=Le.new hg (⟨[Value.int .i64 2,Value.bool false,Value.slice none 0 0,Value.slice none 0 0,Value.string (⟨#[122,120]⟩:ByteArray),Value.slice none 0 0,Value.int .i64 2,Value.bool false,Value.slice none 0 0,Value.slice none 0 0,Value.string (⟨#[122,121]⟩:ByteArray),Value.slice none 0 0],39,(0,0)⟩:Blk)
  have hK:IsK (h1.put g ⟨[Value.int .i64 2,Value.bool false,Value.slice none 0 0,Value.slice none 0 0,Value.string (⟨#[122,120]⟩:ByteArray),Value.slice none 0 0,Value.int .i64 2,Value.bool false,Value.slice none 0 0,Value.slice none 0 0,Value.string (⟨#[122,121]⟩:ByteArray),Value.slice none 0 0],39,(0,0)⟩) (some ⟨g,0,none⟩) 2 2 [exN [122,120],exN [122,121]]:=by
   refine ⟨rfl,by simp,fun _=>⟨_,_,rfl,rfl,Heap.put_same _ _ _,by simp, ?_⟩⟩
   unfold IsEs IsEs IsEs
   exact ⟨IsE_name _ _,IsE_name _ _,trivial⟩
  have l3:=l1.trans lg
  generalize h1.put g ⟨[Value.int .i64 2,Value.bool false,Value.slice none 0 0,Value.slice none 0 0,Value.string (⟨#[122,120]⟩:ByteArray),Value.slice none 0 0,Value.int .i64 2,Value.bool false,Value.slice none 0 0,Value.slice none 0 0,Value.string (⟨#[122,121]⟩:ByteArray),Value.slice none 0 0],39,(0,0)⟩=h3 at hg1 lg hK l3
  have lg1:=Le.new hg1 (⟨[Value.string (⟨#[79,114,105,103,105,110,48,48]⟩:ByteArray),Value.int .i64 1,Value.slice none 0 0,Value.slice (some ⟨g,0,none⟩) 2 2],42,(0,0)⟩:Blk)
  refine ⟨fun m mA mn mc i h' => ∃ k,k<=l.length/\m=l.length-k/\i=(k:Int)/\SN h3 h' mA mn mc (orS (exN [122,120]) (exN [122,121])::(l.take k).map mvS)/\Le h3 h' /\ ∀ s∈l.take k,s.name≠orN,⟨l.length,0,by omega,by omega,rfl,⟨rfl,Or.inr ⟨g1,_,hg1,rfl,Heap.put_same _ _ _,rfl,Nat.le_refl _,fun i s hs=> ?_⟩⟩,lg1,fun s hs=>by simp at hs⟩, ?_⟩
  ·cases i with
   | zero=>
    simp at hs
    subst hs
    rw [hole_put,hole_none hg1]
    exact ⟨none,0,some ⟨g,0,none⟩,2,rfl,Sl.nil _ _ _,hK⟩
   | succ i=>simp at hs
  rintro m mA mn mc _ h5 ⟨k,hk,rfl,rfl,sn,l5,hor⟩
  have hmn:mn=k+1:=by rw [<- sn.1];simp;omega
  have l05:=l3.trans l5
  refine Br.mk (fun q1=> ?_) (fun q1=> ?_)
  ·have hlt:k<l.length:=by have:=of_decide_eq_true q1;omega
   obtain ⟨s,hs⟩ : ∃ s,l[k]?=some s:=⟨_,List.getElem?_eq_getElem hlt⟩
   obtain ⟨ad,F,fc,K,kc,eAd,hld', uf', uk'⟩:=(u.mono l3).get hs
   have hld:=LdN.mono hld' l5
   have zs:=hl.sz s (List.mem_of_getElem? hs)
   have e1:IntKind.i64.wrap ((k:Int)+1)=((k+1:Nat):Int):=wi (by omega) (by omega)
   have htake:l.take (k+1)=l.take k++[s]:=by rw [List.take_add_one,hs];rfl
   refine ⟨ad,eAd,by omega,by omega,_,_,_,_,_,_,_,_,by rw [Int.toNat_natCast];exact hld, ?_⟩
   rw [bytes_toList,show (⟨#[79,114,105,103,105,110,48,48]⟩:ByteArray).toList=orN from bytes_toList orN]
   refine Br.mk (fun _=>lv_c t tb l05 fun _ l=>⟨rfl,l⟩) (fun q2=> ?_)
   have hne:s.name≠orN:=beq_eq_false_iff_ne.1 q2
   have hor' : ∀ x∈l.take (k+1),x.name≠orN:=fun x hx=>by
    rw [htake] at hx
    rcases List.mem_append.1 hx with q | q
    ·exact hor x q
    ·simp at q;subst q;exact hne
   have fin : ∀ A' c' h', SN h3 h' A' (mn+1) c' ((orS (exN [122,120]) (exN [122,121])::(l.take k).map mvS)++[mvS s])->Le h3 h' -> ∀ t48:Int,t48=IntKind.i64.wrap ((k:Int)+1)-> ∃ m_1,m_1<l.length-k/\ ∃ k', k' <= l.length/\m_1=l.length-k' /\ t48=(k' : Int)/\SN h3 h' A' (mn+1) c' (orS (exN [122,120]) (exN [122,121])::(l.take k').map mvS)/\Le h3 h' /\ ∀ s∈l.take k', s.name≠orN:=by
    rintro A' c' h' sn' l' _ rfl
    refine ⟨l.length-(k+1),by omega,k+1,by omega,rfl,e1, ?_,l', hor'⟩
    rw [htake,List.map_append]
    exact sn'
   refine Br.mk (fun q3=> ?_) (fun q3=> ?_)
   ·have hk1:s.kind=1:=beq_iff_eq.1 q3
    have em:mvS s=⟨s.name,2,[orN],s.nums⟩:=by unfold mvS;rw [if_pos hk1]
    rw [em] at fin
    rintro g2 _ hg2 rfl g3 _ hg3 rfl
    have lg2:=Le.new hg2 (⟨[Value.string (⟨#[79,114,105,103,105,110,48,48]⟩:ByteArray)],9,(0,0)⟩:Blk)
    have sn7:=sn.le lg2
    have w:IsS (cutA (h5.put g2 ⟨[Value.string (⟨#[79,114,105,103,105,110,48,48]⟩:ByteArray)],9,(0,0)⟩) mA) ⟨s.name,2,[orN],s.nums⟩ [sv s.name,.int .i64 2,.slice (some ⟨g2,0,none⟩) 1 1,.slice K s.nums.length kc]:=
     ⟨_,_,_,_,rfl,⟨rfl,Nat.le_refl _,fun _=>⟨_,_,rfl,rfl,sn.cutNew hg2,rfl⟩⟩,uk'.mono (sn7.cut (l5.trans lg2))⟩
    exact sn7.app (l5.trans lg2) w hg3 (by omega) (K:=fun A' c' h' => ∀ t48:Int,t48=IntKind.i64.wrap ((k:Int)+1)-> ∃ m_1,m_1<l.length-k/\ ∃ k', k' <= l.length/\m_1=l.length-k' /\ t48=(k' : Int)/\SN h3 h' A' (mn+1) c' (orS (exN [122,120]) (exN [122,121])::(l.take k').map mvS)/\Le h3 h' /\ ∀ s∈l.take k', s.name≠orN) fin
   ·have hk1:s.kind≠1:=beq_eq_false_iff_ne.1 q3
    have em:mvS s=s:=by unfold mvS;rw [if_neg hk1]
    rw [em] at fin
    rintro g3 _ hg3 rfl
    have w:IsS (cutA h5 mA) s [sv s.name,.int .i64 s.kind,.slice F s.frm.length fc,.slice K s.nums.length kc]:=
     ⟨_,_,_,_,rfl,uf'.mono (sn.cut l5),uk'.mono (sn.cut l5)⟩
    exact sn.app l5 w hg3 (by omega) (K:=fun A' c' h' => ∀ t48:Int,t48=IntKind.i64.wrap ((k:Int)+1)-> ∃ m_1,m_1<l.length-k/\ ∃ k', k' <= l.length/\m_1=l.length-k' /\ t48=(k' : Int)/\SN h3 h' A' (mn+1) c' (orS (exN [122,120]) (exN [122,121])::(l.take k').map mvS)/\Le h3 h' /\ ∀ s∈l.take k', s.name≠orN) fin
  ·have hk' : k=l.length:=by have:=of_decide_eq_false q1;omega
   subst hk'
   rw [List.take_length] at sn hor
   refine (lratio_c dx 1 (by omega) (by omega) (by omega) (by omega) (by omega) h5).mono ?_
   rintro _ h6 ⟨x,rfl,ux,l6⟩
   rw [ratz_one] at ux
   refine ⟨_,_,_,_,_,_,_,rfl,l6,(lratio_c dy 1 (by omega) (by omega) (by omega) (by omega) (by omega) h6).mono ?_⟩
   rintro _ h7 ⟨y,rfl,uy,l7⟩
   rw [ratz_one] at uy
   refine ⟨_,_,_,_,_,_,_,rfl, ?_⟩
   rintro g7 _ hg7 rfl
   have lg7:=Le.new hg7 (⟨mvC x y,45,(0,0)⟩:Blk)
   have hb7:(h7.put g7 ⟨mvC x y,45,(0,0)⟩) g7=some ⟨mvC x y,45,(0,0)⟩:=Heap.put_same _ _ _
   have l58:Le h5 (h7.put g7 ⟨mvC x y,45,(0,0)⟩):=(l6.trans l7).trans lg7
   have ux8:QB (h7.put g7 ⟨mvC x y,45,(0,0)⟩) 2 (dx:Rat) x:=ux.mono (l7.trans lg7)
   have uy8:QB (h7.put g7 ⟨mvC x y,45,(0,0)⟩) 2 (dy:Rat) y:=uy.mono lg7
   change ∃ C_1:Option Addr->Nat->Nat->Heap->Prop,_
   generalize h7.put g7 ⟨mvC x y,45,(0,0)⟩=h8 at hb7 l58 ux8 uy8
   refine ⟨fun A' n' c' h' => Le h8 h' /\ EnvS h' A' n' c' (⟨[122,120],(dx:Rat),x.n,x.m⟩::⟨[122,121],(dy:Rat),y.n,y.m⟩::ms), ?_, ?_⟩
   ·rintro aA an ac h9 ⟨l9,env9⟩
    have l59:=l58.trans l9
    have lW9:=l05.trans l59
    have hsz:SzSs (orS (exN [122,120]) (exN [122,121])::l.map mvS):=fun s hs=>by
     rcases List.mem_cons.1 hs with rfl | hs
     ·exact or_sz
     ·obtain ⟨s', hs', rfl⟩:=List.mem_map.1 hs
      exact mv_sz (hl.sz s' hs')
    have key:=move_all (ms:=⟨[122,120],(dx:Rat),x.n,x.m⟩::⟨[122,121],(dy:Rat),y.n,y.m⟩::ms) (a:=exN [122,120]) (b:=exN [122,121]) (d:=((dx:Rat),(dy:Rat))) hck h64 hor (zx_ev (by decide) rfl) (zx_ev (by decide) rfl) (tl_small (by omega) (by omega)) (tl_small (by omega) (by omega))
    refine (drRun_c (u.mono lW9) (by omega) (fun _=>hl.sz) (t.mono lW9) (tb.mono lW9) env9).mono ?_
    rintro _ h10 ⟨hR,l10⟩
    obtain ⟨rA,rn,rc,er,ix,rfl,ho⟩:=hR.shape
    have lWA:=lW9.trans l10
    refine ⟨_,_,_,_,_,rfl,(drRun_c (sn.s.mono (l59.trans l10)) (by omega) (fun _=>hsz) (t.mono lWA) (tb.mono lWA) (env9.mono l10)).mono ?_⟩
    rintro _ h11 ⟨hR2,l11⟩
    obtain ⟨sA,sn2,sc,fr,iy,rfl,ho2⟩:=hR2.shape
    have lWB:=lWA.trans l11
    refine ⟨_,_,_,_,_,rfl,fun b h' => h11=h' /\ (b=false->er≠5/\fr≠5), ?_,Br.mk (fun _=>⟨rfl,fun e=>by cases e⟩) (fun q2=>⟨rfl,fun q3=>⟨beq_eq_false_iff_ne.1 q2,beq_eq_false_iff_ne.1 q3⟩⟩)⟩
    rintro b _ ⟨rfl,hb5⟩
    refine Br.mk (fun _=>lv_c t tb lWB fun _ l=>⟨rfl,l⟩) (fun q2=> ?_)
    obtain ⟨ne1,ne2⟩:=hb5 q2
    rcases key with ⟨i,k1⟩ | ⟨i,k1⟩ | ⟨e,i,he,k1,k2⟩ | ⟨qs,k1,k2⟩
    ·exfalso
     rw [k1] at ho
     rcases ho with ⟨_,q,_⟩ | ⟨_,_,q,_,h1,_⟩
     ·cases q
     ·cases q;exact ne1 h1
    ·exfalso
     rw [k1] at ho2
     rcases ho2 with ⟨_,q,_⟩ | ⟨_,_,q,_,h1,_⟩
     ·cases q
     ·cases q;exact ne2 h1
    ·rw [k1] at ho
     rw [k2] at ho2
     obtain ⟨rfl,rfl,rfl⟩:er=e/\ix=(i:Int)/\rn=0:=by
      rcases ho with ⟨_,q,_⟩ | ⟨_,_,q,_,h1,h2,h3⟩
      ·cases q
      ·cases q;exact ⟨h1,h2,h3⟩
     obtain ⟨rfl,rfl,rfl⟩:fr=er/\iy=((i+1:Nat):Int)/\sn2=0:=by
      rcases ho2 with ⟨_,q,_⟩ | ⟨_,_,q,_,h1,h2,h3⟩
      ·cases q
      ·cases q;exact ⟨h1,h2,h3⟩
     have hi:i<l.length:=by
      rw [runV_L,if_pos hck] at k1
      have:=runL_err k1
      omega
     refine Br.mk (fun _=> ?_) (fun q=>by simp at q;exact absurd q he)
     refine ⟨fun b h' => b=true/\Le W h', fun b h' q=>⟨by rw [q.1],q.2⟩,Br.mk (fun _=> ?_) (fun q=>by simp at q)⟩
     rintro _ rfl
     rw [show IntKind.i64.wrap ((i:Int)+1)=((i+1:Nat):Int) from wi (by omega) (by omega)]
     refine Br.mk (fun _=> ?_) (fun q=>by simp at q)
     rintro _ rfl
     refine Br.mk (fun _=>lv_c t tb lWB fun _ l=>⟨rfl,l⟩) (fun q=>by exact absurd q (by decide))
    ·rw [k1] at ho
     rw [k2] at ho2
     obtain ⟨rfl,ur⟩:er=0/\NPs h10 rA rn rc qs:=by
      rcases ho with ⟨_,q,h1,h2,h3⟩ | ⟨_,_,q,_⟩
      ·cases q;exact ⟨h1,h3⟩
      ·cases q
     obtain ⟨rfl,us⟩:fr=0/\NPs h11 sA sn2 sc (⟨orN,((dx:Rat),(dy:Rat))⟩::qs.map (shN ((dx:Rat),(dy:Rat)))):=by
      rcases ho2 with ⟨_,q,h1,h2,h3⟩ | ⟨_,_,q,_⟩
      ·cases q;exact ⟨h1,h3⟩
      ·cases q
     have hrn:=ur.len
     have hsn:=us.len
     rw [List.length_cons,List.length_map] at hsn
     have hql:qs.length=l.length:=by
      rw [runV_L,if_pos hck] at k1
      have:=runL_len k1
      simpa using this
     refine Br.mk (fun q=>by exact absurd q (by decide)) (fun _=> ?_)
     refine ⟨fun b h' => b=false/\h11=h', ?_,Br.mk (fun q=>by exact absurd q (by decide)) (fun _=> ?_)⟩
     ·rintro _ _ ⟨rfl,rfl⟩
      refine Br.mk (fun q=>by cases q) (fun _=> ?_)
      refine ⟨fun mm i h' => ∃ j,j<=qs.length/\mm=qs.length-j/\i=(j:Int)/\Le h11 h', ⟨qs.length,0,by omega,by omega,rfl,Le.refl _⟩, ?_⟩
      rintro mm _ h12 ⟨j,hj,rfl,rfl,l12⟩
      refine Br.mk (fun q3=> ?_) (fun q3=>lv_c t tb (lWB.trans l12) fun _ l=>⟨rfl,l⟩)
      have hlt:j<qs.length:=by have:=of_decide_eq_true q3;omega
      obtain ⟨p,hp⟩ : ∃ p,qs[j]?=some p:=⟨_,List.getElem?_eq_getElem hlt⟩
      have hp2:(⟨orN,((dx:Rat),(dy:Rat))⟩::qs.map (shN ((dx:Rat),(dy:Rat))):List Nmd)[j+1]?=some (shN ((dx:Rat),(dy:Rat)) p):=by rw [List.getElem?_cons_succ,List.getElem?_map,hp];rfl
      obtain ⟨ad,x1,y1,eS,n1,p1,w1⟩:=(us.mono l12).nm hp2
      obtain ⟨ad2,x2,y2,eR,n2,p2,w2⟩:=(ur.mono (l11.trans l12)).nm hp
      have e1:IntKind.i64.wrap ((j:Int)+1)=((j+1:Nat):Int):=wi (by omega) (by omega)
      rintro _ rfl
      rw [e1,Int.toNat_natCast,Int.toNat_natCast]
      refine ⟨ad,eS,by omega,by omega,_,_,_,_,_,_,_,_,_,_,_,_,_,_,p1,ad2,eR,by omega,by omega,_,_,_,_,_,_,_,_,_,_,_,_,_,_,p2, ?_⟩
      refine (pof_c dx dy (by omega) (by omega) (by omega) (by omega) h12).mono ?_
      rintro _ h13 ⟨z1,z2,rfl,wz,l13⟩
      refine ⟨_,_,_,_,_,_,_,_,_,_,_,_,_,_,rfl,l13, ?_⟩
      refine (padd_c (w2.mono l13) wz (by omega) (by omega)).mono ?_
      rintro _ h14 ⟨a1,a2,rfl,wa,l14⟩
      refine ⟨_,_,_,_,_,_,_,_,_,_,_,_,_,_,rfl,l14, ?_⟩
      refine (psame_c (w1.mono (l13.trans l14)) wa (by omega) (by omega)).mono ?_
      rintro _ h15 ⟨rfl,l15⟩
      have l125:=(l13.trans l14).trans l15
      rw [decide_eq_true (show (shN ((dx:Rat),(dy:Rat)) p).pos=ptAdd p.pos ((dx:Rat),(dy:Rat)) from rfl)]
      refine ⟨_,rfl,Br.mk (fun q=>by cases q) (fun _=> ?_)⟩
      rintro _ rfl
      refine ⟨ad,eS,by omega,by omega,_,by rw [Int.toNat_natCast];exact LdN.mono n1 l125,ad2,eR,by omega,by omega,_,LdN.mono n2 l125,Br.mk (fun q=> ?_) (fun _=> ?_)⟩
      ·rw [show (shN ((dx:Rat),(dy:Rat)) p).name=p.name from rfl] at q
       simp at q
      ·rintro _ rfl
       exact ⟨qs.length-(j+1),by omega,j+1,by omega,rfl,rfl,l12.trans l125⟩
     ·rintro _ rfl
      rw [show IntKind.i64.wrap (((rn:Nat):Int)+1)=((rn+1:Nat):Int) from wi (by omega) (by omega)]
      refine ⟨?_,rfl⟩
      rw [hsn,hrn]
      simp
   ·rintro g8 _ hg8 rfl
    have lg8:=Le.new hg8 (⟨[],45,(0,0)⟩:Blk)
    refine ⟨mvC x y,⟨rfl,fun _=>⟨_,rfl,rfl,_,lg8 _ _ hb7,rfl⟩⟩, ?_,fun q=>by omega,fun _=>⟨[],⟨rfl,fun q=>by omega⟩,by omega, ?_⟩⟩
    ·intro v hv
     simp only [List.mem_cons,List.not_mem_nil,or_false] at hv
     rcases hv with rfl | rfl | rfl | rfl | rfl | rfl | rfl | rfl<;>rfl
    rintro g9 cap _ hg9 hcap rfl
    have lg9:=Le.new hg9 (⟨[]++mvC x y++repV [Value.string ByteArray.empty,Value.bool false,Value.slice none 0 0,Value.slice none 0 0] (cap-(0+2)),45,(0,0)⟩:Blk)
    have l89:=lg8.trans lg9
    obtain ⟨xs,hrd,hone,hms⟩:=(env.mono ((l05.trans l58).trans l89)).cells
    have hxl:xs.length=en*4:=hrd.1
    have hrl : ∀ m:Nat,(repV [Value.string ByteArray.empty,Value.bool false,Value.slice none 0 0,Value.slice none 0 0] m).length=4*m:=fun m=>by
     induction m with
     | zero=>rfl
     | succ m ih=>rw [repV,List.length_append,ih];simp;omega
    refine ⟨xs,hrd,hone,fun hle=>Br.mk (fun q3=> ?_) (fun q3=> ?_),fun hlt=>⟨mvC x y,⟨rfl,fun _=>⟨_,rfl,rfl,_,Heap.put_same _ _ _,rfl⟩⟩,by have:=hl.1;unfold briefV at hbr;rw [Bool.and_eq_true,decide_eq_true_eq] at hbr;omega, ?_⟩⟩
    ·have h0:en=0:=by have:=of_decide_eq_true q3;omega
     have hm0:ms=[]:=List.length_eq_zero_iff.1 (by omega)
     refine ⟨l89,mv_env (xs:=[]) (rest:=repV [Value.string ByteArray.empty,Value.bool false,Value.slice none 0 0,Value.slice none 0 0] (cap-(0+2))) (ty:=45) (ux8.mono l89) (uy8.mono l89) (by rw [hm0];trivial) ?_ hbr (by omega) hle⟩
     rw [Heap.put_same]
     simp
    ·refine ⟨_,_,rfl,rfl,Heap.put_same _ _ _,rfl, ?_, ?_⟩
     ·simp only [List.nil_append,List.length_append,hrl]
      simp
      omega
     ·rintro _ rfl
      have hseg:setSeg ([]++mvC x y++repV [Value.string ByteArray.empty,Value.bool false,Value.slice none 0 0,Value.slice none 0 0] (cap-(0+2))) (0+(0+2)*4) xs=mvC x y++xs++(repV [Value.string ByteArray.empty,Value.bool false,Value.slice none 0 0,Value.slice none 0 0] (cap-(0+2))).drop xs.length:=by
       unfold setSeg
       rw [List.nil_append,List.take_append_of_le_length (by simp),List.take_of_length_le (by simp),show 0+(0+2)*4+xs.length=(mvC x y).length+xs.length by simp,List.drop_append,List.drop_of_length_le (by omega),List.nil_append]
       congr 2
       omega
      simp only
      rw [hseg,Heap.put_put]
      have l9' : Le ((h8.put g8 ⟨[],45,(0,0)⟩)) ((h8.put g8 ⟨[],45,(0,0)⟩).put g9 ⟨mvC x y++xs++(repV [Value.string ByteArray.empty,Value.bool false,Value.slice none 0 0,Value.slice none 0 0] (cap-(0+2))).drop xs.length,45,(0,0)⟩):=Le.new hg9 _
      obtain ⟨xs', hrd', _,hms'⟩:=(env.mono ((l05.trans l58).trans lg8)).cells
      have exs:xs' = xs:=by
       rcases Nat.eq_zero_or_pos (en*4) with h0 | hpos
       ·have a:=hrd.1;have b:=hrd'.1
        rw [h0] at a b
        rw [List.length_eq_zero_iff.1 a,List.length_eq_zero_iff.1 b]
       ·obtain ⟨a1,b1,c1,d1,e1,f1⟩:=hrd.2 hpos
        obtain ⟨a2,b2,c2,d2,e2,f2⟩:=hrd'.2 hpos
        rw [b1] at b2
        cases b2
        have e3:=lg9 _ _ e2
        rw [e1] at e3
        cases e3
        rw [<- f1,<- f2,hrd.1,hrd'.1]
      rw [exs] at hms'
      refine ⟨lg8.trans l9', mv_env (ty:=45) (ux8.mono (lg8.trans l9')) (uy8.mono (lg8.trans l9')) (IsMs.mono l9' hms') (Heap.put_same _ _ _) hbr (by omega) hle⟩
    ·rintro g11 cap4 _ hg11 hcap4 rfl
     have lg11:=Le.new hg11 (⟨mvC x y++xs++repV [Value.string ByteArray.empty,Value.bool false,Value.slice none 0 0,Value.slice none 0 0] (cap4-(0+2+en)),45,(0,0)⟩:Blk)
     refine ⟨l89.trans lg11,mv_env (ty:=45) (ux8.mono (l89.trans lg11)) (uy8.mono (l89.trans lg11)) (IsMs.mono lg11 hms) (Heap.put_same _ _ _) hbr (by omega) hcap4⟩
 ·refine (llight_c u env).mono ?_
  rintro _ _ ⟨b,rfl,rfl,hb⟩
  refine ⟨_,rfl,Br.mk (fun _=>⟨Le.refl _,fun e=>by cases e⟩) (fun q=> ?_)⟩
  obtain ⟨hl,hbr⟩:=hb (by simpa using q)
  have h70:=hl.1
  refine Br.mk (fun _=>⟨Le.refl _,fun e=>by cases e⟩) (fun q2=> ?_)
  have h64:=of_decide_eq_false q2
  refine (drChk_c u (by omega) (fun _=>hl.sz) t).mono ?_
  rintro _ h1 ⟨rfl,l1⟩
  exact ⟨_,rfl,l1,fun e=>⟨hl,hbr,by omega,by simpa using e⟩⟩
end Go.Proofs.YtfglcgbgaeegaaaGreatDoor
