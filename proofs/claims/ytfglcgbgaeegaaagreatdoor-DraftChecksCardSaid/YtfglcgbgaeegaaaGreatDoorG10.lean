/-
 Gathered texts of this proof: Rf1,Rf2,Rf3,Rf4,Me7,Pl6,Me8,Rf5,Fa1,Rg1,La1,Pn2,La2,Rg2,Rf6,Rg5,Pp1,Pp2,Pp3,Pp4,Rh1.
-/
import Derived.Test.YtfglcgbgaeegaaaGreatDoorG09
import Derived.Test.YtfglcgbgaeegaaaGreatDoorG08
import Derived.Test.YtfglcgbgaeegaaaGreatDoorG06

namespace Go.Proofs.YtfglcgbgaeegaaaGreatDoor
open Go Go.Vcg
attribute [local irreducible] Br
theorem limb_c {h:Heap} {A:Option Addr} {n c:Nat} {xs:List Nat} (u:U32 h A n c xs) (i:Nat) :
  CallsU Tryz.prog 192 [.slice A n c,.int .i64 i] h fun r h' => r = .int .u64 (xs.getD i 0)/\h=h' := by
 apply ref01_limb_ok
 refine Br.mk (fun q=>by simp at q;omega) (fun _=>Br.mk (fun q=> ?_) (fun q=> ?_))
 ·have q' : n<=i:=by have:=of_decide_eq_true q;omega
  rw [getD_ge (by rw [u.len];exact q')]
  exact ⟨rfl,rfl⟩
 ·have q' : i<n:=by have:=of_decide_eq_false q;omega
  obtain ⟨ad,hA,hl⟩:=u.get q'
  have hlt:=u.getD_lt i
  rw [Int.toNat_natCast]
  refine ⟨ad,hA,by omega,by omega,_,hl, ?_⟩
  rw [wu (n:=xs.getD i 0) rfl (by omega)]
  exact ⟨rfl,rfl⟩
theorem app_none {h:Heap} {A:Option Addr} {c:Nat} {xs:List Nat} {m:Nat} (u:U32 h A m c xs) (hm:m<=35184372088832) {K:Option Addr->Nat->Nat->Heap->Prop}
  (k0:m=0->K none 0 0 h) (k1 : ∀ (g cap:Nat),h g=none->m<=cap->0<m->K (some ⟨g,0,none⟩) m cap (h.put g ⟨(xs++List.replicate (cap-m) 0).map lv,166,(0,0)⟩)) :
  ∃ ys:List Value,RdS h A (m*1) ys/\(∀ x∈ys,Go.Vcg.one x=true)/\
   (0+m<=0->Br (decide (m*1=0)) (K none (0+m) 0 h) (∃ (ad:Addr) (b:Blk),none=some ad/\ad.spot=none/\h ad.block=some b/\b.fz=(0,0)/\ad.off+0*1+m*1<=b.cells.length/\
    ∀ h' : Heap,h' = Heap.put h ad.block { b with cells:=setSeg b.cells (ad.off+0*1) ys }->K none (0+m) 0 h'))/\
   (0<0+m-> ∃ olds:List Value,RdS h none (0*1) olds/\(0+m)*4<=140737488355328/\
    ∀ (g cap:Nat) (h' : Heap),h g=none->0+m<=cap->h' = Heap.put h g ⟨olds++ys++repV [Value.int .u32 0] (cap-(0+m)),166,(0,0)⟩->K (some ⟨g,0,none⟩) (0+m) cap h'):=by
 rw [Nat.zero_add]
 refine ⟨xs.map lv,u.rds,lv_one _,fun h0=>Br.mk (fun _=> ?_) (fun q=> ?_),fun hp=> ?_⟩
 ·have:m=0:=by omega
  subst this
  exact k0 rfl
 ·exfalso
  have:m=0:=by omega
  subst this
  simp at q
 ·refine ⟨[],⟨rfl,fun q=>absurd q (Nat.lt_irrefl 0)⟩,by omega, ?_⟩
  rintro g cap h' hg hc rfl
  rw [repV_lv,List.nil_append,<- List.map_append]
  exact k1 g cap hg hc hp
theorem r1norm_c {h:Heap} {A:Option Addr} {n c v:Nat} (u:IsN h A n c v) (hn:n<=35184372088832) :
  CallsU Tryz.prog 185 [.slice A n c] h fun r h' => ∃ A' m c', r = .slice A' m c' /\ m<=n/\NmN h' A' m c' v/\Le h h' := by
 apply ref01_Norm_ok
 obtain ⟨xs,u,rfl⟩:=u
 have hc:=u.cap
 refine ⟨fun m k h' => h=h' /\ k=(m:Int)/\m<=n/\trimL xs=trimL (xs.take m),⟨n,rfl,rfl,Nat.le_refl _,by rw [List.take_of_length_le (Nat.le_of_eq u.len)]⟩, ?_⟩
 rintro m k h' ⟨rfl,rfl,hm,ht⟩
 have fin:Nrm (xs.take m)-> ∃ ys:List Value,RdS h A (m*1) ys/\(∀ x∈ys,Go.Vcg.one x=true)/\
   (0+m<=0->Br (decide (m*1=0)) ((fun r h' => ∃ A' m c', r = .slice A' m c' /\ m<=n/\NmN h' A' m c' (val xs)/\Le h h') (Value.slice none (0+m) 0) h) (∃ (ad:Addr) (b:Blk),none=some ad/\ad.spot=none/\h ad.block=some b/\b.fz=(0,0)/\ad.off+0*1+m*1<=b.cells.length/\
    ∀ h_3:Heap,h_3=Heap.put h ad.block { b with cells:=setSeg b.cells (ad.off+0*1) ys }->(fun r h' => ∃ A' m c', r = .slice A' m c' /\ m<=n/\NmN h' A' m c' (val xs)/\Le h h') (Value.slice none (0+m) 0) h_3))/\
   (0<0+m-> ∃ olds:List Value,RdS h none (0*1) olds/\(0+m)*4<=140737488355328/\
    ∀ (g cap:Nat) (h_4:Heap),h g=none->0+m<=cap->h_4=Heap.put h g ⟨olds++ys++repV [Value.int .u32 0] (cap-(0+m)),166,(0,0)⟩->(fun r h' => ∃ A' m c', r = .slice A' m c' /\ m<=n/\NmN h' A' m c' (val xs)/\Le h h') (Value.slice (some ⟨g,0,none⟩) (0+m) cap) h_4):=by
  intro hN
  have hval:val (xs.take m)=val xs:=by rw [<- trimL_val xs,ht,trimL_of_nrm hN]
  refine app_none (K:=fun A m c h' => (fun r h' => ∃ A' m c', r = .slice A' m c' /\ m<=n/\NmN h' A' m c' (val xs)/\Le h h') (Value.slice A m c) h') (u.take hm) (by omega) (fun e=> ?_) (fun g cap hg hcap hp=> ?_)
  ·subst e
   exact ⟨_,_,_,rfl,Nat.zero_le _,⟨[],U32.nil _ _ _,by rw [<- hval];rfl,nrm_nil⟩,Le.refl _⟩
  ·refine ⟨_,_,_,rfl,hm,⟨xs.take m, ?_,hval,hN⟩,Le.new hg _⟩
   have:=U32.of_blk (m:=m) (k:=cap) (h:=h.put g ⟨(xs.take m++List.replicate (cap-m) 0).map lv,166,(0,0)⟩) (Heap.put_same _ _ _) (fun x hx=> ?_) (by simp [u.len];omega) hcap
   ·rwa [List.take_left' (by simp [u.len];omega)] at this
   ·rcases List.mem_append.1 hx with a | a
    ·exact u.lt x (List.mem_of_mem_take a)
    ·rw [(List.mem_replicate.1 a).2];decide
 refine Br.mk (fun hp=> ?_) (fun hp=> ?_)
 ·have hp' : 0<m:=by simp at hp;omega
  obtain ⟨m,rfl⟩ : ∃ q,m=q+1:=⟨m-1,by omega⟩
  rintro _ rfl
  rw [wi (n:=m) (by omega) (by omega)]
  obtain ⟨ad,hA,hl⟩:=u.get (i:=m) (by omega)
  rw [Int.toNat_natCast,Int.toNat_natCast]
  refine ⟨ad,hA,by omega,by omega,_,hl,Br.mk (fun h0=> ?_) (fun h0=> ?_)⟩
  ·rintro _ rfl
   refine ⟨m,by omega,rfl,rfl,by omega, ?_⟩
   rw [ht,take_last (by rw [u.len];omega)]
   have:xs.getD m 0=0:=by have:=beq_iff_eq.1 h0;omega
   rw [this,trimL_snoc_zero]
  ·have hnz:xs.getD m 0≠0:=by
    have:=beq_eq_false_iff_ne.1 h0
    omega
   refine ⟨by omega,by omega,fin ?_⟩
   rw [take_last (by rw [u.len];omega)]
   simpa [Nrm] using hnz
 ·have hp' : m=0:=by simp at hp;omega
  subst hp'
  rw [Int.toNat_natCast]
  exact ⟨by omega,by omega,fin (by simp [Nrm])⟩
theorem max_ite (n m:Nat):(if decide (((m:Nat):Int)>((n:Nat):Int)) then ((m:Nat):Int) else ((n:Nat):Int))=((max n m:Nat):Int):=by
 simp only [decide_eq_true_eq]
 split<;>omega
theorem val_take_le (xs:List Nat) {k:Nat} (h:xs.length<=k):val (xs.take k)=val xs:=by rw [List.take_of_length_le h]
theorem val_take_lt' {xs:List Nat} (h : ∀ x∈xs,x<B32) (k:Nat):val (xs.take k)<B32^k:=by
 rcases Nat.lt_or_ge k xs.length with q | q
 ·exact val_take_lt h (by omega)
 ·rw [val_take_le _ q]
  exact Nat.lt_of_lt_of_le (val_lt h) (Nat.pow_le_pow_right (by decide) q)
theorem cmp_step {X Y H a b M:Nat} (hX:X<M) (hab:a<b):X+M*a+H<Y+M*b+H:=by
 have:M*(a+1)<=M*b:=Nat.mul_le_mul_left _ hab
 rw [Nat.mul_add] at this
 omega
theorem r1cmp_c {h:Heap} {A B:Option Addr} {n c m d x y:Nat} (ux:IsN h A n c x) (uy:IsN h B m d y) (hn:n<=1099511627776) (hm:m<=1099511627776) :
  CallsU Tryz.prog 228 [.slice A n c,.slice B m d] h fun v h' => v = .int .i64 (cmpI x y)/\h=h' := by
 apply ref01_Cmp_ok
 obtain ⟨xs,u,rfl⟩:=ux
 obtain ⟨ys,w,rfl⟩:=uy
 unfold ref01_Cmp_vc
 rw [max_ite]
 rintro _ rfl
 rw [wrap_i64 (by omega) (by omega)]
 refine ⟨fun q i h' => ∃ H:Nat,i=(q:Int)-1/\q<=max n m/\h=h' /\ val xs=val (xs.take q)+H/\val ys=val (ys.take q)+H,⟨max n m,0,rfl,Nat.le_refl _,rfl, ?_, ?_⟩, ?_⟩
 ·rw [val_take_le _ (by rw [u.len];omega)];rfl
 ·rw [val_take_le _ (by rw [w.len];omega)];rfl
 rintro q _ _ ⟨H,rfl,hq,rfl,hx,hy⟩
 refine Br.mk (fun b=> ?_) (fun b=> ?_)
 ·have b' : 0<q:=by have:=of_decide_eq_true b;omega
  obtain ⟨q,rfl⟩ : ∃ t,q=t+1:=⟨q-1,by omega⟩
  rw [show ((q+1:Nat):Int)-1=(q:Int) from by omega]
  have lx:=val_take_lt' (xs:=xs) u.lt q
  have ly:=val_take_lt' (xs:=ys) w.lt q
  rw [val_take_succ'] at hx hy
  refine (limb_c u q).mono ?_
  rintro _ _ ⟨rfl,rfl⟩
  refine ⟨_,rfl,(limb_c w q).mono ?_⟩
  rintro _ _ ⟨rfl,rfl⟩
  refine ⟨_,rfl,Br.mk (fun b1=> ?_) (fun b1=> ?_)⟩
  ·have b2:xs.getD q 0<ys.getD q 0:=by have:=of_decide_eq_true b1;omega
   rw [cmpI_lt]
   ·exact ⟨rfl,rfl⟩
   ·rw [hx,hy];exact cmp_step lx b2
  ·have b2:ys.getD q 0<=xs.getD q 0:=by have:=of_decide_eq_false b1;omega
   refine (limb_c u q).mono ?_
   rintro _ _ ⟨rfl,rfl⟩
   refine ⟨_,rfl,(limb_c w q).mono ?_⟩
   rintro _ _ ⟨rfl,rfl⟩
   refine ⟨_,rfl,Br.mk (fun b3=> ?_) (fun b3=> ?_)⟩
   ·have b4:ys.getD q 0<xs.getD q 0:=by have:=of_decide_eq_true b3;omega
    rw [cmpI_gt]
    ·exact ⟨rfl,rfl⟩
    ·rw [hx,hy];exact cmp_step ly b4
   ·have b4:xs.getD q 0=ys.getD q 0:=by have:=of_decide_eq_false b3;omega
    rintro _ rfl
    rw [wrap_i64 (by omega) (by omega)]
    refine ⟨q,by omega,H+B32^q*xs.getD q 0,rfl,by omega,rfl,by omega,by rw [b4];omega⟩
 ·have b' : q=0:=by have:=of_decide_eq_false b;omega
  subst b'
  have:val xs=val ys:=by simp [val] at hx hy;omega
  rw [this,cmpI_eq]
  exact ⟨rfl,rfl⟩
theorem own_is {h h' : Heap} {A:Option Addr} {n c:Nat} {gs:List Nat} (o:OwnE lv 166 h h' A n c gs) (hlt : ∀ x∈gs,x<4294967296):IsN h' A n c (val gs):=⟨gs,o.sl.u32 hlt,rfl⟩
theorem mem_snoc32 {gs:List Nat} {y:Nat} (h : ∀ x∈gs,x<4294967296) (hy:y<4294967296) : ∀ x∈gs++[y],x<4294967296:=fun x hx=>by
 rcases List.mem_append.1 hx with a | a
 ·exact h x a
 ·rw [List.mem_singleton.1 a];exact hy
theorem val_snoc32 (gs:List Nat) (y:Nat):val (gs++[y])=val gs+B32^gs.length*y:=by
 rw [val_append]
 simp [val]
theorem w32t {a:Int} {n:Nat} (h:a=n):IntKind.u32.wrap (Int.tmod a 4294967296)=((n%B32:Nat):Int):=by
 subst h
 rw [Int.tmod_eq_emod_of_nonneg (by omega),wrap_u32_mod]
 unfold B32
 omega
theorem wdiv {a:Int} {n:Nat} (h:a=n) (hn:n<18446744073709551616):IntKind.u64.wrap (Int.tdiv a 4294967296)=((n/B32:Nat):Int):=by
 subst h
 rw [Int.tdiv_eq_ediv_of_nonneg (by omega),wrap_u64_mod]
 unfold B32
 omega
theorem modB (t:Nat):t%B32<4294967296:=Nat.mod_lt _ (by decide)
def AddI (h:Heap) (xs ys:List Nat) (M:Nat) (m:Nat) (oA:Option Addr) (on oc:Nat) (carry i:Int) (h' : Heap):Prop:=
 ∃ (k cN:Nat) (gs:List Nat),m=(M-k)*2+cN/\i=(k:Int)/\carry=(cN:Int)/\cN<=1/\(k<=M\/(k=M+1/\cN=0))/\gs.length=k/\(∀ x∈gs,x<4294967296)/\
  val gs+B32^k*cN=val (xs.take k)+val (ys.take k)/\OwnE lv 166 h h' oA on oc gs/\Le h h'
theorem radd_step {G X Y c p q x y t:Nat} (h:G+p*c=X+Y) (ht:x+y+c=t) (hq:q=p*B32):(G+p*(t%B32))+q*(t/B32)=(X+p*x)+(Y+p*y):=by
 have:=Nat.mod_add_div t B32
 subst hq
 grind
theorem r1add_c {h:Heap} {A B:Option Addr} {n c m d x y:Nat} (ux:IsN h A n c x) (uy:IsN h B m d y) (hn:n<=1099511627776) (hm:m<=1099511627776) :
  CallsU Tryz.prog 190 [.slice A n c,.slice B m d] h fun r h' => ∃ A' k c', r = .slice A' k c' /\ NmN h' A' k c' (x+y)/\Le h h' := by
 apply ref01_Add_ok
 obtain ⟨xs,u,rfl⟩:=ux
 obtain ⟨ys,w,rfl⟩:=uy
 have hB:B32=4294967296:=rfl
 unfold ref01_Add_vc
 refine ⟨AddI h xs ys (max n m),⟨_,0,0,[],rfl,rfl,rfl,by omega,Or.inl (by omega),rfl,by simp,by simp [val],OwnE.nil h,Le.refl h⟩, ?_⟩
 rintro _ oA on oc _ _ h1 ⟨k,cN,gs,rfl,rfl,rfl,hc,hk,hgl,hlt,hv,own,hle⟩
 have hon:=own.1
 refine ⟨fun h2=>h1=h2/\(k<max n m\/0<cN), ?_, ?_⟩
 ·rintro _ ⟨rfl,hgo⟩
  have lx:=u.getD_lt k
  have ly:=w.getD_lt k
  refine (limb_c (u.mono hle) k).mono ?_
  rintro _ _ ⟨rfl,rfl⟩
  refine ⟨_,rfl,(limb_c (w.mono hle) k).mono ?_⟩
  rintro _ _ ⟨rfl,rfl⟩
  refine ⟨_,rfl, ?_⟩
  rintro _ rfl _ rfl _ rfl g0 _ hg0 rfl
  rw [wu (a:=((xs.getD k 0:Nat):Int)+((ys.getD k 0:Nat):Int)) (n:=xs.getD k 0+ys.getD k 0) (by omega) (by omega),wu (a:=((xs.getD k 0+ys.getD k 0:Nat):Int)+(cN:Int)) (n:=xs.getD k 0+ys.getD k 0+cN) (by omega) (by omega),w32t rfl]
  generalize ht:xs.getD k 0+ys.getD k 0+cN=t
  refine own.app (x:=t%B32) (z:=0) (bs:=4) (K:=fun A c hh=> ∀ t38:Int,t38=IntKind.u64.wrap (Int.tdiv (t:Int) 4294967296)-> ∀ t21:Int,t21=IntKind.i64.wrap ((k:Int)+1)-> ∃ m', m' < (max n m-k)*2+cN/\AddI h xs ys (max n m) m' A (on+1) c t38 t21 hh) hle lv_one1 rfl rfl hg0 (by omega) ?_
  intro A' c' h' o l _
  rintro _ rfl _ rfl
  rw [wdiv rfl (by omega),wi (n:=k+1) (by omega) (by omega)]
  have hk1:k<=max n m:=by omega
  have hend:k=max n m->t<=1:=fun e=>by
   have e1:=getD_ge (xs:=xs) (k:=k) (by rw [u.len];omega)
   have e2:=getD_ge (xs:=ys) (k:=k) (by rw [w.len];omega)
   omega
  refine ⟨_, ?_,k+1,t/B32,gs++[t%B32],rfl,rfl,rfl, ?_, ?_,by simp [hgl],mem_snoc32 hlt (modB t), ?_,o,l⟩
  ·rw [hB];omega
  ·rw [hB];omega
  ·rw [hB];omega
  ·rw [val_snoc32,hgl,val_take_succ', val_take_succ']
   exact radd_step hv ht (Nat.pow_succ _ _)
 ·rw [max_ite]
  refine Br.mk (fun b=>⟨rfl,Or.inl (by have:=of_decide_eq_true b;omega)⟩) (fun b=>Br.mk (fun b2=>⟨rfl,Or.inr (by have:=of_decide_eq_true b2;omega)⟩) (fun b2=> ?_))
  have b' : max n m<=k:=by have:=of_decide_eq_false b;omega
  have c0:cN=0:=by have:=of_decide_eq_false b2;omega
  subst c0
  rw [val_take_le xs (by rw [u.len];omega),val_take_le ys (by rw [w.len];omega),Nat.mul_zero,Nat.add_zero] at hv
  refine (r1norm_c (own_is own hlt) (by omega)).mono ?_
  rintro _ h2 ⟨A', k', c', rfl,_,hN,hl⟩
  rw [hv] at hN
  exact ⟨_,_,_,rfl,_,_,_,rfl,hN,hle.trans hl⟩
def SubI (h:Heap) (xs ys:List Nat) (M:Nat) (m:Nat) (oA:Option Addr) (on oc:Nat) (borrow i:Int) (h' : Heap):Prop:=
 ∃ (k bN:Nat) (gs:List Nat),m=M-k/\i=(k:Int)/\borrow=(bN:Int)/\bN<=1/\k<=M/\gs.length=k/\(∀ x∈gs,x<4294967296)/\
  val gs+val (ys.take k)=val (xs.take k)+B32^k*bN/\OwnE lv 166 h h' oA on oc gs/\Le h h'
theorem rsub_step {G X Y b p q x y t:Nat} (h:G+Y=X+p*b) (ht:B32+x=t+y+b) (hb:t/B32<=1) (hq:q=p*B32):(G+p*(t%B32))+(Y+p*y)=(X+p*x)+q*(1-t/B32):=by
 have h1:=Nat.mod_add_div t B32
 subst hq
 rcases Nat.le_one_iff_eq_zero_or_eq_one.1 hb with e0 | e0
 ·rw [e0] at h1 ⊢
  simp only [Nat.sub_zero,Nat.mul_one,Nat.mul_zero,Nat.add_zero] at *
  generalize t%B32=r at *
  subst h1
  have:p*B32+p*x=p*r+p*y+p*b:=by rw [<- Nat.mul_add,ht];rw [Nat.mul_add,Nat.mul_add]
  omega
 ·rw [e0] at h1 ⊢
  simp only [Nat.sub_self,Nat.mul_one,Nat.mul_zero,Nat.add_zero] at *
  generalize t%B32=r at *
  have hr:x=r+y+b:=by omega
  subst hr
  rw [Nat.mul_add,Nat.mul_add]
  omega
theorem r1sub_c {h:Heap} {A B:Option Addr} {n c m d x y:Nat} (ux:IsN h A n c x) (uy:IsN h B m d y) (hn:n<=1099511627776) (hm:m<=1099511627776) :
  CallsU Tryz.prog 191 [.slice A n c,.slice B m d] h fun r h' => (x<y/\r = .tuple #[.slice none 0 0,.bool false]/\h=h')\/(y<=x/\ ∃ A' k c', r = .tuple #[.slice A' k c', .bool true]/\NmN h' A' k c' (x-y)/\Le h h'):=by
 apply ref01_Sub_ok
 refine (r1cmp_c ux uy hn hm).mono ?_
 rintro _ _ ⟨rfl,rfl⟩
 refine ⟨_,rfl,Br.mk (fun b=> ?_) (fun b=> ?_)⟩
 ·have b' := of_decide_eq_true b
  refine Or.inl ⟨?_,rfl,rfl⟩
  unfold cmpI at b'
  split at b'
  ·omega
  ·split at b' <;> omega
 ·have b' := of_decide_eq_false b
  have hyx:y<=x:=by
   unfold cmpI at b'
   split at b'
   ·omega
   ·omega
  obtain ⟨xs,u,rfl⟩:=ux
  obtain ⟨ys,w,rfl⟩:=uy
  have hB:B32=4294967296:=rfl
  refine ⟨SubI h xs ys (max n m),⟨_,0,0,[],rfl,rfl,rfl,by omega,by omega,rfl,by simp,by simp [val],OwnE.nil h,Le.refl h⟩, ?_⟩
  rintro _ oA on oc _ _ h1 ⟨k,bN,gs,rfl,rfl,rfl,hb,hk,hgl,hlt,hv,own,hle⟩
  have hon:=own.1
  rw [max_ite]
  refine Br.mk (fun q=> ?_) (fun q=> ?_)
  ·have q' : k<max n m:=by have:=of_decide_eq_true q;omega
   have lx:=u.getD_lt k
   have ly:=w.getD_lt k
   refine (limb_c (u.mono hle) k).mono ?_
   rintro _ _ ⟨rfl,rfl⟩
   refine ⟨_,rfl, ?_⟩
   rintro _ rfl
   rw [wu (n:=4294967296+xs.getD k 0) (by omega) (by omega)]
   refine (limb_c (w.mono hle) k).mono ?_
   rintro _ _ ⟨rfl,rfl⟩
   refine ⟨_,rfl, ?_⟩
   rintro _ rfl _ rfl _ rfl g0 _ hg0 rfl
   rw [wu (a:=((4294967296+xs.getD k 0:Nat):Int)-((ys.getD k 0:Nat):Int)) (n:=4294967296+xs.getD k 0-ys.getD k 0) (by omega) (by omega),wu (a:=((4294967296+xs.getD k 0-ys.getD k 0:Nat):Int)-(bN:Int)) (n:=4294967296+xs.getD k 0-ys.getD k 0-bN) (by omega) (by omega),w32t rfl]
   have ht:B32+xs.getD k 0=(4294967296+xs.getD k 0-ys.getD k 0-bN)+ys.getD k 0+bN:=by rw [hB];omega
   have htl:4294967296+xs.getD k 0-ys.getD k 0-bN<2*4294967296:=by omega
   generalize 4294967296+xs.getD k 0-ys.getD k 0-bN=t at ht htl ⊢
   refine own.app (x:=t%B32) (z:=0) (bs:=4) (K:=fun A c hh=> ∀ t40:Int,t40=IntKind.u64.wrap (Int.tdiv (t:Int) 4294967296)-> ∀ t41:Int,t41=IntKind.u64.wrap (1-t40)-> ∀ t22:Int,t22=IntKind.i64.wrap ((k:Int)+1)-> ∃ m', m' < max n m-k/\SubI h xs ys (max n m) m' A (on+1) c t41 t22 hh) hle lv_one1 rfl rfl hg0 (by omega) ?_
   intro A' c' h' o l _
   rintro _ rfl _ rfl _ rfl
   have hd:t/B32<=1:=by rw [hB];omega
   rw [wdiv rfl (by omega),wi (n:=k+1) (by omega) (by omega),wu (a:=1-((t/B32:Nat):Int)) (n:=1-t/B32) (by omega) (Nat.lt_of_le_of_lt (Nat.sub_le 1 _) (by decide))]
   refine ⟨_,by omega,k+1,1-t/B32,gs++[t%B32],rfl,rfl,rfl,Nat.sub_le 1 _,by omega,by simp [hgl],mem_snoc32 hlt (modB t), ?_,o,l⟩
   rw [val_snoc32,hgl,val_take_succ', val_take_succ']
   exact rsub_step hv ht hd (Nat.pow_succ _ _)
  ·have q' : k=max n m:=by have:=of_decide_eq_false q;omega
   have hg:=val_lt (l:=gs) hlt
   rw [hgl] at hg
   rw [val_take_le ys (by rw [w.len];omega),val_take_le xs (by rw [u.len];omega)] at hv
   have b0:bN=0:=by
    rcases Nat.eq_zero_or_pos bN with e | e
    ·exact e
    ·exfalso
     have:bN=1:=by omega
     subst this
     omega
   subst b0
   refine (r1norm_c (own_is own hlt) (by omega)).mono ?_
   rintro _ h2 ⟨A', k', c', rfl,_,hN,hl⟩
   rw [show val gs=val xs-val ys from by omega] at hN
   exact ⟨_,_,_,rfl,Or.inr ⟨hyx,_,_,_,rfl,hN,hle.trans hl⟩⟩
theorem r1mul_c {h:Heap} {A B:Option Addr} {n c m d x y:Nat} (ux:IsN h A n c x) (uy:IsN h B m d y) (hn:n<=1099511627776) (hm:m<=1099511627776) :
  CallsU Tryz.prog 122 [.slice A n c,.slice B m d] h fun r h' => ∃ A' k c', r = .slice A' k c' /\ NmN h' A' k c' (x*y)/\Le h h' := by
 apply ref01_Mul_ok
 obtain ⟨xs,a,rfl⟩:=ux
 obtain ⟨ys,b,rfl⟩:=uy
 have la:=a.len
 have lb:=b.len
 have hbd2:B32*B32=18446744073709551616:=by decide
 rintro _ rfl
 rw [wi (n:=n+m) (by omega) (by omega)]
 refine ⟨by omega,by omega,by omega,by omega, ?_⟩
 rintro g h4 hg rfl
 simp only [Int.toNat_natCast]
 refine ⟨fun q i h' => ∃ (k:Nat) (rs:List Nat),q=n-k/\k<=n/\i=(k:Int)/\rs.length=n+m/\(∀ x∈rs,x<B32)/\(∀ j,k+m<=j->rs.getD j 0=0)/\
   h' g=some ⟨rs.map lv,166,(0,0)⟩/\Le h h' /\ val (rs.take (k+m))=val (xs.take k)*val ys,
  ⟨n,0,List.replicate (n+m) 0,rfl,by omega,rfl,by simp,fun x hx=>by rw [List.mem_replicate] at hx;rw [hx.2];decide,fun j _=>by simp [List.getElem?_replicate];split<;>rfl,
   by rw [Heap.put_same,repV_lv],Le.new hg _,by rw [List.take_replicate,val_zeros];simp [val]⟩, ?_⟩
 rintro _ _ h5 ⟨k,rs,rfl,hk,rfl,hrl,hrs,hz,hb,hl,hval⟩
 refine Br.mk (fun q=> ?_) (fun q=> ?_)
 ·have q' : k<n:=by have:=of_decide_eq_true q;omega
  have hxk:=a.getD_lt k
  refine ⟨fun m2 carry i2 h' => ∃ (j cN:Nat) (ss:List Nat),m2=m-j/\j<=m/\i2=(j:Int)/\carry=(cN:Int)/\cN<B32/\ss.length=n+m/\(∀ x∈ss,x<B32)/\ss.drop (k+j)=rs.drop (k+j)/\
    h' g=some ⟨ss.map lv,166,(0,0)⟩/\Le h h' /\ val (ss.take (k+j))+B32^(k+j)*cN=val (rs.take (k+j))+B32^k*xs.getD k 0*val (ys.take j),
   ⟨m,0,0,rs,rfl,by omega,rfl,rfl,by decide,hrl,hrs,rfl,hb,hl,by simp [val]⟩, ?_⟩
  rintro _ _ _ h6 ⟨j,cN,ss,rfl,hj,rfl,rfl,hc,hsl,hss,hdrop,hb6,hl6,hv6⟩
  refine Br.mk (fun q2=> ?_) (fun q2=> ?_)
  ·have q2' : j<m:=by have:=of_decide_eq_true q2;omega
   have hyj:=b.getD_lt j
   have hsk:ss.getD (k+j) 0<B32:=getD_lt hss (by decide) _
   have hbd:=limb_bound (x:=xs.getD k 0) (y:=ys.getD j 0) hxk hyj hsk hc
   refine (limb_c (a.mono hl6) k).mono ?_
   rintro _ _ ⟨rfl,rfl⟩
   refine ⟨_,rfl,(limb_c (b.mono hl6) j).mono ?_⟩
   rintro _ _ ⟨rfl,rfl⟩
   refine ⟨_,rfl, ?_⟩
   rintro _ rfl _ rfl
   rw [wi (n:=k+j) (by omega) (by omega)]
   have us:=U32.of_blk (m:=n+m) (k:=n+m) hb6 hss (by omega) (Nat.le_refl _)
   rw [List.take_of_length_le (by omega)] at us
   refine (limb_c us (k+j)).mono ?_
   rintro _ _ ⟨rfl,rfl⟩
   refine ⟨_,rfl, ?_⟩
   rintro _ rfl _ rfl _ rfl _ rfl
   rw [wu (a:=((xs.getD k 0:Nat):Int)*((ys.getD j 0:Nat):Int)) (n:=xs.getD k 0*ys.getD j 0) (by rw [Int.natCast_mul]) (by omega),wu (a:=((xs.getD k 0*ys.getD j 0:Nat):Int)+((ss.getD (k+j) 0:Nat):Int)) (n:=xs.getD k 0*ys.getD j 0+ss.getD (k+j) 0) (Int.natCast_add _ _).symm (by omega),
    wu (a:=((xs.getD k 0*ys.getD j 0+ss.getD (k+j) 0:Nat):Int)+(cN:Int)) (n:=xs.getD k 0*ys.getD j 0+ss.getD (k+j) 0+cN) (Int.natCast_add _ _).symm (by omega),w32t rfl]
   have ht:cN+(xs.getD k 0*ys.getD j 0+ss.getD (k+j) 0)=xs.getD k 0*ys.getD j 0+ss.getD (k+j) 0+cN:=by omega
   rw [<- ht]
   generalize ht2:cN+(xs.getD k 0*ys.getD j 0+ss.getD (k+j) 0)=t at hbd ⊢
   simp only [Int.toNat_natCast]
   refine ⟨_,rfl,by omega,by omega,st_own (t%B32) hb6 (by omega) rfl ?_⟩
   rintro _ rfl _ rfl
   rw [wdiv rfl (by omega),wi (n:=j+1) (by omega) (by omega)]
   refine ⟨m-(j+1),by omega,j+1,t/B32,ss.set (k+j) (t%B32),rfl,by omega,rfl,rfl,Nat.div_lt_of_lt_mul hbd,by simp [hsl],mem_set hss (Nat.mod_lt _ (by decide)), ?_,Heap.put_same _ _ _,hl6.put hg _, ?_⟩
   ·rw [drop_set (by omega)]
    have:=congrArg (List.drop 1) hdrop
    simpa [List.drop_drop,Nat.add_assoc] using this
   ·rw [<- Nat.add_assoc,val_take_succ (by simp;omega),take_set_ge (Nat.le_refl _),getD_set_eq (by omega),val_take_succ (xs:=rs) (by omega),val_take_succ (xs:=ys) (by omega),<- getD_drop hdrop (Nat.le_refl _)]
    exact mul_step _ _ _ _ _ _ _ _ _ _ _ hv6 ht2 (by rw [Nat.pow_succ]) (B32^j) (by rw [Nat.pow_add])
  ·have hjm:j=m:=by have:=of_decide_eq_false q2;omega
   subst hjm
   rintro _ rfl
   rw [wi (n:=k+j) (by omega) (by omega)]
   simp only [Int.toNat_natCast]
   refine ⟨_,rfl,by omega,by omega,st_own cN hb6 (by omega) (by rw [w32 rfl,Nat.mod_eq_of_lt hc]) ?_⟩
   rintro _ rfl
   rw [wi (n:=k+1) (by omega) (by omega)]
   refine ⟨n-(k+1),by omega,k+1,ss.set (k+j) cN,rfl,by omega,rfl,by simp [hsl],mem_set hss hc,fun i hi=> ?_,Heap.put_same _ _ _,hl6.put hg _, ?_⟩
   ·rw [getD_set_ne (by omega),getD_drop hdrop (by omega)]
    exact hz i (by omega)
   ·have e:k+1+j=k+j+1:=by omega
    rw [e,val_take_succ (by simp;omega),take_set_ge (Nat.le_refl _),getD_set_eq (by omega),hv6,hval,val_take_succ (xs:=xs) (by omega),List.take_of_length_le (l:=ys) (by omega)]
    grind
 ·have hka:k=n:=by have:=of_decide_eq_false q;omega
  subst hka
  have u:=U32.of_blk (m:=k+m) (k:=k+m) hb hrs (by omega) (Nat.le_refl _)
  have hv2:val (rs.take (k+m))=val xs*val ys:=by rw [hval,List.take_of_length_le (by omega)]
  refine (r1norm_c ⟨_,u,hv2⟩ (by omega)).mono ?_
  rintro _ _ ⟨A', m2,c', rfl,hm2,hN,hl2⟩
  exact ⟨_,_,_,rfl,_,_,_,rfl,hN,hl.trans hl2⟩
def HalfI (h:Heap) (xs:List Nat) (n:Nat) (m:Nat) (oA:Option Addr) (on oc:Nat) (i:Int) (h' : Heap):Prop:=
 ∃ (k:Nat) (gs:List Nat),m=n-k/\i=(k:Int)/\k<=n/\gs.length=k/\(∀ x∈gs,x<4294967296)/\
  val gs*2+xs.getD 0 0%2=val (xs.take k)+B32^k*(xs.getD k 0%2)/\OwnE lv 166 h h' oA on oc gs/\Le h h'
theorem half_step {G X p q r x y:Nat} (h:G*2+r=X+p*(x%2)) (hq:q=p*B32):(G+p*(x/2+y%2*2147483648))*2+r=(X+p*x)+q*(y%2):=by
 have h1:=Nat.mod_add_div x 2
 subst hq
 have hB:B32=2147483648*2:=rfl
 rw [hB]
 generalize x%2=a at *
 generalize x/2=b at *
 subst h1
 generalize y%2=e at *
 grind
theorem r1half_c {h:Heap} {A:Option Addr} {n c x:Nat} (ux:IsN h A n c x) (hn:n<=1099511627776) :
  CallsU Tryz.prog 195 [.slice A n c] h fun r h' => ∃ A' k c', r = .slice A' k c' /\ NmN h' A' k c' (x/2)/\Le h h' := by
 apply ref01_Half_ok
 obtain ⟨xs,u,rfl⟩:=ux
 refine ⟨HalfI h xs n,⟨_,0,[],rfl,rfl,by omega,rfl,by simp,by simp [val],OwnE.nil h,Le.refl h⟩, ?_⟩
 rintro _ oA on oc _ h1 ⟨k,gs,rfl,rfl,hk,hgl,hlt,hv,own,hle⟩
 have hon:=own.1
 refine Br.mk (fun q=> ?_) (fun q=> ?_)
 ·have q' : k<n:=by have:=of_decide_eq_true q;omega
  have lx:=u.getD_lt k
  have ly:=u.getD_lt (k+1)
  refine (limb_c (u.mono hle) k).mono ?_
  rintro _ _ ⟨rfl,rfl⟩
  refine ⟨_,rfl, ?_⟩
  rintro _ rfl _ rfl
  rw [wi (n:=k+1) (by omega) (by omega)]
  refine (limb_c (u.mono hle) (k+1)).mono ?_
  rintro _ _ ⟨rfl,rfl⟩
  refine ⟨_,rfl, ?_⟩
  rintro _ rfl _ rfl _ rfl g0 _ hg0 rfl
  have e1:Int.tdiv ((xs.getD k 0:Nat):Int) 2=((xs.getD k 0/2:Nat):Int):=by rw [Int.tdiv_eq_ediv_of_nonneg (by omega)];omega
  have e2:Int.tmod ((xs.getD (k+1) 0:Nat):Int) 2=((xs.getD (k+1) 0%2:Nat):Int):=by rw [Int.tmod_eq_emod_of_nonneg (by omega)];omega
  rw [e1,e2,wu (a:=((xs.getD k 0/2:Nat):Int)) (n:=xs.getD k 0/2) rfl (by omega),wu (a:=((xs.getD (k+1) 0%2:Nat):Int)*2147483648) (n:=xs.getD (k+1) 0%2*2147483648) (by omega) (by omega),wu (a:=((xs.getD k 0/2:Nat):Int)+((xs.getD (k+1) 0%2*2147483648:Nat):Int)) (n:=xs.getD k 0/2+xs.getD (k+1) 0%2*2147483648) (by omega) (by omega),w32 rfl,Nat.mod_eq_of_lt (by unfold B32;omega)]
  refine own.app (x:=xs.getD k 0/2+xs.getD (k+1) 0%2*2147483648) (z:=0) (bs:=4) (K:=fun A c hh=> ∀ t10:Int,t10=((k+1:Nat):Int)-> ∃ m', m' < n-k/\HalfI h xs n m' A (on+1) c t10 hh) hle lv_one1 rfl rfl hg0 (by omega) ?_
  intro A' c' h' o l _
  rintro _ rfl
  refine ⟨_,by omega,k+1,_,rfl,rfl,by omega,by simp [hgl],mem_snoc32 hlt (by omega), ?_,o,l⟩
  rw [val_snoc32,hgl,val_take_succ']
  exact half_step hv (Nat.pow_succ _ _)
 ·have q' : k=n:=by have:=of_decide_eq_false q;omega
  rw [val_take_le _ (by rw [u.len];omega),getD_ge (xs:=xs) (k:=k) (by rw [u.len];omega),Nat.zero_mod,Nat.mul_zero,Nat.add_zero] at hv
  refine (r1norm_c (own_is own hlt) (by omega)).mono ?_
  rintro _ h2 ⟨A', k', c', rfl,_,hN,hl⟩
  rw [show val gs=val xs/2 from by omega] at hN
  exact ⟨_,_,_,rfl,_,_,_,rfl,hN,hle.trans hl⟩
def ShiftI (h:Heap) (xs:List Nat) (n qd r:Nat) (m:Nat) (oA:Option Addr) (on oc:Nat) (carry i:Int) (h' : Heap):Prop:=
 ∃ (k cN:Nat) (ds:List Nat),m=n+1-k/\i=(k:Int)/\carry=(cN:Int)/\cN<2^r/\k<=n+1/\ds.length=k/\(∀ x∈ds,x<4294967296)/\
  val ds+B32^k*cN=2^r*val (xs.take k)/\OwnE lv 166 h h' oA on oc (List.replicate qd 0++ds)/\Le h h'
theorem shift_step {D X p q s x c t:Nat} (h:D+p*c=s*X) (ht:x*s+c=t) (hq:q=p*B32):(D+p*(t%B32))+q*(t/B32)=s*(X+p*x):=by
 have:=Nat.mod_add_div t B32
 subst hq
 grind
theorem r1shift_c {h:Heap} {A:Option Addr} {n c x:Nat} (ux:IsN h A n c x) (hn:n<=1099511627776) (s:Nat) (hs:s<=35184372088832) :
  CallsU Tryz.prog 194 [.slice A n c,.int .i64 s] h fun r h' => ∃ A' k c', r = .slice A' k c' /\ NmN h' A' k c' (x*2^s)/\Le h h' := by
 apply ref01_Shift_ok
 obtain ⟨xs,u,rfl⟩:=ux
 have hB:B32=2^32:=by decide
 have hB' : B32=4294967296:=rfl
 have e1:Int.tdiv ((s:Nat):Int) 32=((s/32:Nat):Int):=by rw [Int.tdiv_eq_ediv_of_nonneg (by omega)];omega
 have e2:Int.tmod ((s:Nat):Int) 32=((s%32:Nat):Int):=by rw [Int.tmod_eq_emod_of_nonneg (by omega)];omega
 rintro _ rfl
 rw [e1,wi (n:=s/32) rfl (by omega)]
 refine ⟨by omega,by omega,by omega,by omega, ?_⟩
 rintro g _ hg rfl
 rw [Int.toNat_natCast]
 have hs2:s=32*(s/32)+s%32:=by omega
 have hr:s%32<32:=Nat.mod_lt _ (by decide)
 have hp:0<2^(s%32):=Nat.pow_pos (by decide)
 have hp2:2^(s%32)<=2^31:=Nat.pow_le_pow_right (by decide) (by omega)
 have hp3:(2:Nat)^31=2147483648:=by decide
 have hqd:s/32<=1099511627776:=by omega
 have hpow:(2:Nat)^s=B32^(s/32)*2^(s%32):=by
  rw [hB,<- Nat.pow_mul,<- Nat.pow_add,<- hs2]
 rw [hpow]
 generalize s/32=qd at *
 generalize s%32=r at *
 refine ⟨ShiftI h xs n qd r,⟨_,0,0,[],rfl,rfl,rfl,hp,by omega,rfl,by simp,by simp [val], ?_,Le.new hg _⟩, ?_⟩
 ·refine ⟨by simp,Or.inr ⟨g,[],rfl,hg, ?_,by simp⟩⟩
  rw [Heap.put_same,repV_lv]
  simp
 rintro _ oA on oc _ _ h1 ⟨k,cN,ds,rfl,rfl,rfl,hc,hk,hdl,hlt,hv,own,hle⟩
 have hon:=own.1
 rw [List.length_append,List.length_replicate,hdl] at hon
 refine Br.mk (fun q=> ?_) (fun q=> ?_)
 ·have q' : k<=n:=by have:=of_decide_eq_true q;omega
  have lx:=u.getD_lt k
  refine (limb_c (u.mono hle) k).mono ?_
  rintro _ _ ⟨rfl,rfl⟩
  refine ⟨_,rfl, ?_⟩
  rintro _ rfl
  rw [e2,wu (n:=r) rfl (by omega),Int.toNat_natCast,Nat.min_eq_left (by omega)]
  refine Br.mk (fun q1=>by have:=of_decide_eq_true q1;omega) (fun _=> ?_)
  rintro _ rfl _ rfl _ rfl g0 _ hg0 rfl
  have hpI:((2:Int)^r)=((2^r:Nat):Int):=by simp
  have hxs:xs.getD k 0*2^r+2^r<=4294967296*2^r:=by
   have:(xs.getD k 0+1)*2^r<=4294967296*2^r:=Nat.mul_le_mul_right _ lx
   rw [Nat.add_mul,Nat.one_mul] at this
   exact this
  rw [hpI,wu (a:=((xs.getD k 0:Nat):Int)*((2^r:Nat):Int)) (n:=xs.getD k 0*2^r) (by rw [Int.natCast_mul]) (by omega),wu (a:=((xs.getD k 0*2^r:Nat):Int)+(cN:Int)) (n:=xs.getD k 0*2^r+cN) (Int.natCast_add _ _).symm (by omega),w32t rfl]
  generalize ht:xs.getD k 0*2^r+cN=t
  have htl:t<2^r*B32:=by rw [hB', Nat.mul_comm (2^r)];omega
  refine own.app (x:=t%B32) (z:=0) (bs:=4) (K:=fun A c hh=> ∀ t34:Int,t34=IntKind.u64.wrap (Int.tdiv (t:Int) 4294967296)-> ∀ t17:Int,t17=IntKind.i64.wrap ((k:Int)+1)-> ∃ m', m' < n+1-k/\ShiftI h xs n qd r m' A (on+1) c t34 t17 hh) hle lv_one1 rfl rfl hg0 (by omega) ?_
  intro A' c' h' o l _
  rintro _ rfl _ rfl
  rw [wdiv rfl (by omega),wi (n:=k+1) (by omega) (by omega)]
  refine ⟨_,by omega,k+1,t/B32,ds++[t%B32],rfl,rfl,rfl,Nat.div_lt_of_lt_mul (by rw [Nat.mul_comm];exact htl),by omega,by simp [hdl],mem_snoc32 hlt (modB t), ?_,by rw [<- List.append_assoc];exact o,l⟩
  rw [val_snoc32,hdl,val_take_succ']
  exact shift_step hv ht (Nat.pow_succ _ _)
 ·have q' : k=n+1:=by have:=of_decide_eq_false q;omega
  subst q'
  have hzero:cN=0:=by
   rw [val_take_le _ (by rw [u.len];omega)] at hv
   have hx:=val_lt (l:=xs) u.lt
   rw [u.len] at hx
   rcases Nat.eq_zero_or_pos cN with e | e
   ·exact e
   ·exfalso
    have h1:B32*B32^n<=B32^(n+1)*cN:=by
     have:=Nat.mul_le_mul_left (B32^(n+1)) e
     rw [show B32*B32^n=B32^(n+1)*(0+1) from by rw [Nat.pow_succ,Nat.mul_comm,Nat.zero_add,Nat.mul_one]]
     exact this
    have h2:2^r*val xs<2^r*B32^n:=Nat.mul_lt_mul_of_pos_left hx hp
    have h3:2^r*B32^n<=B32*B32^n:=Nat.mul_le_mul_right _ (by omega)
    omega
  subst hzero
  rw [val_take_le _ (by rw [u.len];omega),Nat.mul_zero,Nat.add_zero] at hv
  have hlt2 : ∀ x∈List.replicate qd 0++ds,x<4294967296:=fun x hx=>by
   rcases List.mem_append.1 hx with a | a
   ·rw [(List.mem_replicate.1 a).2];decide
   ·exact hlt x a
  refine (r1norm_c (own_is own hlt2) (by omega)).mono ?_
  rintro _ h2 ⟨A', k', c', rfl,_,hN,hl⟩
  rw [val_append,val_zeros,List.length_replicate,Nat.zero_add,hv,show B32^qd*(2^r*val xs)=val xs*(B32^qd*2^r) from by rw [Nat.mul_comm (val xs),Nat.mul_assoc]] at hN
  exact ⟨_,_,_,rfl,_,_,_,rfl,hN,hle.trans hl⟩
theorem r1bits_c {h:Heap} {A:Option Addr} {n c x:Nat} (ux:IsN h A n c x) (hn:n<=1099511627776) :
  CallsU Tryz.prog 193 [.slice A n c] h fun r h' => ∃ t:Nat,r = .int .i64 t/\x<2^t/\(x≠0->1<=t/\2^(t-1)<=x)/\(x=0->t=0)/\t<=32*n/\Le h h' := by
 apply ref01_Bits_ok
 have hB:B32=2^32:=by decide
 refine (r1norm_c ux (by omega)).mono ?_
 rintro _ h1 ⟨A1,m,c1,rfl,hm,hN,hl⟩
 have hz:=NmN.zero_iff hN
 refine ⟨_,_,_,rfl,Br.mk (fun q=> ?_) (fun q=> ?_)⟩
 ·have q' : m=0:=by have:=beq_iff_eq.1 q;omega
  have x0:=hz.1 q'
  subst x0
  exact ⟨0,rfl,by decide,fun e=>absurd rfl e,fun _=>rfl,by omega,hl⟩
 ·have q' : 0<m:=by have:=beq_eq_false_iff_ne.1 q;omega
  obtain ⟨xs,u,hv,nr⟩:=hN
  have lu:=u.len
  obtain ⟨m,rfl⟩ : ∃ k,m=k+1:=⟨m-1,by omega⟩
  have hne:xs≠[]:=fun e=>by rw [e] at lu;simp at lu
  have hval:val xs=val (xs.take m)+B32^m*xs.getD m 0:=by rw [<- val_take_succ', val_take_le _ (by omega)]
  have hlow:=val_take_lt' (xs:=xs) u.lt m
  have htop:xs.getD m 0≠0:=fun e=>by
   have h2:=nrm_val_pos nr hne
   rw [lu,Nat.add_sub_cancel] at h2
   rw [e,Nat.mul_zero] at hval
   omega
  have htl:=u.getD_lt m
  rintro _ rfl _ rfl _ rfl
  rw [wi (a:=(((m+1:Nat):Int)-1)) (n:=m) (by omega) (by omega),wi (n:=32*m) (by omega) (by omega)]
  obtain ⟨ad,hA,hld⟩:=u.get (i:=m) (by omega)
  rw [Int.toNat_natCast]
  refine ⟨ad,hA,by omega,by omega,_,hld, ?_⟩
  generalize xs.getD m 0=top at *
  refine ⟨fun q nn tt h' => ∃ (j:Nat),tt=(q:Int)/\nn=((32*m+j:Nat):Int)/\j<=32/\q=top/2^j/\h1=h' /\ (0<j->2^(j-1)<=top),⟨top,0,rfl,rfl,by omega,by simp,rfl,fun e=>absurd e (Nat.lt_irrefl 0)⟩, ?_⟩
  rintro q _ _ _ ⟨j,rfl,rfl,hj,rfl,rfl,hpos⟩
  refine Br.mk (fun b=> ?_) (fun b=> ?_)
  ·have b' : 0<top/2^j:=by have:=of_decide_eq_true b;omega
   have hge:2^j<=top:=by
    rcases Nat.lt_or_ge top (2^j) with e | e
    ·rw [Nat.div_eq_of_lt e] at b';omega
    ·exact e
   have hj32:j<32:=by
    rcases Nat.lt_or_ge j 32 with e | e
    ·exact e
    ·have:2^32<=2^j:=Nat.pow_le_pow_right (by decide) e
     have e2:(2:Nat)^32=4294967296:=by decide
     omega
   rintro _ rfl _ rfl
   have hdl:top/2^j<=top:=Nat.div_le_self _ _
   have e1:Int.tdiv ((top/2^j:Nat):Int) 2=((top/2^j/2:Nat):Int):=by rw [Int.tdiv_eq_ediv_of_nonneg (by omega)];omega
   rw [wi (n:=32*m+j+1) (by omega) (by omega),e1,w32 rfl,Nat.mod_eq_of_lt (by unfold B32;omega)]
   refine ⟨top/2^j/2,by omega,j+1,rfl,by rw [Nat.add_assoc],by omega,by rw [Nat.div_div_eq_div_mul,<- Nat.pow_succ],rfl,fun _=>by rw [Nat.add_sub_cancel];exact hge⟩
  ·have b' : top/2^j=0:=by
    have:=of_decide_eq_false b
    generalize top/2^j=z at this ⊢
    omega
   have hlt:top<2^j:=by
    rcases Nat.lt_or_ge top (2^j) with e | e
    ·exact e
    ·have:=Nat.div_pos e (Nat.pow_pos (by decide));omega
   have hj0:0<j:=by
    rcases Nat.eq_zero_or_pos j with e | e
    ·rw [e] at hlt;simp at hlt;omega
    ·exact e
   have hp:=hpos hj0
   have hpm:B32^m=2^(32*m):=by rw [hB,<- Nat.pow_mul]
   refine ⟨32*m+j,rfl, ?_,fun _=>⟨by omega, ?_⟩,fun e=> ?_,by omega,hl⟩
   ·rw [<- hv,hval,Nat.pow_add,<- hpm]
    have:B32^m*(top+1)<=B32^m*2^j:=Nat.mul_le_mul_left _ hlt
    rw [Nat.mul_add] at this
    omega
   ·rw [<- hv,hval,show 32*m+j-1=32*m+(j-1) from by omega,Nat.pow_add,<- hpm]
    have:B32^m*2^(j-1)<=B32^m*top:=Nat.mul_le_mul_left _ hp
    omega
   ·exfalso
    have h3:B32^m*1<=B32^m*top:=Nat.mul_le_mul_left _ (by omega)
    have h4:0<B32^m:=Nat.pow_pos (by decide)
    omega
theorem val_set_add : ∀ {qs:List Nat} {i d:Nat},i<qs.length->val (qs.set i (qs.getD i 0+d))=val qs+B32^i*d
 | [],i,d,h=>by simp at h
 | x::r,0,d,_=>by simp [val];omega
 | x::r,i+1,d,h=>by
  have ih:=val_set_add (qs:=r) (i:=i) (d:=d) (by simpa using h)
  simp only [List.set_cons_succ,val,List.getD_cons_succ]
  rw [ih,Nat.mul_add,Nat.pow_succ,Nat.mul_comm (B32^i) B32,Nat.mul_assoc,Nat.add_assoc]
theorem limb_mult : ∀ {qs:List Nat} {i j t:Nat},(∀ x∈qs,x<4294967296)->i<qs.length->j<32->val qs=2^(32*i+(j+1))*t->qs.getD i 0+2^j<4294967296
 | [],i,j,t,_,h,_,_=>by simp at h
 | x::r,0,j,t,hlt,_,hj,hv=>by
  have hx:=hlt x (by simp)
  simp only [val,Nat.mul_zero,Nat.zero_add] at hv
  simp only [List.getD_cons_zero]
  have hB:B32=2^(j+1)*2^(31-j):=by rw [<- Nat.pow_add,show j+1+(31-j)=32 from by omega];rfl
  have hB2:(4294967296:Nat)=2^(j+1)*2^(31-j):=hB
  rw [hB,Nat.mul_assoc] at hv
  have hd:x=2^(j+1)*(t-2^(31-j)*val r):=by rw [Nat.mul_sub,<- hv];omega
  rw [hB2] at hx ⊢
  rw [Nat.pow_succ] at *
  generalize t-2^(31-j)*val r=a at *
  subst hd
  have ha:a<2^(31-j):=Nat.lt_of_mul_lt_mul_left hx
  have:=Nat.mul_le_mul_left (2^j*2) ha
  rw [Nat.mul_succ] at this
  have hp:0<2^j:=Nat.pow_pos (by decide)
  omega
 | x::r,i+1,j,t,hlt,h,hj,hv=>by
  have hx:=hlt x (by simp)
  simp only [val] at hv
  rw [show 32*(i+1)+(j+1)=32+(32*i+(j+1)) from by omega,Nat.pow_add,Nat.mul_assoc,show (2:Nat)^32=B32 from rfl] at hv
  have hm:(x+B32*val r)%B32=(B32*(2^(32*i+(j+1))*t))%B32:=by rw [hv]
  rw [Nat.add_mul_mod_self_left,Nat.mul_mod_right,Nat.mod_eq_of_lt (show x<B32 from hx)] at hm
  subst hm
  rw [Nat.zero_add] at hv
  have hv2:=Nat.eq_of_mul_eq_mul_left (by decide) hv
  simp only [List.getD_cons_succ]
  exact limb_mult (fun y hy=>hlt y (by simp [hy])) (by simpa using h) hj hv2
def DmI (h:Heap) (g:Nat) (x y n q1:Nat) (m:Nat) (rA:Option Addr) (rn rc:Nat) (pA:Option Addr) (pn pc:Nat) (k:Int) (h' : Heap):Prop:=
 ∃ (H:Heap) (qs:List Nat) (r p t:Nat),k=(m:Int)-1/\m<=n+1/\h' = H.put g ⟨qs.map lv,166,(0,0)⟩/\H g=none/\Le h H/\NmN H rA rn rc r/\NmN H pA pn pc p/\(0<m->p=y*2^(m-1))/\p<=y*2^n/\
  qs.length=q1/\(∀ z∈qs,z<4294967296)/\val qs=2^m*t/\val qs*y+r=x/\r<y*2^m
theorem r1divmod_c {h:Heap} {A B:Option Addr} {n c m d x y:Nat} (ux:IsN h A n c x) (uy:IsN h B m d y) (hn:n<=1073741824) (hm:m<=1073741824) (hy:y≠0) :
  CallsU Tryz.prog 124 [.slice A n c,.slice B m d] h fun r h' => ∃ A1 n1 c1 A2 n2 c2,r = .tuple #[.slice A1 n1 c1,.slice A2 n2 c2,.bool true]/\NmN h' A1 n1 c1 (x/y)/\NmN h' A2 n2 c2 (x%y)/\Le h h' := by
 apply ref01_DivMod_ok
 have hsx:=ux.sz
 refine (r1bits_c uy (by omega)).mono ?_
 rintro _ h1 ⟨tb0,rfl,_,hb0,_,_,hl1⟩
 obtain ⟨hb1,_⟩:=hb0 hy
 refine ⟨_,rfl,Br.mk (fun q=>by have:=beq_iff_eq.1 q;omega) (fun _=> ?_)⟩
 refine (r1norm_c (ux.mono hl1) (by omega)).mono ?_
 rintro _ h2 ⟨A2,n2,c2,rfl,hn2,hN2,hl2⟩
 refine ⟨_,_,_,rfl,(r1bits_c hN2.is (by omega)).mono ?_⟩
 rintro _ h3 ⟨tr,rfl,hr1,hr2,hr0,hr3,hl3⟩
 refine ⟨_,rfl,(r1bits_c ((uy.mono hl1).mono (hl2.trans hl3)) (by omega)).mono ?_⟩
 rintro _ h4 ⟨tb,rfl,ht1,ht2,_,ht4,hl4⟩
 obtain ⟨hb3,hb4⟩:=ht2 hy
 have hl14:Le h h4:=((hl1.trans hl2).trans hl3).trans hl4
 have hN4:=hN2.mono (hl3.trans hl4)
 refine ⟨_,rfl, ?_⟩
 rintro _ rfl
 rw [wrap_i64 (by omega) (by omega)]
 refine Br.mk (fun q=> ?_) (fun q=> ?_)
 ·have q' : tr<tb:=by have:=of_decide_eq_true q;omega
  have hlt:x<y:=by
   have:2^tr<=2^(tb-1):=Nat.pow_le_pow_right (by decide) (by omega)
   omega
  exact ⟨_,_,_,_,_,_,rfl,by rw [Nat.div_eq_of_lt hlt];exact NmN.nil _ _ _,by rw [Nat.mod_eq_of_lt hlt];exact hN4,hl14⟩
 ·have q' : tb<=tr:=by have:=of_decide_eq_false q;omega
  have hx0:x≠0:=fun e=>by have:=hr0 e;omega
  obtain ⟨hr4,hr5⟩:=hr2 hx0
  obtain ⟨k,hk⟩ : ∃ k,tr=tb+k:=⟨tr-tb,by omega⟩
  rw [show ((tr:Nat):Int)-((tb:Nat):Int)=(k:Int) from by omega]
  have hinit:x<y*2^(k+1):=by
   have h5:2^tr=2^(tb-1)*2^(k+1):=by rw [<- Nat.pow_add];congr 1;omega
   have h6:2^(tb-1)*2^(k+1)<=y*2^(k+1):=Nat.mul_le_mul_right _ hb4
   omega
  have hpart:Sz (y*2^k) (n+1):=by
   have h5:y*2^k<2^tb*2^k:=Nat.mul_lt_mul_of_pos_right ht1 (Nat.pow_pos (by decide))
   rw [<- Nat.pow_add,<- hk] at h5
   have h6:2^tr=2^(tr-1)*2:=by rw [<- Nat.pow_succ];congr 1;omega
   unfold Sz at *
   rw [Nat.pow_succ]
   have:B32^n*2<=B32^n*B32:=Nat.mul_le_mul_left _ (by decide)
   omega
  have e1 : ∀ z:Nat,Int.tdiv ((z:Nat):Int) 32=((z/32:Nat):Int):=fun z=>by rw [Int.tdiv_eq_ediv_of_nonneg (by omega)];omega
  have e2 : ∀ z:Nat,Int.tmod ((z:Nat):Int) 32=((z%32:Nat):Int):=fun z=>by rw [Int.tmod_eq_emod_of_nonneg (by omega)];omega
  rintro _ rfl _ rfl
  rw [e1,wi (n:=k/32) rfl (by omega),wi (n:=k/32+1) (by omega) (by omega)]
  refine ⟨by omega,by omega,by omega,by omega, ?_⟩
  rintro g _ hg rfl
  rw [Int.toNat_natCast]
  refine (CallsU.frame (r1shift_c (h:=h4) (((uy.mono hl1).mono (hl2.trans hl3)).mono hl4) (by omega) k (by omega)) hg).mono ?_
  rintro _ _ ⟨h5,⟨A5,n5,c5,rfl,hN5,hl5⟩,hg5,rfl⟩
  refine ⟨_,_,_,rfl,DmI h g x y k (k/32+1),⟨k+1,h5,List.replicate (k/32+1) 0,x,y*2^k,0,by omega,by omega,by rw [repV_lv],hg5,hl14.trans hl5,hN4.mono hl5,hN5,fun _=>rfl,Nat.le_refl _,by simp,fun z hz=>by rw [(List.mem_replicate.1 hz).2];decide,by rw [val_zeros,Nat.mul_zero],by rw [val_zeros,Nat.zero_mul,Nat.zero_add],hinit⟩, ?_⟩
  rintro mm rA rn rc pA pn pc _ _ ⟨H,qs,r,p,t,rfl,hmm,rfl,hgH,hleH,hNr,hNp,hp,hpn,hql,hqlt,hqm,hqr,hrlt⟩
  have hrx:r<=x:=by omega
  have hrn:=NmN.le_of hNr (hsx.le hrx)
  have hpl:=NmN.le_of hNp (hpart.le hpn)
  refine Br.mk (fun b=> ?_) (fun b=> ?_)
  ·have b' : 0<mm:=by have:=of_decide_eq_true b;omega
   obtain ⟨i,rfl⟩ : ∃ i,mm=i+1:=⟨mm-1,by omega⟩
   have hp' := hp b'
   rw [Nat.add_sub_cancel] at hp'
   rw [show ((i+1:Nat):Int)-1=(i:Int) from by omega]
   have hp2:2^(i+1)=2*2^i:=by rw [Nat.pow_succ,Nat.mul_comm]
   have hhalf:0<i->p/2=y*2^(i-1):=fun hi=>by
    obtain ⟨j,rfl⟩ : ∃ j,i=j+1:=⟨i-1,by omega⟩
    rw [hp', Nat.add_sub_cancel,Nat.pow_succ,<- Nat.mul_assoc,Nat.mul_div_cancel _ (by decide)]
   refine (CallsU.frame (r1sub_c (h:=H) hNr.is hNp.is (by omega) (by omega)) hgH).mono ?_
   rintro _ _ ⟨h8,hsub,hg8,rfl⟩
   rcases hsub with ⟨hlt,rfl,rfl⟩ | ⟨hge,A8,n8,c8,rfl,hN8,hl8⟩
   ·refine ⟨_,_,_,_,rfl,Br.mk (fun q=>by cases q) (fun _=> ?_)⟩
    refine (CallsU.frame (r1half_c (h:=H) hNp.is (by omega)) hgH).mono ?_
    rintro _ _ ⟨h9,⟨A9,n9,c9,rfl,hN9,hl9⟩,hg9,rfl⟩
    refine ⟨_,_,_,rfl, ?_⟩
    rintro _ rfl
    rw [wrap_i64 (by omega) (by omega)]
    refine ⟨i,by omega,h9,qs,r,p/2,2*t,rfl,by omega,rfl,hg9,hleH.trans hl9,hNr.mono hl9,hN9,hhalf,Nat.le_trans (Nat.div_le_self _ _) hpn,hql,hqlt, ?_,hqr,by rw [hp'] at hlt;exact hlt⟩
    rw [hqm,hp2,Nat.mul_comm 2 (2^i),Nat.mul_assoc]
   ·refine ⟨_,_,_,_,rfl,Br.mk (fun _=> ?_) (fun q=>by cases q)⟩
    rintro _ rfl _ rfl
    have hidx:i/32<qs.length:=by rw [hql];omega
    have hmult:=limb_mult (qs:=qs) (i:=i/32) (j:=i%32) (t:=t) hqlt hidx (Nat.mod_lt _ (by decide)) (by rw [hqm];congr 2;omega)
    rw [e1,wi (n:=i/32) rfl (by omega)]
    simp only [Int.toNat_natCast]
    refine ⟨_,rfl,by omega,by omega,_,ld_own (Heap.put_same _ _ _) hidx, ?_⟩
    rintro _ rfl
    rw [e2,wu (n:=i%32) rfl (by omega),Int.toNat_natCast,Nat.min_eq_left (by omega)]
    refine Br.mk (fun q=>by have:=of_decide_eq_true q;omega) (fun _=> ?_)
    rintro _ rfl _ rfl
    have hpI:((2:Int)^(i%32))=((2^(i%32):Nat):Int):=by simp
    have hpb:2^(i%32)<4294967296:=by omega
    rw [Int.one_mul,hpI,w32 rfl,Nat.mod_eq_of_lt (by exact hpb),w32 (n:=qs.getD (i/32) 0+2^(i%32)) (Int.natCast_add _ _).symm,Nat.mod_eq_of_lt (by exact hmult)]
    refine ⟨_,rfl,by omega,by omega,st_own (qs.getD (i/32) 0+2^(i%32)) (Heap.put_same _ _ _) hidx rfl ?_⟩
    rw [Heap.put_put]
    refine (CallsU.frame (r1half_c (h:=h8) (hNp.mono hl8).is (by omega)) hg8).mono ?_
    rintro _ _ ⟨h9,⟨A9,n9,c9,rfl,hN9,hl9⟩,hg9,rfl⟩
    refine ⟨_,_,_,rfl, ?_⟩
    rintro _ rfl
    rw [wrap_i64 (by omega) (by omega)]
    have hpow:B32^(i/32)*2^(i%32)=2^i:=by
     rw [show B32=2^32 from rfl,<- Nat.pow_mul,<- Nat.pow_add]
     congr 1
     omega
    have hvs:val (qs.set (i/32) (qs.getD (i/32) 0+2^(i%32)))=val qs+2^i:=by rw [val_set_add hidx,hpow]
    refine ⟨i,by omega,h9,_,r-p,p/2,2*t+1,rfl,by omega,rfl,hg9,(hleH.trans hl8).trans hl9,hN8.mono hl9,hN9,hhalf,Nat.le_trans (Nat.div_le_self _ _) hpn,by rw [List.length_set];exact hql,mem_set hqlt hmult, ?_, ?_, ?_⟩
    ·rw [hvs,hqm,hp2,Nat.mul_add,Nat.mul_one,Nat.mul_comm 2 (2^i),Nat.mul_assoc]
    ·rw [hvs,Nat.add_mul,Nat.mul_comm (2^i) y,<- hp']
     omega
    ·rw [hp2,Nat.mul_left_comm,<- hp'] at hrlt
     rw [<- hp']
     omega
  ·have b' : mm=0:=by have:=of_decide_eq_false b;omega
   subst b'
   rw [Nat.pow_zero,Nat.mul_one] at hrlt
   have hq:x/y=val qs:=by
    rw [<- hqr,Nat.add_comm,Nat.add_mul_div_right _ _ (by omega),Nat.div_eq_of_lt hrlt,Nat.zero_add]
   have hr:x%y=r:=by rw [<- hqr,Nat.add_comm,Nat.add_mul_mod_self_right,Nat.mod_eq_of_lt hrlt]
   have u:=U32.of_blk (h:=H.put g ⟨qs.map lv,166,(0,0)⟩) (m:=k/32+1) (k:=k/32+1) (Heap.put_same _ _ _) hqlt (by omega) (Nat.le_refl _)
   rw [List.take_of_length_le (by omega)] at u
   have hlp:Le H (H.put g ⟨qs.map lv,166,(0,0)⟩):=Le.new hgH _
   refine (r1norm_c ⟨_,u,rfl⟩ (by omega)).mono ?_
   rintro _ h9 ⟨A9,n9,c9,rfl,_,hN9,hl9⟩
   refine ⟨_,_,_,rfl,_,_,_,_,_,_,rfl,by rw [hq];exact hN9,by rw [hr];exact (hNr.mono hlp).mono hl9,(hleH.trans hlp).trans hl9⟩
theorem r1gcd_c {h:Heap} {A B:Option Addr} {n c m d x y:Nat} (ux:IsN h A n c x) (uy:IsN h B m d y) (hn:n<=1073741824) (hm:m<=1073741824) :
  CallsU Tryz.prog 123 [.slice A n c,.slice B m d] h fun r h' => ∃ A' k c', r = .slice A' k c' /\ NmN h' A' k c' (Nat.gcd x y)/\k<=max n m/\Le h h' := by
 apply ref01_Gcd_ok
 refine (r1norm_c ux (by omega)).mono ?_
 rintro _ h1 ⟨A1,n1,c1,rfl,hn1,nx,hl1⟩
 refine ⟨_,_,_,rfl,(r1norm_c (uy.mono hl1) (by omega)).mono ?_⟩
 rintro _ h2 ⟨A2,n2,c2,rfl,hn2,ny,hl2⟩
 refine ⟨_,_,_,rfl,fun v aA an ac bA bn bc h' => ∃ u,NmN h' aA an ac u/\NmN h' bA bn bc v/\Nat.gcd u v=Nat.gcd x y/\an<=max n m/\bn<=max n m/\Le h h', ⟨y,x,nx.mono hl2,ny,rfl,by omega,by omega,hl1.trans hl2⟩, ?_⟩
 rintro v aA an ac bA bn bc h' ⟨u,nu,nv,hg,ha,hb,hl⟩
 have hz:=NmN.zero_iff nv
 refine Br.mk (fun q=> ?_) (fun q=> ?_)
 ·have hv:v≠0:=by have:=of_decide_eq_true q;omega
  refine (r1divmod_c nu.is nv.is (by omega) (by omega) hv).mono ?_
  rintro _ h4 ⟨A3,n3,c3,A4,n4,c4,rfl,_,hN,hl'⟩
  have hlt:u%v<v:=Nat.mod_lt _ (by omega)
  refine ⟨_,_,_,_,_,_,_,rfl,u%v,hlt,v,nv.mono hl', hN, ?_,hb, ?_,hl.trans hl'⟩
  ·rw [<- hg,Nat.gcd_comm v,Nat.gcd_comm u,<- Nat.gcd_rec]
  ·have:=NmN.le_of hN (nv.sz.le (Nat.le_of_lt hlt));omega
 ·have hv:v=0:=by have:=of_decide_eq_false q;omega
  subst hv
  rw [Nat.gcd_zero_right] at hg
  subst hg
  exact ⟨_,_,_,rfl,nu,ha,hl⟩
theorem make1_c {h:Heap} {s:Bool} {A:Option Addr} {n c:Nat} {z:Int} (u:IsI h s A n c z) (hn:n<=1099511627776) :
  CallsU Tryz.prog 189 [.bool s,.slice A n c] h fun r h' => ∃ s' A' k c', r = .agg #[.bool s', .slice A' k c']/\NmI h' s' A' k c' z/\k<=n/\Le h h' := by
 apply ref02_make1_ok
 obtain ⟨v,uv,ez⟩:=u
 have ev:z.natAbs=v:=by subst ez;cases s<;>simp
 refine (r1norm_c uv (by omega)).mono ?_
 rintro _ h1 ⟨A', k,c', rfl,hk,hN,hl⟩
 have hz:=NmN.zero_iff hN
 rw [<- ev] at hN
 refine ⟨_,_,_,rfl,Br.mk (fun q=> ?_) (fun q=> ?_)⟩
 ·subst q
  refine ⟨_,_,_,_,rfl,⟨hN, ?_⟩,hk,hl⟩
  simp only [if_true] at ez
  apply decide_eq_decide.2
  omega
 ·subst q
  refine ⟨_,_,_,_,rfl,⟨hN, ?_⟩,hk,hl⟩
  simp only [Bool.false_eq_true,if_false] at ez
  symm
  apply decide_eq_false
  omega
theorem r2norm_c {h:Heap} {s:Bool} {A:Option Addr} {n c:Nat} {z:Int} (u:IsI h s A n c z) (hn:n<=1099511627776) :
  CallsU Tryz.prog 125 [.agg #[.bool s,.slice A n c]] h fun r h' => ∃ s' A' k c', r = .agg #[.bool s', .slice A' k c']/\NmI h' s' A' k c' z/\k<=n/\Le h h' := by
 apply ref02_Norm_ok
 refine (make1_c u hn).mono ?_
 rintro _ _ ⟨s', A', k,c', rfl,r⟩
 exact ⟨_,_,_,_,rfl,_,_,_,_,rfl,r⟩
theorem r2mul_c {h:Heap} {s s2:Bool} {A B:Option Addr} {n c m d:Nat} {z w:Int} (u:IsI h s A n c z) (v:IsI h s2 B m d w) (hn:n<=549755813888) (hm:m<=549755813888) :
  CallsU Tryz.prog 121 [.agg #[.bool s,.slice A n c],.agg #[.bool s2,.slice B m d]] h fun r h' => ∃ s' A' k c', r = .agg #[.bool s', .slice A' k c']/\NmI h' s' A' k c' (z*w)/\k<=n+m/\Le h h' := by
 apply ref02_Mul_ok
 obtain ⟨x,ux,rfl⟩:=u
 obtain ⟨y,uy,rfl⟩:=v
 refine (r1mul_c ux uy (by omega) (by omega)).mono ?_
 rintro _ h1 ⟨A', k,c', rfl,hN,hl⟩
 have hk:=NmN.le_of hN (ux.sz.mul uy.sz)
 refine ⟨_,_,_,rfl,(by first | assumption | exact Le.refl _),(make1_c ⟨_,hN.is,rfl⟩ (by omega)).mono ?_⟩
 rintro _ _ ⟨s', A', k,c', rfl,r,hk', hl'⟩
 exact ⟨_,_,_,_,rfl,_,_,_,_,rfl,by rw [mul_sign];exact r,by omega,hl.trans hl'⟩
theorem r2add_c {h:Heap} {s s2:Bool} {A B:Option Addr} {n c m d:Nat} {z w:Int} (u:IsI h s A n c z) (v:IsI h s2 B m d w) (hn:n<=549755813888) (hm:m<=549755813888) :
  CallsU Tryz.prog 120 [.agg #[.bool s,.slice A n c],.agg #[.bool s2,.slice B m d]] h fun r h' => ∃ s' A' k c', r = .agg #[.bool s', .slice A' k c']/\NmI h' s' A' k c' (z+w)/\k<=max n m+1/\Le h h' := by
 apply ref02_Add_ok
 obtain ⟨x,ux,rfl⟩:=u
 obtain ⟨y,uy,rfl⟩:=v
 have hsx:Sz x (max n m):=ux.sz.mono (by omega)
 have hsy:Sz y (max n m):=uy.sz.mono (by omega)
 refine Br.mk (fun q=> ?_) (fun q=> ?_)
 ·have e:s=s2:=by simpa using q
  subst e
  refine (r1add_c ux uy (by omega) (by omega)).mono ?_
  rintro _ h1 ⟨A', k,c', rfl,hN,hl⟩
  have hk:=NmN.le_of hN (hsx.add hsy)
  refine ⟨_,_,_,rfl,(by first | assumption | exact Le.refl _),(make1_c (s:=s) (z:=(if s then -(x:Int) else x)+(if s then -(y:Int) else y)) ⟨_,hN.is,by cases s<;>simp<;>omega⟩ (by omega)).mono ?_⟩
  rintro _ _ ⟨s', A', k,c', rfl,r,hk', hl'⟩
  exact ⟨_,_,_,_,rfl,_,_,_,_,rfl,r,by omega,hl.trans hl'⟩
 ·have e:s2 = !s:=by cases s<;>cases s2<;>simp at q ⊢
  subst e
  refine (r1sub_c ux uy (by omega) (by omega)).mono ?_
  rintro _ h1 (⟨hlt,rfl,rfl⟩ | ⟨hge,A1,k1,c1,rfl,hN,hl⟩)
  ·refine ⟨_,_,_,_,rfl,Br.mk (fun q=>by cases q) (fun _=> ?_)⟩
   refine (r1sub_c uy ux (by omega) (by omega)).mono ?_
   rintro _ h1 (⟨hlt2,_⟩ | ⟨hge,A1,k1,c1,rfl,hN,hl⟩)
   ·omega
   ·have hk:=NmN.le_of hN (hsy.le (Nat.sub_le _ _))
    refine ⟨_,_,_,_,rfl,(make1_c (s:= !s) (z:=(if s then -(x:Int) else x)+(if (!s)=true then -(y:Int) else y)) ⟨_,hN.is,by cases s<;>simp<;>omega⟩ (by omega)).mono ?_⟩
    rintro _ _ ⟨s', A', k,c', rfl,r,hk', hl'⟩
    exact ⟨_,_,_,_,rfl,_,_,_,_,rfl,r,by omega,hl.trans hl'⟩
  ·have hk:=NmN.le_of hN (hsx.le (Nat.sub_le _ _))
   refine ⟨_,_,_,_,rfl,Br.mk (fun _=> ?_) (fun q=>by cases q)⟩
   refine (make1_c (s:=s) (z:=(if s then -(x:Int) else x)+(if (!s)=true then -(y:Int) else y)) ⟨_,hN.is,by cases s<;>simp<;>omega⟩ (by omega)).mono ?_
   rintro _ _ ⟨s', A', k,c', rfl,r,hk', hl'⟩
   exact ⟨_,_,_,_,rfl,_,_,_,_,rfl,r,by omega,hl.trans hl'⟩
theorem r3reduce_c {h:Heap} {s:Bool} {A B:Option Addr} {n c m d:Nat} {z:Int} {v:Nat} (u:IsI h s A n c z) (w:IsN h B m d v) (hv:v≠0) (hn:n<=1073741824) (hm:m<=1073741824) :
  CallsU Tryz.prog 70 [.bool s,.slice A n c,.slice B m d] h fun r h' => ∃ s' A' n' c' B' m' d', r = .agg #[.bool s', .slice A' n' c', .slice B' m' d']/\NmQ h' s' A' n' c' B' m' d' (mkRat z v)/\n' <= n/\m' <= m/\Le h h' := by
 apply ref03_reduce_ok
 have un:=u.natAbs
 obtain ⟨e1,e2⟩:=mkRat_num (z:=z) hv
 refine (r1gcd_c un w hn hm).mono ?_
 rintro _ h1 ⟨A1,k1,c1,rfl,hN1,hk1,hl1⟩
 have hg:Nat.gcd z.natAbs v≠0:=by have:=Nat.gcd_pos_of_pos_right z.natAbs (show 0<v by omega);omega
 refine ⟨_,_,_,rfl,(r1divmod_c (un.mono hl1) hN1.is hn (by omega) hg).mono ?_⟩
 rintro _ h2 ⟨A2,k2,c2,A3,k3,c3,rfl,hN2,_,hl2⟩
 refine ⟨_,_,_,_,_,_,_,rfl,(r1divmod_c (w.mono (hl1.trans hl2)) (hN1.mono hl2).is hm (by omega) hg).mono ?_⟩
 rintro _ h3 ⟨A4,k4,c4,A5,k5,c5,rfl,hN4,_,hl3⟩
 have hk2:=NmN.le_of hN2 (un.sz.le (Nat.div_le_self _ _))
 have hk4:=NmN.le_of hN4 (w.sz.le (Nat.div_le_self _ _))
 have hI:IsI h3 s A2 k2 c2 (mkRat z v).num:=by
  refine ⟨_,(hN2.mono hl3).is, ?_⟩
  rw [<- e1]
  have hs:=mkRat_sign (z:=z) hv
  obtain ⟨x,_,ez⟩:=u
  have:(mkRat z v).num=0↔z=0:=by rw [Rat.num_eq_zero];exact Rat.mkRat_eq_zero hv
  cases s<;>simp at ez ⊢ <;> omega
 refine ⟨_,_,_,_,_,_,_,rfl,(r2norm_c hI (by omega)).mono ?_⟩
 rintro _ h4 ⟨s', A6,k6,c6,rfl,hN6,hk6,hl4⟩
 refine ⟨_,_,_,_,rfl,_,_,_,_,_,_,_,rfl,⟨hN6, ?_⟩,by omega,hk4,((hl1.trans hl2).trans hl3).trans hl4⟩
 rw [e2]
 exact hN4.mono hl4
theorem r3zero_c {h:Heap} {s:Bool} {A B:Option Addr} {n c m d:Nat} {z:Int} {v:Nat} (u:IsI h s A n c z) (w:IsN h B m d v) (hn:n<=1099511627776) (hm:m<=1099511627776) :
  CallsU Tryz.prog 188 [.agg #[.bool s,.slice A n c,.slice B m d]] h fun r h' => r = .bool (decide (z=0\/v=0))/\Le h h' := by
 apply ref03_Zero_ok
 refine (r1norm_c u.natAbs (by omega)).mono ?_
 rintro _ h1 ⟨A1,k1,c1,rfl,_,hN1,hl1⟩
 have hz1:=NmN.zero_iff hN1
 refine ⟨_,_,_,rfl,Br.mk (fun q=> ?_) (fun q=> ?_)⟩
 ·have q' : k1=0:=by have:=beq_iff_eq.1 q;omega
  have:=hz1.1 q'
  rw [decide_eq_true (Or.inl (by omega))]
  exact ⟨rfl,hl1⟩
 ·have q' : k1≠0:=by have:=beq_eq_false_iff_ne.1 q;omega
  refine (r1norm_c (w.mono hl1) (by omega)).mono ?_
  rintro _ h2 ⟨A2,k2,c2,rfl,_,hN2,hl2⟩
  have hz2:=NmN.zero_iff hN2
  refine ⟨_,_,_,rfl, ?_,hl1.trans hl2⟩
  congr 1
  rw [Bool.eq_iff_iff,beq_iff_eq,decide_eq_true_eq]
  omega
theorem r3norm_c {h:Heap} {s:Bool} {A B:Option Addr} {n c m d:Nat} {q:Rat} (u:IsQ h s A n c B m d q) (hn:n<=1073741824) (hm:m<=1073741824) :
  CallsU Tryz.prog 119 [.agg #[.bool s,.slice A n c,.slice B m d]] h fun r h' => ∃ s' A' n' c' B' m' d', r = .agg #[.bool s', .slice A' n' c', .slice B' m' d']/\NmQ h' s' A' n' c' B' m' d' q/\n' <= max n 2/\m' <= max m 2/\Le h h' := by
 apply ref03_Norm_ok
 obtain ⟨z,v,uz,uv,rfl⟩:=u
 refine (r3zero_c uz uv (by omega) (by omega)).mono ?_
 rintro _ h1 ⟨rfl,hl1⟩
 refine ⟨_,rfl,Br.mk (fun b=> ?_) (fun b=> ?_)⟩
 ·have b' := of_decide_eq_true b
  refine (whole_c 0 (by omega) (by omega) h1).mono ?_
  rintro _ h2 ⟨s2,A2,n2,c2,B2,m2,d2,rfl,hN,hn2,hm2,hl2⟩
  have e:mkRat z v=((0:Int):Rat):=by
   rcases b' with e | e
   ·rw [e];simp
   ·rw [e];simp
  rw [<- e] at hN
  exact ⟨_,_,_,_,_,_,_,rfl,_,_,_,_,_,_,_,rfl,hN,by omega,by omega,hl1.trans hl2⟩
 ·have b' := of_decide_eq_false b
  refine (r3reduce_c (uz.mono hl1) (uv.mono hl1) (fun e=>b' (Or.inr e)) hn hm).mono ?_
  rintro _ h2 ⟨s2,A2,n2,c2,B2,m2,d2,rfl,hN,hn2,hm2,hl2⟩
  exact ⟨_,_,_,_,_,_,_,rfl,_,_,_,_,_,_,_,rfl,hN,by omega,by omega,hl1.trans hl2⟩
theorem mkRat_add {z w:Int} {v u:Nat} (hv:v≠0) (hu:u≠0):mkRat (z*u+w*v) (v*u)=mkRat z v+mkRat w u:=by
 rw [Rat.mkRat_add_mkRat _ _ hv hu]
theorem r3add_b {h:Heap} {s s2:Bool} {A B C D:Option Addr} {n c m d n2 c2 m2 d2:Nat} {q p:Rat} (u:IsQ h s A n c B m d q) (w:IsQ h s2 C n2 c2 D m2 d2 p) (hn:n<=134217728) (hm:m<=134217728) (hn2:n2<=134217728) (hm2:m2<=134217728) :
  CallsU Tryz.prog 68 [.agg #[.bool s,.slice A n c,.slice B m d],.agg #[.bool s2,.slice C n2 c2,.slice D m2 d2]] h fun r h' => ∃ s' A' n' c' B' m' d', r = .agg #[.bool s', .slice A' n' c', .slice B' m' d']/\NmQ h' s' A' n' c' B' m' d' (q+p)/\n' <= max (max n 2+max m2 2) (max n2 2+max m 2)+1/\m' <= max m 2+max m2 2/\Le h h' := by
 apply ref03_Add_ok
 refine (r3norm_c u (by omega) (by omega)).mono ?_
 rintro _ h1 ⟨s1,A1,n1,c1,B1,m1,d1,rfl,nq,hn1,hm1,hl1⟩
 refine ⟨_,_,_,_,_,_,_,rfl,(by first | assumption | exact Le.refl _),(r3norm_c (w.mono hl1) (by omega) (by omega)).mono ?_⟩
 rintro _ h2 ⟨s3,A3,n3,c3,B3,m3,d3,rfl,np,hn3,hm3,hl2⟩
 have nq2:=nq.mono hl2
 refine ⟨_,_,_,_,_,_,_,rfl,(r2mul_c nq2.1.is (IsI.pos np.2.is) (by omega) (by omega)).mono ?_⟩
 rintro _ h3 ⟨s4,A4,k4,c4,rfl,hN4,hk4,hl3⟩
 refine ⟨_,_,_,_,rfl,(by first | assumption | exact Le.refl _),(r2mul_c (np.1.mono hl3).is (IsI.pos (nq2.2.mono hl3).is) (by omega) (by omega)).mono ?_⟩
 rintro _ h4 ⟨s5,A5,k5,c5,rfl,hN5,hk5,hl4⟩
 refine ⟨_,_,_,_,rfl,(r2add_c (hN4.mono hl4).is hN5.is (by omega) (by omega)).mono ?_⟩
 rintro _ h5 ⟨s6,A6,k6,c6,rfl,hN6,hk6,hl5⟩
 have hl25:=(hl3.trans hl4).trans hl5
 refine ⟨_,_,_,_,rfl,(r1mul_c (nq2.2.mono hl25).is (np.2.mono hl25).is (by omega) (by omega)).mono ?_⟩
 rintro _ h6 ⟨A7,k7,c7,rfl,hN7,hl6⟩
 have hk7:=NmN.le_of hN7 (nq2.2.sz.mul np.2.sz)
 refine ⟨_,_,_,rfl,(by first | assumption | exact Le.refl _),(r3reduce_c (hN6.mono hl6).is hN7.is (Nat.mul_ne_zero q.den_nz p.den_nz) (by omega) (by omega)).mono ?_⟩
 rintro _ h7 ⟨s8,A8,n8,c8,B8,m8,d8,rfl,hN8,b1,b2,hl7⟩
 rw [mkRat_add q.den_nz p.den_nz,Rat.mkRat_self,Rat.mkRat_self] at hN8
 exact ⟨_,_,_,_,_,_,_,rfl,_,_,_,_,_,_,_,rfl,hN8,by omega,by omega,((hl1.trans hl2).trans hl25).trans (hl6.trans hl7)⟩
end Go.Proofs.YtfglcgbgaeegaaaGreatDoor

namespace Go.Proofs.YtfglcgbgaeegaaaGreatDoor
open Go Go.Vcg
end Go.Proofs.YtfglcgbgaeegaaaGreatDoor

namespace Go.Proofs.YtfglcgbgaeegaaaGreatDoor
open Go Go.Vcg
attribute [local irreducible] Br
theorem r2small_c {h:Heap} {s:Bool} {A:Option Addr} {n c:Nat} {z:Int} (u:IsI h s A n c z) (hn:n<=1099511627776) :
  CallsU Tryz.prog 264 [.agg #[.bool s,.slice A n c]] h fun r h' => r = .tuple #[.int .i64 (if fitsZ z then z else 0),.bool (fitsZ z)]/\Le h h' := by
 apply ref02_Small_ok
 refine (r2norm_c u hn).mono ?_
 rintro _ h1 ⟨s1,A1,k1,c1,rfl,⟨hN,hs⟩,hk1,hl1⟩
 have hB:B32=4294967296:=rfl
 have hsz:=NmN.sz hN
 refine ⟨_,_,_,_,rfl,Br.mk (fun q=> ?_) (fun q=> ?_)⟩
 ·have q' := of_decide_eq_true q
  have hbig : ¬ z.natAbs<B32^2:=fun hlt=>by have:=NmN.len_le hN hlt;omega
  have hf:fitsZ z=false:=decide_eq_false (by rw [hB] at hbig;omega)
  rw [hf]
  exact ⟨rfl,hl1⟩
 ·have q' := of_decide_eq_false q
  have hz64:z.natAbs<18446744073709551616:=by
   have:=hsz.mono (show k1<=2 by omega)
   unfold Sz at this
   rw [hB] at this
   omega
  obtain ⟨xs,a,ez,_⟩:=hN
  have la:=a.len
  rintro _ rfl
  rw [wrap_i64 (by omega) (by omega)]
  refine ⟨fun m nn i h' => m<=k1/\i=(m:Int)-1/\nn=((val (xs.drop m):Nat):Int)/\h1=h', ⟨k1,by omega,rfl,by rw [List.drop_of_length_le (by omega)];rfl,rfl⟩, ?_⟩
  rintro m _ _ _ ⟨hm,rfl,rfl,rfl⟩
  have hval:val xs=z.natAbs:=ez
  have hdl:val (xs.drop m)*B32^m<=val xs:=by
   have:=val_split (xs:=xs) (k:=m) (by omega)
   rw [Nat.mul_comm]
   omega
  refine Br.mk (fun q2=> ?_) (fun q2=> ?_)
  ·have hm1:1<=m:=by have:=of_decide_eq_true q2;omega
   obtain ⟨k,rfl⟩ : ∃ k,m=k+1:=⟨m-1,by omega⟩
   have e1:((k+1:Nat):Int)-1=(k:Int):=by omega
   rw [e1]
   simp only [Int.toNat_natCast]
   obtain ⟨ad,hA,hld⟩:=a.get (i:=k) (by omega)
   have hx:=a.getD_lt k
   have hvd:=val_drop_cons (xs:=xs) (k:=k) (by omega)
   have hb:val (xs.drop k)<18446744073709551616:=by
    have:=val_split (xs:=xs) (k:=k) (by omega)
    have hp:1<=B32^k:=Nat.pow_pos (by decide)
    have:val (xs.drop k)<=B32^k*val (xs.drop k):=Nat.le_mul_of_pos_left _ hp
    omega
   rintro _ rfl
   refine ⟨ad,hA,by omega,by omega,_,hld, ?_⟩
   rintro _ rfl _ rfl
   refine ⟨k,by omega,by omega,wrap_i64 (by omega) (by omega), ?_,by first | rfl | trivial⟩
   have hvd' : val (xs.drop k)=xs.getD k 0+4294967296*val (xs.drop (k+1)):=hvd
   have w1:IntKind.u64.wrap (((val (xs.drop (k+1)):Nat):Int)*4294967296)=((val (xs.drop (k+1))*4294967296:Nat):Int):=wu (by omega) (by omega)
   rw [wu (n:=xs.getD k 0) rfl (by omega),w1]
   exact wu (n:=val (xs.drop k)) (by omega) hb
  ·have hm0:m=0:=by have:=of_decide_eq_false q2;omega
   subst hm0
   rw [List.drop_zero,hval]
   have key : ∀ C:Heap->Prop,(¬ (s1=true/\(z.natAbs:Int)<=9223372036854775808)->C h1)->(∀ t:Int,t=z->s1=true->(z.natAbs:Int)<=9223372036854775808->(Value.tuple #[Value.int .i64 t,Value.bool true] = .tuple #[.int .i64 (if fitsZ z then z else 0),.bool (fitsZ z)]/\Le h h1)):=by
    intro C _ t et hs1 hle
    subst et
    have hz:t<0:=by rw [hs] at hs1;simpa using hs1
    have hf:fitsZ t=true:=decide_eq_true (by omega)
    rw [hf]
    exact ⟨by simp,hl1⟩
   refine ⟨fun h' => h1=h' /\ ¬ (s1=true/\(z.natAbs:Int)<=9223372036854775808), ?_,Br.mk (fun q3=>Br.mk (fun q4=> ?_) (fun q4=>⟨rfl,fun q5=>of_decide_eq_false q4 q5.2⟩)) (fun q3=>⟨rfl,fun q5=>by rw [q3] at q5;exact Bool.noConfusion q5.1⟩)⟩
   ·rintro _ ⟨rfl,hno⟩
    refine Br.mk (fun q3=>Br.mk (fun q4=> ?_) (fun q4=> ?_)) (fun q3=> ?_)
    ·have hz:0<=z:=by rw [hs] at q3;simp at q3;exact q3
     have q4' := of_decide_eq_true q4
     have hf:fitsZ z=true:=decide_eq_true (by omega)
     have e:IntKind.i64.wrap (z.natAbs:Int)=z:=by rw [IntKind.wrap_i64];omega
     rw [hf,e,if_pos rfl]
     exact ⟨rfl,hl1⟩
    ·have hz:0<=z:=by rw [hs] at q3;simp at q3;exact q3
     have q4' := of_decide_eq_false q4
     have hf:fitsZ z=false:=decide_eq_false (by omega)
     rw [hf]
     exact ⟨rfl,hl1⟩
    ·have hs1:s1=true:=by simpa using q3
     have hz:z<0:=by rw [hs] at hs1;simpa using hs1
     have hf:fitsZ z=false:=decide_eq_false (fun q=>hno ⟨hs1,by omega⟩)
     rw [hf]
     exact ⟨rfl,hl1⟩
   ·have q4' := of_decide_eq_true q4
    have hz:z<0:=by rw [hs] at q3;simpa using q3
    rintro _ rfl _ rfl _ rfl
    refine key (fun _=>True) (fun _=>trivial) _ ?_ q3 q4'
    rw [IntKind.wrap_u64,IntKind.wrap_i64,IntKind.wrap_i64,IntKind.wrap_i64]
    omega
theorem r3of_c (z w:Int) (hz1 : -9223372036854775808<=z) (hz2:z<9223372036854775808) (hw1 : -9223372036854775808<=w) (hw2:w<9223372036854775808) (hw:w≠0) (h:Heap) :
  CallsU Tryz.prog 36 [.int .i64 z,.int .i64 w] h fun r h' => ∃ s' A' n' c' B' m' d', r = .tuple #[.agg #[.bool s', .slice A' n' c', .slice B' m' d'],.bool true]/\NmQ h' s' A' n' c' B' m' d' ((z:Rat)/(w:Rat))/\n' <= 2/\m' <= 2/\Le h h' := by
 apply ref03_Of_ok
 refine Br.mk (fun q=>by simp at q;omega) (fun _=> ?_)
 refine (r2of_c z hz1 hz2 h).mono ?_
 rintro _ h1 ⟨s1,A1,k1,c1,rfl,n1,hk1,hl1⟩
 refine ⟨_,_,_,_,rfl,(r2of_c w hw1 hw2 h1).mono ?_⟩
 rintro _ h2 ⟨s2,A2,k2,c2,rfl,n2,hk2,hl2⟩
 have e1:=n1.2
 have e2:=n2.2
 have hI:IsI h2 (!(s1==s2)) A1 k1 c1 (if w<0 then -z else z):=by
  refine ⟨_,(n1.mono hl2).1.is, ?_⟩
  rw [e1,e2]
  by_cases a:z<0<;>by_cases b:w<0<;>simp [a,b]<;>omega
 refine ⟨_,_,_,_,rfl,(r3reduce_c hI n2.1.is (by omega) (by omega) (by omega)).mono ?_⟩
 rintro _ h3 ⟨s3,A3,n3,c3,B3,m3,d3,rfl,hN,hn3,hm3,hl3⟩
 have e:mkRat (if w<0 then -z else z) w.natAbs=(z:Rat)/(w:Rat):=by
  rw [Rat.mkRat_eq_div]
  by_cases b:w<0
  ·simp only [b,if_true]
   have:((w.natAbs:Nat):Rat) = -(w:Rat):=by rw [<- Rat.intCast_natCast,<- Rat.intCast_neg];congr 1;omega
   rw [this,Rat.intCast_neg]
   grind
  ·simp only [b,if_false]
   have:((w.natAbs:Nat):Rat)=(w:Rat):=by rw [<- Rat.intCast_natCast];congr 1;omega
   rw [this]
 rw [e] at hN
 exact ⟨_,_,_,_,_,_,_,rfl,_,_,_,_,_,_,_,rfl,hN,by omega,by omega,(hl1.trans hl2).trans hl3⟩
theorem r3mul_c {h:Heap} {s s2:Bool} {A B C D:Option Addr} {n c m d n2 c2 m2 d2:Nat} {q p:Rat} (u:IsQ h s A n c B m d q) (w:IsQ h s2 C n2 c2 D m2 d2 p) (hn:n<=134217728) (hm:m<=134217728) (hn2:n2<=134217728) (hm2:m2<=134217728) :
  CallsU Tryz.prog 237 [.agg #[.bool s,.slice A n c,.slice B m d],.agg #[.bool s2,.slice C n2 c2,.slice D m2 d2]] h fun r h' => ∃ s' A' n' c' B' m' d', r = .agg #[.bool s', .slice A' n' c', .slice B' m' d']/\NmQ h' s' A' n' c' B' m' d' (q*p)/\n' <= max n 2+max n2 2/\m' <= max m 2+max m2 2/\Le h h' := by
 apply ref03_Mul_ok
 refine (r3norm_c u (by omega) (by omega)).mono ?_
 rintro _ h1 ⟨s1,A1,n1,c1,B1,m1,d1,rfl,nq,hn1,hm1,hl1⟩
 refine ⟨_,_,_,_,_,_,_,rfl,hl1,(r3norm_c (w.mono hl1) (by omega) (by omega)).mono ?_⟩
 rintro _ h2 ⟨s3,A3,n3,c3,B3,m3,d3,rfl,np,hn3,hm3,hl2⟩
 have nq2:=nq.mono hl2
 refine ⟨_,_,_,_,_,_,_,rfl,(r1mul_c nq2.1.1.is np.1.1.is (by omega) (by omega)).mono ?_⟩
 rintro _ h3 ⟨A4,k4,c4,rfl,hN4,hl3⟩
 have hk4:=NmN.le_of hN4 (nq2.1.1.sz.mul np.1.1.sz)
 refine ⟨_,_,_,rfl,hl3,(r1mul_c (nq2.2.mono hl3).is (np.2.mono hl3).is (by omega) (by omega)).mono ?_⟩
 rintro _ h4 ⟨A5,k5,c5,rfl,hN5,hl4⟩
 have hk5:=NmN.le_of hN5 (nq2.2.sz.mul np.2.sz)
 have hI:IsI h4 (!(s1==s3)) A4 k4 c4 (q.num*p.num):=by
  refine ⟨_,(hN4.mono hl4).is, ?_⟩
  rw [<- mul_sign]
  have e1:=nq.1.2
  have e2:=np.1.2
  have a1:(if s1 then -(q.num.natAbs:Int) else (q.num.natAbs:Int))=q.num:=by rw [e1];by_cases hz:q.num<0<;>simp [hz]<;>omega
  have a2:(if s3 then -(p.num.natAbs:Int) else (p.num.natAbs:Int))=p.num:=by rw [e2];by_cases hz:p.num<0<;>simp [hz]<;>omega
  rw [a1,a2]
 refine ⟨_,_,_,rfl,hl4,(r3reduce_c hI hN5.is (Nat.mul_ne_zero q.den_nz p.den_nz) (by omega) (by omega)).mono ?_⟩
 rintro _ h5 ⟨s8,A8,n8,c8,B8,m8,d8,rfl,hN8,b1,b2,hl5⟩
 rw [<- Rat.mkRat_mul_mkRat,Rat.mkRat_self,Rat.mkRat_self] at hN8
 exact ⟨_,_,_,_,_,_,_,rfl,_,_,_,_,_,_,_,rfl,hN8,by omega,by omega,(((hl1.trans hl2).trans hl3).trans hl4).trans hl5⟩
end Go.Proofs.YtfglcgbgaeegaaaGreatDoor

namespace Go.Proofs.YtfglcgbgaeegaaaGreatDoor
open Go Go.Vcg Go.RowKit Go.Sort
attribute [local irreducible] Br
def gx (o:Except Int Ex):Ex:=match o with | .ok x=>x | .error _=> .mk 0 0 0 0 [] []
def prB (o:Except Int (List UInt8)) (t:List UInt8):Bool:=match o with | .ok x=>x==t | .error _=>false
theorem prB_ok {o:Except Int (List UInt8)} {t:List UInt8} (h:prB o t=true):o = .ok t:=by
 cases o with
 | ok x=>rw [eq_of_beq h]
 | error e=>cases h
mutual
theorem evV_lk {ms ms' : List Meas} (h : ∀ nm,lookV ms nm=lookV ms' nm) : ∀ e:Ex,evV ms e=evV ms' e
 | .mk k q n m nm kids=>by
  rw [evV,evV,evL_lk h kids]
  have : ∀ vs,apV ms k q nm vs=apV ms' k q nm vs:=fun vs=>by unfold apV;rw [h]
  simp only [this]
theorem evL_lk {ms ms' : List Meas} (h : ∀ nm,lookV ms nm=lookV ms' nm) : ∀ es:List Ex,evL ms es=evL ms' es
 | []=>by rw [evL,evL]
 | e::es=>by rw [evL,evL,evV_lk h e,evL_lk h es]
end
theorem evalV_lk {ms ms' : List Meas} (h : ∀ nm,lookV ms nm=lookV ms' nm) (e:Ex):evalV ms e=evalV ms' e:=by
 unfold evalV;rw [evV_lk h e]
mutual
def leftV:Ex->Int->Int->Int
 | .mk _ _ n m nm kids,most,deep=>if most<1\/deep<1\/60<nm.length\/4<n\/4<m then -1 else leftL kids (most-1) (deep-1)
def leftL:List Ex->Int->Int->Int
 | [],most,_=>most
 | e::es,most,deep=>if most<0 then most else leftL es (leftV e most deep) deep
end
mutual
theorem leftV_ub : ∀ (e:Ex) (most deep:Int),0<=most-> -1<=leftV e most deep/\leftV e most deep<=most-1
 | .mk _ _ n m nm kids,most,deep,h=>by
  rw [leftV]
  split
  ·omega
  ·have:=leftL_ub kids (most-1) (deep-1) (by omega)
   omega
theorem leftL_ub : ∀ (es:List Ex) (most deep:Int),-1<=most-> -1<=leftL es most deep/\leftL es most deep<=most
 | [],most,deep,h=>by rw [leftL];omega
 | e::es,most,deep,h=>by
  rw [leftL]
  split
  ·omega
  ·have h1:=leftV_ub e most deep (by omega)
   have h2:=leftL_ub es (leftV e most deep) deep (by omega)
   omega
end
mutual
def cntE:Ex->Nat
 | .mk _ _ _ _ _ kids=>1+cntL kids
def cntL:List Ex->Nat
 | []=>0
 | e::es=>cntE e+cntL es
end
mutual
theorem names_cnt : ∀ e:Ex,(namesE e).length<=cntE e
 | .mk k _ _ _ nm kids=>by
  rw [namesE,cntE,List.length_append]
  have:=namesL_cnt kids
  split<;>simp<;>omega
theorem namesL_cnt : ∀ es:List Ex,(namesL es).length<=cntL es
 | []=>by rw [namesL,cntL];simp
 | e::es=>by
  rw [namesL,cntL,List.length_append]
  have h1:=names_cnt e
  have h2:=namesL_cnt es
  omega
end
theorem cntE_pos (e:Ex):0<cntE e:=by cases e;rw [cntE];omega
theorem cntL_len : ∀ es:List Ex,es.length<=cntL es
 | []=>by rw [cntL];simp
 | e::es=>by
  rw [cntL,List.length_cons]
  have h1:=cntE_pos e
  have h2:=cntL_len es
  omega
theorem leftL_neg : ∀ (es:List Ex) (most deep:Int),most<0->leftL es most deep=most
 | [],most,deep,h=>by rw [leftL]
 | e::es,most,deep,h=>by rw [leftL,if_pos h]
mutual
theorem leftV_ok : ∀ (e:Ex) (most deep:Int),most<=1000->0<=leftV e most deep->Szs e/\(cntE e:Int)+leftV e most deep<=most
 | .mk _ _ n m nm kids,most,deep,hm,h=>by
  rw [leftV] at h ⊢
  split at h
  ·omega
  ·rename_i q
   rw [if_neg q]
   obtain ⟨h1,h2⟩:=leftL_ok kids (most-1) (deep-1) (by omega) h
   have h3:=cntL_len kids
   rw [cntE]
   unfold Szs
   exact ⟨⟨by omega,by omega,by omega,by omega,h1⟩,by omega⟩
theorem leftL_ok : ∀ (es:List Ex) (most deep:Int),most<=1000->0<=leftL es most deep->SzsL es/\(cntL es:Int)+leftL es most deep<=most
 | [],most,deep,hm,h=>by
  rw [leftL,cntL]
  unfold SzsL
  exact ⟨trivial,by omega⟩
 | e::es,most,deep,hm,h=>by
  rw [leftL] at h ⊢
  split at h
  ·omega
  ·rename_i q
   rw [if_neg q]
   have hu:=leftV_ub e most deep (by omega)
   have hv:0<=leftV e most deep:=by
    rcases Int.lt_or_le (leftV e most deep) 0 with q2 | q2
    ·rw [leftL_neg es _ _ q2] at h;exact h
    ·exact q2
   obtain ⟨h1,h2⟩:=leftV_ok e most deep hm hv
   obtain ⟨h3,h4⟩:=leftL_ok es (leftV e most deep) deep (by omega) h
   rw [cntL]
   unfold SzsL
   exact ⟨⟨h1,h3⟩,by omega⟩
end
def LfOk (e:Ex):Prop:= ∀ {h:Heap} {vs:List Value} (most deep:Int),IsE h e vs-> -1<=most->most<=1000-> -1000<=deep->deep<=1000->
 CallsU Tryz.prog 88 [.agg vs.toArray,.int .i64 most,.int .i64 deep] h fun r h' => r = .int .i64 (leftV e most deep)/\h=h'
theorem rLeft_node {k:Int} {q0:Rat} {n m:Nat} {nm:List UInt8} {kids:List Ex} (ih:evAll LfOk kids):LfOk (.mk k q0 n m nm kids):=by
 intro h vs most deep u hm1 hm2 hd1 hd2
 obtain ⟨s,A,c,B,d,K,kc,rfl,uq,hc,hk⟩:=u.open
 simp only [Ex.kind,Ex.kids,Ex.ln,Ex.lm,Ex.val,Ex.name] at uq hc hk
 apply ref17_Left_ok
 unfold ref17_Left_vc
 have hlen:(Ex.mk k q0 n m nm kids).kids.length=kids.length:=rfl
 rw [hlen,ba_size,leftV]
 show ∃ C:Bool->Heap->Prop,_
 refine ⟨fun t h' => h=h' /\ (t=true↔(most<1\/deep<1\/60<nm.length\/4<n\/4<m)), ?_, ?_⟩
 ·rintro t _ ⟨rfl,ht⟩
  refine Br.mk (fun q=> ?_) (fun q=> ?_)
  ·rw [if_pos (ht.1 q)]
   exact ⟨rfl,rfl⟩
  ·have hn : ¬ (most<1\/deep<1\/60<nm.length\/4<n\/4<m):=fun q2=>by rw [ht.2 q2] at q;cases q
   rw [if_neg hn]
   rintro _ rfl
   rw [wrap_i64 (by omega) (by omega)]
   refine ⟨fun mm mo i h' => ∃ j,j<=kids.length/\mm=kids.length-j/\i=(j:Int)/\h=h' /\ -1<=mo/\mo+j<=most-1/\leftL (kids.drop j) mo (deep-1)=leftL kids (most-1) (deep-1),⟨kids.length,0,by omega,by omega,rfl,rfl,by omega,by omega,by simp⟩, ?_⟩
   rintro mm mo _ _ ⟨j,hj,rfl,rfl,rfl,hmo1,hmo2,heq⟩
   refine ⟨fun t h' => h=h' /\ (t=true↔(j<kids.length/\0<=mo)), ?_, ?_⟩
   ·rintro t _ ⟨rfl,ht⟩
    refine Br.mk (fun q=> ?_) (fun q=> ?_)
    ·obtain ⟨hlt,h0⟩:=ht.1 q
     obtain ⟨x,hx⟩ : ∃ x,kids[j]?=some x:=⟨_,List.getElem?_eq_getElem hlt⟩
     obtain ⟨ad,vs', eA', hld,ux⟩:=kid_ld (e:= .mk k q0 n m nm kids) hk hx
     have ux' := ux
     obtain ⟨s', A', c', B', d', K', kc', rfl,_,_,_⟩:=ux'.open
     refine ⟨ad,eA', by omega,by omega,_,_,_,_,_,_,_,_,_,_,_,_,by rw [Int.toNat_natCast];exact hld, ?_⟩
     rintro _ rfl
     rw [wrap_i64 (by omega) (by omega)]
     refine ((ih.get hx) mo (deep-1) ux hmo1 (by omega) (by omega) (by omega)).mono ?_
     rintro _ _ ⟨rfl,rfl⟩
     refine ⟨_,rfl, ?_⟩
     rintro _ rfl
     have hub:=leftV_ub x mo (deep-1) h0
     refine ⟨kids.length-(j+1),by omega,j+1,by omega,rfl,wi (by omega) (by omega),rfl,by omega,by omega, ?_⟩
     rw [<- heq,List.drop_eq_getElem_cons hlt,leftL,if_neg (by omega)]
     have ex:kids[j]=x:=by rw [List.getElem?_eq_getElem hlt] at hx;exact Option.some.inj hx
     rw [ex]
    ·have hn : ¬ (j<kids.length/\0<=mo):=fun q2=>by rw [ht.2 q2] at q;cases q
     refine ⟨?_,rfl⟩
     rw [<- heq]
     rcases Int.lt_or_le mo 0 with q2 | q2
     ·rw [leftL_neg _ _ _ q2]
     ·have:j=kids.length:=by omega
      subst this
      rw [List.drop_length,leftL]
   ·refine Br.mk (fun q=>⟨rfl, ?_⟩) (fun q=>⟨rfl, ?_⟩)
    ·have:=of_decide_eq_true q
     rw [decide_eq_true_eq]
     omega
    ·have:=of_decide_eq_false q
     constructor
     ·intro q;cases q
     ·intro q;omega
 ·refine Br.mk (fun q1=>⟨rfl,fun _=>Or.inl (of_decide_eq_true q1),fun _=>rfl⟩) (fun q1=>Br.mk (fun q2=>⟨rfl,fun _=>Or.inr (Or.inl (of_decide_eq_true q2)),fun _=>rfl⟩) (fun q2=>Br.mk (fun q3=>⟨rfl,fun _=> ?_,fun _=>rfl⟩) (fun q3=>Br.mk (fun q4=>⟨rfl,fun _=> ?_,fun _=>rfl⟩) (fun q4=>⟨rfl, ?_⟩))))
  ·have:=of_decide_eq_true q3
   have h60:60<nm.length:=Int.ofNat_lt.1 this
   omega
  ·have:=of_decide_eq_true q4
   have h60:4<n:=Int.ofNat_lt.1 this
   omega
  ·have a1:=of_decide_eq_false q1
   have a2:=of_decide_eq_false q2
   have a3 : ¬ 60<nm.length:=fun q=>of_decide_eq_false q3 (Int.ofNat_lt.2 q)
   have a4 : ¬ 4<n:=fun q=>of_decide_eq_false q4 (Int.ofNat_lt.2 q)
   rw [decide_eq_true_eq]
   constructor
   ·intro q
    have:4<m:=Int.ofNat_lt.1 q
    omega
   ·intro q
    have:4<m:=by omega
    exact Int.ofNat_lt.2 this
mutual
theorem rLeft_all : ∀ e:Ex,LfOk e
 | .mk _ _ _ _ _ kids=>rLeft_node (rLeft_allL kids)
theorem rLeft_allL : ∀ es:List Ex,evAll LfOk es
 | []=>trivial
 | e::es=>⟨rLeft_all e,rLeft_allL es⟩
end
theorem rSmall_c {e:Ex} {h:Heap} {vs:List Value} (u:IsE h e vs):CallsU Tryz.prog 45 [.agg vs.toArray] h fun r h' => r = .bool (decide (0<=leftV e 60 20))/\h=h' := by
 have u' := u
 obtain ⟨s,A0,c0,B,d,K,kc,rfl,_⟩:=u'.open
 apply ref17_Small_ok
 refine ((rLeft_all e) 60 20 u (by omega) (by omega) (by omega) (by omega)).mono ?_
 rintro _ _ ⟨rfl,rfl⟩
 exact ⟨_,rfl,rfl,rfl⟩
theorem small_ok {e:Ex} (h:0<=leftV e 60 20):Szs e/\cntE e<=60/\(namesE e).length<=60:=by
 obtain ⟨h1,h2⟩:=leftV_ok e 60 20 (by omega) h
 have:=names_cnt e
 exact ⟨h1,by omega,by omega⟩
structure EnvA (h:Heap) (A:Option Addr) (n c:Nat) (ms:List Meas):Prop where
 len:n=ms.length
 cap:n<=c
 mem:ms≠[]-> ∃ (ad:Addr) (b:Blk),A=some ad/\ad.spot=none/\h ad.block=some b/\IsMs h ms (b.cells.drop ad.off)
theorem rSameNat_c {h:Heap} {A B:Option Addr} {n c m d:Nat} {xs ys:List Nat} (u:U32 h A n c xs) (w:U32 h B m d ys) (hn:n<=1099511627776) :
  CallsU Tryz.prog 118 [.slice A n c,.slice B m d] h fun r h' => r = .bool (decide (xs=ys))/\h=h' := by
 apply ref08_sameNat_ok
 have l1:xs.length=n:=u.1
 have l2:ys.length=m:=w.1
 refine Br.mk (fun q=> ?_) (fun q=> ?_)
 ·have:n≠m:=fun e=>by subst e;simp at q
  rw [decide_eq_false (fun e=>this (by rw [<- l1,<- l2,e]))]
  exact ⟨rfl,rfl⟩
 ·have hnm:n=m:=by
   have:(((n:Nat):Int) != ((m:Nat):Int))=false:=q
   simp only [bne_eq_false_iff_eq] at this
   omega
  subst hnm
  refine ⟨fun mm i h' => ∃ k,k<=n/\mm=n-k/\i=(k:Int)/\h=h' /\ ∀ j,j<k->xs.getD j 0=ys.getD j 0,⟨n,0,by omega,by omega,rfl,rfl,fun j hj=>by omega⟩, ?_⟩
  rintro mm _ _ ⟨k,hk,rfl,rfl,rfl,hall⟩
  refine Br.mk (fun q2=> ?_) (fun q2=> ?_)
  ·have hlt:k<n:=by have:=of_decide_eq_true q2;omega
   obtain ⟨ad,eA,hld⟩:=u.get hlt
   obtain ⟨ad2,eB,hld2⟩:=w.get hlt
   rw [Int.toNat_natCast]
   refine ⟨ad,eA,by omega,by omega,_,hld,ad2,eB,by omega,by omega,_,hld2,Br.mk (fun q3=> ?_) (fun q3=> ?_)⟩
   ·have hne:xs.getD k 0≠ys.getD k 0:=fun e=>by rw [e] at q3;simp at q3
    rw [decide_eq_false (fun e=>hne (by rw [e]))]
    exact ⟨rfl,rfl⟩
   ·have he:xs.getD k 0=ys.getD k 0:=by
     have:(((xs.getD k 0:Nat):Int) != ((ys.getD k 0:Nat):Int))=false:=q3
     simp only [bne_eq_false_iff_eq] at this
     omega
    rintro _ rfl
    refine ⟨n-(k+1),by omega,k+1,by omega,rfl,wi (by omega) (by omega),rfl,fun j hj=> ?_⟩
    rcases Nat.lt_succ_iff_lt_or_eq.1 hj with q | q
    ·exact hall j q
    ·subst q;exact he
  ·have hk' : k=n:=by have:=of_decide_eq_false q2;omega
   subst hk'
   have:xs=ys:=by
    apply List.ext_getElem?
    intro i
    rcases Nat.lt_or_ge i k with q | q
    ·have h1:=hall i q
     rw [List.getD_eq_getElem?_getD,List.getD_eq_getElem?_getD] at h1
     rw [List.getElem?_eq_getElem (by omega),List.getElem?_eq_getElem (by omega)] at h1 ⊢
     simpa using h1
    ·rw [List.getElem?_eq_none (by omega),List.getElem?_eq_none (by omega)]
   rw [decide_eq_true this]
   exact ⟨rfl,rfl⟩
theorem r2same_c {h:Heap} {s s2:Bool} {A B:Option Addr} {n c m d:Nat} {xs ys:List Nat} (u:U32 h A n c xs) (w:U32 h B m d ys) (hn:n<=1099511627776) :
  CallsU Tryz.prog 117 [.agg #[.bool s,.slice A n c],.agg #[.bool s2,.slice B m d]] h fun r h' => r = .bool (decide (s=s2/\xs=ys))/\h=h' := by
 apply ref02_Same_ok
 have l1:xs.length=n:=u.1
 have l2:ys.length=m:=w.1
 refine ⟨fun t h' => h=h' /\ (t=true-> ¬ (s=s2/\xs=ys))/\(t=false->s=s2/\n=m), ?_, ?_⟩
 ·rintro t _ ⟨rfl,ht,hf⟩
  refine Br.mk (fun q=> ?_) (fun q=> ?_)
  ·rw [decide_eq_false (ht q)];exact ⟨rfl,rfl⟩
  ·obtain ⟨rfl,hnm⟩:=hf q
   subst hnm
   refine ⟨fun mm i h' => ∃ k,k<=n/\mm=n-k/\i=(k:Int)/\h=h' /\ ∀ j,j<k->xs.getD j 0=ys.getD j 0,⟨n,0,by omega,by omega,rfl,rfl,fun j hj=>by omega⟩, ?_⟩
   rintro mm _ _ ⟨k,hk,rfl,rfl,rfl,hall⟩
   refine Br.mk (fun q2=> ?_) (fun q2=> ?_)
   ·have hlt:k<n:=by have:=of_decide_eq_true q2;omega
    obtain ⟨ad,eA,hld⟩:=u.get hlt
    obtain ⟨ad2,eB,hld2⟩:=w.get hlt
    rw [Int.toNat_natCast]
    refine ⟨ad,eA,by omega,by omega,_,hld,ad2,eB,by omega,by omega,_,hld2,Br.mk (fun q3=> ?_) (fun q3=> ?_)⟩
    ·have hne:xs.getD k 0≠ys.getD k 0:=fun e=>by rw [e] at q3;simp at q3
     rw [decide_eq_false (fun e=>hne (by rw [e.2]))]
     exact ⟨rfl,rfl⟩
    ·have he:xs.getD k 0=ys.getD k 0:=by
      have:(((xs.getD k 0:Nat):Int) != ((ys.getD k 0:Nat):Int))=false:=q3
      simp only [bne_eq_false_iff_eq] at this
      omega
     rintro _ rfl
     refine ⟨n-(k+1),by omega,k+1,by omega,rfl,wi (by omega) (by omega),rfl,fun j hj=> ?_⟩
     rcases Nat.lt_succ_iff_lt_or_eq.1 hj with q | q
     ·exact hall j q
     ·subst q;exact he
   ·have hk' : k=n:=by have:=of_decide_eq_false q2;omega
    subst hk'
    have:xs=ys:=by
     apply List.ext_getElem?
     intro i
     rcases Nat.lt_or_ge i k with q | q
     ·have h1:=hall i q
      rw [List.getD_eq_getElem?_getD,List.getD_eq_getElem?_getD] at h1
      rw [List.getElem?_eq_getElem (by omega),List.getElem?_eq_getElem (by omega)] at h1 ⊢
      simpa using h1
     ·rw [List.getElem?_eq_none (by omega),List.getElem?_eq_none (by omega)]
    rw [decide_eq_true ⟨rfl,this⟩]
    exact ⟨rfl,rfl⟩
 ·refine Br.mk (fun q=>⟨rfl,fun _=> ?_,fun q=>by cases q⟩) (fun q=>⟨rfl,fun q2=> ?_,fun q2=> ?_⟩)
  ·rintro ⟨rfl,_⟩
   simp at q
  ·rintro ⟨_,rfl⟩
   have:n=m:=by omega
   subst this
   simp at q2
  ·have:(((n:Nat):Int) != ((m:Nat):Int))=false:=q2
   simp only [bne_eq_false_iff_eq] at this
   exact ⟨by simpa using q,by omega⟩
theorem rSameRatio_c {h:Heap} {s s2:Bool} {A B C D:Option Addr} {n c m d n2 c2 m2 d2:Nat} {xs ys zs ws:List Nat} (u1:U32 h A n c xs) (u2:U32 h B m d ys) (w1:U32 h C n2 c2 zs) (w2:U32 h D m2 d2 ws) (hn:n<=1099511627776) (hm:m<=1099511627776) :
  CallsU Tryz.prog 66 [.agg #[.bool s,.slice A n c,.slice B m d],.agg #[.bool s2,.slice C n2 c2,.slice D m2 d2]] h fun r h' => r = .bool (decide (s=s2/\xs=zs/\ys=ws))/\h=h' := by
 apply ref08_SameRatio_ok
 refine (r2same_c u1 w1 hn).mono ?_
 rintro _ _ ⟨rfl,rfl⟩
 refine ⟨_,rfl,Br.mk (fun q=> ?_) (fun q=> ?_)⟩
 ·have:=of_decide_eq_true q
  refine (rSameNat_c u2 w2 hm).mono ?_
  rintro _ _ ⟨rfl,rfl⟩
  refine ⟨_,rfl, ?_,rfl⟩
  congr 1
  rw [Bool.eq_iff_iff,decide_eq_true_eq,decide_eq_true_eq]
  exact ⟨fun h=>⟨this.1,this.2,h⟩,fun h=>h.2.2⟩
 ·have:=of_decide_eq_false q
  rw [decide_eq_false (fun h=>this ⟨h.1,h.2.1⟩)]
  exact ⟨rfl,rfl⟩
theorem rSameQ_c {h:Heap} {s s2:Bool} {A B C D:Option Addr} {n c m d n2 c2 m2 d2:Nat} {q:Rat} (u:NmQ h s A n c B m d q) (w:NmQ h s2 C n2 c2 D m2 d2 q) (hn:n<=1099511627776) (hm:m<=1099511627776) :
  CallsU Tryz.prog 66 [.agg #[.bool s,.slice A n c,.slice B m d],.agg #[.bool s2,.slice C n2 c2,.slice D m2 d2]] h fun r h' => r = .bool true/\h=h' := by
 obtain ⟨⟨⟨xs,u1,v1,N1⟩,s1⟩,⟨ys,u2,v2,N2⟩⟩:=u
 obtain ⟨⟨⟨zs,w1,v3,N3⟩,s3⟩,⟨ws,w2,v4,N4⟩⟩:=w
 refine (rSameRatio_c u1 u2 w1 w2 hn hm).mono ?_
 rintro _ _ ⟨rfl,rfl⟩
 refine ⟨?_,rfl⟩
 rw [decide_eq_true]
 refine ⟨by rw [s1,s3],nrm_inj u1.3 w1.3 N1 N3 (by rw [v1,v3]),nrm_inj u2.3 w2.3 N2 N4 (by rw [v2,v4])⟩
theorem cmpQ_self (x:Rat):cmpQ x x=0:=by unfold cmpQ;rw [if_neg (by grind),if_neg (by grind)]
theorem cmpQ_ne {x y:Rat} (h:cmpQ x y≠0):x≠y:=fun e=>h (by rw [e];exact cmpQ_self y)
theorem cmpQ_eq {x y:Rat} (h:cmpQ x y=0):x=y:=by
 unfold cmpQ at h
 split at h
 ·omega
 ·split at h
  ·omega
  ·grind
end Go.Proofs.YtfglcgbgaeegaaaGreatDoor

namespace Go.Proofs.YtfglcgbgaeegaaaGreatDoor
open Go Go.Vcg Go.RowKit Go.Sort
end Go.Proofs.YtfglcgbgaeegaaaGreatDoor

namespace Go.Proofs.YtfglcgbgaeegaaaGreatDoor
open Go Go.Vcg Go.RowKit Go.Sort
attribute [local irreducible] Br
theorem r2cmp_c {h:Heap} {s s2:Bool} {A B:Option Addr} {n c m d:Nat} {z w:Int} (u:IsI h s A n c z) (v:IsI h s2 B m d w) (hn:n<=1099511627776) (hm:m<=1099511627776) :
  CallsU Tryz.prog 172 [.agg #[.bool s,.slice A n c],.agg #[.bool s2,.slice B m d]] h fun r h' => r = .int .i64 (cmpI z w)/\Le h h' := by
 apply ref02_Cmp_ok
 refine (r2norm_c u hn).mono ?_
 rintro _ h1 ⟨s1,A1,k1,c1,rfl,N1,hk1,hl1⟩
 refine ⟨_,_,_,_,rfl,hl1,(r2norm_c (v.mono hl1) hm).mono ?_⟩
 rintro _ h2 ⟨s2', A2,k2,c2,rfl,N2,hk2,hl2⟩
 have M1:=N1.mono hl2
 have e1:s1=decide (z<0):=N1.2
 have e2:s2' = decide (w<0):=N2.2
 have l2:=hl1.trans hl2
 have K1:=r1cmp_c N2.1.is M1.1.is (by omega) (by omega)
 have K2:=r1cmp_c M1.1.is N2.1.is (by omega) (by omega)
 refine ⟨_,_,_,_,rfl,fun t h' => h2=h' /\ (t=true↔z<0/\ ¬ w<0), ?_, ?_⟩
 ·rintro t _ ⟨rfl,ht⟩
  refine Br.mk (fun q=> ?_) (fun q=> ?_)
  ·have:=ht.1 q
   refine ⟨?_,l2⟩
   unfold cmpI
   rw [if_pos (by omega)]
  ·have hn1 : ¬ (z<0/\ ¬ w<0):=fun q2=>by rw [ht.2 q2] at q;cases q
   refine ⟨fun t h' => h2=h' /\ (t=true ↔ ¬ z<0/\w<0), ?_, ?_⟩
   ·rintro t _ ⟨rfl,ht⟩
    refine Br.mk (fun q=> ?_) (fun q=> ?_)
    ·have:=ht.1 q
     refine ⟨?_,l2⟩
     unfold cmpI
     rw [if_neg (by omega),if_pos (by omega)]
    ·have hn2 : ¬ (¬ z<0/\w<0):=fun q2=>by rw [ht.2 q2] at q;cases q
     refine Br.mk (fun q3=> ?_) (fun q3=> ?_)
     ·have hz:z<0:=by rw [e1] at q3;exact of_decide_eq_true q3
      refine K1.mono ?_
      rintro _ _ ⟨rfl,rfl⟩
      refine ⟨_,rfl, ?_,l2⟩
      unfold cmpI
      have a1:((w.natAbs:Nat):Int) = -w:=by omega
      have a2:((z.natAbs:Nat):Int) = -z:=by omega
      rw [a1,a2]
      congr 1
      split<;>split<;>(try split)<;>(try split)<;>omega
     ·have hz : ¬ z<0:=by rw [e1] at q3;exact of_decide_eq_false q3
      refine K2.mono ?_
      rintro _ _ ⟨rfl,rfl⟩
      refine ⟨_,rfl, ?_,l2⟩
      unfold cmpI
      have a1:((w.natAbs:Nat):Int)=w:=by omega
      have a2:((z.natAbs:Nat):Int)=z:=by omega
      rw [a1,a2]
   ·rw [e1,e2]
    refine Br.mk (fun q3=>⟨rfl, ?_⟩) (fun q3=>⟨rfl, ?_⟩)
    ·have hz : ¬ z<0:=by simpa using q3
     rw [decide_eq_true_eq]
     omega
    ·have hz:z<0:=by simpa using q3
     constructor
     ·intro q;cases q
     ·intro q;omega
 ·rw [e1,e2]
  refine Br.mk (fun q3=>⟨rfl, ?_⟩) (fun q3=>⟨rfl, ?_⟩)
  ·have hz:z<0:=by simpa using q3
   rw [Bool.not_eq_true', decide_eq_false_iff_not]
   omega
  ·have hz : ¬ z<0:=by simpa using q3
   constructor
   ·intro q;cases q
   ·intro q;omega
theorem r3cmp_c {h:Heap} {s s2:Bool} {A B C D:Option Addr} {n c m d n2 c2 m2 d2:Nat} {q p:Rat} (u:IsQ h s A n c B m d q) (w:IsQ h s2 C n2 c2 D m2 d2 p) (hn:n<=134217728) (hm:m<=134217728) (hn2:n2<=134217728) (hm2:m2<=134217728) :
  CallsU Tryz.prog 101 [.agg #[.bool s,.slice A n c,.slice B m d],.agg #[.bool s2,.slice C n2 c2,.slice D m2 d2]] h fun r h' => r = .int .i64 (cmpQ q p)/\Le h h' := by
 apply ref03_Cmp_ok
 refine (r3norm_c u (by omega) (by omega)).mono ?_
 rintro _ h1 ⟨s1,A1,n1,c1,B1,m1,d1,rfl,N1,a1,b1,hl1⟩
 refine ⟨_,_,_,_,_,_,_,rfl,hl1,(r3norm_c (w.mono hl1) (by omega) (by omega)).mono ?_⟩
 rintro _ h2 ⟨s2', A2,n2', c2', B2,m2', d2', rfl,N2,a2,b2,hl2⟩
 have M1:=N1.mono hl2
 have pv : ∀ {B:Option Addr} {m d v:Nat} {h:Heap},IsN h B m d v->IsI h false B m d (v:Int):=fun u=>⟨_,u,rfl⟩
 refine ⟨_,_,_,_,_,_,_,rfl,(r2mul_c M1.1.is (pv N2.2.is) (by omega) (by omega)).mono ?_⟩
 rintro _ h3 ⟨s3,A3,k3,c3,rfl,N3,hk3,hl3⟩
 refine ⟨_,_,_,_,rfl,hl3,(r2mul_c (N2.mono hl3).1.is (pv (M1.mono hl3).2.is) (by omega) (by omega)).mono ?_⟩
 rintro _ h4 ⟨s4,A4,k4,c4,rfl,N4,hk4,hl4⟩
 refine ⟨_,_,_,_,rfl,(r2cmp_c (N3.mono hl4).is N4.is (by omega) (by omega)).mono ?_⟩
 rintro _ h5 ⟨rfl,hl5⟩
 refine ⟨_,rfl, ?_,(((hl1.trans hl2).trans hl3).trans hl4).trans hl5⟩
 rw [cmpQ_mk q.den_nz p.den_nz,Rat.mkRat_self,Rat.mkRat_self]
theorem rWh_c (z:Int) (hz1 : -9223372036854775808<=z) (hz2:z<9223372036854775808) (h:Heap) :
  CallsU Tryz.prog 263 [.int .i64 z] h fun r h' => ∃ s' A' n' c' B' m' d', r = .agg #[.bool s', .slice A' n' c', .slice B' m' d']/\NmQ h' s' A' n' c' B' m' d' (z:Rat)/\n' <= 2/\m' <= 2/\Le h h' := by
 apply ref17_whole_ok
 refine (r3of_c z 1 hz1 hz2 (by omega) (by omega) (by omega) h).mono ?_
 rintro _ h1 ⟨s,A,n,c,B,m,d,rfl,hN,a,b,hl⟩
 have e:(z:Rat)/((1:Int):Rat)=z:=by
  have:((1:Int):Rat)=1:=rfl
  rw [this];grind
 rw [e] at hN
 exact ⟨_,_,_,_,_,_,_,_,rfl,_,_,_,_,_,_,_,rfl,hN,a,b,hl⟩
theorem rUnits_c {h:Heap} {s:Bool} {A B:Option Addr} {n c m d:Nat} {q:Rat} (u:IsQ h s A n c B m d q) (hn:n<=1000000) (hm:m<=1000000) :
  CallsU Tryz.prog 232 [.agg #[.bool s,.slice A n c,.slice B m d]] h fun r h' => r = .tuple #[.int .i64 ((shV q).getD 0:Nat),.bool (shV q).isSome]/\Le h h' := by
 apply ref17_units_ok
 refine (rWh_c 10000 (by omega) (by omega) h).mono ?_
 rintro _ h1 ⟨s1,A1,n1,c1,B1,m1,d1,rfl,hN1,a1,b1,hl1⟩
 have e1:((10000:Int):Rat)=10000:=rfl
 rw [e1] at hN1
 refine ⟨_,_,_,_,_,_,_,rfl,hl1,(r3mul_c (u.mono hl1) hN1.is (by omega) (by omega) (by omega) (by omega)).mono ?_⟩
 rintro _ h2 ⟨s2,A2,n2,c2,B2,m2,d2,rfl,hN2,a2,b2,hl2⟩
 refine ⟨_,_,_,_,_,_,_,rfl,(r3norm_c hN2.is (by omega) (by omega)).mono ?_⟩
 rintro _ h3 ⟨s3,A3,n3,c3,B3,m3,d3,rfl,hN3,a3,b3,hl3⟩
 unfold shV
 generalize q*10000=v at *
 refine ⟨_,_,_,_,_,_,_,rfl,(r2small_c hN3.1.is (by omega)).mono ?_⟩
 rintro _ h4 ⟨rfl,hl4⟩
 have l4:=((hl1.trans hl2).trans hl3).trans hl4
 refine ⟨_,_,rfl, ?_⟩
 cases hf:fitsZ v.num with
 | false=>
  have : ¬ (v.den=1/\0<=v.num/\v.num<=9999999999999):=fun q=>by have:=of_decide_eq_false hf;omega
  rw [if_neg this]
  exact Br.mk (fun _=>⟨Le.refl _,rfl,l4⟩) (fun q=>by cases q)
 | true=>
  have hfz:=of_decide_eq_true hf
  simp only [if_true]
  refine Br.mk (fun q=>by cases q) (fun _=>(rWh_c v.num hfz.1 hfz.2 h4).mono ?_)
  rintro _ h5 ⟨s5,A5,n5,c5,B5,m5,d5,rfl,hN5,a5,b5,hl5⟩
  refine ⟨_,_,_,_,_,_,_,rfl,hl5,(r3cmp_c (hN3.is.mono (hl4.trans hl5)) hN5.is (by omega) (by omega) (by omega) (by omega)).mono ?_⟩
  rintro _ h6 ⟨rfl,hl6⟩
  have l6:=(l4.trans hl5).trans hl6
  refine ⟨_,rfl,Br.mk (fun q1=> ?_) (fun q1=> ?_)⟩
  ·have hne:v≠(v.num:Rat):=cmpQ_ne (by simpa using q1)
   have hd:v.den≠1:=fun hd=>hne (by
    have:=Rat.mkRat_self v
    rw [hd] at this
    rw [<- this]
    simp [Rat.mkRat_one])
   rw [if_neg (fun q=>hd q.1)]
   exact ⟨rfl,l6⟩
  ·have heq:v=(v.num:Rat):=cmpQ_eq (by simpa using q1)
   have hd:v.den=1:=by rw [heq];exact Rat.den_intCast _
   refine Br.mk (fun q2=> ?_) (fun q2=>Br.mk (fun q3=> ?_) (fun q3=> ?_))
   ·have:=of_decide_eq_true q2
    rw [if_neg (by omega)]
    exact ⟨rfl,l6⟩
   ·have:=of_decide_eq_true q3
    rw [if_neg (by omega)]
    exact ⟨rfl,l6⟩
   ·have a:=of_decide_eq_false q2
    have b:=of_decide_eq_false q3
    rw [if_pos ⟨hd,by omega,by omega⟩]
    simp only [Option.getD_some,Option.isSome_some]
    rw [Int.toNat_of_nonneg (by omega)]
    exact ⟨rfl,l6⟩
theorem rDigit_c (x:UInt8) (h:Heap):CallsU Tryz.prog 289 [.int .u8 x.toNat] h fun r h' => r = .bool (isDg x)/\h=h' := by
 apply ref17_digit_ok
 unfold isDg
 refine Br.mk (fun q=>⟨?_,rfl⟩) (fun q=>⟨?_,rfl⟩)
 ·have:=of_decide_eq_true q
  congr 1
  rw [Bool.eq_iff_iff,decide_eq_true_eq,decide_eq_true_eq]
  omega
 ·have:=of_decide_eq_false q
  rw [decide_eq_false (by omega)]
theorem rName_c (l:List UInt8) (h:Heap):CallsU Tryz.prog 267 [sv l] h fun r h' => r = .bool (isNameV l)/\h=h' := by
 apply ref17_Name_ok
 unfold ref17_Name_vc
 have e0:(⟨#[]⟩:ByteArray).toList=[]:=bytes_toList []
 have e1:(⟨#[109,105,110]⟩:ByteArray).toList=[109,105,110]:=bytes_toList _
 have e2:(⟨#[109,97,120]⟩:ByteArray).toList=[109,97,120]:=bytes_toList _
 rw [ba_size,bytes_toList,e0,e1,e2]
 refine ⟨fun t h' => h=h' /\ (t=true->isNameV l=false)/\(t=false->l≠[]/\l.length<=24/\l≠[109,105,110]/\l≠[109,97,120]/\ ∀ x,l[0]?=some x->isLow x=true), ?_, ?_⟩
 ·rintro t _ ⟨rfl,ht,hf⟩
  refine Br.mk (fun q=> ?_) (fun q=> ?_)
  ·rw [ht q];exact ⟨rfl,rfl⟩
  ·obtain ⟨b1,b2,b3,b4,b5⟩:=hf q
   have bad : ∀ i x,l[i]?=some x->nameCh i x=false->isNameV l=false:=fun i x hx hn=>by
    unfold isNameV
    rw [Bool.and_eq_false_iff]
    refine Or.inr ?_
    cases hh:(l.zipIdx.all fun p=>nameCh p.2 p.1) with
    | false=>rfl
    | true=>rw [nameAll.1 hh i x hx] at hn;cases hn
   refine ⟨fun m i h' => ∃ k,k<=l.length/\m=l.length-k/\i=(k:Int)/\h=h' /\ ∀ j x,j<k->l[j]?=some x->nameCh j x=true,⟨l.length,0,by omega,by omega,rfl,rfl,fun j x hj=>by omega⟩, ?_⟩
   rintro m _ _ ⟨k,hk,rfl,rfl,rfl,hall⟩
   refine Br.mk (fun q2=> ?_) (fun q2=> ?_)
   ·have hlt:k<l.length:=by have:=of_decide_eq_true q2;omega
    obtain ⟨x,hx⟩ : ∃ x,l[k]?=some x:=⟨_,List.getElem?_eq_getElem hlt⟩
    have hget:(⟨l.toArray⟩:ByteArray)[(Int.toNat (k:Int):Nat)]?=some x:=by rw [Int.toNat_natCast,ba_get];exact hx
    have go:nameCh k x=true-> ∀ t34:Int,t34=IntKind.i64.wrap ((k:Int)+1)-> ∃ m_1,m_1<l.length-k/\ ∃ k', k' <= l.length/\m_1=l.length-k' /\ t34=(k' : Int)/\h=h/\ ∀ j x,j<k' -> l[j]?=some x->nameCh j x=true:=fun hn=>by
     rintro _ rfl
     refine ⟨l.length-(k+1),by omega,k+1,by omega,rfl,wi (by omega) (by omega),rfl,fun j y hj hy=> ?_⟩
     rcases Nat.lt_succ_iff_lt_or_eq.1 hj with q | q
     ·exact hall j y q hy
     ·subst q
      rw [hx] at hy
      cases hy
      exact hn
    have low0:k=0->isLow x=true:=fun e=>by subst e;exact b5 x hx
    refine ⟨x,by omega,hget,(rDigit_c x h).mono ?_⟩
    rintro _ _ ⟨rfl,rfl⟩
    refine ⟨_,rfl,Br.mk (fun q3=> ?_) (fun q3=> ?_)⟩
    ·have hd:isDg x=false:=by simpa using q3
     refine ⟨x,by omega,hget,Br.mk (fun q4=> ?_) (fun q4=> ?_)⟩
     ·have h95:x.toNat≠95:=by simp only [bne_iff_ne,ne_eq] at q4;omega
      refine ⟨x,by omega,hget,Br.mk (fun q5=> ?_) (fun q5=>⟨x,by omega,hget,Br.mk (fun q6=> ?_) (fun q6=> ?_)⟩)⟩
      ·have:=of_decide_eq_true q5
       have hlow:isLow x=false:=by unfold isLow;rw [decide_eq_false (by omega)]
       rw [bad k x hx (by unfold nameCh;rw [hlow,hd];simp [h95])]
       exact ⟨rfl,rfl⟩
      ·have:=of_decide_eq_true q6
       have hlow:isLow x=false:=by unfold isLow;rw [decide_eq_false (by omega)]
       rw [bad k x hx (by unfold nameCh;rw [hlow,hd];simp [h95])]
       exact ⟨rfl,rfl⟩
      ·have a:=of_decide_eq_false q5
       have b:=of_decide_eq_false q6
       have hlow:isLow x=true:=by unfold isLow;rw [decide_eq_true (by omega)]
       exact go (by unfold nameCh;rw [hlow];rfl)
     ·have h95:x.toNat=95:=by
       have:(((x.toNat:Int):Int) != 95)=false:=q4
       simp only [bne_eq_false_iff_eq] at this
       omega
      by_cases hk0:k=0
      ·exact go (by unfold nameCh;rw [low0 hk0];rfl)
      ·exact go (by unfold nameCh;simp [h95,hk0])
    ·have hd:isDg x=true:=by simpa using q3
     by_cases hk0:k=0
     ·exact go (by unfold nameCh;rw [low0 hk0];rfl)
     ·exact go (by unfold nameCh;simp [hd,hk0])
   ·have hk' : k=l.length:=by have:=of_decide_eq_false q2;omega
    subst hk'
    have:isNameV l=true:=by
     unfold isNameV
     rw [Bool.and_eq_true]
     exact ⟨decide_eq_true ⟨b1,b2,b3,b4⟩,nameAll.2 fun i x hx=>hall i x (List.getElem?_eq_some_iff.1 hx).1 hx⟩
    rw [this]
    exact ⟨rfl,rfl⟩
 ·have bad : ¬ (l≠[]/\l.length<=24/\l≠[109,105,110]/\l≠[109,97,120])->isNameV l=false:=fun hn=>by
   unfold isNameV
   rw [decide_eq_false hn];rfl
  have bad0 : ∀ x,l[0]?=some x->isLow x=false->isNameV l=false:=fun x hx hn=>by
   unfold isNameV
   rw [Bool.and_eq_false_iff]
   refine Or.inr ?_
   cases hh:(l.zipIdx.all fun p=>nameCh p.2 p.1) with
   | false=>rfl
   | true=>
    have:=nameAll.1 hh 0 x hx
    unfold nameCh at this
    rw [hn] at this
    simp at this
  refine Br.mk (fun q=>⟨rfl,fun _=>bad ?_,fun q=>by cases q⟩) (fun q=>Br.mk (fun q2=>⟨rfl,fun _=>bad ?_,fun q=>by cases q⟩) (fun q2=>Br.mk (fun q3=>⟨rfl,fun _=>bad ?_,fun q=>by cases q⟩) (fun q3=>Br.mk (fun q4=>⟨rfl,fun _=>bad ?_,fun q=>by cases q⟩) (fun q4=> ?_))))
  ·have:=beq_iff_eq.1 q
   intro hn
   exact hn.1 this
  ·have:=of_decide_eq_true q2
   intro hn;omega
  ·have:=beq_iff_eq.1 q3
   intro hn;exact hn.2.2.1 this
  ·have:=beq_iff_eq.1 q4
   intro hn;exact hn.2.2.2 this
  ·have a1:=beq_eq_false_iff_ne.1 q
   have a2:=of_decide_eq_false q2
   have a3:=beq_eq_false_iff_ne.1 q3
   have a4:=beq_eq_false_iff_ne.1 q4
   obtain ⟨x,t,rfl⟩:=List.exists_cons_of_ne_nil a1
   have hget:(⟨(x::t).toArray⟩:ByteArray)[(0:Nat)]?=some x:=by rw [ba_get];rfl
   refine ⟨x,by omega,hget,Br.mk (fun q5=>⟨rfl,fun _=>bad0 x rfl ?_,fun q=>by cases q⟩) (fun q5=>⟨x,by omega,hget,rfl,fun q6=>bad0 x rfl ?_,fun q6=>⟨a1,by omega,a3,a4, ?_⟩⟩)⟩
   ·have:=of_decide_eq_true q5
    unfold isLow
    rw [decide_eq_false (by omega)]
   ·have:=of_decide_eq_true q6
    unfold isLow
    rw [decide_eq_false (by omega)]
   ·have b5:=of_decide_eq_false q5
    have b6:=of_decide_eq_false q6
    intro y hy
    simp at hy
    subst hy
    unfold isLow
    rw [decide_eq_true (by omega)]
theorem rRight_c {h:Heap} {e:Ex} {vs:List Value} (u:IsE h e vs) (z:Szs e):CallsU Tryz.prog 235 [.agg vs.toArray] h fun r h' => r = .bool (rightV e)/\Le h h' := by
 obtain ⟨s,A,c,B,d,K,kc,rfl,uq,hc,hk⟩:=u.open
 obtain ⟨z1,z2,z3,z4,z5⟩:=z.open
 apply ref17_right_ok
 unfold ref17_right_vc
 have e0:(⟨#[]⟩:ByteArray).toList=[]:=bytes_toList []
 rw [bytes_toList,e0]
 refine (rWh_c 0 (by omega) (by omega) h).mono ?_
 rintro _ h1 ⟨s1,A1,n1,c1,B1,m1,d1,rfl,hN1,a1,b1,hl1⟩
 have e1:((0:Int):Rat)=0:=rfl
 rw [e1] at hN1
 refine ⟨_,_,_,_,_,_,_,rfl,hl1,(r3cmp_c (uq.mono hl1) hN1.is (by omega) (by omega) (by omega) (by omega)).mono ?_⟩
 rintro _ h2 ⟨rfl,hl2⟩
 have l2:=hl1.trans hl2
 have hzv:(cmpQ e.val 0==0)=decide (e.val=0):=by
  rw [Bool.eq_iff_iff,beq_iff_eq,decide_eq_true_eq]
  exact ⟨cmpQ_eq,fun h=>by rw [h];exact cmpQ_self 0⟩
 have hnm:(e.name==[])=decide (e.name=[]):=by
  rw [Bool.eq_iff_iff,beq_iff_eq,decide_eq_true_eq]
 refine ⟨_,rfl, ?_⟩
 rw [hzv,hnm]
 unfold rightV foOps
 refine Br.mk (fun k1=> ?_) (fun k1=>Br.mk (fun k2=> ?_) (fun k2=> ?_))
 ·have e1:e.kind=1:=beq_iff_eq.1 k1
  refine (rUnits_c (uq.mono l2) (by omega) (by omega)).mono ?_
  rintro _ h3 ⟨rfl,hl3⟩
  have l3:=l2.trans hl3
  simp only [e1]
  refine ⟨_,_,rfl,Br.mk (fun q=>Br.mk (fun q2=>⟨?_,l3⟩) (fun q2=>⟨?_,l3⟩)) (fun q=>⟨?_,l3⟩)⟩
  ·have a:=of_decide_eq_true q2
   congr 1
   rw [Bool.eq_iff_iff]
   simp [q,a]
  ·have a:=of_decide_eq_false q2
   simp [a]
  ·simp [q]
 ·have e1:e.kind=2:=beq_iff_eq.1 k2
  refine (rName_c e.name h2).mono ?_
  rintro _ _ ⟨rfl,rfl⟩
  simp only [e1]
  refine ⟨_,rfl,Br.mk (fun q=>Br.mk (fun q2=>⟨?_,l2⟩) (fun q2=>⟨?_,l2⟩)) (fun q=>⟨?_,l2⟩)⟩
  ·have a:=of_decide_eq_true q2
   congr 1
   rw [Bool.eq_iff_iff]
   simp [q,a]
  ·have a:=of_decide_eq_false q2
   simp [a]
  ·simp [q]
 ·have n1:e.kind≠1:=beq_eq_false_iff_ne.1 k1
  have n2:e.kind≠2:=beq_eq_false_iff_ne.1 k2
  refine ⟨fun t h' => h2=h' /\ (t=true↔e.kind=3\/e.kind=4\/e.kind=5\/e.kind=6), ?_, ?_⟩
  ·rintro t _ ⟨rfl,ht⟩
   refine Br.mk (fun q=> ?_) (fun q=> ?_)
   ·have hk4:=ht.1 q
    have hops:(if e.kind=1\/e.kind=2 then ((0,0):Int×Int) else if e.kind=3\/e.kind=4\/e.kind=5\/e.kind=6 then (2,2) else if e.kind=7 then (1,1) else if e.kind=8\/e.kind=9 then (1,8) else (0,-1))=(2,2):=by
     rw [if_neg (by omega),if_pos hk4]
    rw [hops,if_neg n2,if_neg n1]
    refine Br.mk (fun q1=>Br.mk (fun q2=>⟨?_,l2⟩) (fun q2=>⟨?_,l2⟩)) (fun q1=>⟨?_,l2⟩)
    ·congr 1
     rw [q1,q2,Bool.eq_iff_iff]
     simp
     omega
    ·rw [q2];simp
    ·rw [q1];simp
   ·have hk4 : ¬ (e.kind=3\/e.kind=4\/e.kind=5\/e.kind=6):=fun q2=>by rw [ht.2 q2] at q;cases q
    rw [if_neg (by omega),if_neg hk4,if_neg n2,if_neg n1]
    refine Br.mk (fun k7=> ?_) (fun k7=> ?_)
    ·have e7:e.kind=7:=beq_iff_eq.1 k7
     rw [if_pos e7]
     refine Br.mk (fun q1=>Br.mk (fun q2=>⟨?_,l2⟩) (fun q2=>⟨?_,l2⟩)) (fun q1=>⟨?_,l2⟩)
     ·congr 1
      rw [q1,q2,Bool.eq_iff_iff]
      simp
      omega
     ·rw [q2];simp
     ·rw [q1];simp
    ·have n7:e.kind≠7:=beq_eq_false_iff_ne.1 k7
     rw [if_neg n7]
     refine ⟨fun t h' => h2=h' /\ (t=true↔e.kind=8\/e.kind=9), ?_, ?_⟩
     ·rintro t _ ⟨rfl,ht⟩
      refine Br.mk (fun q=> ?_) (fun q=> ?_)
      ·rw [if_pos (ht.1 q)]
       refine Br.mk (fun q1=>Br.mk (fun q2=>Br.mk (fun q3=>⟨?_,l2⟩) (fun q3=>⟨?_,l2⟩)) (fun q2=>⟨?_,l2⟩)) (fun q1=>⟨?_,l2⟩)
       ·have:=of_decide_eq_true q3
        congr 1
        rw [q1,q2,Bool.eq_iff_iff]
        simp
        omega
       ·have:=of_decide_eq_false q3
        rw [q1,q2,decide_eq_false (by simp only;omega)]
        rfl
       ·rw [q2];simp
       ·rw [q1];simp
      ·rw [if_neg (fun q2=>by rw [ht.2 q2] at q;cases q)]
       refine ⟨?_,l2⟩
       rw [decide_eq_false (by simp only;omega)]
       rfl
     ·refine Br.mk (fun q=>⟨rfl, ?_⟩) (fun q=>⟨rfl, ?_⟩)
      ·have:=beq_iff_eq.1 q
       simp [this]
      ·have:=beq_eq_false_iff_ne.1 q
       rw [beq_iff_eq]
       omega
  ·refine Br.mk (fun q=>⟨rfl, ?_⟩) (fun q=>Br.mk (fun q2=>⟨rfl, ?_⟩) (fun q2=>Br.mk (fun q3=>⟨rfl, ?_⟩) (fun q3=>⟨rfl, ?_⟩)))
   ·have:=beq_iff_eq.1 q;simp [this]
   ·have:=beq_iff_eq.1 q2;simp [this]
   ·have:=beq_iff_eq.1 q3;simp [this]
   ·have a:=beq_eq_false_iff_ne.1 q
    have b:=beq_eq_false_iff_ne.1 q2
    have c:=beq_eq_false_iff_ne.1 q3
    rw [beq_iff_eq]
    omega
def CkOk (e:Ex):Prop:= ∀ {h:Heap} {vs:List Value} (lv:Int),IsE h e vs->Szs e->0<=lv->lv<=1000->
 CallsU Tryz.prog 177 [.agg vs.toArray,.int .i64 lv] h fun r h' => r = .int .i64 (chkV e lv)/\Le h h'
theorem rCheck_node {k:Int} {q0:Rat} {n m:Nat} {nm:List UInt8} {kids:List Ex} (ih:evAll CkOk kids):CkOk (.mk k q0 n m nm kids):=by
 intro h vs lv u z hlv hlv2
 have uo:=u.open
 obtain ⟨s,A,c,B,d,K,kc,rfl,uq,hc,hk⟩:=uo
 obtain ⟨z1,z2,z3,z4,z5⟩:=z.open
 simp only [Ex.kids] at hc hk z4 z5
 apply ref17_check_ok
 unfold ref17_check_vc
 have hlen:(Ex.mk k q0 n m nm kids).kids.length=kids.length:=rfl
 rw [hlen,chkV]
 refine Br.mk (fun q1=> ?_) (fun q1=> ?_)
 ·rw [if_pos (of_decide_eq_true q1)]
  exact ⟨rfl,Le.refl _⟩
 ·rw [if_neg (of_decide_eq_false q1)]
  refine (rRight_c u z).mono ?_
  rintro _ h1 ⟨rfl,hl1⟩
  refine ⟨_,rfl,Br.mk (fun q2=> ?_) (fun q2=> ?_)⟩
  ·have:rightV (.mk k q0 n m nm kids)=false:=by simpa using q2
   rw [this,if_neg (by decide)]
   exact ⟨rfl,hl1⟩
  ·have:rightV (.mk k q0 n m nm kids)=true:=by simpa using q2
   rw [this,if_pos rfl]
   refine ⟨fun m i h' => ∃ j,j<=kids.length/\m=kids.length-j/\i=(j:Int)/\Le h h' /\ ∀ i' e', i' < j->kids[i']?=some e' -> chkV e' (lv+1)=0,⟨kids.length,0,by omega,by omega,rfl,hl1,fun i' e' hi=>by omega⟩, ?_⟩
   rintro mm _ h2 ⟨j,hj,rfl,rfl,hl2,hall⟩
   refine Br.mk (fun q3=> ?_) (fun q3=> ?_)
   ·have hlt:j<kids.length:=by have:=of_decide_eq_true q3;omega
    obtain ⟨x,hx⟩ : ∃ x,kids[j]?=some x:=⟨_,List.getElem?_eq_getElem hlt⟩
    obtain ⟨ad,vs', eA,hld,ux⟩:=kid_ld (e:= .mk k q0 n m nm kids) hk hx
    have ux' := ux
    obtain ⟨s', A', c', B', d', K', kc', rfl,_,_,_⟩:=ux'.open
    refine ⟨ad,eA,by omega,by omega,_,_,_,_,_,_,_,_,_,_,_,_,by rw [Int.toNat_natCast];exact LdN.mono hld hl2, ?_⟩
    rintro _ rfl
    have h12:=of_decide_eq_false q1
    rw [wrap_i64 (by omega) (by omega)]
    refine ((ih.get hx) (lv+1) (IsE.mono hl2 _ _ ux) (SzsL.get z5 hx) (by omega) (by omega)).mono ?_
    rintro _ h3 ⟨rfl,hl3⟩
    refine ⟨_,rfl,Br.mk (fun q4=> ?_) (fun q4=> ?_)⟩
    ·have hne:chkV x (lv+1)≠0:=by simpa using q4
     have e1:=chkL_get kids (lv+1) j hall
     rw [e1,List.drop_eq_getElem_cons hlt,chkL]
     have ex:kids[j]=x:=by rw [List.getElem?_eq_getElem hlt] at hx;exact Option.some.inj hx
     rw [ex,if_neg hne]
     exact ⟨rfl,hl2.trans hl3⟩
    ·have h0:chkV x (lv+1)=0:=by simpa using q4
     rintro _ rfl
     refine ⟨kids.length-(j+1),by omega,j+1,by omega,rfl,wi (by omega) (by omega),hl2.trans hl3,fun i' e' hi he=> ?_⟩
     rcases Nat.lt_succ_iff_lt_or_eq.1 hi with q | q
     ·exact hall i' e' q he
     ·subst q
      rw [hx] at he
      cases he
      exact h0
   ·have hj' : j=kids.length:=by have:=of_decide_eq_false q3;omega
    subst hj'
    have e1:=chkL_get kids (lv+1) kids.length hall
    rw [List.drop_length,chkL] at e1
    rw [e1]
    exact ⟨rfl,hl2⟩
mutual
theorem rCheck_all : ∀ e:Ex,CkOk e
 | .mk _ _ _ _ _ kids=>rCheck_node (rCheck_allL kids)
theorem rCheck_allL : ∀ es:List Ex,evAll CkOk es
 | []=>trivial
 | e::es=>⟨rCheck_all e,rCheck_allL es⟩
end
theorem rChk_c {e:Ex} {h:Heap} {vs:List Value} (u:IsE h e vs) (z:Szs e):CallsU Tryz.prog 107 [.agg vs.toArray] h fun r h' => r = .int .i64 (chkV e 1)/\Le h h' := by
 have u' := u
 obtain ⟨s,A,c,B,d,K,kc,rfl,_⟩:=u'.open
 apply ref17_Check_ok
 refine ((rCheck_all e) 1 u z (by omega) (by omega)).mono ?_
 rintro _ h1 ⟨rfl,hl1⟩
 exact ⟨_,rfl,rfl,hl1⟩
end Go.Proofs.YtfglcgbgaeegaaaGreatDoor

namespace Go.Proofs.YtfglcgbgaeegaaaGreatDoor
open Go Go.Vcg
attribute [local irreducible] Br
end Go.Proofs.YtfglcgbgaeegaaaGreatDoor

namespace Go.Proofs.YtfglcgbgaeegaaaGreatDoor
open Go Go.Vcg Go.RowKit Go.Sort
attribute [local irreducible] Br
end Go.Proofs.YtfglcgbgaeegaaaGreatDoor

namespace Go.Proofs.YtfglcgbgaeegaaaGreatDoor
open Go Go.Vcg Go.RowKit Go.Sort
theorem aft_le (r:List UInt8):(aft r).length<=r.length:=by
 have h1:=congrArg List.length (tk_split r)
 have h2:=skip_le r
 rw [List.length_append] at h1
 omega
theorem aft_lt {r:List UInt8} (h:tk r≠[]):(aft r).length<r.length:=by
 have h1:=congrArg List.length (tk_split r)
 have h2:=skip_le r
 rw [List.length_append] at h1
 have:0<(tk r).length:=List.length_pos_iff.2 h
 omega
theorem p_le : ∀ n:Nat,(∀ r x r', pSum n r = .ok (x,r')->r'.length<=r.length)/\(∀ y r x r', pSumL n y r = .ok (x,r')->r'.length<=r.length)/\(∀ r x r', pProd n r = .ok (x,r')->r'.length<=r.length)/\(∀ y r x r', pProdL n y r = .ok (x,r')->r'.length<=r.length)/\(∀ r x r', pFac n r = .ok (x,r')->r'.length<=r.length)/\(∀ k r x r', pCall n k r = .ok (x,r')->r'.length<=r.length)/\(∀ k es r x r', pCallL n k es r = .ok (x,r')->r'.length<=r.length)
 | 0=>by
  refine ⟨?_, ?_, ?_, ?_, ?_, ?_, ?_⟩<;>intros<;>rename_i h<;>first | (rw [pSum] at h;cases h) | (rw [pSumL] at h;cases h) | (rw [pProd] at h;cases h) | (rw [pProdL] at h;cases h) | (rw [pFac] at h;cases h) | (rw [pCall] at h;cases h) | (rw [pCallL] at h;cases h)
 | n+1=>by
  obtain ⟨iS,iSL,iP,iPL,iF,iC,iCL⟩:=p_le n
  refine ⟨?_, ?_, ?_, ?_, ?_, ?_, ?_⟩
  ·intro r x r' h
   rw [pSum] at h
   split at h
   ·cases h
   ·rename_i y r1 h1
    exact Nat.le_trans (iSL _ _ _ _ h) (iP _ _ _ h1)
  ·intro y r x r' h
   rw [pSumL] at h
   have ha:=aft_le r
   split at h
   ·split at h
    ·cases h
    ·rename_i z r1 h1
     exact Nat.le_trans (iSL _ _ _ _ h) (Nat.le_trans (iP _ _ _ h1) ha)
   ·split at h
    ·split at h
     ·cases h
     ·rename_i z r1 h1
      exact Nat.le_trans (iSL _ _ _ _ h) (Nat.le_trans (iP _ _ _ h1) ha)
    ·cases h
     exact skip_le r
  ·intro r x r' h
   rw [pProd] at h
   split at h
   ·cases h
   ·rename_i y r1 h1
    exact Nat.le_trans (iPL _ _ _ _ h) (iF _ _ _ h1)
  ·intro y r x r' h
   rw [pProdL] at h
   have ha:=aft_le r
   split at h
   ·split at h
    ·cases h
    ·rename_i z r1 h1
     exact Nat.le_trans (iPL _ _ _ _ h) (Nat.le_trans (iF _ _ _ h1) ha)
   ·split at h
    ·split at h
     ·cases h
     ·rename_i z r1 h1
      exact Nat.le_trans (iPL _ _ _ _ h) (Nat.le_trans (iF _ _ _ h1) ha)
    ·cases h
     exact skip_le r
  ·intro r x r' h
   rw [pFac] at h
   have ha:=aft_le r
   split at h
   ·cases h
   split at h
   ·split at h
    ·cases h
    ·rename_i z r1 h1
     cases h
     exact Nat.le_trans (iF _ _ _ h1) ha
   split at h
   ·split at h
    ·cases h
    ·rename_i z r1 h1
     split at h
     ·cases h
      exact Nat.le_trans (aft_le r1) (Nat.le_trans (iS _ _ _ h1) ha)
     ·cases h
   split at h
   ·exact Nat.le_trans (iC _ _ _ _ h) ha
   split at h
   ·exact Nat.le_trans (iC _ _ _ _ h) ha
   split at h
   ·cases h;exact ha
   ·split at h
    ·cases h;exact ha
    ·cases h
  ·intro k r x r' h
   rw [pCall] at h
   split at h
   ·exact Nat.le_trans (iCL _ _ _ _ _ h) (aft_le r)
   ·cases h
  ·intro k es r x r' h
   rw [pCallL] at h
   split at h
   ·cases h
   ·rename_i z r1 h1
    have hr1:=iS _ _ _ h1
    have ha:=aft_le r1
    split at h
    ·cases h;omega
    split at h
    ·cases h
    split at h
    ·cases h
    split at h
    ·cases h
    ·exact Nat.le_trans (iCL _ _ _ _ _ h) (by omega)
theorem exp0 {t r:List UInt8} (ht:t≠[]) (h:expV t r=0):tk r≠[]:=by
 unfold expV at h
 split at h
 ·rename_i e;rw [e];exact ht
 ·split at h<;>omega
theorem exp99 (t r:List UInt8):expV t r≠99:=by
 unfold expV
 split
 ·decide
 ·split<;>decide
theorem p_fuel : ∀ n:Nat,(∀ r,8*r.length+5<=n->pSum n r ≠ .error 99)/\(∀ y r,8*r.length+4<=n->pSumL n y r ≠ .error 99)/\(∀ r,8*r.length+3<=n->pProd n r ≠ .error 99)/\(∀ y r,8*r.length+2<=n->pProdL n y r ≠ .error 99)/\(∀ r,8*r.length+1<=n->pFac n r ≠ .error 99)/\(∀ k r,8*r.length+7<=n->pCall n k r ≠ .error 99)/\(∀ k es r,8*r.length+6<=n->pCallL n k es r ≠ .error 99)
 | 0=>by
  refine ⟨?_, ?_, ?_, ?_, ?_, ?_, ?_⟩<;>intros<;>omega
 | n+1=>by
  obtain ⟨iS,iSL,iP,iPL,iF,iC,iCL⟩:=p_fuel n
  obtain ⟨lS,_,lP,_,lF,_,_⟩:=p_le n
  refine ⟨?_, ?_, ?_, ?_, ?_, ?_, ?_⟩
  ·intro r hn h
   rw [pSum] at h
   split at h
   ·rename_i e h1
    cases h
    exact iP r (by omega) h1
   ·rename_i y r1 h1
    have:=lP _ _ _ h1
    exact iSL y r1 (by omega) h
  ·intro y r hn h
   rw [pSumL] at h
   split at h
   ·rename_i ht
    have ha:=aft_lt (r:=r) (by rw [ht];simp)
    split at h
    ·rename_i e h1;cases h;exact iP _ (by omega) h1
    ·rename_i z r1 h1
     have:=lP _ _ _ h1
     exact iSL _ r1 (by omega) h
   ·split at h
    ·rename_i ht
     have ha:=aft_lt (r:=r) (by rw [ht];simp)
     split at h
     ·rename_i e h1;cases h;exact iP _ (by omega) h1
     ·rename_i z r1 h1
      have:=lP _ _ _ h1
      exact iSL _ r1 (by omega) h
    ·cases h
  ·intro r hn h
   rw [pProd] at h
   split at h
   ·rename_i e h1
    cases h
    exact iF r (by omega) h1
   ·rename_i y r1 h1
    have:=lF _ _ _ h1
    exact iPL y r1 (by omega) h
  ·intro y r hn h
   rw [pProdL] at h
   split at h
   ·rename_i ht
    have ha:=aft_lt (r:=r) (by rw [ht];simp)
    split at h
    ·rename_i e h1;cases h;exact iF _ (by omega) h1
    ·rename_i z r1 h1
     have:=lF _ _ _ h1
     exact iPL _ r1 (by omega) h
   ·split at h
    ·rename_i ht
     have ha:=aft_lt (r:=r) (by rw [ht];simp)
     split at h
     ·rename_i e h1;cases h;exact iF _ (by omega) h1
     ·rename_i z r1 h1
      have:=lF _ _ _ h1
      exact iPL _ r1 (by omega) h
    ·cases h
  ·intro r hn h
   rw [pFac] at h
   split at h
   ·cases h
   rename_i h0
   have ha:=aft_lt h0
   split at h
   ·split at h
    ·rename_i e h1;cases h;exact iF _ (by omega) h1
    ·cases h
   split at h
   ·split at h
    ·rename_i e h1;cases h;exact iS _ (by omega) h1
    ·split at h
     ·cases h
     ·exact exp99 _ _ (Except.error.inj h)
   split at h
   ·exact iC _ _ (by omega) h
   split at h
   ·exact iC _ _ (by omega) h
   split at h
   ·cases h
   ·split at h
    ·cases h
    ·cases h
  ·intro k r hn h
   rw [pCall] at h
   split at h
   ·rename_i he
    have ha:=aft_lt (exp0 (by simp) he)
    exact iCL _ _ _ (by omega) h
   ·exact exp99 _ _ (Except.error.inj h)
  ·intro k es r hn h
   rw [pCallL] at h
   split at h
   ·rename_i e h1;cases h;exact iS _ (by omega) h1
   ·rename_i z r1 h1
    have hr1:=lS _ _ _ h1
    split at h
    ·cases h
    split at h
    ·cases h
    rename_i ht
    have ha:=aft_lt ht
    split at h
    ·cases h
    split at h
    ·cases h
    ·exact iCL _ _ _ (by omega) h
theorem fuel400 {s:List UInt8} (h:s.length<=400):pSum 4000 s ≠ .error 99:=(p_fuel 4000).1 s (by omega)
abbrev hdT (ts:List (List UInt8)):List UInt8:=ts.headD []
def expT (t:List UInt8) (ts:List (List UInt8)):Int:=if hdT ts=t then 0 else if hdT ts=[] then 4 else 2
mutual
def qSum:Nat->List (List UInt8)->Except Int (Ex×List (List UInt8))
 | 0,_=> .error 99
 | n+1,r=>match qProd n r with
  | .error e=> .error e
  | .ok (x,r')=>qSumL n x r'
def qSumL:Nat->Ex->List (List UInt8)->Except Int (Ex×List (List UInt8))
 | 0,_,_=> .error 99
 | n+1,x,r=>if hdT r=[43] then (match qProd n r.tail with
   | .error e=> .error e
   | .ok (y,r')=>qSumL n (op2 3 x y) r')
  else if hdT r=[45] then (match qProd n r.tail with
   | .error e=> .error e
   | .ok (y,r')=>qSumL n (op2 4 x y) r')
  else .ok (x,r)
def qProd:Nat->List (List UInt8)->Except Int (Ex×List (List UInt8))
 | 0,_=> .error 99
 | n+1,r=>match qFac n r with
  | .error e=> .error e
  | .ok (x,r')=>qProdL n x r'
def qProdL:Nat->Ex->List (List UInt8)->Except Int (Ex×List (List UInt8))
 | 0,_,_=> .error 99
 | n+1,x,r=>if hdT r=[42] then (match qFac n r.tail with
   | .error e=> .error e
   | .ok (y,r')=>qProdL n (op2 5 x y) r')
  else if hdT r=[47] then (match qFac n r.tail with
   | .error e=> .error e
   | .ok (y,r')=>qProdL n (op2 6 x y) r')
  else .ok (x,r)
def qFac:Nat->List (List UInt8)->Except Int (Ex×List (List UInt8))
 | 0,_=> .error 99
 | n+1,r=>
  if hdT r=[] then .error 4
  else if hdT r=[45] then (match qFac n r.tail with
   | .error e=> .error e
   | .ok (x,r')=> .ok (.mk 7 0 0 0 [] [x],r'))
  else if hdT r=[40] then (match qSum n r.tail with
   | .error e=> .error e
   | .ok (x,r')=>if expT [41] r' = 0 then .ok (x,r'.tail) else .error (expT [41] r'))
  else if hdT r=[109,105,110] then qCall n 8 r.tail
  else if hdT r=[109,97,120] then qCall n 9 r.tail
  else match numberV (hdT r) with
   | some q=> .ok (.mk 1 q (lmb q.num.natAbs) (lmb q.den) [] [],r.tail)
   | none=>if isNameV (hdT r) then .ok (.mk 2 0 0 0 (hdT r) [],r.tail) else .error 2
def qCall:Nat->Int->List (List UInt8)->Except Int (Ex×List (List UInt8))
 | 0,_,_=> .error 99
 | n+1,k,r=>if expT [40] r=0 then qCallL n k [] r.tail else .error (expT [40] r)
def qCallL:Nat->Int->List Ex->List (List UInt8)->Except Int (Ex×List (List UInt8))
 | 0,_,_,_=> .error 99
 | n+1,k,es,r=>match qSum n r with
  | .error e=> .error e
  | .ok (x,r')=>
   if hdT r' = [41] then .ok (.mk k 0 0 0 [] (es++[x]),r'.tail)
   else if hdT r' = [] then .error 4
   else if hdT r' ≠ [44] then .error 2
   else if es.length+1=8 then .error 2
   else qCallL n k (es++[x]) r'.tail
end
def sub (sp s:List UInt8):List UInt8:=s.flatMap fun x=>if x=32 then sp else [x]
def parT (k req:Int) (t:List (List UInt8)):List (List UInt8):=if clo k<req then [40]::(t++[[41]]) else t
mutual
def tkE:Ex->List (List UInt8)
 | .mk k q _ _ nm kids=>if k=1 then [numTx ((shV q).getD 0)] else if k=2 then [nm]
  else if k=3 then tkO 0 0 kids++[43]::tkO 1 1 kids
  else if k=4 then tkO 0 0 kids++[45]::tkO 1 1 kids
  else if k=5 then tkO 0 1 kids++[42]::tkO 1 2 kids
  else if k=6 then tkO 0 1 kids++[47]::tkO 1 2 kids
  else if k=7 then [45]::tkO 0 2 kids
  else (if k=9 then [109,97,120] else [109,105,110])::[40]::(tkJ kids++[[41]])
def tkO (i:Nat) (req:Int):List Ex->List (List UInt8)
 | []=>[]
 | .mk k q n m nm kids::es=>match i with
  | 0=>parT k req (tkE (.mk k q n m nm kids))
  | i+1=>tkO i req es
def tkJ:List Ex->List (List UInt8)
 | []=>[]
 | e::es=>match es with
  | []=>tkE e
  | e' :: es' => tkE e++[44]::tkJ (e' :: es')
end
mutual
def canE:Ex->Ex
 | .mk k q _ _ nm kids=>if k=1 then .mk 1 q (lmb q.num.natAbs) (lmb q.den) [] [] else if k=2 then .mk 2 0 0 0 nm [] else .mk k 0 0 0 [] (canL kids)
def canL:List Ex->List Ex
 | []=>[]
 | e::es=>canE e::canL es
end
def Ev {α:Type} (F:Nat->α) (X:α):Prop:= ∃ N,∀ n,N<=n->F n=X
abbrev RT:=Except Int (Ex×List (List UInt8))
structure RdOk (e:Ex):Prop where
 fac:clo e.kind=2-> ∀ ts,Ev (fun n=>qFac n (tkE e++ts)) (.ok (canE e,ts):RT)
 prod:1<=clo e.kind-> ∀ (ts:List (List UInt8)) (X:RT),Ev (fun n=>qProdL n (canE e) ts) X->Ev (fun n=>qProd n (tkE e++ts)) X
 sum : ∀ (ts:List (List UInt8)) (X:RT),hdT ts≠[42]->hdT ts≠[47]->Ev (fun n=>qSumL n (canE e) ts) X->Ev (fun n=>qSum n (tkE e++ts)) X
end Go.Proofs.YtfglcgbgaeegaaaGreatDoor

namespace Go.Proofs.YtfglcgbgaeegaaaGreatDoor
open Go Go.Vcg Go.RowKit Go.Sort
attribute [local irreducible] Br
theorem foParseW_c (s:List UInt8) (h:Heap):CallsU Tryz.prog 92 [sv s] h (FpR (foParseV s) h):=by
 rcases Nat.lt_or_ge 400 s.length with q | q
 ·apply formula_Parse_ok
  unfold formula_Parse_vc foParseV
  rw [ba_size]
  refine Br.mk (fun _=> ?_) (fun q2=> ?_)
  ·rw [if_pos q]
   exact ⟨Le.refl _,by decide,rfl⟩
  ·have:=of_decide_eq_false q2
   omega
 ·exact foParse_c (fuel400 q) h
theorem prV_ok {e:Ex} {t:List UInt8} (h:prV e = .ok t):chkV e 1=0/\t=txV e/\t.length<=400:=by
 unfold prV at h
 split at h
 ·split at h
  ·cases h
   exact ⟨by assumption,rfl,by assumption⟩
  ·cases h
 ·cases h
end Go.Proofs.YtfglcgbgaeegaaaGreatDoor
