/-
 Gathered texts of this proof: Cn6,Cn7,Cn8,VcI,VcQ,Cn9,VcS,Cn10,Lib2,VcX.
-/
import Derived.Test.YtfglcgbgaeegaaaGreatDoorG03
import Derived.Test.YtfglcgbgaeegaaaGreatDoorChecked
set_option maxRecDepth 100000

namespace Go.Proofs.YtfglcgbgaeegaaaGreatDoor
open Go Go.Vcg
attribute [local irreducible] Br
abbrev blkW (p w s:List Nat):Blk:=⟨(p++w++s).map lv,166,(0,0)⟩
theorem Heap.put_id {h:Heap} {g:Nat} {b:Blk} (hb:h g=some b):h=h.put g b:=by
 funext k
 unfold Heap.put
 split
 ·rename_i e;rw [e,hb]
 ·rfl
theorem Heap.put_put (h:Heap) (g:Nat) (b b' : Blk):(h.put g b).put g b' = h.put g b' := by
 funext k
 unfold Heap.put
 split<;>rfl
theorem U32.put_ne {h:Heap} {A:Option Addr} {n c g:Nat} {xs:List Nat} (u:U32 h A n c xs) (hd : ∀ ad,A=some ad->ad.block≠g) (b:Blk):U32 (h.put g b) A n c xs:=
 ⟨u.len,u.cap,u.lt,fun hn=>let ⟨ad,b', e,sp,hb,hc⟩:=u.mem hn;⟨ad,b', e,sp,(Heap.put_ne _ _ (hd _ e)).trans hb,hc⟩⟩
theorem win_get {p w s:List Nat} {k:Nat} (hk:k<w.length):((p++w++s).map lv)[p.length+k]?=some (lv (w.getD k 0)):=by
 rw [List.append_assoc,List.map_append,List.getElem?_append_right (by simp),List.map_append,List.getElem?_append_left (by simp;omega)]
 simp [hk]
theorem win_set {p w s:List Nat} {k y:Nat} (hk:k<w.length):(p++w++s).set (p.length+k) y=p++w.set k y++s:=by
 rw [List.append_assoc,List.set_append_right _ _ (by omega),Nat.add_sub_cancel_left,List.set_append_left _ _ hk,List.append_assoc]
theorem ld_win {h:Heap} {g k:Nat} {p w s:List Nat} (hb:h g=some (blkW p w s)) (hk:k<w.length):LdN h (Addr.add ⟨g,p.length,none⟩ (k*1)) [lv (w.getD k 0)]:=by
 rw [Nat.mul_one]
 exact ld_of (ad:=⟨g,p.length,none⟩) rfl hb (win_get hk)
theorem st_win {h:Heap} {g k:Nat} {p w s:List Nat} {v:Value} (y:Nat) {K:Heap->Prop} (hb:h g=some (blkW p w s)) (hk:k<w.length) (hv:v=lv y)
  (hK:K (h.put g (blkW p (w.set k y) s))) :
  ∃ b:Blk,h (Addr.block (Addr.add ⟨g,p.length,none⟩ (k*1)))=some b/\b.fz=(0,0)/\Addr.spot (Addr.add ⟨g,p.length,none⟩ (k*1))=none/\Addr.off (Addr.add ⟨g,p.length,none⟩ (k*1))+1<=b.cells.length/\
   ∀ h' : Heap,h' = Heap.put h (Addr.block (Addr.add ⟨g,p.length,none⟩ (k*1))) { b with cells:=setSeg b.cells (Addr.off (Addr.add ⟨g,p.length,none⟩ (k*1))) [v] }->K h' := by
 rw [Nat.mul_one,addr_block,addr_off,addr_spot _ _ rfl]
 refine ⟨_,hb,rfl,rfl,by simp;omega, ?_⟩
 rintro h' rfl
 subst hv
 show K (h.put g ⟨setSeg ((p++w++s).map lv) (p.length+k) [lv y],_,_⟩)
 rw [setSeg_one _ _ y (by simp;omega),win_set hk]
 exact hK
section
variable {P U' V' top u2 v1 v2 B q r U V:Nat}
theorem kn_init (hU' : U' < P) (hu2:u2<B) (hq:top+1<=(q+1)*v1):(top*B+u2)*P+U' < (q+1)*((v1*B+v2)*P+V'):=by
 have h1:(top*B+u2)*P+U' < (top*B+u2+1)*P:=by rw [Nat.add_mul _ 1];omega
 have h2:(top*B+u2+1)*P<=((top+1)*B)*P:=Nat.mul_le_mul_right _ (by rw [Nat.add_mul];omega)
 have h3:((top+1)*B)*P<=(((q+1)*v1)*B)*P:=Nat.mul_le_mul_right _ (Nat.mul_le_mul_right _ hq)
 have h4:(((q+1)*v1)*B)*P<=(q+1)*((v1*B+v2)*P+V'):=by
  have:(((q+1)*v1)*B)*P=(q+1)*((v1*B)*P):=by grind
  rw [this]
  exact Nat.mul_le_mul_left _ (by rw [Nat.add_mul];omega)
 omega
theorem kn_step (hU' : U' < P) (hqr:q*v1+r=top) (hs:r*B+u2<q*v2):(top*B+u2)*P+U' < q*((v1*B+v2)*P+V'):=by
 have h1:(top*B+u2)*P+U' < (top*B+u2+1)*P:=by rw [Nat.add_mul _ 1];omega
 have h2:(top*B+u2+1)*P<=(q*(v1*B+v2))*P:=by
  apply Nat.mul_le_mul_right
  subst hqr
  have:q*(v1*B+v2)=q*v1*B+q*v2:=by grind
  rw [this,Nat.add_mul]
  omega
 have h3:(q*(v1*B+v2))*P<=q*((v1*B+v2)*P+V'):=by
  rw [Nat.mul_assoc]
  exact Nat.mul_le_mul_left _ (by omega)
 omega
theorem kn_q (hv2:v2<B) (hV' : V' < P) (hU:(top*B+u2)*P+U' < B*((v1*B+v2)*P+V')) (hqr:q*v1+r=top) (hr:B<=r):q<B:=by
 rcases Nat.lt_or_ge q B with h | h
 ·exact h
 ·exfalso
  have h1:B*v1+B<=top:=by have:=Nat.mul_le_mul_right v1 h;omega
  have h2:(v1*B+v2)*P+V' <= ((v1+1)*B)*P:=by
   have:(v1*B+v2+1)*P<=((v1+1)*B)*P:=Nat.mul_le_mul_right _ (by rw [Nat.add_mul];omega)
   rw [Nat.add_mul _ 1] at this
   omega
  have h3:B*(((v1+1)*B)*P)<=(top*B)*P:=by
   have e:B*(((v1+1)*B)*P)=((B*v1+B)*B)*P:=by grind
   rw [e]
   exact Nat.mul_le_mul_right _ (Nat.mul_le_mul_right _ h1)
  have h4:=Nat.mul_le_mul_left B h2
  rw [Nat.add_mul] at hU
  omega
theorem kn_end1 (hv2:v2<B) (hV' : V' < P) (hqr:q*v1+r=top) (hr:B<=r) (hq:q<B):q*((v1*B+v2)*P+V')<=(top*B+u2)*P+U' := by
 have h2:(v1*B+v2)*P+V' <= ((v1+1)*B)*P:=by
  have:(v1*B+v2+1)*P<=((v1+1)*B)*P:=Nat.mul_le_mul_right _ (by rw [Nat.add_mul];omega)
  rw [Nat.add_mul _ 1] at this
  omega
 have h3:q*(((v1+1)*B)*P)<=(top*B)*P:=by
  have e:q*(((v1+1)*B)*P)=((q*v1+q)*B)*P:=by grind
  rw [e]
  exact Nat.mul_le_mul_right _ (Nat.mul_le_mul_right _ (by omega))
 have h4:=Nat.mul_le_mul_left q h2
 have h5:(top*B+u2)*P=top*B*P+u2*P:=Nat.add_mul _ _ _
 omega
theorem kn_end2 (hV' : V' < P) (hqr:q*v1+r=top) (hs:q*v2<=r*B+u2) (hq:q<B) (hv1:1<=v1):q*((v1*B+v2)*P+V')<(top*B+u2)*P+U' + ((v1*B+v2)*P+V'):=by
 have e:q*((v1*B+v2)*P+V')=(q*v1*B+q*v2)*P+q*V' := by grind
 have h1:(q*v1*B+q*v2)*P<=(top*B+u2)*P:=by
  apply Nat.mul_le_mul_right
  subst hqr
  rw [Nat.add_mul]
  omega
 have h2:q*V' < B*P:=by
  rcases Nat.eq_zero_or_pos q with h0 | h0
  ·subst h0;rw [Nat.zero_mul];exact Nat.mul_pos (by omega) (by omega)
  ·exact Nat.mul_lt_mul'' hq hV'
 have h3:B*P<=(v1*B+v2)*P:=by
  apply Nat.mul_le_mul_right
  have:=Nat.mul_le_mul_right B hv1
  omega
 omega
theorem dig_fin0 {W:Nat} (h:W+q*V=U) (hU:U<(q+1)*V):U/V=q/\U%V=W:=by
 rw [Nat.add_mul] at hU
 have hW:W<V:=by omega
 subst h
 refine ⟨?_, ?_⟩
 ·rw [Nat.add_mul_div_right _ _ (by omega),Nat.div_eq_of_lt hW,Nat.zero_add]
 ·rw [Nat.add_mul_mod_self_right,Nat.mod_eq_of_lt hW]
theorem dig_fin1 {W W2 M x:Nat} (h:W+q*V=U+M) (hW:W<M) (h2:W2+M*x=W+V) (hW2:W2<M) (hqV:q*V<U+V) (hV:V<=M):1<=q/\U/V=q-1/\U%V=W2:=by
 rcases q with _ | p
 ·omega
 ·rw [Nat.add_mul] at h hqV
  have hx:x=1:=by
   rcases x with _ | _ | x
   ·omega
   ·rfl
   ·rw [show M*(x+1+1)=M*x+M+M from by grind] at h2
    omega
  subst hx
  have e:W2+p*V=U:=by omega
  have:=dig_fin0 e (by rw [Nat.add_mul];omega)
  exact ⟨by omega,by simpa using this.1,this.2⟩
theorem sub_step {w y q c b t w' c' b' X Y Z p:Nat} (ht:c+q*y=t) (hw:t%B32+b+w' = w+B32*b') (hc:c' = t/B32) (hI:X+q*Y=Z+p*(c+b)) :
  (X+p*w')+q*(Y+p*y)=(Z+p*w)+(p*B32)*(c' + b'):=by
 have:=Nat.mod_add_div t B32
 subst hc
 grind
theorem add_step {u y c t X Y Z p:Nat} (ht:c+(u+y)=t) (hI:X+p*c=Y+Z):(X+p*(t%B32))+(p*B32)*(t/B32)=(Y+p*u)+(Z+p*y):=by
 have:=Nat.mod_add_div t B32
 grind
theorem sub_last {u c b x b' X V Z M:Nat} (hw:c+b+x=u+B32*b') (hI:X+q*V=Z+M*(c+b)):(X+M*x)+q*V=(Z+M*u)+(M*B32)*b' := by
 grind
theorem add_last {u c t X V Z M:Nat} (ht:u+c=t) (hI:X+M*c=Z+V):(X+M*(t%B32))+(M*B32)*(t/B32)=(Z+M*u)+V:=by
 have:=Nat.mod_add_div t B32
 grind
end
theorem borrow_step {a l b:Nat} (ha:a<B32) (hl:l<B32) (hb:b<=1) :
  ∃ w' b', IntKind.u32.wrap (IntKind.u64.wrap (IntKind.u64.wrap ((a:Int)-(l:Int))-(b:Int)))=((w' : Nat):Int)/\w' < B32/\b' <= 1/\Int.fdiv (IntKind.u64.wrap (IntKind.u64.wrap ((a:Int)-(l:Int))-(b:Int))) (2^(63:Nat))=((b' : Nat):Int)/\l+b+w' = a+B32*b' := by
 have e:((2:Int)^(63:Nat))=9223372036854775808:=by decide
 rw [e,wrap_u32_mod,Int.fdiv_eq_ediv_of_nonneg _ (by decide)]
 simp only [wrap_u64_mod]
 unfold B32 at *
 rcases Nat.lt_or_ge a (l+b) with h | h
 ·refine ⟨a+4294967296-(l+b),1,by omega,by omega,by omega,by omega,by omega⟩
 ·refine ⟨a-(l+b),0,by omega,by omega,by omega,by omega,by omega⟩
theorem getD_ltB {l:List Nat} (h : ∀ x∈l,x<B32) (i:Nat):l.getD i 0<B32:=by
 rcases Nat.lt_or_ge i l.length with hl | hg
 ·simp [hl];exact h _ (List.getElem_mem _)
 ·simp [hg];decide
theorem drop_two {l:List Nat} {m:Nat} (h:l.length=m+2):val l=(l.getD (m+1) 0*B32+l.getD m 0)*B32^m+val (l.take m):=by
 rw [val_split (xs:=l) (k:=m) (by omega),val_drop_cons (by omega),val_drop_cons (by omega),List.drop_of_length_le (by omega)]
 simp only [val]
 grind
theorem drop_three {l:List Nat} {m:Nat} (h:l.length=m+3):val l=((l.getD (m+2) 0*B32+l.getD (m+1) 0)*B32+l.getD m 0)*B32^m+val (l.take m):=by
 rw [val_split (xs:=l) (k:=m) (by omega),val_drop_cons (by omega),val_drop_cons (by omega),val_drop_cons (by omega),List.drop_of_length_le (by omega)]
 simp only [val]
 grind
theorem val_take_lt {l:List Nat} (h : ∀ x∈l,x<B32) {m:Nat} (hm:m<=l.length):val (l.take m)<B32^m:=by
 have:=val_lt (l:=l.take m) fun x hx=>h x (List.mem_of_mem_take hx)
 rwa [List.length_take,Nat.min_eq_left hm] at this
theorem getD_of_drop_eq {a b:List Nat} {k:Nat} (h:a.drop k=b.drop k):a.getD k 0=b.getD k 0:=by
 have:=congrArg (fun l:List Nat=>l.getD 0 0) h
 simpa [getD_of_drop] using this
theorem drop_succ_of {a b:List Nat} {k:Nat} (h:a.drop k=b.drop k):a.drop (k+1)=b.drop (k+1):=by
 have:=congrArg (fun l:List Nat=>l.drop 1) h
 simpa using this
theorem digit_c {h:Heap} {gu:Nat} {p w s vs:List Nat} {n c cv:Nat} {vA:Option Addr} (hb:h gu=some (blkW p w s)) (hw : ∀ x∈w,x<B32) (hwl:w.length=n+1)
  (uv:U32 h vA n cv vs) (hd : ∀ ad,vA=some ad->ad.block≠gu) (hn:2<=n) (hn' : n<=1099511627776) (hv1:1<=vs.getD (n-1) 0) (hU:val w<B32*val vs) :
  CallsU Tryz.prog 210 [.slice (some ⟨gu,p.length,none⟩) (n+1) c,.slice vA n cv] h fun r h' => r = .int .u32 ((val w/val vs:Nat):Int)/\val w/val vs<B32/\
   ∃ w', w'.length=n+1/\(∀ x∈w', x<B32)/\h' = h.put gu (blkW p w' s)/\val w' = val w%val vs:=by
 apply natural_digit_ok
 obtain ⟨m,rfl⟩ : ∃ m,n=m+2:=⟨n-2,by omega⟩
 have lv' := uv.len
 have hvs : ∀ x∈vs,x<B32:=uv.lt
 obtain ⟨ad,hA,hld1⟩:=uv.get (i:=m+1) (by omega)
 have hB:B32=4294967296:=rfl
 have eV:=drop_two (l:=vs) (m:=m) lv'
 have eU:=drop_three (l:=w) (m:=m) hwl
 have hV' := val_take_lt hvs (m:=m) (by omega)
 have hU' := val_take_lt hw (m:=m) (by omega)
 have g0:=getD_ltB hw (m+2)
 have g1:=getD_ltB hw (m+1)
 have g2:=getD_ltB hw m
 have k1:=getD_ltB hvs (m+1)
 have k2:=getD_ltB hvs m
 rw [show m+2-1=m+1 from by omega] at hv1
 generalize hu0:w.getD (m+2) 0=u0 at *
 generalize hu1:w.getD (m+1) 0=u1 at *
 generalize hu2:w.getD m 0=u2 at *
 generalize hv1' : vs.getD (m+1) 0=v1 at *
 generalize hv2' : vs.getD m 0=v2 at *
 generalize hV'' : val (vs.take m)=V' at *
 generalize hU'' : val (w.take m)=U' at *
 unfold natural_digit_vc
 simp only [Int.toNat_natCast]
 have ld0:=ld_win hb (k:=m+2) (by omega)
 have ld1:=ld_win hb (k:=m+1) (by omega)
 have ld2:=ld_win hb (k:=m) (by omega)
 rw [hu0] at ld0
 rw [hu1] at ld1
 rw [hu2] at ld2
 refine ⟨_,rfl,by omega,by omega,_,ld0, ?_⟩
 rintro _ rfl _ rfl
 rw [wi (n:=m+1) (by omega) (by omega)]
 simp only [Int.toNat_natCast]
 refine ⟨_,rfl,by omega,by omega,_,ld1, ?_⟩
 rintro _ rfl _ rfl
 rw [shlB (n:=u0) (wu rfl (by omega)) g0,or64 (hi:=u0) (lo:=u1) rfl (wu rfl (by omega)) g1 g0]
 simp only [Int.toNat_natCast]
 generalize htop:u0*B32+u1=top at *
 have htop64:top<18446744073709551616:=by rw [<- htop,hB];omega
 refine ⟨ad,hA,by omega,by omega,_,hld1, ?_⟩
 rw [wu (n:=v1) rfl (by omega)]
 refine Br.mk (fun q=>by simp at q;omega) (fun _=> ?_)
 rintro _ rfl
 refine Br.mk (fun q=>by simp at q;omega) (fun _=> ?_)
 rintro _ rfl
 have hq0:top/v1<=top:=Nat.div_le_self _ _
 rw [tdivN rfl rfl,tmodN rfl rfl,wu (n:=top/v1) rfl (by omega)]
 have hU2:=hU
 rw [eU,eV] at hU2
 refine ⟨fun q h1=> ∃ qN:Nat,q=(qN:Int)/\h=h1/\qN<B32/\val w<(qN+1)*val vs/\qN*val vs<val w+val vs, ?_,
  fun mm q r h1=> ∃ rN:Nat,q=(mm:Int)/\r=(rN:Int)/\h=h1/\mm*v1+rN=top/\rN<2*B32/\mm<=top/\val w<(mm+1)*val vs,⟨top/v1,top%v1,rfl,rfl,rfl,by rw [Nat.mul_comm];exact Nat.div_add_mod _ _, ?_,hq0, ?_⟩, ?_⟩
 ·
  rintro _ _ ⟨q,rfl,rfl,hq,hq1,hq2⟩
  refine ⟨fun mm c b i h' => ∃ (k cN bN:Nat) (w' : List Nat),mm=m+2-k/\k<=m+2/\i=(k:Int)/\c=(cN:Int)/\b=(bN:Int)/\cN<B32/\bN<=1/\w'.length=m+3/\(∀ x∈w', x<B32)/\h' = h.put gu (blkW p w' s)/\
    w'.drop k=w.drop k/\val (w'.take k)+q*val (vs.take k)=val (w.take k)+B32^k*(cN+bN),
   ⟨m+2,0,0,0,w,rfl,by omega,rfl,rfl,rfl,by decide,by omega,hwl,hw,Heap.put_id hb,rfl,by simp [val]⟩, ?_⟩
  rintro _ _ _ _ _ ⟨k,cN,bN,w', rfl,hk,rfl,rfl,rfl,hcN,hbN,hw'l,hw', rfl,hdrop,hval⟩
  have hb' : (h.put gu (blkW p w' s)) gu=some (blkW p w' s):=Heap.put_same _ _ _
  refine Br.mk (fun z=> ?_) (fun z=> ?_)
  ·have z' : k<m+2:=by simp at z;omega
   obtain ⟨ad', hA', hld'⟩:=(U32.put_ne uv hd (blkW p w' s)).get (i:=k) z'
   simp only [Int.toNat_natCast]
   refine ⟨ad', hA', by omega,by omega,_,hld', ?_⟩
   have hy:=getD_ltB hvs k
   have hww:=getD_ltB hw' k
   have hwe:=getD_of_drop_eq hdrop
   have hvt:=val_take_succ (xs:=vs) (k:=k) (by omega)
   generalize vs.getD k 0=y at *
   rintro _ rfl _ rfl
   have hqy:q*y<=4294967295*4294967295:=Nat.mul_le_mul (by omega) (by omega)
   rw [wu (n:=y) rfl (by omega),wu (n:=q*y) (Int.natCast_mul q y).symm (by omega),wu (n:=cN+q*y) (Int.natCast_add _ _).symm (by omega),w32 rfl]
   generalize ht:cN+q*y=t at *
   have htl:=Nat.mod_lt t (show 0<B32 by decide)
   have htd:t/B32<B32:=by apply Nat.div_lt_of_lt_mul;rw [hB];omega
   refine ⟨_,rfl,by omega,by omega,_,ld_win hb' (by omega), ?_⟩
   rw [wu (n:=w'.getD k 0) rfl (by omega),wu (n:=t%B32) rfl (by omega)]
   rintro _ rfl _ rfl
   obtain ⟨x,b', e1,hx,hb1,e2,e3⟩:=borrow_step hww htl hbN
   rw [e1,e2,fdivB rfl,wi (n:=k+1) (by omega) (by omega)]
   refine ⟨_,rfl,by omega,by omega,st_win x hb' (by omega) rfl ?_⟩
   rintro _ rfl _ rfl _ rfl
   refine ⟨m+2-(k+1),by omega,k+1,t/B32,b', w'.set k x,rfl,by omega,rfl,rfl,rfl,htd,hb1,by simp [hw'l],mem_set hw' hx,Heap.put_put _ _ _ _, ?_, ?_⟩
   ·rw [drop_set (by omega)];exact drop_succ_of hdrop
   ·rw [val_take_succ (xs:=w'.set k x) (by simp;omega),take_set_ge (Nat.le_refl _),getD_set_eq (by omega),hvt,val_take_succ (xs:=w) (by omega),Nat.pow_succ]
    rw [hwe] at e3
    exact sub_step ht e3 rfl hval
  ·have hkn:k=m+2:=by simp at z;omega
   subst hkn
   have hww:=getD_ltB hw' (m+2)
   have hwe:=getD_of_drop_eq hdrop
   have eV2:val (vs.take (m+2))=val vs:=by rw [List.take_of_length_le (by omega)]
   obtain ⟨M,hM,hVM,hlt3⟩ : ∃ M,(∀ z,B32^(m+2)*z=M*z)/\val vs<M/\(∀ l:List Nat,(∀ x∈l,x<B32)->l.length=m+3->val l<M*B32):=
    ⟨_,fun _=>rfl,by have:=val_lt hvs;rwa [lv'] at this,fun l h1 h2=>by have:=val_lt h1;rwa [h2,Nat.pow_succ] at this⟩
   rw [hM] at hval
   have eU2:val w=val (w.take (m+2))+M*u0:=by
    have:=val_take_succ (xs:=w) (k:=m+2) (by omega)
    rwa [List.take_of_length_le (by omega),hu0,hM] at this
   refine ⟨_,rfl,by omega,by omega,_,ld_win hb' (by omega), ?_⟩
   rw [wu (n:=w'.getD (m+2) 0) rfl (by omega)]
   rintro _ rfl _ rfl
   obtain ⟨x,b', e1,hx,hb1,e2,e3⟩:=borrow_step hww hcN hbN
   rw [e1,e2]
   refine ⟨_,rfl,by omega,by omega,st_win x hb' (by omega) rfl ?_⟩
   rw [Heap.put_put]
   rintro _ rfl
   have hw2 : ∀ y∈w'.set (m+2) x,y<B32:=mem_set hw' hx
   have hw2l:(w'.set (m+2) x).length=m+3:=by simp [hw'l]
   have ew2:val (w'.set (m+2) x)=val (w'.take (m+2))+M*x:=by
    have:=val_take_succ (xs:=w'.set (m+2) x) (k:=m+2) (by omega)
    rwa [List.take_of_length_le (by omega),take_set_ge (Nat.le_refl _),getD_set_eq (by omega),hM] at this
   have hW:val (w'.set (m+2) x)+q*val vs=val w+(M*B32)*b' := by
    rw [hwe,hu0] at e3
    rw [eV2] at hval
    rw [ew2,eU2]
    exact sub_last e3 hval
   generalize w'.set (m+2) x=w2 at *
   refine Br.mk (fun z2=> ?_) (fun z2=> ?_)
   ·have z3:b' = 0:=by simp at z2;omega
    subst z3
    have:=dig_fin0 (W:=val w2) (by rw [hW,Nat.mul_zero,Nat.add_zero]) hq1
    rw [w32 rfl,Nat.mod_eq_of_lt hq]
    exact ⟨by rw [this.1],by rw [this.1];exact hq,w2,hw2l,hw2,rfl,this.2.symm⟩
   ·have z3:b' = 1:=by simp at z2;omega
    subst z3
    refine ⟨fun mm c i h' => ∃ (k cN:Nat) (w' : List Nat),mm=m+2-k/\k<=m+2/\i=(k:Int)/\c=(cN:Int)/\cN<=1/\w'.length=m+3/\(∀ x∈w', x<B32)/\h' = h.put gu (blkW p w' s)/\
      w'.drop k=w2.drop k/\val (w'.take k)+B32^k*cN=val (w2.take k)+val (vs.take k),
     ⟨m+2,0,0,w2,rfl,by omega,rfl,rfl,by omega,hw2l,hw2,rfl,rfl,by simp [val]⟩, ?_⟩
    rintro _ _ _ _ ⟨k,cN,w', rfl,hk,rfl,rfl,hcN,hw'l,hw', rfl,hdrop,hval⟩
    have hb' : (h.put gu (blkW p w' s)) gu=some (blkW p w' s):=Heap.put_same _ _ _
    have hwe:=getD_of_drop_eq hdrop
    refine Br.mk (fun z=> ?_) (fun z=> ?_)
    ·have z' : k<m+2:=by simp at z;omega
     obtain ⟨ad', hA', hld'⟩:=(U32.put_ne uv hd (blkW p w' s)).get (i:=k) z'
     simp only [Int.toNat_natCast]
     refine ⟨ad', hA', by omega,by omega,_,hld', ?_⟩
     refine ⟨_,rfl,by omega,by omega,_,ld_win hb' (by omega), ?_⟩
     have hy:=getD_ltB hvs k
     have hww:=getD_ltB hw' k
     have hvt:=val_take_succ (xs:=vs) (k:=k) (by omega)
     generalize vs.getD k 0=y at *
     rw [wu (n:=w'.getD k 0) rfl (by omega),wu (n:=y) rfl (by omega)]
     rintro _ rfl _ rfl
     rw [wu (n:=w'.getD k 0+y) (Int.natCast_add _ _).symm (by omega),wu (n:=cN+(w'.getD k 0+y)) (Int.natCast_add _ _).symm (by omega),w32 rfl,fdivB rfl,wi (n:=k+1) (by omega) (by omega)]
     generalize ht:cN+(w'.getD k 0+y)=t at *
     have htl:=Nat.mod_lt t (show 0<B32 by decide)
     have htd:t/B32<=1:=by rw [hB];omega
     refine ⟨_,rfl,by omega,by omega,st_win (t%B32) hb' (by omega) rfl ?_⟩
     rintro _ rfl _ rfl
     refine ⟨m+2-(k+1),by omega,k+1,t/B32,w'.set k (t%B32),rfl,by omega,rfl,rfl,htd,by simp [hw'l],mem_set hw' htl,Heap.put_put _ _ _ _, ?_, ?_⟩
     ·rw [drop_set (by omega)];exact drop_succ_of hdrop
     ·rw [val_take_succ (xs:=w'.set k (t%B32)) (by simp;omega),take_set_ge (Nat.le_refl _),getD_set_eq (by omega),hvt,val_take_succ (xs:=w2) (by omega),Nat.pow_succ,<- hwe]
      exact add_step ht hval
    ·have hkn:k=m+2:=by simp at z;omega
     subst hkn
     rw [hM] at hval
     have hww:=getD_ltB hw' (m+2)
     refine ⟨_,rfl,by omega,by omega,_,ld_win hb' (by omega), ?_⟩
     rw [w32 (n:=cN) rfl,Nat.mod_eq_of_lt (by omega)]
     rintro _ rfl
     rw [w32 (n:=w'.getD (m+2) 0+cN) (Int.natCast_add _ _).symm]
     generalize ht:w'.getD (m+2) 0+cN=t at *
     have htl:=Nat.mod_lt t (show 0<B32 by decide)
     refine ⟨_,rfl,by omega,by omega,st_win (t%B32) hb' (by omega) rfl ?_⟩
     rintro _ rfl
     have ew3:val (w'.set (m+2) (t%B32))=val (w'.take (m+2))+M*(t%B32):=by
      have:=val_take_succ (xs:=w'.set (m+2) (t%B32)) (k:=m+2) (by simp;omega)
      rwa [List.take_of_length_le (by simp;omega),take_set_ge (Nat.le_refl _),getD_set_eq (by omega),hM] at this
     have ew2' : val w2=val (w2.take (m+2))+M*w2.getD (m+2) 0:=by
      have:=val_take_succ (xs:=w2) (k:=m+2) (by omega)
      rwa [List.take_of_length_le (by omega),hM] at this
     have hW3:val (w'.set (m+2) (t%B32))+(M*B32)*(t/B32)=val w2+val vs:=by
      rw [ew3,ew2', <- hwe]
      rw [eV2] at hval
      exact add_last ht hval
     have hw3:=mem_set (i:=m+2) hw' htl
     have hw3l:(w'.set (m+2) (t%B32)).length=m+3:=by simp [hw'l]
     have l2:=hlt3 _ hw2 hw2l
     have l3:=hlt3 _ hw3 hw3l
     have hMM:M*1<=M*B32:=Nat.mul_le_mul_left _ (by decide)
     obtain ⟨r1,r2,r3⟩:=dig_fin1 (by rw [hW,Nat.mul_one]) l2 hW3 l3 hq2 (by omega)
     rw [wu (n:=q-1) (by omega) (by omega),w32 rfl,Nat.mod_eq_of_lt (by omega)]
     exact ⟨by rw [r2],by rw [r2];omega,_,hw3l,hw3,Heap.put_put _ _ _ _,r3.symm⟩
 ·have:=Nat.mod_lt top (show 0<v1 by omega)
  omega
 ·rw [eU,eV]
  exact kn_init hU' g2 (by have:=Nat.lt_mul_div_succ top (show 0<v1 by omega);rw [Nat.mul_comm];omega)
 ·rintro mm q0 r0 h0 ⟨rN,hq0', hr0,hh0,hqr,hr,hmt,hI⟩
  subst hh0
  subst hr0
  subst hq0'
  refine Br.mk (fun z=> ?_) (fun z=> ?_)
  ·have z1:rN<B32:=by simp at z;omega
   have next : ∀ (hx:val w<mm*val vs),∀ t72:Int,t72=IntKind.u64.wrap ((mm:Int)-1)-> ∀ t75:Int,t75=IntKind.u64.wrap ((rN:Int)+(v1:Int))->
     ∃ m_5,m_5<mm/\ ∃ rN:Nat,t72=(m_5:Int)/\t75=(rN:Int)/\h=h/\m_5*v1+rN=top/\rN<2*B32/\m_5<=top/\val w<(m_5+1)*val vs:=by
    rintro hx _ rfl _ rfl
    have h1:1<=mm:=by
     rcases mm with _ | k
     ·simp at hx
     ·omega
    obtain ⟨k,rfl⟩ : ∃ k,mm=k+1:=⟨mm-1,by omega⟩
    refine ⟨k,by omega,rN+v1,by rw [wu (n:=k) (by omega) (by omega)],by rw [wu (n:=rN+v1) (by omega) (by omega)],rfl, ?_,by omega,by omega,hx⟩
    rw [Nat.add_mul] at hqr
    omega
   refine Br.mk (fun z2=> ?_) (fun z2=> ?_)
   ·have z3:B32<=mm:=by simp at z2;omega
    exact next (Nat.lt_of_lt_of_le hU (Nat.mul_le_mul_right _ z3))
   ·have z3:mm<B32:=by simp at z2;omega
    rintro _ rfl
    rw [wi (n:=m) (by omega) (by omega),Int.toNat_natCast]
    obtain ⟨ad', hA', hld'⟩:=uv.get (i:=m) (by omega)
    rw [hv2'] at hld'
    refine ⟨ad', hA', by omega,by omega,_,hld', ?_⟩
    rintro _ rfl _ rfl _ rfl
    refine ⟨_,rfl,by omega,by omega,_,ld2, ?_⟩
    rintro _ rfl
    have hqv:mm*v2<=4294967295*4294967295:=Nat.mul_le_mul (by omega) (by omega)
    rw [wu (n:=v2) rfl (by omega),wu (n:=mm*v2) (Int.natCast_mul mm v2).symm (by omega),shlB rfl z1,or64 (hi:=rN) (lo:=u2) rfl (wu rfl (by omega)) g2 z1]
    refine Br.mk (fun z4=> ?_) (fun z4=> ?_)
    ·have z5:rN*B32+u2<mm*v2:=by simp at z4;omega
     exact next (by rw [eU,eV];exact kn_step hU' hqr z5)
    ·have z5:mm*v2<=rN*B32+u2:=by simp at z4;omega
     exact ⟨mm,rfl,rfl,z3,hI,by rw [eU,eV];exact kn_end2 hV' hqr z5 z3 hv1⟩
  ·have z1:B32<=rN:=by simp at z;omega
   have hq:=kn_q k2 hV' hU2 hqr z1
   refine ⟨mm,rfl,rfl,hq,hI, ?_⟩
   have:=kn_end1 (u2:=u2) (U' := U') k2 hV' hqr z1 hq
   rw [<- eU,<- eV] at this
   have hpos:0<val vs:=by
    rcases Nat.eq_zero_or_pos (val vs) with h0 | h0
    ·rw [h0] at hI;omega
    ·exact h0
   omega
def lenOk (b:Nat) (o:Option UInt8):Bool:=
 match o with
 | some c=>decide (b<2^c.toNat)&&decide (c.toNat<=8)&&(b==0||decide (1<=c.toNat/\2^(c.toNat-1)<=b))
 | none=>false
theorem len8_tab : ∀ b,b<256->lenOk b ((⟨#[0,1,2,2,3,3,3,3,4,4,4,4,4,4,4,4,5,5,5,5,5,5,5,5,5,5,5,5,5,5,5,5,6,6,6,6,6,6,6,6,6,6,6,6,6,6,6,6,6,6,6,6,6,6,6,6,6,6,6,6,6,6,6,6,7,7,7,7,7,7,7,7,7,7,7,7,7,7,7,7,7,7,7,7,7,7,7,7,7,7,7,7,7,7,7,7,7,7,7,7,7,7,7,7,7,7,7,7,7,7,7,7,7,7,7,7,7,7,7,7,7,7,7,7,7,7,7,7,8,8,8,8,8,8,8,8,8,8,8,8,8,8,8,8,8,8,8,8,8,8,8,8,8,8,8,8,8,8,8,8,8,8,8,8,8,8,8,8,8,8,8,8,8,8,8,8,8,8,8,8,8,8,8,8,8,8,8,8,8,8,8,8,8,8,8,8,8,8,8,8,8,8,8,8,8,8,8,8,8,8,8,8,8,8,8,8,8,8,8,8,8,8,8,8,8,8,8,8,8,8,8,8,8,8,8,8,8,8,8,8,8,8,8,8,8,8,8,8,8,8,8,8,8,8,8,8]⟩:ByteArray)[b]?)=true:=by decide +kernel
theorem len8 {b:Nat} (h:b<256) : ∃ c:UInt8,(⟨#[0,1,2,2,3,3,3,3,4,4,4,4,4,4,4,4,5,5,5,5,5,5,5,5,5,5,5,5,5,5,5,5,6,6,6,6,6,6,6,6,6,6,6,6,6,6,6,6,6,6,6,6,6,6,6,6,6,6,6,6,6,6,6,6,7,7,7,7,7,7,7,7,7,7,7,7,7,7,7,7,7,7,7,7,7,7,7,7,7,7,7,7,7,7,7,7,7,7,7,7,7,7,7,7,7,7,7,7,7,7,7,7,7,7,7,7,7,7,7,7,7,7,7,7,7,7,7,7,8,8,8,8,8,8,8,8,8,8,8,8,8,8,8,8,8,8,8,8,8,8,8,8,8,8,8,8,8,8,8,8,8,8,8,8,8,8,8,8,8,8,8,8,8,8,8,8,8,8,8,8,8,8,8,8,8,8,8,8,8,8,8,8,8,8,8,8,8,8,8,8,8,8,8,8,8,8,8,8,8,8,8,8,8,8,8,8,8,8,8,8,8,8,8,8,8,8,8,8,8,8,8,8,8,8,8,8,8,8,8,8,8,8,8,8,8,8,8,8,8,8,8,8,8,8,8,8]⟩:ByteArray)[b]?=some c/\b<2^c.toNat/\c.toNat<=8/\(b≠0->1<=c.toNat/\2^(c.toNat-1)<=b):=by
 have:=len8_tab b h
 generalize (⟨#[0,1,2,2,3,3,3,3,4,4,4,4,4,4,4,4,5,5,5,5,5,5,5,5,5,5,5,5,5,5,5,5,6,6,6,6,6,6,6,6,6,6,6,6,6,6,6,6,6,6,6,6,6,6,6,6,6,6,6,6,6,6,6,6,7,7,7,7,7,7,7,7,7,7,7,7,7,7,7,7,7,7,7,7,7,7,7,7,7,7,7,7,7,7,7,7,7,7,7,7,7,7,7,7,7,7,7,7,7,7,7,7,7,7,7,7,7,7,7,7,7,7,7,7,7,7,7,7,8,8,8,8,8,8,8,8,8,8,8,8,8,8,8,8,8,8,8,8,8,8,8,8,8,8,8,8,8,8,8,8,8,8,8,8,8,8,8,8,8,8,8,8,8,8,8,8,8,8,8,8,8,8,8,8,8,8,8,8,8,8,8,8,8,8,8,8,8,8,8,8,8,8,8,8,8,8,8,8,8,8,8,8,8,8,8,8,8,8,8,8,8,8,8,8,8,8,8,8,8,8,8,8,8,8,8,8,8,8,8,8,8,8,8,8,8,8,8,8,8,8,8,8,8,8,8,8]⟩:ByteArray)[b]?=o at this
 cases o with
 | none=>cases this
 | some c=>
  simp only [lenOk,Bool.and_eq_true,decide_eq_true_eq,Bool.or_eq_true,beq_iff_eq] at this
  exact ⟨c,rfl,this.1.1,this.1.2,fun hb=>this.2.resolve_left hb⟩
def IsLen (x t:Nat):Prop:=x<2^t/\(x≠0->1<=t/\2^(t-1)<=x)
theorem IsLen.shift {x t k:Nat} (h:IsLen (x/2^k) t) (hk:2^k<=x):IsLen x (k+t):=by
 have hp:0<2^k:=Nat.pow_pos (by decide)
 have h1:x/2^k≠0:=by have:=(Nat.le_div_iff_mul_le hp).2 (by rw [Nat.one_mul];exact hk:1*2^k<=x);omega
 have h2:=h.2 h1
 refine ⟨?_,fun _=>⟨by omega, ?_⟩⟩
 ·rw [Nat.pow_add,Nat.mul_comm];exact (Nat.div_lt_iff_lt_mul hp).1 h.1
 ·rw [show k+t-1=(t-1)+k from by omega,Nat.pow_add]
  exact (Nat.le_div_iff_mul_le hp).1 h2.2
theorem fdivP {a:Int} {n k:Nat} (h:a=n):Int.fdiv a (2^k)=((n/2^k:Nat):Int):=by
 have e:((2:Int)^k)=((2^k:Nat):Int):=by simp
 rw [h,e,Int.fdiv_eq_ediv_of_nonneg _ (Int.natCast_nonneg _)]
 rfl
theorem w8 {a:Int} {n:Nat} (h:a=n) (hn:n<256):IntKind.u8.wrap a=n:=by rw [h,IntKind.wrap_u8];omega
theorem len32_c (x:Nat) (hx:x<B32) (h:Heap):CallsU Tryz.prog 155 [.int .u32 x] h fun r h' => ∃ t:Nat,r = .int .i64 t/\t<=32/\IsLen x t/\h=h' := by
 have hB:B32=4294967296:=rfl
 apply math_bits_Len32_ok
 refine ⟨fun y n h' => ∃ (yN k:Nat),y=(yN:Int)/\n=(k:Int)/\h=h' /\ yN<65536/\k<=16/\(∀ t,IsLen yN t->IsLen x (k+t)), ?_, ?_⟩
 ·rintro _ _ _ ⟨y,k,rfl,rfl,rfl,hy,hk,hI⟩
  refine Br.mk (fun q=> ?_) (fun q=> ?_)
  ·have q' : 256<=y:=by simp at q;omega
   rintro _ rfl _ rfl
   rw [fdivP rfl,w8 rfl (by omega),Int.toNat_natCast]
   obtain ⟨c,e,c1,c2,c3⟩:=len8 (b:=y/2^8) (by omega)
   refine ⟨c,by omega,e, ?_⟩
   rintro _ rfl
   clear e
   rw [wi (a:=(k:Int)+8) (n:=k+8) (by omega) (by omega),wi (a:=(c.toNat:Int)) (n:=c.toNat) (by omega) (by omega),wi (n:=k+(8+c.toNat)) (by omega) (by omega)]
   exact ⟨_,rfl,by omega,hI _ (IsLen.shift ⟨c1,c3⟩ (by omega)),rfl⟩
  ·have q' : y<256:=by simp at q;omega
   rw [w8 rfl (by omega),Int.toNat_natCast]
   obtain ⟨c,e,c1,c2,c3⟩:=len8 (b:=y) (by omega)
   refine ⟨c,by omega,e, ?_⟩
   rintro _ rfl
   clear e
   rw [wi (a:=(c.toNat:Int)) (n:=c.toNat) (by omega) (by omega),wi (n:=k+c.toNat) (by omega) (by omega)]
   exact ⟨_,rfl,by omega,hI _ ⟨c1,c3⟩,rfl⟩
 ·refine Br.mk (fun q=> ?_) (fun q=> ?_)
  ·have q' : 65536<=x:=by simp at q;omega
   rintro _ rfl
   refine ⟨x/2^16,16,by rw [fdivP rfl],rfl,rfl,by omega,by omega,fun t ht=>IsLen.shift ht (by omega)⟩
  ·have q' : x<65536:=by simp at q;omega
   exact ⟨x,0,rfl,rfl,rfl,q', by omega,fun t ht=>by rwa [Nat.zero_add]⟩
theorem lead32_c (x:Nat) (hx:x<B32) (h:Heap):CallsU Tryz.prog 208 [.int .u32 x] h fun r h' => ∃ t:Nat,r = .int .i64 ((32-t:Nat):Int)/\t<=32/\IsLen x t/\h=h' := by
 apply math_bits_LeadingZeros32_ok
 refine (len32_c x hx h).mono ?_
 rintro _ _ ⟨t,rfl,ht,hl,rfl⟩
 refine ⟨_,rfl, ?_⟩
 rintro _ rfl
 exact ⟨t,by rw [wi (n:=32-t) (by omega) (by omega)],ht,hl,rfl⟩
theorem dm_split (us:List Nat) (i k:Nat):us=us.take i++(us.drop i).take k++us.drop (i+k):=by
 rw [List.append_assoc,<- List.drop_drop,List.take_append_drop,List.take_append_drop]
theorem dm_win {us:List Nat} {i m V:Nat} (hl:i+m+1<=us.length) (hus : ∀ x∈us,x<B32) (hV:V<B32^m) (hr:val (us.drop (i+1))<V) :
  ((us.drop i).take (m+1)).length=m+1/\val ((us.drop i).take (m+1))<B32*V/\val (us.drop (i+(m+1)))=0:=by
 have hwl:((us.drop i).take (m+1)).length=m+1:=by simp;omega
 have hi:=getD_ltB hus i
 have e1:val (us.drop i)=us.getD i 0+B32*val (us.drop (i+1)):=val_drop_cons (by omega)
 have e2:val (us.drop i)=val ((us.drop i).take (m+1))+B32^(m+1)*val (us.drop (i+(m+1))):=by
  have:=val_split (xs:=us.drop i) (k:=m+1) (by simp;omega)
  rwa [List.drop_drop] at this
 have h3:val (us.drop i)<B32*V:=by
  have:B32*(val (us.drop (i+1))+1)<=B32*V:=Nat.mul_le_mul_left _ hr
  rw [Nat.mul_add] at this
  omega
 have h4:B32*V<=B32^(m+1):=by rw [Nat.pow_succ,Nat.mul_comm];exact Nat.mul_le_mul_right _ (Nat.le_of_lt hV)
 refine ⟨hwl,by omega, ?_⟩
 generalize B32^(m+1)=M at *
 rcases Nat.eq_zero_or_pos (val (us.drop (i+(m+1)))) with h0 | h0
 ·exact h0
 ·have:=Nat.mul_le_mul_left M h0
  omega
theorem dm_new {us w' : List Nat} {i m V:Nat} (hl:i+m+1<=us.length) (hV:0<V) (hwl:((us.drop i).take (m+1)).length=m+1) (hs:val (us.drop (i+(m+1)))=0) (hw'l:w'.length=m+1)
  (hw' : val w' = val ((us.drop i).take (m+1))%V) :
  val (us.take i++w' ++ us.drop (i+(m+1)))+B32^i*((val ((us.drop i).take (m+1))/V)*V)=val us/\val ((us.take i++w' ++ us.drop (i+(m+1))).drop i)<V/\
   (us.take i++w' ++ us.drop (i+(m+1))).length=us.length:=by
 have hti:(us.take i).length=i:=by simp;omega
 refine ⟨?_, ?_, ?_⟩
 ·conv=>rhs;rw [dm_split us i (m+1)]
  rw [List.append_assoc,List.append_assoc,val_append,val_append,val_append,val_append,hs,hti,Nat.mul_zero,Nat.mul_zero,Nat.add_zero,Nat.add_zero,hw', Nat.add_assoc,<- Nat.mul_add]
  rw [Nat.mul_comm _ V,Nat.mod_add_div]
  simp only [Nat.add_zero]
 ·rw [List.append_assoc,List.drop_append_of_le_length (by omega),List.drop_of_length_le (by omega),List.nil_append,val_append,hs,Nat.mul_zero,Nat.add_zero,hw']
  exact Nat.mod_lt _ hV
 ·simp [hw'l];omega
theorem dm_inv {us us' qs:List Nat} {i V q U:Nat} (hq:i<qs.length) (h1:val us' + B32^i*(q*V)=val us) (hI:val us+B32^(i+1)*(val (qs.drop (i+1))*V)=U) :
  val us' + B32^i*(val ((qs.set i q).drop i)*V)=U:=by
 rw [val_drop_cons (by simp;exact hq),getD_set_eq hq,drop_set (by omega),Nat.add_mul,Nat.mul_add,<- Nat.add_assoc,h1]
 rw [Nat.pow_succ] at hI
 rw [<- hI]
 congr 1
 generalize B32^i=M
 grind
theorem dm_end {u q x y s:Nat} (hs:0<s) (h:u+q*(y*s)=x*s) (hu:u<y*s):q=x/y/\u/s=x%y:=by
 have hy:0<y:=by
  rcases Nat.eq_zero_or_pos y with h0 | h0
  ·rw [h0,Nat.zero_mul] at hu;omega
  ·exact h0
 have h1:(x*s)/(y*s)=q:=by rw [<- h,Nat.add_mul_div_right _ _ (by omega),Nat.div_eq_of_lt hu,Nat.zero_add]
 have h2:(x*s)%(y*s)=u:=by rw [<- h,Nat.add_mul_mod_self_right,Nat.mod_eq_of_lt hu]
 rw [Nat.mul_div_mul_right _ _ hs] at h1
 rw [Nat.mul_mod_mul_right] at h2
 exact ⟨h1.symm,by rw [<- h2,Nat.mul_div_cancel _ hs]⟩
theorem nrm_top {ys:List Nat} {k:Nat} (hy : ∀ x∈ys,x<B32) (hn:Nrm ys) (hl:ys.length=k+1):ys.getD k 0≠0/\val ys=val (ys.take k)+B32^k*ys.getD k 0/\val (ys.take k)<B32^k:=by
 refine ⟨?_, ?_,val_take_lt hy (by omega)⟩
 ·intro h0
  apply hn
  rw [List.getLast?_eq_getElem?,hl,Nat.add_sub_cancel]
  simp only [List.getD_eq_getElem?_getD] at h0
  rw [List.getElem?_eq_getElem (by omega)] at h0 ⊢
  simpa using h0
 ·have:=val_take_succ (xs:=ys) (k:=k) (by omega)
  rwa [List.take_of_length_le (by omega)] at this
theorem dm_shift {ys vs:List Nat} {k t:Nat} (hy : ∀ x∈ys,x<B32) (hn:Nrm ys) (hl:ys.length=k+1) (ht:t<=32) (hlen:ys.getD k 0<2^t) (hv:val vs=val ys*2^(32-t)) (hvs : ∀ x∈vs,x<B32) (hvl:vs.length=k+2) :
  val (vs.take (k+1))=val ys*2^(32-t)/\1<=(vs.take (k+1)).getD k 0/\val (vs.take (k+1))<B32^(k+1)/\B32^k<=val ys:=by
 obtain ⟨h1,h2,h3⟩:=nrm_top hy hn hl
 have hp:0<2^(32-t):=Nat.pow_pos (by decide)
 have hge:B32^k<=val ys:=by
  have:=Nat.mul_le_mul_left (B32^k) (show 1<=ys.getD k 0 by omega)
  omega
 have hlt:val ys*2^(32-t)<B32^(k+1):=by
  have a:val ys<B32^k*2^t:=by
   have:=Nat.mul_le_mul_left (B32^k) (show ys.getD k 0+1<=2^t by omega)
   rw [Nat.mul_add] at this
   omega
  have b:val ys*2^(32-t)<(B32^k*2^t)*2^(32-t):=Nat.mul_lt_mul_of_pos_right a hp
  rwa [Nat.mul_assoc,<- Nat.pow_add,show t+(32-t)=32 from by omega] at b
 have e:val vs=val (vs.take (k+1))+B32^(k+1)*vs.getD (k+1) 0:=by
  have:=val_take_succ (xs:=vs) (k:=k+1) (by omega)
  rwa [List.take_of_length_le (by omega)] at this
 have h0:vs.getD (k+1) 0=0:=by
  rcases Nat.eq_zero_or_pos (vs.getD (k+1) 0) with z | z
  ·exact z
  ·have:=Nat.mul_le_mul_left (B32^(k+1)) z
   generalize B32^(k+1)=M at *
   omega
 rw [h0,Nat.mul_zero,Nat.add_zero] at e
 have e2:val (vs.take (k+1))=val (vs.take k)+B32^k*vs.getD k 0:=val_take_succ (by omega)
 have e3:val (vs.take k)<B32^k:=val_take_lt hvs (by omega)
 have e4:(vs.take (k+1)).getD k 0=vs.getD k 0:=by simp
 refine ⟨by rw [<- e,hv], ?_,by rw [<- e,hv];exact hlt,hge⟩
 rw [e4]
 rcases Nat.eq_zero_or_pos (vs.getD k 0) with z | z
 ·rw [z,Nat.mul_zero,Nat.add_zero] at e2
  have:val ys*1<=val ys*2^(32-t):=Nat.mul_le_mul_left _ hp
  omega
 ·exact z
theorem dm_first {ls:List Nat} {x y s n k:Nat} (hll:ls.length=n+1) (hv:val ls=x*s) (hx:x<B32^n) (hy:B32^k<=y) (hs:0<s) (hk:k+1<=n):val (ls.drop (n-k))<y*s:=by
 have e:=val_split (xs:=ls) (k:=n-k) (by omega)
 have h1:B32^(n-k)*val (ls.drop (n-k))<=x*s:=by omega
 have h2:x*s<(B32^(n-k)*B32^k)*s:=by
  rw [<- Nat.pow_add,show n-k+k=n from by omega]
  exact Nat.mul_lt_mul_of_pos_right hx hs
 have h3:(B32^(n-k)*B32^k)*s<=B32^(n-k)*(y*s):=by
  rw [Nat.mul_assoc]
  exact Nat.mul_le_mul_left _ (Nat.mul_le_mul_right _ hy)
 exact Nat.lt_of_mul_lt_mul_left (Nat.lt_of_le_of_lt h1 (Nat.lt_of_lt_of_le h2 h3))
theorem addr_add0 (g i:Nat):Addr.add ⟨g,0,none⟩ (i*1)=⟨g,i,none⟩:=by simp [Addr.add];exact fun e=>e.symm
theorem NmN.nil (h:Heap) (A:Option Addr) (c:Nat):NmN h A 0 c 0:=⟨[],U32.nil h A c,rfl,nrm_nil⟩
theorem divmod_0 {h:Heap} {A B:Option Addr} {n c m d x:Nat} (ux:IsN h A n c x) (uy:IsN h B m d 0) (hn:n<=1099511627776) (hm:m<=1099511627776) :
  CallsU Tryz.prog 145 [.slice A n c,.slice B m d] h fun r h' => r = .tuple #[.slice none 0 0,.slice none 0 0,.bool false]/\h=h' := by
 apply natural_DivMod_ok
 refine (trim_n ux (by omega)).mono ?_
 rintro _ _ ⟨n', rfl,hn', nx,rfl⟩
 refine ⟨_,_,_,rfl,(trim_n uy (by omega)).mono ?_⟩
 rintro _ _ ⟨m', rfl,hm', ny,rfl⟩
 refine ⟨_,_,_,rfl,Br.mk (fun _=>⟨rfl,rfl⟩) (fun q=> ?_)⟩
 have:=NmN.zero_iff ny
 simp at q
 omega
theorem divmod_c {h:Heap} {A B:Option Addr} {n c m d x y:Nat} (ux:IsN h A n c x) (uy:IsN h B m d y) (hn:n<=1099511627776) (hm:m<=1099511627776) (hy:y≠0) :
  CallsU Tryz.prog 145 [.slice A n c,.slice B m d] h fun r h' => ∃ A1 n1 c1 A2 n2 c2,r = .tuple #[.slice A1 n1 c1,.slice A2 n2 c2,.bool true]/\NmN h' A1 n1 c1 (x/y)/\NmN h' A2 n2 c2 (x%y)/\Le h h' := by
 apply natural_DivMod_ok
 have hB:B32=4294967296:=rfl
 refine (trim_n ux (by omega)).mono ?_
 rintro _ _ ⟨n', rfl,hn', nx,rfl⟩
 refine ⟨_,_,_,rfl,(trim_n uy (by omega)).mono ?_⟩
 rintro _ _ ⟨m', rfl,hm', ny,rfl⟩
 have hz:=NmN.zero_iff ny
 refine ⟨_,_,_,rfl,Br.mk (fun q=>by simp at q;omega) (fun q=> ?_)⟩
 have hm0:m' ≠ 0:=fun e=>hy (hz.1 e)
 refine (cmp_c nx.is ny.is (by omega) (by omega)).mono ?_
 rintro _ _ ⟨rfl,rfl⟩
 refine ⟨_,rfl,Br.mk (fun q1=> ?_) (fun q1=> ?_)⟩
 ·have hlt:x<y:=by unfold cmpI at q1;simp at q1;omega
  refine (norm_c nx.is (by omega)).mono ?_
  rintro _ _ ⟨A', k,c', rfl,_,hN,hl⟩
  exact ⟨_,_,_,rfl,_,_,_,_,_,_,rfl,by rw [Nat.div_eq_of_lt hlt];exact NmN.nil _ _ _,by rw [Nat.mod_eq_of_lt hlt];exact hN,hl⟩
 ·have hge:y<=x:=by unfold cmpI at q1;simp at q1;omega
  refine Br.mk (fun q2=> ?_) (fun q2=> ?_)
  ·have h1:m' = 1:=by simp at q2;omega
   subst h1
   obtain ⟨ys,uy', ey,_⟩:=ny
   obtain ⟨ad,hA,hld⟩:=uy'.get (i:=0) (by omega)
   have ly:=uy'.len
   have hyl:ys.getD 0 0=y:=by
    rw [<- ey]
    match ys,ly with
    | [a],_=>simp [val]
   have hyB:y<B32:=by rw [<- hyl];exact uy'.getD_lt 0
   rw [hyl] at hld
   refine ⟨ad,hA,by omega,by omega,_,hld,(short_c nx.is (by omega) (by omega) hyB).mono ?_⟩
   rintro _ h2 ⟨A', k,c', rfl,hN,hl⟩
   refine ⟨_,_,_,_,rfl, ?_⟩
   have hr:x%y<y:=Nat.mod_lt _ (by omega)
   rw [wu (n:=x%y) rfl (by omega)]
   refine (of_c (x%y) (by omega) h2).mono ?_
   rintro _ h3 ⟨A2,k2,c2,rfl,_,hN2,hl2⟩
   exact ⟨_,_,_,rfl,_,_,_,_,_,_,rfl,hN.mono hl2,hN2,hl.trans hl2⟩
  ·have h2:m' ≠ 1:=by simp at q2;omega
   obtain ⟨k,rfl⟩ : ∃ k,m' = k+2:=⟨m' - 2,by omega⟩
   obtain ⟨xs,ux', ex,nrx⟩:=nx
   obtain ⟨ys,uy', ey,nry⟩:=ny
   have lx:=ux'.len
   have ly:=uy'.len
   have hxs : ∀ z∈xs,z<B32:=ux'.lt
   have hys : ∀ z∈ys,z<B32:=uy'.lt
   have ht0:=(nrm_top hys nry ly).1
   rintro _ rfl
   rw [wi (n:=k+1) (by omega) (by omega)]
   simp only [Int.toNat_natCast]
   obtain ⟨ad,hA,hld⟩:=uy'.get (i:=k+1) (by omega)
   refine ⟨ad,hA,by omega,by omega,_,hld,(lead32_c _ (uy'.getD_lt _) _).mono ?_⟩
   rintro _ _ ⟨t,rfl,ht,hlen,rfl⟩
   have ht1:=(hlen.2 ht0).1
   refine ⟨_,rfl,(left_c ux' (by omega) (sN:=32-t) (by omega)).mono ?_⟩
   rintro _ _ ⟨gu,ls,rfl,hgu,rfl,lll,hls,hlv⟩
   refine ⟨_,_,_,rfl,(left_c (uy'.mono (Le.new hgu _)) (by omega) (sN:=32-t) (by omega)).mono ?_⟩
   rintro _ _ ⟨gv,vs,rfl,hgv,rfl,lvl,hvs,hvv⟩
   obtain ⟨e1,e2,e3,e4⟩:=dm_shift hys nry ly ht hlen.1 hvv hvs lvl
   have hp:0<2^(32-t):=Nat.pow_pos (by decide)
   have hnk:k+1<n' := by
    have h1:B32^(k+1)<B32^n' := Nat.lt_of_le_of_lt e4 (by rw [ey];exact Nat.lt_of_le_of_lt hge (by rw [<- ex,<- lx];exact val_lt hxs))
    exact (Nat.pow_lt_pow_iff_right (by decide)).1 h1
   have hfirst:=dm_first (x:=x) (y:=y) (n:=n') (k:=k+1) lll (by rw [hlv,ex]) (by rw [<- ex,<- lx];exact val_lt hxs) (by rw [<- ey];exact e4) hp hnk
   rw [ey] at e1
   rw [ex] at hlv
   have hV0:0<val (vs.take (k+2)):=by rw [e1];exact Nat.mul_pos (by omega) hp
   have hvl2:(vs.take (k+2)).length=k+2:=by simp;omega
   have hVlt:=e3
   rw [<- e1] at hfirst
   refine ⟨_,_,_,rfl,by omega,by omega, ?_⟩
   rintro _ rfl
   rw [wi (n:=n' - (k+1)) (by omega) (by omega)]
   simp only [Int.toNat_natCast]
   refine ⟨by omega,by omega,by omega,by omega, ?_⟩
   rintro g _ hg rfl _ rfl
   have hguv:gu≠gv:=fun e=>by rw [e,Heap.put_same] at hgv;cases hgv
   have hgg:g≠gv:=fun e=>by rw [e,Heap.put_same] at hg;cases hg
   have hggu:g≠gu:=fun e=>by rw [Heap.put_ne _ _ hgg,e,Heap.put_same] at hg;cases hg
   have hg0:h gv=none:=by rw [Heap.put_ne _ _ hguv.symm] at hgv;exact hgv
   have hg1:h g=none:=by rw [Heap.put_ne _ _ hgg,Heap.put_ne _ _ hggu] at hg;exact hg
   have hwin : ∀ (us:List Nat) (i:Nat),i+(k+2)+1<=us.length->(∀ x∈us,x<B32)->val (us.drop (i+1))<val (vs.take (k+2))->_:=fun us i a b c=>dm_win (m:=k+2) a b e3 c
   have hend : ∀ us:List Nat,us.length=n' + 1->val us<val (vs.take (k+2))->val (us.take (k+2))=val us:=fun us a b=>by
    have e:=val_split (xs:=us) (k:=k+2) (by omega)
    have e3' : val (vs.take (k+2))<B32^(k+2):=e3
    rcases Nat.eq_zero_or_pos (val (us.drop (k+2))) with z | z
    ·rw [z,Nat.mul_zero,Nat.add_zero] at e;exact e.symm
    ·have:=Nat.mul_le_mul_left (B32^(k+2)) z
     generalize B32^(k+2)=M at *
     omega
   clear e3 e4 hVlt
   generalize hVd:val (vs.take (k+2))=V at *
   refine ⟨fun mm i h' => ∃ (us qs:List Nat),i=(mm:Int)-1/\mm<=n' - (k+1)/\us.length=n' + 1/\(∀ z∈us,z<B32)/\qs.length=n' - (k+1)/\(∀ z∈qs,z<B32)/\
     h' gu=some ⟨us.map lv,166,(0,0)⟩/\h' gv=some ⟨vs.map lv,166,(0,0)⟩/\h' g=some ⟨qs.map lv,166,(0,0)⟩/\Le h h' /\
     val (us.drop mm)<V/\val us+B32^mm*(val (qs.drop mm)*V)=x*2^(32-t),
    ⟨n' - (k+1),ls,List.replicate (n' - (k+1)) 0,by rw [wrap_i64 (by omega) (by omega)],by omega,lll,hls,by simp,fun x hx=>by rw [List.mem_replicate] at hx;rw [hx.2];decide,
     by rw [Heap.put_ne _ _ hggu.symm,Heap.put_ne _ _ hguv,Heap.put_same],by rw [Heap.put_ne _ _ hgg.symm,Heap.put_same],by rw [Heap.put_same,repV_lv],
     (((Le.new hgu _).put hg0 _).put hg1 _),hfirst,by rw [List.drop_of_length_le (by simp),hlv];simp [val]⟩, ?_⟩
   rintro mm _ h' ⟨us,qs,rfl,hmm,hul,hus,hql,hqs,hbu,hbv,hbq,hl,hlt,hI⟩
   refine Br.mk (fun z=> ?_) (fun z=> ?_)
   ·have z' : 1<=mm:=by simp at z;omega
    obtain ⟨i,rfl⟩ : ∃ i,mm=i+1:=⟨mm-1,by omega⟩
    rw [show ((i+1:Nat):Int)-1=(i:Int) from by omega]
    rintro _ rfl _ rfl
    rw [wi (a:=(i:Int)+((k+2:Nat):Int)) (n:=i+(k+2)) (by omega) (by omega),wi (n:=i+(k+2)+1) (by omega) (by omega)]
    simp only [Int.toNat_natCast]
    rw [show i+(k+2)+1-i=k+2+1 from by omega,if_neg (by omega),Option.map_some,addr_add0]
    obtain ⟨w1,w2,w3⟩:=hwin us i (by omega) hus hlt
    have hbw:h' gu=some (blkW (us.take i) ((us.drop i).take (k+2+1)) (us.drop (i+(k+2+1)))):=by
     show h' gu=some ⟨(us.take i++(us.drop i).take (k+2+1)++us.drop (i+(k+2+1))).map lv,_,_⟩
     rw [<- dm_split];exact hbu
    have huv:=U32.of_blk (m:=k+2) (k:=k+2+1) hbv hvs (by omega) (by omega)
    have hdig:=digit_c (c:=n' + 1-i) hbw (fun x hx=>hus x (List.mem_of_mem_drop (List.mem_of_mem_take hx))) w1 huv (fun ad e=>by cases e;exact hguv.symm) (by omega) (by omega) (by simpa using e2) (by rw [hVd];exact w2)
    rw [show (us.take i).length=i from by simp;omega,hVd] at hdig
    refine ⟨by omega,by omega,by omega,by omega,hdig.mono ?_⟩
    rintro _ _ ⟨rfl,hqlt,w', hw'l,hw', rfl,hw'v⟩
    obtain ⟨n1,n2,n3⟩:=dm_new (by omega) hV0 w1 w3 hw'l hw'v
    generalize val ((us.drop i).take (k+2+1))/V=q at *
    refine ⟨_,rfl,_,rfl,by omega,by omega,st_own q (rs:=qs) ((Heap.put_ne _ _ hggu).trans hbq) (by omega) rfl ?_⟩
    rintro _ rfl
    rw [wrap_i64 (by omega) (by omega)]
    refine ⟨i,by omega,us.take i++w' ++ us.drop (i+(k+2+1)),qs.set i q,rfl,by omega,by rw [n3,hul], ?_,by simp [hql],mem_set hqs hqlt, ?_, ?_,Heap.put_same _ _ _, ?_,n2,dm_inv (by omega) n1 hI⟩
    ·intro y hy'
     rcases List.mem_append.1 hy' with z1 | z1
     ·rcases List.mem_append.1 z1 with z2 | z2
      ·exact hus _ (List.mem_of_mem_take z2)
      ·exact hw' _ z2
     ·exact hus _ (List.mem_of_mem_drop z1)
    ·rw [Heap.put_ne _ _ hggu.symm,Heap.put_same]
    ·rw [Heap.put_ne _ _ hgg.symm,Heap.put_ne _ _ hguv.symm];exact hbv
    ·exact (hl.put hgu _).put hg1 _
   ·have z' : mm=0:=by simp at z;omega
    subst z'
    rw [List.drop_zero] at hlt hI
    rw [Nat.pow_zero,Nat.one_mul] at hI
    rw [e1] at hlt hI
    obtain ⟨r1,r2⟩:=dm_end hp hI hlt
    have uq:=U32.of_blk (m:=n' - (k+1)) (k:=n' - (k+1)) hbq hqs (by omega) (Nat.le_refl _)
    rw [List.take_of_length_le (by omega)] at uq
    refine ⟨by omega,by omega,(trim_n ⟨_,uq,rfl⟩ (by omega)).mono ?_⟩
    rintro _ _ ⟨m2,rfl,hm2,hN,rfl⟩
    have uu:=U32.of_blk (m:=k+2) (k:=n' + 1) hbu hus (by omega) (by omega)
    refine ⟨_,_,_,rfl,(right_c ⟨_,uu,rfl⟩ (by omega) (by omega)).mono ?_⟩
    rintro _ _ ⟨A2,k2,c2,rfl,hN2,hl2⟩
    rw [hend us hul (by rw [e1];exact hlt),r2] at hN2
    rw [r1] at hN
    exact ⟨_,_,_,rfl,_,_,_,_,_,_,rfl,hN.mono hl2,hN2,hl.trans hl2⟩
end Go.Proofs.YtfglcgbgaeegaaaGreatDoor

namespace Go.Proofs.YtfglcgbgaeegaaaGreatDoor
open Go Go.Vcg
def integer_Cmp_vc (a:Bool) (b:OA) (c d:Nat) (e:Bool) (f:OA) (g i:Nat) (h:Heap) (R:Value->Heap->Prop):Prop:=
 CallsU Tryz.prog 139 [.agg #[.bool a,.slice b c d]] h fun a0 a1=>
 ∃ j k l m,a0 = .agg #[.bool j,.slice k l m]/\
 LeH h a1/\
 CallsU Tryz.prog 139 [.agg #[.bool e,.slice f g i]] a1 fun a2 a3=>
 ∃ n o p q,a2 = .agg #[.bool n,.slice o p q]/\
 ∃ r:Bool->Heap->Prop,(∀ (v:Bool) (w:Heap),r v w->
 Br (v)
 (R (.int .i64 (-1)) w)
 (∃ s:Bool->Heap->Prop,(∀ (y:Bool) (z:Heap),s y z->
 Br (y)
 (R (.int .i64 1) z)
 (Br (j)
 (CallsU Tryz.prog 140 [.slice o p q,.slice k l m] z fun a4 a5=>
 ∃ t,a4 = .int .i64 t/\
 R (.int .i64 t) a5)
 (CallsU Tryz.prog 140 [.slice k l m,.slice o p q] z fun a6 a7=>
 ∃ u,a6 = .int .i64 u/\
 R (.int .i64 u) a7)))/\
 Br (!j)
 (s n w)
 (s false w)))/\
 Br (j)
 (r (!n) a3)
 (r false a3)
theorem integer_Cmp_ok {a:Bool} {b:OA} {c d:Nat} {e:Bool} {f:OA} {g i:Nat} {h:Heap} {R:Value->Heap->Prop} (hv:integer_Cmp_vc a b c d e f g i h R):CallsU Tryz.prog 79 [.agg #[.bool a,.slice b c d],.agg #[.bool e,.slice f g i]] h R:=
 fn_ok Tryz.func79 (fun _=>false) (.two .nil (.two (.ord [0,2,1,3,4,5]) (.two (.one (.cut ⟨[(9,Sh.bool)],[]⟩ .nil (.two .nil (.cut ⟨[(17,Sh.bool)],[]⟩ .nil .nil)))) .nil))) hv
def integer_Mul_vc (a:Bool) (b:OA) (c d:Nat) (e:Bool) (f:OA) (g i:Nat) (h:Heap) (R:Value->Heap->Prop):Prop:=
 CallsU Tryz.prog 84 [.slice b c d,.slice f g i] h fun q r=>
 ∃ j k l,q = .slice j k l/\
 LeH h r/\
 CallsU Tryz.prog 141 [.bool (!(a==e)),.slice j k l] r fun s t=>
 ∃ m n o p,s = .agg #[.bool m,.slice n o p]/\
 R (.agg #[.bool m,.slice n o p]) t
theorem integer_Mul_ok {a:Bool} {b:OA} {c d:Nat} {e:Bool} {f:OA} {g i:Nat} {h:Heap} {R:Value->Heap->Prop} (hv:integer_Mul_vc a b c d e f g i h R):CallsU Tryz.prog 80 [.agg #[.bool a,.slice b c d],.agg #[.bool e,.slice f g i]] h R:=
 fn_ok Tryz.func80 (fun _=>false) (.two .nil (.two (.ord [0,1,2,3,4,5,6,7,8,9,10,11]) .nil)) hv
def integer_Add_vc (a:Bool) (b:OA) (c d:Nat) (e:Bool) (f:OA) (g i:Nat) (h:Heap) (R:Value->Heap->Prop):Prop:=
 Br (a==e)
 (CallsU Tryz.prog 142 [.slice b c d,.slice f g i] h fun a7 a8=>
 ∃ j k l,a7 = .slice j k l/\
 LeH h a8/\
 CallsU Tryz.prog 141 [.bool a,.slice j k l] a8 fun a9 b0=>
 ∃ m n o p,a9 = .agg #[.bool m,.slice n o p]/\
 R (.agg #[.bool m,.slice n o p]) b0)
 (CallsU Tryz.prog 143 [.slice b c d,.slice f g i] h fun b1 b2=>
 ∃ q r s t,b1 = .tuple #[.slice q r s,.bool t]/\
 Br (t)
 (CallsU Tryz.prog 141 [.bool a,.slice q r s] b2 fun b3 b4=>
 ∃ u v w y,b3 = .agg #[.bool u,.slice v w y]/\
 R (.agg #[.bool u,.slice v w y]) b4)
 (CallsU Tryz.prog 143 [.slice f g i,.slice b c d] b2 fun b5 b6=>
 ∃ z a0 a1 a2,b5 = .tuple #[.slice z a0 a1,.bool a2]/\
 CallsU Tryz.prog 141 [.bool e,.slice z a0 a1] b6 fun b7 b8=>
 ∃ a3 a4 a5 a6,b7 = .agg #[.bool a3,.slice a4 a5 a6]/\
 R (.agg #[.bool a3,.slice a4 a5 a6]) b8))
theorem integer_Add_ok {a:Bool} {b:OA} {c d:Nat} {e:Bool} {f:OA} {g i:Nat} {h:Heap} {R:Value->Heap->Prop} (hv:integer_Add_vc a b c d e f g i h R):CallsU Tryz.prog 82 [.agg #[.bool a,.slice b c d],.agg #[.bool e,.slice f g i]] h R:=
 fn_ok Tryz.func82 (fun _=>false) (.two .nil (.two (.two .nil (.two (.two (.ord [0,1,2,3,4,5,6,7,8]) .nil) .nil)) .nil)) hv
def integer_Of_vc (n:Int) (h:Heap) (R:Value->Heap->Prop):Prop:=
 Br (decide (n<0))
 (∀ q:Int,q=IntKind.u64.wrap (0-(IntKind.u64.wrap n))->
 CallsU Tryz.prog 138 [.int .u64 q] h fun r s=>
 ∃ a b c,r = .slice a b c/\
 CallsU Tryz.prog 141 [.bool true,.slice a b c] s fun t u=>
 ∃ d e f g,t = .agg #[.bool d,.slice e f g]/\
 R (.agg #[.bool d,.slice e f g]) u)
 (CallsU Tryz.prog 138 [.int .u64 (IntKind.u64.wrap n)] h fun v w=>
 ∃ i j k,v = .slice i j k/\
 CallsU Tryz.prog 141 [.bool false,.slice i j k] w fun y z=>
 ∃ l m o p,y = .agg #[.bool l,.slice m o p]/\
 R (.agg #[.bool l,.slice m o p]) z)
theorem integer_Of_ok {n:Int} {h:Heap} {R:Value->Heap->Prop} (hv:integer_Of_vc n h R):CallsU Tryz.prog 85 [.int .i64 n] h R:=
 fn_ok Tryz.func85 (fun _=>false) .nil hv
def integer_Norm_vc (a:Bool) (b:OA) (c d:Nat) (h:Heap) (R:Value->Heap->Prop):Prop:=
 CallsU Tryz.prog 141 [.bool a,.slice b c d] h fun j k=>
 ∃ e f g i,j = .agg #[.bool e,.slice f g i]/\
 R (.agg #[.bool e,.slice f g i]) k
theorem integer_Norm_ok {a:Bool} {b:OA} {c d:Nat} {h:Heap} {R:Value->Heap->Prop} (hv:integer_Norm_vc a b c d h R):CallsU Tryz.prog 139 [.agg #[.bool a,.slice b c d]] h R:=
 fn_ok Tryz.func139 (fun _=>false) .nil hv
def integer_signed_vc (a:Bool) (b:OA) (c d:Nat) (h:Heap) (R:Value->Heap->Prop):Prop:=
 CallsU Tryz.prog 207 [.slice b c d] h fun i j=>
 ∃ e f g,i = .slice e f g/\
 Br (a)
 (R (.agg #[.bool (decide ((f:Int)>0)),.slice e f g]) j)
 (R (.agg #[.bool false,.slice e f g]) j)
theorem integer_signed_ok {a:Bool} {b:OA} {c d:Nat} {h:Heap} {R:Value->Heap->Prop} (hv:integer_signed_vc a b c d h R):CallsU Tryz.prog 141 [.bool a,.slice b c d] h R:=
 fn_ok Tryz.func141 (fun _=>false) .nil hv
def integer_Neg_vc (a:Bool) (b:OA) (c d:Nat) (h:Heap) (R:Value->Heap->Prop):Prop:=
 CallsU Tryz.prog 141 [.bool (!a),.slice b c d] h fun j k=>
 ∃ e f g i,j = .agg #[.bool e,.slice f g i]/\
 R (.agg #[.bool e,.slice f g i]) k
theorem integer_Neg_ok {a:Bool} {b:OA} {c d:Nat} {h:Heap} {R:Value->Heap->Prop} (hv:integer_Neg_vc a b c d h R):CallsU Tryz.prog 240 [.agg #[.bool a,.slice b c d]] h R:=
 fn_ok Tryz.func240 (fun _=>false) .nil hv
def integer_Small_vc (a:Bool) (b:OA) (c d:Nat) (h:Heap) (R:Value->Heap->Prop):Prop:=
 CallsU Tryz.prog 139 [.agg #[.bool a,.slice b c d]] h fun a0 a1=>
 ∃ e f g i,a0 = .agg #[.bool e,.slice f g i]/\
 Br (decide ((g:Int)>2))
 (R (.tuple #[.int .i64 0,.bool false]) a1)
 (∃ j:Nat->Int->Int->Heap->Prop,(∃ k,j k 0 0 a1)/\
 ∀ (k:Nat) (n:Int) (v:Int) (w:Heap),j k n v w->
 Br (decide (v<(g:Int)))
 (∃ l:Addr,f=some l/\0<=v/\v<(g:Int)/\
 ∃ m,LdN w (Addr.add l (Int.toNat v*1)) [.int .u32 m]/\
 ∀ q:Int,q=IntKind.i64.wrap (32*v)->
 Br (decide (q<0)) False
 (∀ r:Int,r=IntKind.u64.wrap ((IntKind.u64.wrap m)*2^(min (Int.toNat q) 64:Nat))->
 ∀ s:Int,s=bitsOf .or .u64 n r->
 ∀ t:Int,t=IntKind.i64.wrap (v+1)->
 ∃ o,o<k/\j o s t w))
 (∃ p:Bool->Heap->Prop,(∀ (y:Bool) (z:Heap),p y z->
 Br (y)
 (∀ u:Int,u=IntKind.u64.wrap (0-n)->
 R (.tuple #[.int .i64 (IntKind.i64.wrap u),.bool true]) z)
 (Br (!e)
 (Br (decide (n<9223372036854775808))
 (R (.tuple #[.int .i64 (IntKind.i64.wrap n),.bool true]) z)
 (R (.tuple #[.int .i64 0,.bool false]) z))
 (R (.tuple #[.int .i64 0,.bool false]) z)))/\
 Br (e)
 (p (decide (n<=9223372036854775808)) w)
 (p false w)))
theorem integer_Small_ok {a:Bool} {b:OA} {c d:Nat} {h:Heap} {R:Value->Heap->Prop} (hv:integer_Small_vc a b c d h R):CallsU Tryz.prog 283 [.agg #[.bool a,.slice b c d]] h R:=
 fn_ok Tryz.func283 (fun _=>false) (.two .nil (.two .nil (.two .nil (.two .nil (.two (.two .nil (.one (.loop ⟨[(4,Sh.int .u64),(16,Sh.int .i64)],[]⟩ .nil))) (.two (.one (.cut ⟨[(29,Sh.bool)],[]⟩ .nil .nil)) .nil)))))) hv
def ratio_Cmp_vc (a:Bool) (b:OA) (c d:Nat) (e:OA) (f g:Nat) (i:Bool) (j:OA) (k l:Nat) (m:OA) (n o:Nat) (h:Heap) (R:Value->Heap->Prop):Prop:=
 CallsU Tryz.prog 78 [.agg #[.bool a,.slice b c d,.slice e f g]] h fun c1 c2=>
 ∃ p q r s t u v,c1 = .agg #[.bool p,.slice q r s,.slice t u v]/\
 LeH h c2/\
 CallsU Tryz.prog 78 [.agg #[.bool i,.slice j k l,.slice m n o]] c2 fun c3 c4=>
 ∃ w y z a0 a1 a2 a3,c3 = .agg #[.bool w,.slice y z a0,.slice a1 a2 a3]/\
 CallsU Tryz.prog 81 [.slice a1 a2 a3] c4 fun c5 c6=>
 ∃ a4 a5 a6 a7,c5 = .agg #[.bool a4,.slice a5 a6 a7]/\
 LeH c4 c6/\
 CallsU Tryz.prog 80 [.agg #[.bool p,.slice q r s],.agg #[.bool a4,.slice a5 a6 a7]] c6 fun c7 c8=>
 ∃ a8 a9 b0 b1,c7 = .agg #[.bool a8,.slice a9 b0 b1]/\
 LeH c6 c8/\
 CallsU Tryz.prog 81 [.slice t u v] c8 fun c9 d0=>
 ∃ b2 b3 b4 b5,c9 = .agg #[.bool b2,.slice b3 b4 b5]/\
 LeH c8 d0/\
 CallsU Tryz.prog 80 [.agg #[.bool w,.slice y z a0],.agg #[.bool b2,.slice b3 b4 b5]] d0 fun d1 d2=>
 ∃ b6 b7 b8 b9,d1 = .agg #[.bool b6,.slice b7 b8 b9]/\
 CallsU Tryz.prog 79 [.agg #[.bool a8,.slice a9 b0 b1],.agg #[.bool b6,.slice b7 b8 b9]] d2 fun d3 d4=>
 ∃ c0,d3 = .int .i64 c0/\
 R (.int .i64 c0) d4
theorem ratio_Cmp_ok {a:Bool} {b:OA} {c d:Nat} {e:OA} {f g:Nat} {i:Bool} {j:OA} {k l:Nat} {m:OA} {n o:Nat} {h:Heap} {R:Value->Heap->Prop} (hv:ratio_Cmp_vc a b c d e f g i j k l m n o h R):CallsU Tryz.prog 39 [.agg #[.bool a,.slice b c d,.slice e f g],.agg #[.bool i,.slice j k l,.slice m n o]] h R:=
 fn_ok Tryz.func39 (fun _=>false) (.two .nil (.two (.ord [0,2,1,3,4,5]) (.two (.ord [0,1,2,3,6,7,8,9,4,5,10,11,12,13]) .nil))) hv
def ratio_Add_vc (a:Bool) (b:OA) (c d:Nat) (e:OA) (f g:Nat) (i:Bool) (j:OA) (k l:Nat) (m:OA) (n o:Nat) (h:Heap) (R:Value->Heap->Prop):Prop:=
 CallsU Tryz.prog 78 [.agg #[.bool a,.slice b c d,.slice e f g]] h fun d4 d5=>
 ∃ p q r s t u v,d4 = .agg #[.bool p,.slice q r s,.slice t u v]/\
 LeH h d5/\
 CallsU Tryz.prog 78 [.agg #[.bool i,.slice j k l,.slice m n o]] d5 fun d6 d7=>
 ∃ w y z a0 a1 a2 a3,d6 = .agg #[.bool w,.slice y z a0,.slice a1 a2 a3]/\
 CallsU Tryz.prog 81 [.slice a1 a2 a3] d7 fun d8 d9=>
 ∃ a4 a5 a6 a7,d8 = .agg #[.bool a4,.slice a5 a6 a7]/\
 LeH d7 d9/\
 CallsU Tryz.prog 80 [.agg #[.bool p,.slice q r s],.agg #[.bool a4,.slice a5 a6 a7]] d9 fun e0 e1=>
 ∃ a8 a9 b0 b1,e0 = .agg #[.bool a8,.slice a9 b0 b1]/\
 LeH d9 e1/\
 CallsU Tryz.prog 81 [.slice t u v] e1 fun e2 e3=>
 ∃ b2 b3 b4 b5,e2 = .agg #[.bool b2,.slice b3 b4 b5]/\
 LeH e1 e3/\
 CallsU Tryz.prog 80 [.agg #[.bool w,.slice y z a0],.agg #[.bool b2,.slice b3 b4 b5]] e3 fun e4 e5=>
 ∃ b6 b7 b8 b9,e4 = .agg #[.bool b6,.slice b7 b8 b9]/\
 CallsU Tryz.prog 82 [.agg #[.bool a8,.slice a9 b0 b1],.agg #[.bool b6,.slice b7 b8 b9]] e5 fun e6 e7=>
 ∃ c0 c1 c2 c3,e6 = .agg #[.bool c0,.slice c1 c2 c3]/\
 CallsU Tryz.prog 84 [.slice t u v,.slice a1 a2 a3] e7 fun e8 e9=>
 ∃ c4 c5 c6,e8 = .slice c4 c5 c6/\
 LeH e7 e9/\
 CallsU Tryz.prog 83 [.agg #[.bool c0,.slice c1 c2 c3],.slice c4 c5 c6] e9 fun f0 f1=>
 ∃ c7 c8 c9 d0 d1 d2 d3,f0 = .agg #[.bool c7,.slice c8 c9 d0,.slice d1 d2 d3]/\
 R (.agg #[.bool c7,.slice c8 c9 d0,.slice d1 d2 d3]) f1
theorem ratio_Add_ok {a:Bool} {b:OA} {c d:Nat} {e:OA} {f g:Nat} {i:Bool} {j:OA} {k l:Nat} {m:OA} {n o:Nat} {h:Heap} {R:Value->Heap->Prop} (hv:ratio_Add_vc a b c d e f g i j k l m n o h R):CallsU Tryz.prog 40 [.agg #[.bool a,.slice b c d,.slice e f g],.agg #[.bool i,.slice j k l,.slice m n o]] h R:=
 fn_ok Tryz.func40 (fun _=>false) (.two .nil (.two (.ord [0,2,1,3,4,5]) (.two (.ord [0,1,2,3,6,7,8,9,4,5,10,11,12,13,14]) (.two (.ord [0,1,2,3,4,5,6,7]) .nil)))) hv
def ratio_Of_vc (a:Int) (b:Int) (h:Heap) (R:Value->Heap->Prop):Prop:=
 Br ((b:Int)==0)
 (R (.tuple #[.agg #[.bool false,.slice none 0 0,.slice none 0 0],.bool false]) h)
 (CallsU Tryz.prog 85 [.int .i64 a] h fun s t=>
 ∃ c d e f,s = .agg #[.bool c,.slice d e f]/\
 CallsU Tryz.prog 85 [.int .i64 b] t fun u v=>
 ∃ g i j k,u = .agg #[.bool g,.slice i j k]/\
 CallsU Tryz.prog 83 [.agg #[.bool (!(c==g)),.slice d e f],.slice i j k] v fun w y=>
 ∃ l m n o p q r,w = .agg #[.bool l,.slice m n o,.slice p q r]/\
 R (.tuple #[.agg #[.bool l,.slice m n o,.slice p q r],.bool true]) y)
theorem ratio_Of_ok {a:Int} {b:Int} {h:Heap} {R:Value->Heap->Prop} (hv:ratio_Of_vc a b h R):CallsU Tryz.prog 41 [.int .i64 a,.int .i64 b] h R:=
 fn_ok Tryz.func41 (fun _=>false) .nil hv
def ratio_value_vc (a:Bool) (b:OA) (c d:Nat) (e:OA) (f g:Nat) (h:Heap) (R:Value->Heap->Prop):Prop:=
 CallsU Tryz.prog 137 [.slice e f g] h fun m n=>
 ∃ i,m = .bool i/\
 Br (i)
 (CallsU Tryz.prog 138 [.int .u64 1] n fun o p=>
 ∃ j k l,o = .slice j k l/\
 R (.agg #[.bool false,.slice none 0 0,.slice j k l]) p)
 (R (.agg #[.bool a,.slice b c d,.slice e f g]) n)
theorem ratio_value_ok {a:Bool} {b:OA} {c d:Nat} {e:OA} {f g:Nat} {h:Heap} {R:Value->Heap->Prop} (hv:ratio_value_vc a b c d e f g h R):CallsU Tryz.prog 78 [.agg #[.bool a,.slice b c d,.slice e f g]] h R:=
 fn_ok Tryz.func78 (fun _=>false) .nil hv
def ratio_positive_vc (a:OA) (b c:Nat) (h:Heap) (R:Value->Heap->Prop):Prop:=
 R (.agg #[.bool false,.slice a b c]) h
theorem ratio_positive_ok {a:OA} {b c:Nat} {h:Heap} {R:Value->Heap->Prop} (hv:ratio_positive_vc a b c h R):CallsU Tryz.prog 81 [.slice a b c] h R:=
 fn_ok Tryz.func81 (fun _=>false) .nil hv
def ratio_reduce_vc (a:Bool) (b:OA) (c d:Nat) (e:OA) (f g:Nat) (h:Heap) (R:Value->Heap->Prop):Prop:=
 CallsU Tryz.prog 144 [.slice b c d,.slice e f g] h fun a4 a5=>
 ∃ i j k,a4 = .slice i j k/\
 CallsU Tryz.prog 145 [.slice b c d,.slice i j k] a5 fun a6 a7=>
 ∃ l m n o p q r,a6 = .tuple #[.slice l m n,.slice o p q,.bool r]/\
 CallsU Tryz.prog 145 [.slice e f g,.slice i j k] a7 fun a8 a9=>
 ∃ s t u v w y z,a8 = .tuple #[.slice s t u,.slice v w y,.bool z]/\
 CallsU Tryz.prog 139 [.agg #[.bool a,.slice l m n]] a9 fun b0 b1=>
 ∃ a0 a1 a2 a3,b0 = .agg #[.bool a0,.slice a1 a2 a3]/\
 R (.agg #[.bool a0,.slice a1 a2 a3,.slice s t u]) b1
theorem ratio_reduce_ok {a:Bool} {b:OA} {c d:Nat} {e:OA} {f g:Nat} {h:Heap} {R:Value->Heap->Prop} (hv:ratio_reduce_vc a b c d e f g h R):CallsU Tryz.prog 83 [.agg #[.bool a,.slice b c d],.slice e f g] h R:=
 fn_ok Tryz.func83 (fun _=>false) .nil hv
def ratio_Div_vc (a:Bool) (b:OA) (c d:Nat) (e:OA) (f g:Nat) (i:Bool) (j:OA) (k l:Nat) (m:OA) (n o:Nat) (h:Heap) (R:Value->Heap->Prop):Prop:=
 CallsU Tryz.prog 78 [.agg #[.bool a,.slice b c d,.slice e f g]] h fun b8 b9=>
 ∃ p q r s t u v,b8 = .agg #[.bool p,.slice q r s,.slice t u v]/\
 LeH h b9/\
 CallsU Tryz.prog 78 [.agg #[.bool i,.slice j k l,.slice m n o]] b9 fun c0 c1=>
 ∃ w y z a0 a1 a2 a3,c0 = .agg #[.bool w,.slice y z a0,.slice a1 a2 a3]/\
 CallsU Tryz.prog 137 [.slice y z a0] c1 fun c2 c3=>
 ∃ a4,c2 = .bool a4/\
 Br (a4)
 (R (.tuple #[.agg #[.bool false,.slice none 0 0,.slice none 0 0],.bool false]) c3)
 (CallsU Tryz.prog 84 [.slice q r s,.slice a1 a2 a3] c3 fun c4 c5=>
 ∃ a5 a6 a7,c4 = .slice a5 a6 a7/\
 LeH c3 c5/\
 CallsU Tryz.prog 84 [.slice t u v,.slice y z a0] c5 fun c6 c7=>
 ∃ a8 a9 b0,c6 = .slice a8 a9 b0/\
 LeH c5 c7/\
 CallsU Tryz.prog 83 [.agg #[.bool (!(p==w)),.slice a5 a6 a7],.slice a8 a9 b0] c7 fun c8 c9=>
 ∃ b1 b2 b3 b4 b5 b6 b7,c8 = .agg #[.bool b1,.slice b2 b3 b4,.slice b5 b6 b7]/\
 R (.tuple #[.agg #[.bool b1,.slice b2 b3 b4,.slice b5 b6 b7],.bool true]) c9)
theorem ratio_Div_ok {a:Bool} {b:OA} {c d:Nat} {e:OA} {f g:Nat} {i:Bool} {j:OA} {k l:Nat} {m:OA} {n o:Nat} {h:Heap} {R:Value->Heap->Prop} (hv:ratio_Div_vc a b c d e f g i j k l m n o h R):CallsU Tryz.prog 129 [.agg #[.bool a,.slice b c d,.slice e f g],.agg #[.bool i,.slice j k l,.slice m n o]] h R:=
 fn_ok Tryz.func129 (fun _=>false) (.two .nil (.two (.ord [0,2,1,3,4,5]) (.two .nil (.two (.ord [0,1,2,3,4,5,6,7,8,9,10,11,12,13,14,15]) (.two (.ord [0,1,2,3,4,5,6,7,8,9]) .nil))))) hv
def ratio_zero_vc (a:OA) (b c:Nat) (h:Heap) (R:Value->Heap->Prop):Prop:=
 CallsU Tryz.prog 140 [.slice a b c,.slice none 0 0] h fun e f=>
 ∃ d,e = .int .i64 d/\
 R (.bool ((d:Int)==0)) f
theorem ratio_zero_ok {a:OA} {b c:Nat} {h:Heap} {R:Value->Heap->Prop} (hv:ratio_zero_vc a b c h R):CallsU Tryz.prog 137 [.slice a b c] h R:=
 fn_ok Tryz.func137 (fun _=>false) .nil hv
def ratio_Norm_vc (a:Bool) (b:OA) (c d:Nat) (e:OA) (f g:Nat) (h:Heap) (R:Value->Heap->Prop):Prop:=
 CallsU Tryz.prog 78 [.agg #[.bool a,.slice b c d,.slice e f g]] h fun w y=>
 ∃ i j k l m n o,w = .agg #[.bool i,.slice j k l,.slice m n o]/\
 CallsU Tryz.prog 83 [.agg #[.bool i,.slice j k l],.slice m n o] y fun z a0=>
 ∃ p q r s t u v,z = .agg #[.bool p,.slice q r s,.slice t u v]/\
 R (.agg #[.bool p,.slice q r s,.slice t u v]) a0
theorem ratio_Norm_ok {a:Bool} {b:OA} {c d:Nat} {e:OA} {f g:Nat} {h:Heap} {R:Value->Heap->Prop} (hv:ratio_Norm_vc a b c d e f g h R):CallsU Tryz.prog 196 [.agg #[.bool a,.slice b c d,.slice e f g]] h R:=
 fn_ok Tryz.func196 (fun _=>false) .nil hv
def ratio_Sub_vc (a:Bool) (b:OA) (c d:Nat) (e:OA) (f g:Nat) (i:Bool) (j:OA) (k l:Nat) (m:OA) (n o:Nat) (h:Heap) (R:Value->Heap->Prop):Prop:=
 CallsU Tryz.prog 200 [.agg #[.bool i,.slice j k l,.slice m n o]] h fun a4 a5=>
 ∃ p q r s t u v,a4 = .agg #[.bool p,.slice q r s,.slice t u v]/\
 LeH h a5/\
 CallsU Tryz.prog 40 [.agg #[.bool a,.slice b c d,.slice e f g],.agg #[.bool p,.slice q r s,.slice t u v]] a5 fun a6 a7=>
 ∃ w y z a0 a1 a2 a3,a6 = .agg #[.bool w,.slice y z a0,.slice a1 a2 a3]/\
 R (.agg #[.bool w,.slice y z a0,.slice a1 a2 a3]) a7
theorem ratio_Sub_ok {a:Bool} {b:OA} {c d:Nat} {e:OA} {f g:Nat} {i:Bool} {j:OA} {k l:Nat} {m:OA} {n o:Nat} {h:Heap} {R:Value->Heap->Prop} (hv:ratio_Sub_vc a b c d e f g i j k l m n o h R):CallsU Tryz.prog 198 [.agg #[.bool a,.slice b c d,.slice e f g],.agg #[.bool i,.slice j k l,.slice m n o]] h R:=
 fn_ok Tryz.func198 (fun _=>false) (.two .nil (.two (.ord [0,1,2,3,4]) .nil)) hv
def ratio_Mul_vc (a:Bool) (b:OA) (c d:Nat) (e:OA) (f g:Nat) (i:Bool) (j:OA) (k l:Nat) (m:OA) (n o:Nat) (h:Heap) (R:Value->Heap->Prop):Prop:=
 CallsU Tryz.prog 78 [.agg #[.bool a,.slice b c d,.slice e f g]] h fun b8 b9=>
 ∃ p q r s t u v,b8 = .agg #[.bool p,.slice q r s,.slice t u v]/\
 LeH h b9/\
 CallsU Tryz.prog 78 [.agg #[.bool i,.slice j k l,.slice m n o]] b9 fun c0 c1=>
 ∃ w y z a0 a1 a2 a3,c0 = .agg #[.bool w,.slice y z a0,.slice a1 a2 a3]/\
 CallsU Tryz.prog 80 [.agg #[.bool p,.slice q r s],.agg #[.bool w,.slice y z a0]] c1 fun c2 c3=>
 ∃ a4 a5 a6 a7,c2 = .agg #[.bool a4,.slice a5 a6 a7]/\
 LeH c1 c3/\
 CallsU Tryz.prog 84 [.slice t u v,.slice a1 a2 a3] c3 fun c4 c5=>
 ∃ a8 a9 b0,c4 = .slice a8 a9 b0/\
 CallsU Tryz.prog 83 [.agg #[.bool a4,.slice a5 a6 a7],.slice a8 a9 b0] c5 fun c6 c7=>
 ∃ b1 b2 b3 b4 b5 b6 b7,c6 = .agg #[.bool b1,.slice b2 b3 b4,.slice b5 b6 b7]/\
 R (.agg #[.bool b1,.slice b2 b3 b4,.slice b5 b6 b7]) c7
theorem ratio_Mul_ok {a:Bool} {b:OA} {c d:Nat} {e:OA} {f g:Nat} {i:Bool} {j:OA} {k l:Nat} {m:OA} {n o:Nat} {h:Heap} {R:Value->Heap->Prop} (hv:ratio_Mul_vc a b c d e f g i j k l m n o h R):CallsU Tryz.prog 199 [.agg #[.bool a,.slice b c d,.slice e f g],.agg #[.bool i,.slice j k l,.slice m n o]] h R:=
 fn_ok Tryz.func199 (fun _=>false) (.two .nil (.two (.ord [0,2,1,3,4,5]) (.two (.ord [0,1,2,3,5,6,7,8,4,9,10,11]) .nil))) hv
def ratio_Neg_vc (a:Bool) (b:OA) (c d:Nat) (e:OA) (f g:Nat) (h:Heap) (R:Value->Heap->Prop):Prop:=
 CallsU Tryz.prog 78 [.agg #[.bool a,.slice b c d,.slice e f g]] h fun a1 a2=>
 ∃ i j k l m n o,a1 = .agg #[.bool i,.slice j k l,.slice m n o]/\
 CallsU Tryz.prog 240 [.agg #[.bool i,.slice j k l]] a2 fun a3 a4=>
 ∃ p q r s,a3 = .agg #[.bool p,.slice q r s]/\
 LeH a2 a4/\
 CallsU Tryz.prog 83 [.agg #[.bool p,.slice q r s],.slice m n o] a4 fun a5 a6=>
 ∃ t u v w y z a0,a5 = .agg #[.bool t,.slice u v w,.slice y z a0]/\
 R (.agg #[.bool t,.slice u v w,.slice y z a0]) a6
theorem ratio_Neg_ok {a:Bool} {b:OA} {c d:Nat} {e:OA} {f g:Nat} {h:Heap} {R:Value->Heap->Prop} (hv:ratio_Neg_vc a b c d e f g h R):CallsU Tryz.prog 200 [.agg #[.bool a,.slice b c d,.slice e f g]] h R:=
 fn_ok Tryz.func200 (fun _=>false) (.two .nil (.two .nil (.two (.ord [0,1,3,4,2,5,6]) .nil))) hv
end Go.Proofs.YtfglcgbgaeegaaaGreatDoor

namespace Go.Proofs.YtfglcgbgaeegaaaGreatDoor
open Go Go.Vcg
attribute [local irreducible] Br
def Sz (v k:Nat):Prop:=v<B32^k
theorem Sz.mono {v k j:Nat} (h:Sz v k) (hk:k<=j):Sz v j:=Nat.lt_of_lt_of_le h (Nat.pow_le_pow_right (by decide) hk)
theorem Sz.le {v w k:Nat} (h:Sz v k) (hw:w<=v):Sz w k:=Nat.lt_of_le_of_lt hw h
theorem Sz.mul {v w k j:Nat} (h:Sz v k) (g:Sz w j):Sz (v*w) (k+j):=by
 unfold Sz at *
 rw [Nat.pow_add]
 exact Nat.mul_lt_mul'' h g
theorem Sz.add {v w k:Nat} (h:Sz v k) (g:Sz w k):Sz (v+w) (k+1):=by
 unfold Sz at *
 rw [Nat.pow_succ]
 generalize B32^k=M at *
 have:M*2<=M*B32:=Nat.mul_le_mul_left _ (by decide)
 omega
theorem IsN.sz {h:Heap} {A:Option Addr} {n c v:Nat} (u:IsN h A n c v):Sz v n:=IsN.lt u
theorem NmN.sz {h:Heap} {A:Option Addr} {n c v:Nat} (u:NmN h A n c v):Sz v n:=IsN.lt u.is
theorem NmN.le_of {h:Heap} {A:Option Addr} {n c v k:Nat} (u:NmN h A n c v) (hs:Sz v k):n<=k:=NmN.len_le u hs
theorem gcd_c {h:Heap} {A B:Option Addr} {n c m d x y:Nat} (ux:IsN h A n c x) (uy:IsN h B m d y) (hn:n<=1099511627776) (hm:m<=1099511627776) :
  CallsU Tryz.prog 144 [.slice A n c,.slice B m d] h fun r h' => ∃ A' k c', r = .slice A' k c' /\ NmN h' A' k c' (Nat.gcd x y)/\k<=max n m/\Le h h' := by
 apply natural_Gcd_ok
 refine (norm_c ux (by omega)).mono ?_
 rintro _ h1 ⟨A1,n1,c1,rfl,hn1,nx,hl1⟩
 refine ⟨_,_,_,rfl,(norm_c (uy.mono hl1) (by omega)).mono ?_⟩
 rintro _ h2 ⟨A2,n2,c2,rfl,hn2,ny,hl2⟩
 refine ⟨_,_,_,rfl,fun v aA an ac bA bn bc h' => ∃ u,NmN h' aA an ac u/\NmN h' bA bn bc v/\Nat.gcd u v=Nat.gcd x y/\an<=max n m/\bn<=max n m/\Le h h', ⟨y,x,nx.mono hl2,ny,rfl,by omega,by omega,hl1.trans hl2⟩, ?_⟩
 rintro v aA an ac bA bn bc h' ⟨u,nu,nv,hg,ha,hb,hl⟩
 have hz:=NmN.zero_iff nv
 refine Br.mk (fun q=> ?_) (fun q=> ?_)
 ·have hv:v≠0:=by simp at q;omega
  refine (divmod_c nu.is nv.is (by omega) (by omega) hv).mono ?_
  rintro _ h4 ⟨A3,n3,c3,A4,n4,c4,rfl,_,hN,hl'⟩
  have hlt:u%v<v:=Nat.mod_lt _ (by omega)
  refine ⟨_,_,_,_,_,_,_,rfl,u%v,hlt,v,nv.mono hl', hN, ?_,hb, ?_,hl.trans hl'⟩
  ·rw [<- hg,Nat.gcd_comm v,Nat.gcd_comm u,<- Nat.gcd_rec]
  ·have:=NmN.le_of hN (nv.sz.le (Nat.le_of_lt hlt));omega
 ·have hv:v=0:=by simp at q;omega
  subst hv
  rw [Nat.gcd_zero_right] at hg
  subst hg
  exact ⟨_,_,_,rfl,nu,ha,hl⟩
def IsI (h:Heap) (s:Bool) (A:Option Addr) (n c:Nat) (z:Int):Prop:= ∃ v:Nat,IsN h A n c v/\z=if s then -(v:Int) else v
def NmI (h:Heap) (s:Bool) (A:Option Addr) (n c:Nat) (z:Int):Prop:=NmN h A n c z.natAbs/\s=decide (z<0)
theorem NmI.is {h:Heap} {s:Bool} {A:Option Addr} {n c:Nat} {z:Int} (u:NmI h s A n c z):IsI h s A n c z:=by
 refine ⟨z.natAbs,u.1.is, ?_⟩
 rw [u.2]
 by_cases hz:z<0<;>simp [hz]<;>omega
theorem IsI.mono {h h' : Heap} {s:Bool} {A:Option Addr} {n c:Nat} {z:Int} (u:IsI h s A n c z) (l:Le h h'):IsI h' s A n c z:=let ⟨v,a,b⟩:=u;⟨v,a.mono l,b⟩
theorem NmI.mono {h h' : Heap} {s:Bool} {A:Option Addr} {n c:Nat} {z:Int} (u:NmI h s A n c z) (l:Le h h'):NmI h' s A n c z:=⟨u.1.mono l,u.2⟩
theorem IsI.natAbs {h:Heap} {s:Bool} {A:Option Addr} {n c:Nat} {z:Int} (u:IsI h s A n c z):IsN h A n c z.natAbs:=by
 obtain ⟨v,a,rfl⟩:=u
 cases s
 ·simpa using a
 ·simpa using a
theorem IsI.pos {h:Heap} {A:Option Addr} {n c v:Nat} (u:IsN h A n c v):IsI h false A n c v:=⟨v,u,by simp⟩
theorem signed_c {h:Heap} {s:Bool} {A:Option Addr} {n c:Nat} {z:Int} (u:IsI h s A n c z) (hn:n<=1099511627776) :
  CallsU Tryz.prog 141 [.bool s,.slice A n c] h fun r h' => ∃ s' A' k c', r = .agg #[.bool s', .slice A' k c']/\NmI h' s' A' k c' z/\k<=n/\Le h h' := by
 apply integer_signed_ok
 obtain ⟨v,uv,ez⟩:=u
 have ev:z.natAbs=v:=by subst ez;cases s<;>simp
 refine (norm_c uv (by omega)).mono ?_
 rintro _ h1 ⟨A', k,c', rfl,hk,hN,hl⟩
 have hz:=NmN.zero_iff hN
 rw [<- ev] at hN
 refine ⟨_,_,_,rfl,Br.mk (fun q=> ?_) (fun q=> ?_)⟩
 ·subst q
  refine ⟨_,_,_,_,rfl,⟨hN, ?_⟩,hk,hl⟩
  simp only [if_true] at ez
  apply decide_eq_decide.2
  omega
 ·subst q
  refine ⟨_,_,_,_,rfl,⟨hN, ?_⟩,hk,hl⟩
  simp only [Bool.false_eq_true,if_false] at ez
  symm
  apply decide_eq_false
  omega
theorem inorm_c {h:Heap} {s:Bool} {A:Option Addr} {n c:Nat} {z:Int} (u:IsI h s A n c z) (hn:n<=1099511627776) :
  CallsU Tryz.prog 139 [.agg #[.bool s,.slice A n c]] h fun r h' => ∃ s' A' k c', r = .agg #[.bool s', .slice A' k c']/\NmI h' s' A' k c' z/\k<=n/\Le h h' := by
 apply integer_Norm_ok
 refine (signed_c u hn).mono ?_
 rintro _ _ ⟨s', A', k,c', rfl,r⟩
 exact ⟨_,_,_,_,rfl,_,_,_,_,rfl,r⟩
theorem mul_sign (a b:Bool) (x y:Nat):(if a then -(x:Int) else x)*(if b then -(y:Int) else y)=if !(a==b) then -((x*y:Nat):Int) else ((x*y:Nat):Int):=by
 cases a<;>cases b<;>simp [Int.natCast_mul,Int.neg_mul,Int.mul_neg]
theorem imul_c {h:Heap} {s s2:Bool} {A B:Option Addr} {n c m d:Nat} {z w:Int} (u:IsI h s A n c z) (v:IsI h s2 B m d w) (hn:n<=549755813888) (hm:m<=549755813888) :
  CallsU Tryz.prog 80 [.agg #[.bool s,.slice A n c],.agg #[.bool s2,.slice B m d]] h fun r h' => ∃ s' A' k c', r = .agg #[.bool s', .slice A' k c']/\NmI h' s' A' k c' (z*w)/\k<=n+m/\Le h h' := by
 apply integer_Mul_ok
 obtain ⟨x,ux,rfl⟩:=u
 obtain ⟨y,uy,rfl⟩:=v
 refine (mul_c ux uy (by omega) (by omega)).mono ?_
 rintro _ h1 ⟨A', k,c', rfl,hN,hl⟩
 have hk:=NmN.le_of hN (ux.sz.mul uy.sz)
 refine ⟨_,_,_,rfl,hl,(signed_c ⟨_,hN.is,rfl⟩ (by omega)).mono ?_⟩
 rintro _ _ ⟨s', A', k,c', rfl,r,hk', hl'⟩
 exact ⟨_,_,_,_,rfl,_,_,_,_,rfl,by rw [mul_sign];exact r,by omega,hl.trans hl'⟩
theorem icmp_c {h:Heap} {s s2:Bool} {A B:Option Addr} {n c m d:Nat} {z w:Int} (u:IsI h s A n c z) (v:IsI h s2 B m d w) (hn:n<=1099511627776) (hm:m<=1099511627776) :
  CallsU Tryz.prog 79 [.agg #[.bool s,.slice A n c],.agg #[.bool s2,.slice B m d]] h fun r h' => r = .int .i64 (cmpI z w)/\Le h h' := by
 apply integer_Cmp_ok
 refine (inorm_c u hn).mono ?_
 rintro _ h1 ⟨s1,A1,k1,c1,rfl,n1,hk1,hl1⟩
 refine ⟨_,_,_,_,rfl,(by first | assumption | exact Le.refl _),(inorm_c (v.mono hl1) hm).mono ?_⟩
 rintro _ h2 ⟨s3,A2,k2,c2,rfl,n2,hk2,hl2⟩
 have n1' := n1.mono hl2
 have hl:=hl1.trans hl2
 have e1:=n1.2
 have e2:=n2.2
 refine ⟨_,_,_,_,rfl,fun b h' => b=(s1 && !s3)/\h2=h', ?_, ?_⟩
 ·rintro _ _ ⟨rfl,rfl⟩
  refine Br.mk (fun q=> ?_) (fun q=>⟨fun b h' => b=(!s1&&s3)/\h2=h', ?_, ?_⟩)
  ·rw [e1,e2] at q;simp at q
   refine ⟨?_,hl⟩
   unfold cmpI
   rw [if_pos (by omega)]
  ·rintro _ _ ⟨rfl,rfl⟩
   refine Br.mk (fun q2=> ?_) (fun q2=>Br.mk (fun q3=> ?_) (fun q3=> ?_))
   ·rw [e1,e2] at q2;simp at q2
    refine ⟨?_,hl⟩
    unfold cmpI
    rw [if_neg (by omega),if_pos (by omega)]
   ·refine (cmp_c n2.1.is n1'.1.is (by omega) (by omega)).mono ?_
    rintro _ _ ⟨rfl,rfl⟩
    refine ⟨_,rfl, ?_,hl⟩
    rw [e1] at q3;simp at q3
    rw [e1,e2] at q;simp [q3] at q
    have a1:(z.natAbs:Int) = -z:=by omega
    have a2:(w.natAbs:Int) = -w:=by omega
    rw [a1,a2]
    unfold cmpI
    split<;>split<;>(try split)<;>(try split)<;>first | rfl | omega
   ·refine (cmp_c n1'.1.is n2.1.is (by omega) (by omega)).mono ?_
    rintro _ _ ⟨rfl,rfl⟩
    refine ⟨_,rfl, ?_,hl⟩
    rw [e1] at q3;simp at q3
    rw [e1,e2] at q2;simp [q3] at q2
    have a1:(z.natAbs:Int)=z:=by omega
    have a2:(w.natAbs:Int)=w:=by omega
    rw [a1,a2]
  ·refine Br.mk (fun q2=>⟨?_,rfl⟩) (fun q2=>⟨?_,rfl⟩)
   ·simp at q2;simp [q2]
   ·simp at q2;simp [q2]
 ·refine Br.mk (fun q2=>⟨?_,rfl⟩) (fun q2=>⟨?_,rfl⟩)
  ·simp [q2]
  ·simp [q2]
theorem iof_c (z:Int) (h1 : -9223372036854775808<=z) (h2:z<9223372036854775808) (h:Heap) :
  CallsU Tryz.prog 85 [.int .i64 z] h fun r h' => ∃ s' A' k c', r = .agg #[.bool s', .slice A' k c']/\NmI h' s' A' k c' z/\k<=2/\Le h h' := by
 apply integer_Of_ok
 refine Br.mk (fun q=> ?_) (fun q=> ?_)
 ·have hz:z<0:=by simpa using q
  rintro _ rfl
  have e:IntKind.u64.wrap (0-IntKind.u64.wrap z)=((z.natAbs:Nat):Int):=by simp only [wrap_u64_mod];omega
  rw [e]
  refine (of_c z.natAbs (by omega) h).mono ?_
  rintro _ h1 ⟨A,m,c,rfl,hm,hN,hl⟩
  refine ⟨_,_,_,rfl,(signed_c (s:=true) (z:=z) ⟨_,hN.is,by simp;omega⟩ (by omega)).mono ?_⟩
  rintro _ _ ⟨s', A', k,c', rfl,r,hk', hl'⟩
  exact ⟨_,_,_,_,rfl,_,_,_,_,rfl,r,by omega,hl.trans hl'⟩
 ·have hz:0<=z:=by simpa using q
  rw [wu (n:=z.natAbs) (by omega) (by omega)]
  refine (of_c z.natAbs (by omega) h).mono ?_
  rintro _ h1 ⟨A,m,c,rfl,hm,hN,hl⟩
  refine ⟨_,_,_,rfl,(signed_c (s:=false) (z:=z) ⟨_,hN.is,by simp;omega⟩ (by omega)).mono ?_⟩
  rintro _ _ ⟨s', A', k,c', rfl,r,hk', hl'⟩
  exact ⟨_,_,_,_,rfl,_,_,_,_,rfl,r,by omega,hl.trans hl'⟩
def IsQ (h:Heap) (s:Bool) (A:Option Addr) (n c:Nat) (B:Option Addr) (m d:Nat) (q:Rat):Prop:= ∃ (z:Int) (v:Nat),IsI h s A n c z/\IsN h B m d v/\mkRat z v=q
def NmQ (h:Heap) (s:Bool) (A:Option Addr) (n c:Nat) (B:Option Addr) (m d:Nat) (q:Rat):Prop:=NmI h s A n c q.num/\NmN h B m d q.den
section
variable {h h' : Heap} {s:Bool} {A B:Option Addr} {n c m d:Nat} {q:Rat}
theorem NmQ.is (u:NmQ h s A n c B m d q):IsQ h s A n c B m d q:=⟨q.num,q.den,u.1.is,u.2.is,Rat.mkRat_self q⟩
theorem NmQ.mono (u:NmQ h s A n c B m d q) (l:Le h h'):NmQ h' s A n c B m d q:=⟨u.1.mono l,u.2.mono l⟩
theorem IsQ.mono (u:IsQ h s A n c B m d q) (l:Le h h'):IsQ h' s A n c B m d q:=let ⟨z,v,a,b,e⟩:=u;⟨z,v,a.mono l,b.mono l,e⟩
end
theorem rzero_c {h:Heap} {A:Option Addr} {n c v:Nat} (u:IsN h A n c v) (hn:n<=1099511627776) :
  CallsU Tryz.prog 137 [.slice A n c] h fun r h' => r = .bool (decide (v=0))/\h=h' := by
 apply ratio_zero_ok
 refine (cmp_c u (NmN.nil h none 0).is hn (by omega)).mono ?_
 rintro _ _ ⟨rfl,rfl⟩
 refine ⟨_,rfl, ?_,rfl⟩
 congr 1
 unfold cmpI
 rcases Nat.eq_zero_or_pos v with e | e
 ·subst e;rfl
 ·rw [if_neg (by omega),if_pos (by omega),decide_eq_false (by omega)];rfl
theorem rpos_c {h:Heap} {A:Option Addr} {n c v:Nat} (u:IsN h A n c v) :
  CallsU Tryz.prog 81 [.slice A n c] h fun r h' => r = .agg #[.bool false,.slice A n c]/\IsI h false A n c v/\h=h' := by
 apply ratio_positive_ok
 exact ⟨rfl,IsI.pos u,rfl⟩
def VlQ (h:Heap) (s:Bool) (A:Option Addr) (n c:Nat) (B:Option Addr) (m d:Nat) (q:Rat):Prop:= ∃ (z:Int) (v:Nat),v≠0/\IsI h s A n c z/\IsN h B m d v/\mkRat z v=q
theorem rvalue_c {h:Heap} {s:Bool} {A B:Option Addr} {n c m d:Nat} {q:Rat} (u:IsQ h s A n c B m d q) (hm:m<=1099511627776) :
  CallsU Tryz.prog 78 [.agg #[.bool s,.slice A n c,.slice B m d]] h fun r h' => ∃ s' A' n' c' B' m' d', r = .agg #[.bool s', .slice A' n' c', .slice B' m' d']/\VlQ h' s' A' n' c' B' m' d' q/\n' <= n/\m' <= max m 2/\Le h h' := by
 apply ratio_value_ok
 obtain ⟨z,v,uz,uv,e⟩:=u
 refine (rzero_c uv hm).mono ?_
 rintro _ _ ⟨rfl,rfl⟩
 refine ⟨_,rfl,Br.mk (fun q0=> ?_) (fun q0=> ?_)⟩
 ·have hv:v=0:=by simpa using q0
  subst hv
  refine (of_c 1 (by omega) h).mono ?_
  rintro _ h1 ⟨A', k,c', rfl,hk,hN,hl⟩
  refine ⟨_,_,_,rfl,_,_,_,_,_,_,_,rfl,⟨0,1,by omega,IsI.pos (NmN.nil _ none 0).is,hN.is, ?_⟩,by omega,by omega,hl⟩
  rw [<- e];simp
 ·have hv:v≠0:=by simpa using q0
  exact ⟨_,_,_,_,_,_,_,rfl,⟨z,v,hv,uz,uv,e⟩,by omega,by omega,Le.refl _⟩
theorem mkRat_num {z:Int} {v:Nat} (hv:v≠0):(mkRat z v).num.natAbs=z.natAbs/Nat.gcd z.natAbs v/\(mkRat z v).den=v/Nat.gcd z.natAbs v:=by
 rw [Rat.num_mkRat,Rat.den_mkRat,if_neg hv,if_neg hv,Nat.gcd_comm v]
 refine ⟨?_,rfl⟩
 have hd:((Nat.gcd z.natAbs v:Nat):Int)∣z:=Int.ofNat_dvd_left.2 (Nat.gcd_dvd_left _ _)
 rw [Int.natAbs_ediv_of_dvd hd]
 simp
theorem mkRat_sign {z:Int} {v:Nat} (hv:v≠0):((mkRat z v).num<0↔z<0):=by
 rw [Rat.num_mkRat,if_neg hv]
 have hg:0<v.gcd z.natAbs:=Nat.gcd_pos_of_pos_left _ (by omega)
 have hd:((v.gcd z.natAbs:Nat):Int)∣z:=Int.ofNat_dvd_left.2 (Nat.gcd_dvd_right _ _)
 obtain ⟨k,hk⟩:=hd
 generalize v.gcd z.natAbs=g at *
 subst hk
 rw [Int.mul_ediv_cancel_left _ (by omega)]
 constructor
 ·intro h;exact Int.mul_neg_of_pos_of_neg (by omega) h
 ·intro h
  rcases Int.lt_or_le k 0 with a | a
  ·exact a
  ·have:=Int.mul_nonneg (show 0<=(g:Int) by omega) a;omega
theorem reduce_c {h:Heap} {s:Bool} {A B:Option Addr} {n c m d:Nat} {z:Int} {v:Nat} (u:IsI h s A n c z) (w:IsN h B m d v) (hv:v≠0) (hn:n<=1099511627776) (hm:m<=1099511627776) :
  CallsU Tryz.prog 83 [.agg #[.bool s,.slice A n c],.slice B m d] h fun r h' => ∃ s' A' n' c' B' m' d', r = .agg #[.bool s', .slice A' n' c', .slice B' m' d']/\NmQ h' s' A' n' c' B' m' d' (mkRat z v)/\n' <= n/\m' <= m/\Le h h' := by
 apply ratio_reduce_ok
 have un:=u.natAbs
 obtain ⟨e1,e2⟩:=mkRat_num (z:=z) hv
 refine (gcd_c un w hn hm).mono ?_
 rintro _ h1 ⟨A1,k1,c1,rfl,hN1,hk1,hl1⟩
 have hg:Nat.gcd z.natAbs v≠0:=by have:=Nat.gcd_pos_of_pos_right z.natAbs (show 0<v by omega);omega
 refine ⟨_,_,_,rfl,(divmod_c (un.mono hl1) hN1.is hn (by omega) hg).mono ?_⟩
 rintro _ h2 ⟨A2,k2,c2,A3,k3,c3,rfl,hN2,_,hl2⟩
 refine ⟨_,_,_,_,_,_,_,rfl,(divmod_c (w.mono (hl1.trans hl2)) (hN1.mono hl2).is hm (by omega) hg).mono ?_⟩
 rintro _ h3 ⟨A4,k4,c4,A5,k5,c5,rfl,hN4,_,hl3⟩
 have hk2:=NmN.le_of hN2 (un.sz.le (Nat.div_le_self _ _))
 have hk4:=NmN.le_of hN4 (w.sz.le (Nat.div_le_self _ _))
 have hI:IsI h3 s A2 k2 c2 (mkRat z v).num:=by
  refine ⟨_,(hN2.mono hl3).is, ?_⟩
  rw [<- e1]
  have hs:=mkRat_sign (z:=z) hv
  obtain ⟨x,_,ez⟩:=u
  have:(mkRat z v).num=0↔z=0:=by rw [Rat.num_eq_zero];exact Rat.mkRat_eq_zero hv
  cases s<;>simp at ez ⊢ <;> omega
 refine ⟨_,_,_,_,_,_,_,rfl,(inorm_c hI (by omega)).mono ?_⟩
 rintro _ h4 ⟨s', A6,k6,c6,rfl,hN6,hk6,hl4⟩
 refine ⟨_,_,_,_,rfl,_,_,_,_,_,_,_,rfl,⟨hN6, ?_⟩,by omega,hk4,((hl1.trans hl2).trans hl3).trans hl4⟩
 rw [e2]
 exact hN4.mono hl4
theorem rnorm_c {h:Heap} {s:Bool} {A B:Option Addr} {n c m d:Nat} {q:Rat} (u:IsQ h s A n c B m d q) (hn:n<=1099511627776) (hm:m<=1099511627776) :
  CallsU Tryz.prog 196 [.agg #[.bool s,.slice A n c,.slice B m d]] h fun r h' => ∃ s' A' n' c' B' m' d', r = .agg #[.bool s', .slice A' n' c', .slice B' m' d']/\NmQ h' s' A' n' c' B' m' d' q/\n' <= n/\m' <= max m 2/\Le h h' := by
 apply ratio_Norm_ok
 refine (rvalue_c u hm).mono ?_
 rintro _ h1 ⟨s1,A1,n1,c1,B1,m1,d1,rfl,⟨z,v,hv,uz,uv,e⟩,hn1,hm1,hl1⟩
 refine ⟨_,_,_,_,_,_,_,rfl,(reduce_c uz uv hv (by omega) (by omega)).mono ?_⟩
 rintro _ h2 ⟨s2,A2,n2,c2,B2,m2,d2,rfl,hN,hn2,hm2,hl2⟩
 rw [e] at hN
 exact ⟨_,_,_,_,_,_,_,rfl,_,_,_,_,_,_,_,rfl,hN,by omega,by omega,hl1.trans hl2⟩
def cmpQ (x y:Rat):Int:=if x<y then -1 else if y<x then 1 else 0
theorem mkRat_lt {z w:Int} {v u:Nat} (hv:v≠0) (hu:u≠0):mkRat z v<mkRat w u↔z*u<w*v:=by
 rw [Rat.mkRat_eq_div,Rat.mkRat_eq_div]
 have h1:(0:Rat)<(v:Rat):=Rat.natCast_pos.2 (by omega)
 have h2:(0:Rat)<(u:Rat):=Rat.natCast_pos.2 (by omega)
 have h3:(u:Rat)≠0:=(Rat.ne_of_lt h2).symm
 rw [Rat.div_lt_iff h1]
 have e:(w:Rat)/(u:Rat)*(v:Rat)=((w:Rat)*(v:Rat))/(u:Rat):=by grind
 rw [e,Rat.lt_div_iff h2]
 rw [<- Rat.intCast_natCast,<- Rat.intCast_natCast,<- Rat.intCast_mul,<- Rat.intCast_mul,Rat.intCast_lt_intCast]
theorem cmpQ_mk {z w:Int} {v u:Nat} (hv:v≠0) (hu:u≠0):cmpI (z*u) (w*v)=cmpQ (mkRat z v) (mkRat w u):=by
 unfold cmpI cmpQ
 simp only [mkRat_lt hv hu,mkRat_lt hu hv]
theorem rcmp_c {h:Heap} {s s2:Bool} {A B C D:Option Addr} {n c m d n2 c2 m2 d2:Nat} {q p:Rat} (u:IsQ h s A n c B m d q) (w:IsQ h s2 C n2 c2 D m2 d2 p) (hn:n<=274877906944) (hm:m<=274877906944) (hn2:n2<=274877906944) (hm2:m2<=274877906944) :
  CallsU Tryz.prog 39 [.agg #[.bool s,.slice A n c,.slice B m d],.agg #[.bool s2,.slice C n2 c2,.slice D m2 d2]] h fun r h' => r = .int .i64 (cmpQ q p)/\Le h h' := by
 apply ratio_Cmp_ok
 refine (rvalue_c u (by omega)).mono ?_
 rintro _ h1 ⟨s1,A1,n1,c1,B1,m1,d1,rfl,⟨z,v,hv,uz,uv,rfl⟩,hn1,hm1,hl1⟩
 refine ⟨_,_,_,_,_,_,_,rfl,(by first | assumption | exact Le.refl _),(rvalue_c (w.mono hl1) (by omega)).mono ?_⟩
 rintro _ h2 ⟨s3,A3,n3,c3,B3,m3,d3,rfl,⟨y,t,ht,uy,ut,rfl⟩,hn3,hm3,hl2⟩
 refine ⟨_,_,_,_,_,_,_,rfl,(rpos_c ut).mono ?_⟩
 rintro _ _ ⟨rfl,pt,rfl⟩
 refine ⟨_,_,_,_,rfl,(by first | assumption | exact Le.refl _),(imul_c (uz.mono hl2) pt (by omega) (by omega)).mono ?_⟩
 rintro _ h3 ⟨s4,A4,k4,c4,rfl,hN4,hk4,hl4⟩
 refine ⟨_,_,_,_,rfl,(by first | assumption | exact Le.refl _),(rpos_c ((uv.mono hl2).mono hl4)).mono ?_⟩
 rintro _ _ ⟨rfl,pv,rfl⟩
 refine ⟨_,_,_,_,rfl,(by first | assumption | exact Le.refl _),(imul_c (uy.mono hl4) pv (by omega) (by omega)).mono ?_⟩
 rintro _ h5 ⟨s6,A6,k6,c6,rfl,hN6,hk6,hl6⟩
 refine ⟨_,_,_,_,rfl,(icmp_c (hN4.mono hl6).is hN6.is (by omega) (by omega)).mono ?_⟩
 rintro _ h7 ⟨rfl,hl7⟩
 exact ⟨_,rfl,by rw [cmpQ_mk hv ht],(((hl1.trans hl2).trans hl4).trans hl6).trans hl7⟩
theorem rof_c (z w:Int) (hz1 : -9223372036854775808<=z) (hz2:z<9223372036854775808) (hw1 : -9223372036854775808<=w) (hw2:w<9223372036854775808) (hw:w≠0) (h:Heap) :
  CallsU Tryz.prog 41 [.int .i64 z,.int .i64 w] h fun r h' => ∃ s' A' n' c' B' m' d', r = .tuple #[.agg #[.bool s', .slice A' n' c', .slice B' m' d'],.bool true]/\NmQ h' s' A' n' c' B' m' d' ((z:Rat)/(w:Rat))/\n' <= 2/\m' <= 2/\Le h h' := by
 apply ratio_Of_ok
 refine Br.mk (fun q=>by simp at q;omega) (fun _=> ?_)
 refine (iof_c z hz1 hz2 h).mono ?_
 rintro _ h1 ⟨s1,A1,k1,c1,rfl,n1,hk1,hl1⟩
 refine ⟨_,_,_,_,rfl,(iof_c w hw1 hw2 h1).mono ?_⟩
 rintro _ h2 ⟨s2,A2,k2,c2,rfl,n2,hk2,hl2⟩
 have e1:=n1.2
 have e2:=n2.2
 have hI:IsI h2 (!(s1==s2)) A1 k1 c1 (if w<0 then -z else z):=by
  refine ⟨_,(n1.mono hl2).1.is, ?_⟩
  rw [e1,e2]
  by_cases a:z<0<;>by_cases b:w<0<;>simp [a,b]<;>omega
 refine ⟨_,_,_,_,rfl,(reduce_c hI n2.1.is (by omega) (by omega) (by omega)).mono ?_⟩
 rintro _ h3 ⟨s3,A3,n3,c3,B3,m3,d3,rfl,hN,hn3,hm3,hl3⟩
 have e:mkRat (if w<0 then -z else z) w.natAbs=(z:Rat)/(w:Rat):=by
  rw [Rat.mkRat_eq_div]
  by_cases b:w<0
  ·simp only [b,if_true]
   have:((w.natAbs:Nat):Rat) = -(w:Rat):=by rw [<- Rat.intCast_natCast,<- Rat.intCast_neg];congr 1;omega
   rw [this,Rat.intCast_neg]
   grind
  ·simp only [b,if_false]
   have:((w.natAbs:Nat):Rat)=(w:Rat):=by rw [<- Rat.intCast_natCast];congr 1;omega
   rw [this]
 rw [e] at hN
 exact ⟨_,_,_,_,_,_,_,rfl,_,_,_,_,_,_,_,rfl,hN,by omega,by omega,(hl1.trans hl2).trans hl3⟩
end Go.Proofs.YtfglcgbgaeegaaaGreatDoor

namespace Go.Proofs.YtfglcgbgaeegaaaGreatDoor
open Go Go.Vcg
end Go.Proofs.YtfglcgbgaeegaaaGreatDoor

namespace Go.Proofs.YtfglcgbgaeegaaaGreatDoor
open Go Go.Vcg
attribute [local irreducible] Br
def chs:Nat->Nat->Nat
 | _,0=>1
 | 0,_+1=>0
 | n+1,k+1=>chs n k+chs n (k+1)
abbrev sv (x:List UInt8):Value:= .string ⟨x.toArray⟩
structure Sl {α:Type} (enc:α->Value) (h:Heap) (A:Option Addr) (n c:Nat) (xs:List α):Prop where
 len:xs.length=n
 cap:n<=c
 mem:0<n-> ∃ ad b,A=some ad/\ad.spot=none/\h ad.block=some b/\(b.cells.drop ad.off).take n=xs.map enc
section
variable {α:Type} {enc:α->Value} {h h' : Heap} {A:Option Addr} {n c:Nat} {xs:List α}
theorem Sl.mono (u:Sl enc h A n c xs) (l:Le h h'):Sl enc h' A n c xs:=
 ⟨u.len,u.cap,fun hn=>let ⟨ad,b,e,sp,hb,hc⟩:=u.mem hn;⟨ad,b,e,sp,l _ _ hb,hc⟩⟩
theorem Sl.nil (h:Heap) (A:Option Addr) (c:Nat):Sl enc h A 0 c []:=⟨rfl,Nat.zero_le _,fun e=>absurd e (Nat.lt_irrefl 0)⟩
theorem Sl.get (u:Sl enc h A n c xs) {i:Nat} {x:α} (hx:xs[i]?=some x) : ∃ ad,A=some ad/\LdN h (ad.add (i*1)) [enc x]:=by
 have hi:i<n:=by rw [<- u.len];exact (List.getElem?_eq_some_iff.1 hx).1
 obtain ⟨ad,b,e,sp,hb,hc⟩:=u.mem (by omega)
 refine ⟨ad,e, ?_⟩
 rw [Nat.mul_one]
 refine ld_of sp hb ?_
 have h1:((b.cells.drop ad.off).take n)[i]?=(xs.map enc)[i]?:=by rw [hc]
 rw [List.getElem?_take_of_lt hi,List.getElem?_drop] at h1
 rw [h1,List.getElem?_map,hx]
 rfl
theorem Sl.rds (u:Sl enc h A n c xs):RdS h A (n*1) (xs.map enc):=by
 refine ⟨by simp [u.len],fun hn=> ?_⟩
 obtain ⟨ad,b,e,sp,hb,hc⟩:=u.mem (by omega)
 exact ⟨ad,e,sp,b,hb,by rw [List.length_map,u.len];exact hc⟩
theorem Sl.of_blk {g ty:Nat} {fz:Nat×Nat} {ys:List α} {m k:Nat} (hb:h g=some ⟨ys.map enc,ty,fz⟩) (hm:m<=ys.length) (hk:m<=k):Sl enc h (some ⟨g,0,none⟩) m k (ys.take m) where
 len:=by rw [List.length_take];omega
 cap:=hk
 mem _:=⟨_,_,rfl,rfl,hb,by simp [List.map_take]⟩
end
theorem repV_map {α:Type} (enc:α->Value) (z:α) (n:Nat):repV [enc z] n=(List.replicate n z).map enc:=by
 induction n with
 | zero=>rfl
 | succ n ih=>simp only [repV,ih,List.replicate_succ];rfl
def OwnE {α:Type} (enc:α->Value) (ty:Nat) (h h' : Heap) (A:Option Addr) (n c:Nat) (gs:List α):Prop:=
 n=gs.length/\((A=none/\n=0/\c=0)\/ ∃ g zs,A=some ⟨g,0,none⟩/\h g=none/\h' g=some ⟨(gs++zs).map enc,ty,(0,0)⟩/\c=(gs++zs).length)
section
variable {α:Type} {enc:α->Value} {ty:Nat} {h h' h'' : Heap} {A:Option Addr} {n c:Nat} {gs:List α}
theorem OwnE.nil (h:Heap):OwnE enc ty h h none 0 0 []:=⟨rfl,Or.inl ⟨rfl,rfl,rfl⟩⟩
theorem OwnE.start:OwnE enc ty h h' none 0 0 []:=⟨rfl,Or.inl ⟨rfl,rfl,rfl⟩⟩
theorem OwnE.le (o:OwnE enc ty h h' A n c gs) (l:Le h' h''):OwnE enc ty h h'' A n c gs:=by
 obtain ⟨a,b⟩:=o
 refine ⟨a,b.imp id ?_⟩
 rintro ⟨g,zs,e,h0,hb,hc⟩
 exact ⟨g,zs,e,h0,l _ _ hb,hc⟩
theorem OwnE.sl (o:OwnE enc ty h h' A n c gs):Sl enc h' A n c gs:=by
 obtain ⟨a,b⟩:=o
 rcases b with ⟨e1,e2,e3⟩ | ⟨g,zs,e,h0,hb,hc⟩
 ·have:gs=[]:=List.length_eq_zero_iff.1 (by omega)
  subst this e1 e2 e3
  exact Sl.nil _ _ _
 ·subst e a
  have:=Sl.of_blk (m:=gs.length) (k:=c) hb (by simp) (by rw [hc];simp)
  rwa [List.take_left] at this
theorem OwnE.app {h4:Heap} {x z:α} {bs:Nat} {v zv:Value} {K:Option Addr->Nat->Heap->Prop} (o:OwnE enc ty h h4 A n c gs) (hl:Le h h4) (h1 : ∀ y:α,Go.Vcg.one (enc y)=true) (hv:v=enc x) (hz:zv=enc z) {g0:Nat} (hg0:h4 g0=none) (hn:(n+1)*bs<=140737488355328)
  (hK : ∀ A' c' h', OwnE enc ty h h' A' (n+1) c' (gs++[x])->Le h h' -> (∀ k,k≠g0->h4 k≠none->(∀ ad,A=some ad->k≠ad.block)->h' k=h4 k)->K A' c' h') :
  ∃ xs:List Value,RdS (h4.put g0 ⟨[v],ty,(0,0)⟩) (some ⟨g0,0,none⟩) (1*1) xs/\(∀ y∈xs,Go.Vcg.one y=true)/\
   (n+1<=c-> ∃ (ad:Addr) (b:Blk),A=some ad/\ad.spot=none/\(h4.put g0 ⟨[v],ty,(0,0)⟩) ad.block=some b/\b.fz=(0,0)/\ad.off+n*1+1*1<=b.cells.length/\
    ∀ h' : Heap,h' = Heap.put (h4.put g0 ⟨[v],ty,(0,0)⟩) ad.block { b with cells:=setSeg b.cells (ad.off+n*1) xs }->K A c h')/\
   (c<n+1-> ∃ olds:List Value,RdS (h4.put g0 ⟨[v],ty,(0,0)⟩) A (n*1) olds/\(n+1)*bs<=140737488355328/\
    ∀ (g1 cap:Nat) (h' : Heap),(h4.put g0 ⟨[v],ty,(0,0)⟩) g1=none->n+1<=cap->h' = Heap.put (h4.put g0 ⟨[v],ty,(0,0)⟩) g1 ⟨olds++xs++repV [zv] (cap-(n+1)),ty,(0,0)⟩->K (some ⟨g1,0,none⟩) cap h'):=by
 subst hv hz
 obtain ⟨en,o⟩:=o
 have hg0h:h g0=none:=hl.free hg0
 refine ⟨[enc x],⟨rfl,fun _=>⟨_,rfl,rfl,_,Heap.put_same _ _ _,rfl⟩⟩,fun y hy=>by simp at hy;subst hy;exact h1 x,fun hc=> ?_,fun hc=> ?_⟩
 ·rcases o with ⟨_,_,e⟩ | ⟨g,zs,rfl,h0,hb,rfl⟩
  ·omega
  ·have hne:g≠g0:=fun e=>by rw [e,hg0] at hb;cases hb
   have hzl:0<zs.length:=by simp at hc;omega
   obtain ⟨z', zs', rfl⟩ : ∃ z zs', zs=z::zs' := by
    cases zs with
    | nil=>simp at hzl
    | cons z r=>exact ⟨z,r,rfl⟩
   refine ⟨_,_,rfl,rfl,(Heap.put_ne _ _ hne).trans hb,rfl,by simp;omega, ?_⟩
   rintro h' rfl
   have e:setSeg ((gs++z' :: zs').map enc) (0+n*1) [enc x]=((gs++[x])++zs').map enc:=by
    unfold setSeg
    subst en
    simp [List.drop_append]
   refine hK _ _ _ ⟨by simp [en],Or.inr ⟨g,zs', rfl,h0, ?_,by simp⟩⟩ ((hl.put hg0h _).put h0 _) (fun k k0 _ kA=> ?_)
   ·rw [Heap.put_same];simp only [e]
   ·rw [Heap.put_ne _ _ (kA _ rfl),Heap.put_ne _ _ k0]
 ·refine ⟨gs.map enc, ?_,hn, ?_⟩
  ·refine ⟨by simp [en],fun h0=> ?_⟩
   rcases o with ⟨_,e,_⟩ | ⟨g,zs,rfl,h0,hb,_⟩
   ·omega
   ·have hne:g≠g0:=fun e=>by rw [e,hg0] at hb;cases hb
    exact ⟨_,rfl,rfl,_,(Heap.put_ne _ _ hne).trans hb,by simp⟩
  ·rintro g1 cap h' hg1 hcap rfl
   have hne:g1≠g0:=fun e=>by rw [e,Heap.put_same] at hg1;cases hg1
   have hg1' : h4 g1=none:=by rw [Heap.put_ne _ _ hne] at hg1;exact hg1
   refine hK _ _ _ ⟨by simp [en],Or.inr ⟨g1,List.replicate (cap-(n+1)) z,rfl,hl.free hg1', ?_,by simp [en];omega⟩⟩ ((hl.put hg0h _).put (hl.free hg1') _) (fun k k0 kn _=> ?_)
   ·rw [Heap.put_same,repV_map];simp
   ·rw [Heap.put_ne _ _ (fun e=>kn (by rw [e];exact hg1')),Heap.put_ne _ _ k0]
end
end Go.Proofs.YtfglcgbgaeegaaaGreatDoor

namespace Go.Proofs.YtfglcgbgaeegaaaGreatDoor
open Go Go.Vcg
def natural_Text_vc (a:OA) (b c:Nat) (h:Heap) (R:Value->Heap->Prop):Prop:=
 CallsU Tryz.prog 132 [.slice a b c] h fun c0 c1=>
 ∃ d e f,c0 = .slice d e f/\
 Br ((e:Int)==0)
 (R (.string (⟨#[48]⟩:ByteArray)) c1)
 (∃ g:Nat->OA->Nat->Nat->OA->Nat->Nat->Heap->Prop,(∃ i,g i d e f none 0 0 c1)/\
 ∀ (i:Nat) (z:OA) (a0 a1:Nat) (a2:OA) (a3 a4:Nat) (a5:Heap),g i z a0 a1 a2 a3 a4 a5->
 Br (decide ((a0:Int)>0))
 (CallsU Tryz.prog 133 [.slice z a0 a1,.int .u32 1000000000] a5 fun c2 c3=>
 ∃ j k l m,c2 = .tuple #[.slice j k l,.int .u32 m]/\
 CallsU Tryz.prog 134 [.int .u64 (IntKind.u64.wrap m),.int .i64 10] c3 fun c4 c5=>
 ∃ n,c4 = .string n/\
 Br (decide ((k:Int)>0))
 (∀ v:Int,v=IntKind.i64.wrap (9-(n.size:Int))->
 CallsU Tryz.prog 135 [.string (⟨#[48]⟩:ByteArray),.int .i64 v] c5 fun c6 c7=>
 ∃ o,c6 = .string o/\
 ((o.size+n.size:Nat):Int)<=9223372036854775807/\
 ∀ (a6:Nat) (a7:Heap),c7 a6=none->a7=Heap.put c7 a6 ⟨[.string (o++n)],9,(0,0)⟩->
 ∃ p:List Value,RdS a7 (some ⟨a6,0,none⟩) (1*1) p/\(∀ x∈p,Go.Vcg.one x=true)/\
 (a3+1<=a4-> ∃ (a8:Addr) (a9:Blk),a2=some a8/\a8.spot=none/\a7 a8.block=some a9/\a9.fz=(0,0)/\a8.off+a3*1+1*1<=a9.cells.length/\
 ∀ w:Heap,w=Heap.put a7 a8.block { a9 with cells:=setSeg a9.cells (a8.off+a3*1) p }->
 ∃ q,q<i/\g q j k l a2 (a3+1) a4 w)/\
 (a4<a3+1-> ∃ r:List Value,RdS a7 a2 (a3*1) r/\(a3+1)*16<=140737488355328/\
 ∀ (b0 b1:Nat) (b2:Heap),a7 b0=none->a3+1<=b1->b2=Heap.put a7 b0 ⟨r++p++repV [.string ByteArray.empty] (b1-(a3+1)),9,(0,0)⟩->
 ∃ q,q<i/\g q j k l (some ⟨b0,0,none⟩) (a3+1) b1 b2))
 (∀ (b3:Nat) (b4:Heap),c5 b3=none->b4=Heap.put c5 b3 ⟨[.string n],9,(0,0)⟩->
 ∃ s:List Value,RdS b4 (some ⟨b3,0,none⟩) (1*1) s/\(∀ x∈s,Go.Vcg.one x=true)/\
 (a3+1<=a4-> ∃ (b5:Addr) (b6:Blk),a2=some b5/\b5.spot=none/\b4 b5.block=some b6/\b6.fz=(0,0)/\b5.off+a3*1+1*1<=b6.cells.length/\
 ∀ y:Heap,y=Heap.put b4 b5.block { b6 with cells:=setSeg b6.cells (b5.off+a3*1) s }->
 ∃ q,q<i/\g q j k l a2 (a3+1) a4 y)/\
 (a4<a3+1-> ∃ t:List Value,RdS b4 a2 (a3*1) t/\(a3+1)*16<=140737488355328/\
 ∀ (b7 b8:Nat) (b9:Heap),b4 b7=none->a3+1<=b8->b9=Heap.put b4 b7 ⟨t++s++repV [.string ByteArray.empty] (b8-(a3+1)),9,(0,0)⟩->
 ∃ q,q<i/\g q j k l (some ⟨b7,0,none⟩) (a3+1) b8 b9)))
 (CallsU Tryz.prog 136 [.slice a2 a3 a4] a5 fun c8 c9=>
 c8 = .tuple #[]/\
 CallsU Tryz.prog 103 [.slice a2 a3 a4,.string (⟨#[]⟩:ByteArray)] c9 fun d0 d1=>
 ∃ u,d0 = .string u/\
 R (.string u) d1))
theorem natural_Text_ok {a:OA} {b c:Nat} {h:Heap} {R:Value->Heap->Prop} (hv:natural_Text_vc a b c h R):CallsU Tryz.prog 77 [.slice a b c] h R:=
 fn_ok Tryz.func77 (fun _=>false) (.two .nil (.two .nil (.two .nil (.two .nil (.two (.one (.loop ⟨[(0,Sh.slice),(3,Sh.slice)],[]⟩ .nil)) .nil))))) hv
def strconv_FormatUint_vc (a:Int) (b:Int) (h:Heap) (R:Value->Heap->Prop):Prop:=
 CallsU Tryz.prog 202 [.int .u64 a,.int .i64 b] h fun d e=>
 ∃ c,d = .string c/\
 R (.string c) e
theorem strconv_FormatUint_ok {a:Int} {b:Int} {h:Heap} {R:Value->Heap->Prop} (hv:strconv_FormatUint_vc a b h R):CallsU Tryz.prog 134 [.int .u64 a,.int .i64 b] h R:=
 fn_ok Tryz.func134 (fun _=>false) .nil hv
end Go.Proofs.YtfglcgbgaeegaaaGreatDoor
