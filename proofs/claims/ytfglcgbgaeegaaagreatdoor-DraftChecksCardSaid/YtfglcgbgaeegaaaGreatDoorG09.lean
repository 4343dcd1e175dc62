/-
 Gathered texts of this proof: Fo9,Fo4,Pn1,Pl1,Pl2,VcM,Cn13,Cn14,VcL,Cn15.
-/
import Derived.Test.YtfglcgbgaeegaaaGreatDoorG08
import Derived.Lib.SlicesCompact
import Derived.Test.YtfglcgbgaeegaaaGreatDoorG04
import Derived.Test.YtfglcgbgaeegaaaGreatDoorG03
import Derived.Test.YtfglcgbgaeegaaaGreatDoorChecked
import Derived.Test.YtfglcgbgaeegaaaGreatDoorG06
import Derived.Laws.Strings
set_option maxRecDepth 100000

namespace Go.Proofs.YtfglcgbgaeegaaaGreatDoor
open Go Go.Vcg Go.RowKit Go.Sort
attribute [local irreducible] Br
abbrev zE:List Value:=[.int .i64 0,.bool false,.slice none 0 0,.slice none 0 0,.string ByteArray.empty,.slice none 0 0]
theorem IsQ.nul (h:Heap):IsQ h false none 0 0 none 0 0 0:=⟨0,0,IsI.pos (NmN.nil h none 0).is,(NmN.nil h none 0).is,by simp⟩
def PaR (o:Except Int (Ex×List UInt8)) (g:Nat) (l:List UInt8) (h:Heap) (r:Value) (h' : Heap):Prop:=
 Le (hole h g) (hole h' g)/\match o with
  | .error e=>e≠0/\r = .tuple #[.agg zE.toArray,.int .i64 e]
  | .ok (x,rest)=> ∃ vs:List Value,r = .tuple #[.agg vs.toArray,.int .i64 0]/\IsE (hole h' g) x vs/\Szs x/\Ps h' g l rest
theorem IsE_op {h:Heap} {k:Int} {es:List Ex} {gk c ty:Nat} {cs:List Value} (hb:h gk=some ⟨cs,ty,(0,0)⟩) (hc:es.length<=c) (hl:6*es.length<=cs.length) (hs:IsEs h es cs) :
  IsE h (.mk k 0 0 0 [] es) [.int .i64 k,.bool false,.slice none 0 0,.slice none 0 0,.string ByteArray.empty,.slice (some ⟨gk,0,none⟩) es.length c]:=by
 unfold IsE
 exact ⟨false,none,0,none,0,some ⟨gk,0,none⟩,c,rfl,IsQ.nul h,hc,fun _=>⟨⟨gk,0,none⟩,_,rfl,rfl,hb,by simpa using hl,by simpa using hs⟩⟩
theorem IsEs.snoc {h:Heap} : ∀ {es:List Ex} {cs:List Value} {x:Ex} {vs rest:List Value},IsEs h es cs->6*es.length<=cs.length->IsE h x vs->IsEs h (es++[x]) (cs.take (6*es.length)++vs++rest)
 | [],cs,x,vs,rest,_,_,ux=>by
  have hv:=ux.len
  unfold IsEs
  refine ⟨?_,by unfold IsEs;trivial⟩
  simp only [List.length_nil,Nat.mul_zero,List.take_zero,List.nil_append]
  rw [List.take_append_of_le_length (by omega),List.take_of_length_le (by omega)]
  exact ux
 | e::es,cs,x,vs,rest,u,hl,ux=>by
  unfold IsEs at u
  rw [List.length_cons] at hl
  rw [List.cons_append]
  unfold IsEs
  rw [List.length_cons,show 6*(es.length+1)=6+6*es.length by omega]
  have e1:cs.take (6+6*es.length)=cs.take 6++(cs.drop 6).take (6*es.length):=List.take_add
  have h6:(cs.take 6).length=6:=by rw [List.length_take];omega
  rw [e1]
  refine ⟨?_, ?_⟩
  ·rw [List.append_assoc,List.append_assoc,List.take_append_of_le_length (by omega),List.take_take,Nat.min_self]
   exact u.1
  ·rw [List.append_assoc,List.append_assoc,List.drop_append_of_le_length (by omega),List.drop_of_length_le (l:=cs.take 6) (by omega),List.nil_append,<- List.append_assoc]
   exact IsEs.snoc u.2 (by rw [List.length_drop];omega) ux
theorem SzsL.snoc : ∀ {es:List Ex} {x:Ex},SzsL es->Szs x->SzsL (es++[x])
 | [],x,_,z=>by unfold SzsL;exact ⟨z,by unfold SzsL;trivial⟩
 | e::es,x,u,z=>by
  unfold SzsL at u
  rw [List.cons_append]
  unfold SzsL
  exact ⟨u.1,SzsL.snoc u.2 z⟩
theorem IsE_two {h:Heap} {k:Int} {x y:Ex} {vs ws:List Value} {gk ty:Nat} (hg:h gk=none) (ux:IsE h x vs) (uy:IsE h y ws) :
  IsE (h.put gk ⟨vs++ws,ty,(0,0)⟩) (op2 k x y) [.int .i64 k,.bool false,.slice none 0 0,.slice none 0 0,.string ByteArray.empty,.slice (some ⟨gk,0,none⟩) 2 2]:=by
 have l:=Le.new hg ⟨vs++ws,ty,(0,0)⟩
 have h1:=ux.len
 have h2:=uy.len
 refine IsE_op (es:=[x,y]) (cs:=vs++ws) (Heap.put_same _ _ _) (by simp) (by simp;omega) ?_
 unfold IsEs
 refine ⟨by rw [List.take_append_of_le_length (by omega),List.take_of_length_le (by omega)];exact IsE.mono l _ _ ux, ?_⟩
 unfold IsEs
 refine ⟨?_,by unfold IsEs;trivial⟩
 rw [List.drop_append_of_le_length (by omega),List.drop_of_length_le (by omega),List.nil_append,List.take_of_length_le (by omega)]
 exact IsE.mono l _ _ uy
theorem Szs_two {k:Int} {x y:Ex} (zx:Szs x) (zy:Szs y):Szs (op2 k x y):=by
 unfold op2 Szs SzsL SzsL SzsL
 exact ⟨by omega,by omega,by simp,by simp,zx,zy,trivial⟩
def MOk (f:FuncId) (args:Nat->List Value) (o:List UInt8->Except Int (Ex×List UInt8)):Prop:=
 ∀ {h:Heap} {g:Nat} {l r:List UInt8},Ps h g l r->l.length<=400->o r ≠ .error 99->CallsU Tryz.prog f (args g) h (PaR (o r) g l h)
abbrev ptr (g:Nat):List Value:=[.pointer (some ⟨g,0,none⟩)]
theorem skip_skip (r:List UInt8):skipS (skipS r)=skipS r:=by
 unfold skipS
 induction r with
 | nil=>rfl
 | cons x r ih=>
  rw [List.dropWhile_cons]
  split
  ·exact ih
  ·rename_i hx
   rw [List.dropWhile_cons,if_neg hx]
theorem foProd_step {n:Nat} (ih : ∀ k,k<=n->MOk 256 ptr (pFac k)):MOk 222 ptr (pProd (n+1)):=by
 intro h g l r u hl hne
 rw [pProd] at hne ⊢
 apply garment_formula_parser_product_ok
 have hsub:=ih n (Nat.le_refl _) (r:=r) u hl
 cases ho:pFac n r with
 | error e=>
  rw [ho] at hne
  rw [ho] at hsub
  refine (hsub hne).mono ?_
  rintro _ h1 ⟨hle,he,rfl⟩
  refine ⟨_,_,_,_,_,_,_,_,_,_,_,_,_,rfl,fun m err _ _ _ _ _ _ _ _ _ _ _ _ _ _ _ _ _ _ _ _ _ _ _ _ h' => err=e/\h' = h1,⟨0,rfl,rfl⟩, ?_⟩
  rintro m _ _ _ _ _ _ _ _ _ _ _ _ _ _ _ _ _ _ _ _ _ _ _ _ _ _ ⟨rfl,rfl⟩
  refine Br.mk (fun q=>absurd (beq_iff_eq.1 q) he) (fun _=>⟨hle,he,rfl⟩)
 | ok p=>
  obtain ⟨x,r1⟩:=p
  rw [ho] at hne
  rw [ho] at hsub
  simp only at hne ⊢
  refine (hsub (by intro q;cases q)).mono ?_
  rintro _ h1 ⟨hle,vs,rfl,ux,zx,hp⟩
  have ux' := ux
  obtain ⟨s0,A0,c0,B0,d0,K0,kc0,rfl,_,_,_⟩:=ux'.open
  refine ⟨_,_,_,_,_,_,_,_,_,_,_,_,_,rfl,fun m err _ _ _ _ _ _ _ _ _ _ _ _ l0 l1 l2A l2n l2c l3A l3n l3c l4 l5A l5n l5c h' => Le (hole h g) (hole h' g)/\((err≠0/\pProdL n x r1 = .error err)\/(err=0/\m<=n/\ ∃ y r2,pProdL m y r2=pProdL n x r1/\IsE (hole h' g) y [.int .i64 l0,.bool l1,.slice l2A l2n l2c,.slice l3A l3n l3c,.string l4,.slice l5A l5n l5c]/\Szs y/\Ps h' g l r2)),⟨n,hle,Or.inr ⟨rfl,Nat.le_refl _,x,r1,rfl,ux,zx,hp⟩⟩, ?_⟩
  rintro m err _ _ _ _ _ _ _ _ _ _ _ _ l0 l1 l2A l2n l2c l3A l3n l3c l4 l5A l5n l5c h2 ⟨hle2,hcase⟩
  refine Br.mk (fun q=> ?_) (fun q=> ?_)
  ·rcases hcase with ⟨h0,_⟩ | ⟨_,hm,y,r2,hy,uy,zy,hp2⟩
   ·exact absurd (beq_iff_eq.1 q) h0
   ·cases m with
    | zero=>rw [pProdL] at hy;exact absurd hy.symm hne
    | succ m=>
     rw [<- hy] at hne
     rw [pProdL] at hy hne
     have go : ∀ (kd:Int) (h3:Heap),Ps h3 g l (skipS r2)->hole h3 g=hole h2 g->tk r2≠[]->(match pFac m (aft r2) with | .error e=> .error e | .ok (z,r')=>pProdL m (op2 kd y z) r')=pProdL n x r1->
      CallsU Tryz.prog 223 (ptr g) h3 fun v_1 h_4=>
       ∃ t23:ByteArray,v_1=Value.string t23/\
       CallsU Tryz.prog 256 (ptr g) h_4 fun v_2 h_5=>
       ∃ t26_0_0:Int,∃ t26_0_1:Bool,∃ t26_0_2A:Option Addr,∃ t26_0_2n t26_0_2c:Nat,∃ t26_0_3A:Option Addr,∃ t26_0_3n t26_0_3c:Nat,∃ t26_0_4:ByteArray,∃ t26_0_5A:Option Addr,∃ t26_0_5n t26_0_5c:Nat,∃ t26_1:Int,v_2=Value.tuple #[Value.agg #[Value.int .i64 t26_0_0,Value.bool t26_0_1,Value.slice t26_0_2A t26_0_2n t26_0_2c,Value.slice t26_0_3A t26_0_3n t26_0_3c,Value.string t26_0_4,Value.slice t26_0_5A t26_0_5n t26_0_5c],Value.int .i64 t26_1]/\
       ∀ (g_1:Nat) (h_6:Heap),h_5 g_1=none->h_6=Heap.put h_5 g_1 ⟨[Value.int .i64 l0,Value.bool l1,Value.slice l2A l2n l2c,Value.slice l3A l3n l3c,Value.string l4,Value.slice l5A l5n l5c,Value.int .i64 t26_0_0,Value.bool t26_0_1,Value.slice t26_0_2A t26_0_2n t26_0_2c,Value.slice t26_0_3A t26_0_3n t26_0_3c,Value.string t26_0_4,Value.slice t26_0_5A t26_0_5n t26_0_5c],39,(0,0)⟩->
       ∃ m_1,m_1<m+1/\Le (hole h g) (hole h_6 g)/\((t26_1≠0/\pProdL n x r1 = .error t26_1)\/(t26_1=0/\m_1<=n/\ ∃ y r2,pProdL m_1 y r2=pProdL n x r1/\IsE (hole h_6 g) y [.int .i64 kd,.bool false,.slice none 0 0,.slice none 0 0,.string ByteArray.empty,.slice (some ⟨g_1,0,none⟩) 2 2]/\Szs y/\Ps h_6 g l r2)):=by
      intro kd h3 hp3 ho3 htk heq
      refine (foTake_c hp3 (by omega)).mono ?_
      rintro _ h4 ⟨rfl,hp4,ho4⟩
      have ea:aft (skipS r2)=aft r2:=by unfold aft tk;rw [skip_skip]
      rw [ea] at hp4
      refine ⟨_,rfl, ?_⟩
      have hs2:=ih m (by omega) (r:=aft r2) hp4 hl
      cases ho5:pFac m (aft r2) with
      | error e=>
       rw [ho5] at heq hs2
       simp only at heq
       refine (hs2 (by intro q;rw [q] at heq;exact absurd heq.symm (by rw [hy] at hne;exact hne))).mono ?_
       rintro _ h5 ⟨hle5,he,rfl⟩
       refine ⟨_,_,_,_,_,_,_,_,_,_,_,_,_,rfl, ?_⟩
       rintro g1 _ hg1 rfl
       have hng:hole h5 g g1=none:=by
        unfold Go.Proofs.YtfglcgbgaeegaaaGreatDoor.hole;split
        ·rfl
        ·exact hg1
       have hl5:Le (hole h g) (hole h5 g):=(hle2.trans (by rw [<- ho3,<- ho4];exact hle5))
       refine ⟨m,by omega, ?_,Or.inl ⟨he,heq.symm⟩⟩
       by_cases e1:g1=g
       ·subst e1;rw [hole_put];exact hl5
       ·rw [hole_put_ne _ _ e1];exact hl5.trans (Le.new hng _)
      | ok p=>
       obtain ⟨z,r3⟩:=p
       rw [ho5] at heq hs2
       simp only at heq
       refine (hs2 (by intro q;cases q)).mono ?_
       rintro _ h5 ⟨hle5,vs5,rfl,uz,zz,hp5⟩
       have uz' := uz
       obtain ⟨s5,A5,c5,B5,d5,K5,kc5,rfl,_,_,_⟩:=uz'.open
       refine ⟨_,_,_,_,_,_,_,_,_,_,_,_,_,rfl, ?_⟩
       rintro g1 _ hg1 rfl
       have hgg:g1≠g:=fun e=>by
        obtain ⟨_,_,_,hb⟩:=hp5
        rw [e,hb] at hg1;cases hg1
       have hng:hole h5 g g1=none:=by rw [hole_ne _ hgg];exact hg1
       have hl25:Le (hole h2 g) (hole h5 g):=by rw [<- ho3,<- ho4];exact hle5
       refine ⟨m,by omega, ?_,Or.inr ⟨rfl,by omega,op2 kd y z,r3,heq, ?_,Szs_two zy zz, ?_⟩⟩
       ·rw [hole_put_ne _ _ hgg]
        exact (hle2.trans hl25).trans (Le.new hng _)
       ·rw [hole_put_ne _ _ hgg]
        exact IsE_two hng (IsE.mono hl25 _ _ uy) uz
       ·obtain ⟨pre,ty,hlr,hb⟩:=hp5
        exact ⟨pre,ty,hlr,by rw [Heap.put_ne _ _ (fun e=>hgg e.symm)];exact hb⟩
     refine ⟨fun kd _ _ _ _ _ _ _ _ _ _ _ _ h3=>Ps h3 g l (skipS r2)/\hole h3 g=hole h2 g/\tk r2≠[]/\(match pFac m (aft r2) with | .error e=> .error e | .ok (z,r')=>pProdL m (op2 kd y z) r')=pProdL n x r1, ?_, ?_⟩
     ·rintro kd _ _ _ _ _ _ _ _ _ _ _ _ h3 ⟨a1,a2,a3,a4⟩
      exact go kd h3 a1 a2 a3 a4
     ·refine (foNext_c hp2 (by omega)).mono ?_
      rintro _ h3 ⟨rfl,hp3,ho3⟩
      have b1:(⟨#[42]⟩:ByteArray).toList=[42]:=bytes_toList _
      have b2:(⟨#[47]⟩:ByteArray).toList=[47]:=bytes_toList _
      refine ⟨_,rfl, ?_⟩
      rw [bytes_toList,b1,b2]
      refine Br.mk (fun q1=> ?_) (fun q1=>Br.mk (fun q2=> ?_) (fun q2=> ?_))
      ·have e1:=beq_iff_eq.1 q1
       rw [if_pos e1] at hy
       exact ⟨hp3,ho3,by rw [e1];simp,hy⟩
      ·have e1:=beq_eq_false_iff_ne.1 q1
       have e2:=beq_iff_eq.1 q2
       rw [if_neg e1,if_pos e2] at hy
       exact ⟨hp3,ho3,by rw [e2];simp,hy⟩
      ·have e1:=beq_eq_false_iff_ne.1 q1
       have e2:=beq_eq_false_iff_ne.1 q2
       rw [if_neg e1,if_neg e2] at hy
       rw [<- hy]
       exact ⟨by rw [ho3];exact hle2,_,rfl,by rw [ho3];exact uy,zy,hp3⟩
  ·rcases hcase with ⟨h0,hy⟩ | ⟨h0,_⟩
   ·rw [hy]
    exact ⟨hle2,h0,rfl⟩
   ·rw [h0] at q;exact absurd q (by decide)
theorem foSum_step {n:Nat} (ih : ∀ k,k<=n->MOk 222 ptr (pProd k)):MOk 165 ptr (pSum (n+1)):=by
 intro h g l r u hl hne
 rw [pSum] at hne ⊢
 apply garment_formula_parser_sum_ok
 have hsub:=ih n (Nat.le_refl _) (r:=r) u hl
 cases ho:pProd n r with
 | error e=>
  rw [ho] at hne
  rw [ho] at hsub
  refine (hsub hne).mono ?_
  rintro _ h1 ⟨hle,he,rfl⟩
  refine ⟨_,_,_,_,_,_,_,_,_,_,_,_,_,rfl,fun m err _ _ _ _ _ _ _ _ _ _ _ _ _ _ _ _ _ _ _ _ _ _ _ _ h' => err=e/\h' = h1,⟨0,rfl,rfl⟩, ?_⟩
  rintro m _ _ _ _ _ _ _ _ _ _ _ _ _ _ _ _ _ _ _ _ _ _ _ _ _ _ ⟨rfl,rfl⟩
  refine Br.mk (fun q=>absurd (beq_iff_eq.1 q) he) (fun _=>⟨hle,he,rfl⟩)
 | ok p=>
  obtain ⟨x,r1⟩:=p
  rw [ho] at hne
  rw [ho] at hsub
  simp only at hne ⊢
  refine (hsub (by intro q;cases q)).mono ?_
  rintro _ h1 ⟨hle,vs,rfl,ux,zx,hp⟩
  have ux' := ux
  obtain ⟨s0,A0,c0,B0,d0,K0,kc0,rfl,_,_,_⟩:=ux'.open
  refine ⟨_,_,_,_,_,_,_,_,_,_,_,_,_,rfl,fun m err _ _ _ _ _ _ _ _ _ _ _ _ l0 l1 l2A l2n l2c l3A l3n l3c l4 l5A l5n l5c h' => Le (hole h g) (hole h' g)/\((err≠0/\pSumL n x r1 = .error err)\/(err=0/\m<=n/\ ∃ y r2,pSumL m y r2=pSumL n x r1/\IsE (hole h' g) y [.int .i64 l0,.bool l1,.slice l2A l2n l2c,.slice l3A l3n l3c,.string l4,.slice l5A l5n l5c]/\Szs y/\Ps h' g l r2)),⟨n,hle,Or.inr ⟨rfl,Nat.le_refl _,x,r1,rfl,ux,zx,hp⟩⟩, ?_⟩
  rintro m err _ _ _ _ _ _ _ _ _ _ _ _ l0 l1 l2A l2n l2c l3A l3n l3c l4 l5A l5n l5c h2 ⟨hle2,hcase⟩
  refine Br.mk (fun q=> ?_) (fun q=> ?_)
  ·rcases hcase with ⟨h0,_⟩ | ⟨_,hm,y,r2,hy,uy,zy,hp2⟩
   ·exact absurd (beq_iff_eq.1 q) h0
   ·cases m with
    | zero=>rw [pSumL] at hy;exact absurd hy.symm hne
    | succ m=>
     rw [<- hy] at hne
     rw [pSumL] at hy hne
     have go : ∀ (kd:Int) (h3:Heap),Ps h3 g l (skipS r2)->hole h3 g=hole h2 g->tk r2≠[]->(match pProd m (aft r2) with | .error e=> .error e | .ok (z,r')=>pSumL m (op2 kd y z) r')=pSumL n x r1->
      CallsU Tryz.prog 223 (ptr g) h3 fun v_1 h_4=>
       ∃ t23:ByteArray,v_1=Value.string t23/\
       CallsU Tryz.prog 222 (ptr g) h_4 fun v_2 h_5=>
       ∃ t26_0_0:Int,∃ t26_0_1:Bool,∃ t26_0_2A:Option Addr,∃ t26_0_2n t26_0_2c:Nat,∃ t26_0_3A:Option Addr,∃ t26_0_3n t26_0_3c:Nat,∃ t26_0_4:ByteArray,∃ t26_0_5A:Option Addr,∃ t26_0_5n t26_0_5c:Nat,∃ t26_1:Int,v_2=Value.tuple #[Value.agg #[Value.int .i64 t26_0_0,Value.bool t26_0_1,Value.slice t26_0_2A t26_0_2n t26_0_2c,Value.slice t26_0_3A t26_0_3n t26_0_3c,Value.string t26_0_4,Value.slice t26_0_5A t26_0_5n t26_0_5c],Value.int .i64 t26_1]/\
       ∀ (g_1:Nat) (h_6:Heap),h_5 g_1=none->h_6=Heap.put h_5 g_1 ⟨[Value.int .i64 l0,Value.bool l1,Value.slice l2A l2n l2c,Value.slice l3A l3n l3c,Value.string l4,Value.slice l5A l5n l5c,Value.int .i64 t26_0_0,Value.bool t26_0_1,Value.slice t26_0_2A t26_0_2n t26_0_2c,Value.slice t26_0_3A t26_0_3n t26_0_3c,Value.string t26_0_4,Value.slice t26_0_5A t26_0_5n t26_0_5c],39,(0,0)⟩->
       ∃ m_1,m_1<m+1/\Le (hole h g) (hole h_6 g)/\((t26_1≠0/\pSumL n x r1 = .error t26_1)\/(t26_1=0/\m_1<=n/\ ∃ y r2,pSumL m_1 y r2=pSumL n x r1/\IsE (hole h_6 g) y [.int .i64 kd,.bool false,.slice none 0 0,.slice none 0 0,.string ByteArray.empty,.slice (some ⟨g_1,0,none⟩) 2 2]/\Szs y/\Ps h_6 g l r2)):=by
      intro kd h3 hp3 ho3 htk heq
      refine (foTake_c hp3 (by omega)).mono ?_
      rintro _ h4 ⟨rfl,hp4,ho4⟩
      have ea:aft (skipS r2)=aft r2:=by unfold aft tk;rw [skip_skip]
      rw [ea] at hp4
      refine ⟨_,rfl, ?_⟩
      have hs2:=ih m (by omega) (r:=aft r2) hp4 hl
      cases ho5:pProd m (aft r2) with
      | error e=>
       rw [ho5] at heq hs2
       simp only at heq
       refine (hs2 (by intro q;rw [q] at heq;exact absurd heq.symm (by rw [hy] at hne;exact hne))).mono ?_
       rintro _ h5 ⟨hle5,he,rfl⟩
       refine ⟨_,_,_,_,_,_,_,_,_,_,_,_,_,rfl, ?_⟩
       rintro g1 _ hg1 rfl
       have hng:hole h5 g g1=none:=by
        unfold Go.Proofs.YtfglcgbgaeegaaaGreatDoor.hole;split
        ·rfl
        ·exact hg1
       have hl5:Le (hole h g) (hole h5 g):=(hle2.trans (by rw [<- ho3,<- ho4];exact hle5))
       refine ⟨m,by omega, ?_,Or.inl ⟨he,heq.symm⟩⟩
       by_cases e1:g1=g
       ·subst e1;rw [hole_put];exact hl5
       ·rw [hole_put_ne _ _ e1];exact hl5.trans (Le.new hng _)
      | ok p=>
       obtain ⟨z,r3⟩:=p
       rw [ho5] at heq hs2
       simp only at heq
       refine (hs2 (by intro q;cases q)).mono ?_
       rintro _ h5 ⟨hle5,vs5,rfl,uz,zz,hp5⟩
       have uz' := uz
       obtain ⟨s5,A5,c5,B5,d5,K5,kc5,rfl,_,_,_⟩:=uz'.open
       refine ⟨_,_,_,_,_,_,_,_,_,_,_,_,_,rfl, ?_⟩
       rintro g1 _ hg1 rfl
       have hgg:g1≠g:=fun e=>by
        obtain ⟨_,_,_,hb⟩:=hp5
        rw [e,hb] at hg1;cases hg1
       have hng:hole h5 g g1=none:=by rw [hole_ne _ hgg];exact hg1
       have hl25:Le (hole h2 g) (hole h5 g):=by rw [<- ho3,<- ho4];exact hle5
       refine ⟨m,by omega, ?_,Or.inr ⟨rfl,by omega,op2 kd y z,r3,heq, ?_,Szs_two zy zz, ?_⟩⟩
       ·rw [hole_put_ne _ _ hgg]
        exact (hle2.trans hl25).trans (Le.new hng _)
       ·rw [hole_put_ne _ _ hgg]
        exact IsE_two hng (IsE.mono hl25 _ _ uy) uz
       ·obtain ⟨pre,ty,hlr,hb⟩:=hp5
        exact ⟨pre,ty,hlr,by rw [Heap.put_ne _ _ (fun e=>hgg e.symm)];exact hb⟩
     refine ⟨fun kd _ _ _ _ _ _ _ _ _ _ _ _ h3=>Ps h3 g l (skipS r2)/\hole h3 g=hole h2 g/\tk r2≠[]/\(match pProd m (aft r2) with | .error e=> .error e | .ok (z,r')=>pSumL m (op2 kd y z) r')=pSumL n x r1, ?_, ?_⟩
     ·rintro kd _ _ _ _ _ _ _ _ _ _ _ _ h3 ⟨a1,a2,a3,a4⟩
      exact go kd h3 a1 a2 a3 a4
     ·refine (foNext_c hp2 (by omega)).mono ?_
      rintro _ h3 ⟨rfl,hp3,ho3⟩
      have b1:(⟨#[43]⟩:ByteArray).toList=[43]:=bytes_toList _
      have b2:(⟨#[45]⟩:ByteArray).toList=[45]:=bytes_toList _
      refine ⟨_,rfl, ?_⟩
      rw [bytes_toList,b1,b2]
      refine Br.mk (fun q1=> ?_) (fun q1=>Br.mk (fun q2=> ?_) (fun q2=> ?_))
      ·have e1:=beq_iff_eq.1 q1
       rw [if_pos e1] at hy
       exact ⟨hp3,ho3,by rw [e1];simp,hy⟩
      ·have e1:=beq_eq_false_iff_ne.1 q1
       have e2:=beq_iff_eq.1 q2
       rw [if_neg e1,if_pos e2] at hy
       exact ⟨hp3,ho3,by rw [e2];simp,hy⟩
      ·have e1:=beq_eq_false_iff_ne.1 q1
       have e2:=beq_eq_false_iff_ne.1 q2
       rw [if_neg e1,if_neg e2] at hy
       rw [<- hy]
       exact ⟨by rw [ho3];exact hle2,_,rfl,by rw [ho3];exact uy,zy,hp3⟩
  ·rcases hcase with ⟨h0,hy⟩ | ⟨h0,_⟩
   ·rw [hy]
    exact ⟨hle2,h0,rfl⟩
   ·rw [h0] at q;exact absurd q (by decide)
def KO (h0 h:Heap) (g:Nat) (A:Option Addr) (n c:Nat) (es:List Ex):Prop:=
 es.length=n/\SzsL es/\((A=none/\n=0/\c=0)\/ ∃ gk cs,h0 gk=none/\gk≠g/\A=some ⟨gk,0,none⟩/\h gk=some ⟨cs,39,(0,0)⟩/\cs.length=6*c/\n<=c/\IsEs (hole (hole h g) gk) es cs)
theorem IsEs.take {h:Heap} : ∀ {es:List Ex} {cs:List Value},IsEs h es cs->IsEs h es (cs.take (6*es.length))
 | [],cs,_=>by unfold IsEs;trivial
 | e::es,cs,u=>by
  unfold IsEs at u ⊢
  rw [List.length_cons,show 6*(es.length+1)=6+6*es.length by omega]
  refine ⟨by rw [List.take_take,Nat.min_eq_left (by omega)];exact u.1, ?_⟩
  rw [List.drop_take,show 6+6*es.length-6=6*es.length by omega]
  exact IsEs.take u.2
theorem repV_six (k:Nat):(repV zE k).length=6*k:=by
 induction k with
 | zero=>rfl
 | succ k ih=>rw [repV,List.length_append,ih];simp;omega
theorem lmb_le (v:Nat):lmb v<=2:=by unfold lmb;split<;>(try split)<;>omega
def cutA (h:Heap):Option Addr->Heap
 | none=>h
 | some a=>hole h a.block
theorem cutA_le (h:Heap) (A:Option Addr):Le (cutA h A) h:=by
 cases A with
 | none=>exact Le.refl _
 | some a=>exact hole_le _ _
theorem foKid_c {n:Nat} (ih:MOk 165 ptr (pSum n)) {h:Heap} {g:Nat} {l r:List UInt8} (h0:Heap) (A:Option Addr) (k c:Nat) (es:List Ex) (u:Ps h g l r) (hl:l.length<=400) (hne:pSum n r ≠ .error 99) (ko:KO h0 h g A k c es) :
  CallsU Tryz.prog 165 (ptr g) h fun v h' => Le (hole h g) (hole h' g)/\match pSum n r with
   | .error e=>e≠0/\v = .tuple #[.agg zE.toArray,.int .i64 e]
   | .ok (x,rest)=> ∃ vs:List Value,v = .tuple #[.agg vs.toArray,.int .i64 0]/\IsE (cutA (hole h' g) A) x vs/\Szs x/\Ps h' g l rest/\KO h0 h' g A k c es:=by
 obtain ⟨k1,k2,k3⟩:=ko
 rcases k3 with ⟨rfl,rfl,rfl⟩ | ⟨gk,cs,hg0,hgk,rfl,hb,hcl,hkc,hes⟩
 ·refine (ih u hl hne).mono ?_
  rintro v h' ⟨hle,hm⟩
  refine ⟨hle, ?_⟩
  cases ho:pSum n r with
  | error e=>rw [ho] at hm;exact hm
  | ok p=>
   obtain ⟨x,r'⟩:=p
   rw [ho] at hm
   obtain ⟨vs,hv,ux,zx,hp⟩:=hm
   exact ⟨vs,hv,ux,zx,hp,k1,k2,Or.inl ⟨rfl,rfl,rfl⟩⟩
 ·have u0:Ps (hole h gk) g l r:=by
   obtain ⟨pre,ty,e1,e2⟩:=u
   exact ⟨pre,ty,e1,by rw [hole_ne _ (fun e=>hgk e.symm)];exact e2⟩
  have fr:=(ih u0 hl hne).frame (g:=gk) (b:=⟨cs,39,(0,0)⟩) (hole_at h gk)
  rw [put_hole hb] at fr
  refine fr.mono ?_
  rintro v _ ⟨h1,⟨hle,hm⟩,h1k,rfl⟩
  have hx:hole (h1.put gk ⟨cs,39,(0,0)⟩) g=(hole h1 g).put gk ⟨cs,39,(0,0)⟩:=hole_put_ne _ _ hgk
  have h1n:hole h1 g gk=none:=by rw [hole_ne _ hgk];exact h1k
  have hcut:hole ((hole h1 g).put gk ⟨cs,39,(0,0)⟩) gk=hole h1 g:=by rw [hole_put,hole_none h1n]
  refine ⟨?_, ?_⟩
  ·rw [hx]
   intro j b hj
   by_cases e:j=gk
   ·subst e
    rw [hole_ne _ hgk,hb] at hj
    cases hj
    rw [Heap.put_same]
   ·rw [Heap.put_ne _ _ e]
    apply hle
    by_cases e2:j=g
    ·subst e2;rw [hole_at] at hj;cases hj
    ·rw [hole_ne _ e2] at hj ⊢
     rw [hole_ne _ e];exact hj
  ·cases ho:pSum n r with
   | error e=>rw [ho] at hm;exact hm
   | ok p=>
    obtain ⟨x,r'⟩:=p
    rw [ho] at hm
    obtain ⟨vs,hv,ux,zx,hp⟩:=hm
    refine ⟨vs,hv, ?_,zx, ?_,k1,k2,Or.inr ⟨gk,cs,hg0,hgk,rfl,Heap.put_same _ _ _,hcl,hkc, ?_⟩⟩
    ·show IsE (hole (hole (h1.put gk _) g) gk) x vs
     rw [hx,hcut];exact ux
    ·obtain ⟨pre,ty,e1,e2⟩:=hp
     exact ⟨pre,ty,e1,by rw [Heap.put_ne _ _ (fun e=>hgk e.symm)];exact e2⟩
    ·rw [hx,hcut]
     refine IsEs.mono ?_ _ _ hes
     rw [hole_comm];exact hle
theorem foCall_step {n:Nat} (kd:Int) (ih : ∀ k,k<=n->MOk 165 ptr (pSum k)):MOk 278 (fun g=>[.pointer (some ⟨g,0,none⟩),.int .i64 kd]) (pCall (n+1) kd):=by
 intro h g l r u hl hne
 rw [pCall] at hne ⊢
 apply garment_formula_parser_call_ok
 refine (foExpect_c [40] u (by omega)).mono ?_
 rintro _ h1 ⟨rfl,hp,ho⟩
 refine ⟨_,rfl,Br.mk (fun q=> ?_) (fun q=> ?_)⟩
 ·have h0:expV [40] r≠0:=by simpa using q
  rw [if_neg h0]
  exact ⟨by rw [ho];exact Le.refl _,h0,rfl⟩
 ·have h0:expV [40] r=0:=by simpa using q
  rw [if_pos h0] at hne ⊢
  generalize hr:aft r=r1 at *
  refine ⟨fun m A k c _ _ _ _ _ _ _ _ _ _ _ _ h' => ∃ es r2,m<=n/\pCallL m kd es r2=pCallL n kd [] r1/\KO h h' g A k c es/\k<8/\Ps h' g l r2/\Le (hole h g) (hole h' g),⟨n,[],r1,Nat.le_refl _,rfl,⟨rfl,by unfold SzsL;trivial,Or.inl ⟨rfl,rfl,rfl⟩⟩,by omega,hp,by rw [ho];exact Le.refl _⟩, ?_⟩
  rintro m A k c _ _ _ _ _ _ _ _ _ _ _ _ h2 ⟨es,r2,hm,heq,ko,hk8,hp2,hle2⟩
  cases m with
  | zero=>rw [pCallL] at heq;exact absurd heq.symm hne
  | succ m=>
   rw [<- heq] at hne
   rw [pCallL] at heq hne
   have kc:=foKid_c (ih m (by omega)) (r:=r2) h A k c es hp2 hl
   cases ho5:pSum m r2 with
   | error e=>
    rw [ho5] at heq hne kc
    simp only at heq hne
    refine (kc hne ko).mono ?_
    rintro _ h3 ⟨hle3,he,rfl⟩
    refine ⟨_,_,_,_,_,_,_,_,_,_,_,_,_,rfl,Br.mk (fun _=> ?_) (fun q=>by rw [bne_eq_false_iff_eq] at q;exact absurd q he)⟩
    rw [<- heq]
    exact ⟨hle2.trans hle3,he,rfl⟩
   | ok p=>
    obtain ⟨x,r3⟩:=p
    rw [ho5] at heq hne kc
    simp only at heq hne
    refine (kc (by intro q;cases q) ko).mono ?_
    rintro _ h3 ⟨hle3,vs,rfl,ux,zx,hp3,ko3⟩
    have ux' := ux
    have hvl:=ux.len
    obtain ⟨s3,A3,c3,B3,d3,K3,kc3,hvs,_,_,_⟩:=ux'.open
    subst hvs
    refine ⟨_,_,_,_,_,_,_,_,_,_,_,_,_,rfl,Br.mk (fun q=>by exact absurd q (by decide)) (fun _=> ?_)⟩
    refine ⟨fun A' k' c' h' => KO h h' g A' k' c' (es++[x])/\k' = k+1/\Ps h' g l r3/\Le (hole h g) (hole h' g)/\A' ≠ none, ?_, ?_⟩
    ·rintro A' k' c' h4 ⟨ko4,rfl,hp4,hle4,hA'⟩
     refine (foTake_c hp4 (by omega)).mono ?_
     rintro _ h5 ⟨rfl,hp5,ho5⟩
     have hle5:Le (hole h g) (hole h5 g):=by rw [ho5];exact hle4
     have b1:(⟨#[41]⟩:ByteArray).toList=[41]:=bytes_toList _
     have b2:(⟨#[44]⟩:ByteArray).toList=[44]:=bytes_toList _
     have b0:(⟨#[]⟩:ByteArray).toList=[]:=bytes_toList []
     have hlen:=ko4.1
     rw [List.length_append,List.length_singleton] at hlen
     have ko5:KO h h5 g A' (k+1) c' (es++[x]):=by
      obtain ⟨a1,a2,a3⟩:=ko4
      refine ⟨a1,a2, ?_⟩
      rcases a3 with a3 | ⟨gk,cs,b0', b1,b2,b3,b4,b5,b6⟩
      ·exact Or.inl a3
      ·refine Or.inr ⟨gk,cs,b0', b1,b2, ?_,b4,b5,by rw [ho5];exact b6⟩
       have:=congrFun ho5 gk
       rw [hole_ne _ b1,hole_ne _ b1] at this
       rw [this];exact b3
     refine ⟨_,rfl, ?_⟩
     rw [bytes_toList,b1,b2,b0]
     refine Br.mk (fun q1=> ?_) (fun q1=>Br.mk (fun q2=> ?_) (fun q2=>Br.mk (fun q3=> ?_) (fun q3=>Br.mk (fun q4=> ?_) (fun q4=> ?_))))
     ·rw [if_pos (beq_iff_eq.1 q1)] at heq
      rw [<- heq]
      obtain ⟨a1,a2,a3⟩:=ko5
      rcases a3 with ⟨a3,_⟩ | ⟨gk,cs,b0', b1,b2,b3,b4,b5,b6⟩
      ·exact absurd a3 hA'
      ·subst b2
       refine ⟨hle5,_,rfl, ?_, ?_,hp5⟩
       ·have e1:=IsE_op (h:=hole h5 g) (k:=kd) (es:=es++[x]) (gk:=gk) (c:=c') (ty:=39) (cs:=cs) (by rw [hole_ne _ b1];exact b3) (by omega) (by omega) (IsEs.mono (hole_le _ _) _ _ b6)
        rw [a1] at e1
        exact e1
       ·unfold Szs
        exact ⟨by omega,by omega,by simp,by omega,a2⟩
     ·rw [if_neg (beq_eq_false_iff_ne.1 q1),if_pos (beq_iff_eq.1 q2)] at heq
      rw [<- heq]
      exact ⟨hle5,by decide,rfl⟩
     ·have h3:tk r3≠[44]:=by simpa using q3
      rw [if_neg (beq_eq_false_iff_ne.1 q1),if_neg (beq_eq_false_iff_ne.1 q2),if_pos h3] at heq
      rw [<- heq]
      exact ⟨hle5,by decide,rfl⟩
     ·have h3:tk r3=[44]:=by simpa using q3
      have h4:es.length+1=8:=by have:=beq_iff_eq.1 q4;omega
      rw [if_neg (beq_eq_false_iff_ne.1 q1),if_neg (beq_eq_false_iff_ne.1 q2),if_neg (by simp [h3]),if_pos h4] at heq
      rw [<- heq]
      exact ⟨hle5,by decide,rfl⟩
     ·have h3:tk r3=[44]:=by simpa using q3
      have h4:es.length+1≠8:=by have:=beq_eq_false_iff_ne.1 q4;omega
      rw [if_neg (beq_eq_false_iff_ne.1 q1),if_neg (beq_eq_false_iff_ne.1 q2),if_neg (by simp [h3]),if_neg h4] at heq
      exact ⟨m,by omega,es++[x],aft r3,by omega,heq,ko5,by omega,hp5,hle5⟩
    ·rintro g6 _ hg6 rfl
     obtain ⟨a1,a2,a3⟩:=ko3
     have hgg:g6≠g:=fun e=>by
      obtain ⟨_,_,_,hb⟩:=hp3
      rw [e,hb] at hg6;cases hg6
     refine ⟨cellsE x.kind s3 A3 x.ln c3 B3 x.lm d3 x.name K3 x.kids.length kc3,⟨rfl,fun _=>⟨_,rfl,rfl,_,Heap.put_same _ _ _,rfl⟩⟩, ?_, ?_, ?_⟩
     ·intro y hy
      simp only [cellsE,List.mem_cons,List.not_mem_nil,or_false] at hy
      rcases hy with rfl | rfl | rfl | rfl | rfl | rfl<;>rfl
     ·intro hcap
      rcases a3 with ⟨_,_,rfl⟩ | ⟨gk,cs,b0', b1,rfl,b3,b4,b5,b6⟩
      ·omega
      ·have hg6k:g6≠gk:=fun e=>by rw [e,b3] at hg6;cases hg6
       refine ⟨_,_,rfl,rfl,by rw [Heap.put_ne _ _ (fun e=>hg6k e.symm)];exact b3,rfl,by simp only;omega, ?_⟩
       rintro _ rfl
       have hx1 : ∀ B6 B7:Blk,hole ((h3.put g6 B6).put gk B7) g=((hole h3 g).put g6 B6).put gk B7:=fun B6 B7=>by
        rw [hole_put_ne _ _ b1,hole_put_ne _ _ hgg]
       have hn6:hole h3 g g6=none:=by rw [hole_ne _ hgg];exact hg6
       refine ⟨⟨by rw [List.length_append];simp;omega,SzsL.snoc a2 zx,Or.inr ⟨gk,setSeg cs (0+k*6) (cellsE x.kind s3 A3 x.ln c3 B3 x.lm d3 x.name K3 x.kids.length kc3),b0', b1,rfl,Heap.put_same _ _ _, ?_,hcap, ?_⟩⟩,rfl, ?_, ?_,by simp⟩
       ·unfold setSeg
        rw [List.length_append,List.length_append,List.length_take,List.length_drop,cellsE_len]
        omega
       ·refine IsEs.mono (h:=(hole (hole h3 g) gk).put g6 ⟨cellsE x.kind s3 A3 x.ln c3 B3 x.lm d3 x.name K3 x.kids.length kc3,39,(0,0)⟩) ?_ _ _ ?_
        ·rw [hx1,hole_put,hole_put_ne _ _ hg6k]
         exact Le.refl _
        ·have hn7:hole (hole h3 g) gk g6=none:=by rw [hole_ne _ hg6k];exact hn6
         have l7:=Le.new hn7 ⟨cellsE x.kind s3 A3 x.ln c3 B3 x.lm d3 x.name K3 x.kids.length kc3,39,(0,0)⟩
         have:=IsEs.snoc (rest:=cs.drop (0+k*6+(cellsE x.kind s3 A3 x.ln c3 B3 x.lm d3 x.name K3 x.kids.length kc3).length)) (IsEs.mono l7 _ _ b6) (by omega) (IsE.mono l7 _ _ ux)
         unfold setSeg
         rw [show 0+k*6=6*es.length by omega] at this ⊢
         exact this
       ·obtain ⟨pre,ty,e1,e2⟩:=hp3
        exact ⟨pre,ty,e1,by rw [Heap.put_ne _ _ (fun e=>b1 e.symm),Heap.put_ne _ _ (fun e=>hgg e.symm)];exact e2⟩
       ·rw [hx1]
        refine Le.put ?_ (by rw [hole_ne _ b1];exact b0') _
        exact (hle2.trans hle3).trans (Le.new hn6 _)
     ·intro hcap
      have hn6:hole h3 g g6=none:=by rw [hole_ne _ hgg];exact hg6
      have hk6:k*6=6*es.length:=by omega
      have holds : ∃ olds:List Value,RdS (h3.put g6 ⟨cellsE x.kind s3 A3 x.ln c3 B3 x.lm d3 x.name K3 x.kids.length kc3,39,(0,0)⟩) A (k*6) olds/\IsEs (hole h3 g) es olds/\olds.length=6*es.length:=by
       rcases a3 with ⟨rfl,rfl,rfl⟩ | ⟨gk,cs,b0', b1,rfl,b3,b4,b5,b6⟩
       ·have:es=[]:=List.length_eq_zero_iff.1 a1
        subst this
        exact ⟨[],⟨rfl,fun q=>absurd q (by decide)⟩,by unfold IsEs;trivial,rfl⟩
       ·have hg6k:g6≠gk:=fun e=>by rw [e,b3] at hg6;cases hg6
        refine ⟨cs.take (6*es.length),⟨by rw [List.length_take];omega,fun _=>⟨_,rfl,rfl,_,by rw [Heap.put_ne _ _ (fun e=>hg6k e.symm)];exact b3, ?_⟩⟩, ?_,by rw [List.length_take];omega⟩
        ·simp only [List.drop_zero,List.length_take]
         congr 1
         omega
        ·exact IsEs.take (IsEs.mono (hole_le _ _) _ _ b6)
      obtain ⟨olds,hrd,hes,hol⟩:=holds
      refine ⟨olds,hrd,by omega, ?_⟩
      rintro g7 cap _ hg7 hcap7 rfl
      have hg76:g7≠g6:=fun e=>by rw [e,Heap.put_same] at hg7;cases hg7
      rw [Heap.put_ne _ _ hg76] at hg7
      have hgg7:g7≠g:=fun e=>by
       obtain ⟨_,_,_,hb⟩:=hp3
       rw [e,hb] at hg7;cases hg7
      have h07:h g7=none:=by
       cases hh:h g7 with
       | none=>rfl
       | some bb=>
        have:=(hle2.trans hle3) g7 bb (by rw [hole_ne _ hgg7];exact hh)
        rw [hole_ne _ hgg7,hg7] at this
        cases this
      have hx1 : ∀ B6 B7:Blk,hole ((h3.put g6 B6).put g7 B7) g=((hole h3 g).put g6 B6).put g7 B7:=fun B6 B7=>by
       rw [hole_put_ne _ _ hgg7,hole_put_ne _ _ hgg]
      refine ⟨⟨by rw [List.length_append];simp;omega,SzsL.snoc a2 zx,Or.inr ⟨g7,_,h07,hgg7,rfl,Heap.put_same _ _ _, ?_,hcap7, ?_⟩⟩,rfl, ?_, ?_,by simp⟩
      ·rw [List.length_append,List.length_append,hol,cellsE_len,repV_six]
       omega
      ·rw [hx1,hole_put,hole_none (by rw [Heap.put_ne _ _ hg76,hole_ne _ hgg7];exact hg7)]
       have l7:=Le.new hn6 ⟨cellsE x.kind s3 A3 x.ln c3 B3 x.lm d3 x.name K3 x.kids.length kc3,39,(0,0)⟩
       have:=IsEs.snoc (rest:=repV zE (cap-(k+1))) (IsEs.mono l7 _ _ hes) (by omega) (IsE.mono (cutA_le _ _) _ _ ux |> IsE.mono l7 _ _)
       rw [List.take_of_length_le (by omega)] at this
       exact this
      ·obtain ⟨pre,ty,e1,e2⟩:=hp3
       exact ⟨pre,ty,e1,by rw [Heap.put_ne _ _ (fun e=>hgg7 e.symm),Heap.put_ne _ _ (fun e=>hgg e.symm)];exact e2⟩
      ·rw [hx1]
       refine Le.put ?_ (by rw [hole_ne _ hgg7];exact h07) _
       exact (hle2.trans hle3).trans (Le.new hn6 _)
theorem foFac_step {n:Nat} (ihF:MOk 256 ptr (pFac n)) (ihS:MOk 165 ptr (pSum n)) (ihC : ∀ kd:Int,MOk 278 (fun g=>[.pointer (some ⟨g,0,none⟩),.int .i64 kd]) (pCall n kd)):MOk 256 ptr (pFac (n+1)):=by
 intro h g l r u hl hne
 rw [pFac] at hne ⊢
 apply garment_formula_parser_factor_ok
 refine (foTake_c u (by omega)).mono ?_
 rintro _ h1 ⟨rfl,hp,ho⟩
 have hle1:Le (hole h g) (hole h1 g):=by rw [ho];exact Le.refl _
 have b0:(⟨#[]⟩:ByteArray).toList=[]:=bytes_toList []
 have b1:(⟨#[45]⟩:ByteArray).toList=[45]:=bytes_toList _
 have b2:(⟨#[40]⟩:ByteArray).toList=[40]:=bytes_toList _
 have b3:(⟨#[109,105,110]⟩:ByteArray).toList=[109,105,110]:=bytes_toList _
 have b4:(⟨#[109,97,120]⟩:ByteArray).toList=[109,97,120]:=bytes_toList _
 refine ⟨_,rfl, ?_⟩
 rw [bytes_toList,b0,b1,b2,b3,b4]
 refine Br.mk (fun q0=> ?_) (fun q0=> ?_)
 ·rw [if_pos (beq_iff_eq.1 q0)]
  exact ⟨hle1,by decide,rfl⟩
 rw [if_neg (beq_eq_false_iff_ne.1 q0)] at hne ⊢
 refine Br.mk (fun q1=> ?_) (fun q1=> ?_)
 ·rw [if_pos (beq_iff_eq.1 q1)] at hne ⊢
  have hs:=ihF hp hl
  cases hoo:pFac n (aft r) with
  | error e=>
   rw [hoo] at hne hs
   simp only at hne
   refine (hs hne).mono ?_
   rintro _ h2 ⟨hle2,he,rfl⟩
   refine ⟨_,_,_,_,_,_,_,_,_,_,_,_,_,rfl,Br.mk (fun _=>⟨hle1.trans hle2,he,rfl⟩) (fun q=>by rw [bne_eq_false_iff_eq] at q;exact absurd q he)⟩
  | ok p=>
   obtain ⟨x,r'⟩:=p
   rw [hoo] at hne hs
   simp only at hne
   refine (hs (by intro q;cases q)).mono ?_
   rintro _ h2 ⟨hle2,vs,rfl,ux,zx,hp2⟩
   have ux' := ux
   obtain ⟨s3,A3,c3,B3,d3,K3,kc3,rfl,_,_,_⟩:=ux'.open
   refine ⟨_,_,_,_,_,_,_,_,_,_,_,_,_,rfl,Br.mk (fun q=>by exact absurd q (by decide)) (fun _=> ?_)⟩
   rintro g1 _ hg1 rfl
   have hgg:g1≠g:=fun e=>by
    obtain ⟨_,_,_,hb⟩:=hp2
    rw [e,hb] at hg1;cases hg1
   have hng:hole h2 g g1=none:=by rw [hole_ne _ hgg];exact hg1
   refine ⟨?_,_,rfl, ?_, ?_, ?_⟩
   ·rw [hole_put_ne _ _ hgg]
    exact (hle1.trans hle2).trans (Le.new hng _)
   ·rw [hole_put_ne _ _ hgg]
    refine IsE_op (es:=[x]) (Heap.put_same _ _ _) (by simp) (by simp) ?_
    unfold IsEs
    exact ⟨IsE.mono (Le.new hng _) _ _ ux,by unfold IsEs;trivial⟩
   ·unfold Szs SzsL SzsL
    exact ⟨by omega,by omega,by simp,by simp,zx,trivial⟩
   ·obtain ⟨pre,ty,hlr,hb⟩:=hp2
    exact ⟨pre,ty,hlr,by rw [Heap.put_ne _ _ (fun e=>hgg e.symm)];exact hb⟩
 rw [if_neg (beq_eq_false_iff_ne.1 q1)] at hne ⊢
 refine Br.mk (fun q2=> ?_) (fun q2=> ?_)
 ·rw [if_pos (beq_iff_eq.1 q2)] at hne ⊢
  have hs:=ihS hp hl
  cases hoo:pSum n (aft r) with
  | error e=>
   rw [hoo] at hne hs
   simp only at hne
   refine (hs hne).mono ?_
   rintro _ h2 ⟨hle2,he,rfl⟩
   refine ⟨_,_,_,_,_,_,_,_,_,_,_,_,_,rfl,Br.mk (fun q=>absurd (beq_iff_eq.1 q) he) (fun _=>Br.mk (fun _=>⟨hle1.trans hle2,he,rfl⟩) (fun q=>by rw [bne_eq_false_iff_eq] at q;exact absurd q he))⟩
  | ok p=>
   obtain ⟨x,r'⟩:=p
   rw [hoo] at hne hs
   simp only at hne
   refine (hs (by intro q;cases q)).mono ?_
   rintro _ h2 ⟨hle2,vs,rfl,ux,zx,hp2⟩
   have ux' := ux
   obtain ⟨s3,A3,c3,B3,d3,K3,kc3,rfl,_,_,_⟩:=ux'.open
   refine ⟨_,_,_,_,_,_,_,_,_,_,_,_,_,rfl,Br.mk (fun _=> ?_) (fun q=>by exact absurd q (by decide))⟩
   refine (foExpect_c [41] hp2 (by omega)).mono ?_
   rintro _ h3 ⟨rfl,hp3,ho3⟩
   have hle3:Le (hole h g) (hole h3 g):=by rw [ho3];exact hle1.trans hle2
   simp only
   refine ⟨_,rfl,Br.mk (fun q=> ?_) (fun q=> ?_)⟩
   ·have h0:expV [41] r' ≠ 0:=by simpa using q
    rw [if_neg h0]
    exact ⟨hle3,h0,rfl⟩
   ·have h0:expV [41] r' = 0:=by simpa using q
    rw [if_pos h0]
    exact ⟨hle3,_,rfl,by rw [ho3];exact ux,zx,hp3⟩
 rw [if_neg (beq_eq_false_iff_ne.1 q2)] at hne ⊢
 have call : ∀ kd:Int,pCall n kd (aft r) ≠ .error 99->CallsU Tryz.prog 278 [.pointer (some ⟨g,0,none⟩),.int .i64 kd] h1 fun v_4 h_6=>
   ∃ t63_0_0:Int,∃ t63_0_1:Bool,∃ t63_0_2A:Option Addr,∃ t63_0_2n t63_0_2c:Nat,∃ t63_0_3A:Option Addr,∃ t63_0_3n t63_0_3c:Nat,∃ t63_0_4:ByteArray,∃ t63_0_5A:Option Addr,∃ t63_0_5n t63_0_5c:Nat,∃ t63_1:Int,v_4=Value.tuple #[Value.agg #[Value.int .i64 t63_0_0,Value.bool t63_0_1,Value.slice t63_0_2A t63_0_2n t63_0_2c,Value.slice t63_0_3A t63_0_3n t63_0_3c,Value.string t63_0_4,Value.slice t63_0_5A t63_0_5n t63_0_5c],Value.int .i64 t63_1]/\
   PaR (pCall n kd (aft r)) g l h (Value.tuple #[Value.agg #[Value.int .i64 t63_0_0,Value.bool t63_0_1,Value.slice t63_0_2A t63_0_2n t63_0_2c,Value.slice t63_0_3A t63_0_3n t63_0_3c,Value.string t63_0_4,Value.slice t63_0_5A t63_0_5n t63_0_5c],Value.int .i64 t63_1]) h_6:=by
  intro kd hne2
  refine ((ihC kd) hp hl hne2).mono ?_
  intro v h2 hP
  cases hoo:pCall n kd (aft r) with
  | error e=>
   rw [hoo] at hP
   obtain ⟨hle2,he,rfl⟩:=hP
   exact ⟨_,_,_,_,_,_,_,_,_,_,_,_,_,rfl,hle1.trans hle2,he,rfl⟩
  | ok p=>
   obtain ⟨x,r'⟩:=p
   rw [hoo] at hP
   obtain ⟨hle2,vs,rfl,ux,zx,hp2⟩:=hP
   have ux' := ux
   obtain ⟨s3,A3,c3,B3,d3,K3,kc3,rfl,_,_,_⟩:=ux'.open
   exact ⟨_,_,_,_,_,_,_,_,_,_,_,_,_,rfl,hle1.trans hle2,_,rfl,ux,zx,hp2⟩
 refine Br.mk (fun q3=> ?_) (fun q3=> ?_)
 ·rw [if_pos (beq_iff_eq.1 q3)] at hne ⊢
  exact call 8 hne
 rw [if_neg (beq_eq_false_iff_ne.1 q3)] at hne ⊢
 refine Br.mk (fun q4=> ?_) (fun q4=> ?_)
 ·rw [if_pos (beq_iff_eq.1 q4)] at hne ⊢
  exact call 9 hne
 rw [if_neg (beq_eq_false_iff_ne.1 q4)] at hne ⊢
 obtain ⟨pre,ty,hlr,hb⟩:=hp
 have hsp:=congrArg List.length (tk_split r)
 have hlen:l.length=pre.length+(aft r).length:=by rw [hlr,List.length_append]
 have htl:(tk r).length<=400:=by
  obtain ⟨pre0,ty0,hlr0,_⟩:=u
  have h0:=skip_le r
  have h1:=tokOf_le (skipS r)
  have h2:l.length=pre0.length+r.length:=by rw [hlr0,List.length_append]
  unfold tk
  omega
 have fr:=(foNumber_c (w:=tk r) (by omega) (hole h1 g)).frame (g:=g) (b:=⟨[sv l,.int .i64 (pre.length:Int)],ty,(0,0)⟩) (hole_at h1 g)
 rw [put_hole hb] at fr
 refine fr.mono ?_
 rintro v _ ⟨h2,⟨hN,hle2⟩,h2g,rfl⟩
 have hx:hole (h2.put g ⟨[sv l,.int .i64 (pre.length:Int)],ty,(0,0)⟩) g=h2:=by rw [hole_put,hole_none h2g]
 have hps:Ps (h2.put g ⟨[sv l,.int .i64 (pre.length:Int)],ty,(0,0)⟩) g l (aft r):=⟨pre,ty,hlr,Heap.put_same _ _ _⟩
 cases hoo:numberV (tk r) with
 | some q=>
  rw [hoo] at hN
  obtain ⟨s,A,c,B,d,rfl,hq⟩:=hN
  refine ⟨_,_,_,_,_,_,_,_,rfl,Br.mk (fun _=> ?_) (fun q=>by cases q)⟩
  have hl1:=lmb_le q.num.natAbs
  have hl2:=lmb_le q.den
  refine ⟨by rw [hx];exact hle1.trans hle2,_,rfl, ?_, ?_,hps⟩
  ·rw [hx]
   unfold IsE
   exact ⟨s,A,c,B,d,none,0,rfl,hq.is,Nat.le_refl _,fun q=>absurd rfl q⟩
  ·unfold Szs SzsL
   exact ⟨by omega,by omega,by simp,by simp,trivial⟩
 | none=>
  rw [hoo] at hN
  cases hN
  refine ⟨_,_,_,_,_,_,_,_,rfl,Br.mk (fun q=>by cases q) (fun _=> ?_)⟩
  refine (foName_c (tk r) _).mono ?_
  rintro _ _ ⟨rfl,rfl⟩
  simp only
  refine ⟨_,rfl,Br.mk (fun q=> ?_) (fun q=> ?_)⟩
  ·rw [if_pos q]
   refine ⟨by rw [hx];exact hle1.trans hle2,_,rfl, ?_, ?_,hps⟩
   ·unfold IsE
    exact ⟨false,none,0,none,0,none,0,rfl,IsQ.nul _,Nat.le_refl _,fun q=>absurd rfl q⟩
   ·unfold Szs SzsL
    exact ⟨by omega,by omega,by omega,by simp,trivial⟩
  ·rw [if_neg (by rw [q];decide)]
   exact ⟨by rw [hx];exact hle1.trans hle2,by decide,rfl⟩
theorem foAll : ∀ n:Nat,∀ k,k<=n->MOk 165 ptr (pSum k)/\MOk 222 ptr (pProd k)/\MOk 256 ptr (pFac k)/\ ∀ kd:Int,MOk 278 (fun g=>[.pointer (some ⟨g,0,none⟩),.int .i64 kd]) (pCall k kd)
 | 0,k,hk=>by
  have:k=0:=by omega
  subst this
  refine ⟨?_, ?_, ?_,fun kd=> ?_⟩<;>intro h g l r _ _ hne
  ·rw [pSum] at hne;exact absurd rfl hne
  ·rw [pProd] at hne;exact absurd rfl hne
  ·rw [pFac] at hne;exact absurd rfl hne
  ·rw [pCall] at hne;exact absurd rfl hne
 | n+1,k,hk=>by
  have ih:=foAll n
  rcases Nat.lt_or_ge k (n+1) with q | q
  ·exact ih k (by omega)
  ·have:k=n+1:=by omega
   subst this
   exact ⟨foSum_step fun k hk=>(ih k hk).2.1,foProd_step fun k hk=>(ih k hk).2.2.1,foFac_step (ih n (Nat.le_refl _)).2.2.1 (ih n (Nat.le_refl _)).1 (ih n (Nat.le_refl _)).2.2.2,fun kd=>foCall_step kd fun k hk=>(ih k hk).1⟩
def FpR (o:Except Int Ex) (h:Heap) (r:Value) (h' : Heap):Prop:=
 Le h h' /\ match o with
  | .error e=>e≠0/\r = .tuple #[.agg zE.toArray,.int .i64 e]
  | .ok x=> ∃ vs:List Value,r = .tuple #[.agg vs.toArray,.int .i64 0]/\IsE h' x vs/\Szs x/\chkV x 1=0
theorem foParse_c {s:List UInt8} (hfu:pSum 4000 s ≠ .error 99) (h:Heap):CallsU Tryz.prog 92 [sv s] h (FpR (foParseV s) h):=by
 apply formula_Parse_ok
 unfold formula_Parse_vc foParseV
 rw [ba_size]
 refine Br.mk (fun q=> ?_) (fun q=> ?_)
 ·rw [if_pos (by have:=of_decide_eq_true q;omega)]
  exact ⟨Le.refl _,by decide,rfl⟩
 ·have hl:s.length<=400:=by have:=of_decide_eq_false q;omega
  rw [if_neg (by omega)]
  rintro g _ hg rfl
  refine ⟨_,Heap.put_same _ _ _,rfl,rfl,by simp, ?_⟩
  rintro _ rfl
  have hps:Ps (Heap.put (Heap.put h g ⟨[Value.string ByteArray.empty,Value.int .i64 0],193,(0,0)⟩) g ⟨setSeg [Value.string ByteArray.empty,Value.int .i64 0] 0 [sv s,Value.int .i64 0],193,(0,0)⟩) g s s:=
   ⟨[],193,rfl,by rw [Heap.put_same];rfl⟩
  have hho:hole (Heap.put (Heap.put h g ⟨[Value.string ByteArray.empty,Value.int .i64 0],193,(0,0)⟩) g ⟨setSeg [Value.string ByteArray.empty,Value.int .i64 0] 0 [sv s,Value.int .i64 0],193,(0,0)⟩) g=h:=by
   rw [hole_put,hole_put,hole_none hg]
  refine ((foAll 4000 4000 (Nat.le_refl _)).1 hps hl hfu).mono ?_
  intro v h1 hP
  have hle1:=hP.1
  rw [hho] at hle1
  have hle1' : Le h h1:=hle1.trans (hole_le _ _)
  cases hoo:pSum 4000 s with
  | error e=>
   rw [hoo] at hP
   obtain ⟨_,he,rfl⟩:=hP
   refine ⟨_,_,_,_,_,_,_,_,_,_,_,_,_,rfl,fun err h' => err=e/\h' = h1, ?_,Br.mk (fun q=>absurd (beq_iff_eq.1 q) he) (fun _=>⟨rfl,rfl⟩)⟩
   rintro _ _ ⟨rfl,rfl⟩
   exact Br.mk (fun q=>absurd (beq_iff_eq.1 q) he) (fun _=>Br.mk (fun _=>⟨hle1', he,rfl⟩) (fun q=>by rw [bne_eq_false_iff_eq] at q;exact absurd q he))
  | ok p=>
   obtain ⟨x,r'⟩:=p
   rw [hoo] at hP
   obtain ⟨_,vs,rfl,ux,zx,hp2⟩:=hP
   have ux' := ux
   obtain ⟨s3,A3,c3,B3,d3,K3,kc3,rfl,_,_,_⟩:=ux'.open
   refine ⟨_,_,_,_,_,_,_,_,_,_,_,_,_,rfl,fun err h' => hole h' g=hole h1 g/\err=if tk r' = [] then 0 else 2, ?_,Br.mk (fun _=> ?_) (fun q=>by exact absurd q (by decide))⟩
   ·rintro _ h2 ⟨ho2,rfl⟩
    have hle2:Le h h2:=by
     rw [<- ho2] at hle1
     exact hle1.trans (hole_le _ _)
    have ux2:IsE h2 x _:=IsE.mono (hole_le _ g) _ _ (by rw [ho2];exact ux)
    simp only
    by_cases ht:tk r' = []
    ·rw [if_pos ht,if_pos ht]
     refine Br.mk (fun _=>(foChk_c ux2 zx).mono ?_) (fun q=>by exact absurd q (by decide))
     rintro _ h3 ⟨rfl,hle3⟩
     refine ⟨_,rfl,Br.mk (fun q=> ?_) (fun q=> ?_)⟩
     ·have h0:chkV x 1≠0:=by simpa using q
      rw [if_neg h0]
      exact ⟨hle2.trans hle3,h0,rfl⟩
     ·have h0:chkV x 1=0:=by simpa using q
      rw [if_pos h0]
      exact ⟨hle2.trans hle3,_,rfl,IsE.mono hle3 _ _ ux2,zx,h0⟩
    ·rw [if_neg ht,if_neg ht]
     exact Br.mk (fun q=>by exact absurd q (by decide)) (fun _=>Br.mk (fun _=>⟨hle2,by decide,rfl⟩) (fun q=>by exact absurd q (by decide)))
   ·refine (foNext_c hp2 (by omega)).mono ?_
    rintro _ h2 ⟨rfl,_,ho2⟩
    have b0:(⟨#[]⟩:ByteArray).toList=[]:=bytes_toList []
    refine ⟨_,rfl, ?_⟩
    rw [bytes_toList,b0]
    refine Br.mk (fun q=>⟨ho2, ?_⟩) (fun q=>⟨ho2, ?_⟩)
    ·have:tk r' ≠ []:=by simpa using q
     rw [if_neg this]
    ·have:tk r' = []:=by simpa using q
     rw [if_pos this]
mutual
def namesE:Ex->List (List UInt8)
 | .mk k _ _ _ nm kids=>(if k=2 then [nm] else [])++namesL kids
def namesL:List Ex->List (List UInt8)
 | []=>[]
 | e::es=>namesE e++namesL es
end
end Go.Proofs.YtfglcgbgaeegaaaGreatDoor

namespace Go.Proofs.YtfglcgbgaeegaaaGreatDoor
open Go Go.Vcg Go.RowKit Go.Sort
end Go.Proofs.YtfglcgbgaeegaaaGreatDoor

namespace Go.Proofs.YtfglcgbgaeegaaaGreatDoor
def sm (f:Nat->Nat):Nat->Nat
 | 0=>0
 | n+1=>sm f n+f n
def stf (d M n f:Nat):Nat:=chs d f*chs M (n-f)
def acc (n c d M:Nat):Nat:=sm (stf d M n) (c+1)
def cnt (p:Nat->Bool):Nat->Nat
 | 0=>0
 | k+1=>cnt p k+if p k then 1 else 0
end Go.Proofs.YtfglcgbgaeegaaaGreatDoor

namespace Go.Proofs.YtfglcgbgaeegaaaGreatDoor
open Go
end Go.Proofs.YtfglcgbgaeegaaaGreatDoor

namespace Go.Proofs.YtfglcgbgaeegaaaGreatDoor
open Go Go.Vcg
def ref19_Light_vc (a:OA) (b _c:Nat) (h:Heap) (R:Value->Heap->Prop):Prop:=
 Br (decide ((b:Int)>70))
 (R (.bool false) h)
 (∃ d:Nat->Int->Heap->Prop,(∃ e,d e 0 h)/\
 ∀ (e:Nat) (d4:Int) (d5:Heap),d e d4 d5->
 Br (decide (d4<(b:Int)))
 (∃ f:Bool->Heap->Prop,(∀ (d6:Bool) (d7:Heap),f d6 d7->
 Br (d6)
 (R (.bool false) d7)
 (∃ g:Nat->Int->Heap->Prop,(∃ i,g i 0 d7)/\
 ∀ (i:Nat) (d8:Int) (d9:Heap),g i d8 d9->
 ∃ j:Addr,a=some j/\0<=d4/\d4<(b:Int)/\
 ∃ k l m,LdN d9 (Addr.add (Addr.add j (Int.toNat d4*4)) 2) [.slice k l m]/\
 Br (decide (d8<(l:Int)))
 (∃ n:Addr,a=some n/\0<=d4/\d4<(b:Int)/\
 ∃ o p q,LdN d9 (Addr.add (Addr.add n (Int.toNat d4*4)) 2) [.slice o p q]/\
 ∃ r:Addr,o=some r/\0<=d8/\d8<(p:Int)/\
 ∃ s,LdN d9 (Addr.add r (Int.toNat d8*1)) [.string s]/\
 Br (decide ((s.size:Int)>100))
 (R (.bool false) d9)
 (∀ d1:Int,d1=IntKind.i64.wrap (d8+1)->
 ∃ t,t<i/\g t d1 d9))
 (∃ u:Nat->Int->Heap->Prop,(∃ v,u v 0 d9)/\
 ∀ (v:Nat) (e0:Int) (e1:Heap),u v e0 e1->
 ∃ w:Addr,a=some w/\0<=d4/\d4<(b:Int)/\
 ∃ y z a0,LdN e1 (Addr.add (Addr.add w (Int.toNat d4*4)) 3) [.slice y z a0]/\
 Br (decide (e0<(z:Int)))
 (∃ a1:Addr,a=some a1/\0<=d4/\d4<(b:Int)/\
 ∃ a2 a3 a4,LdN e1 (Addr.add (Addr.add a1 (Int.toNat d4*4)) 3) [.slice a2 a3 a4]/\
 ∃ a5:Addr,a2=some a5/\0<=e0/\e0<(a3:Int)/\
 ∃ a6 a7 a8 a9 b0 b1 b2 b3 b4 b5 b6 b7,LdN e1 (Addr.add a5 (Int.toNat e0*6)) [.int .i64 a6,.bool a7,.slice a8 a9 b0,.slice b1 b2 b3,.string b4,.slice b5 b6 b7]/\
 CallsU Tryz.prog 45 [.agg #[.int .i64 a6,.bool a7,.slice a8 a9 b0,.slice b1 b2 b3,.string b4,.slice b5 b6 b7]] e1 fun e2 e3=>
 ∃ b8,e2 = .bool b8/\
 Br (!b8)
 (R (.bool false) e3)
 (∀ d2:Int,d2=IntKind.i64.wrap (e0+1)->
 ∃ b9,b9<v/\u b9 d2 e3))
 (∀ d3:Int,d3=IntKind.i64.wrap (d4+1)->
 ∃ c0,c0<e/\d c0 d3 e1))))/\
 ∃ c1:Addr,a=some c1/\0<=d4/\d4<(b:Int)/\
 ∃ c2,LdN d5 (Addr.add (Addr.add c1 (Int.toNat d4*4)) 0) [.string c2]/\
 Br (decide ((c2.size:Int)>100))
 (f true d5)
 (∃ c3:Addr,a=some c3/\0<=d4/\d4<(b:Int)/\
 ∃ c4 c5 c6,LdN d5 (Addr.add (Addr.add c3 (Int.toNat d4*4)) 2) [.slice c4 c5 c6]/\
 Br (decide ((c5:Int)>6))
 (f true d5)
 (∃ c7:Addr,a=some c7/\0<=d4/\d4<(b:Int)/\
 ∃ c8 c9 d0,LdN d5 (Addr.add (Addr.add c7 (Int.toNat d4*4)) 3) [.slice c8 c9 d0]/\
 f (decide ((c9:Int)>4)) d5)))
 (R (.bool true) d5))
theorem ref19_Light_ok {a:OA} {b c:Nat} {h:Heap} {R:Value->Heap->Prop} (hv:ref19_Light_vc a b c h R):CallsU Tryz.prog 22 [.slice a b c] h R:=
 fn_ok Tryz.func22 (fun _=>false) (.two .nil (.two .nil (.two (.two .nil (.one (.loop ⟨[(3,Sh.int .i64)],[]⟩ (.two .nil (.two (.one (.two (.cut ⟨[(39,Sh.bool)],[]⟩ .nil .nil) (.two (.two .nil (.one (.loop ⟨[(4,Sh.int .i64)],[]⟩ .nil))) (.two .nil (.one (.loop ⟨[(5,Sh.int .i64)],[]⟩ .nil)))))) .nil))))) .nil))) hv
def ref19_Check_vc (a:OA) (b c:Nat) (h:Heap) (R:Value->Heap->Prop):Prop:=
 CallsU Tryz.prog 46 [.slice a b c] h fun f g=>
 ∃ d e,f = .tuple #[.int .i64 d,.int .i64 e]/\
 R (.int .i64 d) g
theorem ref19_Check_ok {a:OA} {b c:Nat} {h:Heap} {R:Value->Heap->Prop} (hv:ref19_Check_vc a b c h R):CallsU Tryz.prog 23 [.slice a b c] h R:=
 fn_ok Tryz.func23 (fun _=>false) .nil hv
def ref08_Exact_vc (a:Bool) (b:OA) (c d:Nat) (e:OA) (f g:Nat) (i:Bool) (j:OA) (k l:Nat) (m:OA) (n o:Nat) (p:Bool) (q:OA) (r s:Nat) (t:OA) (u v:Nat) (w:Bool) (y:OA) (z a0:Nat) (a1:OA) (a2 a3:Nat) (h:Heap) (R:Value->Heap->Prop):Prop:=
 CallsU Tryz.prog 66 [.agg #[.bool a,.slice b c d,.slice e f g],.agg #[.bool p,.slice q r s,.slice t u v]] h fun a6 a7=>
 ∃ a4,a6 = .bool a4/\
 Br (a4)
 (CallsU Tryz.prog 66 [.agg #[.bool i,.slice j k l,.slice m n o],.agg #[.bool w,.slice y z a0,.slice a1 a2 a3]] a7 fun a8 a9=>
 ∃ a5,a8 = .bool a5/\
 R (.bool a5) a9)
 (R (.bool false) a7)
theorem ref08_Exact_ok {a:Bool} {b:OA} {c d:Nat} {e:OA} {f g:Nat} {i:Bool} {j:OA} {k l:Nat} {m:OA} {n o:Nat} {p:Bool} {q:OA} {r s:Nat} {t:OA} {u v:Nat} {w:Bool} {y:OA} {z a0:Nat} {a1:OA} {a2 a3:Nat} {h:Heap} {R:Value->Heap->Prop} (hv:ref08_Exact_vc a b c d e f g i j k l m n o p q r s t u v w y z a0 a1 a2 a3 h R):CallsU Tryz.prog 33 [.agg #[.bool a,.slice b c d,.slice e f g,.bool i,.slice j k l,.slice m n o],.agg #[.bool p,.slice q r s,.slice t u v,.bool w,.slice y z a0,.slice a1 a2 a3]] h R:=
 fn_ok Tryz.func33 (fun _=>false) .nil hv
def ref08_Of_vc (a:Int) (b:Int) (h:Heap) (R:Value->Heap->Prop):Prop:=
 CallsU Tryz.prog 67 [.int .i64 a] h fun r s=>
 ∃ c d e f g i j,r = .agg #[.bool c,.slice d e f,.slice g i j]/\
 CallsU Tryz.prog 67 [.int .i64 b] s fun t u=>
 ∃ k l m n o p q,t = .agg #[.bool k,.slice l m n,.slice o p q]/\
 R (.agg #[.bool c,.slice d e f,.slice g i j,.bool k,.slice l m n,.slice o p q]) u
theorem ref08_Of_ok {a:Int} {b:Int} {h:Heap} {R:Value->Heap->Prop} (hv:ref08_Of_vc a b h R):CallsU Tryz.prog 34 [.int .i64 a,.int .i64 b] h R:=
 fn_ok Tryz.func34 (fun _=>false) .nil hv
def ref08_Add_vc (a:Bool) (b:OA) (c d:Nat) (e:OA) (f g:Nat) (i:Bool) (j:OA) (k l:Nat) (m:OA) (n o:Nat) (p:Bool) (q:OA) (r s:Nat) (t:OA) (u v:Nat) (w:Bool) (y:OA) (z a0:Nat) (a1:OA) (a2 a3:Nat) (h:Heap) (R:Value->Heap->Prop):Prop:=
 CallsU Tryz.prog 68 [.agg #[.bool a,.slice b c d,.slice e f g],.agg #[.bool p,.slice q r s,.slice t u v]] h fun b8 b9=>
 ∃ a4 a5 a6 a7 a8 a9 b0,b8 = .agg #[.bool a4,.slice a5 a6 a7,.slice a8 a9 b0]/\
 LeH h b9/\
 CallsU Tryz.prog 68 [.agg #[.bool i,.slice j k l,.slice m n o],.agg #[.bool w,.slice y z a0,.slice a1 a2 a3]] b9 fun c0 c1=>
 ∃ b1 b2 b3 b4 b5 b6 b7,c0 = .agg #[.bool b1,.slice b2 b3 b4,.slice b5 b6 b7]/\
 R (.agg #[.bool a4,.slice a5 a6 a7,.slice a8 a9 b0,.bool b1,.slice b2 b3 b4,.slice b5 b6 b7]) c1
theorem ref08_Add_ok {a:Bool} {b:OA} {c d:Nat} {e:OA} {f g:Nat} {i:Bool} {j:OA} {k l:Nat} {m:OA} {n o:Nat} {p:Bool} {q:OA} {r s:Nat} {t:OA} {u v:Nat} {w:Bool} {y:OA} {z a0:Nat} {a1:OA} {a2 a3:Nat} {h:Heap} {R:Value->Heap->Prop} (hv:ref08_Add_vc a b c d e f g i j k l m n o p q r s t u v w y z a0 a1 a2 a3 h R):CallsU Tryz.prog 35 [.agg #[.bool a,.slice b c d,.slice e f g,.bool i,.slice j k l,.slice m n o],.agg #[.bool p,.slice q r s,.slice t u v,.bool w,.slice y z a0,.slice a1 a2 a3]] h R:=
 fn_ok Tryz.func35 (fun _=>false) (.two .nil (.two (.ord [0,1,2,3,5,6,7,8,4,9,10,11]) .nil)) hv
def ref03_Of_vc (a:Int) (b:Int) (h:Heap) (R:Value->Heap->Prop):Prop:=
 Br ((b:Int)==0)
 (R (.tuple #[.agg #[.bool false,.slice none 0 0,.slice none 0 0],.bool false]) h)
 (CallsU Tryz.prog 69 [.int .i64 a] h fun s t=>
 ∃ c d e f,s = .agg #[.bool c,.slice d e f]/\
 CallsU Tryz.prog 69 [.int .i64 b] t fun u v=>
 ∃ g i j k,u = .agg #[.bool g,.slice i j k]/\
 CallsU Tryz.prog 70 [.bool (!(c==g)),.slice d e f,.slice i j k] v fun w y=>
 ∃ l m n o p q r,w = .agg #[.bool l,.slice m n o,.slice p q r]/\
 R (.tuple #[.agg #[.bool l,.slice m n o,.slice p q r],.bool true]) y)
theorem ref03_Of_ok {a:Int} {b:Int} {h:Heap} {R:Value->Heap->Prop} (hv:ref03_Of_vc a b h R):CallsU Tryz.prog 36 [.int .i64 a,.int .i64 b] h R:=
 fn_ok Tryz.func36 (fun _=>false) .nil hv
def ref17_Small_vc (a:Int) (b:Bool) (c:OA) (d e:Nat) (f:OA) (g i:Nat) (j:ByteArray) (k:OA) (l m:Nat) (h:Heap) (R:Value->Heap->Prop):Prop:=
 CallsU Tryz.prog 88 [.agg #[.int .i64 a,.bool b,.slice c d e,.slice f g i,.string j,.slice k l m],.int .i64 60,.int .i64 20] h fun o p=>
 ∃ n,o = .int .i64 n/\
 R (.bool (decide (n>=0))) p
theorem ref17_Small_ok {a:Int} {b:Bool} {c:OA} {d e:Nat} {f:OA} {g i:Nat} {j:ByteArray} {k:OA} {l m:Nat} {h:Heap} {R:Value->Heap->Prop} (hv:ref17_Small_vc a b c d e f g i j k l m h R):CallsU Tryz.prog 45 [.agg #[.int .i64 a,.bool b,.slice c d e,.slice f g i,.string j,.slice k l m]] h R:=
 fn_ok Tryz.func45 (fun _=>false) .nil hv
def ref19_check_vc (a:OA) (b c:Nat) (h:Heap) (R:Value->Heap->Prop):Prop:=
 Br (decide ((b:Int)>64))
 (R (.tuple #[.int .i64 5,.int .i64 64]) h)
 (∃ d:Nat->Int->Heap->Prop,(∃ e,d e 0 h)/\
 ∀ (e:Nat) (a3:Int) (a4:Heap),d e a3 a4->
 Br (decide (a3<(b:Int)))
 (∃ f:Addr,a=some f/\0<=a3/\a3<(b:Int)/\
 ∃ g i j k l m n o,LdN a4 (Addr.add f (Int.toNat a3*4)) [.string g,.int .i64 i,.slice j k l,.slice m n o]/\
 CallsU Tryz.prog 89 [.agg #[.string g,.int .i64 i,.slice j k l,.slice m n o]] a4 fun a5 a6=>
 ∃ p,a5 = .int .i64 p/\
 Br ((p:Int) != 0)
 (R (.tuple #[.int .i64 p,.int .i64 a3]) a6)
 (((0:Nat):Int)<=a3/\a3<=(c:Int)/\
 ∃ q:Addr,a=some q/\0<=a3/\a3<(b:Int)/\
 ∃ r s t u v w y z,LdN a6 (Addr.add q (Int.toNat a3*4)) [.string r,.int .i64 s,.slice t u v,.slice w y z]/\
 CallsU Tryz.prog 52 [.slice a (Int.toNat a3) c,.agg #[.string r,.int .i64 s,.slice t u v,.slice w y z]] a6 fun a7 a8=>
 ∃ a0,a7 = .int .i64 a0/\
 Br ((a0:Int) != 0)
 (R (.tuple #[.int .i64 a0,.int .i64 a3]) a8)
 (∀ a2:Int,a2=IntKind.i64.wrap (a3+1)->
 ∃ a1,a1<e/\d a1 a2 a8)))
 (R (.tuple #[.int .i64 0,.int .i64 0]) a4))
theorem ref19_check_ok {a:OA} {b c:Nat} {h:Heap} {R:Value->Heap->Prop} (hv:ref19_check_vc a b c h R):CallsU Tryz.prog 46 [.slice a b c] h R:=
 fn_ok Tryz.func46 (fun _=>false) (.two .nil (.two .nil (.two (.two .nil (.one (.loop ⟨[(4,Sh.int .i64)],[]⟩ (.two .nil (.two (.one (.two .nil (.two (.ord [0,1,2,3,4,5,6,7,8]) .nil))) .nil))))) .nil))) hv
def ref19_known_vc (a:OA) (b c:Nat) (d:ByteArray) (_e:Int) (f:OA) (g _i:Nat) (_j:OA) (_k _l:Nat) (h:Heap) (R:Value->Heap->Prop):Prop:=
 CallsU Tryz.prog 100 [.slice a b c,.string d] h fun w y=>
 ∃ m,w = .int .i64 m/\
 Br (decide (m>=0))
 (R (.int .i64 7) y)
 (∃ n:Nat->Int->Heap->Prop,(∃ o,n o 0 y)/\
 ∀ (o:Nat) (u:Int) (v:Heap),n o u v->
 Br (decide (u<(g:Int)))
 (∃ p:Addr,f=some p/\0<=u/\u<(g:Int)/\
 ∃ q,LdN v (Addr.add p (Int.toNat u*1)) [.string q]/\
 CallsU Tryz.prog 100 [.slice a b c,.string q] v fun z a0=>
 ∃ r,z = .int .i64 r/\
 Br (decide (r<0))
 (R (.int .i64 6) a0)
 (∀ t:Int,t=IntKind.i64.wrap (u+1)->
 ∃ s,s<o/\n s t a0))
 (R (.int .i64 0) v))
theorem ref19_known_ok {a:OA} {b c:Nat} {d:ByteArray} {e:Int} {f:OA} {g i:Nat} {j:OA} {k l:Nat} {h:Heap} {R:Value->Heap->Prop} (hv:ref19_known_vc a b c d e f g i j k l h R):CallsU Tryz.prog 52 [.slice a b c,.agg #[.string d,.int .i64 e,.slice f g i,.slice j k l]] h R:=
 fn_ok Tryz.func52 (fun _=>false) (.two .nil (.two .nil (.two (.two .nil (.one (.loop ⟨[(5,Sh.int .i64)],[]⟩ .nil))) .nil))) hv
def ref03_Whole_vc (n:Int) (h:Heap) (R:Value->Heap->Prop):Prop:=
 CallsU Tryz.prog 69 [.int .i64 n] h fun i j=>
 ∃ a b c d,i = .agg #[.bool a,.slice b c d]/\
 CallsU Tryz.prog 116 [.int .u64 1] j fun k l=>
 ∃ e f g,k = .slice e f g/\
 R (.agg #[.bool a,.slice b c d,.slice e f g]) l
theorem ref03_Whole_ok {n:Int} {h:Heap} {R:Value->Heap->Prop} (hv:ref03_Whole_vc n h R):CallsU Tryz.prog 65 [.int .i64 n] h R:=
 fn_ok Tryz.func65 (fun _=>false) .nil hv
def ref08_SameRatio_vc (a:Bool) (b:OA) (c d:Nat) (e:OA) (f g:Nat) (i:Bool) (j:OA) (k l:Nat) (m:OA) (n o:Nat) (h:Heap) (R:Value->Heap->Prop):Prop:=
 CallsU Tryz.prog 117 [.agg #[.bool a,.slice b c d],.agg #[.bool i,.slice j k l]] h fun r s=>
 ∃ p,r = .bool p/\
 Br (p)
 (CallsU Tryz.prog 118 [.slice e f g,.slice m n o] s fun t u=>
 ∃ q,t = .bool q/\
 R (.bool q) u)
 (R (.bool false) s)
theorem ref08_SameRatio_ok {a:Bool} {b:OA} {c d:Nat} {e:OA} {f g:Nat} {i:Bool} {j:OA} {k l:Nat} {m:OA} {n o:Nat} {h:Heap} {R:Value->Heap->Prop} (hv:ref08_SameRatio_vc a b c d e f g i j k l m n o h R):CallsU Tryz.prog 66 [.agg #[.bool a,.slice b c d,.slice e f g],.agg #[.bool i,.slice j k l,.slice m n o]] h R:=
 fn_ok Tryz.func66 (fun _=>false) .nil hv
def ref08_whole_vc (n:Int) (h:Heap) (R:Value->Heap->Prop):Prop:=
 CallsU Tryz.prog 36 [.int .i64 n,.int .i64 1] h fun j k=>
 ∃ a b c d e f g i,j = .tuple #[.agg #[.bool a,.slice b c d,.slice e f g],.bool i]/\
 R (.agg #[.bool a,.slice b c d,.slice e f g]) k
theorem ref08_whole_ok {n:Int} {h:Heap} {R:Value->Heap->Prop} (hv:ref08_whole_vc n h R):CallsU Tryz.prog 67 [.int .i64 n] h R:=
 fn_ok Tryz.func67 (fun _=>false) .nil hv
def ref03_Add_vc (a:Bool) (b:OA) (c d:Nat) (e:OA) (f g:Nat) (i:Bool) (j:OA) (k l:Nat) (m:OA) (n o:Nat) (h:Heap) (R:Value->Heap->Prop):Prop:=
 CallsU Tryz.prog 119 [.agg #[.bool a,.slice b c d,.slice e f g]] h fun c6 c7=>
 ∃ p q r s t u v,c6 = .agg #[.bool p,.slice q r s,.slice t u v]/\
 LeH h c7/\
 CallsU Tryz.prog 119 [.agg #[.bool i,.slice j k l,.slice m n o]] c7 fun c8 c9=>
 ∃ w y z a0 a1 a2 a3,c8 = .agg #[.bool w,.slice y z a0,.slice a1 a2 a3]/\
 CallsU Tryz.prog 121 [.agg #[.bool p,.slice q r s],.agg #[.bool false,.slice a1 a2 a3]] c9 fun d0 d1=>
 ∃ a4 a5 a6 a7,d0 = .agg #[.bool a4,.slice a5 a6 a7]/\
 LeH c9 d1/\
 CallsU Tryz.prog 121 [.agg #[.bool w,.slice y z a0],.agg #[.bool false,.slice t u v]] d1 fun d2 d3=>
 ∃ a8 a9 b0 b1,d2 = .agg #[.bool a8,.slice a9 b0 b1]/\
 CallsU Tryz.prog 120 [.agg #[.bool a4,.slice a5 a6 a7],.agg #[.bool a8,.slice a9 b0 b1]] d3 fun d4 d5=>
 ∃ b2 b3 b4 b5,d4 = .agg #[.bool b2,.slice b3 b4 b5]/\
 CallsU Tryz.prog 122 [.slice t u v,.slice a1 a2 a3] d5 fun d6 d7=>
 ∃ b6 b7 b8,d6 = .slice b6 b7 b8/\
 LeH d5 d7/\
 CallsU Tryz.prog 70 [.bool b2,.slice b3 b4 b5,.slice b6 b7 b8] d7 fun d8 d9=>
 ∃ b9 c0 c1 c2 c3 c4 c5,d8 = .agg #[.bool b9,.slice c0 c1 c2,.slice c3 c4 c5]/\
 R (.agg #[.bool b9,.slice c0 c1 c2,.slice c3 c4 c5]) d9
theorem ref03_Add_ok {a:Bool} {b:OA} {c d:Nat} {e:OA} {f g:Nat} {i:Bool} {j:OA} {k l:Nat} {m:OA} {n o:Nat} {h:Heap} {R:Value->Heap->Prop} (hv:ref03_Add_vc a b c d e f g i j k l m n o h R):CallsU Tryz.prog 68 [.agg #[.bool a,.slice b c d,.slice e f g],.agg #[.bool i,.slice j k l,.slice m n o]] h R:=
 fn_ok Tryz.func68 (fun _=>false) (.two .nil (.two (.ord [0,2,1,3,4,5,6,7]) (.two (.ord [0,1,2,3,4,6,7,8,9,10,5,11,12,13,14]) (.two (.ord [0,1,2,3,4,5,6,7,8,9,10]) .nil)))) hv
def ref02_Of_vc (n:Int) (h:Heap) (R:Value->Heap->Prop):Prop:=
 Br (decide (n<0))
 (∀ g:Int,g=IntKind.i64.wrap (n+1)->
 ∀ i:Int,i=IntKind.i64.wrap (0-g)->
 ∀ j:Int,j=IntKind.u64.wrap ((IntKind.u64.wrap i)+1)->
 CallsU Tryz.prog 116 [.int .u64 j] h fun k l=>
 ∃ a b c,k = .slice a b c/\
 R (.agg #[.bool true,.slice a b c]) l)
 (CallsU Tryz.prog 116 [.int .u64 (IntKind.u64.wrap n)] h fun m o=>
 ∃ d e f,m = .slice d e f/\
 R (.agg #[.bool false,.slice d e f]) o)
theorem ref02_Of_ok {n:Int} {h:Heap} {R:Value->Heap->Prop} (hv:ref02_Of_vc n h R):CallsU Tryz.prog 69 [.int .i64 n] h R:=
 fn_ok Tryz.func69 (fun _=>false) .nil hv
def ref03_reduce_vc (a:Bool) (b:OA) (c d:Nat) (e:OA) (f g:Nat) (h:Heap) (R:Value->Heap->Prop):Prop:=
 CallsU Tryz.prog 123 [.slice b c d,.slice e f g] h fun a4 a5=>
 ∃ i j k,a4 = .slice i j k/\
 CallsU Tryz.prog 124 [.slice b c d,.slice i j k] a5 fun a6 a7=>
 ∃ l m n o p q r,a6 = .tuple #[.slice l m n,.slice o p q,.bool r]/\
 CallsU Tryz.prog 124 [.slice e f g,.slice i j k] a7 fun a8 a9=>
 ∃ s t u v w y z,a8 = .tuple #[.slice s t u,.slice v w y,.bool z]/\
 CallsU Tryz.prog 125 [.agg #[.bool a,.slice l m n]] a9 fun b0 b1=>
 ∃ a0 a1 a2 a3,b0 = .agg #[.bool a0,.slice a1 a2 a3]/\
 R (.agg #[.bool a0,.slice a1 a2 a3,.slice s t u]) b1
theorem ref03_reduce_ok {a:Bool} {b:OA} {c d:Nat} {e:OA} {f g:Nat} {h:Heap} {R:Value->Heap->Prop} (hv:ref03_reduce_vc a b c d e f g h R):CallsU Tryz.prog 70 [.bool a,.slice b c d,.slice e f g] h R:=
 fn_ok Tryz.func70 (fun _=>false) .nil hv
def ref17_Left_vc (_a:Int) (_b:Bool) (_c:OA) (d _e:Nat) (_f:OA) (g _i:Nat) (j:ByteArray) (k:OA) (l _m:Nat) (n:Int) (o:Int) (h:Heap) (R:Value->Heap->Prop):Prop:=
 ∃ p:Bool->Heap->Prop,(∀ (b2:Bool) (b3:Heap),p b2 b3->
 Br (b2)
 (R (.int .i64 (-1)) b3)
 (∀ a9:Int,a9=IntKind.i64.wrap (n-1)->
 ∃ q:Nat->Int->Int->Heap->Prop,(∃ r,q r a9 0 b3)/\
 ∀ (r:Nat) (b4:Int) (b5:Int) (b6:Heap),q r b4 b5 b6->
 ∃ s:Bool->Heap->Prop,(∀ (b7:Bool) (b8:Heap),s b7 b8->
 Br (b7)
 (∃ t:Addr,k=some t/\0<=b5/\b5<(l:Int)/\
 ∃ u v w y z a0 a1 a2 a3 a4 a5 a6,LdN b8 (Addr.add t (Int.toNat b5*6)) [.int .i64 u,.bool v,.slice w y z,.slice a0 a1 a2,.string a3,.slice a4 a5 a6]/\
 ∀ b0:Int,b0=IntKind.i64.wrap (o-1)->
 CallsU Tryz.prog 88 [.agg #[.int .i64 u,.bool v,.slice w y z,.slice a0 a1 a2,.string a3,.slice a4 a5 a6],.int .i64 b4,.int .i64 b0] b8 fun b9 c0=>
 ∃ a7,b9 = .int .i64 a7/\
 ∀ b1:Int,b1=IntKind.i64.wrap (b5+1)->
 ∃ a8,a8<r/\q a8 a7 b1 c0)
 (R (.int .i64 b4) b8))/\
 Br (decide (b5<(l:Int)))
 (s (decide (b4>=0)) b6)
 (s false b6)))/\
 Br (decide (n<1))
 (p true h)
 (Br (decide (o<1))
 (p true h)
 (Br (decide ((j.size:Int)>60))
 (p true h)
 (Br (decide ((d:Int)>4))
 (p true h)
 (p (decide ((g:Int)>4)) h))))
theorem ref17_Left_ok {a:Int} {b:Bool} {c:OA} {d e:Nat} {f:OA} {g i:Nat} {j:ByteArray} {k:OA} {l m:Nat} {n:Int} {o:Int} {h:Heap} {R:Value->Heap->Prop} (hv:ref17_Left_vc a b c d e f g i j k l m n o h R):CallsU Tryz.prog 88 [.agg #[.int .i64 a,.bool b,.slice c d e,.slice f g i,.string j,.slice k l m],.int .i64 n,.int .i64 o] h R:=
 fn_ok Tryz.func88 (fun _=>false) (.two .nil (.two (.cut ⟨[(34,Sh.bool)],[]⟩ .nil .nil) (.two .nil (.two (.two .nil (.one (.loop ⟨[(1,Sh.int .i64),(7,Sh.int .i64)],[]⟩ (.two (.cut ⟨[(45,Sh.bool)],[]⟩ .nil .nil) .nil)))) .nil)))) hv
def ref19_form_vc (a:ByteArray) (b:Int) (_c:OA) (d _e:Nat) (f:OA) (g _i:Nat) (h:Heap) (R:Value->Heap->Prop):Prop:=
 ∃ j:Bool->Heap->Prop,(∀ (a7:Bool) (a8:Heap),j a7 a8->
 Br (a7)
 (R (.int .i64 1) a8)
 (∃ k:Nat->Int->Heap->Prop,(∃ l,k l 0 a8)/\
 ∀ (l:Nat) (a9:Int) (b0:Heap),k l a9 b0->
 Br (decide (a9<(g:Int)))
 (∃ m:Addr,f=some m/\0<=a9/\a9<(g:Int)/\
 ∃ n o p q r s t u v w y z,LdN b0 (Addr.add m (Int.toNat a9*6)) [.int .i64 n,.bool o,.slice p q r,.slice s t u,.string v,.slice w y z]/\
 CallsU Tryz.prog 107 [.agg #[.int .i64 n,.bool o,.slice p q r,.slice s t u,.string v,.slice w y z]] b0 fun b1 b2=>
 ∃ a0,b1 = .int .i64 a0/\
 Br ((a0:Int) != 0)
 (R (.int .i64 a0) b2)
 (∀ a6:Int,a6=IntKind.i64.wrap (a9+1)->
 ∃ a1,a1<l/\k a1 a6 b2))
 (R (.int .i64 0) b0)))/\
 CallsU Tryz.prog 157 [.string a] h fun b3 b4=>
 ∃ a2,b3 = .bool a2/\
 Br (!a2)
 (LeH b4 b4/\
 LeH b4 b4/\
 j true b4)
 (CallsU Tryz.prog 158 [.int .i64 b] b4 fun b5 b6=>
 ∃ a3,b5 = .int .i64 a3/\
 Br (decide (a3<0))
 (LeH b6 b6/\
 LeH b6 b6/\
 j true b6)
 (CallsU Tryz.prog 158 [.int .i64 b] b6 fun b7 b8=>
 ∃ a4,b7 = .int .i64 a4/\
 LeH b6 b8/\
 Br ((d:Int) != a4)
 (LeH b8 b8/\
 j true b8)
 (CallsU Tryz.prog 159 [.int .i64 b] b8 fun b9 c0=>
 ∃ a5,b9 = .int .i64 a5/\
 LeH b8 c0/\
 j ((g:Int) != a5) c0)))
theorem ref19_form_ok {a:ByteArray} {b:Int} {c:OA} {d e:Nat} {f:OA} {g i:Nat} {h:Heap} {R:Value->Heap->Prop} (hv:ref19_form_vc a b c d e f g i h R):CallsU Tryz.prog 89 [.agg #[.string a,.int .i64 b,.slice c d e,.slice f g i]] h R:=
 fn_ok Tryz.func89 (fun _=>false) (.two .nil (.two (.cut ⟨[(32,Sh.bool)],[]⟩ (.ord [0,1,2,3,4,5,6,7,8,9,10,11,12,13,14,15,16,17,18,19,20,21,22,23,24,25,26,27]) .nil) (.two (.two .nil (.one (.loop ⟨[(3,Sh.int .i64)],[]⟩ .nil))) .nil))) hv
def ref19_find_vc (a:OA) (b _c:Nat) (d:ByteArray) (h:Heap) (R:Value->Heap->Prop):Prop:=
 ∃ e:Nat->Int->Heap->Prop,(∃ f,e f 0 h)/\
 ∀ (f:Nat) (l:Int) (m:Heap),e f l m->
 Br (decide (l<(b:Int)))
 (∃ g:Addr,a=some g/\0<=l/\l<(b:Int)/\
 ∃ i,LdN m (Addr.add (Addr.add g (Int.toNat l*4)) 0) [.string i]/\
 Br (i.toList==d.toList)
 (R (.int .i64 l) m)
 (∀ k:Int,k=IntKind.i64.wrap (l+1)->
 ∃ j,j<f/\e j k m))
 (R (.int .i64 (-1)) m)
theorem ref19_find_ok {a:OA} {b c:Nat} {d:ByteArray} {h:Heap} {R:Value->Heap->Prop} (hv:ref19_find_vc a b c d h R):CallsU Tryz.prog 100 [.slice a b c,.string d] h R:=
 fn_ok Tryz.func100 (fun _=>false) (.two .nil (.two (.two .nil (.one (.loop ⟨[(5,Sh.int .i64)],[]⟩ .nil))) .nil)) hv
def ref03_Cmp_vc (a:Bool) (b:OA) (c d:Nat) (e:OA) (f g:Nat) (i:Bool) (j:OA) (k l:Nat) (m:OA) (n o:Nat) (h:Heap) (R:Value->Heap->Prop):Prop:=
 CallsU Tryz.prog 119 [.agg #[.bool a,.slice b c d,.slice e f g]] h fun b3 b4=>
 ∃ p q r s t u v,b3 = .agg #[.bool p,.slice q r s,.slice t u v]/\
 LeH h b4/\
 CallsU Tryz.prog 119 [.agg #[.bool i,.slice j k l,.slice m n o]] b4 fun b5 b6=>
 ∃ w y z a0 a1 a2 a3,b5 = .agg #[.bool w,.slice y z a0,.slice a1 a2 a3]/\
 CallsU Tryz.prog 121 [.agg #[.bool p,.slice q r s],.agg #[.bool false,.slice a1 a2 a3]] b6 fun b7 b8=>
 ∃ a4 a5 a6 a7,b7 = .agg #[.bool a4,.slice a5 a6 a7]/\
 LeH b6 b8/\
 CallsU Tryz.prog 121 [.agg #[.bool w,.slice y z a0],.agg #[.bool false,.slice t u v]] b8 fun b9 c0=>
 ∃ a8 a9 b0 b1,b9 = .agg #[.bool a8,.slice a9 b0 b1]/\
 CallsU Tryz.prog 172 [.agg #[.bool a4,.slice a5 a6 a7],.agg #[.bool a8,.slice a9 b0 b1]] c0 fun c1 c2=>
 ∃ b2,c1 = .int .i64 b2/\
 R (.int .i64 b2) c2
theorem ref03_Cmp_ok {a:Bool} {b:OA} {c d:Nat} {e:OA} {f g:Nat} {i:Bool} {j:OA} {k l:Nat} {m:OA} {n o:Nat} {h:Heap} {R:Value->Heap->Prop} (hv:ref03_Cmp_vc a b c d e f g i j k l m n o h R):CallsU Tryz.prog 101 [.agg #[.bool a,.slice b c d,.slice e f g],.agg #[.bool i,.slice j k l,.slice m n o]] h R:=
 fn_ok Tryz.func101 (fun _=>false) (.two .nil (.two (.ord [0,2,1,3,4,5,6,7]) (.two (.ord [0,1,2,3,4,6,7,8,9,10,5,11,12,13]) .nil))) hv
def ref17_Check_vc (a:Int) (b:Bool) (c:OA) (d e:Nat) (f:OA) (g i:Nat) (j:ByteArray) (k:OA) (l m:Nat) (h:Heap) (R:Value->Heap->Prop):Prop:=
 CallsU Tryz.prog 177 [.agg #[.int .i64 a,.bool b,.slice c d e,.slice f g i,.string j,.slice k l m],.int .i64 1] h fun o p=>
 ∃ n,o = .int .i64 n/\
 R (.int .i64 n) p
theorem ref17_Check_ok {a:Int} {b:Bool} {c:OA} {d e:Nat} {f:OA} {g i:Nat} {j:ByteArray} {k:OA} {l m:Nat} {h:Heap} {R:Value->Heap->Prop} (hv:ref17_Check_vc a b c d e f g i j k l m h R):CallsU Tryz.prog 107 [.agg #[.int .i64 a,.bool b,.slice c d e,.slice f g i,.string j,.slice k l m]] h R:=
 fn_ok Tryz.func107 (fun _=>false) .nil hv
def ref01_Of_vc (n:Int) (h:Heap) (R:Value->Heap->Prop):Prop:=
 ∃ a:Nat->Int->OA->Nat->Nat->Heap->Prop,(∃ b,a b n none 0 0 h)/\
 ∀ (b:Nat) (k:Int) (l:OA) (m o:Nat) (p:Heap),a b k l m o p->
 Br (decide (k>0))
 (∀ f:Int,f=(Int.tmod k 4294967296)->
 ∀ (q:Nat) (r:Heap),p q=none->r=Heap.put p q ⟨[.int .u32 (IntKind.u32.wrap f)],166,(0,0)⟩->
 ∃ c:List Value,RdS r (some ⟨q,0,none⟩) (1*1) c/\(∀ x∈c,Go.Vcg.one x=true)/\
 (m+1<=o-> ∃ (s:Addr) (t:Blk),l=some s/\s.spot=none/\r s.block=some t/\t.fz=(0,0)/\s.off+m*1+1*1<=t.cells.length/\
 ∀ g:Heap,g=Heap.put r s.block { t with cells:=setSeg t.cells (s.off+m*1) c }->
 ∀ i:Int,i=IntKind.u64.wrap (Int.tdiv k 4294967296)->
 ∃ d,d<b/\a d i l (m+1) o g)/\
 (o<m+1-> ∃ e:List Value,RdS r l (m*1) e/\(m+1)*4<=140737488355328/\
 ∀ (u v:Nat) (w:Heap),r u=none->m+1<=v->w=Heap.put r u ⟨e++c++repV [.int .u32 0] (v-(m+1)),166,(0,0)⟩->
 ∀ j:Int,j=IntKind.u64.wrap (Int.tdiv k 4294967296)->
 ∃ d,d<b/\a d j (some ⟨u,0,none⟩) (m+1) v w))
 (R (.slice l m o) p)
theorem ref01_Of_ok {n:Int} {h:Heap} {R:Value->Heap->Prop} (hv:ref01_Of_vc n h R):CallsU Tryz.prog 116 [.int .u64 n] h R:=
 fn_ok Tryz.func116 (fun _=>false) (.two .nil (.two .nil (.two (.one (.loop ⟨[(0,Sh.int .u64),(3,Sh.slice)],[]⟩ .nil)) .nil))) hv
def ref02_Same_vc (a:Bool) (b:OA) (c _d:Nat) (e:Bool) (f:OA) (g _i:Nat) (h:Heap) (R:Value->Heap->Prop):Prop:=
 ∃ j:Bool->Heap->Prop,(∀ (s:Bool) (t:Heap),j s t->
 Br (s)
 (R (.bool false) t)
 (∃ k:Nat->Int->Heap->Prop,(∃ l,k l 0 t)/\
 ∀ (l:Nat) (u:Int) (v:Heap),k l u v->
 Br (decide (u<(c:Int)))
 (∃ m:Addr,b=some m/\0<=u/\u<(c:Int)/\
 ∃ n,LdN v (Addr.add m (Int.toNat u*1)) [.int .u32 n]/\
 ∃ o:Addr,f=some o/\0<=u/\u<(g:Int)/\
 ∃ p,LdN v (Addr.add o (Int.toNat u*1)) [.int .u32 p]/\
 Br ((n:Int) != p)
 (R (.bool false) v)
 (∀ r:Int,r=IntKind.i64.wrap (u+1)->
 ∃ q,q<l/\k q r v))
 (R (.bool true) v)))/\
 Br (!(a==e))
 (j true h)
 (j ((c:Int) != (g:Int)) h)
theorem ref02_Same_ok {a:Bool} {b:OA} {c d:Nat} {e:Bool} {f:OA} {g i:Nat} {h:Heap} {R:Value->Heap->Prop} (hv:ref02_Same_vc a b c d e f g i h R):CallsU Tryz.prog 117 [.agg #[.bool a,.slice b c d],.agg #[.bool e,.slice f g i]] h R:=
 fn_ok Tryz.func117 (fun _=>false) (.two .nil (.two (.cut ⟨[(19,Sh.bool)],[]⟩ .nil .nil) (.two (.two .nil (.one (.loop ⟨[(5,Sh.int .i64)],[]⟩ (.two .nil (.two (.one (.two (.ord [0,1,2,3,4,5,6,7,8,9,10]) .nil)) .nil))))) .nil))) hv
def ref08_sameNat_vc (a:OA) (b _c:Nat) (d:OA) (e _f:Nat) (h:Heap) (R:Value->Heap->Prop):Prop:=
 Br ((b:Int) != (e:Int))
 (R (.bool false) h)
 (∃ g:Nat->Int->Heap->Prop,(∃ i,g i 0 h)/\
 ∀ (i:Nat) (p:Int) (q:Heap),g i p q->
 Br (decide (p<(b:Int)))
 (∃ j:Addr,a=some j/\0<=p/\p<(b:Int)/\
 ∃ k,LdN q (Addr.add j (Int.toNat p*1)) [.int .u32 k]/\
 ∃ l:Addr,d=some l/\0<=p/\p<(e:Int)/\
 ∃ m,LdN q (Addr.add l (Int.toNat p*1)) [.int .u32 m]/\
 Br ((k:Int) != m)
 (R (.bool false) q)
 (∀ o:Int,o=IntKind.i64.wrap (p+1)->
 ∃ n,n<i/\g n o q))
 (R (.bool true) q))
theorem ref08_sameNat_ok {a:OA} {b c:Nat} {d:OA} {e f:Nat} {h:Heap} {R:Value->Heap->Prop} (hv:ref08_sameNat_vc a b c d e f h R):CallsU Tryz.prog 118 [.slice a b c,.slice d e f] h R:=
 fn_ok Tryz.func118 (fun _=>false) (.two .nil (.two .nil (.two (.two .nil (.one (.loop ⟨[(5,Sh.int .i64)],[]⟩ (.two .nil (.two (.one (.two (.ord [0,1,2,3,4,5,6,7,8]) .nil)) .nil))))) .nil))) hv
def ref03_Norm_vc (a:Bool) (b:OA) (c d:Nat) (e:OA) (f g:Nat) (h:Heap) (R:Value->Heap->Prop):Prop:=
 CallsU Tryz.prog 188 [.agg #[.bool a,.slice b c d,.slice e f g]] h fun y z=>
 ∃ i,y = .bool i/\
 Br (i)
 (CallsU Tryz.prog 65 [.int .i64 0] z fun a0 a1=>
 ∃ j k l m n o p,a0 = .agg #[.bool j,.slice k l m,.slice n o p]/\
 R (.agg #[.bool j,.slice k l m,.slice n o p]) a1)
 (CallsU Tryz.prog 70 [.bool a,.slice b c d,.slice e f g] z fun a2 a3=>
 ∃ q r s t u v w,a2 = .agg #[.bool q,.slice r s t,.slice u v w]/\
 R (.agg #[.bool q,.slice r s t,.slice u v w]) a3)
theorem ref03_Norm_ok {a:Bool} {b:OA} {c d:Nat} {e:OA} {f g:Nat} {h:Heap} {R:Value->Heap->Prop} (hv:ref03_Norm_vc a b c d e f g h R):CallsU Tryz.prog 119 [.agg #[.bool a,.slice b c d,.slice e f g]] h R:=
 fn_ok Tryz.func119 (fun _=>false) .nil hv
def ref02_Add_vc (a:Bool) (b:OA) (c d:Nat) (e:Bool) (f:OA) (g i:Nat) (h:Heap) (R:Value->Heap->Prop):Prop:=
 Br (a==e)
 (CallsU Tryz.prog 190 [.slice b c d,.slice f g i] h fun a7 a8=>
 ∃ j k l,a7 = .slice j k l/\
 LeH h a8/\
 CallsU Tryz.prog 189 [.bool a,.slice j k l] a8 fun a9 b0=>
 ∃ m n o p,a9 = .agg #[.bool m,.slice n o p]/\
 R (.agg #[.bool m,.slice n o p]) b0)
 (CallsU Tryz.prog 191 [.slice b c d,.slice f g i] h fun b1 b2=>
 ∃ q r s t,b1 = .tuple #[.slice q r s,.bool t]/\
 Br (t)
 (CallsU Tryz.prog 189 [.bool a,.slice q r s] b2 fun b3 b4=>
 ∃ u v w y,b3 = .agg #[.bool u,.slice v w y]/\
 R (.agg #[.bool u,.slice v w y]) b4)
 (CallsU Tryz.prog 191 [.slice f g i,.slice b c d] b2 fun b5 b6=>
 ∃ z a0 a1 a2,b5 = .tuple #[.slice z a0 a1,.bool a2]/\
 CallsU Tryz.prog 189 [.bool e,.slice z a0 a1] b6 fun b7 b8=>
 ∃ a3 a4 a5 a6,b7 = .agg #[.bool a3,.slice a4 a5 a6]/\
 R (.agg #[.bool a3,.slice a4 a5 a6]) b8))
theorem ref02_Add_ok {a:Bool} {b:OA} {c d:Nat} {e:Bool} {f:OA} {g i:Nat} {h:Heap} {R:Value->Heap->Prop} (hv:ref02_Add_vc a b c d e f g i h R):CallsU Tryz.prog 120 [.agg #[.bool a,.slice b c d],.agg #[.bool e,.slice f g i]] h R:=
 fn_ok Tryz.func120 (fun _=>false) (.two .nil (.two (.two .nil (.two (.two (.ord [0,1,2,3,4,5,6,7,8]) .nil) .nil)) .nil)) hv
def ref02_Mul_vc (a:Bool) (b:OA) (c d:Nat) (e:Bool) (f:OA) (g i:Nat) (h:Heap) (R:Value->Heap->Prop):Prop:=
 CallsU Tryz.prog 122 [.slice b c d,.slice f g i] h fun q r=>
 ∃ j k l,q = .slice j k l/\
 LeH h r/\
 CallsU Tryz.prog 189 [.bool (!(a==e)),.slice j k l] r fun s t=>
 ∃ m n o p,s = .agg #[.bool m,.slice n o p]/\
 R (.agg #[.bool m,.slice n o p]) t
theorem ref02_Mul_ok {a:Bool} {b:OA} {c d:Nat} {e:Bool} {f:OA} {g i:Nat} {h:Heap} {R:Value->Heap->Prop} (hv:ref02_Mul_vc a b c d e f g i h R):CallsU Tryz.prog 121 [.agg #[.bool a,.slice b c d],.agg #[.bool e,.slice f g i]] h R:=
 fn_ok Tryz.func121 (fun _=>false) (.two .nil (.two (.ord [0,1,2,3,4,5,6,7,8,9,10,11]) .nil)) hv
def ref01_Mul_vc (a:OA) (b c:Nat) (d:OA) (e f:Nat) (h:Heap) (R:Value->Heap->Prop):Prop:=
 ∀ y:Int,y=IntKind.i64.wrap ((b:Int)+(e:Int))->
 0<=y/\y<=y/\y*4<=140737488355328/\y<=9223372036854775807/\
 ∀ (b1:Nat) (b2:Heap),h b1=none->b2=Heap.put h b1 ⟨repV [.int .u32 0] (Int.toNat y),166,(0,0)⟩->
 ∃ g:Nat->Int->Heap->Prop,(∃ i,g i 0 b2)/\
 ∀ (i:Nat) (b3:Int) (b4:Heap),g i b3 b4->
 Br (decide (b3<(b:Int)))
 (∃ j:Nat->Int->Int->Heap->Prop,(∃ k,j k 0 0 b4)/\
 ∀ (k:Nat) (b5:Int) (b6:Int) (b7:Heap),j k b5 b6 b7->
 Br (decide (b6<(e:Int)))
 (CallsU Tryz.prog 192 [.slice a b c,.int .i64 b3] b7 fun b8 b9=>
 ∃ l,b8 = .int .u64 l/\
 CallsU Tryz.prog 192 [.slice d e f,.int .i64 b6] b9 fun c0 c1=>
 ∃ m,c0 = .int .u64 m/\
 ∀ z:Int,z=IntKind.u64.wrap (l*m)->
 ∀ a0:Int,a0=IntKind.i64.wrap (b3+b6)->
 CallsU Tryz.prog 192 [.slice (some ⟨b1,0,none⟩) (Int.toNat y) (Int.toNat y),.int .i64 a0] c1 fun c2 c3=>
 ∃ n,c2 = .int .u64 n/\
 ∀ a1:Int,a1=IntKind.u64.wrap (z+n)->
 ∀ a2:Int,a2=IntKind.u64.wrap (a1+b5)->
 ∀ a3:Int,a3=IntKind.i64.wrap (b3+b6)->
 ∀ a4:Int,a4=(Int.tmod a2 4294967296)->
 ∃ o:Addr,some ⟨b1,0,none⟩=some o/\0<=a3/\a3<(((Int.toNat y):Nat):Int)/\
 ∃ p:Blk,c3 (Addr.block (Addr.add o (Int.toNat a3*1)))=some p/\p.fz=(0,0)/\Addr.spot (Addr.add o (Int.toNat a3*1))=none/\Addr.off (Addr.add o (Int.toNat a3*1))+1<=p.cells.length/\
 ∀ a5:Heap,a5=Heap.put c3 (Addr.block (Addr.add o (Int.toNat a3*1))) { p with cells:=setSeg p.cells (Addr.off (Addr.add o (Int.toNat a3*1))) [.int .u32 (IntKind.u32.wrap a4)] }->
 ∀ a6:Int,a6=IntKind.u64.wrap (Int.tdiv a2 4294967296)->
 ∀ a7:Int,a7=IntKind.i64.wrap (b6+1)->
 ∃ q,q<k/\j q a6 a7 a5)
 (∀ a8:Int,a8=IntKind.i64.wrap (b3+(e:Int))->
 ∃ r:Addr,some ⟨b1,0,none⟩=some r/\0<=a8/\a8<(((Int.toNat y):Nat):Int)/\
 ∃ s:Blk,b7 (Addr.block (Addr.add r (Int.toNat a8*1)))=some s/\s.fz=(0,0)/\Addr.spot (Addr.add r (Int.toNat a8*1))=none/\Addr.off (Addr.add r (Int.toNat a8*1))+1<=s.cells.length/\
 ∀ a9:Heap,a9=Heap.put b7 (Addr.block (Addr.add r (Int.toNat a8*1))) { s with cells:=setSeg s.cells (Addr.off (Addr.add r (Int.toNat a8*1))) [.int .u32 (IntKind.u32.wrap b5)] }->
 ∀ b0:Int,b0=IntKind.i64.wrap (b3+1)->
 ∃ t,t<i/\g t b0 a9))
 (CallsU Tryz.prog 185 [.slice (some ⟨b1,0,none⟩) (Int.toNat y) (Int.toNat y)] b4 fun c4 c5=>
 ∃ u v w,c4 = .slice u v w/\
 R (.slice u v w) c5)
theorem ref01_Mul_ok {a:OA} {b c:Nat} {d:OA} {e f:Nat} {h:Heap} {R:Value->Heap->Prop} (hv:ref01_Mul_vc a b c d e f h R):CallsU Tryz.prog 122 [.slice a b c,.slice d e f] h R:=
 fn_ok Tryz.func122 (fun _=>false) (.two .nil (.two .nil (.two (.two .nil (.one (.loop ⟨[(6,Sh.int .i64)],[]⟩ (.two .nil (.two (.one (.two .nil (.two (.two .nil (.one (.loop ⟨[(7,Sh.int .u64),(8,Sh.int .i64)],[]⟩ .nil))) .nil))) .nil))))) .nil))) hv
def ref01_Gcd_vc (a:OA) (b c:Nat) (d:OA) (e f:Nat) (h:Heap) (R:Value->Heap->Prop):Prop:=
 CallsU Tryz.prog 185 [.slice a b c] h fun a5 a6=>
 ∃ g i j,a5 = .slice g i j/\
 CallsU Tryz.prog 185 [.slice d e f] a6 fun a7 a8=>
 ∃ k l m,a7 = .slice k l m/\
 ∃ n:Nat->OA->Nat->Nat->OA->Nat->Nat->Heap->Prop,(∃ o,n o g i j k l m a8)/\
 ∀ (o:Nat) (y:OA) (z a0:Nat) (a1:OA) (a2 a3:Nat) (a4:Heap),n o y z a0 a1 a2 a3 a4->
 Br (decide ((a2:Int)>0))
 (CallsU Tryz.prog 124 [.slice y z a0,.slice a1 a2 a3] a4 fun a9 b0=>
 ∃ p q r s t u v,a9 = .tuple #[.slice p q r,.slice s t u,.bool v]/\
 ∃ w,w<o/\n w a1 a2 a3 s t u b0)
 (R (.slice y z a0) a4)
theorem ref01_Gcd_ok {a:OA} {b c:Nat} {d:OA} {e f:Nat} {h:Heap} {R:Value->Heap->Prop} (hv:ref01_Gcd_vc a b c d e f h R):CallsU Tryz.prog 123 [.slice a b c,.slice d e f] h R:=
 fn_ok Tryz.func123 (fun _=>false) (.two .nil (.two .nil (.two (.one (.loop ⟨[(5,Sh.slice),(6,Sh.slice)],[]⟩ .nil)) .nil))) hv
def ref01_DivMod_vc (a:OA) (b c:Nat) (d:OA) (e f:Nat) (h:Heap) (R:Value->Heap->Prop):Prop:=
 CallsU Tryz.prog 193 [.slice d e f] h fun d2 d3=>
 ∃ g,d2 = .int .i64 g/\
 Br ((g:Int)==0)
 (R (.tuple #[.slice none 0 0,.slice none 0 0,.bool false]) d3)
 (CallsU Tryz.prog 185 [.slice a b c] d3 fun d4 d5=>
 ∃ i j k,d4 = .slice i j k/\
 CallsU Tryz.prog 193 [.slice i j k] d5 fun d6 d7=>
 ∃ l,d6 = .int .i64 l/\
 CallsU Tryz.prog 193 [.slice d e f] d7 fun d8 d9=>
 ∃ m,d8 = .int .i64 m/\
 ∀ b1:Int,b1=IntKind.i64.wrap (l-m)->
 Br (decide (b1<0))
 (R (.tuple #[.slice none 0 0,.slice i j k,.bool true]) d9)
 (∀ b2:Int,b2=IntKind.i64.wrap (Int.tdiv b1 32)->
 ∀ b3:Int,b3=IntKind.i64.wrap (b2+1)->
 0<=b3/\b3<=b3/\b3*4<=140737488355328/\b3<=9223372036854775807/\
 ∀ (c2:Nat) (c3:Heap),d9 c2=none->c3=Heap.put d9 c2 ⟨repV [.int .u32 0] (Int.toNat b3),166,(0,0)⟩->
 CallsU Tryz.prog 194 [.slice d e f,.int .i64 b1] c3 fun e0 e1=>
 ∃ n o p,e0 = .slice n o p/\
 ∃ q:Nat->OA->Nat->Nat->OA->Nat->Nat->Int->Heap->Prop,(∃ r,q r i j k n o p b1 e1)/\
 ∀ (r:Nat) (c4:OA) (c5 c6:Nat) (c7:OA) (c8 c9:Nat) (d0:Int) (d1:Heap),q r c4 c5 c6 c7 c8 c9 d0 d1->
 Br (decide (d0>=0))
 (CallsU Tryz.prog 191 [.slice c4 c5 c6,.slice c7 c8 c9] d1 fun e2 e3=>
 ∃ s t u v,e2 = .tuple #[.slice s t u,.bool v]/\
 Br (v)
 (∀ b4:Int,b4=IntKind.i64.wrap (Int.tdiv d0 32)->
 ∀ b5:Int,b5=IntKind.i64.wrap (Int.tdiv d0 32)->
 ∃ w:Addr,some ⟨c2,0,none⟩=some w/\0<=b5/\b5<(((Int.toNat b3):Nat):Int)/\
 ∃ y,LdN e3 (Addr.add w (Int.toNat b5*1)) [.int .u32 y]/\
 ∀ b6:Int,b6=(Int.tmod d0 32)->
 Br (decide (IntKind.u64.wrap b6<0)) False
 (∀ b7:Int,b7=IntKind.u32.wrap (1*2^(min (Int.toNat (IntKind.u64.wrap b6)) 32:Nat))->
 ∀ b8:Int,b8=IntKind.u32.wrap (y+b7)->
 ∃ z:Addr,some ⟨c2,0,none⟩=some z/\0<=b4/\b4<(((Int.toNat b3):Nat):Int)/\
 ∃ a0:Blk,e3 (Addr.block (Addr.add z (Int.toNat b4*1)))=some a0/\a0.fz=(0,0)/\Addr.spot (Addr.add z (Int.toNat b4*1))=none/\Addr.off (Addr.add z (Int.toNat b4*1))+1<=a0.cells.length/\
 ∀ b9:Heap,b9=Heap.put e3 (Addr.block (Addr.add z (Int.toNat b4*1))) { a0 with cells:=setSeg a0.cells (Addr.off (Addr.add z (Int.toNat b4*1))) [.int .u32 b8] }->
 CallsU Tryz.prog 195 [.slice c7 c8 c9] b9 fun e4 e5=>
 ∃ a1 a2 a3,e4 = .slice a1 a2 a3/\
 ∀ c0:Int,c0=IntKind.i64.wrap (d0-1)->
 ∃ a4,a4<r/\q a4 s t u a1 a2 a3 c0 e5))
 (CallsU Tryz.prog 195 [.slice c7 c8 c9] e3 fun e6 e7=>
 ∃ a5 a6 a7,e6 = .slice a5 a6 a7/\
 ∀ c1:Int,c1=IntKind.i64.wrap (d0-1)->
 ∃ a4,a4<r/\q a4 c4 c5 c6 a5 a6 a7 c1 e7))
 (CallsU Tryz.prog 185 [.slice (some ⟨c2,0,none⟩) (Int.toNat b3) (Int.toNat b3)] d1 fun e8 e9=>
 ∃ a8 a9 b0,e8 = .slice a8 a9 b0/\
 R (.tuple #[.slice a8 a9 b0,.slice c4 c5 c6,.bool true]) e9)))
theorem ref01_DivMod_ok {a:OA} {b c:Nat} {d:OA} {e f:Nat} {h:Heap} {R:Value->Heap->Prop} (hv:ref01_DivMod_vc a b c d e f h R):CallsU Tryz.prog 124 [.slice a b c,.slice d e f] h R:=
 fn_ok Tryz.func124 (fun _=>false) (.two .nil (.two .nil (.two .nil (.two .nil (.two .nil (.two .nil (.two .nil (.two (.two .nil (.one (.loop ⟨[(7,Sh.slice),(10,Sh.slice),(11,Sh.int .i64)],[]⟩ .nil))) .nil)))))))) hv
def ref02_Norm_vc (a:Bool) (b:OA) (c d:Nat) (h:Heap) (R:Value->Heap->Prop):Prop:=
 CallsU Tryz.prog 189 [.bool a,.slice b c d] h fun j k=>
 ∃ e f g i,j = .agg #[.bool e,.slice f g i]/\
 R (.agg #[.bool e,.slice f g i]) k
theorem ref02_Norm_ok {a:Bool} {b:OA} {c d:Nat} {h:Heap} {R:Value->Heap->Prop} (hv:ref02_Norm_vc a b c d h R):CallsU Tryz.prog 125 [.agg #[.bool a,.slice b c d]] h R:=
 fn_ok Tryz.func125 (fun _=>false) .nil hv
def ref19_Point_vc (a:ByteArray) (h:Heap) (R:Value->Heap->Prop):Prop:=
 ∃ b:Bool->Heap->Prop,(∀ (q:Bool) (r:Heap),b q r->
 Br (q)
 (R (.bool false) r)
 (∃ c:Nat->Int->Heap->Prop,(∃ d,c d 1 r)/\
 ∀ (d:Nat) (s:Int) (t:Heap),c d s t->
 Br (decide (s<(a.size:Int)))
 (∃ e:UInt8,0<=s/\a[(Int.toNat s:Nat)]?=some e/\
 Br (decide ((e.toNat:Int)>=65))
 (Br (decide ((e.toNat:Int)<=90))
 (∀ j:Int,j=IntKind.i64.wrap (s+1)->
 ∃ f,f<d/\c f j t)
 (Br (decide ((e.toNat:Int)>=97))
 (Br (decide ((e.toNat:Int)<=122))
 (∀ k:Int,k=IntKind.i64.wrap (s+1)->
 ∃ f,f<d/\c f k t)
 (Br (decide ((e.toNat:Int)>=48))
 (Br (!(decide ((e.toNat:Int)<=57)))
 (R (.bool false) t)
 (∀ l:Int,l=IntKind.i64.wrap (s+1)->
 ∃ f,f<d/\c f l t))
 (R (.bool false) t)))
 (Br (decide ((e.toNat:Int)>=48))
 (Br (!(decide ((e.toNat:Int)<=57)))
 (R (.bool false) t)
 (∀ m:Int,m=IntKind.i64.wrap (s+1)->
 ∃ f,f<d/\c f m t))
 (R (.bool false) t))))
 (Br (decide ((e.toNat:Int)>=97))
 (Br (decide ((e.toNat:Int)<=122))
 (∀ n:Int,n=IntKind.i64.wrap (s+1)->
 ∃ f,f<d/\c f n t)
 (Br (decide ((e.toNat:Int)>=48))
 (Br (!(decide ((e.toNat:Int)<=57)))
 (R (.bool false) t)
 (∀ o:Int,o=IntKind.i64.wrap (s+1)->
 ∃ f,f<d/\c f o t))
 (R (.bool false) t)))
 (Br (decide ((e.toNat:Int)>=48))
 (Br (!(decide ((e.toNat:Int)<=57)))
 (R (.bool false) t)
 (∀ p:Int,p=IntKind.i64.wrap (s+1)->
 ∃ f,f<d/\c f p t))
 (R (.bool false) t))))
 (R (.bool true) t)))/\
 Br (decide ((a.size:Int)<1))
 (b true h)
 (Br (decide ((a.size:Int)>8))
 (b true h)
 (∃ g:UInt8,0<=(0:Int)/\a[(0:Nat)]?=some g/\
 Br (decide ((g.toNat:Int)<65))
 (b true h)
 (∃ i:UInt8,0<=(0:Int)/\a[(0:Nat)]?=some i/\
 b (decide ((i.toNat:Int)>90)) h)))
theorem ref19_Point_ok {a:ByteArray} {h:Heap} {R:Value->Heap->Prop} (hv:ref19_Point_vc a h R):CallsU Tryz.prog 157 [.string a] h R:=
 fn_ok Tryz.func157 (fun _=>false) (.two .nil (.two (.cut ⟨[(22,Sh.bool)],[]⟩ .nil .nil) (.two (.two .nil (.one (.loop ⟨[(3,Sh.int .i64)],[]⟩ .nil))) .nil))) hv
def ref19_froms_vc (a:Int) (h:Heap) (R:Value->Heap->Prop):Prop:=
 Br ((a:Int)==1)
 (R (.int .i64 0) h)
 (Br ((a:Int)==2)
 (R (.int .i64 1) h)
 (Br ((a:Int)==3)
 (R (.int .i64 2) h)
 (Br ((a:Int)==4)
 (R (.int .i64 4) h)
 (Br ((a:Int)==5)
 (Br ((a:Int)==5)
 (R (.int .i64 3) h)
 (R (.int .i64 (-1)) h))
 (Br ((a:Int)==6)
 (R (.int .i64 3) h)
 (R (.int .i64 (-1)) h))))))
theorem ref19_froms_ok {a:Int} {h:Heap} {R:Value->Heap->Prop} (hv:ref19_froms_vc a h R):CallsU Tryz.prog 158 [.int .i64 a] h R:=
 fn_ok Tryz.func158 (fun _=>false) .nil hv
def ref19_nums_vc (a:Int) (h:Heap) (R:Value->Heap->Prop):Prop:=
 Br ((a:Int)==1)
 (Br ((a:Int)==1)
 (R (.int .i64 2) h)
 (Br ((a:Int)==3)
 (R (.int .i64 1) h)
 (R (.int .i64 0) h)))
 (Br ((a:Int)==2)
 (R (.int .i64 2) h)
 (Br ((a:Int)==3)
 (R (.int .i64 1) h)
 (R (.int .i64 0) h)))
theorem ref19_nums_ok {a:Int} {h:Heap} {R:Value->Heap->Prop} (hv:ref19_nums_vc a h R):CallsU Tryz.prog 159 [.int .i64 a] h R:=
 fn_ok Tryz.func159 (fun _=>false) .nil hv
def ref02_Cmp_vc (a:Bool) (b:OA) (c d:Nat) (e:Bool) (f:OA) (g i:Nat) (h:Heap) (R:Value->Heap->Prop):Prop:=
 CallsU Tryz.prog 125 [.agg #[.bool a,.slice b c d]] h fun a0 a1=>
 ∃ j k l m,a0 = .agg #[.bool j,.slice k l m]/\
 LeH h a1/\
 CallsU Tryz.prog 125 [.agg #[.bool e,.slice f g i]] a1 fun a2 a3=>
 ∃ n o p q,a2 = .agg #[.bool n,.slice o p q]/\
 ∃ r:Bool->Heap->Prop,(∀ (v:Bool) (w:Heap),r v w->
 Br (v)
 (R (.int .i64 (-1)) w)
 (∃ s:Bool->Heap->Prop,(∀ (y:Bool) (z:Heap),s y z->
 Br (y)
 (R (.int .i64 1) z)
 (Br (j)
 (CallsU Tryz.prog 228 [.slice o p q,.slice k l m] z fun a4 a5=>
 ∃ t,a4 = .int .i64 t/\
 R (.int .i64 t) a5)
 (CallsU Tryz.prog 228 [.slice k l m,.slice o p q] z fun a6 a7=>
 ∃ u,a6 = .int .i64 u/\
 R (.int .i64 u) a7)))/\
 Br (!j)
 (s n w)
 (s false w)))/\
 Br (j)
 (r (!n) a3)
 (r false a3)
theorem ref02_Cmp_ok {a:Bool} {b:OA} {c d:Nat} {e:Bool} {f:OA} {g i:Nat} {h:Heap} {R:Value->Heap->Prop} (hv:ref02_Cmp_vc a b c d e f g i h R):CallsU Tryz.prog 172 [.agg #[.bool a,.slice b c d],.agg #[.bool e,.slice f g i]] h R:=
 fn_ok Tryz.func172 (fun _=>false) (.two .nil (.two (.ord [0,2,1,3,4,5,6,7]) (.two (.one (.cut ⟨[(11,Sh.bool)],[]⟩ .nil (.two .nil (.cut ⟨[(19,Sh.bool)],[]⟩ .nil .nil)))) .nil))) hv
def ref17_check_vc (a:Int) (b:Bool) (c:OA) (d e:Nat) (f:OA) (g i:Nat) (j:ByteArray) (k:OA) (l m:Nat) (n:Int) (h:Heap) (R:Value->Heap->Prop):Prop:=
 Br (decide (n>12))
 (R (.int .i64 5) h)
 (CallsU Tryz.prog 235 [.agg #[.int .i64 a,.bool b,.slice c d e,.slice f g i,.string j,.slice k l m]] h fun b1 b2=>
 ∃ o,b1 = .bool o/\
 Br (!o)
 (R (.int .i64 1) b2)
 (∃ p:Nat->Int->Heap->Prop,(∃ q,p q 0 b2)/\
 ∀ (q:Nat) (a9:Int) (b0:Heap),p q a9 b0->
 Br (decide (a9<(l:Int)))
 (∃ r:Addr,k=some r/\0<=a9/\a9<(l:Int)/\
 ∃ s t u v w y z a0 a1 a2 a3 a4,LdN b0 (Addr.add r (Int.toNat a9*6)) [.int .i64 s,.bool t,.slice u v w,.slice y z a0,.string a1,.slice a2 a3 a4]/\
 ∀ a7:Int,a7=IntKind.i64.wrap (n+1)->
 CallsU Tryz.prog 177 [.agg #[.int .i64 s,.bool t,.slice u v w,.slice y z a0,.string a1,.slice a2 a3 a4],.int .i64 a7] b0 fun b3 b4=>
 ∃ a5,b3 = .int .i64 a5/\
 Br ((a5:Int) != 0)
 (R (.int .i64 a5) b4)
 (∀ a8:Int,a8=IntKind.i64.wrap (a9+1)->
 ∃ a6,a6<q/\p a6 a8 b4))
 (R (.int .i64 0) b0)))
theorem ref17_check_ok {a:Int} {b:Bool} {c:OA} {d e:Nat} {f:OA} {g i:Nat} {j:ByteArray} {k:OA} {l m:Nat} {n:Int} {h:Heap} {R:Value->Heap->Prop} (hv:ref17_check_vc a b c d e f g i j k l m n h R):CallsU Tryz.prog 177 [.agg #[.int .i64 a,.bool b,.slice c d e,.slice f g i,.string j,.slice k l m],.int .i64 n] h R:=
 fn_ok Tryz.func177 (fun _=>false) (.two .nil (.two .nil (.two .nil (.two (.two .nil (.one (.loop ⟨[(5,Sh.int .i64)],[]⟩ .nil))) .nil)))) hv
def ref01_Norm_vc (a:OA) (b c:Nat) (h:Heap) (R:Value->Heap->Prop):Prop:=
 ∃ d:Nat->Int->Heap->Prop,(∃ e,d e (b:Int) h)/\
 ∀ (e:Nat) (n:Int) (s:Heap),d e n s->
 Br (decide (n>0))
 (∀ o:Int,o=IntKind.i64.wrap (n-1)->
 ∃ f:Addr,a=some f/\0<=o/\o<(b:Int)/\
 ∃ g,LdN s (Addr.add f (Int.toNat o*1)) [.int .u32 g]/\
 Br ((g:Int)==0)
 (∀ p:Int,p=IntKind.i64.wrap (n-1)->
 ∃ i,i<e/\d i p s)
 (((0:Nat):Int)<=n/\n<=(c:Int)/\
 ∃ j:List Value,RdS s a ((Int.toNat n)*1) j/\(∀ x∈j,Go.Vcg.one x=true)/\
 (0+(Int.toNat n)<=0->Br (decide ((Int.toNat n)*1=0)) (R (.slice none (0+(Int.toNat n)) 0) s)
 (∃ (t:Addr) (u:Blk),none=some t/\t.spot=none/\s t.block=some u/\u.fz=(0,0)/\t.off+0*1+(Int.toNat n)*1<=u.cells.length/\
 ∀ q:Heap,q=Heap.put s t.block { u with cells:=setSeg u.cells (t.off+0*1) j }->
 R (.slice none (0+(Int.toNat n)) 0) q))/\
 (0<0+(Int.toNat n)-> ∃ k:List Value,RdS s none (0*1) k/\(0+(Int.toNat n))*4<=140737488355328/\
 ∀ (v w:Nat) (y:Heap),s v=none->0+(Int.toNat n)<=w->y=Heap.put s v ⟨k++j++repV [.int .u32 0] (w-(0+(Int.toNat n))),166,(0,0)⟩->
 R (.slice (some ⟨v,0,none⟩) (0+(Int.toNat n)) w) y)))
 (((0:Nat):Int)<=n/\n<=(c:Int)/\
 ∃ l:List Value,RdS s a ((Int.toNat n)*1) l/\(∀ x∈l,Go.Vcg.one x=true)/\
 (0+(Int.toNat n)<=0->Br (decide ((Int.toNat n)*1=0)) (R (.slice none (0+(Int.toNat n)) 0) s)
 (∃ (z:Addr) (a0:Blk),none=some z/\z.spot=none/\s z.block=some a0/\a0.fz=(0,0)/\z.off+0*1+(Int.toNat n)*1<=a0.cells.length/\
 ∀ r:Heap,r=Heap.put s z.block { a0 with cells:=setSeg a0.cells (z.off+0*1) l }->
 R (.slice none (0+(Int.toNat n)) 0) r))/\
 (0<0+(Int.toNat n)-> ∃ m:List Value,RdS s none (0*1) m/\(0+(Int.toNat n))*4<=140737488355328/\
 ∀ (a1 a2:Nat) (a3:Heap),s a1=none->0+(Int.toNat n)<=a2->a3=Heap.put s a1 ⟨m++l++repV [.int .u32 0] (a2-(0+(Int.toNat n))),166,(0,0)⟩->
 R (.slice (some ⟨a1,0,none⟩) (0+(Int.toNat n)) a2) a3))
theorem ref01_Norm_ok {a:OA} {b c:Nat} {h:Heap} {R:Value->Heap->Prop} (hv:ref01_Norm_vc a b c h R):CallsU Tryz.prog 185 [.slice a b c] h R:=
 fn_ok Tryz.func185 (fun _=>false) (.two .nil (.two .nil (.two (.one (.loop ⟨[(3,Sh.int .i64)],[]⟩ .nil)) .nil))) hv
def ref03_Zero_vc (_a:Bool) (b:OA) (c d:Nat) (e:OA) (f g:Nat) (h:Heap) (R:Value->Heap->Prop):Prop:=
 CallsU Tryz.prog 185 [.slice b c d] h fun o p=>
 ∃ i j k,o = .slice i j k/\
 Br ((j:Int)==0)
 (R (.bool true) p)
 (CallsU Tryz.prog 185 [.slice e f g] p fun q r=>
 ∃ l m n,q = .slice l m n/\
 R (.bool ((m:Int)==0)) r)
theorem ref03_Zero_ok {a:Bool} {b:OA} {c d:Nat} {e:OA} {f g:Nat} {h:Heap} {R:Value->Heap->Prop} (hv:ref03_Zero_vc a b c d e f g h R):CallsU Tryz.prog 188 [.agg #[.bool a,.slice b c d,.slice e f g]] h R:=
 fn_ok Tryz.func188 (fun _=>false) .nil hv
def ref02_make1_vc (a:Bool) (b:OA) (c d:Nat) (h:Heap) (R:Value->Heap->Prop):Prop:=
 CallsU Tryz.prog 185 [.slice b c d] h fun i j=>
 ∃ e f g,i = .slice e f g/\
 Br (a)
 (R (.agg #[.bool (decide ((f:Int)>0)),.slice e f g]) j)
 (R (.agg #[.bool false,.slice e f g]) j)
theorem ref02_make1_ok {a:Bool} {b:OA} {c d:Nat} {h:Heap} {R:Value->Heap->Prop} (hv:ref02_make1_vc a b c d h R):CallsU Tryz.prog 189 [.bool a,.slice b c d] h R:=
 fn_ok Tryz.func189 (fun _=>false) .nil hv
def ref01_Add_vc (a:OA) (b c:Nat) (d:OA) (e f:Nat) (h:Heap) (R:Value->Heap->Prop):Prop:=
 ∃ g:Nat->OA->Nat->Nat->Int->Int->Heap->Prop,(∃ i,g i none 0 0 0 0 h)/\
 ∀ (i:Nat) (a1:OA) (a2 a3:Nat) (a4:Int) (a5:Int) (a6:Heap),g i a1 a2 a3 a4 a5 a6->
 ∃ j:Heap->Prop,(∀  (a7:Heap),j a7->
 CallsU Tryz.prog 192 [.slice a b c,.int .i64 a5] a7 fun b5 b6=>
 ∃ k,b5 = .int .u64 k/\
 CallsU Tryz.prog 192 [.slice d e f,.int .i64 a5] b6 fun b7 b8=>
 ∃ l,b7 = .int .u64 l/\
 ∀ s:Int,s=IntKind.u64.wrap (k+l)->
 ∀ t:Int,t=IntKind.u64.wrap (s+a4)->
 ∀ u:Int,u=(Int.tmod t 4294967296)->
 ∀ (a8:Nat) (a9:Heap),b8 a8=none->a9=Heap.put b8 a8 ⟨[.int .u32 (IntKind.u32.wrap u)],166,(0,0)⟩->
 ∃ m:List Value,RdS a9 (some ⟨a8,0,none⟩) (1*1) m/\(∀ x∈m,Go.Vcg.one x=true)/\
 (a2+1<=a3-> ∃ (b0:Addr) (b1:Blk),a1=some b0/\b0.spot=none/\a9 b0.block=some b1/\b1.fz=(0,0)/\b0.off+a2*1+1*1<=b1.cells.length/\
 ∀ v:Heap,v=Heap.put a9 b0.block { b1 with cells:=setSeg b1.cells (b0.off+a2*1) m }->
 ∀ w:Int,w=IntKind.u64.wrap (Int.tdiv t 4294967296)->
 ∀ y:Int,y=IntKind.i64.wrap (a5+1)->
 ∃ n,n<i/\g n a1 (a2+1) a3 w y v)/\
 (a3<a2+1-> ∃ o:List Value,RdS a9 a1 (a2*1) o/\(a2+1)*4<=140737488355328/\
 ∀ (b2 b3:Nat) (b4:Heap),a9 b2=none->a2+1<=b3->b4=Heap.put a9 b2 ⟨o++m++repV [.int .u32 0] (b3-(a2+1)),166,(0,0)⟩->
 ∀ z:Int,z=IntKind.u64.wrap (Int.tdiv t 4294967296)->
 ∀ a0:Int,a0=IntKind.i64.wrap (a5+1)->
 ∃ n,n<i/\g n (some ⟨b2,0,none⟩) (a2+1) b3 z a0 b4))/\
 Br (decide (a5<(if decide ((e:Int)>(b:Int)) then (e:Int) else (b:Int))))
 (j a6)
 (Br (decide (a4>0))
 (j a6)
 (CallsU Tryz.prog 185 [.slice a1 a2 a3] a6 fun b9 c0=>
 ∃ p q r,b9 = .slice p q r/\
 R (.slice p q r) c0))
theorem ref01_Add_ok {a:OA} {b c:Nat} {d:OA} {e f:Nat} {h:Heap} {R:Value->Heap->Prop} (hv:ref01_Add_vc a b c d e f h R):CallsU Tryz.prog 190 [.slice a b c,.slice d e f] h R:=
 fn_ok Tryz.func190 (fun _=>false) (.two .nil (.two .nil (.two .nil (.two (.two .nil (.one (.loop ⟨[(5,Sh.slice),(6,Sh.int .u64),(7,Sh.int .i64)],[]⟩ (.cut ⟨[],[]⟩ .nil .nil)))) .nil)))) hv
def ref01_Sub_vc (a:OA) (b c:Nat) (d:OA) (e f:Nat) (h:Heap) (R:Value->Heap->Prop):Prop:=
 CallsU Tryz.prog 228 [.slice a b c,.slice d e f] h fun b7 b8=>
 ∃ g,b7 = .int .i64 g/\
 Br (decide (g<0))
 (R (.tuple #[.slice none 0 0,.bool false]) b8)
 (∃ i:Nat->OA->Nat->Nat->Int->Int->Heap->Prop,(∃ j,i j none 0 0 0 0 b8)/\
 ∀ (j:Nat) (a4:OA) (a5 a6:Nat) (a7:Int) (a8:Int) (a9:Heap),i j a4 a5 a6 a7 a8 a9->
 Br (decide (a8<(if decide ((e:Int)>(b:Int)) then (e:Int) else (b:Int))))
 (CallsU Tryz.prog 192 [.slice a b c,.int .i64 a8] a9 fun b9 c0=>
 ∃ k,b9 = .int .u64 k/\
 ∀ s:Int,s=IntKind.u64.wrap (4294967296+k)->
 CallsU Tryz.prog 192 [.slice d e f,.int .i64 a8] c0 fun c1 c2=>
 ∃ l,c1 = .int .u64 l/\
 ∀ t:Int,t=IntKind.u64.wrap (s-l)->
 ∀ u:Int,u=IntKind.u64.wrap (t-a7)->
 ∀ v:Int,v=(Int.tmod u 4294967296)->
 ∀ (b0:Nat) (b1:Heap),c2 b0=none->b1=Heap.put c2 b0 ⟨[.int .u32 (IntKind.u32.wrap v)],166,(0,0)⟩->
 ∃ m:List Value,RdS b1 (some ⟨b0,0,none⟩) (1*1) m/\(∀ x∈m,Go.Vcg.one x=true)/\
 (a5+1<=a6-> ∃ (b2:Addr) (b3:Blk),a4=some b2/\b2.spot=none/\b1 b2.block=some b3/\b3.fz=(0,0)/\b2.off+a5*1+1*1<=b3.cells.length/\
 ∀ w:Heap,w=Heap.put b1 b2.block { b3 with cells:=setSeg b3.cells (b2.off+a5*1) m }->
 ∀ y:Int,y=IntKind.u64.wrap (Int.tdiv u 4294967296)->
 ∀ z:Int,z=IntKind.u64.wrap (1-y)->
 ∀ a0:Int,a0=IntKind.i64.wrap (a8+1)->
 ∃ n,n<j/\i n a4 (a5+1) a6 z a0 w)/\
 (a6<a5+1-> ∃ o:List Value,RdS b1 a4 (a5*1) o/\(a5+1)*4<=140737488355328/\
 ∀ (b4 b5:Nat) (b6:Heap),b1 b4=none->a5+1<=b5->b6=Heap.put b1 b4 ⟨o++m++repV [.int .u32 0] (b5-(a5+1)),166,(0,0)⟩->
 ∀ a1:Int,a1=IntKind.u64.wrap (Int.tdiv u 4294967296)->
 ∀ a2:Int,a2=IntKind.u64.wrap (1-a1)->
 ∀ a3:Int,a3=IntKind.i64.wrap (a8+1)->
 ∃ n,n<j/\i n (some ⟨b4,0,none⟩) (a5+1) b5 a2 a3 b6))
 (CallsU Tryz.prog 185 [.slice a4 a5 a6] a9 fun c3 c4=>
 ∃ p q r,c3 = .slice p q r/\
 R (.tuple #[.slice p q r,.bool true]) c4))
theorem ref01_Sub_ok {a:OA} {b c:Nat} {d:OA} {e f:Nat} {h:Heap} {R:Value->Heap->Prop} (hv:ref01_Sub_vc a b c d e f h R):CallsU Tryz.prog 191 [.slice a b c,.slice d e f] h R:=
 fn_ok Tryz.func191 (fun _=>false) (.two .nil (.two .nil (.two .nil (.two .nil (.two (.two .nil (.one (.loop ⟨[(6,Sh.slice),(7,Sh.int .u64),(8,Sh.int .i64)],[]⟩ .nil))) .nil))))) hv
def ref01_limb_vc (a:OA) (b _c:Nat) (d:Int) (h:Heap) (R:Value->Heap->Prop):Prop:=
 Br (decide (d<0))
 (R (.int .u64 0) h)
 (Br (decide (d>=(b:Int)))
 (R (.int .u64 0) h)
 (∃ e:Addr,a=some e/\0<=d/\d<(b:Int)/\
 ∃ f,LdN h (Addr.add e (Int.toNat d*1)) [.int .u32 f]/\
 R (.int .u64 (IntKind.u64.wrap f)) h))
theorem ref01_limb_ok {a:OA} {b c:Nat} {d:Int} {h:Heap} {R:Value->Heap->Prop} (hv:ref01_limb_vc a b c d h R):CallsU Tryz.prog 192 [.slice a b c,.int .i64 d] h R:=
 fn_ok Tryz.func192 (fun _=>false) .nil hv
def ref01_Bits_vc (a:OA) (b c:Nat) (h:Heap) (R:Value->Heap->Prop):Prop:=
 CallsU Tryz.prog 185 [.slice a b c] h fun u v=>
 ∃ d e f,u = .slice d e f/\
 Br ((e:Int)==0)
 (R (.int .i64 0) v)
 (∀ m:Int,m=IntKind.i64.wrap ((e:Int)-1)->
 ∀ o:Int,o=IntKind.i64.wrap (32*m)->
 ∀ p:Int,p=IntKind.i64.wrap ((e:Int)-1)->
 ∃ g:Addr,d=some g/\0<=p/\p<(e:Int)/\
 ∃ i,LdN v (Addr.add g (Int.toNat p*1)) [.int .u32 i]/\
 ∃ j:Nat->Int->Int->Heap->Prop,(∃ k,j k o i v)/\
 ∀ (k:Nat) (n:Int) (s:Int) (t:Heap),j k n s t->
 Br (decide (s>0))
 (∀ q:Int,q=IntKind.i64.wrap (n+1)->
 ∀ r:Int,r=IntKind.u32.wrap (Int.tdiv s 2)->
 ∃ l,l<k/\j l q r t)
 (R (.int .i64 n) t))
theorem ref01_Bits_ok {a:OA} {b c:Nat} {h:Heap} {R:Value->Heap->Prop} (hv:ref01_Bits_vc a b c h R):CallsU Tryz.prog 193 [.slice a b c] h R:=
 fn_ok Tryz.func193 (fun _=>false) (.two .nil (.two .nil (.two .nil (.two .nil (.two (.two .nil (.one (.loop ⟨[(4,Sh.int .i64),(5,Sh.int .u32)],[]⟩ .nil))) .nil))))) hv
def ref01_Shift_vc (a:OA) (b c:Nat) (n:Int) (h:Heap) (R:Value->Heap->Prop):Prop:=
 ∀ o:Int,o=IntKind.i64.wrap (Int.tdiv n 32)->
 0<=o/\o<=o/\o*4<=140737488355328/\o<=9223372036854775807/\
 ∀ (z:Nat) (a0:Heap),h z=none->a0=Heap.put h z ⟨repV [.int .u32 0] (Int.toNat o),166,(0,0)⟩->
 ∃ d:Nat->OA->Nat->Nat->Int->Int->Heap->Prop,(∃ e,d e (some ⟨z,0,none⟩) (Int.toNat o) (Int.toNat o) 0 0 a0)/\
 ∀ (e:Nat) (a1:OA) (a2 a3:Nat) (a4:Int) (a5:Int) (a6:Heap),d e a1 a2 a3 a4 a5 a6->
 Br (decide (a5<=(b:Int)))
 (CallsU Tryz.prog 192 [.slice a b c,.int .i64 a5] a6 fun b4 b5=>
 ∃ f,b4 = .int .u64 f/\
 ∀ p:Int,p=(Int.tmod n 32)->
 Br (decide (IntKind.u64.wrap p<0)) False
 (∀ q:Int,q=IntKind.u64.wrap (f*2^(min (Int.toNat (IntKind.u64.wrap p)) 64:Nat))->
 ∀ r:Int,r=IntKind.u64.wrap (q+a4)->
 ∀ s:Int,s=(Int.tmod r 4294967296)->
 ∀ (a7:Nat) (a8:Heap),b5 a7=none->a8=Heap.put b5 a7 ⟨[.int .u32 (IntKind.u32.wrap s)],166,(0,0)⟩->
 ∃ g:List Value,RdS a8 (some ⟨a7,0,none⟩) (1*1) g/\(∀ x∈g,Go.Vcg.one x=true)/\
 (a2+1<=a3-> ∃ (a9:Addr) (b0:Blk),a1=some a9/\a9.spot=none/\a8 a9.block=some b0/\b0.fz=(0,0)/\a9.off+a2*1+1*1<=b0.cells.length/\
 ∀ t:Heap,t=Heap.put a8 a9.block { b0 with cells:=setSeg b0.cells (a9.off+a2*1) g }->
 ∀ u:Int,u=IntKind.u64.wrap (Int.tdiv r 4294967296)->
 ∀ v:Int,v=IntKind.i64.wrap (a5+1)->
 ∃ i,i<e/\d i a1 (a2+1) a3 u v t)/\
 (a3<a2+1-> ∃ j:List Value,RdS a8 a1 (a2*1) j/\(a2+1)*4<=140737488355328/\
 ∀ (b1 b2:Nat) (b3:Heap),a8 b1=none->a2+1<=b2->b3=Heap.put a8 b1 ⟨j++g++repV [.int .u32 0] (b2-(a2+1)),166,(0,0)⟩->
 ∀ w:Int,w=IntKind.u64.wrap (Int.tdiv r 4294967296)->
 ∀ y:Int,y=IntKind.i64.wrap (a5+1)->
 ∃ i,i<e/\d i (some ⟨b1,0,none⟩) (a2+1) b2 w y b3)))
 (CallsU Tryz.prog 185 [.slice a1 a2 a3] a6 fun b6 b7=>
 ∃ k l m,b6 = .slice k l m/\
 R (.slice k l m) b7)
theorem ref01_Shift_ok {a:OA} {b c:Nat} {n:Int} {h:Heap} {R:Value->Heap->Prop} (hv:ref01_Shift_vc a b c n h R):CallsU Tryz.prog 194 [.slice a b c,.int .i64 n] h R:=
 fn_ok Tryz.func194 (fun _=>false) (.two .nil (.two .nil (.two .nil (.two (.two .nil (.one (.loop ⟨[(5,Sh.slice),(6,Sh.int .u64),(7,Sh.int .i64)],[]⟩ .nil))) .nil)))) hv
def ref01_Half_vc (a:OA) (b c:Nat) (h:Heap) (R:Value->Heap->Prop):Prop:=
 ∃ d:Nat->OA->Nat->Nat->Int->Heap->Prop,(∃ e,d e none 0 0 0 h)/\
 ∀ (e:Nat) (w:OA) (y z:Nat) (a0:Int) (a1:Heap),d e w y z a0 a1->
 Br (decide (a0<(b:Int)))
 (CallsU Tryz.prog 192 [.slice a b c,.int .i64 a0] a1 fun a9 b0=>
 ∃ f,a9 = .int .u64 f/\
 ∀ o:Int,o=IntKind.u64.wrap (Int.tdiv f 2)->
 ∀ p:Int,p=IntKind.i64.wrap (a0+1)->
 CallsU Tryz.prog 192 [.slice a b c,.int .i64 p] b0 fun b1 b2=>
 ∃ g,b1 = .int .u64 g/\
 ∀ q:Int,q=(Int.tmod g 2)->
 ∀ r:Int,r=IntKind.u64.wrap (q*2147483648)->
 ∀ s:Int,s=IntKind.u64.wrap (o+r)->
 ∀ (a2:Nat) (a3:Heap),b2 a2=none->a3=Heap.put b2 a2 ⟨[.int .u32 (IntKind.u32.wrap s)],166,(0,0)⟩->
 ∃ i:List Value,RdS a3 (some ⟨a2,0,none⟩) (1*1) i/\(∀ x∈i,Go.Vcg.one x=true)/\
 (y+1<=z-> ∃ (a4:Addr) (a5:Blk),w=some a4/\a4.spot=none/\a3 a4.block=some a5/\a5.fz=(0,0)/\a4.off+y*1+1*1<=a5.cells.length/\
 ∀ t:Heap,t=Heap.put a3 a4.block { a5 with cells:=setSeg a5.cells (a4.off+y*1) i }->
 ∀ u:Int,u=IntKind.i64.wrap (a0+1)->
 ∃ j,j<e/\d j w (y+1) z u t)/\
 (z<y+1-> ∃ k:List Value,RdS a3 w (y*1) k/\(y+1)*4<=140737488355328/\
 ∀ (a6 a7:Nat) (a8:Heap),a3 a6=none->y+1<=a7->a8=Heap.put a3 a6 ⟨k++i++repV [.int .u32 0] (a7-(y+1)),166,(0,0)⟩->
 ∀ v:Int,v=IntKind.i64.wrap (a0+1)->
 ∃ j,j<e/\d j (some ⟨a6,0,none⟩) (y+1) a7 v a8))
 (CallsU Tryz.prog 185 [.slice w y z] a1 fun b3 b4=>
 ∃ l m n,b3 = .slice l m n/\
 R (.slice l m n) b4)
theorem ref01_Half_ok {a:OA} {b c:Nat} {h:Heap} {R:Value->Heap->Prop} (hv:ref01_Half_vc a b c h R):CallsU Tryz.prog 195 [.slice a b c] h R:=
 fn_ok Tryz.func195 (fun _=>false) (.two .nil (.two .nil (.two (.two .nil (.one (.loop ⟨[(3,Sh.slice),(4,Sh.int .i64)],[]⟩ .nil))) .nil))) hv
def ref01_Cmp_vc (a:OA) (b c:Nat) (d:OA) (e f:Nat) (h:Heap) (R:Value->Heap->Prop):Prop:=
 ∀ o:Int,o=IntKind.i64.wrap ((if decide ((e:Int)>(b:Int)) then (e:Int) else (b:Int))-1)->
 ∃ g:Nat->Int->Heap->Prop,(∃ i,g i o h)/\
 ∀ (i:Nat) (q:Int) (r:Heap),g i q r->
 Br (decide (q>=0))
 (CallsU Tryz.prog 192 [.slice a b c,.int .i64 q] r fun s t=>
 ∃ j,s = .int .u64 j/\
 CallsU Tryz.prog 192 [.slice d e f,.int .i64 q] t fun u v=>
 ∃ k,u = .int .u64 k/\
 Br (decide (j<k))
 (R (.int .i64 (-1)) v)
 (CallsU Tryz.prog 192 [.slice a b c,.int .i64 q] v fun w y=>
 ∃ l,w = .int .u64 l/\
 CallsU Tryz.prog 192 [.slice d e f,.int .i64 q] y fun z a0=>
 ∃ m,z = .int .u64 m/\
 Br (decide (l>m))
 (R (.int .i64 1) a0)
 (∀ p:Int,p=IntKind.i64.wrap (q-1)->
 ∃ n,n<i/\g n p a0)))
 (R (.int .i64 0) r)
theorem ref01_Cmp_ok {a:OA} {b c:Nat} {d:OA} {e f:Nat} {h:Heap} {R:Value->Heap->Prop} (hv:ref01_Cmp_vc a b c d e f h R):CallsU Tryz.prog 228 [.slice a b c,.slice d e f] h R:=
 fn_ok Tryz.func228 (fun _=>false) (.two .nil (.two (.two .nil (.one (.loop ⟨[(5,Sh.int .i64)],[]⟩ .nil))) .nil)) hv
def ref17_units_vc (a:Bool) (b:OA) (c d:Nat) (e:OA) (f g:Nat) (h:Heap) (R:Value->Heap->Prop):Prop:=
 CallsU Tryz.prog 263 [.int .i64 10000] h fun b4 b5=>
 ∃ i j k l m n o,b4 = .agg #[.bool i,.slice j k l,.slice m n o]/\
 LeH h b5/\
 CallsU Tryz.prog 237 [.agg #[.bool a,.slice b c d,.slice e f g],.agg #[.bool i,.slice j k l,.slice m n o]] b5 fun b6 b7=>
 ∃ p q r s t u v,b6 = .agg #[.bool p,.slice q r s,.slice t u v]/\
 CallsU Tryz.prog 119 [.agg #[.bool p,.slice q r s,.slice t u v]] b7 fun b8 b9=>
 ∃ w y z a0 a1 a2 a3,b8 = .agg #[.bool w,.slice y z a0,.slice a1 a2 a3]/\
 CallsU Tryz.prog 264 [.agg #[.bool w,.slice y z a0]] b9 fun c0 c1=>
 ∃ a4 a5,c0 = .tuple #[.int .i64 a4,.bool a5]/\
 Br (!a5)
 (LeH c1 c1/\
 R (.tuple #[.int .i64 0,.bool false]) c1)
 (CallsU Tryz.prog 263 [.int .i64 a4] c1 fun c2 c3=>
 ∃ a6 a7 a8 a9 b0 b1 b2,c2 = .agg #[.bool a6,.slice a7 a8 a9,.slice b0 b1 b2]/\
 LeH c1 c3/\
 CallsU Tryz.prog 101 [.agg #[.bool w,.slice y z a0,.slice a1 a2 a3],.agg #[.bool a6,.slice a7 a8 a9,.slice b0 b1 b2]] c3 fun c4 c5=>
 ∃ b3,c4 = .int .i64 b3/\
 Br ((b3:Int) != 0)
 (R (.tuple #[.int .i64 0,.bool false]) c5)
 (Br (decide (a4<0))
 (R (.tuple #[.int .i64 0,.bool false]) c5)
 (Br (decide (a4>9999999999999))
 (R (.tuple #[.int .i64 0,.bool false]) c5)
 (R (.tuple #[.int .i64 a4,.bool true]) c5))))
theorem ref17_units_ok {a:Bool} {b:OA} {c d:Nat} {e:OA} {f g:Nat} {h:Heap} {R:Value->Heap->Prop} (hv:ref17_units_vc a b c d e f g h R):CallsU Tryz.prog 232 [.agg #[.bool a,.slice b c d,.slice e f g]] h R:=
 fn_ok Tryz.func232 (fun _=>false) (.two .nil (.two (.ord [0,1,2,3,4,5]) (.two .nil (.two (.two (.ord [0,1,2,3,4,5,6,7,8,9,10,11,12,13,14,15,16]) .nil) .nil)))) hv
def ref17_right_vc (a:Int) (b:Bool) (c:OA) (d e:Nat) (f:OA) (g i:Nat) (j:ByteArray) (_k:OA) (l _m:Nat) (h:Heap) (R:Value->Heap->Prop):Prop:=
 CallsU Tryz.prog 263 [.int .i64 0] h fun a5 a6=>
 ∃ n o p q r s t,a5 = .agg #[.bool n,.slice o p q,.slice r s t]/\
 LeH h a6/\
 CallsU Tryz.prog 101 [.agg #[.bool b,.slice c d e,.slice f g i],.agg #[.bool n,.slice o p q,.slice r s t]] a6 fun a7 a8=>
 ∃ u,a7 = .int .i64 u/\
 Br ((a:Int)==1)
 (CallsU Tryz.prog 232 [.agg #[.bool b,.slice c d e,.slice f g i]] a8 fun a9 b0=>
 ∃ v w,a9 = .tuple #[.int .i64 v,.bool w]/\
 Br (w)
 (Br (j.toList==(⟨#[]⟩:ByteArray).toList)
 (R (.bool ((l:Int)==0)) b0)
 (R (.bool false) b0))
 (R (.bool false) b0))
 (Br ((a:Int)==2)
 (CallsU Tryz.prog 267 [.string j] a8 fun b1 b2=>
 ∃ y,b1 = .bool y/\
 Br (y)
 (Br ((u:Int)==0)
 (R (.bool ((l:Int)==0)) b2)
 (R (.bool false) b2))
 (R (.bool false) b2))
 (∃ z:Bool->Heap->Prop,(∀ (a1:Bool) (a2:Heap),z a1 a2->
 Br (a1)
 (Br ((u:Int)==0)
 (Br (j.toList==(⟨#[]⟩:ByteArray).toList)
 (R (.bool ((l:Int)==2)) a2)
 (R (.bool false) a2))
 (R (.bool false) a2))
 (Br ((a:Int)==7)
 (Br ((u:Int)==0)
 (Br (j.toList==(⟨#[]⟩:ByteArray).toList)
 (R (.bool ((l:Int)==1)) a2)
 (R (.bool false) a2))
 (R (.bool false) a2))
 (∃ a0:Bool->Heap->Prop,(∀ (a3:Bool) (a4:Heap),a0 a3 a4->
 Br (a3)
 (Br ((u:Int)==0)
 (Br (j.toList==(⟨#[]⟩:ByteArray).toList)
 (Br (decide ((l:Int)>=1))
 (R (.bool (decide ((l:Int)<=8))) a4)
 (R (.bool false) a4))
 (R (.bool false) a4))
 (R (.bool false) a4))
 (R (.bool false) a4))/\
 Br ((a:Int)==8)
 (a0 ((a:Int)==8) a2)
 (a0 ((a:Int)==9) a2))))/\
 Br ((a:Int)==3)
 (z ((a:Int)==3) a8)
 (Br ((a:Int)==4)
 (z ((a:Int)==4) a8)
 (Br ((a:Int)==5)
 (z ((a:Int)==5) a8)
 (z ((a:Int)==6) a8)))))
theorem ref17_right_ok {a:Int} {b:Bool} {c:OA} {d e:Nat} {f:OA} {g i:Nat} {j:ByteArray} {k:OA} {l m:Nat} {h:Heap} {R:Value->Heap->Prop} (hv:ref17_right_vc a b c d e f g i j k l m h R):CallsU Tryz.prog 235 [.agg #[.int .i64 a,.bool b,.slice c d e,.slice f g i,.string j,.slice k l m]] h R:=
 fn_ok Tryz.func235 (fun _=>false) (.two .nil (.two (.ord [0,1,2,3,4,5]) (.two .nil (.two (.two .nil (.one (.two .nil (.two .nil (.two .nil (.two .nil (.cut ⟨[(47,Sh.bool)],[]⟩ .nil (.two .nil (.two .nil (.two .nil (.cut ⟨[(74,Sh.bool)],[]⟩ .nil .nil))))))))))) .nil)))) hv
def ref03_Mul_vc (a:Bool) (b:OA) (c d:Nat) (e:OA) (f g:Nat) (i:Bool) (j:OA) (k l:Nat) (m:OA) (n o:Nat) (h:Heap) (R:Value->Heap->Prop):Prop:=
 CallsU Tryz.prog 119 [.agg #[.bool a,.slice b c d,.slice e f g]] h fun b7 b8=>
 ∃ p q r s t u v,b7 = .agg #[.bool p,.slice q r s,.slice t u v]/\
 LeH h b8/\
 CallsU Tryz.prog 119 [.agg #[.bool i,.slice j k l,.slice m n o]] b8 fun b9 c0=>
 ∃ w y z a0 a1 a2 a3,b9 = .agg #[.bool w,.slice y z a0,.slice a1 a2 a3]/\
 CallsU Tryz.prog 122 [.slice q r s,.slice y z a0] c0 fun c1 c2=>
 ∃ a4 a5 a6,c1 = .slice a4 a5 a6/\
 LeH c0 c2/\
 CallsU Tryz.prog 122 [.slice t u v,.slice a1 a2 a3] c2 fun c3 c4=>
 ∃ a7 a8 a9,c3 = .slice a7 a8 a9/\
 LeH c2 c4/\
 CallsU Tryz.prog 70 [.bool (!(p==w)),.slice a4 a5 a6,.slice a7 a8 a9] c4 fun c5 c6=>
 ∃ b0 b1 b2 b3 b4 b5 b6,c5 = .agg #[.bool b0,.slice b1 b2 b3,.slice b4 b5 b6]/\
 R (.agg #[.bool b0,.slice b1 b2 b3,.slice b4 b5 b6]) c6
theorem ref03_Mul_ok {a:Bool} {b:OA} {c d:Nat} {e:OA} {f g:Nat} {i:Bool} {j:OA} {k l:Nat} {m:OA} {n o:Nat} {h:Heap} {R:Value->Heap->Prop} (hv:ref03_Mul_vc a b c d e f g i j k l m n o h R):CallsU Tryz.prog 237 [.agg #[.bool a,.slice b c d,.slice e f g],.agg #[.bool i,.slice j k l,.slice m n o]] h R:=
 fn_ok Tryz.func237 (fun _=>false) (.two .nil (.two (.ord [0,2,1,3,4,5,6,7]) (.two (.ord [0,1,2,3,4,5,6,7,8,9,10,11,12,14,15,16,17,13,18,19,20]) .nil))) hv
def ref17_whole_vc (n:Int) (h:Heap) (R:Value->Heap->Prop):Prop:=
 CallsU Tryz.prog 36 [.int .i64 n,.int .i64 1] h fun j k=>
 ∃ a b c d e f g i,j = .tuple #[.agg #[.bool a,.slice b c d,.slice e f g],.bool i]/\
 R (.agg #[.bool a,.slice b c d,.slice e f g]) k
theorem ref17_whole_ok {n:Int} {h:Heap} {R:Value->Heap->Prop} (hv:ref17_whole_vc n h R):CallsU Tryz.prog 263 [.int .i64 n] h R:=
 fn_ok Tryz.func263 (fun _=>false) .nil hv
def ref02_Small_vc (a:Bool) (b:OA) (c d:Nat) (h:Heap) (R:Value->Heap->Prop):Prop:=
 CallsU Tryz.prog 125 [.agg #[.bool a,.slice b c d]] h fun a1 a2=>
 ∃ e f g i,a1 = .agg #[.bool e,.slice f g i]/\
 Br (decide ((g:Int)>2))
 (R (.tuple #[.int .i64 0,.bool false]) a2)
 (∀ q:Int,q=IntKind.i64.wrap ((g:Int)-1)->
 ∃ j:Nat->Int->Int->Heap->Prop,(∃ k,j k 0 q a2)/\
 ∀ (k:Nat) (n:Int) (y:Int) (z:Heap),j k n y z->
 Br (decide (y>=0))
 (∀ r:Int,r=IntKind.u64.wrap (n*4294967296)->
 ∃ l:Addr,f=some l/\0<=y/\y<(g:Int)/\
 ∃ m,LdN z (Addr.add l (Int.toNat y*1)) [.int .u32 m]/\
 ∀ s:Int,s=IntKind.u64.wrap (r+(IntKind.u64.wrap m))->
 ∀ t:Int,t=IntKind.i64.wrap (y-1)->
 ∃ o,o<k/\j o s t z)
 (∃ p:Heap->Prop,(∀  (a0:Heap),p a0->
 Br (!e)
 (Br (decide (n<=9223372036854775807))
 (R (.tuple #[.int .i64 (IntKind.i64.wrap n),.bool true]) a0)
 (R (.tuple #[.int .i64 0,.bool false]) a0))
 (R (.tuple #[.int .i64 0,.bool false]) a0))/\
 Br (e)
 (Br (decide (n<=9223372036854775808))
 (∀ u:Int,u=IntKind.u64.wrap (n-1)->
 ∀ v:Int,v=IntKind.i64.wrap (0-(IntKind.i64.wrap u))->
 ∀ w:Int,w=IntKind.i64.wrap (v-1)->
 R (.tuple #[.int .i64 w,.bool true]) z)
 (p z))
 (p z)))
theorem ref02_Small_ok {a:Bool} {b:OA} {c d:Nat} {h:Heap} {R:Value->Heap->Prop} (hv:ref02_Small_vc a b c d h R):CallsU Tryz.prog 264 [.agg #[.bool a,.slice b c d]] h R:=
 fn_ok Tryz.func264 (fun _=>false) (.two .nil (.two .nil (.two .nil (.two .nil (.two (.two .nil (.one (.loop ⟨[(5,Sh.int .u64),(6,Sh.int .i64)],[]⟩ .nil))) (.cut ⟨[],[]⟩ .nil .nil)))))) hv
def ref17_Name_vc (a:ByteArray) (h:Heap) (R:Value->Heap->Prop):Prop:=
 ∃ b:Bool->Heap->Prop,(∀ (q:Bool) (r:Heap),b q r->
 Br (q)
 (R (.bool false) r)
 (∃ c:Nat->Int->Heap->Prop,(∃ d,c d 0 r)/\
 ∀ (d:Nat) (s:Int) (t:Heap),c d s t->
 Br (decide (s<(a.size:Int)))
 (∃ e:UInt8,0<=s/\a[(Int.toNat s:Nat)]?=some e/\
 CallsU Tryz.prog 289 [.int .u8 (e.toNat:Int)] t fun u v=>
 ∃ f,u = .bool f/\
 Br (!f)
 (∃ g:UInt8,0<=s/\a[(Int.toNat s:Nat)]?=some g/\
 Br ((g.toNat:Int) != 95)
 (∃ i:UInt8,0<=s/\a[(Int.toNat s:Nat)]?=some i/\
 Br (decide ((i.toNat:Int)<97))
 (R (.bool false) v)
 (∃ j:UInt8,0<=s/\a[(Int.toNat s:Nat)]?=some j/\
 Br (decide ((j.toNat:Int)>122))
 (R (.bool false) v)
 (∀ n:Int,n=IntKind.i64.wrap (s+1)->
 ∃ k,k<d/\c k n v)))
 (∀ o:Int,o=IntKind.i64.wrap (s+1)->
 ∃ k,k<d/\c k o v))
 (∀ p:Int,p=IntKind.i64.wrap (s+1)->
 ∃ k,k<d/\c k p v))
 (R (.bool true) t)))/\
 Br (a.toList==(⟨#[]⟩:ByteArray).toList)
 (b true h)
 (Br (decide ((a.size:Int)>24))
 (b true h)
 (Br (a.toList==(⟨#[109,105,110]⟩:ByteArray).toList)
 (b true h)
 (Br (a.toList==(⟨#[109,97,120]⟩:ByteArray).toList)
 (b true h)
 (∃ l:UInt8,0<=(0:Int)/\a[(0:Nat)]?=some l/\
 Br (decide ((l.toNat:Int)<97))
 (b true h)
 (∃ m:UInt8,0<=(0:Int)/\a[(0:Nat)]?=some m/\
 b (decide ((m.toNat:Int)>122)) h)))))
theorem ref17_Name_ok {a:ByteArray} {h:Heap} {R:Value->Heap->Prop} (hv:ref17_Name_vc a h R):CallsU Tryz.prog 267 [.string a] h R:=
 fn_ok Tryz.func267 (fun _=>false) (.two .nil (.two (.cut ⟨[(28,Sh.bool)],[]⟩ .nil .nil) (.two (.two .nil (.one (.loop ⟨[(3,Sh.int .i64)],[]⟩ .nil))) .nil))) hv
def ref17_digit_vc (a:Int) (h:Heap) (R:Value->Heap->Prop):Prop:=
 Br (decide (a>=48))
 (R (.bool (decide (a<=57))) h)
 (R (.bool false) h)
theorem ref17_digit_ok {a:Int} {h:Heap} {R:Value->Heap->Prop} (hv:ref17_digit_vc a h R):CallsU Tryz.prog 289 [.int .u8 a] h R:=
 fn_ok Tryz.func289 (fun _=>false) .nil hv
end Go.Proofs.YtfglcgbgaeegaaaGreatDoor

namespace Go.Proofs.YtfglcgbgaeegaaaGreatDoor
open Go Go.Vcg
attribute [local irreducible] Br
theorem getD_some {l:List Int} {i:Nat} (h:i<l.length):l[i]?=some (l.getD i 0):=by simp [h]
end Go.Proofs.YtfglcgbgaeegaaaGreatDoor

namespace Go.Proofs.YtfglcgbgaeegaaaGreatDoor
open Go Go.Vcg
def law19_DraftChecks_vc (a:OA) (b c:Nat) (h:Heap) (R:Value->Heap->Prop):Prop:=
 CallsU Tryz.prog 22 [.slice a b c] h fun j k=>
 ∃ d,j = .bool d/\
 Br (!d)
 (CallsU Tryz.prog 14 [] k fun l m=>
 ∃ e,l = .bool e/\
 R (.bool e) m)
 (CallsU Tryz.prog 13 [.slice a b c] k fun n o=>
 ∃ f,n = .int .i64 f/\
 CallsU Tryz.prog 23 [.slice a b c] o fun p q=>
 ∃ g,p = .int .i64 g/\
 Br ((f:Int)==g)
 (CallsU Tryz.prog 14 [] q fun r s=>
 ∃ i,r = .bool i/\
 R (.bool i) s)
 (R (.bool false) q))
theorem law19_DraftChecks_ok {a:OA} {b c:Nat} {h:Heap} {R:Value->Heap->Prop} (hv:law19_DraftChecks_vc a b c h R):CallsU Tryz.prog 5 [.slice a b c] h R:=
 fn_ok Tryz.func5 (fun _=>false) .nil hv
def law19_alive_vc  (h:Heap) (R:Value->Heap->Prop):Prop:=
 CallsU Tryz.prog 24 [.string (⟨#[35,32,97,32,110,101,99,107,108,105,110,101,10,65,32,61,32,97,116,32,48,32,44,32,48,10,66,32,61,32,102,114,111,109,32,65,32,98,121,32,119,32,47,32,50,32,44,32,48,10,67,32,61,32,102,114,111,109,32,65,32,98,121,32,48,32,44,32,109,97,120,40,119,44,32,52,41,10,68,32,61,32,111,110,32,66,32,67,32,97,116,32,48,46,53,10,69,32,61,32,102,111,111,116,32,65,32,66,32,67,10,70,32,61,32,109,105,114,114,111,114,32,65,32,66,32,67,10,71,32,61,32,109,101,101,116,32,65,32,68,32,66,32,67,10]⟩:ByteArray)] h fun n1 n2=>
 ∃ a b c d e,n1 = .tuple #[.slice a b c,.int .i64 d,.int .i64 e]/\
 CallsU Tryz.prog 32 [] n2 fun n3 n4=>
 ∃ f g i,n3 = .slice f g i/\
 CallsU Tryz.prog 16 [.slice a b c,.slice f g i] n4 fun n5 n6=>
 ∃ j k l m n,n5 = .tuple #[.slice j k l,.int .i64 m,.int .i64 n]/\
 CallsU Tryz.prog 24 [.string (⟨#[65,32,61,32,97,116,32,48,32,44,32,48,10,10,66,32,61,32,111,110,32,65,32,67,32,97,116,32,49,10]⟩:ByteArray)] n6 fun n7 n8=>
 ∃ o p q r s,n7 = .tuple #[.slice o p q,.int .i64 r,.int .i64 s]/\
 CallsU Tryz.prog 27 [.slice a b c] n8 fun n9 o0=>
 ∃ t u,n9 = .tuple #[.string t,.int .i64 u]/\
 ∃ v:Bool->Heap->Prop,(∀ (m9:Bool) (n0:Heap),v m9 n0->
 Br (m9)
 (R (.bool false) n0)
 (CallsU Tryz.prog 15 [.int .i64 16,.int .i64 5] n0 fun o1 o2=>
 ∃ w y z a0 a1 a2 a3,o1 = .agg #[.bool w,.slice y z a0,.slice a1 a2 a3]/\
 CallsU Tryz.prog 15 [.int .i64 8,.int .i64 5] o2 fun o3 o4=>
 ∃ a4 a5 a6 a7 a8 a9 b0,o3 = .agg #[.bool a4,.slice a5 a6 a7,.slice a8 a9 b0]/\
 ∃ b1:Addr,j=some b1/\0<=(6:Int)/\(6:Int)<(k:Int)/\
 ∃ b2,LdN o4 (Addr.add (Addr.add b1 (6*7)) 0) [.string b2]/\
 Br (b2.toList==(⟨#[71]⟩:ByteArray).toList)
 (∃ b3:Addr,j=some b3/\0<=(3:Int)/\(3:Int)<(k:Int)/\
 ∃ b4 b5 b6 b7 b8 b9 c0 c1 c2 c3 c4 c5 c6 c7,LdN o4 (Addr.add (Addr.add b3 (3*7)) 1) [.bool b4,.slice b5 b6 b7,.slice b8 b9 c0,.bool c1,.slice c2 c3 c4,.slice c5 c6 c7]/\
 CallsU Tryz.prog 34 [.int .i64 2,.int .i64 4] o4 fun o5 o6=>
 ∃ c8 c9 d0 d1 d2 d3 d4 d5 d6 d7 d8 d9 e0 e1,o5 = .agg #[.bool c8,.slice c9 d0 d1,.slice d2 d3 d4,.bool d5,.slice d6 d7 d8,.slice d9 e0 e1]/\
 LeH o4 o6/\
 CallsU Tryz.prog 33 [.agg #[.bool b4,.slice b5 b6 b7,.slice b8 b9 c0,.bool c1,.slice c2 c3 c4,.slice c5 c6 c7],.agg #[.bool c8,.slice c9 d0 d1,.slice d2 d3 d4,.bool d5,.slice d6 d7 d8,.slice d9 e0 e1]] o6 fun o7 o8=>
 ∃ e2,o7 = .bool e2/\
 Br (e2)
 (∃ e3:Addr,j=some e3/\0<=(4:Int)/\(4:Int)<(k:Int)/\
 ∃ e4 e5 e6 e7 e8 e9 f0 f1 f2 f3 f4 f5 f6 f7,LdN o8 (Addr.add (Addr.add e3 (4*7)) 1) [.bool e4,.slice e5 e6 e7,.slice e8 e9 f0,.bool f1,.slice f2 f3 f4,.slice f5 f6 f7]/\
 CallsU Tryz.prog 33 [.agg #[.bool e4,.slice e5 e6 e7,.slice e8 e9 f0,.bool f1,.slice f2 f3 f4,.slice f5 f6 f7],.agg #[.bool w,.slice y z a0,.slice a1 a2 a3,.bool a4,.slice a5 a6 a7,.slice a8 a9 b0]] o8 fun o9 p0=>
 ∃ f8,o9 = .bool f8/\
 Br (f8)
 (∃ f9:Addr,j=some f9/\0<=(5:Int)/\(5:Int)<(k:Int)/\
 ∃ g0 g1 g2 g3 g4 g5 g6 g7 g8 g9 i0 i1 i2 i3,LdN p0 (Addr.add (Addr.add f9 (5*7)) 1) [.bool g0,.slice g1 g2 g3,.slice g4 g5 g6,.bool g7,.slice g8 g9 i0,.slice i1 i2 i3]/\
 CallsU Tryz.prog 35 [.agg #[.bool w,.slice y z a0,.slice a1 a2 a3,.bool a4,.slice a5 a6 a7,.slice a8 a9 b0],.agg #[.bool w,.slice y z a0,.slice a1 a2 a3,.bool a4,.slice a5 a6 a7,.slice a8 a9 b0]] p0 fun p1 p2=>
 ∃ i4 i5 i6 i7 i8 i9 j0 j1 j2 j3 j4 j5 j6 j7,p1 = .agg #[.bool i4,.slice i5 i6 i7,.slice i8 i9 j0,.bool j1,.slice j2 j3 j4,.slice j5 j6 j7]/\
 LeH p0 p2/\
 CallsU Tryz.prog 33 [.agg #[.bool g0,.slice g1 g2 g3,.slice g4 g5 g6,.bool g7,.slice g8 g9 i0,.slice i1 i2 i3],.agg #[.bool i4,.slice i5 i6 i7,.slice i8 i9 j0,.bool j1,.slice j2 j3 j4,.slice j5 j6 j7]] p2 fun p3 p4=>
 ∃ j8,p3 = .bool j8/\
 Br (j8)
 (∃ j9:Addr,j=some j9/\0<=(6:Int)/\(6:Int)<(k:Int)/\
 ∃ k0 k1 k2 k3 k4 k5 k6 k7 k8 k9 l0 l1 l2 l3,LdN p4 (Addr.add (Addr.add j9 (6*7)) 1) [.bool k0,.slice k1 k2 k3,.slice k4 k5 k6,.bool k7,.slice k8 k9 l0,.slice l1 l2 l3]/\
 CallsU Tryz.prog 34 [.int .i64 2,.int .i64 4] p4 fun p5 p6=>
 ∃ l4 l5 l6 l7 l8 l9 m0 m1 m2 m3 m4 m5 m6 m7,p5 = .agg #[.bool l4,.slice l5 l6 l7,.slice l8 l9 m0,.bool m1,.slice m2 m3 m4,.slice m5 m6 m7]/\
 LeH p4 p6/\
 CallsU Tryz.prog 33 [.agg #[.bool k0,.slice k1 k2 k3,.slice k4 k5 k6,.bool k7,.slice k8 k9 l0,.slice l1 l2 l3],.agg #[.bool l4,.slice l5 l6 l7,.slice l8 l9 m0,.bool m1,.slice m2 m3 m4,.slice m5 m6 m7]] p6 fun p7 p8=>
 ∃ m8,p7 = .bool m8/\
 Br (m8)
 (((0:Nat):Int)<=(13:Int)/\13<=(((⟨#[35,32,97,32,110,101,99,107,108,105,110,101,10,65,32,61,32,97,116,32,48,32,44,32,48,10,66,32,61,32,102,114,111,109,32,65,32,98,121,32,119,32,47,32,50,32,44,32,48,10,67,32,61,32,102,114,111,109,32,65,32,98,121,32,48,32,44,32,109,97,120,40,119,44,32,52,41,10,68,32,61,32,111,110,32,66,32,67,32,97,116,32,48,46,53,10,69,32,61,32,102,111,111,116,32,65,32,66,32,67,10,70,32,61,32,109,105,114,114,111,114,32,65,32,66,32,67,10,71,32,61,32,109,101,101,116,32,65,32,68,32,66,32,67,10]⟩:ByteArray).size:Nat):Int)/\
 R (.bool (t.toList==(ByteArray.extract (⟨#[35,32,97,32,110,101,99,107,108,105,110,101,10,65,32,61,32,97,116,32,48,32,44,32,48,10,66,32,61,32,102,114,111,109,32,65,32,98,121,32,119,32,47,32,50,32,44,32,48,10,67,32,61,32,102,114,111,109,32,65,32,98,121,32,48,32,44,32,109,97,120,40,119,44,32,52,41,10,68,32,61,32,111,110,32,66,32,67,32,97,116,32,48,46,53,10,69,32,61,32,102,111,111,116,32,65,32,66,32,67,10,70,32,61,32,109,105,114,114,111,114,32,65,32,66,32,67,10,71,32,61,32,109,101,101,116,32,65,32,68,32,66,32,67,10]⟩:ByteArray) 13 ((⟨#[35,32,97,32,110,101,99,107,108,105,110,101,10,65,32,61,32,97,116,32,48,32,44,32,48,10,66,32,61,32,102,114,111,109,32,65,32,98,121,32,119,32,47,32,50,32,44,32,48,10,67,32,61,32,102,114,111,109,32,65,32,98,121,32,48,32,44,32,109,97,120,40,119,44,32,52,41,10,68,32,61,32,111,110,32,66,32,67,32,97,116,32,48,46,53,10,69,32,61,32,102,111,111,116,32,65,32,66,32,67,10,70,32,61,32,109,105,114,114,111,114,32,65,32,66,32,67,10,71,32,61,32,109,101,101,116,32,65,32,68,32,66,32,67,10]⟩:ByteArray).size)).toList)) p8)
 (R (.bool false) p8))
 (LeH p4 p4/\
 R (.bool false) p4))
 (LeH p0 p0/\
 LeH p0 p0/\
 R (.bool false) p0))
 (LeH o8 o8/\
 LeH o8 o8/\
 R (.bool false) o8))
 (LeH o4 o4/\
 LeH o4 o4/\
 LeH o4 o4/\
 R (.bool false) o4)))/\
 Br ((d:Int) != 0)
 (v true o0)
 (Br ((m:Int) != 0)
 (v true o0)
 (Br ((e:Int) != 0)
 (v true o0)
 (Br ((n:Int) != 0)
 (v true o0)
 (Br ((r:Int) != 6)
 (v true o0)
 (Br ((s:Int) != 3)
 (v true o0)
 (Br ((u:Int) != 0)
 (v true o0)
 (Br ((b:Int) != 7)
 (v true o0)
 (Br ((k:Int) != 7)
 (v true o0)
 (v ((t.size:Int) != 132) o0)))))))))
theorem law19_alive_ok  {h:Heap} {R:Value->Heap->Prop} (hv:law19_alive_vc  h R):CallsU Tryz.prog 14 [] h R:=
 fn_ok Tryz.func14 (fun _=>false) (.two .nil (.two .nil (.two .nil (.two .nil (.two .nil (.two (.cut ⟨[(75,Sh.bool)],[]⟩ .nil .nil) (.two .nil (.two (.ord [0,1,2,3,4,5,6,7,8,9,10,11,12,13,14,15,16,17,18,19,20,21,22,23,24,25,26,27,28,29,30,31,32,33,34,35,36,37,38,39,40,41,42,43,44]) .nil)))))))) hv
def law19_ratio_vc (a:Int) (b:Int) (h:Heap) (R:Value->Heap->Prop):Prop:=
 CallsU Tryz.prog 36 [.int .i64 a,.int .i64 b] h fun l m=>
 ∃ c d e f g i j k,l = .tuple #[.agg #[.bool c,.slice d e f,.slice g i j],.bool k]/\
 R (.agg #[.bool c,.slice d e f,.slice g i j]) m
theorem law19_ratio_ok {a:Int} {b:Int} {h:Heap} {R:Value->Heap->Prop} (hv:law19_ratio_vc a b h R):CallsU Tryz.prog 15 [.int .i64 a,.int .i64 b] h R:=
 fn_ok Tryz.func15 (fun _=>false) .nil hv
def law19_env_vc  (h:Heap) (R:Value->Heap->Prop):Prop:=
 CallsU Tryz.prog 65 [.int .i64 8] h fun k l=>
 ∃ a b c d e f g,k = .agg #[.bool a,.slice b c d,.slice e f g]/\
 ∀ (i:Nat) (j:Heap),l i=none->j=Heap.put l i ⟨[.string (⟨#[119]⟩:ByteArray),.bool a,.slice b c d,.slice e f g],45,(0,0)⟩->
 R (.slice (some ⟨i,0,none⟩) 1 1) j
theorem law19_env_ok  {h:Heap} {R:Value->Heap->Prop} (hv:law19_env_vc  h R):CallsU Tryz.prog 32 [] h R:=
 fn_ok Tryz.func32 (fun _=>false) .nil hv
end Go.Proofs.YtfglcgbgaeegaaaGreatDoor

namespace Go.Proofs.YtfglcgbgaeegaaaGreatDoor
open Go Go.Vcg
attribute [local irreducible] Br
theorem lv_one1 (y:Nat):Go.Vcg.one (lv y)=true:=rfl
theorem Sl.u32 {h:Heap} {A:Option Addr} {n c:Nat} {xs:List Nat} (u:Sl lv h A n c xs) (hlt : ∀ x∈xs,x<4294967296):U32 h A n c xs:=⟨u.len,u.cap,hlt,u.mem⟩
theorem r1of_c (n:Nat) (hn:n<18446744073709551616) (h:Heap) :
  CallsU Tryz.prog 116 [.int .u64 n] h fun r h' => ∃ A m c,r = .slice A m c/\m<=2/\NmN h' A m c n/\Le h h' := by
 apply ref01_Of_ok
 have hB:B32=4294967296:=rfl
 refine ⟨fun m x oA on oc h' => ∃ gs:List Nat,x=(m:Int)/\val gs+B32^gs.length*m=n/\(∀ y∈gs,y<4294967296)/\(m=0->Nrm gs)/\gs.length<=2/\OwnE lv 166 h h' oA on oc gs/\Le h h', ⟨n,[],rfl,by simp [val],by simp,fun _=>nrm_nil,by simp,OwnE.nil h,Le.refl h⟩, ?_⟩
 rintro m _ oA on oc h1 ⟨gs,rfl,hval,hlt,hnz,hlen,own,hle⟩
 have hon:=own.1
 refine Br.mk (fun q=> ?_) (fun q=> ?_)
 ·have q' : 0<m:=by simp at q;omega
  have hl1:gs.length<=1:=by
   rcases Nat.lt_or_ge gs.length 2 with a | a
   ·omega
   ·exfalso
    have e:gs.length=2:=by omega
    rw [e,hB] at hval
    omega
  have hm:m<=n:=by
   have:1*m<=B32^gs.length*m:=Nat.mul_le_mul_right _ (Nat.pow_pos (by decide))
   omega
  rintro _ rfl g0 _ hg0 rfl
  have e1:IntKind.u32.wrap (Int.tmod (m:Int) 4294967296)=((m%4294967296:Nat):Int):=by
   rw [Int.tmod_eq_emod_of_nonneg (by omega),wrap_u32_mod];omega
  rw [e1]
  refine own.app (x:=m%4294967296) (z:=0) (bs:=4) (K:=fun A c hh=> ∀ t:Int,t=IntKind.u64.wrap (Int.tdiv (m:Int) 4294967296)-> ∃ m', m' < m/\ ∃ gs:List Nat,t=(m' : Int)/\val gs+B32^gs.length*m' = n/\(∀ y∈gs,y<4294967296)/\(m' = 0->Nrm gs)/\gs.length<=2/\OwnE lv 166 h hh A (on+1) c gs/\Le h hh) hle lv_one1 rfl rfl hg0 (by omega) ?_
  intro A' c' h' o l _
  rintro _ rfl
  have e2:IntKind.u64.wrap (Int.tdiv (m:Int) 4294967296)=((m/4294967296:Nat):Int):=by
   rw [Int.tdiv_eq_ediv_of_nonneg (by omega),wrap_u64_mod];omega
  rw [e2]
  refine ⟨_,Nat.div_lt_self q' (by decide),gs++[m%4294967296],rfl, ?_, ?_, ?_,by simp;omega,o,l⟩
  ·rw [val_append,List.length_append,List.length_singleton,Nat.pow_succ,<- hval]
   simp only [val,Nat.mul_zero,Nat.add_zero]
   have h2:=Nat.mod_add_div m 4294967296
   rw [hB] at *
   generalize 4294967296^gs.length=M at *
   rw [Nat.mul_assoc,Nat.add_assoc,<- Nat.mul_add,h2]
  ·intro y hy
   rcases List.mem_append.1 hy with a | a
   ·exact hlt y a
   ·rw [List.mem_singleton.1 a];exact Nat.mod_lt _ (by decide)
  ·intro e
   simp only [Nrm,List.getLast?_append,List.getLast?_singleton,Option.some_or,ne_eq,Option.some.injEq]
   omega
 ·have q' : m=0:=by simp at q;omega
  subst q'
  rw [Nat.mul_zero,Nat.add_zero] at hval
  exact ⟨_,_,_,rfl,by omega,⟨gs,own.sl.u32 hlt,hval,hnz rfl⟩,hle⟩
theorem r2of_c (z:Int) (h1 : -9223372036854775808<=z) (h2:z<9223372036854775808) (h:Heap) :
  CallsU Tryz.prog 69 [.int .i64 z] h fun r h' => ∃ s' A' k c', r = .agg #[.bool s', .slice A' k c']/\NmI h' s' A' k c' z/\k<=2/\Le h h' := by
 apply ref02_Of_ok
 refine Br.mk (fun q=> ?_) (fun q=> ?_)
 ·have hz:z<0:=by simpa using q
  rintro _ rfl _ rfl _ rfl
  have e:IntKind.u64.wrap (IntKind.u64.wrap (IntKind.i64.wrap (0-IntKind.i64.wrap (z+1)))+1)=((z.natAbs:Nat):Int):=by
   rw [wrap_i64 (x:=z+1) (by omega) (by omega),wrap_i64 (by omega) (by omega),wrap_u64 (x:=0-(z+1)) (by omega) (by omega),wrap_u64 (by omega) (by omega)];omega
  rw [e]
  refine (r1of_c z.natAbs (by omega) h).mono ?_
  rintro _ h1 ⟨A,m,c,rfl,hm,hN,hl⟩
  exact ⟨_,_,_,rfl,_,_,_,_,rfl,⟨hN,by simp [hz]⟩,hm,hl⟩
 ·have hz:0<=z:=by simpa using q
  rw [wu (n:=z.natAbs) (by omega) (by omega)]
  refine (r1of_c z.natAbs (by omega) h).mono ?_
  rintro _ h1 ⟨A,m,c,rfl,hm,hN,hl⟩
  exact ⟨_,_,_,rfl,_,_,_,_,rfl,⟨hN,by simp;omega⟩,hm,hl⟩
theorem whole_c (z:Int) (h1 : -9223372036854775808<=z) (h2:z<9223372036854775808) (h:Heap) :
  CallsU Tryz.prog 65 [.int .i64 z] h fun r h' => ∃ s' A' n' c' B' m' d', r = .agg #[.bool s', .slice A' n' c', .slice B' m' d']/\NmQ h' s' A' n' c' B' m' d' (z:Rat)/\n' <= 2/\m' <= 2/\Le h h' := by
 apply ref03_Whole_ok
 refine (r2of_c z h1 h2 h).mono ?_
 rintro _ h1 ⟨s,A,k,c,rfl,hI,hk,hl⟩
 refine ⟨_,_,_,_,rfl,(r1of_c 1 (by omega) h1).mono ?_⟩
 rintro _ h2 ⟨B,m,d,rfl,hm,hN,hl2⟩
 exact ⟨_,_,_,rfl,_,_,_,_,_,_,_,rfl,⟨hI.mono hl2,hN⟩,hk,hm,hl.trans hl2⟩
end Go.Proofs.YtfglcgbgaeegaaaGreatDoor
