/-
 Gathered texts of this proof: Pp1,Pp2,Pp3,Pp4,Rh1,Dr1,Rg4,Dr2,Dr3.
-/
import Derived.Test.YtfglcgbgaeegaaaGreatDoorG09
import Derived.Test.YtfglcgbgaeegaaaGreatDoorG10

namespace Go.Proofs.YtfglcgbgaeegaaaGreatDoor
open Go Go.Vcg Go.RowKit Go.Sort
theorem aft_le (r:List UInt8):(aft r).length<=r.length:=by
 have h1:=congrArg List.length (tk_split r)
 have h2:=skip_le r
 rw [List.length_append] at h1
 omega
theorem aft_lt {r:List UInt8} (h:tk r≠[]):(aft r).length<r.length:=by
 have h1:=congrArg List.length (tk_split r)
 have h2:=skip_le r
 rw [List.length_append] at h1
 have:0<(tk r).length:=List.length_pos_iff.2 h
 omega
theorem p_le : ∀ n:Nat,(∀ r x r', pSum n r = .ok (x,r')->r'.length<=r.length)/\(∀ y r x r', pSumL n y r = .ok (x,r')->r'.length<=r.length)/\(∀ r x r', pProd n r = .ok (x,r')->r'.length<=r.length)/\(∀ y r x r', pProdL n y r = .ok (x,r')->r'.length<=r.length)/\(∀ r x r', pFac n r = .ok (x,r')->r'.length<=r.length)/\(∀ k r x r', pCall n k r = .ok (x,r')->r'.length<=r.length)/\(∀ k es r x r', pCallL n k es r = .ok (x,r')->r'.length<=r.length)
 | 0=>by
  refine ⟨?_, ?_, ?_, ?_, ?_, ?_, ?_⟩<;>intros<;>rename_i h<;>first | (rw [pSum] at h;cases h) | (rw [pSumL] at h;cases h) | (rw [pProd] at h;cases h) | (rw [pProdL] at h;cases h) | (rw [pFac] at h;cases h) | (rw [pCall] at h;cases h) | (rw [pCallL] at h;cases h)
 | n+1=>by
  obtain ⟨iS,iSL,iP,iPL,iF,iC,iCL⟩:=p_le n
  refine ⟨?_, ?_, ?_, ?_, ?_, ?_, ?_⟩
  ·intro r x r' h
   rw [pSum] at h
   split at h
   ·cases h
   ·rename_i y r1 h1
    exact Nat.le_trans (iSL _ _ _ _ h) (iP _ _ _ h1)
  ·intro y r x r' h
   rw [pSumL] at h
   have ha:=aft_le r
   split at h
   ·split at h
    ·cases h
    ·rename_i z r1 h1
     exact Nat.le_trans (iSL _ _ _ _ h) (Nat.le_trans (iP _ _ _ h1) ha)
   ·split at h
    ·split at h
     ·cases h
     ·rename_i z r1 h1
      exact Nat.le_trans (iSL _ _ _ _ h) (Nat.le_trans (iP _ _ _ h1) ha)
    ·cases h
     exact skip_le r
  ·intro r x r' h
   rw [pProd] at h
   split at h
   ·cases h
   ·rename_i y r1 h1
    exact Nat.le_trans (iPL _ _ _ _ h) (iF _ _ _ h1)
  ·intro y r x r' h
   rw [pProdL] at h
   have ha:=aft_le r
   split at h
   ·split at h
    ·cases h
    ·rename_i z r1 h1
     exact Nat.le_trans (iPL _ _ _ _ h) (Nat.le_trans (iF _ _ _ h1) ha)
   ·split at h
    ·split at h
     ·cases h
     ·rename_i z r1 h1
      exact Nat.le_trans (iPL _ _ _ _ h) (Nat.le_trans (iF _ _ _ h1) ha)
    ·cases h
     exact skip_le r
  ·intro r x r' h
   rw [pFac] at h
   have ha:=aft_le r
   split at h
   ·cases h
   split at h
   ·split at h
    ·cases h
    ·rename_i z r1 h1
     cases h
     exact Nat.le_trans (iF _ _ _ h1) ha
   split at h
   ·split at h
    ·cases h
    ·rename_i z r1 h1
     split at h
     ·cases h
      exact Nat.le_trans (aft_le r1) (Nat.le_trans (iS _ _ _ h1) ha)
     ·cases h
   split at h
   ·exact Nat.le_trans (iC _ _ _ _ h) ha
   split at h
   ·exact Nat.le_trans (iC _ _ _ _ h) ha
   split at h
   ·cases h;exact ha
   ·split at h
    ·cases h;exact ha
    ·cases h
  ·intro k r x r' h
   rw [pCall] at h
   split at h
   ·exact Nat.le_trans (iCL _ _ _ _ _ h) (aft_le r)
   ·cases h
  ·intro k es r x r' h
   rw [pCallL] at h
   split at h
   ·cases h
   ·rename_i z r1 h1
    have hr1:=iS _ _ _ h1
    have ha:=aft_le r1
    split at h
    ·cases h;omega
    split at h
    ·cases h
    split at h
    ·cases h
    split at h
    ·cases h
    ·exact Nat.le_trans (iCL _ _ _ _ _ h) (by omega)
theorem exp0 {t r:List UInt8} (ht:t≠[]) (h:expV t r=0):tk r≠[]:=by
 unfold expV at h
 split at h
 ·rename_i e;rw [e];exact ht
 ·split at h<;>omega
theorem exp99 (t r:List UInt8):expV t r≠99:=by
 unfold expV
 split
 ·decide
 ·split<;>decide
theorem p_fuel : ∀ n:Nat,(∀ r,8*r.length+5<=n->pSum n r ≠ .error 99)/\(∀ y r,8*r.length+4<=n->pSumL n y r ≠ .error 99)/\(∀ r,8*r.length+3<=n->pProd n r ≠ .error 99)/\(∀ y r,8*r.length+2<=n->pProdL n y r ≠ .error 99)/\(∀ r,8*r.length+1<=n->pFac n r ≠ .error 99)/\(∀ k r,8*r.length+7<=n->pCall n k r ≠ .error 99)/\(∀ k es r,8*r.length+6<=n->pCallL n k es r ≠ .error 99)
 | 0=>by
  refine ⟨?_, ?_, ?_, ?_, ?_, ?_, ?_⟩<;>intros<;>omega
 | n+1=>by
  obtain ⟨iS,iSL,iP,iPL,iF,iC,iCL⟩:=p_fuel n
  obtain ⟨lS,_,lP,_,lF,_,_⟩:=p_le n
  refine ⟨?_, ?_, ?_, ?_, ?_, ?_, ?_⟩
  ·intro r hn h
   rw [pSum] at h
   split at h
   ·rename_i e h1
    cases h
    exact iP r (by omega) h1
   ·rename_i y r1 h1
    have:=lP _ _ _ h1
    exact iSL y r1 (by omega) h
  ·intro y r hn h
   rw [pSumL] at h
   split at h
   ·rename_i ht
    have ha:=aft_lt (r:=r) (by rw [ht];simp)
    split at h
    ·rename_i e h1;cases h;exact iP _ (by omega) h1
    ·rename_i z r1 h1
     have:=lP _ _ _ h1
     exact iSL _ r1 (by omega) h
   ·split at h
    ·rename_i ht
     have ha:=aft_lt (r:=r) (by rw [ht];simp)
     split at h
     ·rename_i e h1;cases h;exact iP _ (by omega) h1
     ·rename_i z r1 h1
      have:=lP _ _ _ h1
      exact iSL _ r1 (by omega) h
    ·cases h
  ·intro r hn h
   rw [pProd] at h
   split at h
   ·rename_i e h1
    cases h
    exact iF r (by omega) h1
   ·rename_i y r1 h1
    have:=lF _ _ _ h1
    exact iPL y r1 (by omega) h
  ·intro y r hn h
   rw [pProdL] at h
   split at h
   ·rename_i ht
    have ha:=aft_lt (r:=r) (by rw [ht];simp)
    split at h
    ·rename_i e h1;cases h;exact iF _ (by omega) h1
    ·rename_i z r1 h1
     have:=lF _ _ _ h1
     exact iPL _ r1 (by omega) h
   ·split at h
    ·rename_i ht
     have ha:=aft_lt (r:=r) (by rw [ht];simp)
     split at h
     ·rename_i e h1;cases h;exact iF _ (by omega) h1
     ·rename_i z r1 h1
      have:=lF _ _ _ h1
      exact iPL _ r1 (by omega) h
    ·cases h
  ·intro r hn h
   rw [pFac] at h
   split at h
   ·cases h
   rename_i h0
   have ha:=aft_lt h0
   split at h
   ·split at h
    ·rename_i e h1;cases h;exact iF _ (by omega) h1
    ·cases h
   split at h
   ·split at h
    ·rename_i e h1;cases h;exact iS _ (by omega) h1
    ·split at h
     ·cases h
     ·exact exp99 _ _ (Except.error.inj h)
   split at h
   ·exact iC _ _ (by omega) h
   split at h
   ·exact iC _ _ (by omega) h
   split at h
   ·cases h
   ·split at h
    ·cases h
    ·cases h
  ·intro k r hn h
   rw [pCall] at h
   split at h
   ·rename_i he
    have ha:=aft_lt (exp0 (by simp) he)
    exact iCL _ _ _ (by omega) h
   ·exact exp99 _ _ (Except.error.inj h)
  ·intro k es r hn h
   rw [pCallL] at h
   split at h
   ·rename_i e h1;cases h;exact iS _ (by omega) h1
   ·rename_i z r1 h1
    have hr1:=lS _ _ _ h1
    split at h
    ·cases h
    split at h
    ·cases h
    rename_i ht
    have ha:=aft_lt ht
    split at h
    ·cases h
    split at h
    ·cases h
    ·exact iCL _ _ _ (by omega) h
theorem fuel400 {s:List UInt8} (h:s.length<=400):pSum 4000 s ≠ .error 99:=(p_fuel 4000).1 s (by omega)
theorem p_more : ∀ n:Nat,(∀ r X,pSum n r=X->X ≠ .error 99->pSum (n+1) r=X)/\(∀ y r X,pSumL n y r=X->X ≠ .error 99->pSumL (n+1) y r=X)/\(∀ r X,pProd n r=X->X ≠ .error 99->pProd (n+1) r=X)/\(∀ y r X,pProdL n y r=X->X ≠ .error 99->pProdL (n+1) y r=X)/\(∀ r X,pFac n r=X->X ≠ .error 99->pFac (n+1) r=X)/\(∀ k r X,pCall n k r=X->X ≠ .error 99->pCall (n+1) k r=X)/\(∀ k es r X,pCallL n k es r=X->X ≠ .error 99->pCallL (n+1) k es r=X)
 | 0=>by
  refine ⟨?_, ?_, ?_, ?_, ?_, ?_, ?_⟩<;>intros<;>rename_i h hX<;>exfalso<;>apply hX<;>rw [<- h]<;>first | rw [pSum] | rw [pSumL] | rw [pProd] | rw [pProdL] | rw [pFac] | rw [pCall] | rw [pCallL]
 | n+1=>by
  obtain ⟨iS,iSL,iP,iPL,iF,iC,iCL⟩:=p_more n
  refine ⟨?_, ?_, ?_, ?_, ?_, ?_, ?_⟩
  ·intro r X h hX
   rw [pSum] at h ⊢
   cases h1:pProd n r with
   | error e=>
    rw [h1] at h
    rw [iP _ _ h1 (by rw [<- h] at hX;exact hX)]
    exact h
   | ok p=>
    rw [h1] at h
    rw [iP _ _ h1 (by intro q;cases q)]
    exact iSL _ _ _ h hX
  ·intro y r X h hX
   rw [pSumL] at h ⊢
   split at h
   ·rename_i ht
    rw [if_pos ht]
    cases h1:pProd n (aft r) with
    | error e=>
     rw [h1] at h
     rw [iP _ _ h1 (by rw [<- h] at hX;exact hX)]
     exact h
    | ok p=>
     rw [h1] at h
     rw [iP _ _ h1 (by intro q;cases q)]
     exact iSL _ _ _ h hX
   ·rename_i ht
    rw [if_neg ht]
    split at h
    ·rename_i ht2
     rw [if_pos ht2]
     cases h1:pProd n (aft r) with
     | error e=>
      rw [h1] at h
      rw [iP _ _ h1 (by rw [<- h] at hX;exact hX)]
      exact h
     | ok p=>
      rw [h1] at h
      rw [iP _ _ h1 (by intro q;cases q)]
      exact iSL _ _ _ h hX
    ·rename_i ht2
     rw [if_neg ht2]
     exact h
  ·intro r X h hX
   rw [pProd] at h ⊢
   cases h1:pFac n r with
   | error e=>
    rw [h1] at h
    rw [iF _ _ h1 (by rw [<- h] at hX;exact hX)]
    exact h
   | ok p=>
    rw [h1] at h
    rw [iF _ _ h1 (by intro q;cases q)]
    exact iPL _ _ _ h hX
  ·intro y r X h hX
   rw [pProdL] at h ⊢
   split at h
   ·rename_i ht
    rw [if_pos ht]
    cases h1:pFac n (aft r) with
    | error e=>
     rw [h1] at h
     rw [iF _ _ h1 (by rw [<- h] at hX;exact hX)]
     exact h
    | ok p=>
     rw [h1] at h
     rw [iF _ _ h1 (by intro q;cases q)]
     exact iPL _ _ _ h hX
   ·rename_i ht
    rw [if_neg ht]
    split at h
    ·rename_i ht2
     rw [if_pos ht2]
     cases h1:pFac n (aft r) with
     | error e=>
      rw [h1] at h
      rw [iF _ _ h1 (by rw [<- h] at hX;exact hX)]
      exact h
     | ok p=>
      rw [h1] at h
      rw [iF _ _ h1 (by intro q;cases q)]
      exact iPL _ _ _ h hX
    ·rename_i ht2
     rw [if_neg ht2]
     exact h
  ·intro r X h hX
   rw [pFac] at h ⊢
   split at h
   ·rename_i q;rw [if_pos q];exact h
   rename_i q;rw [if_neg q]
   split at h
   ·rename_i q2;rw [if_pos q2]
    cases h1:pFac n (aft r) with
    | error e=>
     rw [h1] at h
     rw [iF _ _ h1 (by rw [<- h] at hX;exact hX)]
     exact h
    | ok p=>
     rw [h1] at h
     rw [iF _ _ h1 (by intro q;cases q)]
     exact h
   rename_i q2;rw [if_neg q2]
   split at h
   ·rename_i q3;rw [if_pos q3]
    cases h1:pSum n (aft r) with
    | error e=>
     rw [h1] at h
     rw [iS _ _ h1 (by rw [<- h] at hX;exact hX)]
     exact h
    | ok p=>
     rw [h1] at h
     rw [iS _ _ h1 (by intro q;cases q)]
     exact h
   rename_i q3;rw [if_neg q3]
   split at h
   ·rename_i q4;rw [if_pos q4];exact iC _ _ _ h hX
   rename_i q4;rw [if_neg q4]
   split at h
   ·rename_i q5;rw [if_pos q5];exact iC _ _ _ h hX
   rename_i q5;rw [if_neg q5]
   exact h
  ·intro k r X h hX
   rw [pCall] at h ⊢
   split at h
   ·rename_i q;rw [if_pos q];exact iCL _ _ _ _ h hX
   ·rename_i q;rw [if_neg q];exact h
  ·intro k es r X h hX
   rw [pCallL] at h ⊢
   cases h1:pSum n r with
   | error e=>
    rw [h1] at h
    rw [iS _ _ h1 (by rw [<- h] at hX;exact hX)]
    exact h
   | ok p=>
    rw [h1] at h
    rw [iS _ _ h1 (by intro q;cases q)]
    simp only at h ⊢
    split at h
    ·rename_i q;rw [if_pos q];exact h
    rename_i q;rw [if_neg q]
    split at h
    ·rename_i q2;rw [if_pos q2];exact h
    rename_i q2;rw [if_neg q2]
    split at h
    ·rename_i q3;rw [if_pos q3];exact h
    rename_i q3;rw [if_neg q3]
    split at h
    ·rename_i q4;rw [if_pos q4];exact h
    rename_i q4;rw [if_neg q4]
    exact iCL _ _ _ _ h hX
theorem pSum_more {s:List UInt8} {n m:Nat} {X:Except Int (Ex×List UInt8)} (h:pSum n s=X) (hX:X ≠ .error 99) (hnm:n<=m):pSum m s=X:=by
 induction m with
 | zero=>
  have:n=0:=by omega
  subst this
  exact h
 | succ m ih=>
  rcases Nat.lt_or_ge m n with q | q
  ·have:n=m+1:=by omega
   subst this
   exact h
  ·exact (p_more m).1 s X (ih q) hX
def tks (r:List UInt8):List (List UInt8):=
 if _h:tk r=[] then [] else tk r::tks (aft r)
 termination_by r.length
 decreasing_by exact aft_lt _h
theorem tks_nil {r:List UInt8} (h:tk r=[]):tks r=[]:=by rw [tks,dif_pos h]
theorem tks_cons {r:List UInt8} (h:tk r≠[]):tks r=tk r::tks (aft r):=by rw [tks,dif_neg h]
theorem tokOf_nil {r:List UInt8} (h:tokOf r=[]):r=[]:=by
 unfold tokOf at h
 split at h
 ·cases r with
  | nil=>rfl
  | cons x r=>simp at h
 ·rename_i q;exact absurd h q
theorem tk_nil {r:List UInt8} (h:tk r=[]):skipS r=[]:=tokOf_nil h
theorem aft_nil {r:List UInt8} (h:tk r=[]):aft r=[]:=by
 unfold aft
 rw [tk_nil h]
 simp
theorem tk_empty:tk []=[]:=rfl
theorem tks_empty:tks []=[]:=tks_nil tk_empty
abbrev hdT (ts:List (List UInt8)):List UInt8:=ts.headD []
theorem hd_tks (r:List UInt8):hdT (tks r)=tk r:=by
 by_cases h:tk r=[]
 ·rw [tks_nil h,h];rfl
 ·rw [tks_cons h];rfl
theorem tl_tks (r:List UInt8):(tks r).tail=tks (aft r):=by
 by_cases h:tk r=[]
 ·rw [tks_nil h,aft_nil h,tks_empty];rfl
 ·rw [tks_cons h];rfl
theorem tk_skip (r:List UInt8):tk (skipS r)=tk r:=by unfold tk;rw [skip_skip]
theorem aft_skip (r:List UInt8):aft (skipS r)=aft r:=by unfold aft;rw [tk_skip,skip_skip]
theorem tks_skip (r:List UInt8):tks (skipS r)=tks r:=by
 by_cases h:tk r=[]
 ·rw [tks_nil h,tks_nil (by rw [tk_skip];exact h)]
 ·rw [tks_cons h,tks_cons (by rw [tk_skip];exact h),tk_skip,aft_skip]
def expT (t:List UInt8) (ts:List (List UInt8)):Int:=if hdT ts=t then 0 else if hdT ts=[] then 4 else 2
theorem exp_tks (t r:List UInt8):expT t (tks r)=expV t r:=by unfold expT expV;rw [hd_tks]
mutual
def qSum:Nat->List (List UInt8)->Except Int (Ex×List (List UInt8))
 | 0,_=> .error 99
 | n+1,r=>match qProd n r with
  | .error e=> .error e
  | .ok (x,r')=>qSumL n x r'
def qSumL:Nat->Ex->List (List UInt8)->Except Int (Ex×List (List UInt8))
 | 0,_,_=> .error 99
 | n+1,x,r=>if hdT r=[43] then (match qProd n r.tail with
   | .error e=> .error e
   | .ok (y,r')=>qSumL n (op2 3 x y) r')
  else if hdT r=[45] then (match qProd n r.tail with
   | .error e=> .error e
   | .ok (y,r')=>qSumL n (op2 4 x y) r')
  else .ok (x,r)
def qProd:Nat->List (List UInt8)->Except Int (Ex×List (List UInt8))
 | 0,_=> .error 99
 | n+1,r=>match qFac n r with
  | .error e=> .error e
  | .ok (x,r')=>qProdL n x r'
def qProdL:Nat->Ex->List (List UInt8)->Except Int (Ex×List (List UInt8))
 | 0,_,_=> .error 99
 | n+1,x,r=>if hdT r=[42] then (match qFac n r.tail with
   | .error e=> .error e
   | .ok (y,r')=>qProdL n (op2 5 x y) r')
  else if hdT r=[47] then (match qFac n r.tail with
   | .error e=> .error e
   | .ok (y,r')=>qProdL n (op2 6 x y) r')
  else .ok (x,r)
def qFac:Nat->List (List UInt8)->Except Int (Ex×List (List UInt8))
 | 0,_=> .error 99
 | n+1,r=>
  if hdT r=[] then .error 4
  else if hdT r=[45] then (match qFac n r.tail with
   | .error e=> .error e
   | .ok (x,r')=> .ok (.mk 7 0 0 0 [] [x],r'))
  else if hdT r=[40] then (match qSum n r.tail with
   | .error e=> .error e
   | .ok (x,r')=>if expT [41] r' = 0 then .ok (x,r'.tail) else .error (expT [41] r'))
  else if hdT r=[109,105,110] then qCall n 8 r.tail
  else if hdT r=[109,97,120] then qCall n 9 r.tail
  else match numberV (hdT r) with
   | some q=> .ok (.mk 1 q (lmb q.num.natAbs) (lmb q.den) [] [],r.tail)
   | none=>if isNameV (hdT r) then .ok (.mk 2 0 0 0 (hdT r) [],r.tail) else .error 2
def qCall:Nat->Int->List (List UInt8)->Except Int (Ex×List (List UInt8))
 | 0,_,_=> .error 99
 | n+1,k,r=>if expT [40] r=0 then qCallL n k [] r.tail else .error (expT [40] r)
def qCallL:Nat->Int->List Ex->List (List UInt8)->Except Int (Ex×List (List UInt8))
 | 0,_,_,_=> .error 99
 | n+1,k,es,r=>match qSum n r with
  | .error e=> .error e
  | .ok (x,r')=>
   if hdT r' = [41] then .ok (.mk k 0 0 0 [] (es++[x]),r'.tail)
   else if hdT r' = [] then .error 4
   else if hdT r' ≠ [44] then .error 2
   else if es.length+1=8 then .error 2
   else qCallL n k (es++[x]) r'.tail
end
def mapT:Except Int (Ex×List UInt8)->Except Int (Ex×List (List UInt8))
 | .error e=> .error e
 | .ok (x,r)=> .ok (x,tks r)
theorem p_tok : ∀ n:Nat,(∀ r,qSum n (tks r)=mapT (pSum n r))/\(∀ y r,qSumL n y (tks r)=mapT (pSumL n y r))/\(∀ r,qProd n (tks r)=mapT (pProd n r))/\(∀ y r,qProdL n y (tks r)=mapT (pProdL n y r))/\(∀ r,qFac n (tks r)=mapT (pFac n r))/\(∀ k r,qCall n k (tks r)=mapT (pCall n k r))/\(∀ k es r,qCallL n k es (tks r)=mapT (pCallL n k es r))
 | 0=>by
  refine ⟨?_, ?_, ?_, ?_, ?_, ?_, ?_⟩<;>intros
  ·rw [qSum,pSum];rfl
  ·rw [qSumL,pSumL];rfl
  ·rw [qProd,pProd];rfl
  ·rw [qProdL,pProdL];rfl
  ·rw [qFac,pFac];rfl
  ·rw [qCall,pCall];rfl
  ·rw [qCallL,pCallL];rfl
 | n+1=>by
  obtain ⟨iS,iSL,iP,iPL,iF,iC,iCL⟩:=p_tok n
  refine ⟨?_, ?_, ?_, ?_, ?_, ?_, ?_⟩
  ·intro r
   rw [qSum,pSum,iP]
   cases h:pProd n r with
   | error e=>rfl
   | ok p=>exact iSL _ _
  ·intro y r
   rw [qSumL,pSumL,hd_tks,tl_tks,iP]
   split
   ·cases h:pProd n (aft r) with
    | error e=>rfl
    | ok p=>exact iSL _ _
   ·split
    ·cases h:pProd n (aft r) with
     | error e=>rfl
     | ok p=>exact iSL _ _
    ·simp only [mapT,tks_skip]
  ·intro r
   rw [qProd,pProd,iF]
   cases h:pFac n r with
   | error e=>rfl
   | ok p=>exact iPL _ _
  ·intro y r
   rw [qProdL,pProdL,hd_tks,tl_tks,iF]
   split
   ·cases h:pFac n (aft r) with
    | error e=>rfl
    | ok p=>exact iPL _ _
   ·split
    ·cases h:pFac n (aft r) with
     | error e=>rfl
     | ok p=>exact iPL _ _
    ·simp only [mapT,tks_skip]
  ·intro r
   rw [qFac,pFac,hd_tks,tl_tks,iF,iS,iC,iC]
   split
   ·rfl
   split
   ·cases h:pFac n (aft r) with
    | error e=>rfl
    | ok p=>rfl
   split
   ·cases h:pSum n (aft r) with
    | error e=>rfl
    | ok p=>
     obtain ⟨x,r'⟩:=p
     simp only [mapT,exp_tks]
     split
     ·simp only [tl_tks]
     ·rfl
   split
   ·rfl
   split
   ·rfl
   cases hn:numberV (tk r) with
   | some q=>rfl
   | none=>
    simp only
    split<;>rfl
  ·intro k r
   rw [qCall,pCall,exp_tks,tl_tks]
   split
   ·exact iCL _ _ _
   ·rfl
  ·intro k es r
   rw [qCallL,pCallL,iS]
   cases h:pSum n r with
   | error e=>rfl
   | ok p=>
    obtain ⟨x,r'⟩:=p
    simp only [mapT,hd_tks,tl_tks]
    split
    ·rfl
    split
    ·rfl
    split
    ·rfl
    split
    ·rfl
    ·exact iCL _ _ _
theorem pSum_tok {s:List UInt8} {n:Nat} {x:Ex} {ts:List (List UInt8)} (h:qSum n (tks s) = .ok (x,ts)) : ∃ r,pSum n s = .ok (x,r)/\tks r=ts:=by
 rw [(p_tok n).1] at h
 cases hp:pSum n s with
 | error e=>rw [hp] at h;cases h
 | ok p=>
  obtain ⟨y,r⟩:=p
  rw [hp] at h
  simp only [mapT,Except.ok.injEq,Prod.mk.injEq] at h
  exact ⟨r,by rw [h.1],h.2⟩
theorem foParseV_tok {s:List UInt8} {n:Nat} {x:Ex} (hl:s.length<=400) (h:qSum n (tks s) = .ok (x,[])) (hc:chkV x 1=0):foParseV s = .ok x:=by
 obtain ⟨r,hp,hr⟩:=pSum_tok h
 have h1:pSum 4000 s = .ok (x,r):=by
  rcases Nat.le_total n 4000 with q | q
  ·exact pSum_more hp (by intro e;cases e) q
  ·have h2:=pSum_more (s:=s) (n:=4000) (m:=n) rfl (fuel400 hl) q
   rw [<- h2,hp]
 unfold foParseV
 rw [if_neg (by omega),h1]
 have h3:tk r=[]:=by rw [<- hd_tks,hr];rfl
 simp only [h3,if_true,hc]
def Brk (r:List UInt8):Prop:= ∀ x,r.head?=some x->nd x=false
theorem brk_nil:Brk []:=fun x h=>by simp at h
theorem brk_cons {x:UInt8} {r:List UInt8} (h:nd x=false):Brk (x::r):=fun y hy=>by simp at hy;subst hy;exact h
theorem skip_not {x:UInt8} {r:List UInt8} (h:x≠32):skipS (x::r)=x::r:=by
 unfold skipS
 rw [List.dropWhile_cons,if_neg (by simpa using h)]
theorem skip_sp (r:List UInt8):skipS (32::r)=skipS r:=by
 unfold skipS
 rw [List.dropWhile_cons,if_pos (by decide)]
theorem tw_word {w r:List UInt8} (hw : ∀ x∈w,nd x=true) (hr:Brk r):(w++r).takeWhile nd=w:=by
 induction w with
 | nil=>
  cases r with
  | nil=>rfl
  | cons x r=>rw [List.nil_append,List.takeWhile_cons,if_neg (by rw [hr x rfl];decide)]
 | cons y w ih=>
  rw [List.cons_append,List.takeWhile_cons,if_pos (hw y (by simp)),ih fun x hx=>hw x (List.mem_cons_of_mem _ hx)]
theorem nd_32 {x:UInt8} (h:nd x=true):x≠32:=fun e=>by subst e;exact absurd h (by decide)
theorem tks_word {w r:List UInt8} (h0:w≠[]) (hw : ∀ x∈w,nd x=true) (hr:Brk r):tks (w++r)=w::tks r:=by
 obtain ⟨x,w', rfl⟩ : ∃ x w', w=x::w' := by
  cases w with
  | nil=>exact absurd rfl h0
  | cons x w' => exact ⟨x,w', rfl⟩
 have hs:skipS (x::w' ++ r)=x::w' ++ r:=by rw [List.cons_append];exact skip_not (nd_32 (hw x (by simp)))
 have ht:tk (x::w' ++ r)=x::w' := by
  unfold tk tokOf
  rw [hs,tw_word hw hr,if_neg (by simp)]
 have ha:aft (x::w' ++ r)=r:=by
  unfold aft
  rw [hs,ht,List.drop_left]
 rw [tks_cons (by rw [ht];simp),ht,ha]
theorem tks_sign {x:UInt8} {r:List UInt8} (h:nd x=false) (h2:x≠32):tks (x::r)=[x]::tks r:=by
 have e0:(x::r).takeWhile nd=[]:=by rw [List.takeWhile_cons,if_neg (by rw [h];decide)]
 have ht:tk (x::r)=[x]:=by
  unfold tk tokOf
  rw [skip_not h2,e0,if_pos rfl]
  rfl
 have ha:aft (x::r)=r:=by
  unfold aft
  rw [skip_not h2,ht]
  rfl
 rw [tks_cons (by rw [ht];simp),ht,ha]
theorem tks_sp (r:List UInt8):tks (32::r)=tks r:=by rw [<- tks_skip,skip_sp,tks_skip]
theorem tks_sps {sp:List UInt8} (h : ∀ x∈sp,x=32) (r:List UInt8):tks (sp++r)=tks r:=by
 induction sp with
 | nil=>rfl
 | cons x sp ih=>
  rw [h x (by simp),List.cons_append,tks_sp,ih fun y hy=>h y (List.mem_cons_of_mem _ hy)]
def sub (sp s:List UInt8):List UInt8:=s.flatMap fun x=>if x=32 then sp else [x]
theorem sub_nil (sp:List UInt8):sub sp []=[]:=rfl
theorem sub_app (sp a b:List UInt8):sub sp (a++b)=sub sp a++sub sp b:=by unfold sub;rw [List.flatMap_append]
theorem sub_cons {sp:List UInt8} {x:UInt8} {s:List UInt8} (h:x≠32):sub sp (x::s)=x::sub sp s:=by
 unfold sub
 rw [List.flatMap_cons,if_neg h]
 rfl
theorem sub_sp (sp s:List UInt8):sub sp (32::s)=sp++sub sp s:=by
 unfold sub
 rw [List.flatMap_cons,if_pos rfl]
theorem sub_same {sp s:List UInt8} (h : ∀ x∈s,x≠32):sub sp s=s:=by
 induction s with
 | nil=>rfl
 | cons x s ih=>rw [sub_cons (h x (by simp)),ih fun y hy=>h y (List.mem_cons_of_mem _ hy)]
theorem sub_one (s:List UInt8):sub [32] s=s:=by
 unfold sub
 induction s with
 | nil=>rfl
 | cons x s ih=>
  rw [List.flatMap_cons,ih]
  split
  ·rename_i e;rw [e];rfl
  ·rfl
def parT (k req:Int) (t:List (List UInt8)):List (List UInt8):=if clo k<req then [40]::(t++[[41]]) else t
mutual
def tkE:Ex->List (List UInt8)
 | .mk k q _ _ nm kids=>if k=1 then [numTx ((shV q).getD 0)] else if k=2 then [nm]
  else if k=3 then tkO 0 0 kids++[43]::tkO 1 1 kids
  else if k=4 then tkO 0 0 kids++[45]::tkO 1 1 kids
  else if k=5 then tkO 0 1 kids++[42]::tkO 1 2 kids
  else if k=6 then tkO 0 1 kids++[47]::tkO 1 2 kids
  else if k=7 then [45]::tkO 0 2 kids
  else (if k=9 then [109,97,120] else [109,105,110])::[40]::(tkJ kids++[[41]])
def tkO (i:Nat) (req:Int):List Ex->List (List UInt8)
 | []=>[]
 | .mk k q n m nm kids::es=>match i with
  | 0=>parT k req (tkE (.mk k q n m nm kids))
  | i+1=>tkO i req es
def tkJ:List Ex->List (List UInt8)
 | []=>[]
 | e::es=>match es with
  | []=>tkE e
  | e' :: es' => tkE e++[44]::tkJ (e' :: es')
end
theorem tkO_get : ∀ {es:List Ex} {i:Nat} {e:Ex} {req:Int},es[i]?=some e->tkO i req es=parT e.kind req (tkE e)
 | [],i,e,req,he=>by simp at he
 | .mk k q n m nm kids::es,0,e,req,he=>by simp at he;subst he;rw [tkO];rfl
 | .mk k q n m nm kids::es,i+1,e,req,he=>by rw [tkO];exact tkO_get (by simpa using he)
theorem isDg_nd {x:UInt8} (h:isDg x=true):nd x=true:=by
 have h1:=isDg_iff.1 h
 unfold nd
 rw [Bool.not_eq_true', List.contains_eq_mem,decide_eq_false_iff_not]
 intro hm
 simp only [List.mem_cons,List.not_mem_nil,or_false] at hm
 rcases hm with e | e | e | e | e | e | e | e<;>subst e<;>revert h1<;>decide
theorem numTx_nd {n:Nat}:numTx n≠[]/\ ∀ x∈numTx n,nd x=true:=by
 have h1:=(dec_ok (n/10000)).1
 have h2:=(dec_ok (10000+n%10000)).1
 unfold numTx
 refine ⟨fun e=> ?_,fun x hx=> ?_⟩
 ·exact h1.1 (List.append_eq_nil_iff.1 e).1
 ·rcases List.mem_append.1 hx with q | q
  ·exact isDg_nd (h1.2 x q)
  ·split at q
   ·simp at q
   ·rcases List.mem_cons.1 q with e | e
    ·subst e;decide
    ·obtain ⟨k,hk⟩:=trimR_split ((Lib.decDigits (10000+n%10000)).drop 1)
     have:x∈(Lib.decDigits (10000+n%10000)).drop 1:=by rw [hk];exact List.mem_append_left _ e
     exact isDg_nd (h2.2 x (List.mem_of_mem_drop this))
theorem nameCh_nd {i:Nat} {x:UInt8} (h:nameCh i x=true):nd x=true:=by
 unfold nameCh isLow at h
 simp only [Bool.or_eq_true,Bool.and_eq_true,decide_eq_true_eq] at h
 rcases h with h | ⟨_,h | h⟩
 ·unfold nd
  rw [Bool.not_eq_true', List.contains_eq_mem,decide_eq_false_iff_not]
  intro hm
  simp only [List.mem_cons,List.not_mem_nil,or_false] at hm
  rcases hm with e | e | e | e | e | e | e | e<;>subst e<;>revert h<;>decide
 ·unfold nd
  rw [Bool.not_eq_true', List.contains_eq_mem,decide_eq_false_iff_not]
  intro hm
  simp only [List.mem_cons,List.not_mem_nil,or_false] at hm
  rcases hm with e | e | e | e | e | e | e | e<;>subst e<;>revert h<;>decide
 ·exact isDg_nd h
theorem isName_nd {l:List UInt8} (h:isNameV l=true):l≠[]/\ ∀ x∈l,nd x=true:=by
 unfold isNameV at h
 rw [Bool.and_eq_true,decide_eq_true_eq] at h
 refine ⟨h.1.1,fun x hx=> ?_⟩
 obtain ⟨i,hi⟩:=List.getElem?_of_mem hx
 exact nameCh_nd (nameAll.1 h.2 i x hi)
mutual
def okE:Ex->Prop
 | .mk k q n m nm kids=>rightV (.mk k q n m nm kids)=true/\okL kids
def okL:List Ex->Prop
 | []=>True
 | e::es=>okE e/\okL es
end
mutual
theorem chk_okE : ∀ {e:Ex} {lv:Int},chkV e lv=0->okE e
 | .mk k q n m nm kids,lv,h=>by
  rw [chkV] at h
  rw [okE]
  split at h
  ·cases h
  ·split at h
   ·rename_i hr
    exact ⟨hr,chkL_okL h⟩
   ·cases h
theorem chkL_okL : ∀ {es:List Ex} {lv:Int},chkL es lv=0->okL es
 | [],lv,h=>by rw [okL];trivial
 | e::es,lv,h=>by
  rw [chkL] at h
  rw [okL]
  split at h
  ·rename_i h0
   exact ⟨chk_okE h0,chkL_okL h⟩
  ·rename_i h0;exact absurd h h0
end
theorem right_nm {k:Int} {q:Rat} {n m:Nat} {nm:List UInt8} {kids:List Ex} (h:rightV (.mk k q n m nm kids)=true):if k=2 then isNameV nm=true else nm=[]:=by
 unfold rightV at h
 simp only [Bool.and_eq_true,Ex.kind,Ex.name] at h
 have h1:=h.1.2
 by_cases e:k=2
 ·rw [if_pos e];simpa [e] using h1
 ·rw [if_neg e];simp only [e,if_false] at h1;exact of_decide_eq_true h1
theorem right_val {k:Int} {q:Rat} {n m:Nat} {nm:List UInt8} {kids:List Ex} (h:rightV (.mk k q n m nm kids)=true):if k=1 then (shV q).isSome=true else q=0:=by
 unfold rightV at h
 simp only [Bool.and_eq_true,Ex.kind,Ex.val] at h
 have h1:=h.2
 by_cases e:k=1
 ·rw [if_pos e];simpa [e] using h1
 ·rw [if_neg e];simp only [e,if_false] at h1;exact of_decide_eq_true h1
def TkOk (sp:List UInt8) (e:Ex):Prop:=okE e-> ∀ r,Brk r->tks (sub sp (txV e)++r)=tkE e++tks r
theorem par_tok {sp:List UInt8} {e:Ex} (ih:TkOk sp e) (h:okE e) (req:Int) {r:List UInt8} (hr:Brk r):tks (sub sp (parV e.kind req (txV e))++r)=parT e.kind req (tkE e)++tks r:=by
 unfold parV parT
 split
 ·have e41:sub sp [41]=[41]:=sub_same (by decide)
  rw [sub_cons (by decide),sub_app,e41,List.cons_append,List.append_assoc,tks_sign (by decide) (by decide),List.cons_append,List.nil_append,ih h _ (brk_cons (by decide)),tks_sign (by decide) (by decide)]
  simp
 ·exact ih h r hr
theorem op_tok {sp:List UInt8} (hsp : ∀ x∈sp,x=32) {x:UInt8} (h:nd x=false) (h2:x≠32) (r:List UInt8):Brk (sub sp [32,x,32]++r)/\tks (sub sp [32,x,32]++r)=[x]::tks r:=by
 rw [sub_sp,sub_cons h2,sub_sp,sub_nil,List.append_nil]
 constructor
 ·cases sp with
  | nil=>exact brk_cons h
  | cons y s=>rw [hsp y (by simp)];exact brk_cons (by decide)
 ·rw [List.append_assoc,tks_sps hsp,List.cons_append,tks_sign h h2,tks_sps hsp]
theorem okL_get : ∀ {es:List Ex} {i:Nat} {e:Ex},okL es->es[i]?=some e->okE e
 | [],i,e,_,h=>by simp at h
 | x::es,0,e,u,h=>by rw [okL] at u;simp at h;subst h;exact u.1
 | x::es,i+1,e,u,h=>by rw [okL] at u;exact okL_get u.2 (i:=i) (by simpa using h)
theorem join_tok {sp:List UInt8} (hsp : ∀ x∈sp,x=32) : ∀ (es:List Ex),es≠[]->evAll (TkOk sp) es->okL es-> ∀ r,Brk r->tks (sub sp (Lib.join (txL es) [44,32])++r)=tkJ es++tks r
 | [],h,_,_,_,_=>absurd rfl h
 | [e],_,ih,ok,r,hr=>by
  rw [okL] at ok
  rw [txL,txL,tkJ]
  have:Lib.join [txV e] [44,32]=txV e:=by simp [Lib.join]
  rw [this]
  exact (ih.get (i:=0) rfl) ok.1 r hr
 | e::e' :: es,_,ih,ok,r,hr=>by
  rw [okL] at ok
  have ih2:evAll (TkOk sp) (e' :: es):=ih.2
  have hj:Lib.join (txL (e::e' :: es)) [44,32]=txV e++[44,32]++Lib.join (txL (e' :: es)) [44,32]:=by
   rw [txL,txL]
   simp [Lib.join]
  rw [hj,tkJ,sub_app,sub_app,List.append_assoc,List.append_assoc]
  rw [(ih.get (i:=0) rfl) ok.1 _ (by rw [sub_cons (by decide),List.cons_append];exact brk_cons (by decide))]
  rw [sub_cons (by decide),sub_sp,sub_nil,List.append_nil,List.cons_append,tks_sign (by decide) (by decide),tks_sps hsp]
  rw [join_tok hsp (e' :: es) (by simp) ih2 ok.2 r hr]
  simp
theorem tok_node {sp:List UInt8} (hsp : ∀ x∈sp,x=32) {k:Int} {q:Rat} {n m:Nat} {nm:List UInt8} {kids:List Ex} (ih:evAll (TkOk sp) kids):TkOk sp (.mk k q n m nm kids):=by
 intro ok r hr
 rw [okE] at ok
 have hops:=right_len ok.1
 have hnm:=right_nm ok.1
 simp only [Ex.kind,Ex.kids] at hops
 rw [txV,tkE]
 by_cases k1:k=1
 ·rw [if_pos k1,if_pos k1]
  obtain ⟨h0,h1⟩:=numTx_nd (n:=(shV q).getD 0)
  rw [sub_same fun x hx=>nd_32 (h1 x hx)]
  exact tks_word h0 h1 hr
 rw [if_neg k1,if_neg k1]
 by_cases k2:k=2
 ·rw [if_pos k2,if_pos k2]
  rw [if_pos k2] at hnm
  obtain ⟨h0,h1⟩:=isName_nd hnm
  rw [sub_same fun x hx=>nd_32 (h1 x hx)]
  exact tks_word h0 h1 hr
 rw [if_neg k2,if_neg k2]
 have bin:(k=3\/k=4\/k=5\/k=6)-> ∀ (a b:Int) (x:UInt8),nd x=false->x≠32->tks (sub sp (txO 0 a kids++[32,x,32]++txO 1 b kids)++r)=tkO 0 a kids++[x]::tkO 1 b kids++tks r:=fun hk a b x hx hx2=>by
  obtain ⟨u,v,rfl⟩:=kids_two hops hk
  rw [txO_get (i:=0) (e:=u) rfl,txO_get (i:=1) (e:=v) rfl,tkO_get (i:=0) (e:=u) rfl,tkO_get (i:=1) (e:=v) rfl]
  have oku:=okL_get ok.2 (i:=0) (e:=u) rfl
  have okv:=okL_get ok.2 (i:=1) (e:=v) rfl
  rw [sub_app,sub_app,List.append_assoc,List.append_assoc]
  obtain ⟨b1,t1⟩:=op_tok hsp hx hx2 (sub sp (parV v.kind b (txV v))++r)
  rw [par_tok (ih.get (i:=0) rfl) oku a b1,t1,par_tok (ih.get (i:=1) rfl) okv b hr]
  simp
 by_cases k3:k=3
 ·rw [if_pos k3,if_pos k3];exact bin (by omega) 0 1 43 (by decide) (by decide)
 rw [if_neg k3,if_neg k3]
 by_cases k4:k=4
 ·rw [if_pos k4,if_pos k4];exact bin (by omega) 0 1 45 (by decide) (by decide)
 rw [if_neg k4,if_neg k4]
 by_cases k5:k=5
 ·rw [if_pos k5,if_pos k5];exact bin (by omega) 1 2 42 (by decide) (by decide)
 rw [if_neg k5,if_neg k5]
 by_cases k6:k=6
 ·rw [if_pos k6,if_pos k6];exact bin (by omega) 1 2 47 (by decide) (by decide)
 rw [if_neg k6,if_neg k6]
 by_cases k7:k=7
 ·rw [if_pos k7,if_pos k7]
  obtain ⟨u,rfl⟩:=kids_one hops k7
  have oku:=okL_get ok.2 (i:=0) (e:=u) rfl
  rw [txO_get (i:=0) (e:=u) rfl,tkO_get (i:=0) (e:=u) rfl,sub_cons (by decide),List.cons_append,tks_sign (by decide) (by decide),par_tok (ih.get (i:=0) rfl) oku 2 hr]
  rfl
 rw [if_neg k7,if_neg k7]
 obtain ⟨h89,hl1,hl8⟩:=kids_many hops (by omega) (by omega) k7
 have hne:kids≠[]:=fun e=>by rw [e] at hl1;simp at hl1
 have word : ∀ w:List UInt8,w≠[]->(∀ x∈w,nd x=true)->tks (sub sp (w++[40]++Lib.join (txL kids) [44,32]++[41])++r)=w::[40]::(tkJ kids++[[41]])++tks r:=fun w h0 hw=>by
  rw [sub_app,sub_app,sub_app,sub_same (s:=w) fun x hx=>nd_32 (hw x hx),List.append_assoc,List.append_assoc,List.append_assoc]
  have e40:sub sp [40]=[40]:=sub_same (by decide)
  have e41:sub sp [41]=[41]:=sub_same (by decide)
  have c40 : ∀ z:List UInt8,[40]++z=40::z:=fun _=>rfl
  have c41 : ∀ z:List UInt8,[41]++z=41::z:=fun _=>rfl
  rw [e40,e41,c40,c41,tks_word h0 hw (brk_cons (by decide)),tks_sign (by decide) (by decide),join_tok hsp kids hne ih ok.2 _ (brk_cons (by decide)),tks_sign (by decide) (by decide)]
  simp
 by_cases k9:k=9
 ·rw [if_pos k9,if_pos k9]
  exact word [109,97,120] (by simp) (by decide)
 ·rw [if_neg k9,if_neg k9]
  exact word [109,105,110] (by simp) (by decide)
mutual
theorem tok_all {sp:List UInt8} (hsp : ∀ x∈sp,x=32) : ∀ e:Ex,TkOk sp e
 | .mk _ _ _ _ _ kids=>tok_node hsp (tok_allL hsp kids)
theorem tok_allL {sp:List UInt8} (hsp : ∀ x∈sp,x=32) : ∀ es:List Ex,evAll (TkOk sp) es
 | []=>trivial
 | e::es=>⟨tok_all hsp e,tok_allL hsp es⟩
end
theorem tks_tx {sp:List UInt8} (hsp : ∀ x∈sp,x=32) {e:Ex} (h:okE e):tks (sub sp (txV e))=tkE e:=by
 have:=tok_all hsp e h [] brk_nil
 rw [List.append_nil,tks_empty,List.append_nil] at this
 exact this
mutual
def canE:Ex->Ex
 | .mk k q _ _ nm kids=>if k=1 then .mk 1 q (lmb q.num.natAbs) (lmb q.den) [] [] else if k=2 then .mk 2 0 0 0 nm [] else .mk k 0 0 0 [] (canL kids)
def canL:List Ex->List Ex
 | []=>[]
 | e::es=>canE e::canL es
end
theorem canL_len : ∀ es:List Ex,(canL es).length=es.length
 | []=>by rw [canL]
 | e::es=>by rw [canL,List.length_cons,canL_len es,List.length_cons]
theorem canL_app : ∀ (a b:List Ex),canL (a++b)=canL a++canL b
 | [],b=>by rw [canL];rfl
 | e::a,b=>by rw [List.cons_append,canL,canL,canL_app a b];rfl
mutual
theorem can_ok : ∀ {e:Ex} {lv:Int},okE e->chkV (canE e) lv=chkV e lv
 | .mk k q n m nm kids,lv,h=>by
  rw [okE] at h
  have hops:=right_len h.1
  have hnm:=right_nm h.1
  have hv:=right_val h.1
  simp only [Ex.kind,Ex.kids] at hops
  have hr:rightV (canE (.mk k q n m nm kids))=true:=by
   rw [canE]
   by_cases k1:k=1
   ·subst k1
    rw [if_pos rfl] at hv ⊢
    unfold rightV
    simp [Ex.kind,Ex.kids,Ex.name,Ex.val,hv,foOps]
   ·rw [if_neg k1] at hv ⊢
    by_cases k2:k=2
    ·subst k2
     rw [if_pos rfl] at hnm ⊢
     unfold rightV
     simp [Ex.kind,Ex.kids,Ex.name,Ex.val,hnm,foOps]
    ·rw [if_neg k2] at hnm ⊢
     unfold rightV
     simp only [Ex.kind,Ex.kids,Ex.name,Ex.val,if_neg k1,if_neg k2,canL_len]
     rw [decide_eq_true hops]
     decide
  have hkids:(canE (.mk k q n m nm kids)).kids=canL kids:=by
   rw [canE]
   have nul:(foOps k).2=0->kids=[]:=fun e=>List.length_eq_zero_iff.1 (by rw [e] at hops;omega)
   by_cases k1:k=1
   ·subst k1
    rw [if_pos rfl,nul (by decide),canL]
    rfl
   ·rw [if_neg k1]
    by_cases k2:k=2
    ·subst k2
     rw [if_pos rfl,nul (by decide),canL]
     rfl
    ·rw [if_neg k2]
     rfl
  have e1:=Ex.eta (canE (.mk k q n m nm kids))
  rw [e1,chkV,<- e1,hr,hkids,chkV,h.1,canL_chk h.2]
theorem canL_chk : ∀ {es:List Ex} {lv:Int},okL es->chkL (canL es) lv=chkL es lv
 | [],lv,_=>by rw [canL]
 | e::es,lv,h=>by
  rw [okL] at h
  rw [canL,chkL,chkL,can_ok h.1,canL_chk h.2]
end
def Ev {α:Type} (F:Nat->α) (X:α):Prop:= ∃ N,∀ n,N<=n->F n=X
theorem Ev.step {α β:Type} {F:Nat->α} {G:Nat->β} {X:α} {Y:β} (a:Ev F X) (h : ∀ n,F n=X->G (n+1)=Y):Ev G Y:=by
 obtain ⟨N,hN⟩:=a
 refine ⟨N+1,fun n hn=> ?_⟩
 obtain ⟨k,rfl⟩ : ∃ k,n=k+1:=⟨n-1,by omega⟩
 exact h k (hN k (by omega))
theorem Ev.step2 {α β γ:Type} {F:Nat->α} {G:Nat->β} {H:Nat->γ} {X:α} {Y:β} {Z:γ} (a:Ev F X) (b:Ev G Y) (h : ∀ n,F n=X->G n=Y->H (n+1)=Z):Ev H Z:=by
 obtain ⟨N,hN⟩:=a
 obtain ⟨M,hM⟩:=b
 refine ⟨N+M+1,fun n hn=> ?_⟩
 obtain ⟨k,rfl⟩ : ∃ k,n=k+1:=⟨n-1,by omega⟩
 exact h k (hN k (by omega)) (hM k (by omega))
theorem Ev.one {α:Type} {G:Nat->α} {Y:α} (h : ∀ n,G (n+1)=Y):Ev G Y:=by
 refine ⟨1,fun n hn=> ?_⟩
 obtain ⟨k,rfl⟩ : ∃ k,n=k+1:=⟨n-1,by omega⟩
 exact h k
abbrev RT:=Except Int (Ex×List (List UInt8))
structure RdOk (e:Ex):Prop where
 fac:clo e.kind=2-> ∀ ts,Ev (fun n=>qFac n (tkE e++ts)) (.ok (canE e,ts):RT)
 prod:1<=clo e.kind-> ∀ (ts:List (List UInt8)) (X:RT),Ev (fun n=>qProdL n (canE e) ts) X->Ev (fun n=>qProd n (tkE e++ts)) X
 sum : ∀ (ts:List (List UInt8)) (X:RT),hdT ts≠[42]->hdT ts≠[47]->Ev (fun n=>qSumL n (canE e) ts) X->Ev (fun n=>qSum n (tkE e++ts)) X
theorem prodL_end {x:Ex} {ts:List (List UInt8)} (h1:hdT ts≠[42]) (h2:hdT ts≠[47]):Ev (fun n=>qProdL n x ts) (.ok (x,ts):RT):=
 Ev.one fun n=>by rw [qProdL,if_neg h1,if_neg h2]
theorem sumL_end {x:Ex} {ts:List (List UInt8)} (h1:hdT ts≠[43]) (h2:hdT ts≠[45]):Ev (fun n=>qSumL n x ts) (.ok (x,ts):RT):=
 Ev.one fun n=>by rw [qSumL,if_neg h1,if_neg h2]
theorem prod_fac {x:Ex} {ts ts' : List (List UInt8)} {X:RT} (a:Ev (fun n=>qFac n ts) (.ok (x,ts'):RT)) (b:Ev (fun n=>qProdL n x ts') X):Ev (fun n=>qProd n ts) X:=
 a.step2 b fun n h1 h2=>by rw [qProd,h1];exact h2
theorem sum_prod {x:Ex} {ts ts' : List (List UInt8)} {X:RT} (a:Ev (fun n=>qProd n ts) (.ok (x,ts'):RT)) (b:Ev (fun n=>qSumL n x ts') X):Ev (fun n=>qSum n ts) X:=
 a.step2 b fun n h1 h2=>by rw [qSum,h1];exact h2
theorem hdT_cons (t:List UInt8) (ts:List (List UInt8)):hdT (t::ts)=t:=rfl
theorem par_fac {e:Ex} (r:RdOk e) (ts:List (List UInt8)):Ev (fun n=>qFac n ([40]::(tkE e++[[41]])++ts)) (.ok (canE e,ts):RT):=by
 have h:=r.sum ([41]::ts) (.ok (canE e,[41]::ts)) (by rw [hdT_cons];decide) (by rw [hdT_cons];decide) (sumL_end (by rw [hdT_cons];decide) (by rw [hdT_cons];decide))
 refine h.step fun n h1=> ?_
 have e1:[40]::(tkE e++[[41]])++ts=[40]::(tkE e++[41]::ts):=by simp
 have d1:([40]:List UInt8)≠[]:=by decide
 have d2:([40]:List UInt8)≠[45]:=by decide
 rw [e1,qFac,hdT_cons,if_neg d1,if_neg d2,if_pos rfl,List.tail_cons,h1]
 simp only [expT,hdT_cons,if_true,List.tail_cons]
theorem op_fac {e:Ex} (r:RdOk e) (ts:List (List UInt8)):Ev (fun n=>qFac n (parT e.kind 2 (tkE e)++ts)) (.ok (canE e,ts):RT):=by
 unfold parT
 split
 ·exact par_fac r ts
 ·rename_i h
  have:clo e.kind<=2:=by unfold clo;split<;>(try split)<;>omega
  exact r.fac (by omega) ts
theorem op_prod {e:Ex} (r:RdOk e) (ts:List (List UInt8)) (X:RT) (b:Ev (fun n=>qProdL n (canE e) ts) X):Ev (fun n=>qProd n (parT e.kind 1 (tkE e)++ts)) X:=by
 unfold parT
 split
 ·exact prod_fac (par_fac r ts) b
 ·rename_i h
  exact r.prod (by omega) ts X b
theorem op_sum {e:Ex} (r:RdOk e) (ts:List (List UInt8)) (X:RT) (h1:hdT ts≠[42]) (h2:hdT ts≠[47]) (b:Ev (fun n=>qSumL n (canE e) ts) X):Ev (fun n=>qSum n (parT e.kind 0 (tkE e)++ts)) X:=by
 unfold parT
 rw [if_neg (by unfold clo;split<;>(try split)<;>omega)]
 exact r.sum ts X h1 h2 b
theorem RdOk.of_fac {e:Ex} (h : ∀ ts,Ev (fun n=>qFac n (tkE e++ts)) (.ok (canE e,ts):RT)):RdOk e where
 fac _ ts:=h ts
 prod _ ts _ b:=prod_fac (h ts) b
 sum ts _ h1 h2 b:=sum_prod (prod_fac (h ts) (prodL_end h1 h2)) b
theorem RdOk.of_prod {e:Ex} (hk:clo e.kind=1) (h : ∀ (ts:List (List UInt8)) (X:RT),Ev (fun n=>qProdL n (canE e) ts) X->Ev (fun n=>qProd n (tkE e++ts)) X):RdOk e where
 fac q:=by omega
 prod _:=h
 sum ts _ h1 h2 b:=sum_prod (h ts _ (prodL_end h1 h2)) b
theorem num_read {n:Nat} (h:n<=9999999999999):numberV (numTx n)=some ((n:Rat)/10000):=by
 have hd:=dec_ok (n/10000)
 have hl:=dec_len (n:=n/10000) (k:=9) (by omega) (by decide)
 have no46 : ∀ {l:List UInt8},Dgs l-> ∀ x∈l,(x != 46)=true:=fun hd x hx=>by
  have:=isDg_iff.1 (hd.2 x hx)
  rw [bne_iff_ne]
  rintro rfl
  revert this;decide
 have a9:dgsB (Lib.decDigits (n/10000)) 9=true:=by
  unfold dgsB
  rw [Bool.and_eq_true,decide_eq_true_eq,List.all_eq_true]
  refine ⟨hd.1.2, ?_,hl⟩
  have:=List.length_pos_iff.2 hd.1.1
  omega
 have hz:(decide (1<(Lib.decDigits (n/10000)).length)&&(Lib.decDigits (n/10000)).head?==some 48)=false:=by
  rw [Bool.and_eq_false_iff]
  by_cases h0:0<n/10000
  ·right
   have:=hd.2.2 h0
   rw [<- List.head?_eq_getElem?] at this
   simpa using this
  ·left
   have:n/10000=0:=by omega
   have h1:=dec_len (n:=0) (k:=1) (by decide) (by decide)
   rw [this,decide_eq_false_iff_not]
   omega
 unfold numTx
 by_cases h0:n%10000=0
 ·rw [if_pos h0,List.append_nil]
  unfold numberV
  have e1:(Lib.decDigits (n/10000)).takeWhile (· != 46)=Lib.decDigits (n/10000):=tw_self (no46 hd.1)
  have e2:(Lib.decDigits (n/10000)).dropWhile (· != 46)=[]:=by
   rw [<- tw_drop,e1,List.drop_length]
  have e3:decide ((46:UInt8)∈Lib.decDigits (n/10000))=false:=by
   rw [decide_eq_false_iff_not]
   intro hm
   exact absurd (no46 hd.1 46 hm) (by decide)
  simp only [e1,e2,List.drop_nil,e3,a9,hz,List.append_nil,hd.2.1]
  simp only [Bool.not_false,Bool.true_or,Bool.and_self,if_true,List.length_nil,Nat.pow_zero]
  congr 1
  have:=rat_cross (a:=n/10000) (b:=1) (c:=n) (d:=10000) (by decide) (by decide) (by omega)
  rw [Rat.intCast_natCast,Rat.intCast_natCast]
  exact this
 ·rw [if_neg h0]
  generalize hp:n%10000=p at *
  have hp0:p<10000:=by omega
  rw [drop_one p hp0]
  obtain ⟨hpl,hpd,hpv⟩:=padK_ok 4 p hp0
  obtain ⟨k,hk⟩:=trimR_split (padK 4 p)
  generalize hb:Lib.trimRightB (padK 4 p) 48=b at *
  have hbl:b.length+k=4:=by
   have:=congrArg List.length hk
   rw [List.length_append,List.length_replicate] at this
   omega
  have hbd : ∀ x∈b,isDg x=true:=fun x hx=>hpd x (by rw [hk];exact List.mem_append_left _ hx)
  have hval:dgV b*10^k=p:=by
   have h1:=hpv
   rw [hk] at h1
   unfold dgV at h1
   rw [List.foldl_append,dgV_from,dgV_zeros,List.length_replicate] at h1
   unfold dgV
   omega
  have hb0:b≠[]:=fun e=>by
   rw [e] at hval
   have:dgV []=0:=rfl
   rw [this,Nat.zero_mul] at hval
   omega
  unfold numberV
  have e1:(Lib.decDigits (n/10000)++46::b).takeWhile (· != 46)=Lib.decDigits (n/10000):=by
   rw [List.takeWhile_append_of_pos (no46 hd.1)]
   simp
  have e2:(Lib.decDigits (n/10000)++46::b).dropWhile (· != 46)=46::b:=by
   rw [<- tw_drop,e1,List.drop_left]
  have a4:dgsB b 4=true:=by
   unfold dgsB
   rw [Bool.and_eq_true,decide_eq_true_eq,List.all_eq_true]
   have:=List.length_pos_iff.2 hb0
   exact ⟨hbd,by omega,by omega⟩
  simp only [e1,e2,List.drop_succ_cons,List.drop_zero,a9,hz,a4]
  simp only [Bool.not_false,Bool.or_true,Bool.and_self,if_true]
  congr 1
  have hab:dgV (Lib.decDigits (n/10000)++b)=n/10000*10^b.length+dgV b:=by
   unfold dgV
   rw [List.foldl_append,dgV_from]
   have:=hd.2.1
   unfold dgV at this
   rw [this]
   rfl
  rw [hab]
  have hpow:10^b.length*10^k=10000:=by rw [<- Nat.pow_add,hbl]
  have hcross:(n/10000*10^b.length+dgV b)*10000=n*10^b.length:=by
   have e5:n=n/10000*10000+p:=by omega
   have e6:dgV b*10000=p*10^b.length:=by
    rw [<- hval,<- hpow,Nat.mul_assoc,Nat.mul_comm (10^k)]
   rw [Nat.add_mul,e6]
   conv=>rhs;rw [e5]
   rw [Nat.add_mul,Nat.mul_assoc,Nat.mul_assoc,Nat.mul_comm (10^b.length)]
  have:=rat_cross (a:=n/10000*10^b.length+dgV b) (b:=10^b.length) (c:=n) (d:=10000) (Nat.pos_iff_ne_zero.1 (Nat.pow_pos (by decide))) (by decide) hcross
  rw [Rat.intCast_natCast,Rat.intCast_natCast]
  exact this
theorem shV_val {q:Rat} {n:Nat} (h:shV q=some n):(n:Rat)/10000=q:=by
 unfold shV at h
 split at h
 ·rename_i hc
  obtain ⟨h1,h2,h3⟩:=hc
  cases h
  have e1:q*10000=((q*10000).num:Rat):=by
   conv=>lhs;rw [rat_of_mk (q*10000),h1,Rat.mkRat_one]
  have e2:(((q*10000).num.toNat:Nat):Rat)=((q*10000).num:Rat):=by
   rw [<- Rat.intCast_natCast,Int.toNat_of_nonneg h2]
  rw [e2,<- e1]
  grind
 ·cases h
theorem read_num {q:Rat} (h:(shV q).isSome=true):numberV (numTx ((shV q).getD 0))=some q:=by
 cases hs:shV q with
 | none=>rw [hs] at h;cases h
 | some n=>
  rw [Option.getD_some,num_read (shV_le hs),shV_val hs]
theorem numTx_head (n:Nat) : ∃ x r,numTx n=x::r/\isDg x=true:=by
 have h1:=(dec_ok (n/10000)).1
 unfold numTx
 cases hd:Lib.decDigits (n/10000) with
 | nil=>exact absurd hd h1.1
 | cons x r=>exact ⟨x,_,rfl,h1.2 x (by rw [hd];simp)⟩
theorem isName_head {l:List UInt8} (h:isNameV l=true) : ∃ x r,l=x::r/\isLow x=true:=by
 have h' := h
 unfold isNameV at h
 rw [Bool.and_eq_true,decide_eq_true_eq] at h
 cases l with
 | nil=>exact absurd rfl h.1.1
 | cons x r=>
  refine ⟨x,r,rfl, ?_⟩
  have:=nameAll.1 h.2 0 x rfl
  unfold nameCh at this
  simpa using this
theorem name_notNum {l:List UInt8} (h:isNameV l=true):numberV l=none:=by
 obtain ⟨x,r,rfl,hx⟩:=isName_head h
 unfold isLow at hx
 rw [decide_eq_true_eq] at hx
 have h46:(x != 46)=true:=by
  rw [bne_iff_ne]
  rintro rfl
  revert hx;decide
 unfold numberV
 have hn:dgsB ((x::r).takeWhile (· != 46)) 9=false:=by
  unfold dgsB
  rw [List.takeWhile_cons,if_pos h46,List.all_cons]
  have:isDg x=false:=by
   cases hh:isDg x with
   | false=>rfl
   | true=>have:=isDg_iff.1 hh;omega
  rw [this]
  rfl
 simp only [hn]
 rfl
theorem bin_read {k:Int} {u v:Ex} (ru:RdOk u) (rv:RdOk v):(k=3\/k=4)-> ∀ (ts:List (List UInt8)) (X:RT),hdT ts≠[42]->hdT ts≠[47]->Ev (fun n=>qSumL n (op2 k (canE u) (canE v)) ts) X->Ev (fun n=>qSum n (parT u.kind 0 (tkE u)++(if k=3 then [43] else [45])::parT v.kind 1 (tkE v)++ts)) X:=fun hk ts X h1 h2 b=>by
 have e1 : ∀ w:List UInt8,parT u.kind 0 (tkE u)++w::parT v.kind 1 (tkE v)++ts=parT u.kind 0 (tkE u)++(w::(parT v.kind 1 (tkE v)++ts)):=fun w=>by simp
 rw [e1]
 have hv:=op_prod rv ts _ (prodL_end h1 h2)
 rcases hk with rfl | rfl
 ·rw [if_pos rfl]
  refine op_sum ru _ X (by rw [hdT_cons];decide) (by rw [hdT_cons];decide) (hv.step2 b fun n a c=> ?_)
  rw [qSumL,hdT_cons,if_pos rfl,List.tail_cons,a]
  exact c
 ·rw [if_neg (by decide)]
  refine op_sum ru _ X (by rw [hdT_cons];decide) (by rw [hdT_cons];decide) (hv.step2 b fun n a c=> ?_)
  have d1:([45]:List UInt8)≠[43]:=by decide
  rw [qSumL,hdT_cons,if_neg d1,if_pos rfl,List.tail_cons,a]
  exact c
theorem mul_read {k:Int} {u v:Ex} (ru:RdOk u) (rv:RdOk v):(k=5\/k=6)-> ∀ (ts:List (List UInt8)) (X:RT),Ev (fun n=>qProdL n (op2 k (canE u) (canE v)) ts) X->Ev (fun n=>qProd n (parT u.kind 1 (tkE u)++(if k=5 then [42] else [47])::parT v.kind 2 (tkE v)++ts)) X:=fun hk ts X b=>by
 have e1 : ∀ w:List UInt8,parT u.kind 1 (tkE u)++w::parT v.kind 2 (tkE v)++ts=parT u.kind 1 (tkE u)++(w::(parT v.kind 2 (tkE v)++ts)):=fun w=>by simp
 rw [e1]
 have hv:=op_fac rv ts
 rcases hk with rfl | rfl
 ·rw [if_pos rfl]
  refine op_prod ru _ X (hv.step2 b fun n a c=> ?_)
  rw [qProdL,hdT_cons,if_pos rfl,List.tail_cons,a]
  exact c
 ·rw [if_neg (by decide)]
  refine op_prod ru _ X (hv.step2 b fun n a c=> ?_)
  have d1:([47]:List UInt8)≠[42]:=by decide
  rw [qProdL,hdT_cons,if_neg d1,if_pos rfl,List.tail_cons,a]
  exact c
theorem call_read {k:Int} : ∀ (es done:List Ex),es≠[]->evAll RdOk es->done.length+es.length<=8-> ∀ ts,Ev (fun n=>qCallL n k (canL done) (tkJ es++[41]::ts)) (.ok (.mk k 0 0 0 [] (canL (done++es)),ts):RT)
 | [],_,h,_,_,_=>absurd rfl h
 | [e],done,_,ih,hl,ts=>by
  have r:RdOk e:=ih.1
  have h:=r.sum ([41]::ts) (.ok (canE e,[41]::ts)) (by rw [hdT_cons];decide) (by rw [hdT_cons];decide) (sumL_end (by rw [hdT_cons];decide) (by rw [hdT_cons];decide))
  refine h.step fun n a=> ?_
  rw [tkJ,qCallL,a]
  simp only [hdT_cons,if_true,List.tail_cons]
  rw [canL_app,canL,canL]
 | e::e' :: es,done,_,ih,hl,ts=>by
  have r:RdOk e:=ih.1
  have e1:tkJ (e::e' :: es)++[41]::ts=tkE e++([44]::(tkJ (e' :: es)++[41]::ts)):=by rw [tkJ];simp
  have h:=r.sum ([44]::(tkJ (e' :: es)++[41]::ts)) (.ok (canE e,[44]::(tkJ (e' :: es)++[41]::ts))) (by rw [hdT_cons];decide) (by rw [hdT_cons];decide) (sumL_end (by rw [hdT_cons];decide) (by rw [hdT_cons];decide))
  have h2:=call_read (k:=k) (e' :: es) (done++[e]) (by simp) ih.2 (by simp at hl ⊢;omega) ts
  refine h.step2 h2 fun n a b=> ?_
  have d1:([44]:List UInt8)≠[41]:=by decide
  have d2:([44]:List UInt8)≠[]:=by decide
  have hl8 : ¬ ((canL done).length+1=8):=by rw [canL_len];simp at hl;omega
  rw [e1,qCallL,a]
  dsimp only
  rw [if_neg (show ¬ hdT ([44]::(tkJ (e' :: es)++[41]::ts))=[41] from d1),if_neg (show ¬ hdT ([44]::(tkJ (e' :: es)++[41]::ts))=[] from d2),if_neg (show ¬ hdT ([44]::(tkJ (e' :: es)++[41]::ts))≠[44] from fun q=>q rfl),if_neg hl8,List.tail_cons]
  rw [canL_app,canL,canL] at b
  rw [b]
  simp
theorem read_node {k:Int} {q:Rat} {n m:Nat} {nm:List UInt8} {kids:List Ex} (ih:evAll RdOk kids) (ok:okE (.mk k q n m nm kids)):RdOk (.mk k q n m nm kids):=by
 rw [okE] at ok
 have hops:=right_len ok.1
 have hnm:=right_nm ok.1
 have hv:=right_val ok.1
 simp only [Ex.kind,Ex.kids] at hops
 by_cases k1:k=1
 ·rw [if_pos k1] at hv
  refine RdOk.of_fac fun ts=>Ev.one fun f=> ?_
  have hr:=read_num hv
  obtain ⟨x,r,hx,hd⟩:=numTx_head ((shV q).getD 0)
  have hxd:=isDg_iff.1 hd
  have ne : ∀ (y:UInt8) (w:List UInt8),isDg y=false->numTx ((shV q).getD 0)≠y::w:=fun y w hy e=>by
   rw [hx] at e
   cases e
   rw [hd] at hy
   cases hy
  rw [tkE,if_pos k1,List.cons_append,List.nil_append,qFac,hdT_cons,if_neg (by rw [hx];simp),if_neg (ne _ _ (by decide)),if_neg (ne _ _ (by decide)),if_neg (ne _ _ (by decide)),if_neg (ne _ _ (by decide)),hr,canE,if_pos k1]
  rfl
 by_cases k2:k=2
 ·rw [if_pos k2] at hnm
  refine RdOk.of_fac fun ts=>Ev.one fun f=> ?_
  have hn:=name_notNum hnm
  obtain ⟨x,r,hx,hd⟩:=isName_head hnm
  have hm:nm≠[109,105,110]/\nm≠[109,97,120]:=by
   have:=hnm
   unfold isNameV at this
   rw [Bool.and_eq_true,decide_eq_true_eq] at this
   exact ⟨this.1.2.2.1,this.1.2.2.2⟩
  have ne : ∀ (y:UInt8) (w:List UInt8),isLow y=false->nm≠y::w:=fun y w hy e=>by
   rw [hx] at e
   cases e
   rw [hd] at hy
   cases hy
  rw [tkE,if_neg k1,if_pos k2,List.cons_append,List.nil_append,qFac,hdT_cons,if_neg (by rw [hx];simp),if_neg (ne _ _ (by decide)),if_neg (ne _ _ (by decide)),if_neg hm.1,if_neg hm.2,hn,canE,if_neg k1,if_pos k2]
  simp only [hnm,if_true]
  rfl
 by_cases k3:k=3\/k=4
 ·obtain ⟨u,v,rfl⟩:=kids_two hops (by omega)
  have ru:RdOk u:=ih.1
  have rv:RdOk v:=ih.2.1
  have hc:clo k=0:=by unfold clo;rw [if_pos k3]
  have ec:canE (.mk k q n m nm [u,v])=op2 k (canE u) (canE v):=by rw [canE,if_neg k1,if_neg k2,canL,canL,canL];rfl
  have et:tkE (.mk k q n m nm [u,v])=parT u.kind 0 (tkE u)++(if k=3 then [43] else [45])::parT v.kind 1 (tkE v):=by
   rw [tkE,if_neg k1,if_neg k2,tkO_get (i:=0) (e:=u) rfl,tkO_get (i:=1) (e:=v) rfl]
   rcases k3 with e | e
   ·rw [if_pos e,if_pos e]
   ·rw [if_neg (by omega),if_pos e,if_neg (by omega)]
  refine ⟨fun h=> ?_,fun h=> ?_,fun ts X h1 h2 b=> ?_⟩
  ·simp only [Ex.kind] at h;omega
  ·simp only [Ex.kind] at h;omega
  ·rw [ec] at b
   rw [et]
   exact bin_read ru rv k3 ts X h1 h2 b
 by_cases k5:k=5\/k=6
 ·obtain ⟨u,v,rfl⟩:=kids_two hops (by omega)
  have ru:RdOk u:=ih.1
  have rv:RdOk v:=ih.2.1
  have hc:clo k=1:=by unfold clo;rw [if_neg k3,if_pos k5]
  have ec:canE (.mk k q n m nm [u,v])=op2 k (canE u) (canE v):=by rw [canE,if_neg k1,if_neg k2,canL,canL,canL];rfl
  have et:tkE (.mk k q n m nm [u,v])=parT u.kind 1 (tkE u)++(if k=5 then [42] else [47])::parT v.kind 2 (tkE v):=by
   rw [tkE,if_neg k1,if_neg k2,if_neg (by omega),if_neg (by omega),tkO_get (i:=0) (e:=u) rfl,tkO_get (i:=1) (e:=v) rfl]
   rcases k5 with e | e
   ·rw [if_pos e,if_pos e]
   ·rw [if_neg (by omega),if_pos e,if_neg (by omega)]
  refine RdOk.of_prod hc fun ts X b=> ?_
  rw [ec] at b
  rw [et]
  exact mul_read ru rv k5 ts X b
 by_cases k7:k=7
 ·obtain ⟨u,rfl⟩:=kids_one hops k7
  have ru:RdOk u:=ih.1
  refine RdOk.of_fac fun ts=>(op_fac ru ts).step fun f a=> ?_
  have d1:([45]:List UInt8)≠[]:=by decide
  rw [tkE,if_neg k1,if_neg k2,if_neg (by omega),if_neg (by omega),if_neg (by omega),if_neg (by omega),if_pos k7,tkO_get (i:=0) (e:=u) rfl,List.cons_append,qFac,hdT_cons,if_neg d1,if_pos rfl,List.tail_cons,a,canE,if_neg k1,if_neg k2,canL,canL,k7]
 obtain ⟨h89,hl1,hl8⟩:=kids_many hops (by omega) (by omega) k7
 have hne:kids≠[]:=fun e=>by rw [e] at hl1;simp at hl1
 refine RdOk.of_fac fun ts=> ?_
 have hcl:=call_read (k:=k) kids [] hne ih (by simpa using hl8) ts
 rw [canL,List.nil_append] at hcl
 have hca:Ev (fun n=>qCall n k ([40]::(tkJ kids++[41]::ts))) (.ok (.mk k 0 0 0 [] (canL kids),ts):RT):=hcl.step fun f a=>by
  rw [qCall]
  simp only [expT,hdT_cons,if_true,List.tail_cons]
  exact a
 have ec:canE (.mk k q n m nm kids) = .mk k 0 0 0 [] (canL kids):=by rw [canE,if_neg k1,if_neg k2]
 have et:tkE (.mk k q n m nm kids)++ts=(if k=9 then [109,97,120] else [109,105,110])::[40]::(tkJ kids++[41]::ts):=by
  rw [tkE,if_neg k1,if_neg k2,if_neg (by omega),if_neg (by omega),if_neg (by omega),if_neg (by omega),if_neg k7]
  simp
 rw [ec]
 refine hca.step fun f a=> ?_
 rw [et,qFac,hdT_cons,List.tail_cons]
 rcases h89 with e | e
 ·have d0:([109,105,110]:List UInt8)≠[]:=by decide
  have d1:([109,105,110]:List UInt8)≠[45]:=by decide
  have d2:([109,105,110]:List UInt8)≠[40]:=by decide
  rw [if_neg (show ¬ k=9 by omega),if_neg d0,if_neg d1,if_neg d2,if_pos rfl,<- e]
  exact a
 ·have d0:([109,97,120]:List UInt8)≠[]:=by decide
  have d1:([109,97,120]:List UInt8)≠[45]:=by decide
  have d2:([109,97,120]:List UInt8)≠[40]:=by decide
  have d3:([109,97,120]:List UInt8)≠[109,105,110]:=by decide
  rw [if_pos (show k=9 by omega),if_neg d0,if_neg d1,if_neg d2,if_neg d3,if_pos rfl,<- e]
  exact a
mutual
theorem read_all : ∀ e:Ex,okE e->RdOk e
 | .mk k q n m nm kids,h=>read_node (read_allL kids (by rw [okE] at h;exact h.2)) h
theorem read_allL : ∀ es:List Ex,okL es->evAll RdOk es
 | [],_=>trivial
 | e::es,h=>by rw [okL] at h;exact ⟨read_all e h.1,read_allL es h.2⟩
end
theorem read_back {e:Ex} (h:chkV e 1=0) {sp:List UInt8} (hsp : ∀ x∈sp,x=32) {s:List UInt8} (hs:tks s=tks (sub sp (txV e))) (hl:s.length<=400):foParseV s = .ok (canE e):=by
 have ok:=chk_okE h
 have hr:=(read_all e ok).sum [] (.ok (canE e,[])) (by decide) (by decide) (sumL_end (by decide) (by decide))
 obtain ⟨N,hN⟩:=hr
 have:=hN N (Nat.le_refl _)
 rw [List.append_nil] at this
 refine foParseV_tok (n:=N) hl ?_ (by rw [can_ok ok];exact h)
 rw [hs,tks_tx hsp ok]
 exact this
end Go.Proofs.YtfglcgbgaeegaaaGreatDoor

namespace Go.Proofs.YtfglcgbgaeegaaaGreatDoor
open Go Go.Vcg Go.RowKit Go.Sort
attribute [local irreducible] Br
mutual
def SameE:Ex->Ex->Prop
 | .mk k q _ _ nm kids,f=>k=f.kind/\q=f.val/\nm=f.name/\SameL kids f.kids
def SameL:List Ex->List Ex->Prop
 | [],fs=>fs=[]
 | e::es,fs=> ∃ f fs', fs=f::fs' /\ SameE e f/\SameL es fs'
end
theorem SameL.len : ∀ {es fs:List Ex},SameL es fs->es.length=fs.length
 | [],fs,h=>by rw [SameL] at h;subst h;rfl
 | e::es,fs,h=>by
  rw [SameL] at h
  obtain ⟨f,fs', rfl,_,h2⟩:=h
  rw [List.length_cons,List.length_cons,h2.len]
theorem SameL.get : ∀ {es fs:List Ex} {i:Nat} {e f:Ex},SameL es fs->es[i]?=some e->fs[i]?=some f->SameE e f
 | [],fs,i,e,f,_,he,_=>by simp at he
 | x::es,fs,i,e,f,h,he,hf=>by
  rw [SameL] at h
  obtain ⟨y,fs', rfl,h1,h2⟩:=h
  cases i with
  | zero=>simp at he hf;subst he hf;exact h1
  | succ i=>exact h2.get (i:=i) (by simpa using he) (by simpa using hf)
mutual
theorem SameE.refl : ∀ e:Ex,SameE e e
 | .mk k q n m nm kids=>by rw [SameE];exact ⟨rfl,rfl,rfl,SameL.refl kids⟩
theorem SameL.refl : ∀ es:List Ex,SameL es es
 | []=>by rw [SameL]
 | e::es=>by rw [SameL];exact ⟨e,es,rfl,SameE.refl e,SameL.refl es⟩
end
mutual
theorem can_same : ∀ {e:Ex},okE e->SameE (canE e) e
 | .mk k q n m nm kids,h=>by
  rw [okE] at h
  have hops:=right_len h.1
  have hnm:=right_nm h.1
  have hv:=right_val h.1
  simp only [Ex.kind,Ex.kids] at hops
  have nul:(foOps k).2=0->kids=[]:=fun e=>List.length_eq_zero_iff.1 (by rw [e] at hops;omega)
  rw [canE]
  by_cases k1:k=1
  ·subst k1
   rw [if_neg (by decide)] at hnm
   rw [if_pos rfl,SameE]
   refine ⟨rfl,rfl,hnm.symm, ?_⟩
   rw [SameL]
   exact nul (by decide)
  ·rw [if_neg k1] at hv ⊢
   by_cases k2:k=2
   ·subst k2
    rw [if_pos rfl,SameE]
    refine ⟨rfl,hv.symm,rfl, ?_⟩
    rw [SameL]
    exact nul (by decide)
   ·rw [if_neg k2] at hnm ⊢
    rw [SameE]
    exact ⟨rfl,hv.symm,hnm.symm,can_sameL h.2⟩
theorem can_sameL : ∀ {es:List Ex},okL es->SameL (canL es) es
 | [],_=>by rw [canL,SameL]
 | e::es,h=>by
  rw [okL] at h
  rw [canL,SameL]
  exact ⟨e,es,rfl,can_same h.1,can_sameL h.2⟩
end
def SmOk (e:Ex):Prop:= ∀ {f:Ex} {h:Heap} {vs ws:List Value},IsE h e vs->IsE h f ws->Szs e->Szs f->SameE e f->
 CallsU Tryz.prog 54 [.agg vs.toArray,.agg ws.toArray] h fun r h' => r = .bool true/\Le h h'
theorem rSame_node {k:Int} {q0:Rat} {n m:Nat} {nm:List UInt8} {kids:List Ex} (ih:evAll SmOk kids):SmOk (.mk k q0 n m nm kids):=by
 intro f h vs ws u w z y hs
 have uo:=u.open
 have wo:=w.open
 obtain ⟨s,A,c,B,d,K,kc,rfl,uq,hc,hk⟩:=uo
 obtain ⟨s2,A2,c2,B2,d2,K2,kc2,rfl,wq,hc2,hk2⟩:=wo
 obtain ⟨z1,z2,z3,z4,z5⟩:=z.open
 obtain ⟨y1,y2,y3,y4,y5⟩:=y.open
 rw [SameE] at hs
 obtain ⟨e1,e2,e3,e4⟩:=hs
 have hlen:=e4.len
 simp only [Ex.kids,Ex.ln,Ex.lm,Ex.val,Ex.name] at uq hc hk z1 z2 z3 z4 z5
 apply ref17_Same_ok
 unfold ref17_Same_vc
 have hl1:(Ex.mk k q0 n m nm kids).kids.length=kids.length:=rfl
 rw [hl1,bytes_toList,bytes_toList]
 refine ⟨fun t h' => t=false/\Le h h', ?_,Br.mk (fun q=> ?_) (fun q=>Br.mk (fun q2=> ?_) (fun q2=> ?_))⟩
 ·rintro _ h1 ⟨rfl,hle1⟩
  refine Br.mk (fun q=>by cases q) (fun _=> ?_)
  refine ⟨fun mm i h' => ∃ j,j<=kids.length/\mm=kids.length-j/\i=(j:Int)/\Le h h', ⟨kids.length,0,by omega,by omega,rfl,hle1⟩, ?_⟩
  rintro mm _ h2 ⟨j,hj,rfl,rfl,hle2⟩
  refine Br.mk (fun q1=> ?_) (fun q1=>⟨rfl,hle2⟩)
  have hlt:j<kids.length:=by have:=of_decide_eq_true q1;omega
  obtain ⟨x,hx⟩ : ∃ x,kids[j]?=some x:=⟨_,List.getElem?_eq_getElem hlt⟩
  obtain ⟨x', hx'⟩ : ∃ x', f.kids[j]?=some x' := ⟨_,List.getElem?_eq_getElem (by omega)⟩
  obtain ⟨ad,vs', eA,hld,ux⟩:=kid_ld (e:= .mk k q0 n m nm kids) hk hx
  obtain ⟨ad', ws', eA', hld', wx⟩:=kid_ld hk2 hx'
  have ux' := ux
  have wx' := wx
  obtain ⟨sx,Ax,cx,Bx,dx,Kx,kcx,rfl,_,_,_⟩:=ux'.open
  obtain ⟨sy,Ay,cy,By,dy,Ky,kcy,rfl,_,_,_⟩:=wx'.open
  refine ⟨ad,eA,by omega,by omega,_,_,_,_,_,_,_,_,_,_,_,_,by rw [Int.toNat_natCast];exact LdN.mono hld hle2,ad', eA', by omega,by omega,_,_,_,_,_,_,_,_,_,_,_,_,by rw [Int.toNat_natCast];exact LdN.mono hld' hle2, ?_⟩
  refine ((ih.get hx) (IsE.mono hle2 _ _ ux) (IsE.mono hle2 _ _ wx) (SzsL.get z5 hx) (SzsL.get y5 hx') (e4.get hx hx')).mono ?_
  rintro _ h3 ⟨rfl,hle3⟩
  refine ⟨_,rfl,Br.mk (fun q=>by cases q) (fun _=> ?_)⟩
  rintro _ rfl
  exact ⟨kids.length-(j+1),by omega,j+1,by omega,rfl,wi (by omega) (by omega),hle2.trans hle3⟩
 ·exfalso
  have e5:(Ex.mk k q0 n m nm kids).kind=f.kind:=e1
  rw [e5] at q
  simp at q
 ·exfalso
  have e5:(Ex.mk k q0 n m nm kids).name=f.name:=e3
  rw [e5] at q2
  simp at q2
 ·refine (r3cmp_c uq wq (by omega) (by omega) (by omega) (by omega)).mono ?_
  rintro _ h1 ⟨rfl,hle1⟩
  have hc0:cmpQ q0 f.val=0:=by rw [e2];exact cmpQ_self _
  refine ⟨_,rfl,Br.mk (fun q3=> ?_) (fun q3=>⟨?_,hle1⟩)⟩
  ·exfalso
   rw [hc0] at q3
   simp at q3
  ·rw [hlen]
   simp
mutual
theorem rSame_all : ∀ e:Ex,SmOk e
 | .mk _ _ _ _ _ kids=>rSame_node (rSame_allL kids)
theorem rSame_allL : ∀ es:List Ex,evAll SmOk es
 | []=>trivial
 | e::es=>⟨rSame_all e,rSame_allL es⟩
end
theorem foParseW_c (s:List UInt8) (h:Heap):CallsU Tryz.prog 92 [sv s] h (FpR (foParseV s) h):=by
 rcases Nat.lt_or_ge 400 s.length with q | q
 ·apply formula_Parse_ok
  unfold formula_Parse_vc foParseV
  rw [ba_size]
  refine Br.mk (fun _=> ?_) (fun q2=> ?_)
  ·rw [if_pos q]
   exact ⟨Le.refl _,by decide,rfl⟩
  ·have:=of_decide_eq_false q2
   omega
 ·exact foParse_c (fuel400 q) h
theorem prV_ok {e:Ex} {t:List UInt8} (h:prV e = .ok t):chkV e 1=0/\t=txV e/\t.length<=400:=by
 unfold prV at h
 split at h
 ·split at h
  ·cases h
   exact ⟨by assumption,rfl,by assumption⟩
  ·cases h
 ·cases h
theorem prV_er {e:Ex} {er:Int} (h:prV e = .error er):er≠0/\(er=5\/chkV e 1=er):=by
 unfold prV at h
 split at h
 ·split at h
  ·cases h
  ·cases h
   exact ⟨by decide,Or.inl rfl⟩
 ·rename_i h0
  cases h
  exact ⟨h0,Or.inr rfl⟩
structure Stp where
 name:List UInt8
 kind:Int
 frm:List (List UInt8)
 nums:List Ex
instance:Inhabited Stp:=⟨⟨[],0,[],[]⟩⟩
def IsK (h:Heap) (K:Option Addr) (kn kc:Nat) (es:List Ex):Prop:=
 kn=es.length/\es.length<=kc/\(es≠[]-> ∃ (ad:Addr) (b:Blk),K=some ad/\ad.spot=none/\h ad.block=some b/\ad.off+6*es.length<=b.cells.length/\IsEs h es (b.cells.drop ad.off))
theorem IsK.mono {h h' : Heap} {K:Option Addr} {kn kc:Nat} {es:List Ex} (u:IsK h K kn kc es) (l:Le h h'):IsK h' K kn kc es:=
 ⟨u.1,u.2.1,fun hn=>let ⟨ad,b,a1,a2,a3,a4,a5⟩:=u.2.2 hn;⟨ad,b,a1,a2,l _ _ a3,a4,IsEs.mono l _ _ a5⟩⟩
theorem IsK.get {h:Heap} {K:Option Addr} {kn kc:Nat} {es:List Ex} (u:IsK h K kn kc es) {i:Nat} {x:Ex} (hx:es[i]?=some x) : ∃ ad vs,K=some ad/\LdN h (ad.add (i*6)) vs/\IsE h x vs:=
 kid_ld (e:= .mk 0 0 0 0 [] es) u.2.2 hx
def IsS (h:Heap) (s:Stp) (vs:List Value):Prop:= ∃ F fc K kc,vs=[sv s.name,.int .i64 s.kind,.slice F s.frm.length fc,.slice K s.nums.length kc]/\Sl sv h F s.frm.length fc s.frm/\IsK h K s.nums.length kc s.nums
theorem IsS.mono {h h' : Heap} {s:Stp} {vs:List Value} (u:IsS h s vs) (l:Le h h'):IsS h' s vs:=
 let ⟨F,fc,K,kc,e,a,b⟩:=u
 ⟨F,fc,K,kc,e,a.mono l,b.mono l⟩
structure StpS (h:Heap) (A:Option Addr) (n c:Nat) (l:List Stp):Prop where
 len:n=l.length
 cap:n<=c
 mem:l≠[]-> ∃ (ad:Addr) (b:Blk),A=some ad/\ad.spot=none/\h ad.block=some b/\ ∀ i s,l[i]?=some s->IsS h s ((b.cells.drop (ad.off+i*4)).take 4)
theorem StpS.mono {h h' : Heap} {A:Option Addr} {n c:Nat} {l:List Stp} (u:StpS h A n c l) (le:Le h h'):StpS h' A n c l:=
 ⟨u.len,u.cap,fun hn=>let ⟨ad,b,a1,a2,a3,a4⟩:=u.mem hn;⟨ad,b,a1,a2,le _ _ a3,fun i s hs=>(a4 i s hs).mono le⟩⟩
theorem StpS.get {h:Heap} {A:Option Addr} {n c:Nat} {l:List Stp} (u:StpS h A n c l) {i:Nat} {s:Stp} (hs:l[i]?=some s) :
  ∃ ad F fc K kc,A=some ad/\LdN h (ad.add (i*4)) [sv s.name,.int .i64 s.kind,.slice F s.frm.length fc,.slice K s.nums.length kc]/\Sl sv h F s.frm.length fc s.frm/\IsK h K s.nums.length kc s.nums:=by
 obtain ⟨ad,b,a1,a2,a3,a4⟩:=u.mem (fun q=>by rw [q] at hs;simp at hs)
 obtain ⟨F,fc,K,kc,e,uf,uk⟩:=a4 i s hs
 exact ⟨ad,F,fc,K,kc,a1,LdN_of a2 a3 rfl e,uf,uk⟩
theorem StpS.take {h:Heap} {A:Option Addr} {n c:Nat} {l:List Stp} (u:StpS h A n c l) {m:Nat} (hm:m<=n):StpS h A m c (l.take m) where
 len:=by rw [List.length_take,<- u.len];omega
 cap:=Nat.le_trans hm u.cap
 mem hn:=by
  obtain ⟨ad,b,a1,a2,a3,a4⟩:=u.mem (fun q=>hn (by rw [q];simp))
  refine ⟨ad,b,a1,a2,a3,fun i s hs=>a4 i s ?_⟩
  have hi:=(List.getElem?_eq_some_iff.1 hs).1
  rw [List.length_take] at hi
  rw [List.getElem?_take_of_lt (by omega)] at hs
  exact hs
def SzS (s:Stp):Prop:=s.name.length<=100000/\s.frm.length<=1000/\s.nums.length<=1000/\SzsL s.nums/\ ∀ x∈s.frm,x.length<=100000
def SzSs (l:List Stp):Prop:= ∀ s∈l,SzS s
def isUp (x:UInt8):Bool:=decide (65<=x.toNat/\x.toNat<=90)
def ptCh (i:Nat) (x:UInt8):Bool:=isUp x||(decide (i≠0)&&(isLow x||isDg x))
def isPointV (l:List UInt8):Bool:=decide (1<=l.length/\l.length<=8)&&(l.zipIdx.all fun p=>ptCh p.2 p.1)
theorem ptAll {l:List UInt8}:(l.zipIdx.all fun p=>ptCh p.2 p.1)=true ↔ ∀ i x,l[i]?=some x->ptCh i x=true:=by
 rw [List.all_eq_true]
 constructor
 ·intro h i x hx
  exact h (x,i) (List.mem_zipIdx_iff_getElem?.2 hx)
 ·rintro h ⟨x,i⟩ hx
  exact h i x (List.mem_zipIdx_iff_getElem?.1 hx)
theorem drPoint_c (l:List UInt8) (hl:l.length<=1000000) (h:Heap):CallsU Tryz.prog 114 [sv l] h fun r h' => r = .bool (isPointV l)/\h=h' := by
 apply draft_isPoint_ok
 unfold draft_isPoint_vc
 rw [ba_size]
 have bad : ∀ i x,l[i]?=some x->ptCh i x=false->isPointV l=false:=fun i x hx hn=>by
  unfold isPointV
  rw [Bool.and_eq_false_iff]
  refine Or.inr ?_
  cases hh:(l.zipIdx.all fun p=>ptCh p.2 p.1) with
  | false=>rfl
  | true=>rw [ptAll.1 hh i x hx] at hn;cases hn
 refine ⟨fun m i h' => ∃ k,k<=l.length/\m=l.length-k/\i=(k:Int)/\h=h' /\ ∀ j x,j<k->l[j]?=some x->ptCh j x=true,⟨l.length,0,by omega,by omega,rfl,rfl,fun j x hj=>by omega⟩, ?_⟩
 rintro m _ _ ⟨k,hk,rfl,rfl,rfl,hall⟩
 refine Br.mk (fun q=> ?_) (fun q=> ?_)
 ·have hlt:k<l.length:=by have:=of_decide_eq_true q;omega
  obtain ⟨x,hx⟩ : ∃ x,l[k]?=some x:=⟨_,List.getElem?_eq_getElem hlt⟩
  have go:ptCh k x=true-> ∃ m_1,m_1<l.length-k/\ ∃ k', k' <= l.length/\m_1=l.length-k' /\ IntKind.i64.wrap ((k:Int)+1)=(k' : Int)/\h=h/\ ∀ j x,j<k' -> l[j]?=some x->ptCh j x=true:=fun hn=>by
   refine ⟨l.length-(k+1),by omega,k+1,by omega,rfl,wi (by omega) (by omega),rfl,fun j y hj hy=> ?_⟩
   rcases Nat.lt_succ_iff_lt_or_eq.1 hj with q | q
   ·exact hall j y q hy
   ·subst q
    rw [hx] at hy
    cases hy
    exact hn
  refine ⟨x,by omega,by rw [Int.toNat_natCast,ba_get];exact hx,fun t h' => h=h' /\ t=isUp x, ?_, ?_⟩
  ·rintro t _ ⟨rfl,rfl⟩
   refine ⟨fun t h' => h=h' /\ t=(isLow x||isDg x), ?_, ?_⟩
   ·rintro t _ ⟨rfl,rfl⟩
    refine Br.mk (fun q3=>Br.mk (fun q4=> ?_) (fun q4=>Br.mk (fun q5=> ?_) (fun q5=> ?_))) (fun q3=> ?_)
    ·have hu:isUp x=false:=by simpa using q3
     have hk0:k=0:=by have:=beq_iff_eq.1 q4;omega
     rw [bad k x hx (by unfold ptCh;rw [hu,hk0];rfl)]
     exact ⟨rfl,rfl⟩
    ·have hu:isUp x=false:=by simpa using q3
     have ho:(isLow x||isDg x)=false:=by rw [Bool.not_eq_true'] at q5;exact q5
     rw [bad k x hx (by unfold ptCh;rw [hu,ho];simp)]
     exact ⟨rfl,rfl⟩
    ·have hk0:k≠0:=by have:=beq_eq_false_iff_ne.1 q4;omega
     have ho:(isLow x||isDg x)=true:=by rw [Bool.not_eq_false'] at q5;exact q5
     rintro _ rfl
     exact go (by unfold ptCh;rw [ho];simp [hk0])
    ·have hu:isUp x=true:=by simpa using q3
     rintro _ rfl
     exact go (by unfold ptCh;rw [hu];rfl)
   ·have dg : ∀ {t:Bool},(t=isDg x)->isLow x=false->t=(isLow x||isDg x):=fun e1 e2=>by rw [e2,e1];rfl
    have hdg:isDg x=decide (48<=x.toNat/\x.toNat<=57):=rfl
    refine Br.mk (fun q3=>Br.mk (fun q4=>⟨rfl, ?_⟩) (fun q4=>Br.mk (fun q5=>⟨rfl,dg ?_ ?_⟩) (fun q5=>⟨rfl,dg ?_ ?_⟩))) (fun q3=>Br.mk (fun q5=>⟨rfl,dg ?_ ?_⟩) (fun q5=>⟨rfl,dg ?_ ?_⟩))
    ·have h1:=of_decide_eq_true q3
     have h2:=of_decide_eq_true q4
     have:isLow x=true:=by unfold isLow;rw [decide_eq_true_eq];omega
     rw [this];rfl
    ·have h1:=of_decide_eq_true q5
     rw [hdg,Bool.eq_iff_iff,decide_eq_true_eq,decide_eq_true_eq];omega
    ·have h2:=of_decide_eq_false q4
     unfold isLow;rw [decide_eq_false_iff_not];omega
    ·have h1:=of_decide_eq_false q5
     rw [hdg];symm;rw [decide_eq_false_iff_not];omega
    ·have h2:=of_decide_eq_false q4
     unfold isLow;rw [decide_eq_false_iff_not];omega
    ·have h1:=of_decide_eq_true q5
     rw [hdg,Bool.eq_iff_iff,decide_eq_true_eq,decide_eq_true_eq];omega
    ·have h2:=of_decide_eq_false q3
     unfold isLow;rw [decide_eq_false_iff_not];omega
    ·have h1:=of_decide_eq_false q5
     rw [hdg];symm;rw [decide_eq_false_iff_not];omega
    ·have h2:=of_decide_eq_false q3
     unfold isLow;rw [decide_eq_false_iff_not];omega
  ·unfold isUp
   refine Br.mk (fun q3=>⟨rfl, ?_⟩) (fun q3=>⟨rfl, ?_⟩)
   ·have:=of_decide_eq_true q3
    rw [Bool.eq_iff_iff,decide_eq_true_eq,decide_eq_true_eq]
    omega
   ·have:=of_decide_eq_false q3
    symm;rw [decide_eq_false_iff_not];omega
 ·have hk' : k=l.length:=by have:=of_decide_eq_false q;omega
  subst hk'
  have hz:(l.zipIdx.all fun p=>ptCh p.2 p.1)=true:=ptAll.2 fun i x hx=>hall i x (List.getElem?_eq_some_iff.1 hx).1 hx
  unfold isPointV
  rw [hz,Bool.and_true]
  refine Br.mk (fun q2=>⟨?_,rfl⟩) (fun q2=>⟨?_,rfl⟩)
  ·have:=of_decide_eq_true q2
   congr 1
   rw [Bool.eq_iff_iff,decide_eq_true_eq,decide_eq_true_eq]
   omega
  ·have:=of_decide_eq_false q2
   congr 1
   symm;rw [decide_eq_false_iff_not];omega
def defV (l:List Stp) (nm:List UInt8):Bool:=l.any fun s=>s.name==nm
theorem defV_take {l:List Stp} {nm:List UInt8} {k:Nat} (h : ∀ j s,j<k->l[j]?=some s->s.name≠nm):k=l.length->defV l nm=false:=fun e=>by
 unfold defV
 rw [List.any_eq_false]
 intro s hs
 obtain ⟨j,hj⟩:=List.getElem?_of_mem hs
 have:=h j s (by rw [e];exact (List.getElem?_eq_some_iff.1 hj).1) hj
 simpa using this
theorem drDefined_c {h:Heap} {A:Option Addr} {n c:Nat} {l:List Stp} (u:StpS h A n c l) (hn:n<=1000000) (nm:List UInt8) :
  CallsU Tryz.prog 93 [.slice A n c,sv nm] h fun r h' => r = .bool (defV l nm)/\h=h' := by
 apply draft_defined_ok
 have hlen:=u.len
 refine ⟨fun m i h' => ∃ k,k<=l.length/\m=l.length-k/\i=(k:Int)/\h=h' /\ ∀ j s,j<k->l[j]?=some s->s.name≠nm,⟨l.length,0,by omega,by omega,rfl,rfl,fun j s hj=>by omega⟩, ?_⟩
 rintro m _ _ ⟨k,hk,rfl,rfl,rfl,hall⟩
 refine Br.mk (fun q=> ?_) (fun q=> ?_)
 ·have hlt:k<l.length:=by have:=of_decide_eq_true q;omega
  obtain ⟨s,hs⟩ : ∃ s,l[k]?=some s:=⟨_,List.getElem?_eq_getElem hlt⟩
  obtain ⟨ad,F,fc,K,kc,eA,hld,_,_⟩:=u.get hs
  refine ⟨ad,eA,by omega,by omega,_,_,_,_,_,_,_,_,by rw [Int.toNat_natCast];exact hld, ?_⟩
  rw [bytes_toList,bytes_toList]
  refine Br.mk (fun q2=>⟨?_,rfl⟩) (fun q2=> ?_)
  ·have:defV l nm=true:=by
    unfold defV
    rw [List.any_eq_true]
    exact ⟨s,List.mem_of_getElem? hs,by rw [beq_iff_eq.1 q2];simp⟩
   rw [this]
  ·rintro _ rfl
   refine ⟨l.length-(k+1),by omega,k+1,by omega,rfl,wi (by omega) (by omega),rfl,fun j y hj hy=> ?_⟩
   rcases Nat.lt_succ_iff_lt_or_eq.1 hj with q | q
   ·exact hall j y q hy
   ·subst q
    rw [hs] at hy
    cases hy
    exact beq_eq_false_iff_ne.1 q2
 ·have hk' : k=l.length:=by have:=of_decide_eq_false q;omega
  rw [defV_take hall hk']
  exact ⟨rfl,rfl⟩
def chkNm (l:List Stp) (s:Stp):Int:=if defV l s.name then 7 else if s.frm.all fun x=>defV l x then 0 else 6
theorem drNames_c {h:Heap} {A:Option Addr} {n c:Nat} {l:List Stp} (u:StpS h A n c l) (hn:n<=1000000) {s:Stp} {F:Option Addr} {fc:Nat} {K:Option Addr} {kn kc:Nat} (uf:Sl sv h F s.frm.length fc s.frm) (hf:s.frm.length<=1000000) :
  CallsU Tryz.prog 49 [.slice A n c,.agg #[sv s.name,.int .i64 s.kind,.slice F s.frm.length fc,.slice K kn kc]] h fun r h' => r = .int .i64 (chkNm l s)/\h=h' := by
 apply draft_checkNames_ok
 refine (drDefined_c u hn s.name).mono ?_
 rintro _ _ ⟨rfl,rfl⟩
 unfold chkNm
 refine ⟨_,rfl,Br.mk (fun q=> ?_) (fun q=> ?_)⟩
 ·rw [if_pos q];exact ⟨rfl,rfl⟩
 rw [if_neg (by rw [q];decide)]
 refine ⟨fun m i h' => ∃ k,k<=s.frm.length/\m=s.frm.length-k/\i=(k:Int)/\h=h' /\ ∀ j x,j<k->s.frm[j]?=some x->defV l x=true,⟨s.frm.length,0,by omega,by omega,rfl,rfl,fun j x hj=>by omega⟩, ?_⟩
 rintro m _ _ ⟨k,hk,rfl,rfl,rfl,hall⟩
 refine Br.mk (fun q1=> ?_) (fun q1=> ?_)
 ·have hlt:k<s.frm.length:=by have:=of_decide_eq_true q1;omega
  obtain ⟨x,hx⟩ : ∃ x,s.frm[k]?=some x:=⟨_,List.getElem?_eq_getElem hlt⟩
  obtain ⟨ad,eA,hld⟩:=uf.get hx
  refine ⟨ad,eA,by omega,by omega,_,by rw [Int.toNat_natCast];exact hld,(drDefined_c u hn x).mono ?_⟩
  rintro _ _ ⟨rfl,rfl⟩
  refine ⟨_,rfl,Br.mk (fun q2=> ?_) (fun q2=> ?_)⟩
  ·have hd:defV l x=false:=by simpa using q2
   rw [if_neg]
   ·exact ⟨rfl,rfl⟩
   ·intro ha
    have:=List.all_eq_true.1 ha x (List.mem_of_getElem? hx)
    rw [hd] at this
    cases this
  ·have hd:defV l x=true:=by simpa using q2
   rintro _ rfl
   refine ⟨s.frm.length-(k+1),by omega,k+1,by omega,rfl,wi (by omega) (by omega),rfl,fun j y hj hy=> ?_⟩
   rcases Nat.lt_succ_iff_lt_or_eq.1 hj with q | q
   ·exact hall j y q hy
   ·subst q
    rw [hx] at hy
    cases hy
    exact hd
 ·have hk' : k=s.frm.length:=by have:=of_decide_eq_false q1;omega
  rw [if_pos]
  ·exact ⟨rfl,rfl⟩
  ·rw [List.all_eq_true]
   intro x hx
   obtain ⟨j,hj⟩:=List.getElem?_of_mem hx
   exact hall j x (by rw [hk'];exact (List.getElem?_eq_some_iff.1 hj).1) hj
def frCells:List Value:=[sv [],.int .i64 0,sv [],.int .i64 0,sv [97,116],.int .i64 0,sv [],.int .i64 2,sv [102,114,111,109],.int .i64 1,sv [98,121],.int .i64 2,sv [111,110],.int .i64 2,sv [97,116],.int .i64 1,sv [109,101,101,116],.int .i64 4,sv [],.int .i64 0,sv [102,111,111,116],.int .i64 3,sv [],.int .i64 0,sv [109,105,114,114,111,114],.int .i64 3,sv [],.int .i64 0]
def Frms (h:Heap):Prop:= ∃ b:Blk,h 0=some b/\b.cells=frCells
theorem Frms.mono {h h' : Heap} (t:Frms h) (l:Le h h'):Frms h' := let ⟨b,a,c⟩:=t;⟨b,l _ _ a,c⟩
def frN (k:Int):Int:=if k=2 then 1 else if k=3 then 2 else if k=4 then 4 else if k=5\/k=6 then 3 else 0
def nuN (k:Int):Int:=if k=1\/k=2 then 2 else if k=3 then 1 else 0
def wdN (k:Int):List UInt8:=if k=1 then [97,116] else if k=2 then [102,114,111,109] else if k=3 then [111,110] else if k=4 then [109,101,101,116] else if k=5 then [102,111,111,116] else if k=6 then [109,105,114,114,111,114] else []
def lkN (k:Int):List UInt8:=if k=2 then [98,121] else if k=3 then [97,116] else []
theorem Frms.row {h:Heap} (t:Frms h) {k:Int} (h1:0<=k) (h2:k<=6):LdN h (Addr.add ⟨0,0,none⟩ (Int.toNat k*4)) [sv (wdN k),.int .i64 (frN k),sv (lkN k),.int .i64 (nuN k)]:=by
 obtain ⟨b,hb,hc⟩:=t
 have hk:k=0\/k=1\/k=2\/k=3\/k=4\/k=5\/k=6:=by omega
 refine LdN_of (ad:=⟨0,0,none⟩) rfl hb rfl ?_
 rw [hc]
 rcases hk with rfl | rfl | rfl | rfl | rfl | rfl | rfl<;>rfl
theorem LdN.cell {h:Heap} {p:Addr} {vs:List Value} (u:LdN h p vs) {i:Nat} {v:Value} (hv:vs[i]?=some v):LdN h (p.add i) [v]:=by
 obtain ⟨sp,b,hb,hc⟩:=u
 refine ld_of sp hb ?_
 have hi:=(List.getElem?_eq_some_iff.1 hv).1
 rw [<- hc,List.getElem?_take_of_lt hi,List.getElem?_drop] at hv
 exact hv
def chkFm (s:Stp):Int:=if isPointV s.name&&decide (1<=s.kind/\s.kind<=6)&&decide ((s.frm.length:Int)=frN s.kind/\(s.nums.length:Int)=nuN s.kind) then chkL s.nums 1 else 1
theorem drForm_c {h:Heap} {s:Stp} {F:Option Addr} {fc:Nat} {K:Option Addr} {kc:Nat} (uk:IsK h K s.nums.length kc s.nums) (z:SzS s) (t:Frms h) :
  CallsU Tryz.prog 64 [.agg #[sv s.name,.int .i64 s.kind,.slice F s.frm.length fc,.slice K s.nums.length kc]] h fun r h' => r = .int .i64 (chkFm s)/\Le h h' := by
 obtain ⟨z1,z2,z3,z4,z5⟩:=z
 apply draft_checkForm_ok
 unfold chkFm
 refine ⟨fun t h' => h=h' /\ t = !(isPointV s.name&&decide (1<=s.kind/\s.kind<=6)), ?_, ?_⟩
 ·rintro _ _ ⟨rfl,rfl⟩
  refine Br.mk (fun q=> ?_) (fun q=> ?_)
  ·have:(isPointV s.name&&decide (1<=s.kind/\s.kind<=6))=false:=by rw [Bool.not_eq_true'] at q;exact q
   rw [this]
   exact ⟨rfl,Le.refl _⟩
  ·have hp:(isPointV s.name&&decide (1<=s.kind/\s.kind<=6))=true:=by rw [Bool.not_eq_false'] at q;exact q
   rw [hp,Bool.true_and]
   rw [Bool.and_eq_true,decide_eq_true_eq] at hp
   obtain ⟨hp1,hk1,hk6⟩:=hp
   have row:=t.row (by omega:(0:Int)<=s.kind) hk6
   refine ⟨fun t h' => h=h' /\ t = !decide ((s.frm.length:Int)=frN s.kind/\(s.nums.length:Int)=nuN s.kind), ?_,by omega,by omega,_,LdN.cell row (i:=1) rfl, ?_⟩
   ·rintro _ _ ⟨rfl,rfl⟩
    refine Br.mk (fun q=> ?_) (fun q=> ?_)
    ·have:decide ((s.frm.length:Int)=frN s.kind/\(s.nums.length:Int)=nuN s.kind)=false:=by rw [Bool.not_eq_true'] at q;exact q
     rw [this]
     exact ⟨rfl,Le.refl _⟩
    ·have hd:decide ((s.frm.length:Int)=frN s.kind/\(s.nums.length:Int)=nuN s.kind)=true:=by rw [Bool.not_eq_false'] at q;exact q
     rw [hd,if_pos rfl]
     refine ⟨fun m i h' => ∃ k,k<=s.nums.length/\m=s.nums.length-k/\i=(k:Int)/\Le h h' /\ ∀ j e,j<k->s.nums[j]?=some e->chkV e 1=0,⟨s.nums.length,0,by omega,by omega,rfl,Le.refl _,fun j e hj=>by omega⟩, ?_⟩
     rintro m _ h1 ⟨k,hk,rfl,rfl,hle,hall⟩
     refine Br.mk (fun q1=> ?_) (fun q1=> ?_)
     ·have hlt:k<s.nums.length:=by have:=of_decide_eq_true q1;omega
      obtain ⟨x,hx⟩ : ∃ x,s.nums[k]?=some x:=⟨_,List.getElem?_eq_getElem hlt⟩
      obtain ⟨ad,vs,eA,hld,ux⟩:=(uk.mono hle).get hx
      have ux' := ux
      obtain ⟨sx,Ax,cx,Bx,dx,Kx,kcx,rfl,_,_,_⟩:=ux'.open
      refine ⟨ad,eA,by omega,by omega,_,_,_,_,_,_,_,_,_,_,_,_,by rw [Int.toNat_natCast];exact hld,(foChk_c ux (SzsL.get z4 hx)).mono ?_⟩
      rintro _ h2 ⟨rfl,hl2⟩
      refine ⟨_,rfl,Br.mk (fun q2=> ?_) (fun q2=> ?_)⟩
      ·have hne:chkV x 1≠0:=by simpa using q2
       have e1:=chkL_get s.nums 1 k hall
       rw [e1,List.drop_eq_getElem_cons hlt,chkL]
       have ex:s.nums[k]=x:=by rw [List.getElem?_eq_getElem hlt] at hx;exact Option.some.inj hx
       rw [ex,if_neg hne]
       exact ⟨rfl,hle.trans hl2⟩
      ·have h0:chkV x 1=0:=by simpa using q2
       rintro _ rfl
       refine ⟨s.nums.length-(k+1),by omega,k+1,by omega,rfl,wi (by omega) (by omega),hle.trans hl2,fun j y hj hy=> ?_⟩
       rcases Nat.lt_succ_iff_lt_or_eq.1 hj with q | q
       ·exact hall j y q hy
       ·subst q
        rw [hx] at hy
        cases hy
        exact h0
     ·have hk' : k=s.nums.length:=by have:=of_decide_eq_false q1;omega
      have e1:=chkL_get s.nums 1 k hall
      rw [hk', List.drop_length,chkL] at e1
      rw [e1]
      exact ⟨rfl,hle⟩
   ·refine Br.mk (fun q1=>⟨rfl, ?_⟩) (fun q1=>⟨by omega,by omega,_,LdN.cell row (i:=3) rfl,rfl, ?_⟩)
    ·have:(s.frm.length:Int)≠frN s.kind:=by simpa using q1
     rw [decide_eq_false (fun q=>this q.1)];rfl
    ·have h1:(s.frm.length:Int)=frN s.kind:=by simpa using q1
     rw [Bool.eq_iff_iff,bne_iff_ne,Bool.not_eq_true', decide_eq_false_iff_not]
     exact ⟨fun h q=>h q.2,fun h q=>h ⟨h1,q⟩⟩
 ·refine (drPoint_c s.name (by omega) h).mono ?_
  rintro _ _ ⟨rfl,rfl⟩
  refine ⟨_,rfl,Br.mk (fun q=>⟨rfl, ?_⟩) (fun q=> ?_)⟩
  ·have:isPointV s.name=false:=by simpa using q
   rw [this];rfl
  ·have hp:isPointV s.name=true:=by simpa using q
   rw [hp,Bool.true_and]
   refine Br.mk (fun q1=>⟨rfl, ?_⟩) (fun q1=>⟨rfl, ?_⟩)
   ·have:=of_decide_eq_true q1
    rw [decide_eq_false (by omega)];rfl
   ·have:=of_decide_eq_false q1
    rw [Bool.eq_iff_iff,decide_eq_true_eq,Bool.not_eq_true', decide_eq_false_iff_not]
    omega
def chkFr (l:List Stp):Nat->Nat->Int×Nat
 | 0,_=>(0,0)
 | f+1,i=>match l[i]? with
  | none=>(0,0)
  | some s=>if chkFm s=0 then (if chkNm (l.take i) s=0 then chkFr l f (i+1) else (chkNm (l.take i) s,i)) else (chkFm s,i)
def checkV (l:List Stp):Int×Nat:=if 64<l.length then (5,64) else chkFr l l.length 0
theorem drCheck_c {h:Heap} {A:Option Addr} {n c:Nat} {l:List Stp} (u:StpS h A n c l) (hn:n<=1000000) (z:n<=64->SzSs l) (t:Frms h) :
  CallsU Tryz.prog 31 [.slice A n c] h fun r h' => r = .tuple #[.int .i64 (checkV l).1,.int .i64 ((checkV l).2:Int)]/\Le h h' := by
 apply draft_check_ok
 have hlen:=u.len
 have hcap:=u.cap
 unfold checkV
 refine Br.mk (fun q=> ?_) (fun q=> ?_)
 ·have:=of_decide_eq_true q
  rw [if_pos (by omega)]
  exact ⟨rfl,Le.refl _⟩
 have hn64:n<=64:=by have:=of_decide_eq_false q;omega
 rw [if_neg (by omega)]
 refine ⟨fun m i h' => ∃ k,k<=l.length/\m=l.length-k/\i=(k:Int)/\Le h h' /\ chkFr l l.length 0=chkFr l (l.length-k) k,⟨l.length,0,by omega,by omega,rfl,Le.refl _,by simp⟩, ?_⟩
 rintro m _ h1 ⟨k,hk,rfl,rfl,hle,heq⟩
 refine Br.mk (fun q1=> ?_) (fun q1=> ?_)
 ·have hlt:k<l.length:=by have:=of_decide_eq_true q1;omega
  obtain ⟨s,hs⟩ : ∃ s,l[k]?=some s:=⟨_,List.getElem?_eq_getElem hlt⟩
  have u1:=u.mono hle
  obtain ⟨ad,F,fc,K,kc,eA,hld,uf,uk⟩:=u1.get hs
  have zs:=z hn64 s (List.mem_of_getElem? hs)
  have ek:l.length-k=(l.length-(k+1))+1:=by omega
  rw [ek,chkFr,hs] at heq
  simp only at heq
  refine ⟨ad,eA,by omega,by omega,_,_,_,_,_,_,_,_,by rw [Int.toNat_natCast];exact hld,(drForm_c uk zs (t.mono hle)).mono ?_⟩
  rintro _ h2 ⟨rfl,hl2⟩
  refine ⟨_,rfl,Br.mk (fun q2=> ?_) (fun q2=> ?_)⟩
  ·have h0:chkFm s=0:=beq_iff_eq.1 q2
   rw [if_pos h0] at heq
   refine ⟨by omega,by omega, ?_⟩
   rw [Int.toNat_natCast]
   have z2:=zs.2.1
   refine (drNames_c ((u1.mono hl2).take (m:=k) (by omega)) (by omega) (uf.mono hl2) (by omega)).mono ?_
   rintro _ _ ⟨rfl,rfl⟩
   refine ⟨_,rfl,Br.mk (fun q3=> ?_) (fun q3=> ?_)⟩
   ·have hne:chkNm (l.take k) s≠0:=by simpa using q3
    rw [if_neg hne] at heq
    rw [heq]
    exact ⟨rfl,hle.trans hl2⟩
   ·have h3:chkNm (l.take k) s=0:=by simpa using q3
    rw [if_pos h3] at heq
    rintro _ rfl
    exact ⟨l.length-(k+1),by omega,k+1,by omega,rfl,wi (by omega) (by omega),hle.trans hl2,heq⟩
  ·have h0:chkFm s≠0:=beq_eq_false_iff_ne.1 q2
   rw [if_neg h0] at heq
   refine Br.mk (fun _=> ?_) (fun q3=>absurd (bne_eq_false_iff_eq.1 q3) h0)
   rw [heq]
   exact ⟨rfl,hle.trans hl2⟩
 ·have hk' : k=l.length:=by have:=of_decide_eq_false q1;omega
  rw [hk', Nat.sub_self,chkFr] at heq
  rw [heq]
  exact ⟨rfl,hle⟩
theorem drChk_c {h:Heap} {A:Option Addr} {n c:Nat} {l:List Stp} (u:StpS h A n c l) (hn:n<=1000000) (z:n<=64->SzSs l) (t:Frms h) :
  CallsU Tryz.prog 13 [.slice A n c] h fun r h' => r = .int .i64 (checkV l).1/\Le h h' := by
 apply draft_Check_ok
 refine (drCheck_c u hn z t).mono ?_
 rintro _ h1 ⟨rfl,hl⟩
 exact ⟨_,_,rfl,rfl,hl⟩
structure QC where
 s:Bool
 A:Option Addr
 n:Nat
 c:Nat
 B:Option Addr
 m:Nat
 d:Nat
abbrev qv (x:QC):Value:= .agg #[.bool x.s,.slice x.A x.n x.c,.slice x.B x.m x.d]
abbrev pv (x y:QC):Value:= .agg #[.bool x.s,.slice x.A x.n x.c,.slice x.B x.m x.d,.bool y.s,.slice y.A y.n y.c,.slice y.B y.m y.d]
abbrev zP:Value:= .agg #[.bool false,.slice none 0 0,.slice none 0 0,.bool false,.slice none 0 0,.slice none 0 0]
def QB (h:Heap) (k:Nat) (q:Rat) (x:QC):Prop:=NmQ h x.s x.A x.n x.c x.B x.m x.d q/\x.n<=k/\x.m<=k
def PB (h:Heap) (k:Nat) (p:Rat×Rat) (x y:QC):Prop:=QB h k p.1 x/\QB h k p.2 y
theorem QB.mono {h h' : Heap} {k:Nat} {q:Rat} {x:QC} (u:QB h k q x) (l:Le h h'):QB h' k q x:=⟨u.1.mono l,u.2⟩
theorem QB.le {h:Heap} {k k' : Nat} {q:Rat} {x:QC} (u:QB h k q x) (l:k<=k'):QB h k' q x:=⟨u.1,Nat.le_trans u.2.1 l,Nat.le_trans u.2.2 l⟩
theorem PB.mono {h h' : Heap} {k:Nat} {p:Rat×Rat} {x y:QC} (u:PB h k p x y) (l:Le h h'):PB h' k p x y:=⟨u.1.mono l,u.2.mono l⟩
theorem PB.le {h:Heap} {k k' : Nat} {p:Rat×Rat} {x y:QC} (u:PB h k p x y) (l:k<=k'):PB h k' p x y:=⟨u.1.le l,u.2.le l⟩
def ptAdd (a b:Rat×Rat):Rat×Rat:=(a.1+b.1,a.2+b.2)
def ptSub (a b:Rat×Rat):Rat×Rat:=(a.1-b.1,a.2-b.2)
def ptScale (a:Rat×Rat) (r:Rat):Rat×Rat:=(a.1*r,a.2*r)
def ptDot (a b:Rat×Rat):Rat:=a.1*b.1+a.2*b.2
def ptCross (a b:Rat×Rat):Rat:=a.1*b.2-a.2*b.1
def ptOn (a b:Rat×Rat) (t:Rat):Rat×Rat:=ptAdd a (ptScale (ptSub b a) t)
def ptMeet (a b c d:Rat×Rat):Except Int (Rat×Rat):=if ptCross (ptSub b a) (ptSub d c)=0 then .error 10 else .ok (ptOn a b (ptCross (ptSub c a) (ptSub d c)/ptCross (ptSub b a) (ptSub d c)))
def ptFoot (p a b:Rat×Rat):Except Int (Rat×Rat):=if ptDot (ptSub b a) (ptSub b a)=0 then .error 10 else .ok (ptOn a b (ptDot (ptSub p a) (ptSub b a)/ptDot (ptSub b a) (ptSub b a)))
def ptMirror (p a b:Rat×Rat):Except Int (Rat×Rat):=match ptFoot p a b with
 | .error e=> .error e
 | .ok f=> .ok (ptSub (ptAdd f f) p)
def PtR (o:Except Int (Rat×Rat)) (k:Nat) (r:Value) (h' : Heap):Prop:=
 match o with
 | .ok p=> ∃ z z', r = .tuple #[pv z z', .int .i64 0]/\PB h' k p z z'
 | .error e=>r = .tuple #[zP,.int .i64 e]
theorem PtR.le {o:Except Int (Rat×Rat)} {k k' : Nat} {r:Value} {h:Heap} (u:PtR o k r h) (l:k<=k'):PtR o k' r h:=by
 cases o with
 | error e=>exact u
 | ok p=>
  obtain ⟨z,z', e,w⟩:=u
  exact ⟨z,z', e,w.le l⟩
theorem PtR.shape {o:Except Int (Rat×Rat)} {k:Nat} {r:Value} {h:Heap} (u:PtR o k r h) : ∃ (a0:Bool) (a1:Option Addr) (a2 a3:Nat) (a4:Option Addr) (a5 a6:Nat) (b0:Bool) (b1:Option Addr) (b2 b3:Nat) (b4:Option Addr) (b5 b6:Nat) (er:Int),r = .tuple #[.agg #[.bool a0,.slice a1 a2 a3,.slice a4 a5 a6,.bool b0,.slice b1 b2 b3,.slice b4 b5 b6],.int .i64 er]:=by
 cases o with
 | error e=>exact ⟨_,_,_,_,_,_,_,_,_,_,_,_,_,_,e,u⟩
 | ok p=>
  obtain ⟨z,z', e,_⟩:=u
  exact ⟨_,_,_,_,_,_,_,_,_,_,_,_,_,_,0,e⟩
def DivR (q p:Rat) (k:Nat) (r:Value) (h' : Heap):Prop:=(p=0/\r = .tuple #[.agg #[.bool false,.slice none 0 0,.slice none 0 0],.bool false])\/(p≠0/\ ∃ z,r = .tuple #[qv z,.bool true]/\QB h' k (q/p) z)
theorem pqadd_c {h:Heap} {k k' : Nat} {q p:Rat} {x y:QC} (u:QB h k q x) (w:QB h k' p y) (hk:k<=60000000) (hk' : k' <= 60000000):CallsU Tryz.prog 40 [qv x,qv y] h fun r h' => ∃ z,r=qv z/\QB h' (k+k' + 8) (q+p) z/\Le h h' := by
 obtain ⟨u1,u2,u3⟩:=u
 obtain ⟨w1,w2,w3⟩:=w
 refine (radd_b u1.is w1.is (by omega) (by omega) (by omega) (by omega)).mono ?_
 rintro _ h1 ⟨s,A,n,c,B,m,d,rfl,hN,a,b,hl⟩
 exact ⟨⟨s,A,n,c,B,m,d⟩,rfl,⟨hN,by simp only;omega,by simp only;omega⟩,hl⟩
theorem pqsub_c {h:Heap} {k k' : Nat} {q p:Rat} {x y:QC} (u:QB h k q x) (w:QB h k' p y) (hk:k<=60000000) (hk' : k' <= 60000000):CallsU Tryz.prog 198 [qv x,qv y] h fun r h' => ∃ z,r=qv z/\QB h' (k+k' + 8) (q-p) z/\Le h h' := by
 obtain ⟨u1,u2,u3⟩:=u
 obtain ⟨w1,w2,w3⟩:=w
 refine (rsub_c u1.is w1.is (by omega) (by omega) (by omega) (by omega)).mono ?_
 rintro _ h1 ⟨s,A,n,c,B,m,d,rfl,hN,a,b,hl⟩
 exact ⟨⟨s,A,n,c,B,m,d⟩,rfl,⟨hN,by simp only;omega,by simp only;omega⟩,hl⟩
theorem pqmul_c {h:Heap} {k k' : Nat} {q p:Rat} {x y:QC} (u:QB h k q x) (w:QB h k' p y) (hk:k<=60000000) (hk' : k' <= 60000000):CallsU Tryz.prog 199 [qv x,qv y] h fun r h' => ∃ z,r=qv z/\QB h' (k+k' + 8) (q*p) z/\Le h h' := by
 obtain ⟨u1,u2,u3⟩:=u
 obtain ⟨w1,w2,w3⟩:=w
 refine (rmul_c u1.is w1.is (by omega) (by omega) (by omega) (by omega)).mono ?_
 rintro _ h1 ⟨s,A,n,c,B,m,d,rfl,hN,a,b,hl⟩
 exact ⟨⟨s,A,n,c,B,m,d⟩,rfl,⟨hN,by simp only;omega,by simp only;omega⟩,hl⟩
theorem pqdiv_c {h:Heap} {k k' : Nat} {q p:Rat} {x y:QC} (u:QB h k q x) (w:QB h k' p y) (hk:k<=60000000) (hk' : k' <= 60000000):CallsU Tryz.prog 129 [qv x,qv y] h fun r h' => DivR q p (k+k' + 8) r h' /\ Le h h' := by
 obtain ⟨u1,u2,u3⟩:=u
 obtain ⟨w1,w2,w3⟩:=w
 refine (rdiv_c u1.is w1.is (by omega) (by omega) (by omega) (by omega)).mono ?_
 rintro _ h1 ⟨(⟨h0,rfl⟩ | ⟨h0,s,A,n,c,B,m,d,rfl,hN,a,b⟩),hl⟩
 ·exact ⟨Or.inl ⟨h0,rfl⟩,hl⟩
 ·exact ⟨Or.inr ⟨h0,⟨s,A,n,c,B,m,d⟩,rfl,hN,by simp only;omega,by simp only;omega⟩,hl⟩
theorem padd_c {h:Heap} {k k' : Nat} {p p' : Rat×Rat} {x y x' y' : QC} (u:PB h k p x y) (w:PB h k' p' x' y') (hk:k<=60000000) (hk' : k' <= 60000000):CallsU Tryz.prog 18 [pv x y,pv x' y'] h fun r h' => ∃ z z', r=pv z z' /\ PB h' (k+k' + 8) (ptAdd p p') z z' /\ Le h h' := by
 apply point_Add_ok
 refine (pqadd_c u.1 w.1 hk hk').mono ?_
 rintro _ h1 ⟨z,rfl,uz,l1⟩
 refine ⟨_,_,_,_,_,_,_,rfl,l1,(pqadd_c (u.2.mono l1) (w.2.mono l1) hk hk').mono ?_⟩
 rintro _ h2 ⟨z', rfl,uz', l2⟩
 exact ⟨_,_,_,_,_,_,_,rfl,z,z', rfl,⟨uz.mono l2,uz'⟩,l1.trans l2⟩
theorem psub_c {h:Heap} {k k' : Nat} {p p' : Rat×Rat} {x y x' y' : QC} (u:PB h k p x y) (w:PB h k' p' x' y') (hk:k<=60000000) (hk' : k' <= 60000000):CallsU Tryz.prog 128 [pv x y,pv x' y'] h fun r h' => ∃ z z', r=pv z z' /\ PB h' (k+k' + 8) (ptSub p p') z z' /\ Le h h' := by
 apply point_Sub_ok
 refine (pqsub_c u.1 w.1 hk hk').mono ?_
 rintro _ h1 ⟨z,rfl,uz,l1⟩
 refine ⟨_,_,_,_,_,_,_,rfl,l1,(pqsub_c (u.2.mono l1) (w.2.mono l1) hk hk').mono ?_⟩
 rintro _ h2 ⟨z', rfl,uz', l2⟩
 exact ⟨_,_,_,_,_,_,_,rfl,z,z', rfl,⟨uz.mono l2,uz'⟩,l1.trans l2⟩
theorem pscale_c {h:Heap} {k k' : Nat} {p:Rat×Rat} {r:Rat} {x y z0:QC} (u:PB h k p x y) (w:QB h k' r z0) (hk:k<=60000000) (hk' : k' <= 60000000):CallsU Tryz.prog 127 [pv x y,qv z0] h fun r' h' => ∃ z z', r' = pv z z' /\ PB h' (k+k' + 8) (ptScale p r) z z' /\ Le h h' := by
 apply point_Scale_ok
 refine (pqmul_c u.1 w hk hk').mono ?_
 rintro _ h1 ⟨z,rfl,uz,l1⟩
 refine ⟨_,_,_,_,_,_,_,rfl,l1,(pqmul_c (u.2.mono l1) (w.mono l1) hk hk').mono ?_⟩
 rintro _ h2 ⟨z', rfl,uz', l2⟩
 exact ⟨_,_,_,_,_,_,_,rfl,z,z', rfl,⟨uz.mono l2,uz'⟩,l1.trans l2⟩
theorem pdot_c {h:Heap} {k k' : Nat} {p p' : Rat×Rat} {x y x' y' : QC} (u:PB h k p x y) (w:PB h k' p' x' y') (hk:k+k' <= 50000000):CallsU Tryz.prog 131 [pv x y,pv x' y'] h fun r h' => ∃ z,r=qv z/\QB h' (2*k+2*k' + 24) (ptDot p p') z/\Le h h' := by
 apply point_Dot_ok
 refine (pqmul_c u.1 w.1 (by omega) (by omega)).mono ?_
 rintro _ h1 ⟨z,rfl,uz,l1⟩
 refine ⟨_,_,_,_,_,_,_,rfl,l1,(pqmul_c (u.2.mono l1) (w.2.mono l1) (by omega) (by omega)).mono ?_⟩
 rintro _ h2 ⟨z', rfl,uz', l2⟩
 refine ⟨_,_,_,_,_,_,_,rfl,(pqadd_c (uz.mono l2) uz' (by omega) (by omega)).mono ?_⟩
 rintro _ h3 ⟨z2,rfl,uz2,l3⟩
 exact ⟨_,_,_,_,_,_,_,rfl,z2,rfl,uz2.le (by omega),(l1.trans l2).trans l3⟩
theorem pcross_c {h:Heap} {k k' : Nat} {p p' : Rat×Rat} {x y x' y' : QC} (u:PB h k p x y) (w:PB h k' p' x' y') (hk:k+k' <= 50000000):CallsU Tryz.prog 130 [pv x y,pv x' y'] h fun r h' => ∃ z,r=qv z/\QB h' (2*k+2*k' + 24) (ptCross p p') z/\Le h h' := by
 apply point_Cross_ok
 refine (pqmul_c u.1 w.2 (by omega) (by omega)).mono ?_
 rintro _ h1 ⟨z,rfl,uz,l1⟩
 refine ⟨_,_,_,_,_,_,_,rfl,l1,(pqmul_c (u.2.mono l1) (w.1.mono l1) (by omega) (by omega)).mono ?_⟩
 rintro _ h2 ⟨z', rfl,uz', l2⟩
 refine ⟨_,_,_,_,_,_,_,rfl,(pqsub_c (uz.mono l2) uz' (by omega) (by omega)).mono ?_⟩
 rintro _ h3 ⟨z2,rfl,uz2,l3⟩
 exact ⟨_,_,_,_,_,_,_,rfl,z2,rfl,uz2.le (by omega),(l1.trans l2).trans l3⟩
theorem pon_c {h:Heap} {k k' : Nat} {a b:Rat×Rat} {t:Rat} {x y x' y' z0:QC} (u:PB h k a x y) (w:PB h k b x' y') (ut:QB h k' t z0) (hk:k<=10000000) (hk' : k' <= 30000000):CallsU Tryz.prog 73 [pv x y,pv x' y', qv z0] h fun r h' => ∃ z z', r=pv z z' /\ PB h' (3*k+k' + 24) (ptOn a b t) z z' /\ Le h h' := by
 apply point_On_ok
 refine (psub_c w u (by omega) (by omega)).mono ?_
 rintro _ h1 ⟨z1,z2,rfl,u1,l1⟩
 refine ⟨_,_,_,_,_,_,_,_,_,_,_,_,_,_,rfl,l1,(pscale_c u1 (ut.mono l1) (by omega) (by omega)).mono ?_⟩
 rintro _ h2 ⟨z3,z4,rfl,u2,l2⟩
 refine ⟨_,_,_,_,_,_,_,_,_,_,_,_,_,_,rfl,l2,(padd_c (u.mono (l1.trans l2)) u2 (by omega) (by omega)).mono ?_⟩
 rintro _ h3 ⟨z5,z6,rfl,u3,l3⟩
 exact ⟨_,_,_,_,_,_,_,_,_,_,_,_,_,_,rfl,z5,z6,rfl,u3.le (by omega),(l1.trans l2).trans l3⟩
theorem pfoot_c {h:Heap} {k:Nat} {p a b:Rat×Rat} {x y x' y' x2 y2:QC} (up:PB h k p x y) (ua:PB h k a x' y') (ub:PB h k b x2 y2) (hk:k<=500000):CallsU Tryz.prog 75 [pv x y,pv x' y', pv x2 y2] h fun r h' => PtR (ptFoot p a b) (32*k+1000) r h' /\ Le h h' := by
 apply point_Foot_ok
 refine (psub_c ub ua (by omega) (by omega)).mono ?_
 rintro _ h1 ⟨z1,z2,rfl,u1,l1⟩
 refine ⟨_,_,_,_,_,_,_,_,_,_,_,_,_,_,rfl,(psub_c (up.mono l1) (ua.mono l1) (by omega) (by omega)).mono ?_⟩
 rintro _ h2 ⟨z3,z4,rfl,u2,l2⟩
 refine ⟨_,_,_,_,_,_,_,_,_,_,_,_,_,_,rfl,l2,(pdot_c u2 (u1.mono l2) (by omega)).mono ?_⟩
 rintro _ h3 ⟨z5,rfl,u3,l3⟩
 refine ⟨_,_,_,_,_,_,_,rfl,l3,(pdot_c ((u1.mono l2).mono l3) ((u1.mono l2).mono l3) (by omega)).mono ?_⟩
 rintro _ h4 ⟨z6,rfl,u4,l4⟩
 refine ⟨_,_,_,_,_,_,_,rfl,(pqdiv_c (u3.mono l4) u4 (by omega) (by omega)).mono ?_⟩
 rintro _ h5 ⟨hd,l5⟩
 have l15:=(((l1.trans l2).trans l3).trans l4).trans l5
 unfold ptFoot
 rcases hd with ⟨h0,rfl⟩ | ⟨h0,z7,rfl,u5⟩
 ·refine ⟨_,_,_,_,_,_,_,_,rfl,Br.mk (fun _=> ?_) (fun q=>by cases q)⟩
  rw [if_pos h0]
  exact ⟨rfl,l15⟩
 ·refine ⟨_,_,_,_,_,_,_,_,rfl,Br.mk (fun q=>by cases q) (fun _=>(pon_c (ua.mono l15) (ub.mono l15) u5 (by omega) (by omega)).mono ?_)⟩
  rintro _ h6 ⟨z8,z9,rfl,u6,l6⟩
  rw [if_neg h0]
  exact ⟨_,_,_,_,_,_,_,_,_,_,_,_,_,_,rfl,⟨z8,z9,rfl,u6.le (by omega)⟩,l15.trans l6⟩
theorem pmirror_c {h:Heap} {k:Nat} {p a b:Rat×Rat} {x y x' y' x2 y2:QC} (up:PB h k p x y) (ua:PB h k a x' y') (ub:PB h k b x2 y2) (hk:k<=500000):CallsU Tryz.prog 76 [pv x y,pv x' y', pv x2 y2] h fun r h' => PtR (ptMirror p a b) (65*k+2100) r h' /\ Le h h' := by
 apply point_Mirror_ok
 refine (pfoot_c up ua ub hk).mono ?_
 rintro _ h1 ⟨hf,l1⟩
 unfold ptMirror
 cases ho:ptFoot p a b with
 | error e=>
  rw [ho] at hf
  have he:e=10:=by
   unfold ptFoot at ho
   split at ho
   ·cases ho;rfl
   ·cases ho
  subst he
  cases hf
  exact ⟨_,_,_,_,_,_,_,_,_,_,_,_,_,_,_,rfl,Br.mk (fun _=>⟨rfl,l1⟩) (fun q=>by exact absurd q (by decide))⟩
 | ok f=>
  rw [ho] at hf
  obtain ⟨z1,z2,rfl,u1⟩:=hf
  refine ⟨_,_,_,_,_,_,_,_,_,_,_,_,_,_,_,rfl,Br.mk (fun q=>by exact absurd q (by decide)) (fun _=>(padd_c u1 u1 (by omega) (by omega)).mono ?_)⟩
  rintro _ h2 ⟨z3,z4,rfl,u2,l2⟩
  refine ⟨_,_,_,_,_,_,_,_,_,_,_,_,_,_,rfl,l2,(psub_c u2 (up.mono (l1.trans l2)) (by omega) (by omega)).mono ?_⟩
  rintro _ h3 ⟨z5,z6,rfl,u3,l3⟩
  exact ⟨_,_,_,_,_,_,_,_,_,_,_,_,_,_,rfl,⟨z5,z6,rfl,u3.le (by omega)⟩,(l1.trans l2).trans l3⟩
theorem r8qadd_c {h:Heap} {k k' : Nat} {q p:Rat} {x y:QC} (u:QB h k q x) (w:QB h k' p y) (hk:k<=60000000) (hk' : k' <= 60000000):CallsU Tryz.prog 68 [qv x,qv y] h fun r h' => ∃ z,r=qv z/\QB h' (k+k' + 8) (q+p) z/\Le h h' := by
 obtain ⟨u1,u2,u3⟩:=u
 obtain ⟨w1,w2,w3⟩:=w
 refine (r3add_b u1.is w1.is (by omega) (by omega) (by omega) (by omega)).mono ?_
 rintro _ h1 ⟨s,A,n,c,B,m,d,rfl,hN,a,b,hl⟩
 exact ⟨⟨s,A,n,c,B,m,d⟩,rfl,⟨hN,by simp only;omega,by simp only;omega⟩,hl⟩
theorem r8add_c {h:Heap} {k k' : Nat} {p p' : Rat×Rat} {x y x' y' : QC} (u:PB h k p x y) (w:PB h k' p' x' y') (hk:k<=60000000) (hk' : k' <= 60000000):CallsU Tryz.prog 35 [pv x y,pv x' y'] h fun r h' => ∃ z z', r=pv z z' /\ PB h' (k+k' + 8) (ptAdd p p') z z' /\ Le h h' := by
 apply ref08_Add_ok
 refine (r8qadd_c u.1 w.1 hk hk').mono ?_
 rintro _ h1 ⟨z,rfl,uz,l1⟩
 refine ⟨_,_,_,_,_,_,_,rfl,l1,(r8qadd_c (u.2.mono l1) (w.2.mono l1) hk hk').mono ?_⟩
 rintro _ h2 ⟨z', rfl,uz', l2⟩
 exact ⟨_,_,_,_,_,_,_,rfl,z,z', rfl,⟨uz.mono l2,uz'⟩,l1.trans l2⟩
theorem meet_c {h:Heap} {k:Nat} {a b c d:Rat×Rat} {xa ya xb yb xc yc xd yd:QC} (ua:PB h k a xa ya) (ub:PB h k b xb yb) (uc:PB h k c xc yc) (ud:PB h k d xd yd) (hk:k<=500000):CallsU Tryz.prog 74 [pv xa ya,pv xb yb,pv xc yc,pv xd yd] h fun r h' => PtR (ptMeet a b c d) (32*k+1000) r h' /\ Le h h' := by
 apply point_Meet_ok
 refine (psub_c ud uc (by omega) (by omega)).mono ?_
 rintro _ h1 ⟨z1,z2,rfl,u1,l1⟩
 refine ⟨_,_,_,_,_,_,_,_,_,_,_,_,_,_,rfl,(psub_c (uc.mono l1) (ua.mono l1) (by omega) (by omega)).mono ?_⟩
 rintro _ h2 ⟨z3,z4,rfl,u2,l2⟩
 refine ⟨_,_,_,_,_,_,_,_,_,_,_,_,_,_,rfl,l2,(pcross_c u2 (u1.mono l2) (by omega)).mono ?_⟩
 rintro _ h3 ⟨z5,rfl,u3,l3⟩
 have l13:=(l1.trans l2).trans l3
 refine ⟨_,_,_,_,_,_,_,rfl,l3,(psub_c (ub.mono l13) (ua.mono l13) (by omega) (by omega)).mono ?_⟩
 rintro _ h4 ⟨z6,z7,rfl,u4,l4⟩
 refine ⟨_,_,_,_,_,_,_,_,_,_,_,_,_,_,rfl,l4,(pcross_c u4 (u1.mono ((l2.trans l3).trans l4)) (by omega)).mono ?_⟩
 rintro _ h5 ⟨z8,rfl,u5,l5⟩
 refine ⟨_,_,_,_,_,_,_,rfl,(pqdiv_c (u3.mono (l4.trans l5)) u5 (by omega) (by omega)).mono ?_⟩
 rintro _ h6 ⟨hd,l6⟩
 have l16:=((l13.trans l4).trans l5).trans l6
 unfold ptMeet
 rcases hd with ⟨h0,rfl⟩ | ⟨h0,z9,rfl,u6⟩
 ·refine ⟨_,_,_,_,_,_,_,_,rfl,Br.mk (fun _=> ?_) (fun q=>by cases q)⟩
  rw [if_pos h0]
  exact ⟨rfl,l16⟩
 ·refine ⟨_,_,_,_,_,_,_,_,rfl,Br.mk (fun q=>by cases q) (fun _=>(pon_c (ua.mono l16) (ub.mono l16) u6 (by omega) (by omega)).mono ?_)⟩
  rintro _ h7 ⟨w1,w2,rfl,u7,l7⟩
  rw [if_neg h0]
  exact ⟨_,_,_,_,_,_,_,_,_,_,_,_,_,_,rfl,⟨w1,w2,rfl,u7.le (by omega)⟩,l16.trans l7⟩
theorem exact_c {h:Heap} {k k' : Nat} {p:Rat×Rat} {x y x' y' : QC} (u:PB h k p x y) (w:PB h k' p x' y') (hk:k<=100000000):CallsU Tryz.prog 33 [pv x y,pv x' y'] h fun r h' => r = .bool true/\h=h' := by
 apply ref08_Exact_ok
 obtain ⟨⟨a1,a2,a3⟩,⟨b1,b2,b3⟩⟩:=u
 obtain ⟨⟨c1,c2,c3⟩,⟨d1,d2,d3⟩⟩:=w
 refine (rSameQ_c a1 c1 (by omega) (by omega)).mono ?_
 rintro _ _ ⟨rfl,rfl⟩
 refine ⟨_,rfl,Br.mk (fun _=>(rSameQ_c b1 d1 (by omega) (by omega)).mono ?_) (fun q=>by cases q)⟩
 rintro _ _ ⟨rfl,rfl⟩
 exact ⟨_,rfl,rfl,rfl⟩
structure Nmd where
 name:List UInt8
 pos:Rat×Rat
abbrev npL (nm:List UInt8) (x y:QC):List Value:=[sv nm,.bool x.s,.slice x.A x.n x.c,.slice x.B x.m x.d,.bool y.s,.slice y.A y.n y.c,.slice y.B y.m y.d]
def NCs (h:Heap) (ps:List Nmd) (cs:List Value):Prop:= ∀ i p,ps[i]?=some p-> ∃ x y,(cs.drop (i*7)).take 7=npL p.name x y/\PB h 25 p.pos x y
theorem NCs.mono {h h' : Heap} {ps:List Nmd} {cs:List Value} (u:NCs h ps cs) (l:Le h h'):NCs h' ps cs:=fun i p hp=>
 let ⟨x,y,e,w⟩:=u i p hp
 ⟨x,y,e,w.mono l⟩
structure NPs (h:Heap) (A:Option Addr) (n c:Nat) (ps:List Nmd):Prop where
 len:n=ps.length
 cap:n<=c
 mem:ps≠[]-> ∃ (ad:Addr) (b:Blk),A=some ad/\ad.spot=none/\h ad.block=some b/\NCs h ps (b.cells.drop ad.off)
theorem NPs.mono {h h' : Heap} {A:Option Addr} {n c:Nat} {ps:List Nmd} (u:NPs h A n c ps) (l:Le h h'):NPs h' A n c ps:=
 ⟨u.len,u.cap,fun hn=>let ⟨ad,b,a1,a2,a3,a4⟩:=u.mem hn;⟨ad,b,a1,a2,l _ _ a3,a4.mono l⟩⟩
theorem NPs.get {h:Heap} {A:Option Addr} {n c:Nat} {ps:List Nmd} (u:NPs h A n c ps) {i:Nat} {p:Nmd} (hp:ps[i]?=some p) :
  ∃ ad x y,A=some ad/\LdN h (ad.add (i*7)) (npL p.name x y)/\PB h 25 p.pos x y:=by
 obtain ⟨ad,b,a1,a2,a3,a4⟩:=u.mem (fun q=>by rw [q] at hp;simp at hp)
 obtain ⟨x,y,e,w⟩:=a4 i p hp
 rw [List.drop_drop] at e
 exact ⟨ad,x,y,a1,LdN_of a2 a3 rfl e,w⟩
def posV (ps:List Nmd) (nm:List UInt8):Option (Rat×Rat):=(ps.find? fun p=>p.name==nm).map (·.pos)
theorem posV_drop (ps:List Nmd) (nm:List UInt8) (k:Nat) (h : ∀ j x,j<k->ps[j]?=some x->x.name≠nm):posV ps nm=posV (ps.drop k) nm:=by
 induction k generalizing ps with
 | zero=>rfl
 | succ k ih=>
  cases ps with
  | nil=>rfl
  | cons y r=>
   have h0:=h 0 y (by omega) rfl
   have:posV (y::r) nm=posV r nm:=by unfold posV;rw [List.find?_cons_of_neg (by simpa using h0)]
   rw [this,ih r fun j x hj hx=>h (j+1) x (by omega) (by simpa using hx)]
   rfl
theorem drFind_c {h:Heap} {A:Option Addr} {n c:Nat} {ps:List Nmd} (u:NPs h A n c ps) (hn:n<=1000000) {nm:List UInt8} {p:Rat×Rat} (hp:posV ps nm=some p) :
  CallsU Tryz.prog 72 [.slice A n c,sv nm] h fun r h' => ∃ x y,r=pv x y/\PB h 25 p x y/\h=h' := by
 apply draft_find_ok
 have hlen:=u.len
 refine ⟨fun m i _ _ _ _ _ _ _ _ _ _ _ _ _ _ h' => ∃ k,k<=ps.length/\m=ps.length-k/\i=(k:Int)/\h=h' /\ ∀ j s,j<k->ps[j]?=some s->s.name≠nm,⟨ps.length,0,by omega,by omega,rfl,rfl,fun j s hj=>by omega⟩, ?_⟩
 rintro m _ _ _ _ _ _ _ _ _ _ _ _ _ _ _ _ ⟨k,hk,rfl,rfl,rfl,hall⟩
 refine Br.mk (fun q=> ?_) (fun q=> ?_)
 ·have hlt:k<ps.length:=by have:=of_decide_eq_true q;omega
  obtain ⟨s,hs⟩ : ∃ s,ps[k]?=some s:=⟨_,List.getElem?_eq_getElem hlt⟩
  obtain ⟨ad,x,y,eA,hld,w⟩:=u.get hs
  refine ⟨ad,eA,by omega,by omega,_,_,_,_,_,_,_,_,_,_,_,_,_,_,_,by rw [Int.toNat_natCast];exact hld, ?_⟩
  rw [bytes_toList,bytes_toList]
  refine Br.mk (fun q2=> ?_) (fun q2=> ?_)
  ·have e:=beq_iff_eq.1 q2
   rw [posV_drop ps nm k hall,List.drop_eq_getElem_cons hlt] at hp
   have ex:ps[k]=s:=by rw [List.getElem?_eq_getElem hlt] at hs;exact Option.some.inj hs
   unfold posV at hp
   rw [ex,List.find?_cons_of_pos (by simpa using e)] at hp
   cases hp
   exact ⟨x,y,rfl,w,rfl⟩
  ·rintro _ rfl
   refine ⟨ps.length-(k+1),by omega,k+1,by omega,rfl,wi (by omega) (by omega),rfl,fun j z hj hz=> ?_⟩
   rcases Nat.lt_succ_iff_lt_or_eq.1 hj with q | q
   ·exact hall j z q hz
   ·subst q
    rw [hs] at hz
    cases hz
    exact beq_eq_false_iff_ne.1 q2
 ·exfalso
  have hk' : k=ps.length:=by have:=of_decide_eq_false q;omega
  rw [posV_drop ps nm k hall,hk', List.drop_length] at hp
  cases hp
def tlV (q:Rat):Bool:=decide (200<(Lib.decDigits q.num.natAbs).length)||decide (200<(Lib.decDigits q.den).length)
theorem drLong_c {h:Heap} {k:Nat} {q:Rat} {x:QC} (u:QB h k q x) (hk:k<=4000000000) (tb:Tab h):CallsU Tryz.prog 38 [qv x] h fun r h' => r = .bool (tlV q)/\Le h h' := by
 obtain ⟨⟨⟨u1,_⟩,u2⟩,a,b⟩:=u
 apply draft_tooLong_ok
 refine (textT_c u1.is (by omega) tb).mono ?_
 rintro _ h1 ⟨rfl,l1⟩
 unfold tlV
 refine ⟨_,rfl, ?_⟩
 rw [ba_size]
 refine Br.mk (fun q1=> ?_) (fun q1=>(textT_c (u2.mono l1).is (by omega) (tb.mono l1)).mono ?_)
 ·have:=of_decide_eq_true q1
  rw [decide_eq_true (by omega)]
  exact ⟨rfl,l1⟩
 ·have h3:=of_decide_eq_false q1
  rintro _ h2 ⟨rfl,l2⟩
  refine ⟨_,rfl, ?_,l1.trans l2⟩
  rw [ba_size,decide_eq_false (show ¬ 200<(Lib.decDigits q.num.natAbs).length by omega),Bool.false_or]
  congr 1
  rw [Bool.eq_iff_iff,decide_eq_true_eq,decide_eq_true_eq]
  omega
theorem pow200:(10:Nat)^200<=B32^21:=by decide +kernel
theorem NmN.short {h:Heap} {A:Option Addr} {n c v:Nat} (u:NmN h A n c v) (hv:(Lib.decDigits v).length<=200):n<=21:=by
 obtain ⟨xs,u1,rfl,hN⟩:=u
 have hlen:xs.length=n:=u1.1
 rw [<- hlen]
 refine nrm_len hN ?_
 rw [dec_length] at hv
 have h1:=Lib.lt_pow_nDigits (val xs)
 have h2:(10:Nat)^Lib.nDigits (val xs)<=10^200:=Nat.pow_le_pow_right (by decide) hv
 have h3:=pow200
 omega
theorem QB.short {h:Heap} {k:Nat} {q:Rat} {x:QC} (u:QB h k q x) (hq:tlV q=false):QB h 25 q x:=by
 obtain ⟨⟨⟨u1,u0⟩,u2⟩,a,b⟩:=u
 unfold tlV at hq
 rw [Bool.or_eq_false_iff,decide_eq_false_iff_not,decide_eq_false_iff_not] at hq
 have h1:=u1.short (by omega)
 have h2:=u2.short (by omega)
 exact ⟨⟨⟨u1,u0⟩,u2⟩,by omega,by omega⟩
def numsV (ms:List Meas):List Ex->Except Int (List Rat)
 | []=> .ok []
 | e::es=>match evalV ms e with
  | .error er=> .error er
  | .ok q=>catR [q] (numsV ms es)
def placeV (k:Int) (ps:List (Rat×Rat)) (qs:List Rat):Except Int (Rat×Rat):=
 let p:=fun i=>ps.getD i (0,0)
 let q:=fun i=>qs.getD i 0
 if k=1 then .ok (q 0,q 1) else if k=2 then .ok (ptAdd (p 0) (q 0,q 1)) else if k=3 then .ok (ptOn (p 0) (p 1) (q 0)) else if k=4 then ptMeet (p 0) (p 1) (p 2) (p 3) else if k=5 then ptFoot (p 0) (p 1) (p 2) else ptMirror (p 0) (p 1) (p 2)
def consV (ms:List Meas) (ps:List Nmd) (s:Stp):Except Int (Rat×Rat):=
 match numsV ms s.nums with
 | .error e=> .error e
 | .ok qs=>placeV s.kind (s.frm.map fun nm=>(posV ps nm).getD (0,0)) qs
theorem numsV_drop (ms:List Meas) {es:List Ex} {j:Nat} {e:Ex} (he:es[j]?=some e):numsV ms (es.drop j)=match evalV ms e with
  | .error er=> .error er
  | .ok q=>catR [q] (numsV ms (es.drop (j+1))):=by
 have hj:=(List.getElem?_eq_some_iff.1 he).1
 rw [List.drop_eq_getElem_cons hj,numsV]
 rw [List.getElem?_eq_getElem hj] at he
 rw [Option.some.inj he]
def PtsAt (h:Heap) (cs:List Value) (ps:List (Rat×Rat)):Prop:= ∀ i p,ps[i]?=some p-> ∃ x y,(cs.drop (i*6)).take 6=[.bool x.s,.slice x.A x.n x.c,.slice x.B x.m x.d,.bool y.s,.slice y.A y.n y.c,.slice y.B y.m y.d]/\PB h 25 p x y
theorem ptsAt_ld {h:Heap} {cs:List Value} {ps:List (Rat×Rat)} (u:PtsAt h cs ps) {i:Nat} (hi:i<ps.length) {h' : Heap} {g ty:Nat} (hb:h' g=some ⟨cs,ty,(0,0)⟩) :
  ∃ x y,LdN h' (Addr.add ⟨g,0,none⟩ (i*6)) [.bool x.s,.slice x.A x.n x.c,.slice x.B x.m x.d,.bool y.s,.slice y.A y.n y.c,.slice y.B y.m y.d]/\PB h 25 (ps.getD i (0,0)) x y:=by
 obtain ⟨x,y,e,w⟩:=u i _ (List.getElem?_eq_getElem hi)
 refine ⟨x,y,LdN_of rfl hb rfl (by simpa using e), ?_⟩
 rw [List.getD_eq_getElem?_getD,List.getElem?_eq_getElem hi]
 exact w
theorem ratsAt_ld {h:Heap} {k:Nat} {cs:List Value} {qs:List Rat} (u:RatsAt h k cs qs) {i:Nat} (hi:i<qs.length) {h' : Heap} {g ty:Nat} (hb:h' g=some ⟨cs,ty,(0,0)⟩) :
  ∃ x:QC,LdN h' (Addr.add ⟨g,0,none⟩ (i*3)) [.bool x.s,.slice x.A x.n x.c,.slice x.B x.m x.d]/\QB h k (qs.getD i 0) x:=by
 obtain ⟨s,A,n,c,B,m,d,e,hN,a,b⟩:=u i _ (List.getElem?_eq_getElem hi)
 refine ⟨⟨s,A,n,c,B,m,d⟩,LdN_of rfl hb rfl (by simpa using e), ?_⟩
 rw [List.getD_eq_getElem?_getD,List.getElem?_eq_getElem hi]
 exact ⟨hN,a,b⟩
theorem chkFm_ok {s:Stp} (h:chkFm s=0):1<=s.kind/\s.kind<=6/\(s.frm.length:Int)=frN s.kind/\(s.nums.length:Int)=nuN s.kind/\chkL s.nums 1=0/\isPointV s.name=true:=by
 unfold chkFm at h
 split at h
 ·rename_i hc
  rw [Bool.and_eq_true,Bool.and_eq_true,decide_eq_true_eq,decide_eq_true_eq] at hc
  exact ⟨hc.1.2.1,hc.1.2.2,hc.2.1,hc.2.2,h,hc.1.1⟩
 ·cases h
theorem numsV_err {ms:List Meas} : ∀ {es:List Ex} {er:Int},numsV ms es = .error er->er≠0
 | [],er,h=>by cases h
 | e::es,er,h=>by
  rw [numsV] at h
  split at h
  ·rename_i er' he
   cases h
   unfold evalV at he
   split at he
   ·exact evV_err he
   ·rename_i hne;cases he;exact hne
  ·cases ho:numsV ms es with
   | error e2=>rw [ho] at h;cases h;exact numsV_err ho
   | ok ts=>rw [ho] at h;cases h
theorem drCons_c {h:Heap} {s:Stp} {F:Option Addr} {fc:Nat} {K:Option Addr} {kc:Nat} {A:Option Addr} {n c:Nat} {ps:List Nmd} {eA:Option Addr} {en ec:Nat} {ms:List Meas} (uf:Sl sv h F s.frm.length fc s.frm) (uk:IsK h K s.nums.length kc s.nums) (z:SzS s) (hf:chkFm s=0)
  (u:NPs h A n c ps) (hn:n<=1000000) (hfr : ∀ nm∈s.frm,(posV ps nm).isSome=true) (env:EnvS h eA en ec ms) :
  CallsU Tryz.prog 37 [.agg #[sv s.name,.int .i64 s.kind,.slice F s.frm.length fc,.slice K s.nums.length kc],.slice A n c,.slice eA en ec] h fun r h' => PtR (consV ms ps s) 2000000 r h' /\ Le h h' := by
 obtain ⟨hk1,hk6,hfl,hnl,hck,_⟩:=chkFm_ok hf
 obtain ⟨z1,z2,z3,z4,z5⟩:=z
 have hnl2:s.nums.length<=2:=by unfold nuN at hnl;split at hnl<;>(try split at hnl)<;>omega
 have hfl4:s.frm.length<=4:=by unfold frN at hfl;split at hfl<;>(try split at hfl)<;>(try split at hfl)<;>(try split at hfl)<;>omega
 apply draft_construct_ok
 rintro g _ hg rfl
 refine ⟨fun m i _ _ _ _ _ _ _ _ _ _ _ _ _ _ h' => ∃ j H' cs qs,j<=s.nums.length/\m=s.nums.length-j/\i=(j:Int)/\H' g=none/\Le h H' /\ h' = H'.put g ⟨cs,116,(0,0)⟩/\cs.length=6/\qs.length=j/\RatsAt H' 1000000 cs qs/\numsV ms s.nums=catR qs (numsV ms (s.nums.drop j)),⟨s.nums.length,0,h,_,[],by omega,by omega,rfl,hg,Le.refl _,rfl,rfl,rfl,fun i q hq=>by simp at hq, ?_⟩, ?_⟩
 ·rw [List.drop_zero]
  cases numsV ms s.nums<;>rfl
 rintro m _ _ _ _ _ _ _ _ _ _ _ _ _ _ _ _ ⟨j,H', cs,qs,hj,rfl,rfl,hg', hle,rfl,hcs,hql,hrats,hev⟩
 refine Br.mk (fun q1=> ?_) (fun q1=> ?_)
 ·have hlt:j<s.nums.length:=by have:=of_decide_eq_true q1;omega
  obtain ⟨x,hx⟩ : ∃ x,s.nums[j]?=some x:=⟨_,List.getElem?_eq_getElem hlt⟩
  obtain ⟨ad,vs,eAd,hld,ux⟩:=(uk.mono hle).get hx
  have ux' := ux
  obtain ⟨sx,Ax,cx,Bx,dx,Kx,kcx,rfl,_,_,_⟩:=ux'.open
  have hdrop:=numsV_drop ms hx
  refine ⟨ad,eAd,by omega,by omega,_,_,_,_,_,_,_,_,_,_,_,_,by rw [Int.toNat_natCast];exact LdN.mono hld (Le.new hg' _),((foEval_c ux (SzsL.get z4 hx) (env.mono hle)).frame hg').mono ?_⟩
  rintro _ _ ⟨H2,⟨hr,hl2⟩,hg2,rfl⟩
  cases hv:evalV ms x with
  | error er=>
   rw [hv] at hr hdrop
   have hr' : _=Value.tuple #[.agg #[.bool false,.slice none 0 0,.slice none 0 0],.int .i64 er]:=hr
   subst hr'
   have her:er≠0:=by
    unfold evalV at hv
    split at hv
    ·exact evV_err hv
    ·rename_i hne;cases hv;exact hne
   refine ⟨_,_,_,_,_,_,_,_,rfl,Br.mk (fun _=> ?_) (fun q=>by rw [bne_eq_false_iff_eq] at q;exact absurd q her)⟩
   have hc:consV ms ps s = .error er:=by
    unfold consV
    rw [hev,hdrop]
    rfl
   rw [hc]
   exact ⟨rfl,(hle.trans hl2).trans (Le.new hg2 _)⟩
  | ok v=>
   rw [hv] at hr hdrop
   obtain ⟨s2,A2,n2,c2,B2,m2,d2,rfl,hN2,a2,b2⟩:=hr
   refine ⟨_,_,_,_,_,_,_,_,rfl,Br.mk (fun q=>by exact absurd q (by decide)) (fun _=> ?_)⟩
   refine ⟨by omega,by omega,⟨cs,116,(0,0)⟩, ?_⟩
   rw [addr_block,addr_off,addr_spot _ _ rfl,Int.toNat_natCast]
   refine ⟨Heap.put_same _ _ _,rfl,rfl,by simp;omega, ?_⟩
   rintro _ rfl _ rfl
   simp only [Nat.zero_add]
   refine ⟨s.nums.length-(j+1),by omega,j+1,H2,setSeg cs (j*3) [.bool s2,.slice A2 n2 c2,.slice B2 m2 d2],qs++[v],by omega,rfl,wi (by omega) (by omega),hg2,hle.trans hl2, ?_, ?_,by simp [hql], ?_, ?_⟩
   ·funext y
    by_cases hy:y=g
    ·subst hy
     rw [Heap.put_same,Heap.put_same]
    ·rw [Heap.put_ne _ _ hy,Heap.put_ne _ _ hy,Heap.put_ne _ _ hy]
   ·rw [setSeg_len (by simp;omega),hcs]
   ·intro i p hp
    rcases Nat.lt_or_ge i j with hij | hij
    ·rw [List.getElem?_append_left (by omega)] at hp
     obtain ⟨s3,A3,n3,c3,B3,m3,d3,e3,hN3,r3⟩:=hrats i p hp
     refine ⟨s3,A3,n3,c3,B3,m3,d3, ?_,hN3.mono hl2,r3⟩
     rw [seg_other (by omega) (by omega)]
     exact e3
    ·have hi:i=j:=by
      have:=(List.getElem?_eq_some_iff.1 hp).1
      simp at this
      omega
     subst hi
     rw [List.getElem?_append_right (by omega)] at hp
     simp [hql] at hp
     subst hp
     exact ⟨_,_,_,_,_,_,_,seg_same rfl (by omega),hN2,a2,b2⟩
   ·rw [hev,hdrop]
    exact cat_cat qs [v] _
 have hj' : j=s.nums.length:=by have:=of_decide_eq_false q1;omega
 rw [hj', List.drop_length,numsV] at hev
 have hev' : numsV ms s.nums = .ok qs:=by rw [hev];simp [catR]
 have hqn:(qs.length:Int)=nuN s.kind:=by rw [hql,hj'];exact hnl
 have hcV:consV ms ps s=placeV s.kind (s.frm.map fun nm=>(posV ps nm).getD (0,0)) qs:=by unfold consV;rw [hev']
 rw [hcV]
 generalize hB:(⟨cs,116,(0,0)⟩:Blk)=bG
 have hHb:(H'.put g bG) g=some ⟨cs,116,(0,0)⟩:=by rw [<- hB,Heap.put_same]
 have hleG:Le h (H'.put g bG):=hle.trans (Le.new hg' _)
 generalize hH:H'.put g bG=H at *
 have hHH:Le H' H:=by rw [<- hH];exact Le.new hg' _
 rintro g1 _ hg1 rfl
 have uH:=u.mono hleG
 have ufH:=uf.mono hleG
 refine ⟨fun m i h' => ∃ j cs2,j<=s.frm.length/\m=s.frm.length-j/\i=(j:Int)/\h' = H.put g1 ⟨cs2,117,(0,0)⟩/\cs2.length=24/\PtsAt H cs2 ((s.frm.take j).map fun nm=>(posV ps nm).getD (0,0)),⟨s.frm.length,0,_,by omega,by omega,rfl,rfl,rfl,fun i q hq=>by simp at hq⟩, ?_⟩
 rintro m _ _ ⟨j2,cs2,hj2,rfl,rfl,rfl,hcs2,hpts⟩
 have hHn:=Le.new hg1 (⟨cs2,117,(0,0)⟩:Blk)
 refine Br.mk (fun q2=> ?_) (fun q2=> ?_)
 ·have hlt:j2<s.frm.length:=by have:=of_decide_eq_true q2;omega
  obtain ⟨nm,hnm⟩ : ∃ nm,s.frm[j2]?=some nm:=⟨_,List.getElem?_eq_getElem hlt⟩
  obtain ⟨ad,eAd,hld⟩:=ufH.get hnm
  obtain ⟨p,hp⟩:=Option.isSome_iff_exists.1 (hfr nm (List.mem_of_getElem? hnm))
  refine ⟨ad,eAd,by omega,by omega,_,by rw [Int.toNat_natCast];exact LdN.mono hld hHn, ?_⟩
  refine ((drFind_c uH hn hp).frame hg1).mono ?_
  rintro _ _ ⟨H3,⟨x,y,rfl,hxy,rfl⟩,_,rfl⟩
  refine ⟨_,_,_,_,_,_,_,_,_,_,_,_,_,_,rfl,by omega,by omega,⟨cs2,117,(0,0)⟩, ?_⟩
  rw [addr_block,addr_off,addr_spot _ _ rfl,Int.toNat_natCast]
  refine ⟨Heap.put_same _ _ _,rfl,rfl,by simp;omega, ?_⟩
  rintro _ rfl _ rfl
  simp only [Nat.zero_add]
  refine ⟨s.frm.length-(j2+1),by omega,j2+1,setSeg cs2 (j2*6) [.bool x.s,.slice x.A x.n x.c,.slice x.B x.m x.d,.bool y.s,.slice y.A y.n y.c,.slice y.B y.m y.d],by omega,rfl,wi (by omega) (by omega), ?_, ?_, ?_⟩
  ·funext w
   by_cases hy:w=g1
   ·subst hy
    rw [Heap.put_same,Heap.put_same]
   ·rw [Heap.put_ne _ _ hy,Heap.put_ne _ _ hy,Heap.put_ne _ _ hy]
  ·rw [setSeg_len (by simp;omega),hcs2]
  ·intro i pp hpp
   rw [List.take_add_one,hnm,List.map_append] at hpp
   have hlm:((s.frm.take j2).map fun nm=>(posV ps nm).getD (0,0)).length=j2:=by rw [List.length_map,List.length_take];omega
   rcases Nat.lt_or_ge i j2 with hij | hij
   ·rw [List.getElem?_append_left (by omega)] at hpp
    obtain ⟨x3,y3,e3,w3⟩:=hpts i pp hpp
    refine ⟨x3,y3, ?_,w3⟩
    rw [seg_other (by omega) (by omega)]
    exact e3
   ·have hi:i=j2:=by
     have:=(List.getElem?_eq_some_iff.1 hpp).1
     rw [List.length_append,hlm] at this
     simp at this
     omega
    subst hi
    rw [List.getElem?_append_right (by omega),hlm] at hpp
    simp [hp] at hpp
    subst hpp
    exact ⟨x,y,seg_same rfl (by omega),hxy⟩
 ·
  have hj2' : j2=s.frm.length:=by have:=of_decide_eq_false q2;omega
  rw [hj2', List.take_length] at hpts
  generalize hps:(s.frm.map fun nm=>(posV ps nm).getD (0,0))=pts at *
  have hptl:(pts.length:Int)=frN s.kind:=by rw [<- hps,List.length_map];exact hfl
  have hb2:(H.put g1 ⟨cs2,117,(0,0)⟩) g1=some ⟨cs2,117,(0,0)⟩:=Heap.put_same _ _ _
  have hbg:(H.put g1 ⟨cs2,117,(0,0)⟩) g=some ⟨cs,116,(0,0)⟩:=hHn _ _ hHb
  have hlF:Le h (H.put g1 ⟨cs2,117,(0,0)⟩):=hleG.trans hHn
  have hlQ:Le H' (H.put g1 ⟨cs2,117,(0,0)⟩):=hHH.trans hHn
  unfold placeV
  simp only
  refine Br.mk (fun k1=> ?_) (fun k1=>Br.mk (fun k2=> ?_) (fun k2=>Br.mk (fun k3=> ?_) (fun k3=>Br.mk (fun k4=> ?_) (fun k4=>Br.mk (fun k5=> ?_) (fun k5=> ?_)))))
  ·have e1:s.kind=1:=beq_iff_eq.1 k1
   have hq2:qs.length=2:=by rw [e1] at hqn;have:nuN 1=2:=(by decide);omega
   obtain ⟨x0,l0,w0⟩:=ratsAt_ld hrats (i:=0) (by omega) hbg
   obtain ⟨x1,l1,w1⟩:=ratsAt_ld hrats (i:=1) (by omega) hbg
   rw [if_pos e1]
   exact ⟨by omega,by omega,_,_,_,_,_,_,_,l0,by omega,by omega,_,_,_,_,_,_,_,l1,⟨x0,x1,rfl,(w0.mono hlQ).le (by omega),(w1.mono hlQ).le (by omega)⟩,hlF⟩
  ·have e1:s.kind≠1:=beq_eq_false_iff_ne.1 k1
   have e2:s.kind=2:=beq_iff_eq.1 k2
   have hq2:qs.length=2:=by rw [e2] at hqn;have:nuN 2=2:=(by decide);omega
   have hp1:pts.length=1:=by rw [e2] at hptl;have:frN 2=1:=(by decide);omega
   obtain ⟨x0,l0,w0⟩:=ratsAt_ld hrats (i:=0) (by omega) hbg
   obtain ⟨x1,l1,w1⟩:=ratsAt_ld hrats (i:=1) (by omega) hbg
   obtain ⟨px,py,lp,wp⟩:=ptsAt_ld hpts (i:=0) (by omega) hb2
   rw [if_neg e1,if_pos e2]
   refine ⟨by omega,by omega,_,_,_,_,_,_,_,_,_,_,_,_,_,_,lp,by omega,by omega,_,_,_,_,_,_,_,l0,by omega,by omega,_,_,_,_,_,_,_,l1,(padd_c (p' := (qs.getD 0 0,qs.getD 1 0)) (wp.mono hHn) ⟨w0.mono hlQ,w1.mono hlQ⟩ (by omega) (by omega)).mono ?_⟩
   rintro _ h9 ⟨z3,z4,rfl,w4,l9⟩
   exact ⟨_,_,_,_,_,_,_,_,_,_,_,_,_,_,rfl,⟨z3,z4,rfl,w4.le (by omega)⟩,hlF.trans l9⟩
  ·have e1:s.kind≠1:=beq_eq_false_iff_ne.1 k1
   have e2:s.kind≠2:=beq_eq_false_iff_ne.1 k2
   have e3:s.kind=3:=beq_iff_eq.1 k3
   have hq2:qs.length=1:=by rw [e3] at hqn;have:nuN 3=1:=(by decide);omega
   have hp1:pts.length=2:=by rw [e3] at hptl;have:frN 3=2:=(by decide);omega
   obtain ⟨x0,l0,w0⟩:=ratsAt_ld hrats (i:=0) (by omega) hbg
   obtain ⟨px,py,lp,wp⟩:=ptsAt_ld hpts (i:=0) (by omega) hb2
   obtain ⟨px1,py1,lp1,wp1⟩:=ptsAt_ld hpts (i:=1) (by omega) hb2
   rw [if_neg e1,if_neg e2,if_pos e3]
   refine ⟨by omega,by omega,_,_,_,_,_,_,_,_,_,_,_,_,_,_,lp,by omega,by omega,_,_,_,_,_,_,_,_,_,_,_,_,_,_,lp1,by omega,by omega,_,_,_,_,_,_,_,l0,(pon_c (wp.mono hHn) (wp1.mono hHn) (w0.mono hlQ) (by omega) (by omega)).mono ?_⟩
   rintro _ h9 ⟨z3,z4,rfl,w4,l9⟩
   exact ⟨_,_,_,_,_,_,_,_,_,_,_,_,_,_,rfl,⟨z3,z4,rfl,w4.le (by omega)⟩,hlF.trans l9⟩
  ·have e1:s.kind≠1:=beq_eq_false_iff_ne.1 k1
   have e2:s.kind≠2:=beq_eq_false_iff_ne.1 k2
   have e3:s.kind≠3:=beq_eq_false_iff_ne.1 k3
   have e4:s.kind=4:=beq_iff_eq.1 k4
   have hp1:pts.length=4:=by rw [e4] at hptl;have:frN 4=4:=(by decide);omega
   obtain ⟨px,py,lp,wp⟩:=ptsAt_ld hpts (i:=0) (by omega) hb2
   obtain ⟨px1,py1,lp1,wp1⟩:=ptsAt_ld hpts (i:=1) (by omega) hb2
   obtain ⟨px2,py2,lp2,wp2⟩:=ptsAt_ld hpts (i:=2) (by omega) hb2
   obtain ⟨px3,py3,lp3,wp3⟩:=ptsAt_ld hpts (i:=3) (by omega) hb2
   rw [if_neg e1,if_neg e2,if_neg e3,if_pos e4]
   refine ⟨by omega,by omega,_,_,_,_,_,_,_,_,_,_,_,_,_,_,lp,by omega,by omega,_,_,_,_,_,_,_,_,_,_,_,_,_,_,lp1,by omega,by omega,_,_,_,_,_,_,_,_,_,_,_,_,_,_,lp2,by omega,by omega,_,_,_,_,_,_,_,_,_,_,_,_,_,_,lp3,(meet_c (wp.mono hHn) (wp1.mono hHn) (wp2.mono hHn) (wp3.mono hHn) (by omega)).mono ?_⟩
   rintro _ h9 ⟨hR,l9⟩
   have hR2:=hR.le (k' := 2000000) (by omega)
   obtain ⟨a0,a1,a2,a3,a4,a5,a6,b0,b1,b2,b3,b4,b5,b6,er,hsh⟩:=PtR.shape hR
   rw [hsh] at hR2 ⊢
   exact ⟨_,_,_,_,_,_,_,_,_,_,_,_,_,_,_,rfl,hR2,hlF.trans l9⟩
  ·have e1:s.kind≠1:=beq_eq_false_iff_ne.1 k1
   have e2:s.kind≠2:=beq_eq_false_iff_ne.1 k2
   have e3:s.kind≠3:=beq_eq_false_iff_ne.1 k3
   have e4:s.kind≠4:=beq_eq_false_iff_ne.1 k4
   have e5:s.kind=5:=beq_iff_eq.1 k5
   have hp1:pts.length=3:=by rw [e5] at hptl;have:frN 5=3:=(by decide);omega
   obtain ⟨px,py,lp,wp⟩:=ptsAt_ld hpts (i:=0) (by omega) hb2
   obtain ⟨px1,py1,lp1,wp1⟩:=ptsAt_ld hpts (i:=1) (by omega) hb2
   obtain ⟨px2,py2,lp2,wp2⟩:=ptsAt_ld hpts (i:=2) (by omega) hb2
   rw [if_neg e1,if_neg e2,if_neg e3,if_neg e4,if_pos e5]
   refine ⟨by omega,by omega,_,_,_,_,_,_,_,_,_,_,_,_,_,_,lp,by omega,by omega,_,_,_,_,_,_,_,_,_,_,_,_,_,_,lp1,by omega,by omega,_,_,_,_,_,_,_,_,_,_,_,_,_,_,lp2,(pfoot_c (wp.mono hHn) (wp1.mono hHn) (wp2.mono hHn) (by omega)).mono ?_⟩
   rintro _ h9 ⟨hR,l9⟩
   have hR2:=hR.le (k' := 2000000) (by omega)
   obtain ⟨a0,a1,a2,a3,a4,a5,a6,b0,b1,b2,b3,b4,b5,b6,er,hsh⟩:=PtR.shape hR
   rw [hsh] at hR2 ⊢
   exact ⟨_,_,_,_,_,_,_,_,_,_,_,_,_,_,_,rfl,hR2,hlF.trans l9⟩
  ·have e1:s.kind≠1:=beq_eq_false_iff_ne.1 k1
   have e2:s.kind≠2:=beq_eq_false_iff_ne.1 k2
   have e3:s.kind≠3:=beq_eq_false_iff_ne.1 k3
   have e4:s.kind≠4:=beq_eq_false_iff_ne.1 k4
   have e5:s.kind≠5:=beq_eq_false_iff_ne.1 k5
   have e6:s.kind=6:=by omega
   have hp1:pts.length=3:=by rw [e6] at hptl;have:frN 6=3:=(by decide);omega
   obtain ⟨px,py,lp,wp⟩:=ptsAt_ld hpts (i:=0) (by omega) hb2
   obtain ⟨px1,py1,lp1,wp1⟩:=ptsAt_ld hpts (i:=1) (by omega) hb2
   obtain ⟨px2,py2,lp2,wp2⟩:=ptsAt_ld hpts (i:=2) (by omega) hb2
   rw [if_neg e1,if_neg e2,if_neg e3,if_neg e4,if_neg e5]
   refine ⟨by omega,by omega,_,_,_,_,_,_,_,_,_,_,_,_,_,_,lp,by omega,by omega,_,_,_,_,_,_,_,_,_,_,_,_,_,_,lp1,by omega,by omega,_,_,_,_,_,_,_,_,_,_,_,_,_,_,lp2,(pmirror_c (wp.mono hHn) (wp1.mono hHn) (wp2.mono hHn) (by omega)).mono ?_⟩
   rintro _ h9 ⟨hR,l9⟩
   have hR2:=hR.le (k' := 2000000) (by omega)
   obtain ⟨a0,a1,a2,a3,a4,a5,a6,b0,b1,b2,b3,b4,b5,b6,er,hsh⟩:=PtR.shape hR
   rw [hsh] at hR2 ⊢
   exact ⟨_,_,_,_,_,_,_,_,_,_,_,_,_,_,_,rfl,hR2,hlF.trans l9⟩
end Go.Proofs.YtfglcgbgaeegaaaGreatDoor
