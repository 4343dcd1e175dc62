/-
  The calculator is sound: regions that draw their order.
-/
import Derived.Test.YtfhipkdcekffaaaGreatDoorVcg15
namespace Go.Vcg
open Go

theorem memN_iff {i : Nat} : ∀ {l : List Nat}, memN i l = true ↔ i ∈ l
  | [] => by simp [memN]
  | j :: r => by
    simp only [memN, List.mem_cons]
    by_cases h : i = j
    · subst h; simp
    · simp [beq_ne h, memN_iff (l := r), h]

theorem mem_insN {i j : Nat} {l : List Nat} : j ∈ insN i l ↔ j = i ∨ j ∈ l := by
  unfold insN
  cases h : memN i l with
  | true =>
    have := memN_iff.1 h
    simp only [cond_true]
    exact ⟨.inr, fun q => by rcases q with rfl | q; exact this; exact q⟩
  | false => simp

theorem mem_foldr_insN {j : Nat} {l : List Nat} : ∀ {r : List Nat}, j ∈ r.foldr insN l ↔ j ∈ r ∨ j ∈ l
  | [] => by simp
  | i :: r => by simp only [List.foldr_cons, mem_insN, mem_foldr_insN (r := r), List.mem_cons]; exact or_assoc.symm

theorem mem_ancEs {j : Nat} {rows : List (List Nat)} : ∀ {es : List Edge}, j ∈ ancEs rows es → ∃ e ∈ es, Region.binds .any e = true ∧ (j = e.on ∨ j ∈ (rows[e.on]?).getD [])
  | [], h => by simp [ancEs] at h
  | e :: r, h => by
    simp only [ancEs] at h
    split at h
    · rename_i hb
      rw [mem_insN, mem_foldr_insN] at h
      rcases h with h | h | h
      · exact ⟨e, by simp, hb, .inl h⟩
      · exact ⟨e, by simp, hb, .inr h⟩
      · obtain ⟨e', h1, h2, h3⟩ := mem_ancEs h; exact ⟨e', by simp [h1], h2, h3⟩
    · obtain ⟨e', h1, h2, h3⟩ := mem_ancEs h; exact ⟨e', by simp [h1], h2, h3⟩

/-- Every row names only what must come ahead: whoever is closed downward and holds i's own predecessors holds the row of i. -/
def RowsOk (ops : List Oper) (rows : List (List Nat)) : Prop :=
  ∀ (S : Nat → Prop), (∀ (i : Nat) (o : Oper), S i → ops[i]? = some o → ∀ e ∈ o.after.toList, Region.binds .any e = true → S e.on) →
    ∀ (i : Nat) (o : Oper) (row : List Nat), ops[i]? = some o → rows[i]? = some row → (∀ e ∈ o.after.toList, Region.binds .any e = true → S e.on) → ∀ j ∈ row, S j

theorem ancs_ok (ops : List Oper) : ∀ (r : List Oper) (rows : List (List Nat)), (∃ p, ops = p ++ r ∧ p.length = rows.length) → RowsOk ops rows → RowsOk ops (ancs r rows)
  | [], rows, _, h => h
  | o :: r, rows, ⟨p, hp, hl⟩, h => by
    refine ancs_ok ops r _ ⟨p ++ [o], by simp [hp], by simp [hl]⟩ ?_
    intro S hS i oi row hi hrow hpre j hj
    by_cases hlt : i < rows.length
    · rw [List.getElem?_append_left hlt] at hrow
      exact h S hS i oi row hi hrow hpre j hj
    · have hie : i = rows.length := by
        have := List.getElem?_eq_some_iff.1 hrow
        obtain ⟨h1, _⟩ := this
        simp at h1
        omega
      subst hie
      have ho : oi = o := by
        rw [hp, ← hl, List.getElem?_append_right (Nat.le_refl _)] at hi
        simpa using hi.symm
      subst ho
      simp only [List.getElem?_append_right (Nat.le_refl _), Nat.sub_self, List.getElem?_cons_zero, Option.some.injEq] at hrow
      subst hrow
      obtain ⟨e, he, hb, hj⟩ := mem_ancEs hj
      have hSe := hpre e he hb
      rcases hj with rfl | hj
      · exact hSe
      · cases hr : rows[e.on]? with
        | none => rw [hr] at hj; simp at hj
        | some row' =>
          rw [hr] at hj
          have hlt' : e.on < rows.length := (List.getElem?_eq_some_iff.1 hr).1
          have hoe : ∃ o', ops[e.on]? = some o' := by
            have : e.on < ops.length := by rw [hp]; simp; omega
            exact ⟨_, List.getElem?_eq_getElem this⟩
          obtain ⟨o', ho'⟩ := hoe
          exact h S hS e.on o' row' ho' hr (fun e' he' hb' => hS e.on o' hSe ho' e' he' hb') j (by simpa using hj)

theorem ancs_rows (ops : List Oper) : RowsOk ops (ancs ops []) :=
  ancs_ok ops ops [] ⟨[], by simp, rfl⟩ fun S _ i o row _ hr => by simp at hr

section
variable {P : Program} {nt : Nat} {mb vis : Nat → Bool} {K K' : St → Prop} {ops : List Oper}

theorem apart_spec {x y : Oper} (h : apartB ops x y = true) : (∀ d, x.dst = some d → d ∉ opTmps ops y) ∧ (∀ d, y.dst = some d → d ∉ opTmps ops x) := by
  simp only [apartB, Bool.and_eq_true] at h
  refine ⟨fun d hd hm => ?_, fun d hd hm => ?_⟩
  · have h1 := h.1
    rw [hd] at h1
    simp only [Bool.not_eq_true'] at h1
    rw [memN_iff.2 hm] at h1
    cases h1
  · have h1 := h.2
    rw [hd] at h1
    simp only [Bool.not_eq_true'] at h1
    rw [memN_iff.2 hm] at h1
    cases h1

theorem notTmp {d : Nat} {y : Oper} (h : d ∉ opTmps ops y) : (∀ x ∈ y.op.operands.toList, x ≠ .tmp d) ∧ y.dst ≠ some d ∧ (∀ j want g, y.guard = some (j, want) → (ops[j]?).bind (·.dst) = some g → g ≠ d) := by
  unfold opTmps at h
  simp only [List.mem_append, not_or] at h
  obtain ⟨⟨h1, h2⟩, h3⟩ := h
  refine ⟨fun x hx e => ?_, fun e => ?_, fun j want g hg hj e => ?_⟩
  · subst e
    exact h2 (List.mem_filterMap.2 ⟨.tmp d, hx, rfl⟩)
  · rw [e] at h1; simp at h1
  · rw [hg] at h3
    simp only [hj] at h3
    subst e
    simp at h3

theorem opG_shift {see : Bool} {o : Oper} {st : St} {d : Option Nat} {v : SV} (hm : ∀ st1, K (putO st1 d v) → Keeps o st st1 → K' st1) (hd : ∀ d', d = some d' → d' ∉ opTmps ops o)
    (h : opG P nt vis mb ops see o (putO st d v) K) : opG P nt vis mb ops see o st K' := by
  have hop : ∀ d', d = some d' → ∀ x ∈ o.op.operands.toList, x ≠ .tmp d' := fun d' e => (notTmp (hd d' e)).1
  have hne : ∀ d', d = some d' → o.dst ≠ some d' := fun d' e => (notTmp (hd d' e)).2.1
  unfold opG at *
  split at h
  · rename_i hg
    exact opV_shift hm hop hne h
  · rename_i j want hg
    split at h
    · exact h.elim
    · rename_i g hj
      have hf : (putO st d v).f g = st.f g := by
        cases d with
        | none => rfl
        | some d =>
          have := (notTmp (hd d rfl)).2.2 j want g hg hj
          simp [putO, St.put, beq_ne this]
      rw [hf] at h
      split at h
      · rename_i t ht
        have e1 : (putO st d v).put g (.v (.bool t)) = putO st d v := put_same (by rw [hf]; exact ht)
        have e2 : st.put g (.v (.bool t)) = st := put_same ht
        cases t with
        | true =>
          simp only [Br, e1, e2] at h ⊢
          cases want with
          | true => exact opV_shift hm hop hne h
          | false => exact putK_shift hm hne (Keeps.refl _ _) h
        | false =>
          simp only [Br, e1, e2] at h ⊢
          cases want with
          | true => exact putK_shift hm hne (Keeps.refl _ _) h
          | false => exact opV_shift hm hop hne h
      · exact putK_shift hm hne (Keeps.refl _ _) h
      · exact h.elim

theorem opG_mono {see : Bool} {o : Oper} {st : St} (hm : ∀ st1, K st1 → K' st1) (h : opG P nt vis mb ops see o st K) : opG P nt vis mb ops see o st K' :=
  opG_shift (d := none) (v := .v undef) (fun st1 h _ => hm st1 h) (fun _ e => by cases e) h

theorem still_evG {see : Bool} {o : Oper} {st : St} (hs : (pureOp o.op || isLoad o.op) = true) (h : opG P nt vis mb ops see o st K) :
    ∃ v, K (putO st o.dst v) ∧ ∀ (st' : St) (see' : Bool) (K' : St → Prop), (∀ x ∈ o.op.operands.toList, ev st' x = ev st x) → (∀ j want g, o.guard = some (j, want) → (ops[j]?).bind (·.dst) = some g → st'.f g = st.f g) →
      (isLoad o.op = true → (∀ i, i < st.nb → st'.B i = st.B i) ∧ st.nb ≤ st'.nb) → (isLoad o.op = true → see = true → see' = true ∧ st'.h = st.h) → K' (putO st' o.dst v) → opG P nt vis mb ops see' o st' K' := by
  unfold opG at h
  split at h
  · rename_i hg
    obtain ⟨v, h1, h2⟩ := still_ev hs h
    refine ⟨v, h1, fun st' see' K' a1 _ a3 a4 hk => ?_⟩
    unfold opG
    simp only [hg]
    exact h2 st' see' K' a1 a3 a4 hk
  · rename_i j want hg
    split at h
    · exact h.elim
    · rename_i g hj
      split at h
      · rename_i t ht
        have e2 : st.put g (.v (.bool t)) = st := put_same ht
        have hw : (t = want ∧ opV P nt vis mb see o st K) ∨ (t ≠ want ∧ putK nt o.dst (.v undef) st K) := by
          cases t <;> simp only [Br, e2] at h <;> cases want <;> first | exact .inl ⟨rfl, h⟩ | exact .inr ⟨by simp, h⟩
        rcases hw with ⟨rfl, hh⟩ | ⟨hne, hh⟩
        · obtain ⟨v, h1, h2⟩ := still_ev hs hh
          refine ⟨v, h1, fun st' see' K' a1 a2 a3 a4 hk => ?_⟩
          have hf := (a2 j t g hg hj).trans ht
          unfold opG
          simp only [hg, hj, hf]
          have e3 : st'.put g (.v (.bool t)) = st' := put_same hf
          cases t <;> simp only [Br, e3] <;> exact h2 st' see' K' a1 a3 a4 hk
        · obtain ⟨h1, h2⟩ := putK_get hh
          refine ⟨.v undef, h1, fun st' see' K' a1 a2 a3 a4 hk => ?_⟩
          have hf := (a2 j want g hg hj).trans ht
          unfold opG
          simp only [hg, hj, hf]
          have e3 : st'.put g (.v (.bool t)) = st' := put_same hf
          cases t <;> cases want <;> simp only [Br, e3] <;> first | exact h2 _ _ hk | exact absurd rfl hne
      · rename_i vs ht
        obtain ⟨h1, h2⟩ := putK_get h
        refine ⟨.v undef, h1, fun st' see' K' a1 a2 a3 a4 hk => ?_⟩
        have hf := (a2 j want g hg hj).trans ht
        unfold opG
        simp only [hg, hj, hf]
        exact h2 _ _ hk
      · exact h.elim

theorem swap {sx sx' si : Bool} {x y : Oper} {st : St} (hs : (pureOp x.op || isLoad x.op) = true) (hap : apartB ops x y = true) (hst : isLoad x.op = true → isStore y.op = false)
    (hsee : isLoad x.op = true → sx = true → sx' = true ∧ (pureOp y.op || isLoad y.op) = true) (h : opG P nt vis mb ops sx x st fun st1 => opG P nt vis mb ops si y st1 K) :
    opG P nt vis mb ops si y st fun st1 => opG P nt vis mb ops sx' x st1 K := by
  obtain ⟨a1, a2⟩ := apart_spec hap
  obtain ⟨v, hy, hev⟩ := still_evG hs h
  refine opG_shift (fun st1 hk k => ?_) a1 hy
  refine hev st1 sx' K (fun z hz => ?_) (fun j want g hg hj => ?_) (fun hl => ⟨k.bx (hst hl), k.nb⟩) (fun hl hsx => ?_) hk
  · cases z with
    | tmp t =>
      refine k.slots t fun e => ?_
      exact (notTmp (a2 t e)).1 (.tmp t) hz rfl
    | _ => rfl
  · refine k.slots g fun e => ?_
    exact (notTmp (a2 g e)).2.2 j want g hg hj rfl
  · obtain ⟨h1, h2⟩ := hsee hl hsx
    exact ⟨h1, k.h h2⟩

theorem sees_cons {anc : List (List Nat)} {i j : Nat} {y : Oper} {r : List Nat} (hj : ops[j]? = some y) (hy : (pureOp y.op || isLoad y.op) = true) : seesB ops anc i (j :: r) = seesB ops anc i r := by
  simp only [seesB, hj]
  rcases Bool.or_eq_true _ _ ▸ hy with h | h <;> simp [h]

theorem sees_mid {anc : List (List Nat)} {i j : Nat} {y : Oper} (hj : ops[j]? = some y) (hi : memN i ((anc[j]?).getD []) = false) : ∀ {l r : List Nat}, seesB ops anc i (l ++ j :: r) = true →
    seesB ops anc i (l ++ r) = true ∧ (pureOp y.op || isLoad y.op) = true
  | [], r, h => by
    simp only [List.nil_append, seesB, hj, hi, Bool.or_false, Bool.and_eq_true] at h
    exact ⟨h.2, h.1⟩
  | k :: l, r, h => by
    simp only [List.cons_append, seesB, Bool.and_eq_true] at h
    obtain ⟨h1, h2⟩ := sees_mid hj hi h.2
    refine ⟨?_, h2⟩
    simp only [List.cons_append, seesB, Bool.and_eq_true]
    exact ⟨h.1, h1⟩

/-- A call leaves what it does not see. -/
theorem CallsU.frame {f : FuncId} {args : List Value} {h : Heap} {R : Value → Heap → Prop} (c : CallsU P f args h R) {g : Nat} {b : Blk} (hg : h g = none) :
    CallsU P f args (h.put g b) fun v h'' => ∃ h', R v h' ∧ h' g = none ∧ h'' = h'.put g b := by
  refine ⟨c.1, fun w hw => ?_⟩
  have sg := hw g b (Heap.put_same _ _ _)
  have hlt : g < w.heap.size := (Array.getElem?_eq_some_iff.1 sg).1
  have sh : Sat h w := fun k x hk => hw k x (by
    have : k ≠ g := fun e => by rw [e, hg] at hk; cases hk
    rw [Heap.put_ne _ _ this]; exact hk)
  refine (c.2 w sh).mono ?_
  rintro e w' ⟨v, h', he, hr, hs, fr⟩
  have kg := fr.keep g hlt hg
  refine ⟨v, h'.put g b, he, ⟨h', hr, kg.1, rfl⟩, fun k x hk => ?_, ⟨fr.size, fr.os, fr.tape, fr.output, fun k hk h0 => ?_⟩⟩
  · by_cases e : k = g
    · subst e
      rw [Heap.put_same] at hk
      cases hk
      rw [kg.2, sg]
    · rw [Heap.put_ne _ _ e] at hk
      exact hs k x hk
  · have e : k ≠ g := fun e => by rw [e, Heap.put_same] at h0; cases h0
    rw [Heap.put_ne _ _ e] at h0
    have := fr.keep k hk h0
    exact ⟨by rw [Heap.put_ne _ _ e]; exact this.1, this.2⟩

theorem putK_putO {d : Option Nat} {v : SV} {st : St} (h : putK nt d v st K) : K (putO st d v) := (putK_get h).1

theorem putK_of {d : Nat} {v : SV} {st : St} (hd : Nat.blt d nt = true) (h : K (st.put d v)) : putK nt (some d) v st K := by
  simp only [putK, hd]
  exact h

theorem putK_imp {K' : St → Prop} {d : Option Nat} {v : SV} {st st' : St} (h : putK nt d v st K) (hk : K (putO st d v) → K' (putO st' d v)) : putK nt d v st' K' := by
  obtain ⟨h1, h2⟩ := putK_get h
  exact h2 _ _ (hk h1)

/-- A call and a new box change places. -/
theorem swapA {sx sx' si si' : Bool} {x y : Oper} {st : St} (hx : isFCall x.op = true) (hy : okAlloc P nt y = true) (gx : x.guard = none) (gy : y.guard = none) (hap : apartB ops x y = true)
    (h : opG P nt vis mb ops sx x st fun st1 => opG P nt vis mb ops si y st1 K) :
    opG P nt vis mb ops si' y st fun st1 => opG P nt vis mb ops sx' x st1 K := by
  obtain ⟨a1, a2⟩ := apart_spec hap
  obtain ⟨dx, ox, tx, px, ax, gx'⟩ := x
  obtain ⟨dy, oy, ty, py, ay, gy'⟩ := y
  simp only at gx gy hx
  subst gx gy
  unfold okAlloc at hy
  split at hy
  rotate_left
  · cases hy
  rename_i x1 x2 t d e1 e2
  simp only at e1 e2
  subst e1 e2
  simp only [Bool.and_eq_true] at hy
  obtain ⟨hd, hz⟩ := hy
  split at hz
  rotate_left
  · cases hz
  rename_i x3 zc hzc
  unfold isFCall at hx
  split at hx
  rotate_left
  · cases hx
  rename_i x4 f as ats
  simp only [opG, opV, hzc] at h ⊢
  obtain ⟨args, hargs⟩ : ∃ args, evs st as.toList = some args := by
    cases q : evs st as.toList with
    | none => simp only [q] at h
    | some args => exact ⟨args, rfl⟩
  simp only [hargs] at h
  have hne : ∀ e, dx = some e → e ≠ d := fun e he q => by
    subst he q
    exact (notTmp (a1 e rfl)).2.1 rfl
  have hev : ∀ (st' : St), (∀ t, t ≠ d → st'.f t = st.f t) → evs st' as.toList = some args := fun st' hst => by
    rw [← hargs]
    refine evs_congr _ fun z hz => ?_
    cases z with
    | tmp t =>
      refine hst t fun q => ?_
      subst q
      exact (notTmp (a2 t rfl)).1 (.tmp t) (by simp only [Op.operands, Call.operands]; simp; simpa using hz) rfl
    | _ => rfl
  have hslot : ∀ (st' : St) (v : SV), (∀ t, st'.f t = st.f t) → ∀ t, t ≠ d → (st'.put d v).f t = st.f t := fun st' v hs t ht => by
    simp only [St.put, beq_ne ht, cond_false]
    exact hs t
  unfold boxR at h ⊢
  simp only [hz] at h ⊢
  cases hv : isVis vis (some d) with
  | false =>
    simp only [hv] at h ⊢
    refine putK_of hd ?_
    rw [hev ((St.mk st.f (fun i => bif Nat.beq i st.nb then zc else st.B i) (st.nb + 1) st.h).put d (.bx st.nb 0)) (hslot _ _ fun _ => rfl)]
    refine h.mono fun v h1 hr => resR_mono hr fun z hk => ?_
    refine putK_imp hk fun hk => ?_
    have hk' := putK_putO hk
    cases dx with
    | none => exact hk'
    | some e =>
      simp only [putO] at hk' ⊢
      rw [show ((St.mk st.f (fun i => bif Nat.beq i st.nb then zc else st.B i) (st.nb + 1) st.h).put d (.bx st.nb 0)).setH h1 = (St.mk st.f (fun i => bif Nat.beq i st.nb then zc else st.B i) (st.nb + 1) h1).put d (.bx st.nb 0) from rfl]
      rw [put_comm _ _ _ (hne e rfl).symm]
      exact hk'
  | true =>
    simp only [hv] at h ⊢
    intro g h' hg hh'
    refine putK_of hd ?_
    rw [hev ((st.setH h').put d (.v (.pointer (some ⟨g, 0, none⟩)))) (hslot (st.setH h') _ fun _ => rfl)]
    subst hh'
    refine (CallsU.frame h hg).mono ?_
    rintro v h2 ⟨h1, hr, hg1, rfl⟩
    refine resR_mono hr fun z hk => ?_
    refine putK_imp hk fun hk => ?_
    have hk' := putK_putO (hk g _ (by rw [putO_h]; exact hg1) rfl)
    cases dx with
    | none => exact hk'
    | some e =>
      simp only [putO] at hk' ⊢
      rw [show (St.put (st.setH (Heap.put st.h g ⟨zc, t, (0, 0)⟩)) d (.v (.pointer (some ⟨g, 0, none⟩)))).setH (Heap.put h1 g ⟨zc, t, (0, 0)⟩) = (st.setH (Heap.put h1 g ⟨zc, t, (0, 0)⟩)).put d (.v (.pointer (some ⟨g, 0, none⟩))) from rfl]
      rw [put_comm _ _ _ (hne e rfl).symm]
      exact hk'

theorem okAlloc_spec {y : Oper} (hy : okAlloc P nt y = true) : ∃ t d z, y.op = .alloc t ∧ y.dst = some d ∧ Nat.blt d nt = true ∧ zeroCellsOf P t = some z ∧ allOne z = true := by
  unfold okAlloc at hy
  split at hy
  · rename_i t d e1 e2
    simp only [Bool.and_eq_true] at hy
    obtain ⟨hd, hz⟩ := hy
    split at hz
    · rename_i z hzc
      exact ⟨t, d, z, e1, e2, hd, hzc, hz⟩
    · cases hz
  · cases hy

/-- Two new boxes change places, but for their names. -/
theorem swapB {sx sx' si si' : Bool} {x y : Oper} {st : St} {n : Nat} (hn : n ≤ st.nb) (hw : WF st) (hx : okAlloc P nt x = true) (hy : okAlloc P nt y = true) (gx : x.guard = none) (gy : y.guard = none) (hap : apartB ops x y = true)
    (h : opG P nt vis mb ops sx x st fun st1 => opG P nt vis mb ops si y st1 K) :
    opG P nt vis mb ops si' y st fun st1 => opG P nt vis mb ops sx' x st1 (Kc n K) := by
  obtain ⟨a1, _⟩ := apart_spec hap
  obtain ⟨t1, d, z1, e1, e2, e3, e4, e5⟩ := okAlloc_spec hx
  obtain ⟨t2, e, z2, f1, f2, f3, f4, f5⟩ := okAlloc_spec hy
  have hne : d ≠ e := fun q => by
    subst q
    exact (notTmp (a1 d e2)).2.1 f2
  have unf : ∀ (see : Bool) (o : Oper) (t : TypeId) (z : List Value) (dd : Nat) (S : St) (K' : St → Prop), o.guard = none → o.op = .alloc t → o.dst = some dd → zeroCellsOf P t = some z → opG P nt vis mb ops see o S K' = boxR nt vis (some dd) t z S K' := by
    intro see o t z dd S K' q1 q2 q3 q4
    unfold opG opV
    simp only [q1, q2, q3, q4]
  rw [unf si' y t2 z2 e _ _ gy f1 f2 f4]
  rw [unf sx x t1 z1 d _ _ gx e1 e2 e4] at h
  have goal : ∀ S, opG P nt vis mb ops sx' x S (Kc n K) = boxR nt vis (some d) t1 z1 S (Kc n K) := fun S => unf sx' x t1 z1 d S _ gx e1 e2 e4
  have hyp : ∀ S, opG P nt vis mb ops si y S K = boxR nt vis (some e) t2 z2 S K := fun S => unf si y t2 z2 e S _ gy f1 f2 f4
  simp only [goal]
  simp only [hyp] at h
  unfold boxR at h ⊢
  simp only [e5, f5] at h ⊢
  cases hv1 : isVis vis (some d) <;> cases hv2 : isVis vis (some e) <;> simp only [hv1, hv2] at h ⊢
  · refine putK_of f3 (putK_of e3 ?_)
    have hk := putK_putO (putK_putO h)
    simp only [putO] at hk
    refine Kc.ren (a := st.nb) (b := st.nb + 1) hn (by omega) (by show st.nb < st.nb + 1 + 1; omega) (by show st.nb + 1 < st.nb + 1 + 1; omega) ?_
    have hs1 : swp st.nb (st.nb + 1) st.nb = st.nb + 1 := by unfold swp; simp
    have hs2 : swp st.nb (st.nb + 1) (st.nb + 1) = st.nb := by unfold swp; simp
    have hbq : Nat.beq st.nb (st.nb + 1) = false := beq_ne (by omega)
    refine cast (congrArg K ?_) hk
    simp only [Go.Vcg.ren, St.put, St.mk.injEq, and_true]
    refine ⟨?_, ?_⟩
    · funext t
      by_cases q1 : t = d
      · subst q1
        simp [beq_ne hne, SV.ren, hs2]
      · by_cases q2 : t = e
        · subst q2
          simp [beq_ne q1, SV.ren, hs1]
        · simp only [beq_ne q1, beq_ne q2, cond_false]
          cases hf : st.f t with
          | none => rfl
          | some v =>
            cases v with
            | v z => rfl
            | bx i off =>
              have := hw t i off hf
              simp only [Option.map_some, SV.ren]
              rw [swp_out (by omega) (by omega)]
    · funext i
      by_cases q1 : i = st.nb
      · subst q1
        rw [hs1]
        simp [hbq]
      · by_cases q2 : i = st.nb + 1
        · subst q2
          rw [hs2]
          simp [hbq]
        · rw [swp_out q1 q2]
          simp [beq_ne q1, beq_ne q2]
  · intro g h' hg hh'
    refine putK_of f3 (putK_of e3 (Kc.of ?_))
    have hk := putK_putO ((putK_putO h) g h' hg hh')
    simp only [putO] at hk
    refine cast (congrArg K ?_) hk
    exact put_comm { st with nb := st.nb + 1, B := fun i => bif Nat.beq i st.nb then z1 else st.B i, h := h' } _ _ hne
  · refine putK_of f3 ?_
    intro g h' hg hh'
    refine putK_of e3 (Kc.of ?_)
    have hk := putK_putO (putK_putO (h g h' hg hh'))
    simp only [putO] at hk
    refine cast (congrArg K ?_) hk
    exact put_comm { st with nb := st.nb + 1, B := fun i => bif Nat.beq i st.nb then z2 else st.B i, h := h' } _ _ hne
  · intro g h' hg hh'
    refine putK_of f3 ?_
    intro g2 h2 hg2 hh2
    subst hh'
    have hg2' : g2 ≠ g := fun q => by
      rw [q] at hg2
      have : (st.h.put g ⟨z2, t2, (0, 0)⟩) g = none := hg2
      rw [Heap.put_same] at this
      cases this
    have hst2 : st.h g2 = none := by
      have : (st.h.put g ⟨z2, t2, (0, 0)⟩) g2 = none := hg2
      rwa [Heap.put_ne _ _ hg2'] at this
    have h1 := putK_putO (h g2 _ hst2 rfl)
    have hgn : (st.h.put g2 ⟨z1, t1, (0, 0)⟩) g = none := by rw [Heap.put_ne _ _ hg2'.symm]; exact hg
    have hk := putK_putO (h1 g _ hgn rfl)
    refine putK_of e3 (Kc.of ?_)
    simp only [putO] at hk
    refine cast (congrArg K ?_) hk
    have eh : (st.h.put g2 ⟨z1, t1, (0, 0)⟩).put g ⟨z2, t2, (0, 0)⟩ = h2 := by
      rw [hh2]
      funext k
      show _ = ((st.h.put g ⟨z2, t2, (0, 0)⟩).put g2 ⟨z1, t1, (0, 0)⟩) k
      unfold Heap.put
      by_cases q1 : k = g
      · subst q1; simp [hg2'.symm]
      · by_cases q2 : k = g2
        · subst q2; simp [q1]
        · simp [q1, q2]
    rw [← eh]
    exact put_comm (st.setH ((st.h.put g2 ⟨z1, t1, (0, 0)⟩).put g ⟨z2, t2, (0, 0)⟩)) _ _ hne

theorem drawV_mono {anc : List (List Nat)} {K' : St → Prop} (hm : ∀ st, K st → K' st) : ∀ (l : List Nat) {st : St}, drawV P nt vis mb ops anc l st K → drawV P nt vis mb ops anc l st K'
  | [], st, h => hm st h
  | i :: r, st, h => by
    simp only [drawV] at h ⊢
    split
    · rename_i o ho
      simp only [ho] at h
      exact opG_mono (fun st1 h => drawV_mono hm r h) h
    · rename_i ho
      simp only [ho] at h

theorem opG_nb {see : Bool} {o : Oper} {st : St} (h : opG P nt vis mb ops see o st K) : opG P nt vis mb ops see o st fun st1 => st.nb ≤ st1.nb ∧ K st1 :=
  opG_shift (d := none) (v := .v undef) (fun _ h k => ⟨k.nb, h⟩) (fun _ e => by cases e) h

theorem drawV_ren {anc : List (List Nat)} {a b : Nat} (ma : mb a = true) (mbb : mb b = true) : ∀ (l : List Nat) {st : St}, a < st.nb → b < st.nb → drawV P nt vis mb ops anc l (ren a b st) K → drawV P nt vis mb ops anc l st fun st' => a < st'.nb ∧ b < st'.nb ∧ K (ren a b st')
  | [], st, ha, hb, h => ⟨ha, hb, h⟩
  | i :: r, st, ha, hb, h => by
    simp only [drawV] at h ⊢
    split
    · rename_i o ho
      simp only [ho] at h
      have h1 := opG_nb (opG_ren ha hb ma mbb h)
      exact opG_mono (fun st1 ⟨hn, h⟩ => drawV_ren ma mbb r (by omega) (by omega) h) h1
    · rename_i ho
      simp only [ho] at h

theorem drawV_kc {anc : List (List Nat)} {n : Nat} (hmb : ∀ i, n ≤ i → mb i = true) (l : List Nat) : ∀ (q : List (Nat × Nat)) {st : St} {K : St → Prop}, (∀ p ∈ q, n ≤ p.1 ∧ n ≤ p.2 ∧ p.1 < st.nb ∧ p.2 < st.nb) →
    drawV P nt vis mb ops anc l (q.foldl (fun st p => ren p.1 p.2 st) st) K → drawV P nt vis mb ops anc l st (Kc n K)
  | [], st, K, _, h => drawV_mono (fun _ h => Kc.of h) l h
  | p :: q, st, K, hq, h => by
    obtain ⟨h1, h2, h3, h4⟩ := hq p (by simp)
    have ih := drawV_kc hmb l q (st := ren p.1 p.2 st) (fun r hr => hq r (by simp [hr])) h
    exact drawV_mono (fun st' ⟨b1, b2, h⟩ => (Kc.ren h1 h2 b1 b2 h : Kc n (Kc n K) st').join) l (drawV_ren (hmb _ h1) (hmb _ h2) l h3 h4 ih)

/-- An operation that may pass all ahead of it is taken first. -/
theorem pull {anc : List (List Nat)} {i n : Nat} {y : Oper} (hy : ops[i]? = some y) (hmb : ∀ i, n ≤ i → mb i = true) : ∀ (l r : List Nat) {st : St}, n ≤ st.nb → WF st →
    (∀ j ∈ l, memN j ((anc[i]?).getD []) = false ∧ ∃ x, ops[j]? = some x ∧ mayPass (okAlloc P nt) ops x y = true) → drawV P nt vis mb ops anc (l ++ i :: r) st K → drawV P nt vis mb ops anc (i :: (l ++ r)) st (Kc n K)
  | [], r, st, _, _, _, h => drawV_mono (fun _ h => Kc.of h) _ h
  | j :: l, r, st, hn, hwf, hl, h => by
    obtain ⟨hnot, x, hx, hp⟩ := hl j (by simp)
    simp only [mayPass, Bool.and_eq_true, Bool.or_eq_true, Bool.not_eq_true'] at hp
    obtain ⟨hap, hpl⟩ := hp
    simp only [List.cons_append, drawV, hx] at h
    have h0 := opG_nb (opG_wf hwf h)
    have h1 := opG_mono (fun st1 ⟨hn1, hw1, h⟩ => pull hy hmb l r (by omega) hw1 (fun k hk => hl k (by simp [hk])) h) h0
    simp only [drawV, hy] at h1
    simp only [List.cons_append, drawV, hy, hx]
    rcases hpl with (hpl | ⟨⟨⟨c1, c2⟩, c3⟩, c4⟩) | ⟨⟨⟨c1, c2⟩, c3⟩, c4⟩
    · have hs : (pureOp x.op || isLoad x.op) = true := by rcases hpl with h | h; simp [h]; simp [h.1]
      rw [sees_cons hx hs]
      refine swap hs hap (fun q => ?_) (fun q hsx => ?_) h1
      · rcases hpl with h | h
        · cases hop : x.op <;> rw [hop] at q h <;> simp_all [isLoad, pureOp]
        · exact h.2
      · exact sees_mid hy hnot hsx
    · exact swapA c1 c2 (by simpa using c3) (by simpa using c4) hap h1
    · have h2 := swapB (si' := seesB ops anc i (j :: (l ++ r))) (sx' := seesB ops anc j (l ++ r)) hn hwf c1 c2 (by simpa using c3) (by simpa using c4) hap h1
      exact opG_mono (fun st1 h => opG_mono (fun st2 ⟨q, hq, h⟩ => drawV_mono (fun _ h => Kc.join h) _ (drawV_kc hmb (l ++ r) q hq h)) h) h2
end

section
variable {P : Program} {nt : Nat} {h0 : Heap} {w0 : World} {mb vis : Nat → Bool}

theorem passOk_mem {ops : List Oper} {anc : List (List Nat)} {i : Nat} : ∀ {r : List Nat}, passOk (okAlloc P nt) ops anc i r = true → ∀ j ∈ r, memN i ((anc[j]?).getD []) = true ∨ ∃ x y, ops[i]? = some x ∧ ops[j]? = some y ∧ mayPass (okAlloc P nt) ops x y = true
  | [], _, j, hj => by cases hj
  | k :: r, h, j, hj => by
    simp only [passOk, Bool.and_eq_true, Bool.or_eq_true] at h
    rcases List.mem_cons.1 hj with rfl | hj
    · rcases h.1 with h | h
      · exact .inl h
      · split at h
        · rename_i x y hx hy; exact .inr ⟨x, y, hx, hy, h⟩
        · cases h
    · exact passOk_mem h.2 j hj

theorem passOk_sub {ops : List Oper} {anc : List (List Nat)} {i k : Nat} : ∀ {l r : List Nat}, passOk (okAlloc P nt) ops anc i (l ++ k :: r) = true → passOk (okAlloc P nt) ops anc i (l ++ r) = true
  | [], r, h => by simp only [List.nil_append, passOk, Bool.and_eq_true] at h; exact h.2
  | j :: l, r, h => by
    simp only [List.cons_append, passOk, Bool.and_eq_true] at h ⊢
    exact ⟨h.1, passOk_sub h.2⟩

theorem orderOk_sub {ops : List Oper} {anc : List (List Nat)} {k : Nat} : ∀ {l r : List Nat}, orderOk (okAlloc P nt) ops anc (l ++ k :: r) = true → orderOk (okAlloc P nt) ops anc (l ++ r) = true
  | [], r, h => by simp only [List.nil_append, orderOk, Bool.and_eq_true] at h; exact h.2
  | j :: l, r, h => by
    simp only [List.cons_append, orderOk, Bool.and_eq_true] at h ⊢
    exact ⟨passOk_sub h.1, orderOk_sub h.2⟩

theorem orderOk_mid {ops : List Oper} {anc : List (List Nat)} {i : Nat} : ∀ {l r : List Nat}, orderOk (okAlloc P nt) ops anc (l ++ i :: r) = true → ∀ j ∈ l, passOk (okAlloc P nt) ops anc j (i :: r) = true ∨ (memN j ((anc[i]?).getD []) = true ∨ ∃ x y, ops[j]? = some x ∧ ops[i]? = some y ∧ mayPass (okAlloc P nt) ops x y = true)
  | k :: l, r, h, j, hj => by
    simp only [List.cons_append, orderOk, Bool.and_eq_true] at h
    rcases List.mem_cons.1 hj with rfl | hj
    · exact .inr (passOk_mem h.1 i (by simp))
    · exact orderOk_mid h.2 j hj

theorem dst_writes {t : Nat} : ∀ {l : List Oper} {i : Nat} {o : Oper}, l[i]? = some o → opsWrite t l = false → dstW o.dst t = false
  | [], i, o, h, _ => by simp at h
  | x :: r, i, o, h, hw => by
    simp only [opsWrite] at hw
    have both : dstW x.dst t = false ∧ opsWrite t r = false := by
      split at hw
      · rename_i d hd
        rw [hd]
        simp only [dstW]
        cases hb : Nat.beq t d with
        | true => rw [hb] at hw; cases hw
        | false => rw [hb] at hw; exact ⟨rfl, hw⟩
      · rename_i hd; rw [hd]; exact ⟨rfl, hw⟩
    cases i with
    | zero => simp only [List.getElem?_cons_zero, Option.some.injEq] at h; subst h; exact both.1
    | succ i => exact dst_writes (by simpa using h) both.2

theorem backEs_mem {i : Nat} : ∀ {es : List Edge}, backEs i es = true → ∀ e ∈ es, Region.binds .any e = true → e.on < i
  | [], _, e, he, _ => by cases he
  | x :: r, h, e, he, hb => by
    simp only [backEs, Bool.and_eq_true, Bool.or_eq_true, Bool.not_eq_true'] at h
    rcases List.mem_cons.1 he with rfl | he
    · rcases h.1 with h | h
      · rw [hb] at h; cases h
      · simpa [Nat.blt_eq] using h
    · exact backEs_mem h.2 e he hb

theorem backOk_get : ∀ {l : List Oper} {k i : Nat} {o : Oper}, backOk k l = true → l[i]? = some o → ∀ e ∈ o.after.toList, Region.binds .any e = true → e.on < k + i
  | [], k, i, o, _, h, _, _, _ => by simp at h
  | x :: r, k, i, o, hb, h, e, he, hbd => by
    simp only [backOk, Bool.and_eq_true] at hb
    cases i with
    | zero => simp only [List.getElem?_cons_zero, Option.some.injEq] at h; subst h; exact backEs_mem hb.1 e he hbd
    | succ i => have := backOk_get hb.2 (i := i) (by simpa using h) e he hbd; omega

theorem exists_least {L : List Nat} (h : L ≠ []) : ∃ i ∈ L, ∀ j ∈ L, i ≤ j := by
  induction L with
  | nil => exact absurd rfl h
  | cons a r ih =>
    cases r with
    | nil => exact ⟨a, by simp, fun j hj => by simp at hj; omega⟩
    | cons b r =>
      obtain ⟨i, hi, hm⟩ := ih (by simp)
      by_cases hle : a ≤ i
      · exact ⟨a, by simp, fun j hj => by rcases List.mem_cons.1 hj with rfl | hj; exact Nat.le_refl _; exact Nat.le_trans hle (hm j hj)⟩
      · exact ⟨i, by simp [hi], fun j hj => by rcases List.mem_cons.1 hj with rfl | hj; omega; exact hm j hj⟩

theorem draw_sound {ops : Array Oper} {Qv : Exit → St → Prop} {W : Nat → Bool} {sB : Nat → Nat} {stB : St} {aB : Act} (hmb : ∀ i, stB.nb ≤ i → mb i = true) (hW : ∀ t, W t = false → opsWrite t ops.toList = false) (hback : backOk 0 ops.toList = true) :
    ∀ (fuel : Nat) (L : List Nat) (listed : Array Bool) (s : Nat → Nat) (st : St) (a : Act) (w : World), L.length = fuel → L.Nodup → listed.size = ops.size → (∀ i, i ∈ L ↔ (i < ops.size ∧ listed.getD i false = false)) →
      (∀ (i : Nat) (o : Oper), listed.getD i false = true → ops.toList[i]? = some o → ∀ e ∈ o.after.toList, Region.binds .any e = true → listed.getD e.on false = true) →
      orderOk (okAlloc P nt) ops.toList (ancs ops.toList []) L = true → Good nt h0 w0 s st a w → Ext W mb sB stB aB s st a → drawV P nt vis mb ops.toList (ancs ops.toList []) L st (Kc stB.nb (Qv .normal)) →
      wpAny P .any ops (PostP nt h0 w0 Qv W mb sB stB aB) fuel listed a w := by
  have hgd : ∀ (l : Array Bool) (i : Nat), l.size = ops.size → i < ops.size → l.getD i true = l.getD i false := fun l i h1 h2 => by
    have : i < l.size := by omega
    simp [this]
  have ready_mem : ∀ (L : List Nat) (listed : Array Bool) (i : Nat), listed.size = ops.size → (∀ i, i ∈ L ↔ (i < ops.size ∧ listed.getD i false = false)) → i ∈ Region.ready .any ops listed →
      i ∈ L ∧ ∃ o, ops[i]? = some o ∧ ∀ e ∈ o.after.toList, Region.binds .any e = true → listed.getD e.on false = true := by
    intro L listed i hsz hmem hi
    rw [mem_ready] at hi
    obtain ⟨h1, o, ho, h2⟩ := hi
    have hlt : i < ops.size := (Array.getElem?_eq_some_iff.1 ho).1
    refine ⟨(hmem i).2 ⟨hlt, by rw [← hgd listed i hsz hlt]; exact h1⟩, o, ho, fun e he hb => h2 e (by simpa using he) hb⟩
  intro fuel
  induction fuel with
  | zero =>
    intro L listed s st a w hl _ hsz hmem _ _ g e hv
    have hL : L = [] := List.eq_nil_of_length_eq_zero hl
    subst hL
    obtain ⟨q, hq, hk⟩ := hv
    obtain ⟨s1, st1, hk1, g1, e1⟩ := Kc.post q hq hk g e
    refine ⟨?_, st1, s1, hk1, g1, e1⟩
    apply List.eq_nil_iff_forall_not_mem.2
    intro i hi
    have := (ready_mem [] listed i hsz hmem hi).1
    cases this
  | succ fuel ih =>
    intro L listed s st a w hl hnd hsz hmem hcl hok g e hv
    refine ⟨fun hr => ?_, fun i hi => ?_⟩
    · exfalso
      have hne : L ≠ [] := fun q => by rw [q] at hl; simp at hl
      obtain ⟨i, hi, hmin⟩ := exists_least hne
      obtain ⟨hlt, hun⟩ := (hmem i).1 hi
      have : i ∈ Region.ready .any ops listed := by
        rw [mem_ready]
        refine ⟨by rw [hgd listed i hsz hlt]; exact hun, ops[i], Array.getElem?_eq_getElem hlt, fun e he hb => ?_⟩
        have hon := backOk_get hback (i := i) (o := ops[i]) (by simp [hlt]) e (by simpa using he) hb
        cases hq : listed.getD e.on false with
        | true => rfl
        | false =>
          have := hmin e.on ((hmem e.on).2 ⟨by omega, hq⟩)
          omega
      rw [hr] at this
      cases this
    · obtain ⟨hiL, o, ho, hpre⟩ := ready_mem L listed i hsz hmem hi
      have ho' : ops.toList[i]? = some o := by simpa using ho
      obtain ⟨l, r, rfl⟩ := List.append_of_mem hiL
      have hlt : i < ops.size := ((hmem i).1 hiL).1
      have hrows := ancs_rows ops.toList
      -- what stands ahead may be passed
      have hpass : ∀ j ∈ l, memN j (((ancs ops.toList [])[i]?).getD []) = false ∧ ∃ x, ops.toList[j]? = some x ∧ mayPass (okAlloc P nt) ops.toList x o = true := by
        intro j hj
        have hjL : j ∈ l ++ i :: r := by simp [hj]
        have hjun := ((hmem j).1 hjL).2
        have hnot : memN j (((ancs ops.toList [])[i]?).getD []) = false := by
          cases hm : memN j (((ancs ops.toList [])[i]?).getD []) with
          | false => rfl
          | true =>
            exfalso
            have hjm := memN_iff.1 hm
            cases hrow : (ancs ops.toList [])[i]? with
            | none => rw [hrow] at hjm; simp at hjm
            | some row =>
              rw [hrow] at hjm
              have := hrows (fun k => listed.getD k false = true) (fun i o h1 h2 e he hb => hcl i o h1 h2 e he hb) i o row ho' hrow hpre j (by simpa using hjm)
              rw [hjun] at this
              cases this
        refine ⟨hnot, ?_⟩
        rcases orderOk_mid hok j hj with h | h | ⟨x, y, hx, hy, hp⟩
        · rcases passOk_mem h i (by simp) with h | ⟨x, y, hx, hy, hp⟩
          · rw [hnot] at h; cases h
          · rw [ho'] at hy; simp only [Option.some.injEq] at hy; subst hy; exact ⟨x, hx, hp⟩
        · rw [hnot] at h; cases h
        · rw [ho'] at hy; simp only [Option.some.injEq] at hy; subst hy; exact ⟨x, hx, hp⟩
      have hv' := drawV_mono (fun _ h => Kc.join h) _ (pull ho' hmb l r e.nb g.wfb hpass hv)
      simp only [drawV, ho'] at hv'
      have hnd' := List.nodup_append.1 hnd
      have hnin : i ∉ l ++ r := by
        intro hm
        rcases List.mem_append.1 hm with hm | hm
        · exact hnd'.2.2 i hm i (by simp) rfl
        · exact (List.nodup_cons.1 hnd'.2.1).1 hm
      have next : ∀ a' w', NextP nt h0 w0 (fun st' => drawV P nt vis mb ops.toList (ancs ops.toList []) (l ++ r) st' (Kc stB.nb (Qv .normal))) (dstW o.dst) mb s st a a' w' →
          wpAny P .any ops (PostP nt h0 w0 Qv W mb sB stB aB) fuel (listed.setIfInBounds i true) a' w' := by
        rintro a' w' ⟨st', s', hk, g', e'⟩
        refine ih (l ++ r) (listed.setIfInBounds i true) s' st' a' w' ?_ ?_ ?_ ?_ ?_ (orderOk_sub hok) g' (e.step e' fun t ht => dst_writes ho' (hW t ht)) hk
        · simp at hl ⊢; omega
        · rw [List.nodup_append]
          exact ⟨hnd'.1, (List.nodup_cons.1 hnd'.2.1).2, fun x hx y hy => hnd'.2.2 x hx y (by simp [hy])⟩
        · simp [hsz]
        · intro j
          by_cases hji : j = i
          · subst hji
            have : (listed.setIfInBounds j true).getD j false = true := by
              have : j < listed.size := by omega
              simp [this]
            rw [this]
            exact ⟨fun h => absurd h hnin, fun h => by cases h.2⟩
          · rw [getD_set_ne false (fun e => hji e.symm), ← hmem j]
            simp [hji]
        · intro k ok hk' hok' e he hb
          by_cases hki : k = i
          · subst hki
            rw [ho'] at hok'
            simp only [Option.some.injEq] at hok'
            subst hok'
            exact getD_set_true (hpre e he hb)
          · rw [getD_set_ne false (fun e => hki e.symm)] at hk'
            exact getD_set_true (hcl k ok hk' hok' e he hb)
      have h1 := opG_sound (Q := PostP nt h0 w0 Qv W mb sB stB aB) g hv'
      unfold wpOp
      simp only [ho]
      split
      · rename_i hw
        rw [if_pos hw] at h1
        exact .inl (Oper.wp_mono next h1)
      · rename_i hw
        rw [if_neg hw] at h1
        exact next _ _ h1

theorem nodupN_iff : ∀ {L : List Nat}, nodupN L = true → L.Nodup
  | [], _ => List.nodup_nil
  | i :: r, h => by
    simp only [nodupN, Bool.and_eq_true, Bool.not_eq_true'] at h
    refine List.nodup_cons.2 ⟨fun hm => ?_, nodupN_iff h.2⟩
    rw [memN_iff.2 hm] at h
    cases h.1

theorem region_draw_sound {ops : Array Oper} {Qv : Exit → St → Prop} {W : Nat → Bool} {sB : Nat → Nat} {stB : St} {aB : Act} {id : Nat} {L : List Nat} {s : Nat → Nat} {st : St} {a : Act} {w : World} (hmix : P.follows .mixedOrders = true) (hmb : ∀ i, stB.nb ≤ i → mb i = true)
    (hW : ∀ t, W t = false → opsWrite t ops.toList = false) (hc : (permOk ops.size L && backOk 0 ops.toList && orderOk (okAlloc P nt) ops.toList (ancs ops.toList []) L) = true) (g : Good nt h0 w0 s st a w) (e : Ext W mb sB stB aB s st a)
    (hv : drawV P nt vis mb ops.toList (ancs ops.toList []) L st (Qv .normal)) : (Code.region id ops true).wp P (PostP nt h0 w0 Qv W mb sB stB aB) a w := by
  simp only [Bool.and_eq_true, permOk] at hc
  obtain ⟨⟨⟨⟨⟨hlen, hnd⟩, hall⟩, hlt⟩, hback⟩, hok⟩ := hc
  refine wp_region_any hmix (draw_sound hmb hW hback ops.size L _ s st a _ (beq_eq hlen) (nodupN_iff hnd) (by simp) (fun i => ?_) ?_ hok (g.drawn _) e (drawV_mono (fun _ h => Kc.of h) _ hv))
  · have hrep : (Array.replicate ops.size false).getD i false = false := by
      simp [Array.getD_eq_getD_getElem?, Array.getElem?_replicate]
      split <;> rfl
    rw [hrep]
    constructor
    · intro hi
      have := List.all_eq_true.1 hlt i hi
      exact ⟨by simpa [Nat.blt_eq] using this, rfl⟩
    · rintro ⟨hi, _⟩
      have := List.all_eq_true.1 hall i (List.mem_range.2 hi)
      exact memN_iff.1 this
  · intro i o hi
    exfalso
    simp [Array.getD_eq_getD_getElem?, Array.getElem?_replicate] at hi
    split at hi <;> simp at hi
end
end Go.Vcg
