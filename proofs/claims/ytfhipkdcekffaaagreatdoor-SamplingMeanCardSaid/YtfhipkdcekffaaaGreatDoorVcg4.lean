/-
  The calculator is sound: code, loops, cuts, functions.
-/
import Derived.Test.YtfhipkdcekffaaaGreatDoorVcg14
namespace Go.Vcg
open Go

theorem wp_loop_idx {P : Program} {c : Code} {Q : Exit → Act → World → Prop} (I : Nat → Act → World → Prop)
    (round : ∀ m a w, I m a w → c.wp P (Exit.then (fun a' w' => ∃ m', m' < m ∧ I m' a' w') Q) a w) : ∀ m a w, I m a w → (Code.loop c).wp P Q a w := by
  intro m a w hI b k cs
  have key : ∀ m a w, I m a w → ∃ e a' w', Q e a' w' ∧ Arrives P (lone (b.at a (.code c :: .inLoop c :: k)) cs w) b k cs e a' w' := by
    intro m
    induction m using Nat.strongRecOn with
    | _ m ih =>
      intro a w hI
      obtain ⟨e, a₁, w₁, hq, harr⟩ := round m a w hI b (.inLoop c :: k) cs
      cases e with
      | normal =>
        obtain ⟨m', hlt, hI₁⟩ := hq
        obtain ⟨e₂, a₂, w₂, hq₂, harr₂⟩ := ih m' hlt a₁ w₁ hI₁
        exact ⟨e₂, a₂, w₂, hq₂, .of_steps (Steps.trans harr (.one step_inLoop)) harr₂⟩
      | exit id => exact ⟨_, a₁, w₁, hq, .pass (x := .inLoop c) rfl (fun _ _ => .inl (by simp)) harr⟩
      | goto l => exact ⟨_, a₁, w₁, hq, .pass (x := .inLoop c) rfl (fun _ _ => .inl (by simp)) harr⟩
      | ret => exact ⟨_, a₁, w₁, hq, .pass (x := .inLoop c) rfl (fun _ _ => .inl (by simp)) harr⟩
      | panic ch => exact ⟨_, a₁, w₁, hq, .pass (x := .inLoop c) rfl (fun _ _ => .inl (by simp)) harr⟩
      | outgrown => exact ⟨_, a₁, w₁, hq, .pass (x := .inLoop c) rfl (fun _ _ => .inl (by simp)) harr⟩
  obtain ⟨e, a', w', hq, harr⟩ := key m a w hI
  exact ⟨e, a', w', hq, .of_steps (.one step_loop) harr⟩

/-! ### what is generalized -/
theorem allL_app : ∀ (ss : List Sh) {F : List Value → Prop} {J : FunT ss} {vs : List Value} {h : Heap}, allL ss F → appV ss J vs h → F vs
  | [], F, J, [], h, ha, _ => ha
  | [], _, _, _ :: _, _, _, hj => hj.elim
  | .int k :: r, F, J, vs, h, ha, hj => by
    match vs, hj with
    | .int k' n :: vs, hj =>
      simp only [appV] at hj
      split at hj
      · rename_i hk
        have : k = k' := by simpa using hk
        subst this
        exact allL_app r (F := fun vs => F (.int k n :: vs)) (ha n) hj
      · exact hj.elim
  | .bool :: r, F, J, vs, h, ha, hj => by
    match vs, hj with
    | .bool b :: vs, hj => exact allL_app r (F := fun vs => F (.bool b :: vs)) (ha b) hj
  | .str :: r, F, J, vs, h, ha, hj => by
    match vs, hj with
    | .string b :: vs, hj => exact allL_app r (F := fun vs => F (.string b :: vs)) (ha b) hj
  | .slice :: r, F, J, vs, h, ha, hj => by
    match vs, hj with
    | .slice A n c :: vs, hj => exact allL_app r (F := fun vs => F (.slice A n c :: vs)) (ha A n c) hj
  | .ptr :: r, F, J, vs, h, ha, hj => by
    match vs, hj with
    | .pointer A :: vs, hj => exact allL_app r (F := fun vs => F (.pointer A :: vs)) (ha A) hj

theorem slotVals_len {st : St} : ∀ {l : List (Nat × Sh)} {vs : List Value}, slotVals st l = some vs → vs.length = l.length
  | [], vs, h => by simp only [slotVals, Option.some.injEq] at h; subst h; rfl
  | (t, _) :: r, vs, h => by
    simp only [slotVals] at h
    split at h
    · rename_i x l hx hl
      simp only [Option.some.injEq] at h
      subst h
      simp [slotVals_len hl]
    · cases h

theorem headF_rep {st : St} {f : Nat → Option SV} : ∀ {l : List (Nat × Sh)} {vs : List Value}, slotVals st l = some vs → ∀ t x, headF l vs f t = some x → st.f t = some x ∨ f t = some x
  | [], vs, h, t, x, hx => by
    simp only [slotVals, Option.some.injEq] at h
    subst h
    exact .inr hx
  | (s, _) :: r, vs, h, t, x, hx => by
    simp only [slotVals] at h
    split at h
    · rename_i y l hy hl
      simp only [Option.some.injEq] at h
      subst h
      simp only [headF] at hx
      by_cases e : t = s
      · subst e
        simp only [Nat.beq_refl, cond_true] at hx
        exact .inl (by rw [hy]; exact hx)
      · rw [beq_ne e] at hx
        exact headF_rep hl t x hx
    · cases h

theorem headF_bx {f : Nat → Option SV} : ∀ {l : List (Nat × Sh)} {vs : List Value} {t i off : Nat}, headF l vs f t = some (.bx i off) → f t = some (.bx i off)
  | [], _, _, _, _, h => h
  | (s, _) :: r, [], t, i, off, h => h
  | (s, _) :: r, v :: vs, t, i, off, h => by
    simp only [headF] at h
    by_cases e : t = s
    · subst e; simp at h
    · rw [beq_ne e] at h; exact headF_bx h

theorem headB_eq {st : St} {B : Nat → List Value} : ∀ {l : List (Nat × List Sh)} {vs : List Value}, boxVals st l = some vs → ∀ i, (inBoxes i l = false → B i = st.B i) → headB l vs B i = st.B i
  | [], vs, h, i, hi => hi rfl
  | (j, ss) :: r, vs, h, i, hi => by
    simp only [boxVals] at h
    split at h
    · rename_i l hlen hl
      simp only [Option.some.injEq] at h
      subst h
      have hlen' := beq_eq hlen
      simp only [headB]
      by_cases e : i = j
      · subst e
        simp only [Nat.beq_refl, cond_true]
        rw [← hlen', List.take_left']
        rfl
      · rw [beq_ne e]
        simp only [cond_false]
        rw [← hlen', List.drop_left']
        · exact headB_eq hl i fun q => hi (by simp [inBoxes, beq_ne e, q])
        · rfl
    · cases h

section
variable {P : Program} {nt : Nat} {h0 : Heap} {w0 : World} {vis : Nat → Bool}

/-- At a head, behind a way that leads there. -/
theorem head_good {k : Keep} {c : Code} {s s' : Nat → Nat} {st st' : St} {a a' : Act} {w w' : World} {mb : Nat → Bool} {vs : List Value} (g : Good nt h0 w0 s st a w) (g' : Good nt h0 w0 s' st' a' w')
    (e : Ext (fun t => writes t c) (k.mb st.nb mb) s st a s' st' a') (hvs : k.vals st' = some vs) :
    Good nt h0 w0 s' (k.head c st vs st'.h) a' w' ∧ Ext (fun t => writes t c) (k.mb st.nb mb) s st a s' (k.head c st vs st'.h) a' := by
  unfold Keep.vals at hvs
  split at hvs
  · rename_i v1 v2 h1 h2
    simp only [Option.some.injEq] at hvs
    subst hvs
    have hl := slotVals_len h1
    have et : (v1 ++ v2).take k.slots.length = v1 := by rw [← hl]; exact List.take_left' rfl
    have ed : (v1 ++ v2).drop k.slots.length = v2 := by rw [← hl]; exact List.drop_left' rfl
    have hB : ∀ i, i < st.nb → (k.head c st (v1 ++ v2) st'.h).B i = st'.B i := fun i hi => by
      simp only [Keep.head, ed]
      refine headB_eq h2 i fun hn => (e.bx i hi ?_).symm
      have : Nat.ble st.nb i = false := by
        cases hb : Nat.ble st.nb i with
        | false => rfl
        | true => have := Nat.le_of_ble_eq_true hb; omega
      simp [Keep.mb, this, hn]
    refine ⟨⟨g'.defers, g'.size, fun t x hx => ?_, g'.sat, g'.frm, fun i hi => ?_, fun i j hi hj => g'.inj i j (Nat.lt_of_lt_of_le hi e.nb) (Nat.lt_of_lt_of_le hj e.nb), fun t i off hx => ?_⟩,
      ⟨e.slots, Nat.le_refl _, e.sig, fun i hi hm => (hB i hi).trans (e.bx i hi hm)⟩⟩
    · simp only [Keep.head, et] at hx
      rcases headF_rep h1 t x hx with hx | hx
      · exact g'.rep t x hx
      · cases hw : writes t c with
        | true => rw [hw] at hx; cases hx
        | false =>
          rw [hw] at hx
          simp only [cond_false] at hx
          rw [e.slots t hw, g.rep t x hx]
          cases x with
          | v _ => rfl
          | bx i off => simp only [SV.val]; rw [e.sig i (g.wfb t i off hx)]
    · obtain ⟨b1, b2, ty, b3⟩ := g'.box i (Nat.lt_of_lt_of_le hi e.nb)
      refine ⟨b1, b2, ty, ?_⟩
      rw [hB i hi]
      exact b3
    · simp only [Keep.head] at hx
      have := headF_bx hx
      cases hw : writes t c with
      | true => rw [hw] at this; cases this
      | false => rw [hw] at this; exact g.wfb t i off this
  · cases hvs

theorem keep_ext {k : Keep} {W W' mb : Nat → Bool} {sB s s' : Nat → Nat} {stB st st' : St} {aB a a' : Act} (e : Ext W mb sB stB aB s st a) (e' : Ext W' (k.mb st.nb mb) s st a s' st' a')
    (hW : ∀ t, W t = false → W' t = false) : Ext W mb sB stB aB s' st' a' := by
  refine (e.trans (W' := W') ⟨e'.slots, e'.nb, e'.sig, fun i hi hm => e'.bx i hi ?_⟩).mono fun t ht => by rw [ht, hW t ht]; rfl
  have : Nat.ble st.nb i = false := by
    cases hb : Nat.ble st.nb i with
    | false => rfl
    | true => have := Nat.le_of_ble_eq_true hb; omega
  simp [Keep.mb, this, hm]

theorem post_mono {Qv Qv' : Exit → St → Prop} {W mb : Nat → Bool} {sB : Nat → Nat} {stB : St} {aB : Act} {e : Exit} {a : Act} {w : World} (h : PostP nt h0 w0 Qv W mb sB stB aB e a w) (hq : ∀ st, Qv e st → Qv' e st) :
    PostP nt h0 w0 Qv' W mb sB stB aB e a w := let ⟨st, s, q, r⟩ := h; ⟨st, s, hq st q, r⟩

theorem thenQ_other {n : St → Prop} {Q : Exit → St → Prop} {e : Exit} {st : St} (h : thenQ n Q e st) (he : e ≠ .normal) : Q e st := by
  cases e <;> first | exact h | exact absurd rfl he

theorem seq_plain {c1 c2 : Code} {Qv : Exit → St → Prop} {n : St → Prop} {W mb : Nat → Bool} {sB : Nat → Nat} {stB : St} {aB a : Act} {w : World}
    (h1 : c1.wp P (PostP nt h0 w0 (thenQ n Qv) W mb sB stB aB) a w)
    (h2 : ∀ s st a w, n st → Good nt h0 w0 s st a w → Ext W mb sB stB aB s st a → c2.wp P (PostP nt h0 w0 Qv W mb sB stB aB) a w) : (Code.seq c1 c2).wp P (PostP nt h0 w0 Qv W mb sB stB aB) a w := by
  refine wp_seq (wp_mono h1 fun e a' w' hp => ?_)
  obtain ⟨st', s', q, g', e'⟩ := hp
  by_cases he : e = .normal
  · subst he
    exact h2 s' st' a' w' q g' e'
  · have q' := thenQ_other q he
    cases e <;> first | exact absurd rfl he | exact ⟨st', s', q', g', e'⟩

theorem keep_mb (k : Keep) (n : Nat) (mb : Nat → Bool) : ∀ i, n ≤ i → k.mb n mb i = true := fun i hi => by
  unfold Keep.mb
  rw [Nat.ble_eq_true_of_le hi]
  rfl

theorem V_sound (hmix : P.follows .mixedOrders = true) : ∀ (c : Code) (an : Ann) (mb : Nat → Bool) (Qv : Exit → St → Prop) (W : Nat → Bool) (sB : Nat → Nat) (stB : St) (aB : Act) (s : Nat → Nat) (st : St) (a : Act) (w : World),
    (∀ t, W t = false → writes t c = false) → (∀ i, stB.nb ≤ i → mb i = true) → Good nt h0 w0 s st a w → Ext W mb sB stB aB s st a → V P nt vis c an mb Qv st → c.wp P (PostP nt h0 w0 Qv W mb sB stB aB) a w := by
  intro c
  induction c with
  | skip =>
    intro an mb Qv W sB stB aB s st a w _ _ g e hv
    simp only [V] at hv
    exact Go.wp_skip ⟨st, s, hv, g, e⟩
  | ret =>
    intro an mb Qv W sB stB aB s st a w _ _ g e hv
    simp only [V] at hv
    exact wp_ret ⟨st, s, hv, g, e⟩
  | exit id =>
    intro an mb Qv W sB stB aB s st a w _ _ g e hv
    simp only [V] at hv
    exact wp_exit ⟨st, s, hv, g, e⟩
  | region id ops draw =>
    intro an mb Qv W sB stB aB s st a w hW hm g e hv
    cases draw with
    | false =>
      simp only [V] at hv
      exact wp_region_list (opsV_sound ops.toList s st a w g e hW hv)
    | true =>
      cases an <;> simp only [V] at hv <;> try exact hv.elim
      split at hv
      · rename_i hc; exact region_draw_sound hmix hm hW hc g e hv
      · exact hv.elim
  | seq c1 c2 ih1 ih2 =>
    intro an mb Qv W sB stB aB s st a w hW hm g e hv
    have hW1 : ∀ t, W t = false → writes t c1 = false := fun t ht => by have := hW t ht; simp only [writes, Bool.or_eq_false_iff] at this; exact this.1
    have hW2 : ∀ t, W t = false → writes t c2 = false := fun t ht => by have := hW t ht; simp only [writes, Bool.or_eq_false_iff] at this; exact this.2
    have plain : ∀ x y, V P nt vis c1 x mb (thenQ (fun st' => V P nt vis c2 y mb Qv st') Qv) st → (Code.seq c1 c2).wp P (PostP nt h0 w0 Qv W mb sB stB aB) a w := fun x y hv =>
      seq_plain (ih1 x mb _ W sB stB aB s st a w hW1 hm g e hv) fun s st a w hn g e => ih2 y mb Qv W sB stB aB s st a w hW2 hm g e hn
    cases an with
    | two x y => simp only [V] at hv; exact plain x y hv
    | nil => simp only [V] at hv; exact plain _ _ hv
    | ord L => simp only [V] at hv; exact plain _ _ hv
    | one x => simp only [V] at hv; exact plain _ _ hv
    | loop k x => simp only [V] at hv; exact plain _ _ hv
    | cut k x y =>
      simp only [V] at hv
      obtain ⟨C, hb, ha⟩ := hv
      have h1 := ih1 x (k.mb st.nb mb) _ (fun t => writes t c1) s st a s st a w (fun _ h => h) (keep_mb k st.nb mb) g (Ext.refl _ _ _ _ _) ha
      refine wp_seq (wp_mono h1 fun ex a' w' hp => ?_)
      obtain ⟨st', s', q, g', e'⟩ := hp
      by_cases he : ex = .normal
      · subst he
        simp only [thenQ, Keep.app] at q
        split at q
        · rename_i vs hvs
          obtain ⟨gh, eh⟩ := head_good g g' e' hvs
          have hvb := allL_app k.shs hb q st'.h q
          exact ih2 y mb Qv W sB stB aB s' _ a' w' hW2 hm gh (keep_ext e eh hW1) hvb
        · exact q.elim
      · have q' := thenQ_other q he
        have e2 := keep_ext e e' hW1
        cases ex <;> first | exact absurd rfl he | exact ⟨st', s', q', g', e2⟩
  | cond c x y ihx ihy =>
    intro an mb Qv W sB stB aB s st a w hW hm g e hv
    have hWx : ∀ t, W t = false → writes t x = false := fun t ht => by have := hW t ht; simp only [writes, Bool.or_eq_false_iff] at this; exact this.1
    have hWy : ∀ t, W t = false → writes t y = false := fun t ht => by have := hW t ht; simp only [writes, Bool.or_eq_false_iff] at this; exact this.2
    have both : ∀ ax ay, (match ev st c with | some (.v (.bool t)) => Br t (V P nt vis x ax mb Qv st) (V P nt vis y ay mb Qv st) | _ => False) → (Code.cond c x y).wp P (PostP nt h0 w0 Qv W mb sB stB aB) a w := by
      intro ax ay hv
      split at hv
      · rename_i t hc
        have he := ev_eval g hc
        cases t with
        | true => exact wp_cond_true he (ihx ax mb Qv W sB stB aB s st a w hWx hm g e hv)
        | false => exact wp_cond_false he (ihy ay mb Qv W sB stB aB s st a w hWy hm g e hv)
      · exact hv.elim
    cases an with
    | two ax ay => simp only [V] at hv; exact both ax ay hv
    | nil => simp only [V] at hv; exact both _ _ hv
    | ord L => simp only [V] at hv; exact both _ _ hv
    | one x => simp only [V] at hv; exact both _ _ hv
    | loop k x => simp only [V] at hv; exact both _ _ hv
    | cut k x y => simp only [V] at hv; exact both _ _ hv
  | block id b ih =>
    intro an mb Qv W sB stB aB s st a w hW hm g e hv
    have go : ∀ x, V P nt vis b x mb (blockQ id Qv) st → (Code.block id b).wp P (PostP nt h0 w0 Qv W mb sB stB aB) a w := by
      intro x hv
      refine wp_block (wp_mono (ih x mb _ W sB stB aB s st a w hW hm g e hv) fun ex a' w' hp => ?_)
      obtain ⟨st', s', q, g', e'⟩ := hp
      cases ex with
      | exit i =>
        simp only [blockQ] at q
        simp only [Exit.inBlock]
        split at q
        · rename_i hb; rw [if_pos (beq_eq hb)]; exact ⟨st', s', q, g', e'⟩
        · rename_i hb
          have : i ≠ id := fun h => by subst h; simp at hb
          rw [if_neg this]; exact ⟨st', s', q, g', e'⟩
      | _ => exact ⟨st', s', q, g', e'⟩
    cases an with
    | one x => simp only [V] at hv; exact go x hv
    | two ax ay => simp only [V] at hv; exact go _ hv
    | nil => simp only [V] at hv; exact go _ hv
    | ord L => simp only [V] at hv; exact go _ hv
    | loop k x => simp only [V] at hv; exact go _ hv
    | cut k x y => simp only [V] at hv; exact go _ hv
  | loop b ih =>
    intro an mb Qv W sB stB aB s st a w hW hm g e hv
    cases an <;> simp only [V] at hv <;> try exact hv.elim
    rename_i k x
    obtain ⟨J, ⟨m, hinit⟩, hround⟩ := hv
    have hW' : ∀ t, W t = false → writes t b = false := hW
    refine wp_loop_idx (fun m a' w' => ∃ st' s', k.app (J m) st' ∧ Good nt h0 w0 s' st' a' w' ∧ Ext (fun t => writes t b) (k.mb st.nb mb) s st a s' st' a') ?_ m a w ⟨st, s, hinit, g, Ext.refl _ _ _ _ _⟩
    rintro m a' w' ⟨st', s', q, g', e'⟩
    simp only [Keep.app] at q
    split at q
    · rename_i vs hvs
      obtain ⟨gh, eh⟩ := head_good g g' e' hvs
      have hvb := allL_app k.shs (hround m) q st'.h q
      have h1 := ih x (k.mb st.nb mb) _ (fun t => writes t b) s st a s' _ a' w' (fun _ h => h) (keep_mb k st.nb mb) gh eh hvb
      refine wp_mono h1 fun ex a2 w2 hp => ?_
      obtain ⟨st2, s2, q2, g2, e2⟩ := hp
      by_cases he : ex = .normal
      · subst he
        obtain ⟨m', hlt, happ⟩ := q2
        exact ⟨m', hlt, st2, s2, happ, g2, e2⟩
      · have q' := thenQ_other q2 he
        have e3 := keep_ext e e2 hW'
        cases ex <;> first | exact absurd rfl he | exact ⟨st2, s2, q', g2, e3⟩
    · exact q.elim
  | _ =>
    intro an mb Qv W sB stB aB s st a w _ _ _ _ hv
    simp only [V] at hv

/-! ### results and functions -/
def resM (tmps : Array Value) : ResultVar → Sem Value
  | .tmp t => pure (tmps.getD t undef)
  | .cell a t => do loadVar t (← asAddr (tmps.getD a undef))

theorem resOne_run {s : Nat → Nat} {st : St} {a : Act} {w : World} (g : Good nt h0 w0 s st a w) {r : ResultVar} {v : Value} (h : resOne P st r = some v) :
    (resM a.tmps r).run P w = .ok v w := by
  cases r with
  | tmp t =>
    simp only [resOne] at h
    split at h
    · rename_i x hx
      simp only [Option.some.injEq] at h
      subst h
      simp only [resM]
      rw [show a.tmps.getD t undef = x from g.rep t _ hx]
      rfl
    · cases h
  | cell t ty =>
    simp only [resOne] at h
    split at h
    · rename_i i off ag n hx ha hn
      split at h
      · rename_i hc
        simp only [Option.some.injEq] at h
        subst h
        simp only [Bool.and_eq_true, Bool.or_eq_true, Nat.ble_eq] at hc
        obtain ⟨hle, hag⟩ := hc
        obtain ⟨_, _, ty', hb⟩ := g.box i (g.wfb t i off hx)
        have hlen : (((st.B i).drop off).take n).length = n := by simp; omega
        have ht : a.tmps.getD t undef = .pointer (some ⟨s i, off, none⟩) := g.rep t _ hx
        simp only [resM, ht, asAddr, pure_bind]
        exact run_loadVar (p := ⟨s i, off, none⟩) ha (by rw [hlen]; exact hn) (by rcases hag with h | h; exact .inl h; exact .inr (by rw [hlen]; exact beq_eq h)) hb rfl (by rw [hlen])
      · cases h
    · cases h

theorem resAll_run {s : Nat → Nat} {st : St} {a : Act} {w : World} (g : Good nt h0 w0 s st a w) : ∀ {l : List ResultVar} {vs : List Value}, resAll P st l = some vs →
    (l.mapM (resM a.tmps)).run P w = .ok vs w
  | [], vs, h => by simp only [resAll, Option.some.injEq] at h; subst h; rfl
  | r :: l, vs, h => by
    simp only [resAll] at h
    split at h
    · rename_i x y hx hy
      simp only [Option.some.injEq] at h
      subst h
      have h1 := resOne_run g hx
      have h2 := resAll_run g hy
      simp only [List.mapM_cons, Sem.run_bind, h1, h2, Result.andThen_ok, Sem.run_pure]
    · cases h

theorem results_run {fn : Func} {R : Value → Heap → Prop} {s : Nat → Nat} {st : St} {a : Act} {w : World} (g : Good nt h0 w0 s st a w) (h : retQ P fn R st) : ∃ v, (results fn a.tmps).run P w = .ok v w ∧ R v st.h := by
  unfold retQ at h
  have key : ∀ vs, resAll P st fn.results.toList = some vs → (fn.results.mapM (resM a.tmps)).run P w = .ok vs.toArray w := by
    intro vs hvs
    rw [Array.mapM_eq_mapM_toList]
    simp only [map_eq_pure_bind, Sem.run_bind, resAll_run g hvs, Result.andThen_ok, Sem.run_pure]
  split at h
  · rename_i x hx
    refine ⟨x, ?_, h⟩
    have hk := key _ hx
    show (fn.results.mapM (resM a.tmps) >>= fun vs => pure (if h : vs.size = 1 then vs[0] else .tuple vs) : Sem Value).run P w = _
    rw [Sem.run_bind, hk]
    rfl
  · rename_i l hne hx
    refine ⟨_, ?_, h⟩
    have hk := key _ hx
    show (fn.results.mapM (resM a.tmps) >>= fun vs => pure (if h : vs.size = 1 then vs[0] else .tuple vs) : Sem Value).run P w = _
    rw [Sem.run_bind, hk]
    simp only [Result.andThen_ok]
    have hs : l.toArray.size ≠ 1 := by
      intro q
      match l, q with
      | [x], _ => exact hne x rfl
    simp
    intro q
    exact absurd q (by simpa using hs)
  · exact h.elim

theorem argF_get : ∀ {l : List Value} {t : Nat} {x : SV}, argF l t = some x → ∃ v, l[t]? = some v ∧ x = .v v
  | [], t, x, h => by simp [argF] at h
  | v :: r, 0, x, h => by simp only [argF, Option.some.injEq] at h; exact ⟨v, rfl, h.symm⟩
  | v :: r, t + 1, x, h => by simp only [argF] at h; obtain ⟨u, h1, h2⟩ := argF_get h; exact ⟨u, by simpa using h1, h2⟩

theorem fn_sound {f : FuncId} {fn : Func} (hf : P.funcs[f]? = some fn) (hb : fn.body.isNone = false) (hn : (fn.name == "runtime.NumGoroutine") = false) (hmix : P.follows .mixedOrders = true)
    (vis : Nat → Bool) (an : Ann) (args : List Value) (h : Heap) (R : Value → Heap → Prop) (ha : Nat.ble args.length fn.ntmps = true) (hv : fnV P fn vis an args h R) : CallsU P f args h R := by
  refine ⟨⟨fn, hf, hb, hn⟩, fun w hw => ?_⟩
  unfold fnV at hv
  split at hv
  · rename_i c hc
    have hle : args.length ≤ fn.ntmps := Nat.le_of_ble_eq_true ha
    let a : Act := { tmps := args.toArray ++ Array.replicate (fn.ntmps - args.toArray.size) undef, defers := [] }
    have hsize : a.tmps.size = fn.ntmps := by simp [a]; omega
    have g : Good fn.ntmps h w (fun _ => 0) (st0 args h) a w := by
      refine ⟨rfl, hsize, fun t x hx => ?_, hw, Frm.refl _ _, fun i hi => absurd hi (Nat.not_lt_zero _), fun i j hi => absurd hi (Nat.not_lt_zero _), fun t i off hx => ?_⟩
      · obtain ⟨v, h1, rfl⟩ := argF_get hx
        have hlt : t < args.length := (List.getElem?_eq_some_iff.1 h1).1
        simp only [a, Array.getD_eq_getD_getElem?]
        rw [Array.getElem?_append_left (by simpa using hlt)]
        simp [h1, SV.val]
      · obtain ⟨v, _, h2⟩ := argF_get hx
        cases h2
    have hwp := V_sound hmix c an (fun _ => true) (endQ P fn R) (fun _ => true) _ _ _ _ _ a w (fun t ht => by cases ht) (fun _ _ => rfl) g (Ext.refl _ _ _ _ _) hv
    refine calls_of_wp hf hc (wp_mono hwp fun e a' w' hp => ?_)
    obtain ⟨st', s', q, g', _⟩ := hp
    have fin : retQ P fn R st' → a'.defers = [] ∧ ∃ v, (results fn a'.tmps).run P w' = .ok v w' ∧ ∃ v' h', Ending.returned v = .returned v' ∧ R v' h' ∧ Sat h' w' ∧ Frm h h' w w' := fun hr => by
      obtain ⟨v, h1, h2⟩ := results_run g' hr
      exact ⟨g'.defers, v, h1, v, st'.h, rfl, h2, g'.sat, g'.frm⟩
    cases e with
    | normal => exact fin q
    | ret => exact fin q
    | _ => exact q.elim
  · exact hv.elim
end
end Go.Vcg
