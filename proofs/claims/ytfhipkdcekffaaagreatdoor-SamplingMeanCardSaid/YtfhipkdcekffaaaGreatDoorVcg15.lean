/-
  Two hidden boxes may change their names.
-/
import Derived.Test.YtfhipkdcekffaaaGreatDoorVcg13
namespace Go.Vcg
open Go

def swp (a b i : Nat) : Nat := if i = a then b else if i = b then a else i

theorem swp_swp (a b i : Nat) : swp a b (swp a b i) = i := by unfold swp; grind
theorem swp_lt {a b n i : Nat} (ha : a < n) (hb : b < n) : swp a b i < n ↔ i < n := by unfold swp; grind
theorem swp_ge {a b n i : Nat} (ha : n ≤ a) (hb : n ≤ b) (hi : i < n) : swp a b i = i := by unfold swp; grind
theorem swp_out {a b i : Nat} (ha : i ≠ a) (hb : i ≠ b) : swp a b i = i := by unfold swp; grind
theorem swp_inj {a b i j : Nat} (h : swp a b i = swp a b j) : i = j := by
  have := congrArg (swp a b) h
  rwa [swp_swp, swp_swp] at this

def SV.ren (a b : Nat) : SV → SV
  | .v x => .v x
  | .bx i off => .bx (swp a b i) off

theorem SV.ren_ren (a b : Nat) (s : SV) : (s.ren a b).ren a b = s := by cases s <;> simp [SV.ren, swp_swp]

def ren (a b : Nat) (st : St) : St := ⟨fun t => (st.f t).map (SV.ren a b), fun i => st.B (swp a b i), st.nb, st.h⟩

theorem ren_ren (a b : Nat) (st : St) : ren a b (ren a b st) = st := by
  obtain ⟨f, B, nb, h⟩ := st
  simp only [ren, St.mk.injEq, swp_swp, and_true, and_self]
  funext t
  cases f t with
  | none => rfl
  | some x => simp [SV.ren_ren]

theorem ren_put (a b : Nat) (st : St) (d : Nat) (v : SV) : ren a b (st.put d v) = (ren a b st).put d (v.ren a b) := by
  simp only [ren, St.put, St.mk.injEq, and_true]
  funext t
  cases hb : Nat.beq t d <;> rfl

theorem ren_putO (a b : Nat) (st : St) (d : Option Nat) (v : SV) : ren a b (putO st d v) = putO (ren a b st) d (v.ren a b) := by
  cases d with
  | none => rfl
  | some d => exact ren_put a b st d v

theorem ev_ren (a b : Nat) (st : St) (x : Operand) : ev (ren a b st) x = (ev st x).map (SV.ren a b) := by cases x <;> rfl

section
variable {P : Program} {nt : Nat} {mb vis : Nat → Bool} {K : St → Prop} {a b : Nat} {st : St}

theorem ev_v {x : Operand} {u : Value} (h : ev (ren a b st) x = some (.v u)) : ev st x = some (.v u) := by
  rw [ev_ren] at h
  cases hx : ev st x with
  | none => rw [hx] at h; cases h
  | some y =>
    rw [hx] at h
    cases y with
    | v z => simpa [SV.ren] using h
    | bx i o => simp [SV.ren] at h

theorem ev_bx {x : Operand} {i off : Nat} (h : ev (ren a b st) x = some (.bx i off)) : ev st x = some (.bx (swp a b i) off) := by
  rw [ev_ren] at h
  cases hx : ev st x with
  | none => rw [hx] at h; cases h
  | some y =>
    rw [hx] at h
    cases y with
    | v z => simp [SV.ren] at h
    | bx j o =>
      simp only [Option.map_some, SV.ren, Option.some.injEq, SV.bx.injEq] at h
      rw [← h.1, swp_swp, h.2]

theorem ev_any {x : Operand} {u : SV} (h : ev (ren a b st) x = some u) : ev st x = some (u.ren a b) := by
  rw [ev_ren] at h
  cases hx : ev st x with
  | none => rw [hx] at h; cases h
  | some y =>
    rw [hx] at h
    simp only [Option.map_some, Option.some.injEq] at h
    rw [← h, SV.ren_ren]

theorem evs_ren : ∀ (l : List Operand), evs (ren a b st) l = evs st l
  | [] => rfl
  | x :: r => by
    simp only [evs, evs_ren r, ev_ren]
    cases ev st x with
    | none => rfl
    | some y => cases y <;> rfl

theorem partsV_ren : ∀ (l : List (Nat × Operand)), partsV (ren a b st) l = partsV st l
  | [] => rfl
  | (i, x) :: r => by
    simp only [partsV, partsV_ren r, ev_ren]
    cases ev st x with
    | none => rfl
    | some y => cases y <;> rfl

theorem evO_ren (x : Option Operand) : evO (ren a b st) x = evO st x := by
  cases x with
  | none => rfl
  | some l =>
    simp only [evO, ev_ren]
    cases ev st l with
    | none => rfl
    | some y => cases y <;> rfl

theorem putK_ren {d : Option Nat} {v : SV} (h : putK nt d (v.ren a b) (ren a b st) K) : putK nt d v st fun st' => K (ren a b st') := by
  cases d with
  | none => exact h
  | some d =>
    simp only [putK] at h ⊢
    split
    · rename_i hb
      simp only [hb] at h
      rw [ren_put]
      exact h
    · rename_i hb
      simp only [hb] at h

theorem boxR_ren (ha : a < st.nb) (hb : b < st.nb) {d : Option Nat} {t : TypeId} {cells : List Value} (h : boxR nt vis d t cells (ren a b st) K) : boxR nt vis d t cells st fun st' => K (ren a b st') := by
  unfold boxR at *
  split
  · rename_i h1
    simp only [h1] at h
    split
    · rename_i h2
      simp only [h2] at h
      intro g h' e1 e2
      exact putK_ren (st := st.setH h') (v := .v (.pointer (some ⟨g, 0, none⟩))) (h g h' e1 e2)
    · rename_i h2
      simp only [h2] at h
      have hn : swp a b st.nb = st.nb := swp_out (by omega) (by omega)
      refine putK_ren (st := { st with nb := st.nb + 1, B := fun i => bif Nat.beq i st.nb then cells else st.B i }) (v := .bx st.nb 0) ?_
      have e : ren a b { st with nb := st.nb + 1, B := fun i => bif Nat.beq i st.nb then cells else st.B i } = { ren a b st with nb := (ren a b st).nb + 1, B := fun i => bif Nat.beq i (ren a b st).nb then cells else (ren a b st).B i } := by
        simp only [ren, St.mk.injEq, true_and, and_true]
        funext i
        by_cases q : i = st.nb
        · subst q; rw [hn]
        · have q2 : swp a b i ≠ st.nb := fun q2 => q (swp_inj (q2.trans hn.symm))
          rw [beq_ne q, beq_ne q2]
      rw [e]
      simp only [SV.ren, hn]
      exact h
  · rename_i h1
    simp only [h1] at h

set_option maxHeartbeats 1000000 in
theorem opV_ren (ha : a < st.nb) (hb : b < st.nb) (ma : mb a = true) (mbb : mb b = true) {see : Bool} {o : Oper} (h : opV P nt vis mb see o (ren a b st) K) : opV P nt vis mb see o st fun st' => K (ren a b st') := by
  have hmb : ∀ i, mb (swp a b i) = mb i := fun i => by unfold swp; split; rename_i e; rw [e, ma, mbb]; split; rename_i e; rw [e, ma, mbb]; rfl
  have hB : ∀ i, (ren a b st).B i = st.B (swp a b i) := fun _ => rfl
  have hlt : ∀ i, Nat.blt (swp a b i) st.nb = Nat.blt i (ren a b st).nb := fun i => by
    rw [Bool.eq_iff_iff, Nat.blt_eq, Nat.blt_eq]
    exact swp_lt ha hb
  obtain ⟨dst, op, type, pos, after, guard⟩ := o
  cases op <;> simp only [opV] at h ⊢ <;> try exact h
  case move x =>
    split at h
    · rename_i u hx
      simp only [ev_any hx]
      refine putK_ren ?_
      rw [SV.ren_ren]
      exact h
    · exact h.elim
  case assign x =>
    split at h
    · rename_i u hx
      simp only [ev_any hx]
      refine putK_ren ?_
      rw [SV.ren_ren]
      exact h
    · exact h.elim
  case pick c x y =>
    split at h
    · rename_i t hc
      simp only [ev_v hc]
      refine h.mono (fun h => ?_) (fun h => ?_)
      · split at h
        · rename_i u hx
          simp only [ev_any hx]
          refine putK_ren ?_
          rw [SV.ren_ren]
          exact h
        · exact h.elim
      · split at h
        · rename_i u hx
          simp only [ev_any hx]
          refine putK_ren ?_
          rw [SV.ren_ren]
          exact h
        · exact h.elim
    · exact h.elim
  case binOp op t x y ty =>
    split at h
    · rename_i u z hx hy; simp only [ev_v hx, ev_v hy]
      exact binR_mono h fun z h => putK_ren (v := .v z) h
    · exact h.elim
  case unOp op t x =>
    split at h
    · rename_i u hx
      simp only [ev_v hx]
      exact unR_mono h fun z h => putK_ren (v := .v z) h
    · exact h.elim
  case convert t t' x =>
    split at h
    · rename_i u hx
      simp only [ev_v hx]
      exact convR_mono h fun z h => putK_ren (v := .v z) h
    · exact h.elim
  case nilCheck x =>
    split at h
    · rename_i i off hx; simp only [ev_bx hx]
      refine putK_ren ?_
      simp only [SV.ren, swp_swp]
      exact h
    · rename_i p hx; simp only [ev_v hx]
      exact putK_ren (v := .v (.pointer (some p))) h
    · exact h.elim
  case alloc t =>
    split at h
    · rename_i z hz; exact boxR_ren ha hb h
    · exact h.elim
  case box t x =>
    split at h
    · rename_i u hx
      simp only [ev_v hx]
      exact boxR_ren ha hb h
    · exact h.elim
  case build t ps =>
    rw [partsV_ren] at h
    split at h
    · rename_i l hl
      try simp only [hl]
      split at h
      · rename_i cs hc
        try simp only [hc]
        exact putK_ren (v := .v (.agg cs.toArray)) h
      · exact h.elim
    · exact h.elim
  case buildSlice t n ps =>
    rw [partsV_ren] at h
    split at h
    · rename_i e hel
      try simp only [hel]
      split at h
      · rename_i z sz l hz hsz hl
        try simp only [hz, hsz, hl]
        split at h
        · rename_i cs hc hcs
          try simp only [hc, hcs]
          intro g h' e1 e2
          exact putK_ren (st := st.setH h') (v := .v (.slice (some ⟨g, 0, none⟩) n n)) (h g h' e1 e2)
        · exact h.elim
      · exact h.elim
    · exact h.elim
  case load t x =>
    split at h
    · rename_i i off ag n hx hag hn
      simp only [ev_bx hx, hag, hn, hlt]
      rw [hB] at h
      split at h
      · rename_i hc
        try simp only [hc]
        exact putK_ren (v := .v _) h
      · exact h.elim
    · rename_i p ag n hx hag hn
      simp only [ev_v hx, hag, hn]
      split at h
      · rename_i hc
        try simp only [hc]
        exact exL_mono _ h fun vs ⟨h1, h2⟩ => ⟨h1, putK_ren (v := .v _) h2⟩
      · exact h.elim
    · exact h.elim
  case store t x y =>
    split at h
    · rename_i i off u n hx hy hn
      simp only [ev_bx hx, ev_v hy, hn, hmb]
      rw [hB] at h
      split at h
      · rename_i hc
        try simp only [hc]
        have e : (ren a b st).setB i (setSeg (st.B (swp a b i)) off (vcells u)) = ren a b (st.setB (swp a b i) (setSeg (st.B (swp a b i)) off (vcells u))) := by
          simp only [ren, St.setB, St.mk.injEq, true_and, and_true]
          funext j
          by_cases q : j = i
          · subst q; simp
          · have q2 : swp a b j ≠ swp a b i := fun q2 => q (swp_inj q2)
            rw [beq_ne q, beq_ne q2]
        rw [e] at h
        exact putK_ren (v := .v undef) h
      · exact h.elim
    · rename_i p u n hx hy hn
      simp only [ev_v hx, ev_v hy, hn]
      split at h
      · rename_i hc
        try simp only [hc]
        obtain ⟨b', h1, h2, h3, h4, h5⟩ := h
        exact ⟨b', h1, h2, h3, h4, fun h' e => putK_ren (st := st.setH h') (v := .v undef) (h5 h' e)⟩
      · exact h.elim
    · exact h.elim
  case fieldAddr t x i =>
    split at h
    · rename_i id off fo hx hf; simp only [ev_bx hx, hf]
      refine putK_ren ?_
      simp only [SV.ren, swp_swp]
      exact h
    · rename_i p fo hx hf; simp only [ev_v hx, hf]
      exact putK_ren (v := .v _) h
    · exact h.elim
  case field t x i =>
    split at h
    · rename_i cs f hx hf; simp only [ev_v hx, hf]
      exact partR_mono h fun z h => putK_ren (v := .v z) h
    · exact h.elim
  case indexAddr t x ix =>
    split at h
    · rename_i A n c k i e hx hix hel
      simp only [ev_v hx, ev_v hix, hel]
      split at h
      · rename_i sz hsz
        try simp only [hsz]
        obtain ⟨ad, h1, h2, h3, h4⟩ := h
        exact ⟨ad, h1, h2, h3, putK_ren (v := .v _) h4⟩
      · exact h.elim
    · exact h.elim
  case index t x ix =>
    split at h
    · rename_i sx k i hx hix hu
      simp only [ev_v hx, ev_v hix, hu]
      obtain ⟨c, h1, h2, h4⟩ := h
      exact ⟨c, h1, h2, putK_ren (v := .v _) h4⟩
    · exact h.elim
  case slice t x lo hi mx =>
    cases mx with
    | some _ => exact h
    | none =>
      simp only at h ⊢
      rw [evO_ren, evO_ren] at h
      split at h
      · rename_i u l q hx hl hq; simp only [ev_v hx, hl, hq]
        exact sliceR_mono h fun z h => putK_ren (v := .v z) h
      · exact h.elim
  case makeSlice t l c =>
    split at h
    · rename_i k1 n k2 k e hl hc hel
      simp only [ev_v hl, ev_v hc, hel]
      split at h
      · rename_i i z hi hz
        try simp only [hi, hz]
        split at h
        · rename_i hcc
          try simp only [hcc]
          obtain ⟨h1, h2, h3, h4, h5⟩ := h
          exact ⟨h1, h2, h3, h4, fun g h' e1 e2 => putK_ren (st := st.setH h') (v := .v (.slice (some ⟨g, 0, none⟩) n.toNat k.toNat)) (h5 g h' e1 e2)⟩
        · exact h.elim
      · exact h.elim
    · exact h.elim
  case extract x i =>
    split at h
    · rename_i vs hx
      simp only [ev_v hx]
      split at h
      · rename_i z hz
        try simp only [hz]
        exact putK_ren (v := .v z) h
      · exact h.elim
    · exact h.elim
  case call c =>
    obtain ⟨callee, as, ats⟩ := c
    simp only at h ⊢
    rw [evs_ren] at h
    split at h
    · rename_i f args hargs
      try simp only [hargs]
      exact h.mono fun z h' h => resR_mono h fun z h => putK_ren (st := st.setH h') (v := .v z) h
    · rename_i bi args hargs
      try simp only [hargs]
      exact builtR_mono h fun z h' h => putK_ren (st := st.setH h') (v := .v z) h
    · exact h.elim

theorem opG_ren {ops : List Oper} (ha : a < st.nb) (hb : b < st.nb) (ma : mb a = true) (mbb : mb b = true) {see : Bool} {o : Oper} (h : opG P nt vis mb ops see o (ren a b st) K) : opG P nt vis mb ops see o st fun st' => K (ren a b st') := by
  unfold opG at h ⊢
  split
  · rename_i hg
    simp only [hg] at h
    exact opV_ren ha hb ma mbb h
  · rename_i j want hg
    simp only [hg] at h
    split
    · rename_i hj; simp only [hj] at h
    · rename_i g hj
      simp only [hj] at h
      have hf : (ren a b st).f g = (st.f g).map (SV.ren a b) := rfl
      rw [hf] at h
      cases hs : st.f g with
      | none => rw [hs] at h; exact h.elim
      | some y =>
        rw [hs] at h
        cases y with
        | bx i o => exact h.elim
        | v z =>
          simp only [Option.map_some, SV.ren] at h ⊢
          cases z <;> try exact h.elim
          case bool t =>
            simp only at h ⊢
            refine Br.mono h (fun h => ?_) (fun h => ?_)
            · cases want
              · exact putK_ren (st := st.put g (.v (.bool true))) (v := .v undef) (by rw [ren_put]; exact h)
              · exact opV_ren (st := st.put g (.v (.bool true))) ha hb ma mbb (by rw [ren_put]; exact h)
            · cases want
              · exact opV_ren (st := st.put g (.v (.bool false))) ha hb ma mbb (by rw [ren_put]; exact h)
              · exact putK_ren (st := st.put g (.v (.bool false))) (v := .v undef) (by rw [ren_put]; exact h)
          case tuple t => exact putK_ren (v := .v undef) h
end

/-! ### pointers to boxes that are there -/
/-- No slot points to a box that is not there. -/
def WF (st : St) : Prop := ∀ t i off, st.f t = some (.bx i off) → i < st.nb

theorem ev_sok {st : St} {x : Operand} {u : SV} (hw : WF st) (h : ev st x = some u) : u.ok st := by
  cases u with
  | v z => trivial
  | bx i off =>
    cases x with
    | tmp t => exact hw t i off h
    | const _ => cases h
    | global _ => cases h
    | func _ => cases h

section
variable {P : Program} {nt : Nat} {mb vis : Nat → Bool} {K : St → Prop} {st : St}

theorem WF.put (hw : WF st) {d : Nat} {v : SV} (hv : v.ok st) : WF (st.put d v) := fun t i off h => by
  simp only [St.put] at h
  cases hb : Nat.beq t d with
  | true =>
    rw [hb] at h
    simp only [cond_true, Option.some.injEq] at h
    subst h
    exact hv
  | false =>
    rw [hb] at h
    exact hw t i off h

theorem putK_wf {d : Option Nat} {v : SV} (hw : WF st) (hv : v.ok st) (h : putK nt d v st K) : putK nt d v st fun st' => WF st' ∧ K st' := by
  cases d with
  | none => exact ⟨hw, h⟩
  | some d =>
    simp only [putK] at h ⊢
    split
    · rename_i hb
      simp only [hb] at h
      exact ⟨hw.put hv, h⟩
    · rename_i hb
      simp only [hb] at h

theorem boxR_wf (hw : WF st) {d : Option Nat} {t : TypeId} {cells : List Value} (h : boxR nt vis d t cells st K) : boxR nt vis d t cells st fun st' => WF st' ∧ K st' := by
  unfold boxR at *
  split
  · rename_i h1
    simp only [h1] at h
    split
    · rename_i h2
      simp only [h2] at h
      intro g h' e1 e2
      exact putK_wf (st := st.setH h') hw trivial (h g h' e1 e2)
    · rename_i h2
      simp only [h2] at h
      exact putK_wf (st := { st with nb := st.nb + 1, B := fun i => bif Nat.beq i st.nb then cells else st.B i }) (fun t i off h => Nat.lt_succ_of_lt (hw t i off h)) (Nat.lt_succ_self _) h
  · rename_i h1
    simp only [h1] at h

set_option maxHeartbeats 1000000 in
theorem opV_wf (hw : WF st) {see : Bool} {o : Oper} (h : opV P nt vis mb see o st K) : opV P nt vis mb see o st fun st' => WF st' ∧ K st' := by
  obtain ⟨dst, op, type, pos, after, guard⟩ := o
  cases op <;> simp only [opV] at h ⊢ <;> try exact h.elim
  case move x =>
    split at h
    · rename_i u hx
      try simp only [hx]
      exact putK_wf hw (ev_sok hw hx) h
    · exact h.elim
  case assign x =>
    split at h
    · rename_i u hx
      try simp only [hx]
      exact putK_wf hw (ev_sok hw hx) h
    · exact h.elim
  case pick c x y =>
    split at h
    · rename_i t hc
      try simp only [hc]
      refine h.mono (fun h => ?_) (fun h => ?_)
      · split at h
        · rename_i u hx
          try simp only [hx]
          exact putK_wf hw (ev_sok hw hx) h
        · exact h.elim
      · split at h
        · rename_i u hx
          try simp only [hx]
          exact putK_wf hw (ev_sok hw hx) h
        · exact h.elim
    · exact h.elim
  case binOp op t x y ty =>
    split at h
    · rename_i u z hx hy; try simp only [hx, hy]
      exact binR_mono h fun z h => putK_wf hw trivial h
    · exact h.elim
  case unOp op t x =>
    split at h
    · rename_i u hx
      try simp only [hx]
      exact unR_mono h fun z h => putK_wf hw trivial h
    · exact h.elim
  case convert t t' x =>
    split at h
    · rename_i u hx
      try simp only [hx]
      exact convR_mono h fun z h => putK_wf hw trivial h
    · exact h.elim
  case nilCheck x =>
    split at h
    · rename_i i off hx; try simp only [hx]
      exact putK_wf hw (ev_sok (x := x) hw hx) h
    · rename_i p hx; try simp only [hx]
      exact putK_wf hw trivial h
    · exact h.elim
  case alloc t =>
    split at h
    · rename_i z hz; exact boxR_wf hw h
    · exact h.elim
  case box t x =>
    split at h
    · rename_i u hx
      try simp only [hx]
      exact boxR_wf hw h
    · exact h.elim
  case build t ps =>
    split at h
    · rename_i l hl
      try simp only [hl]
      split at h
      · rename_i cs hc
        try simp only [hc]
        exact putK_wf hw trivial h
      · exact h.elim
    · exact h.elim
  case buildSlice t n ps =>
    split at h
    · rename_i e hel
      try simp only [hel]
      split at h
      · rename_i z sz l hz hsz hl
        try simp only [hz, hsz, hl]
        split at h
        · rename_i cs hc hcs
          try simp only [hc, hcs]
          intro g h' e1 e2
          exact putK_wf (st := st.setH h') hw trivial (h g h' e1 e2)
        · exact h.elim
      · exact h.elim
    · exact h.elim
  case load t x =>
    split at h
    · rename_i i off ag n hx hag hn
      try simp only [hx, hag, hn]
      split at h
      · rename_i hc
        try simp only [hc]
        exact putK_wf hw trivial h
      · exact h.elim
    · rename_i p ag n hx hag hn
      try simp only [hx, hag, hn]
      split at h
      · rename_i hc
        try simp only [hc]
        exact exL_mono _ h fun vs ⟨h1, h2⟩ => ⟨h1, putK_wf hw trivial h2⟩
      · exact h.elim
    · exact h.elim
  case store t x y =>
    split at h
    · rename_i i off u n hx hy hn
      try simp only [hx, hy, hn]
      split at h
      · rename_i hc
        try simp only [hc]
        exact putK_wf (st := st.setB i _) hw trivial h
      · exact h.elim
    · rename_i p u n hx hy hn
      try simp only [hx, hy, hn]
      split at h
      · rename_i hc
        try simp only [hc]
        obtain ⟨b', h1, h2, h3, h4, h5⟩ := h
        exact ⟨b', h1, h2, h3, h4, fun h' e => putK_wf (st := st.setH h') hw trivial (h5 h' e)⟩
      · exact h.elim
    · exact h.elim
  case fieldAddr t x i =>
    split at h
    · rename_i id off fo hx hf; try simp only [hx, hf]
      exact putK_wf hw (show id < st.nb from ev_sok (x := x) hw hx) h
    · rename_i p fo hx hf; try simp only [hx, hf]
      exact putK_wf hw trivial h
    · exact h.elim
  case field t x i =>
    split at h
    · rename_i cs f hx hf; try simp only [hx, hf]
      exact partR_mono h fun z h => putK_wf hw trivial h
    · exact h.elim
  case indexAddr t x ix =>
    split at h
    · rename_i A n c k i e hx hix hel
      try simp only [hx, hix, hel]
      split at h
      · rename_i sz hsz
        try simp only [hsz]
        obtain ⟨ad, h1, h2, h3, h4⟩ := h
        exact ⟨ad, h1, h2, h3, putK_wf hw trivial h4⟩
      · exact h.elim
    · exact h.elim
  case index t x ix =>
    split at h
    · rename_i sx k i hx hix hu
      try simp only [hx, hix, hu]
      obtain ⟨c, h1, h2, h4⟩ := h
      exact ⟨c, h1, h2, putK_wf hw trivial h4⟩
    · exact h.elim
  case slice t x lo hi mx =>
    cases mx with
    | some _ => exact h
    | none =>
      simp only at h ⊢
      split at h
      · rename_i u l q hx hl hq; try simp only [hx, hl, hq]
        exact sliceR_mono h fun z h => putK_wf hw trivial h
      · exact h.elim
  case makeSlice t l c =>
    split at h
    · rename_i k1 n k2 k e hl hc hel
      try simp only [hl, hc, hel]
      split at h
      · rename_i i z hi hz
        try simp only [hi, hz]
        split at h
        · rename_i hcc
          try simp only [hcc]
          obtain ⟨h1, h2, h3, h4, h5⟩ := h
          exact ⟨h1, h2, h3, h4, fun g h' e1 e2 => putK_wf (st := st.setH h') hw trivial (h5 g h' e1 e2)⟩
        · exact h.elim
      · exact h.elim
    · exact h.elim
  case extract x i =>
    split at h
    · rename_i vs hx
      try simp only [hx]
      split at h
      · rename_i z hz
        try simp only [hz]
        exact putK_wf hw trivial h
      · exact h.elim
    · exact h.elim
  case call c =>
    obtain ⟨callee, as, ats⟩ := c
    simp only at h ⊢
    split at h
    · rename_i f args hargs
      try simp only [hargs]
      exact h.mono fun z h' h => resR_mono h fun z h => putK_wf (st := st.setH h') hw trivial h
    · rename_i bi args hargs
      try simp only [hargs]
      exact builtR_mono h fun z h' h => putK_wf (st := st.setH h') hw trivial h
    · exact h.elim

theorem opG_wf {ops : List Oper} (hw : WF st) {see : Bool} {o : Oper} (h : opG P nt vis mb ops see o st K) : opG P nt vis mb ops see o st fun st' => WF st' ∧ K st' := by
  unfold opG at h ⊢
  split
  · rename_i hg
    simp only [hg] at h
    exact opV_wf hw h
  · rename_i j want hg
    simp only [hg] at h
    split
    · rename_i hj; simp only [hj] at h
    · rename_i g hj
      simp only [hj] at h
      cases hs : st.f g with
      | none => rw [hs] at h; exact h.elim
      | some y =>
        rw [hs] at h
        cases y with
        | bx i o => exact h.elim
        | v z =>
          cases z <;> try exact h.elim
          case bool t =>
            simp only at h ⊢
            refine Br.mono h (fun h => ?_) (fun h => ?_)
            · cases want
              · exact putK_wf (hw.put (v := .v (.bool true)) trivial) trivial h
              · exact opV_wf (hw.put (v := .v (.bool true)) trivial) h
            · cases want
              · exact opV_wf (hw.put (v := .v (.bool false)) trivial) h
              · exact putK_wf (hw.put (v := .v (.bool false)) trivial) trivial h
          case tuple t => exact putK_wf hw trivial h
end

/-! ### renaming keeps what is good -/
theorem SV.val_ren (a b : Nat) (s : Nat → Nat) (x : SV) : (x.ren a b).val (fun i => s (swp a b i)) = x.val s := by
  cases x with
  | v z => rfl
  | bx i off => simp [SV.ren, SV.val, swp_swp]

section
variable {nt : Nat} {h0 : Heap} {w0 w : World} {s sB : Nat → Nat} {st stB : St} {a' aB : Act} {W mb : Nat → Bool} {a b : Nat}

theorem Good.ren (g : Good nt h0 w0 s st a' w) (ha : a < st.nb) (hb : b < st.nb) : Good nt h0 w0 (fun i => s (swp a b i)) (ren a b st) a' w where
  defers := g.defers
  size := g.size
  rep t x hx := by
    simp only [Go.Vcg.ren] at hx
    cases hf : st.f t with
    | none => rw [hf] at hx; cases hx
    | some y =>
      rw [hf] at hx
      simp only [Option.map_some, Option.some.injEq] at hx
      rw [← hx, SV.val_ren]
      exact g.rep t y hf
  sat := g.sat
  frm := g.frm
  box i hi := g.box _ ((swp_lt ha hb).2 hi)
  inj i j hi hj e := swp_inj (g.inj _ _ ((swp_lt ha hb).2 hi) ((swp_lt ha hb).2 hj) e)
  wfb t i off hx := by
    simp only [Go.Vcg.ren] at hx
    cases hf : st.f t with
    | none => rw [hf] at hx; cases hx
    | some y =>
      rw [hf] at hx
      cases y with
      | v z => simp [SV.ren] at hx
      | bx j o =>
        simp only [Option.map_some, SV.ren, Option.some.injEq, SV.bx.injEq] at hx
        rw [← hx.1]
        exact (swp_lt ha hb).2 (g.wfb t j o hf)

theorem Ext.ren (e : Ext W mb sB stB aB s st a') (ha : stB.nb ≤ a) (hb : stB.nb ≤ b) : Ext W mb sB stB aB (fun i => s (swp a b i)) (ren a b st) a' where
  slots := e.slots
  nb := e.nb
  sig i hi := by rw [swp_ge ha hb hi]; exact e.sig i hi
  bx i hi hm := by
    show st.B (swp a b i) = _
    rw [swp_ge ha hb hi]
    exact e.bx i hi hm
end

/-- What holds after some renamings of boxes from n on. -/
def Kc (n : Nat) (K : St → Prop) (st : St) : Prop := ∃ l : List (Nat × Nat), (∀ p ∈ l, n ≤ p.1 ∧ n ≤ p.2 ∧ p.1 < st.nb ∧ p.2 < st.nb) ∧ K (l.foldl (fun st p => ren p.1 p.2 st) st)

theorem renL_nb : ∀ (l : List (Nat × Nat)) (st : St), (l.foldl (fun st p => ren p.1 p.2 st) st).nb = st.nb
  | [], _ => rfl
  | p :: l, st => by rw [List.foldl_cons, renL_nb l]; rfl

theorem Kc.of {n : Nat} {K : St → Prop} {st : St} (h : K st) : Kc n K st := ⟨[], (fun _ h => (by cases h)), h⟩
theorem Kc.mono {n : Nat} {K K' : St → Prop} {st : St} (h : Kc n K st) (hm : ∀ st, K st → K' st) : Kc n K' st := let ⟨l, h1, h2⟩ := h; ⟨l, h1, hm _ h2⟩
theorem Kc.join {n : Nat} {K : St → Prop} {st : St} (h : Kc n (Kc n K) st) : Kc n K st := by
  obtain ⟨l, h1, l2, h2, hk⟩ := h
  rw [renL_nb] at h2
  refine ⟨l ++ l2, fun p hp => ?_, by rw [List.foldl_append]; exact hk⟩
  rcases List.mem_append.1 hp with q | q
  · exact h1 p q
  · exact h2 p q
theorem Kc.ren {n : Nat} {K : St → Prop} {st : St} {a b : Nat} (ha : n ≤ a) (hb : n ≤ b) (ha2 : a < st.nb) (hb2 : b < st.nb) (h : K (ren a b st)) : Kc n K st :=
  ⟨[(a, b)], fun p hp => by rw [List.mem_singleton.1 hp]; exact ⟨ha, hb, ha2, hb2⟩, h⟩

theorem Kc.post {nt : Nat} {h0 : Heap} {w0 w : World} {W mb : Nat → Bool} {sB : Nat → Nat} {stB : St} {aB a' : Act} {K : St → Prop} : ∀ (l : List (Nat × Nat)) {s : Nat → Nat} {st : St}, (∀ p ∈ l, stB.nb ≤ p.1 ∧ stB.nb ≤ p.2 ∧ p.1 < st.nb ∧ p.2 < st.nb) →
    K (l.foldl (fun st p => Go.Vcg.ren p.1 p.2 st) st) → Good nt h0 w0 s st a' w → Ext W mb sB stB aB s st a' → ∃ s1 st1, K st1 ∧ Good nt h0 w0 s1 st1 a' w ∧ Ext W mb sB stB aB s1 st1 a'
  | [], s, st, _, hk, g, e => ⟨s, st, hk, g, e⟩
  | p :: l, s, st, hl, hk, g, e => by
    obtain ⟨h1, h2, h3, h4⟩ := hl p (by simp)
    exact Kc.post l (st := Go.Vcg.ren p.1 p.2 st) (fun q hq => hl q (by simp [hq])) hk (g.ren h3 h4) (e.ren h1 h2)
end Go.Vcg
