/-
  Two operations change places.
-/
import Derived.Test.YtfhipkdcekffaaaGreatDoorVcg11
namespace Go.Vcg
open Go

section
variable {P : Program} {nt : Nat} {mb vis : Nat → Bool} {K K' : St → Prop}

theorem boxR_shift {o : Oper} {st : St} {d : Option Nat} {v : SV} {t : TypeId} {cells : List Value} (hp : (pureOp o.op || isLoad o.op) = false) (hm : ∀ st1, K (putO st1 d v) → Keeps o st st1 → K' st1)
    (hne : ∀ d', d = some d' → o.dst ≠ some d') (h : boxR nt vis o.dst t cells (putO st d v) K) : boxR nt vis o.dst t cells st K' := by
  unfold boxR at *
  split
  · rename_i h1
    simp only [h1] at h
    split
    · rename_i h2
      simp only [h2] at h
      intro g h' e1 e2
      rw [putO_h] at h
      have := h g h' e1 e2
      simp only [putO_setH] at this
      exact putK_shift hm hne (Keeps.setH _ _ _ hp) this
    · rename_i h2
      simp only [h2] at h
      refine putK_shift (st2 := { st with nb := st.nb + 1, B := fun i => bif Nat.beq i st.nb then cells else st.B i }) (d := d) (v := v) hm hne ⟨fun _ _ => rfl, Nat.le_succ _, fun _ i hi => ?_, fun _ => rfl⟩ ?_
      · have : i ≠ st.nb := by omega
        simp [beq_ne this]
      · cases d <;> exact h
  · rename_i h1
    simp only [h1] at h

/-- A builtin that only computes leaves the heap. -/
theorem builtR_still {b : Builtin} {as : Array Operand} {ats : Array TypeId} {args : List Value} {hh : Heap} {F : Value → Heap → Prop}
    (hp : (pureOp (.call { callee := .builtin b, args := as, argTypes := ats }) || isLoad (.call { callee := .builtin b, args := as, argTypes := ats })) = true)
    (h : builtR P b ats.toList args hh F) : ∃ z, F z hh ∧ ∀ (h' : Heap) (G : Value → Heap → Prop), G z h' → builtR P b ats.toList args h' G := by
  unfold builtR at *
  split at h
  · split at h
    · rename_i h1; exact ⟨_, h, fun h' G hg => by simpa [h1] using hg⟩
    · rename_i h1; exact ⟨_, h, fun h' G hg => by simpa [h1] using hg⟩
    · rename_i h1; exact ⟨_, h, fun h' G hg => by simpa [h1] using hg⟩
    · exact h.elim
  · split at h
    · rename_i h1; exact ⟨_, h, fun h' G hg => by simpa [h1] using hg⟩
    · exact h.elim
  · split at h
    · rename_i h1; exact ⟨_, h, fun h' G hg => by simpa [h1] using hg⟩
    · exact h.elim
  · split at h
    · rename_i h1; exact ⟨_, h, fun h' G hg => by simpa [h1] using hg⟩
    · exact h.elim
  · cases hp
  · cases hp
  · exact h.elim

theorem builtR_pure {b : Builtin} {as : Array Operand} {ats : Array TypeId} {args : List Value} {st : St} {d : Option Nat} {v : SV} {dst : Option Tmp} {type : TypeId} {pos : String} {after : Array Edge} {guard : Option (Nat × Bool)}
    (hp : (pureOp (.call { callee := .builtin b, args := as, argTypes := ats }) || isLoad (.call { callee := .builtin b, args := as, argTypes := ats })) = true)
    (h : builtR P b ats.toList args st.h fun z h => putK nt dst (.v z) ((putO st d v).setH h) K)
    (hm : ∀ st1, K (putO st1 d v) → Keeps ⟨dst, .call { callee := .builtin b, args := as, argTypes := ats }, type, pos, after, guard⟩ st st1 → K' st1)
    (hne : ∀ d', d = some d' → dst ≠ some d') : builtR P b ats.toList args st.h fun z h => putK nt dst (.v z) (st.setH h) K' := by
  obtain ⟨z, h1, h2⟩ := builtR_still hp h
  refine h2 _ _ ?_
  rw [putO_setH] at h1
  exact putK_shift (o := ⟨dst, .call { callee := .builtin b, args := as, argTypes := ats }, type, pos, after, guard⟩) hm hne (Keeps.refl _ _) h1

set_option maxHeartbeats 1000000 in
theorem opV_shift {see : Bool} {o : Oper} {st : St} {d : Option Nat} {v : SV} (hm : ∀ st1, K (putO st1 d v) → Keeps o st st1 → K' st1)
    (hop : ∀ d', d = some d' → ∀ x ∈ o.op.operands.toList, x ≠ .tmp d') (hne : ∀ d', d = some d' → o.dst ≠ some d') (h : opV P nt vis mb see o (putO st d v) K) : opV P nt vis mb see o st K' := by
  have he : ∀ x ∈ o.op.operands.toList, ev (putO st d v) x = ev st x := fun x hx => ev_putO fun d' hd => hop d' hd x hx
  have kr := Keeps.refl o st
  have kh := fun (hp : (pureOp o.op || isLoad o.op) = false) (h : Heap) => Keeps.setH o st h hp
  obtain ⟨dst, op, type, pos, after, guard⟩ := o
  cases op <;> simp only [opV] at h ⊢ <;> try exact h
  case move x =>
    rw [he x (by simp [Op.operands])] at h
    split at h
    · rename_i u hx
      try simp only [hx]
      exact putK_shift hm hne kr h
    · exact h.elim
  case assign x =>
    rw [he x (by simp [Op.operands])] at h
    split at h
    · rename_i u hx
      try simp only [hx]
      exact putK_shift hm hne kr h
    · exact h.elim
  case pick c x y =>
    rw [he c (by simp [Op.operands]), he x (by simp [Op.operands]), he y (by simp [Op.operands])] at h
    split at h
    · rename_i t hc
      try simp only [hc]
      refine h.mono (fun h => ?_) (fun h => ?_)
      · split at h
        · exact putK_shift hm hne kr h
        · exact h.elim
      · split at h
        · exact putK_shift hm hne kr h
        · exact h.elim
    · exact h.elim
  case binOp op t x y ty =>
    rw [he x (by simp [Op.operands]), he y (by simp [Op.operands])] at h
    split at h
    · rename_i u z hx hy; try simp only [hx, hy]
      exact binR_mono h fun z h => putK_shift hm hne kr h
    · exact h.elim
  case unOp op t x =>
    rw [he x (by simp [Op.operands])] at h
    split at h
    · rename_i u hx
      try simp only [hx]
      exact unR_mono h fun z h => putK_shift hm hne kr h
    · exact h.elim
  case convert t t' x =>
    rw [he x (by simp [Op.operands])] at h
    split at h
    · rename_i u hx
      try simp only [hx]
      exact convR_mono h fun z h => putK_shift hm hne kr h
    · exact h.elim
  case nilCheck x =>
    rw [he x (by simp [Op.operands])] at h
    split at h
    · rename_i i off hx; try simp only [hx]
      exact putK_shift hm hne kr h
    · rename_i p hx; try simp only [hx]
      exact putK_shift hm hne kr h
    · exact h.elim
  case alloc t =>
    split at h
    · rename_i z hz; exact boxR_shift (o := ⟨dst, .alloc t, type, pos, after, guard⟩) rfl hm hne h
    · exact h.elim
  case box t x =>
    rw [he x (by simp [Op.operands])] at h
    split at h
    · rename_i u hx
      try simp only [hx]
      exact boxR_shift (o := ⟨dst, .box t x, type, pos, after, guard⟩) rfl hm hne h
    · exact h.elim
  case build t ps =>
    rw [partsV_putO _ fun y hy d' hd => hop d' hd y.2 (by simp [Op.operands]; exact ⟨y.1, by simpa using hy⟩)] at h
    split at h
    · rename_i l hl
      try simp only [hl]
      split at h
      · rename_i cs hc; exact putK_shift hm hne kr h
      · exact h.elim
    · exact h.elim
  case buildSlice t n ps =>
    rw [partsV_putO _ fun y hy d' hd => hop d' hd y.2 (by simp [Op.operands]; exact ⟨y.1, by simpa using hy⟩)] at h
    split at h
    · rename_i e hel
      split at h
      · rename_i z sz l hz hsz hl
        try simp only [hl]
        split at h
        · rename_i cs hc hcs
          intro g h' e1 e2
          rw [putO_h] at h
          have := h g h' e1 e2
          simp only [putO_setH] at this
          exact putK_shift hm hne (kh rfl _) this
        · exact h.elim
      · exact h.elim
    · exact h.elim
  case load t x =>
    rw [he x (by simp [Op.operands])] at h
    split at h
    · rename_i i off ag n hx ha hn
      try simp only [hx]
      rw [putO_B, putO_nb] at h
      split at h
      · rename_i hc; try simp only [hc]
        exact putK_shift hm hne kr h
      · exact h.elim
    · rename_i p ag n hx ha hn
      try simp only [hx]
      split at h
      · rename_i hc
        try simp only [hc]
        rw [putO_h] at h
        exact exL_mono _ h fun vs ⟨h1, h2⟩ => ⟨h1, putK_shift hm hne kr h2⟩
      · exact h.elim
    · exact h.elim
  case store t x y =>
    rw [he x (by simp [Op.operands]), he y (by simp [Op.operands])] at h
    split at h
    · rename_i i off u n hx hy hn
      try simp only [hx, hy]
      rw [putO_B] at h
      split at h
      · rename_i hc
        try simp only [hc]
        rw [putO_setB] at h
        exact putK_shift hm hne (Keeps.setB ⟨dst, .store t x y, type, pos, after, guard⟩ st _ _ rfl) h
      · exact h.elim
    · rename_i p u n hx hy hn
      try simp only [hx, hy]
      split at h
      · rename_i hc
        try simp only [hc]
        rw [putO_h] at h
        obtain ⟨b, h1, h2, h3, h4, h5⟩ := h
        refine ⟨b, h1, h2, h3, h4, fun h' e => ?_⟩
        have := h5 h' e
        simp only [putO_setH] at this
        exact putK_shift hm hne (kh rfl _) this
      · exact h.elim
    · exact h.elim
  case fieldAddr t x i =>
    rw [he x (by simp [Op.operands])] at h
    split at h
    · rename_i id off fo hx hf; try simp only [hx]
      exact putK_shift hm hne kr h
    · rename_i p fo hx hf; try simp only [hx]
      exact putK_shift hm hne kr h
    · exact h.elim
  case field t x i =>
    rw [he x (by simp [Op.operands])] at h
    split at h
    · rename_i cs f hx hf; try simp only [hx]
      exact partR_mono h fun z h => putK_shift hm hne kr h
    · exact h.elim
  case indexAddr t x ix =>
    rw [he x (by simp [Op.operands]), he ix (by simp [Op.operands])] at h
    split at h
    · rename_i A n c k i e hx hix hel
      try simp only [hx, hix]
      split at h
      · rename_i sz hsz
        obtain ⟨ad, h1, h2, h3, h4⟩ := h
        exact ⟨ad, h1, h2, h3, putK_shift hm hne kr h4⟩
      · exact h.elim
    · exact h.elim
  case index t x ix =>
    rw [he x (by simp [Op.operands]), he ix (by simp [Op.operands])] at h
    split at h
    · rename_i sx k i hx hix hu
      try simp only [hx, hix]
      obtain ⟨b, h1, h2, h4⟩ := h
      exact ⟨b, h1, h2, putK_shift hm hne kr h4⟩
    · exact h.elim
  case slice t x lo hi mx =>
    cases mx with
    | some _ => exact h
    | none =>
      simp only at h ⊢
      rw [he x (by simp [Op.operands])] at h
      have el : evO (putO st d v) lo = evO st lo := by
        cases lo with
        | none => rfl
        | some l => simp only [evO]; rw [he l (by simp [Op.operands])]
      have eh : evO (putO st d v) hi = evO st hi := by
        cases hi with
        | none => rfl
        | some l => simp only [evO]; rw [he l (by simp [Op.operands])]
      rw [el, eh] at h
      split at h
      · rename_i u l q hx hl hq; try simp only [hx, hl, hq]
        exact sliceR_mono h fun z h => putK_shift hm hne kr h
      · exact h.elim
  case makeSlice t l c =>
    rw [he l (by simp [Op.operands]), he c (by simp [Op.operands])] at h
    split at h
    · rename_i k1 n k2 k e hl hc hel
      try simp only [hl, hc]
      split at h
      · rename_i i z hi hz
        split at h
        · rename_i hcc
          obtain ⟨h1, h2, h3, h4, h5⟩ := h
          refine ⟨h1, h2, h3, h4, fun g h' e1 e2 => ?_⟩
          rw [putO_h] at h5
          have := h5 g h' e1 e2
          simp only [putO_setH] at this
          exact putK_shift hm hne (kh rfl _) this
        · exact h.elim
      · exact h.elim
    · exact h.elim
  case extract x i =>
    rw [he x (by simp [Op.operands])] at h
    split at h
    · rename_i vs hx
      try simp only [hx]
      split at h
      · rename_i z hz; exact putK_shift hm hne kr h
      · exact h.elim
    · exact h.elim
  case call c =>
    obtain ⟨callee, as, ats⟩ := c
    simp only at h ⊢
    rw [evs_putO _ fun y hy d' hd => hop d' hd y (by simp only [Op.operands, Call.operands]; cases callee <;> simp <;> first | (right; simpa using hy) | simpa using hy)] at h
    split at h
    · rename_i f args ha
      try simp only [ha]
      rw [putO_h] at h
      exact h.mono fun z h' h => resR_mono h fun z h => by rw [putO_setH] at h; exact putK_shift hm hne (kh rfl _) h
    · rename_i b args ha
      try simp only [ha]
      rw [putO_h] at h
      by_cases hp : (pureOp (.call { callee := .builtin b, args := as, argTypes := ats }) || isLoad (.call { callee := .builtin b, args := as, argTypes := ats })) = true
      · exact builtR_pure hp h hm hne
      · have hp' : (pureOp (.call { callee := .builtin b, args := as, argTypes := ats }) || isLoad (.call { callee := .builtin b, args := as, argTypes := ats })) = false := by simpa using hp
        exact builtR_mono h fun z h' h => by rw [putO_setH] at h; exact putK_shift hm hne (kh hp' _) h
    · exact h.elim
end
end Go.Vcg
