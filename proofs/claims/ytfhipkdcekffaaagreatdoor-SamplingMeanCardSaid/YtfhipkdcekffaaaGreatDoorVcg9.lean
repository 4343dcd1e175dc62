/-
  The calculator is sound: every operation, with its guard.
-/
import Derived.Test.YtfhipkdcekffaaaGreatDoorVcg8
namespace Go.Vcg
open Go

section
variable {P : Program} {nt : Nat} {h0 : Heap} {w0 : World} {s : Nat → Nat} {st : St} {a : Act} {w : World} {K : St → Prop} {mb vis : Nat → Bool} {Q : Exit → Act → World → Prop}

theorem field_at {t : TypeId} {i : Nat} {f : Field} (h : fieldAt P t i = some f) : ∃ fs, P.underlying t = some (.struct fs) ∧ fs[i]? = some f := by
  unfold fieldAt at h
  split at h
  · rename_i fs hu; exact ⟨fs, hu, h⟩
  · cases h

theorem fieldOff_run {t : TypeId} {i fo : Nat} {p : Addr} (h : fieldOff P t i = some fo) : (Instr.fieldAt t (.pointer (some p)) i).run P w = .ok (.pointer (some (p.add fo))) w := by
  unfold fieldOff at h
  split at h
  · rename_i f hf
    obtain ⟨fs, hu, hi⟩ := field_at hf
    split at h
    · rename_i n hn
      simp only [Option.some.injEq] at h
      subst h
      simp [Instr.fieldAt, run_underlying hu, hi, Instr.sureAddr, fieldPlace, size_run hn]
    · cases h
  · cases h

theorem elem_of {t e : TypeId} (h : elemOf P t = some e) : P.underlying t = some (.slice e) := by
  unfold elemOf at h
  split at h
  · rename_i e' hu; simp only [Option.some.injEq] at h; subst h; exact hu
  · cases h

theorem evO_eval (g : Good nt h0 w0 s st a w) {x : Option Operand} {v : Option Value} (h : evO st x = some v) : x.map a.eval = v := by
  cases x with
  | none => simp only [evO, Option.some.injEq] at h; subst h; rfl
  | some y =>
    simp only [evO] at h
    split at h
    · rename_i q hq; simp only [Option.some.injEq] at h; subst h; simp only [Option.map_some, ev_eval g hq]; rfl
    · cases h

theorem addr_add_box (b off n : Nat) : (⟨b, off, none⟩ : Addr).add n = ⟨b, off + n, none⟩ := by
  unfold Addr.add
  split
  · rename_i h; subst h; rfl
  · rfl

theorem exec_build (ρ : Operand → Value) (dst : Option Tmp) (t : TypeId) (ps : Array (Nat × Operand)) (type : TypeId) (pos : String) (after : Array Edge) (guard : Option (Nat × Bool)) :
    execOp ρ ⟨dst, .build t ps, type, pos, after, guard⟩ = (do pure (Next.value (← Instr.build t (ps.map fun x => (x.1, ρ x.2)))) : Sem Next) := rfl
theorem exec_buildSlice (ρ : Operand → Value) (dst : Option Tmp) (t : TypeId) (n : Nat) (ps : Array (Nat × Operand)) (type : TypeId) (pos : String) (after : Array Edge) (guard : Option (Nat × Bool)) :
    execOp ρ ⟨dst, .buildSlice t n ps, type, pos, after, guard⟩ = (do pure (Next.value (← Instr.buildSlice t n (ps.map fun x => (x.1, ρ x.2)))) : Sem Next) := rfl

theorem parts_map (g : Good nt h0 w0 s st a w) {ps : Array (Nat × Operand)} {l : List (Nat × Value)} (hl : partsV st ps.toList = some l) : (ps.map fun x => (x.1, a.eval x.2)) = l.toArray := by
  rw [← partsV_eval g _ hl]
  cases ps
  simp

theorem buildSlice_run {t e : TypeId} {z cs : List Value} {sz len : Nat} {l : List (Nat × Value)} (he : elemOf P t = some e) (hz : zeroCellsOf P e = some z) (hsz : tySize P e = some sz) (hzl : z.length = sz) (hle : len * sz ≤ 10000)
    (hcs : fillL (fun i => some (i * sz, sz)) (repV z len) l = some cs) :
    (Instr.buildSlice t len l.toArray).run P w = .ok (.slice (some ⟨w.heap.size, 0, none⟩) len len) (addB w (.cells cs.toArray e (0, 0))) := by
  obtain ⟨v, i, hi, _, hvz, hr⟩ := zero_run (w := w) hz
  have hfl := fill_eq _ _ _ _ hcs
  have hvc : v.cells = z.toArray := by rw [← hvz, ← vcells_toList]
  have hmade := made_eq z len
  rw [hzl] at hmade
  have h24 : ¬ (len * sz > 2 ^ 24) := by
    have e24 : (2 : Nat) ^ 24 = 16777216 := rfl
    omega
  simp only [Instr.buildSlice, Sem.run_bind, run_underlying (elem_of he), Result.andThen_ok, size_run hsz, if_neg h24]
  by_cases h0' : len * sz = 0
  · have hz0 : ((Array.range (len * sz)).map fun x => (#[] : Array Value)[x % (#[] : Array Value).size]!) = (repV z len).toArray := by
      have : repV z len = [] := List.eq_nil_of_length_eq_zero (by rw [repV_length, hzl, h0'])
      rw [this, h0']
      simp [Array.range_zero']
    simp only [if_pos h0', pure_bind]
    rw [hz0, hfl]
    rfl
  · simp only [if_neg h0', Sem.run_bind, hr, Result.andThen_ok, Sem.run_pure, hvc]
    rw [hmade, hfl]
    rfl

set_option maxHeartbeats 1000000 in
theorem opV_sound (g : Good nt h0 w0 s st a w) {see : Bool} {o : Oper} (hv : opV P nt vis mb see o st K) : o.wp P a w (NextP nt h0 w0 K (dstW o.dst) mb s st a) Q := by
  obtain ⟨dst, op, type, pos, after, guard⟩ := o
  cases op <;> simp only [opV] at hv <;> try exact hv.elim
  case move x =>
    split at hv
    · rename_i v hx; exact sound_copy g hx rfl hv
    · exact hv.elim
  case assign x =>
    split at hv
    · rename_i v hx; exact sound_copy g hx rfl hv
    · exact hv.elim
  case pick c x y =>
    split at hv
    · rename_i t hc
      have he := ev_eval g hc
      cases t with
      | true =>
        simp only [Br] at hv
        split at hv
        · rename_i v hx
          refine sound_copy g hx ?_ hv
          show (do pure (Next.value (if ← asBool (a.eval c) then a.eval x else a.eval y)) : Sem Next).run P w = _
          rw [he]
          rfl
        · exact hv.elim
      | false =>
        simp only [Br] at hv
        split at hv
        · rename_i v hx
          refine sound_copy g hx ?_ hv
          show (do pure (Next.value (if ← asBool (a.eval c) then a.eval x else a.eval y)) : Sem Next).run P w = _
          rw [he]
          rfl
        · exact hv.elim
    · exact hv.elim
  case binOp op t x y ty =>
    split at hv
    · rename_i u v hx hy
      obtain ⟨z, hr, hk⟩ := binR_run w x y hv
      refine wp_plain g (run_v (m := do eqGuard op t x y (a.eval x) (a.eval y); binOp op t (a.eval x) (a.eval y)) ?_) hk
      rw [ev_eval g hx, ev_eval g hy]
      exact hr
    · exact hv.elim
  case unOp op t x =>
    split at hv
    · rename_i u hx
      obtain ⟨z, hr, hk⟩ := unR_run (P := P) w hv
      refine wp_plain g (run_v (m := Op.unary op (a.eval x)) ?_) hk
      rw [ev_eval g hx]
      exact hr
    · exact hv.elim
  case convert src d x =>
    split at hv
    · rename_i u hx
      obtain ⟨z, hr, hk⟩ := convR_run w hv
      refine wp_plain g (run_v (m := convert src d (a.eval x)) ?_) hk
      rw [ev_eval g hx]
      exact hr
    · exact hv.elim
  case nilCheck x =>
    split at hv
    · rename_i i off hx
      refine sound_copy g hx ?_ hv
      simp only [execOp]
      rw [ev_eval g hx]
      rfl
    · rename_i p hx
      refine sound_copy g hx ?_ hv
      simp only [execOp]
      rw [ev_eval g hx]
      rfl
    · exact hv.elim
  case alloc t =>
    split at hv
    · rename_i z hz
      obtain ⟨v, i, _, _, hvz, hr⟩ := zero_run (w := w) hz
      refine sound_box g (run_v (m := Instr.alloc t true (.tuple #[])) ?_) hv
      simp only [Instr.alloc, Sem.run_bind, hr, Result.andThen_ok, run_newVar, hvz]
      rfl
    · exact hv.elim
  case box t x =>
    split at hv
    · rename_i u hx
      refine sound_box g (run_v (m := Instr.box t (a.eval x)) ?_) hv
      rw [ev_eval g hx]
      simp only [Instr.box, Sem.run_bind, run_newVar, Result.andThen_ok]
      rfl
    · exact hv.elim
  case build t ps =>
    split at hv
    · rename_i l hl
      split at hv
      · rename_i cs hcs
        refine wp_plain g ?_ hv
        rw [exec_build, parts_map g hl]
        exact run_v (build_run hcs)
      · exact hv.elim
    · exact hv.elim
  case buildSlice t len ps =>
    split at hv
    · rename_i e he
      split at hv
      · rename_i z sz l hz hsz hl
        split at hv
        · rename_i cs hc hcs
          simp only [Bool.and_eq_true, Nat.ble_eq] at hc
          have hzl := beq_eq hc.1
          have hle := hc.2
          have hk := hv w.heap.size _ g.fresh rfl
          have hr : (execOp a.eval ⟨dst, .buildSlice t len ps, type, pos, after, guard⟩).run P w = .ok (.value (.slice (some ⟨w.heap.size, 0, none⟩) len len)) (addB w (.cells cs.toArray e (0, 0))) := by
            rw [exec_buildSlice, parts_map g hl]
            exact run_v (buildSlice_run he hz hsz hzl hle hcs)
          clear hv hcs hc hle
          exact wp_value (v := .v (.slice (some ⟨w.heap.size, 0, none⟩) len len)) hr (g.newVis ⟨cs, e, (0, 0)⟩) (ext_h _) trivial hk
        · exact hv.elim
      · exact hv.elim
    · exact hv.elim
  case load t x =>
    split at hv
    · rename_i i off ag n hx ha hn
      split at hv
      · rename_i hc
        simp only [Bool.and_eq_true, Bool.or_eq_true, Nat.ble_eq] at hc
        obtain ⟨_, hle, hag⟩ := hc
        have hi : i < st.nb := ev_ok g hx
        obtain ⟨_, _, ty, hb⟩ := g.box i hi
        have hlen : (((st.B i).drop off).take n).length = n := by simp; omega
        refine wp_plain g (run_v (m := Instr.loadAt t (a.eval x)) ?_) hv
        rw [ev_eval g hx]
        simp only [SV.val, Instr.loadAt, Instr.sureAddr, pure_bind]
        exact run_loadVar (p := ⟨s i, off, none⟩) ha (by rw [hlen]; exact hn) (by rcases hag with h | h; exact .inl h; exact .inr (by rw [hlen]; exact beq_eq h)) hb rfl (by rw [hlen])
      · exact hv.elim
    · rename_i p ag n hx ha hn
      split at hv
      · rename_i hc
        simp only [Bool.and_eq_true, Bool.or_eq_true] at hc
        obtain ⟨⟨_, hl⟩, hag⟩ := hc
        have hl' := beq_eq hl
        obtain ⟨vs, hvl, ⟨hp, b, hb, hrd⟩, hk⟩ := exL_get _ hv
        have hlen : vs.length = n := by rw [hvl, hl']
        refine wp_plain g (run_v (m := Instr.loadAt t (a.eval x)) ?_) hk
        rw [ev_eval g hx]
        simp only [SV.val, Instr.loadAt, Instr.sureAddr, pure_bind]
        exact run_loadVar ha (by rw [hlen]; exact hn) (by rcases hag with h | h; exact .inl h; exact .inr (by rw [hlen]; exact beq_eq h)) (g.sat _ _ hb) hp hrd
      · exact hv.elim
    · exact hv.elim
  case store t x y =>
    split at hv
    · rename_i i off u n hx hy hn
      split at hv
      · rename_i hc
        simp only [Bool.and_eq_true, Nat.ble_eq] at hc
        obtain ⟨⟨⟨hm, h1⟩, hl⟩, hle⟩ := hc
        have hi : i < st.nb := ev_ok g hx
        obtain ⟨_, _, ty, hb⟩ := g.box i hi
        refine wp_skip (run_u (m := Instr.storeAt t (a.eval x) (a.eval y)) ?_) (g.putBox hi hb (setSeg (st.B i) off (vcells u))) (ext_b hm _) hv
        rw [ev_eval g hx, ev_eval g hy]
        simp only [SV.val, Instr.storeAt, Instr.sureAddr, pure_bind]
        exact run_storeVar (p := ⟨s i, off, none⟩) hn rfl hb h1 (beq_eq hl) hle
      · exact hv.elim
    · rename_i p u n hx hy hn
      split at hv
      · rename_i hc
        simp only [Bool.and_eq_true] at hc
        obtain ⟨h1, hl⟩ := hc
        obtain ⟨b, hb, hf, hp, hle, hk⟩ := hv
        have hsat := g.sat _ _ hb
        refine wp_skip (run_u (m := Instr.storeAt t (a.eval x) (a.eval y)) ?_) (g.putVis (b' := { b with cells := setSeg b.cells p.off (vcells u) }) hb) (ext_h _) (hk _ rfl)
        rw [ev_eval g hx, ev_eval g hy]
        simp only [SV.val, Instr.storeAt, Instr.sureAddr, pure_bind]
        rw [hf] at hsat
        have := run_storeVar (P := P) hn hp hsat h1 (beq_eq hl) hle
        rw [this, hf]
      · exact hv.elim
    · exact hv.elim
  case fieldAddr t x i =>
    split at hv
    · rename_i id off fo hx hfo
      have hi : id < st.nb := ev_ok g hx
      refine wp_value (v := .bx id (off + fo)) (run_v (m := Instr.fieldAt t (a.eval x) i) ?_) g (Ext.refl _ _ _ _ _) hi hv
      rw [ev_eval g hx]
      simp only [SV.val]
      rw [fieldOff_run hfo, addr_add_box]
    · rename_i p fo hx hfo
      refine wp_plain g (run_v (m := Instr.fieldAt t (a.eval x) i) ?_) hv
      rw [ev_eval g hx]
      exact fieldOff_run hfo
    · exact hv.elim
  case field t x i =>
    split at hv
    · rename_i cs f hx hf
      obtain ⟨fs, hu, hi⟩ := field_at hf
      obtain ⟨z, hr, hk⟩ := part_run (P := P) (w := w) hv
      refine wp_plain g (run_v (m := Instr.field t (a.eval x) i) ?_) hk
      rw [ev_eval g hx]
      simp only [SV.val, Instr.field, Sem.run_bind, run_underlying hu, Result.andThen_ok, hi, asAgg, pure_bind]
      simpa using hr
    · exact hv.elim
  case indexAddr t x ix =>
    split at hv
    · rename_i A n c k i e hx hix he
      split at hv
      · rename_i sz hsz
        obtain ⟨ad, hA, h1, h2, hk⟩ := hv
        refine wp_plain g (run_v (m := Instr.indexAt t (a.eval x) (a.eval ix)) ?_) hk
        rw [ev_eval g hx, ev_eval g hix]
        have hb : 0 ≤ i ∧ i < (n : Int) := ⟨h1, h2⟩
        subst hA
        simp [SV.val, Instr.indexAt, asIntOf, run_underlying (elem_of he), hb, size_run hsz]
      · exact hv.elim
    · exact hv.elim
  case index t x ix =>
    split at hv
    · rename_i sx k i hx hix hu
      obtain ⟨b, h1, h2, hk⟩ := hv
      refine wp_plain g (run_v (m := Instr.index t (a.eval x) (a.eval ix)) ?_) hk
      rw [ev_eval g hx, ev_eval g hix]
      simp [SV.val, Instr.index, asIntOf, run_underlying hu, h1, h2]
    · exact hv.elim
  case slice t x lo hi mx =>
    cases mx with
    | some _ => exact hv.elim
    | none =>
      simp only at hv
      split at hv
      · rename_i u l h hx hl hh
        obtain ⟨z, hr, hk⟩ := slice_run (P := P) (w := w) hv
        have el := evO_eval g hl
        have eh := evO_eval g hh
        refine wp_plain g (run_v (m := Instr.sliceAt t (a.eval x) (lo.map a.eval) (hi.map a.eval) none) ?_) hk
        rw [ev_eval g hx, el, eh]
        exact hr
      · exact hv.elim
  case makeSlice t l c =>
    split at hv
    · rename_i k1 n k2 k e hl hc he
      split at hv
      · rename_i i z hi hz
        split at hv
        · rename_i hcc
          simp only [Bool.and_eq_true, Nat.ble_eq] at hcc
          obtain ⟨h1, h2, h3, h63, hk⟩ := hv
          have hk' := hk w.heap.size _ g.fresh rfl
          refine wp_value (v := .v (.slice (some ⟨w.heap.size, 0, none⟩) n.toNat k.toNat)) (run_v (m := Instr.makeSlice t (a.eval l) (a.eval c)) ?_) (g.newVis ⟨repV z k.toNat, e, (0, 0)⟩) (ext_h _) trivial hk'
          rw [ev_eval g hl, ev_eval g hc]
          exact makeSlice_run he hi hz (beq_eq hcc.1) h1 h2 h3 h63
        · exact hv.elim
      · exact hv.elim
    · exact hv.elim
  case extract x i =>
    split at hv
    · rename_i vs hx
      split at hv
      · rename_i z hz
        refine wp_plain g (run_v (m := Instr.extract (a.eval x) i) ?_) hv
        rw [ev_eval g hx]
        have hz' : vs[i]? = some z := by simpa using hz
        simp [SV.val, Instr.extract, hz']
      · exact hv.elim
    · exact hv.elim
  case call c =>
    obtain ⟨callee, as, ats⟩ := c
    simp only at hv
    split at hv
    · rename_i f args ha; exact sound_call g ha hv
    · rename_i b args ha; exact sound_builtin g ha hv
    · exact hv.elim
end
end Go.Vcg
