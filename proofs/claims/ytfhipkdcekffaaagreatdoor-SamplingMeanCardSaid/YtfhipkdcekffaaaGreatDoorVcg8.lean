/-
  The calculator is sound: one operation.
-/
import Derived.Test.YtfhipkdcekffaaaGreatDoorVcg7
namespace Go.Vcg
open Go

theorem run_v {P : Program} {w w' : World} {m : Sem Value} {z : Value} (h : m.run P w = .ok z w') : (do pure (Next.value (← m)) : Sem Next).run P w = .ok (.value z) w' := by
  rw [Sem.run_bind, h]; rfl

theorem run_u {P : Program} {w w' : World} {m : Sem Unit} (h : m.run P w = .ok () w') : (do m; pure Next.skip : Sem Next).run P w = .ok .skip w' := by
  rw [Sem.run_bind, h]; rfl

section
variable {P : Program} {nt : Nat} {h0 : Heap} {w0 : World} {s : Nat → Nat} {st : St} {a : Act} {w : World} {K : St → Prop} {mb vis : Nat → Bool} {Q : Exit → Act → World → Prop}
  {dst : Option Tmp} {type : TypeId} {pos : String} {after : Array Edge} {guard : Option (Nat × Bool)}

theorem wp_plain {op : Op} {z : Value} (g : Good nt h0 w0 s st a w) (hr : (execOp a.eval ⟨dst, op, type, pos, after, guard⟩).run P w = .ok (.value z) w) (hk : putK nt dst (.v z) st K) :
    Oper.wp P ⟨dst, op, type, pos, after, guard⟩ a w (NextP nt h0 w0 K (dstW dst) mb s st a) Q :=
  wp_value (v := .v z) hr g (Ext.refl _ _ _ _ _) trivial hk

theorem sound_copy (g : Good nt h0 w0 s st a w) {op : Op} {x : Operand} {v : SV} (hx : ev st x = some v) (hr : (execOp a.eval ⟨dst, op, type, pos, after, guard⟩).run P w = .ok (.value (a.eval x)) w) (hk : putK nt dst v st K) :
    Oper.wp P ⟨dst, op, type, pos, after, guard⟩ a w (NextP nt h0 w0 K (dstW dst) mb s st a) Q := by
  rw [ev_eval g hx] at hr
  exact wp_value hr g (Ext.refl _ _ _ _ _) (ev_ok g hx) hk

theorem sound_box (g : Good nt h0 w0 s st a w) {op : Op} {t : TypeId} {cells : List Value}
    (hr : (execOp a.eval ⟨dst, op, type, pos, after, guard⟩).run P w = .ok (.value (.pointer (some ⟨w.heap.size, 0, none⟩))) (addB w (.cells cells.toArray t (0, 0)))) (hk : boxR nt vis dst t cells st K) :
    Oper.wp P ⟨dst, op, type, pos, after, guard⟩ a w (NextP nt h0 w0 K (dstW dst) mb s st a) Q := by
  unfold boxR at hk
  split at hk
  · split at hk
    · have h := hk w.heap.size _ g.fresh rfl
      exact wp_value (v := .v (.pointer (some ⟨w.heap.size, 0, none⟩))) hr (g.newVis ⟨cells, t, (0, 0)⟩) (ext_h _) trivial h
    · refine wp_value (v := .bx st.nb 0) (s1 := sigP s st.nb w.heap.size) ?_ (g.newBox cells t) (ext_new cells _) (Nat.lt_succ_self _) hk
      rw [hr]
      simp [SV.val, sigP]
  · exact hk.elim

theorem resolve_func (ρ : Operand → Value) (f : FuncId) (args : Array Operand) (ats : Array TypeId) (t : TypeId) (hf : ρ (.func f) = .func (.func f) #[] #[]) :
    (do let d ← resolve ρ { callee := .value (.func f), args := args, argTypes := ats } t; invoke d.target d.args : Sem Next) = callFunc f (args.map ρ) := by
  simp only [resolve, Deferred.ofValue, hf]
  simp [invoke]

theorem callFunc_run {f : FuncId} (hc : Callable P f) (args : Array Value) : (callFunc f args).run P w = .ok (.enter f args) w := by
  obtain ⟨fn, h1, h2, h3⟩ := hc
  have h3' : fn.name ≠ "runtime.NumGoroutine" := by simpa using h3
  have h2' : fn.body ≠ none := fun e => by rw [e] at h2; cases h2
  simp [callFunc, h1, h2', h3']

theorem sound_call (g : Good nt h0 w0 s st a w) {f : FuncId} {as : Array Operand} {ats : Array TypeId} {args : List Value} (ha : evs st as.toList = some args)
    (hk : CallsU P f args st.h fun v h => resR P type v fun z => putK nt dst (.v z) (st.setH h) K) :
    Oper.wp P ⟨dst, .call { callee := .value (.func f), args := as, argTypes := ats }, type, pos, after, guard⟩ a w (NextP nt h0 w0 K (dstW dst) mb s st a) Q := by
  obtain ⟨hc, hcall⟩ := hk
  have hargs : as.map a.eval = args.toArray := by
    rw [← evs_eval g _ ha]
    cases as
    simp
  have hrun : (execOp a.eval ⟨dst, .call { callee := .value (.func f), args := as, argTypes := ats }, type, pos, after, guard⟩).run P w = .ok (.enter f args.toArray) w := by
    show (do let d ← resolve a.eval { callee := .value (.func f), args := as, argTypes := ats } type; invoke d.target d.args : Sem Next).run P w = _
    rw [resolve_func a.eval f as ats type rfl, hargs]
    exact callFunc_run hc _
  simp only [Oper.wp, hrun, Oper.upon]
  refine (hcall w g.sat).mono ?_
  rintro e w' ⟨v, h', rfl, hr, hs, fr⟩
  exact putK_sound (v := .v v) (g.call hs fr) (ext_h _) trivial (resR_get hr)

theorem builtin_exec {b : Builtin} {as : Array Operand} {ats : Array TypeId} {args : List Value} {z : Value} {w' : World} (g : Good nt h0 w0 s st a w) (ha : evs st as.toList = some args)
    (h : (builtin b ats type (as.map fun | .const _ => true | _ => false) args.toArray).run P w = .ok (.value z) w') :
    (execOp a.eval ⟨dst, .call { callee := .builtin b, args := as, argTypes := ats }, type, pos, after, guard⟩).run P w = .ok (.value z) w' := by
  have hargs : as.map a.eval = args.toArray := by
    rw [← evs_eval g _ ha]
    cases as
    simp
  show (do let d ← resolve a.eval { callee := .builtin b, args := as, argTypes := ats } type; invoke d.target d.args : Sem Next).run P w = _
  simp only [resolve, pure_bind, invoke, hargs]
  exact h

theorem minL_run : ∀ (r : List Value) (k : IntKind) (x z : Int), minL (fun y x => decide (y < x)) x r = some z → (r.foldlM Builtin.min2 (.int k x)).run P w = .ok (.int k z) w
  | [], k, x, z, h => by simp only [minL, Option.some.injEq] at h; subst h; rfl
  | v :: r, k, x, z, h => by
    cases v <;> simp only [minL] at h <;> try cases h
    rename_i k' y
    simp only [decide_eq_true_eq] at h
    simp only [List.foldlM_cons, Builtin.min2, pure_bind]
    exact minL_run r k _ z h

theorem maxL_run : ∀ (r : List Value) (k : IntKind) (x z : Int), minL (fun y x => decide (y > x)) x r = some z → (r.foldlM Builtin.max2 (.int k x)).run P w = .ok (.int k z) w
  | [], k, x, z, h => by simp only [minL, Option.some.injEq] at h; subst h; rfl
  | v :: r, k, x, z, h => by
    cases v <;> simp only [minL] at h <;> try cases h
    rename_i k' y
    simp only [decide_eq_true_eq] at h
    simp only [List.foldlM_cons, Builtin.max2, pure_bind]
    exact maxL_run r k _ z h

theorem list2 {α : Type} {l : List α} {x y : α} (h : l = [x, y]) : l.toArray = #[x, y] := by rw [h]

theorem sound_builtin (g : Good nt h0 w0 s st a w) {b : Builtin} {as : Array Operand} {ats : Array TypeId} {args : List Value} (ha : evs st as.toList = some args)
    (hk : builtR P b ats.toList args st.h fun z h => putK nt dst (.v z) (st.setH h) K) :
    Oper.wp P ⟨dst, .call { callee := .builtin b, args := as, argTypes := ats }, type, pos, after, guard⟩ a w (NextP nt h0 w0 K (dstW dst) mb s st a) Q := by
  have same : st.setH st.h = st := rfl
  unfold builtR at hk
  split at hk
  · rename_i t x hts
    have hts' : ats = #[t] := by rw [← Array.toArray_toList (xs := ats), hts]
    subst hts'
    split at hk
    · rename_i sx hu
      exact wp_plain g (builtin_exec g ha (run_v (by simp [Builtin.len_, run_underlying hu, goInt]))) hk
    · rename_i n e hu
      exact wp_plain g (builtin_exec g ha (run_v (by simp [Builtin.len_, run_underlying hu, goInt]))) hk
    · rename_i e A n c hu
      exact wp_plain g (builtin_exec g ha (run_v (by simp [Builtin.len_, run_underlying hu, goInt]))) hk
    · exact hk.elim
  · rename_i t x hts
    have hts' : ats = #[t] := by rw [← Array.toArray_toList (xs := ats), hts]
    subst hts'
    split at hk
    · rename_i e A n c hu
      exact wp_plain g (builtin_exec g ha (run_v (by simp [Builtin.cap_, run_underlying hu, goInt]))) hk
    · exact hk.elim
  · rename_i k x r
    split at hk
    · rename_i z hz
      exact wp_plain g (builtin_exec g ha (run_v (by simpa [Builtin.min_] using minL_run r k x z hz))) hk
    · exact hk.elim
  · rename_i k x r
    split at hk
    · rename_i z hz
      exact wp_plain g (builtin_exec g ha (run_v (by simpa [Builtin.max_] using maxL_run r k x z hz))) hk
    · exact hk.elim
  · rename_i t t' A n c A' m c' hts
    have hts' : ats = #[t, t'] := by rw [← Array.toArray_toList (xs := ats), hts]
    subst hts'
    split at hk
    · rename_i e e' hu hu'
      split at hk
      · rename_i i hi
        split at hk
        · rename_i z hz
          split at hk
          · rename_i hc
            simp only [Bool.and_eq_true, Nat.ble_eq] at hc
            have hb1 := hc.2
            obtain ⟨xs, hx, h1, hstay, hgrow⟩ := hk
            rcases Nat.lt_or_ge c (n + m) with hlt | hle
            · obtain ⟨olds, ho, hb, hK⟩ := hgrow hlt
              obtain ⟨k, d, hk1, hr⟩ := append_grow (P := P) (ty := type) g.sat hu hu' hi hz hx ho hlt hb1 hb (c' := c')
              have hK' := hK w.heap.size k _ g.fresh hk1 rfl
              exact wp_value (v := .v (.slice (some ⟨w.heap.size, 0, none⟩) (n + m) k)) (builtin_exec g ha (run_v hr)) ((g.drawn d).newVis _) (ext_h _) trivial hK'
            · have hs := hstay hle
              by_cases h0' : m * i.size = 0
              · rw [decide_eq_true h0'] at hs
                exact wp_plain g (builtin_exec g ha (run_v (append_none (P := P) (ty := type) g.sat hu hu' hi hx hle h0' (c' := c')))) hs
              · rw [decide_eq_false h0'] at hs
                obtain ⟨ad, bb, hA, hp, hbb, hf, hl, hK⟩ := hs
                have hr := append_stay (P := P) (ty := type) g.sat hu hu' hi hx h1 hle hA hp hbb hf hl (c' := c')
                exact wp_value (v := .v (.slice A (n + m) c)) (builtin_exec g ha (run_v hr)) (g.putVis (b' := { bb with cells := setSeg bb.cells (ad.off + n * i.size) xs }) hbb) (ext_h _) trivial (hK _ rfl)
          · exact hk.elim
        · exact hk.elim
      · exact hk.elim
    · exact hk.elim
  · rename_i t t' A n c A' m c' hts
    have hts' : ats = #[t, t'] := by rw [← Array.toArray_toList (xs := ats), hts]
    subst hts'
    split at hk
    · rename_i e hu
      split at hk
      · rename_i sz hsz
        obtain ⟨xs, hx, h1, hz, hp⟩ := hk
        have hfc := firstCells_run (P := P) g.sat m c' hx
        have hmin : Nat.min m n = min m n := rfl
        rcases Nat.eq_zero_or_pos (min m n * sz) with h0' | hpos
        · have : xs = [] := List.eq_nil_of_length_eq_zero (by rw [hx.1, h0'])
          subst this
          refine wp_plain g (builtin_exec g ha (run_v ?_)) (hz h0')
          cases A with
          | none => simp [Builtin.copy_, run_underlying hu, Builtin.lenOf, size_run hsz, hfc, goInt, hmin]
          | some ad => simp [Builtin.copy_, run_underlying hu, Builtin.lenOf, size_run hsz, hfc, goInt, storeCells, hmin]
        · obtain ⟨ad, bb, rfl, hsp, hbb, hf, hl, hK⟩ := hp hpos
          have hsat := g.sat _ _ hbb
          rw [hf] at hsat
          have hst := run_storeCells (P := P) (p := ad) (ty := bb.ty) hsp xs bb.cells w 0 hsat h1 (by rw [hx.1]; omega)
          refine wp_value (v := .v (.int .i64 (min m n : Nat))) (builtin_exec g ha (run_v ?_)) (g.putVis (b' := { bb with cells := setSeg bb.cells ad.off xs }) hbb) (ext_h _) trivial (hK _ rfl)
          simp only [Nat.add_zero] at hst
          simp [Builtin.copy_, run_underlying hu, Builtin.lenOf, size_run hsz, hfc, goInt, hst, hf, hmin, SV.val]
      · exact hk.elim
    · exact hk.elim
  · exact hk.elim
end
end Go.Vcg
