/-
  The calculator is sound: what is built, made, cut, appended, copied.
-/
import Derived.Test.YtfhipkdcekffaaaGreatDoorVcg6
namespace Go.Vcg
open Go

theorem exL_get : ∀ (ss : List Sh) {F : List Value → Prop}, exL ss F → ∃ vs, vs.length = ss.length ∧ F vs
  | [], F, h => ⟨[], rfl, h⟩
  | sh :: r, F, h => by
    cases sh with
    | int k => obtain ⟨n, h⟩ := h; obtain ⟨vs, hl, hF⟩ := exL_get r h; exact ⟨_, by simp [hl], hF⟩
    | bool => obtain ⟨n, h⟩ := h; obtain ⟨vs, hl, hF⟩ := exL_get r h; exact ⟨_, by simp [hl], hF⟩
    | str => obtain ⟨n, h⟩ := h; obtain ⟨vs, hl, hF⟩ := exL_get r h; exact ⟨_, by simp [hl], hF⟩
    | slice => obtain ⟨A, n, c, h⟩ := h; obtain ⟨vs, hl, hF⟩ := exL_get r h; exact ⟨_, by simp [hl], hF⟩
    | ptr => obtain ⟨n, h⟩ := h; obtain ⟨vs, hl, hF⟩ := exL_get r h; exact ⟨_, by simp [hl], hF⟩

theorem exC_get : ∀ (cs : List (Bool × List Sh)) {F : List Value → Prop}, exC cs F → ∃ us, F us
  | [], F, h => ⟨[], h⟩
  | (true, ss) :: r, F, h => by
    obtain ⟨vs, _, h⟩ := exL_get ss h
    obtain ⟨us, h⟩ := exC_get r h
    exact ⟨_, h⟩
  | (false, ss) :: r, F, h => by
    obtain ⟨vs, _, h⟩ := exL_get ss h
    obtain ⟨us, h⟩ := exC_get r h
    exact ⟨_, h⟩

section
variable {P : Program} {w : World}

theorem resR_get {t : TypeId} {v : Value} {K : Value → Prop} (h : resR P t v K) : K v := by
  unfold resR at h
  split at h
  · obtain ⟨us, e, h2⟩ := exC_get _ h; rw [e]; exact h2
  · obtain ⟨us, e, h2⟩ := exC_get _ h; rw [e]; exact h2
  · exact h.elim

theorem zero_run {t : TypeId} {z : List Value} (h : zeroCellsOf P t = some z) : ∃ v i, P.info? t = some i ∧ i.zero = some v ∧ vcells v = z ∧ (zeroValue t).run P w = .ok v w := by
  unfold zeroCellsOf at h
  split at h
  · rename_i i hi
    split at h
    · rename_i v hv
      simp only [Option.some.injEq] at h
      exact ⟨v, i, hi, hv, h, by simp [zeroValue, typeInfo, hi, hv]⟩
    · cases h
  · cases h

theorem run_newVar (t : TypeId) (v : Value) : (newVar t v).run P w = .ok ⟨w.heap.size, 0, none⟩ (addB w (.cells (vcells v).toArray t (0, 0))) := by
  have : v.cells = (vcells v).toArray := by rw [← vcells_toList]
  simp only [newVar, newRow, newObj, Sem.run_bind]
  rw [this]
  rfl

theorem run_newRow (t : TypeId) (cs : List Value) : (newRow t cs.toArray).run P w = .ok ⟨w.heap.size, 0, none⟩ (addB w (.cells cs.toArray t (0, 0))) := rfl

/-! fill -/
theorem foldl_seg (off : Nat) : ∀ (l : List Value) (k : Nat) (cs : Array Value), off + k + l.length ≤ cs.size →
    (l.zipIdx k).foldl (fun cs (x : Value × Nat) => cs.setIfInBounds (off + x.2) x.1) cs = (setSeg cs.toList (off + k) l).toArray
  | [], k, cs, _ => by simp [setSeg_nil]
  | v :: l, k, cs, h => by
    simp only [List.length_cons] at h
    simp only [List.zipIdx_cons, List.foldl_cons]
    rw [foldl_seg off l (k + 1) _ (by simp; omega)]
    rw [show off + (k + 1) = off + k + 1 from by omega]
    have : (cs.setIfInBounds (off + k) v).toList = cs.toList.set (off + k) v := by simp
    rw [this, setSeg_cons _ _ _ _ (by simp; omega)]

theorem fill_eq (place : Nat → Option (Nat × Nat)) : ∀ (parts : List (Nat × Value)) (cs r : List Value), fillL place cs parts = some r → Instr.fill place cs.toArray parts = some r.toArray
  | [], cs, r, h => by simp only [fillL, Option.some.injEq] at h; subst h; rfl
  | (i, v) :: rest, cs, r, h => by
    simp only [fillL] at h
    split at h
    · cases h
    · rename_i off size hp
      split at h
      · rename_i hc
        simp only [Bool.and_eq_true, Nat.ble_eq] at hc
        have h1 := beq_eq hc.1
        have h2 := hc.2
        have hs : v.cells.size = size := by rw [vcells_size, h1]
        have hcond : (decide (v.cells.size ≠ size) || decide (off + v.cells.size > cs.toArray.size)) = false := by
          simp only [hs, ne_eq, not_true, decide_false, Bool.false_or, decide_eq_false_iff_not, List.size_toArray]
          omega
        have hf : v.cells.zipIdx.foldl (fun cs (x : Value × Nat) => cs.setIfInBounds (off + x.2) x.1) cs.toArray = (setSeg cs off (vcells v)).toArray := by
          rw [← Array.foldl_toList, Array.toList_zipIdx]
          have := foldl_seg off (vcells v) 0 cs.toArray (by simp; omega)
          rw [vcells_toList]
          simpa using this
        simp only [Instr.fill, hp]
        have ih := fill_eq place rest _ r h
        simp only [hcond, Bool.false_eq_true, if_false]
        rw [← ih, ← hf]
      · cases h

theorem places_run : ∀ (fs : List Field) {pl : List (Nat × Nat)}, placesOf P fs = some pl →
    (fs.mapM fun f => (do pure (f.offset, ← sizeOf f.type) : Sem (Nat × Nat))).run P w = .ok pl w
  | [], pl, h => by simp only [placesOf, Option.some.injEq] at h; subst h; rfl
  | f :: r, pl, h => by
    simp only [placesOf] at h
    split at h
    · rename_i n l hn hl
      simp only [Option.some.injEq] at h
      subst h
      have ih := places_run r hl
      simp only [List.mapM_cons, Sem.run_bind, size_run hn, Result.andThen_ok, Sem.run_pure, ih]
    · cases h

theorem partsV_eval {nt : Nat} {h0 : Heap} {w0 : World} {s : Nat → Nat} {st : St} {a : Act} (g : Good nt h0 w0 s st a w) : ∀ (ps : List (Nat × Operand)) {l : List (Nat × Value)}, partsV st ps = some l →
    ps.map (fun x => (x.1, a.eval x.2)) = l
  | [], l, h => by simp only [partsV, Option.some.injEq] at h; subst h; rfl
  | (i, x) :: r, l, h => by
    simp only [partsV] at h
    split at h
    · rename_i y l' hx hl
      simp only [Option.some.injEq] at h
      subst h
      simp only [List.map_cons, partsV_eval g r hl, ev_eval g hx]
      rfl
    · cases h

theorem build_run {t : TypeId} {l : List (Nat × Value)} {cs : List Value} (h : buildV P t l = some cs) : (Instr.build t l.toArray).run P w = .ok (.agg cs.toArray) w := by
  unfold buildV at h
  split at h
  · rename_i z fs hz hu
    obtain ⟨v, i, _, _, hv, hr⟩ := zero_run (w := w) hz
    split at h
    · rename_i pl hpl
      have hf := fill_eq _ _ _ _ h
      have hc : v.cells = z.toArray := by rw [← hv, ← vcells_toList]
      have hm : (fs.mapM fun f => (do pure (f.offset, ← sizeOf f.type) : Sem (Nat × Nat))).run P w = .ok pl.toArray w := by
        rw [Array.mapM_eq_mapM_toList]
        simp only [map_eq_pure_bind, Sem.run_bind, places_run (w := w) _ hpl, Result.andThen_ok, Sem.run_pure]
      have hf' : Instr.fill (fun i => pl.toArray[i]?) z.toArray l = some cs.toArray := by simpa using hf
      simp only [Instr.build, Sem.run_bind, hr, Result.andThen_ok, run_underlying hu, hm, hc, hf']
      rfl
    · cases h
  · rename_i z n e hz hu
    obtain ⟨v, i, _, _, hv, hr⟩ := zero_run (w := w) hz
    split at h
    · rename_i sz hsz
      have hf := fill_eq _ _ _ _ h
      have hc : v.cells = z.toArray := by rw [← hv, ← vcells_toList]
      simp only [Instr.build, Sem.run_bind, hr, Result.andThen_ok, run_underlying hu, size_run hsz, hc, hf]
      rfl
    · cases h
  · cases h

/-! rows of zeros -/
theorem repV_length (z : List Value) (n : Nat) : (repV z n).length = n * z.length := by
  induction n with
  | zero => simp [repV]
  | succ n ih => simp [repV, ih, Nat.succ_mul, Nat.add_comm]

theorem repV_get (z : List Value) : ∀ (n i : Nat), i < n * z.length → (repV z n)[i]? = z[i % z.length]?
  | 0, i, h => by simp at h
  | n + 1, i, h => by
    simp only [repV]
    by_cases hi : i < z.length
    · rw [List.getElem?_append_left hi, Nat.mod_eq_of_lt hi]
    · have hz : z.length ≤ i := by omega
      rw [List.getElem?_append_right hz, repV_get z n (i - z.length) (by rw [Nat.succ_mul] at h; omega), Nat.mod_eq_sub_mod hz]

theorem made_eq (z : List Value) (n : Nat) : (Array.range (n * z.length)).map (fun i => z.toArray[i % z.toArray.size]!) = (repV z n).toArray := by
  apply Array.ext_getElem?
  intro i
  by_cases hi : i < n * z.length
  · have hpos : 0 < z.length := by
      rcases Nat.eq_zero_or_pos z.length with h | h
      · rw [h] at hi; simp at hi
      · exact h
    have hm : i % z.length < z.length := Nat.mod_lt _ hpos
    simp only [Array.getElem?_map, List.getElem?_toArray, repV_get z n i hi]
    rw [List.getElem?_eq_getElem hm]
    simp [hi, hm]
  · have h1 : (repV z n).length ≤ i := by rw [repV_length]; omega
    simp [hi, h1]

theorem zeroCells_eq (z : List Value) (n : Nat) : Builtin.zeroCells z.toArray n = (repV z n).toArray := by
  unfold Builtin.zeroCells
  have := made_eq z n
  simpa using this

theorem makeSlice_run {t e : TypeId} {i : TypeInfo} {z : List Value} {kl kc : IntKind} {n c : Int} (ht : elemOf P t = some e) (hi : P.info? e = some i) (hz : zeroCellsOf P e = some z)
    (hzl : z.length = i.size) (h0 : 0 ≤ n) (hnc : n ≤ c) (hb : c * (i.bytes : Int) ≤ 140737488355328) (h63 : c ≤ 9223372036854775807) :
    (Instr.makeSlice t (.int kl n) (.int kc c)).run P w = .ok (.slice (some ⟨w.heap.size, 0, none⟩) n.toNat c.toNat) (addB w (.cells (repV z c.toNat).toArray e (0, 0))) := by
  have hu : P.underlying t = some (.slice e) := by
    unfold elemOf at ht
    split at ht
    · rename_i e' hu; simp only [Option.some.injEq] at ht; subst ht; exact hu
    · cases ht
  obtain ⟨v, i', hi', hz', hv, _⟩ := zero_run (w := w) hz
  rw [hi] at hi'
  simp only [Option.some.injEq] at hi'
  subst hi'
  have hr := run_make (P := P) w t e i v hu hi hz' kl kc n c h0 hnc (by rw [Int.mul_comm]; omega) h63
  rw [hr]
  have hc : v.cells = z.toArray := by rw [← hv, ← vcells_toList]
  have : madeCells v.cells (c.toNat * i.size) = (repV z c.toNat).toArray := by
    rw [hc, ← hzl]
    exact made_eq z c.toNat
  rw [this]
  rfl

/-! bounds, cuts -/
theorem bound_run {x : Option Value} {d lo hi : Nat} {K : Nat → Prop} (code : BoundsCode) (h : boundR x d lo hi K) (hlo : lo = 0) :
    ∃ k, (match x with | some v => Instr.sliceBound v hi code | none => pure d).run P w = .ok k w ∧ K k := by
  subst hlo
  cases x with
  | none => exact ⟨d, rfl, h⟩
  | some v =>
    cases v <;> simp only [boundR] at h <;> try exact h.elim
    rename_i k n
    obtain ⟨h1, h2, h3⟩ := h
    have hc : 0 ≤ n ∧ n ≤ (hi : Int) := ⟨by simpa using h1, h2⟩
    exact ⟨_, by simp [Instr.sliceBound, asIntOf, hc], h3⟩

theorem slice_run {t : TypeId} {x : Value} {lo hi : Option Value} {K : Value → Prop} (h : sliceR P t x lo hi K) : ∃ z, (Instr.sliceAt t x lo hi none).run P w = .ok z w ∧ K z := by
  unfold sliceR at h
  split at h
  · rename_i s hu
    obtain ⟨hh, hr1, h⟩ := bound_run (P := P) (w := w) .sliceAlen h rfl
    obtain ⟨l, hr2, h⟩ := bound_run (P := P) (w := w) .sliceB h rfl
    refine ⟨_, ?_, h⟩
    have hb : (Instr.sliceBounds false s.size s.size lo hi none).run P w = .ok (l, hh, s.size) w := by
      cases hi <;> cases lo <;> simp only [Instr.sliceBounds, Sem.run_bind, Sem.run_pure, Result.andThen_ok] <;> simp_all
    simp only [Instr.sliceAt, Instr.slice, Sem.run_bind, run_underlying hu, Result.andThen_ok]
    simp [hb]
  · rename_i e A n c hu
    split at h
    · rename_i sz hsz
      split at h
      · obtain ⟨hh, hr1, h⟩ := bound_run (P := P) (w := w) .sliceAcap h rfl
        refine ⟨_, ?_, h⟩
        have hb : (Instr.sliceBounds true n c none hi none).run P w = .ok (0, hh, c) w := by
          cases hi <;> simp only [Instr.sliceBounds, Sem.run_bind, Sem.run_pure, Result.andThen_ok] <;> simp_all
        have hA : (if c = 0 then A else A.map fun x => x.add (0 * sz)) = A := by
          split
          · rfl
          · cases A <;> simp [Addr.add]
        simp only [Instr.sliceAt, Instr.slice, Sem.run_bind, run_underlying hu, Result.andThen_ok, hb, size_run hsz, Sem.run_pure, Nat.sub_zero]
        rw [hA]
      · rename_i v
        obtain ⟨hh, hr1, h⟩ := bound_run (P := P) (w := w) .sliceAcap h rfl
        obtain ⟨l, hr2, h⟩ := bound_run (P := P) (w := w) .sliceB h rfl
        refine ⟨_, ?_, h⟩
        have hb : (Instr.sliceBounds true n c (some v) hi none).run P w = .ok (l, hh, c) w := by
          cases hi <;> simp only [Instr.sliceBounds, Sem.run_bind, Sem.run_pure, Result.andThen_ok] <;> simp_all
        simp only [Instr.sliceAt, Instr.slice, Sem.run_bind, run_underlying hu, Result.andThen_ok, hb, size_run hsz, Sem.run_pure]
    · exact h.elim
  · exact h.elim

theorem part_run {t : TypeId} {cs : List Value} {off : Nat} {K : Value → Prop} (h : partR P t cs off K) : ∃ z, (part t cs.toArray off).run P w = .ok z w ∧ K z := by
  unfold partR at h
  split at h
  · rename_i ag n ha hn
    split at h
    · rename_i hle
      have hle' : off + n ≤ cs.length := by simpa [Nat.ble_eq] using hle
      cases ag with
      | true =>
        refine ⟨_, ?_, h⟩
        simp only [part, Sem.run_bind, agg_run ha, Result.andThen_ok, if_true, size_run hn, Sem.run_pure]
        have : cs.toArray.extract off (off + n) = ((cs.drop off).take n).toArray := by simp [List.extract_eq_take_drop]
        rw [this]
      | false =>
        simp only at h
        split at h
        · rename_i h1
          have h1' := beq_eq h1
          refine ⟨_, ?_, h⟩
          have hlt : off < cs.length := by omega
          simp only [part, Sem.run_bind, agg_run ha, Result.andThen_ok, Bool.false_eq_true, if_false]
          have e : (cs.drop off).headD undef = cs[off] := by
            rw [List.drop_eq_getElem_cons hlt]
            rfl
          rw [e]
          simp [hlt]
        · exact h.elim
    · exact h.elim
  · exact h.elim

/-! cells of slices -/
theorem firstCells_run {h : Heap} (hs : Sat h w) {A : Option Addr} {n sz : Nat} {vs : List Value} (l c : Nat) (hr : RdS h A (n * sz) vs) : (Builtin.firstCells sz n (.slice A l c)).run P w = .ok vs.toArray w := by
  cases A with
  | none =>
    have h0 : n * sz = 0 := by
      rcases Nat.eq_zero_or_pos (n * sz) with h | h
      · exact h
      · obtain ⟨ad, e, _⟩ := hr.2 h; cases e
    have : vs = [] := List.eq_nil_of_length_eq_zero (by rw [hr.1, h0])
    subst this
    rfl
  | some a =>
    simp only [Builtin.firstCells]
    rcases Nat.eq_zero_or_pos (n * sz) with h0 | hpos
    · have : vs = [] := List.eq_nil_of_length_eq_zero (by rw [hr.1, h0])
      subst this
      rw [h0]
      rfl
    · obtain ⟨ad, e, hp, b, hb, hv⟩ := hr.2 hpos
      simp only [Option.some.injEq] at e
      subst e
      rw [← hr.1]
      exact run_loadCells (hs _ _ hb) hp hv

theorem append_stay {h : Heap} (hs : Sat h w) {t t' e e' ty : TypeId} {i : TypeInfo} (ht : P.underlying t = some (.slice e)) (ht' : P.underlying t' = some (.slice e')) (hi : P.info? e = some i)
    {A A' : Option Addr} {n c m c' : Nat} {xs : List Value} (hx : RdS h A' (m * i.size) xs) (h1 : ∀ x ∈ xs, one x = true) (hle : n + m ≤ c) {ad : Addr} {b : Blk} (hA : A = some ad) (hp : ad.spot = none) (hb : h ad.block = some b)
    (hf : b.fz = (0, 0)) (hl : ad.off + n * i.size + m * i.size ≤ b.cells.length) :
    (Builtin.append_ #[t, t'] ty #[.slice A n c, .slice A' m c']).run P w = .ok (.slice A (n + m) c) (putB w ad.block (.cells (setSeg b.cells (ad.off + n * i.size) xs).toArray b.ty b.fz)) := by
  subst hA
  have hfc := firstCells_run (P := P) hs m c' hx
  have hsat := hs _ _ hb
  rw [hf] at hsat
  have hst : (storeCells (ad.add (n * i.size)) xs).run P w = .ok () (putB w ad.block (.cells (setSeg b.cells (ad.off + n * i.size) xs).toArray b.ty (0, 0))) := by
    have hp' : (ad.add (n * i.size)).spot = none := by unfold Addr.add; split <;> simp [hp]
    have ho : (ad.add (n * i.size)).off = ad.off + n * i.size := by unfold Addr.add; split <;> simp_all
    have hbk : (ad.add (n * i.size)).block = ad.block := by unfold Addr.add; split <;> rfl
    have := run_storeCells (P := P) (p := ad.add (n * i.size)) (ty := b.ty) hp' xs b.cells w 0 (by rw [hbk]; exact hsat) h1 (by rw [ho, hx.1]; omega)
    rw [hbk, ho, Nat.add_zero] at this
    exact this
  simp [Builtin.append_, run_underlying ht, run_underlying ht', sizeOf, typeInfo, hi, Builtin.lenOf, hle, hfc, hst, hf]

theorem append_none {h : Heap} (hs : Sat h w) {t t' e e' ty : TypeId} {i : TypeInfo} (ht : P.underlying t = some (.slice e)) (ht' : P.underlying t' = some (.slice e')) (hi : P.info? e = some i)
    {A A' : Option Addr} {n c m c' : Nat} {xs : List Value} (hx : RdS h A' (m * i.size) xs) (hle : n + m ≤ c) (h0 : m * i.size = 0) :
    (Builtin.append_ #[t, t'] ty #[.slice A n c, .slice A' m c']).run P w = .ok (.slice A (n + m) c) w := by
  have hfc := firstCells_run (P := P) hs m c' hx
  have : xs = [] := List.eq_nil_of_length_eq_zero (by rw [hx.1, h0])
  subst this
  cases A with
  | none => simp [Builtin.append_, run_underlying ht, run_underlying ht', sizeOf, typeInfo, hi, Builtin.lenOf, hle, hfc]
  | some ad => simp [Builtin.append_, run_underlying ht, run_underlying ht', sizeOf, typeInfo, hi, Builtin.lenOf, hle, hfc, storeCells]

theorem append_grow {h : Heap} (hs : Sat h w) {t t' e e' ty : TypeId} {i : TypeInfo} {z : Value} (ht : P.underlying t = some (.slice e)) (ht' : P.underlying t' = some (.slice e')) (hi : P.info? e = some i)
    (hz : i.zero = some z) {A A' : Option Addr} {n c m c' : Nat} {olds xs : List Value} (hx : RdS h A' (m * i.size) xs) (ho : RdS h A (n * i.size) olds) (hlt : c < n + m)
    (hb1 : 1 ≤ i.bytes) (hb : (n + m) * i.bytes ≤ 140737488355328) :
    ∃ k d, n + m ≤ k ∧ (Builtin.append_ #[t, t'] ty #[.slice A n c, .slice A' m c']).run P w = .ok (.slice (some ⟨w.heap.size, 0, none⟩) (n + m) k)
      (addB { w with drawn := d } (.cells (olds ++ xs ++ repV (vcells z) (k - (n + m))).toArray e (0, 0))) := by
  have hw' : Sat h w.drew := hs
  have hfx := firstCells_run (P := P) hw' m c' hx
  have hfo := firstCells_run (P := P) hw' n c ho
  have hn : ¬ (n + m ≤ c) := by omega
  have hnm : n + m ≤ 140737488355328 := Nat.le_trans (Nat.le_mul_of_pos_right _ hb1) hb
  have h63' : ¬ (9223372036854775807 < ((n : Int) + (m : Int))) := by omega
  have h48' : ¬ (281474976710656 < Builtin.nextslicecap (n + m) c * i.bytes) := by have := growslice_fits (need := n + m) (old := c) (bytes := i.bytes) (by omega) hb; omega
  have hq : (Question.appendCap (n + m) c e).forced = false := rfl
  have hc : z.cells = (vcells z).toArray := by rw [← vcells_toList]
  have hzc := zeroCells_eq (vcells z)
  refine ⟨(Question.appendCap (n + m) c e).cut (w.tape w.drawn (.appendCap (n + m) c e)), w.drawn + 1, ?_, ?_⟩
  · simp only [Question.cut]; omega
  · simp [Builtin.append_, run_underlying ht, run_underlying ht', sizeOf, typeInfo, hi, Builtin.lenOf, hn, h63', h48', hq, choose, Sem.run, hfx, hfo, zeroValue, hz, hc, hzc, newRow, newObj, addB]
    rfl
end
end Go.Vcg
