/-
  Gathered texts of this proof: Fin1, Fin2, Rf6, Pl7, Rf7, Rf8, Ml3, Rf9, Ml4.
-/
import Derived.Test.YtccplhjglhdopaaGreatDoorG03
import Derived.Test.YtccplhjglhdopaaGreatDoorRows
import Derived.ProofKit
import Derived.LaidMore
import Derived.OpenShut
import Derived.Stop.Joined
import Derived.Below
import Derived.ChangeSame
import Derived.Carry
import Derived.WideKeyArgs
import Derived.SevenTiedAt
import Derived.Test.YtccplhjglhdopaaGreatDoorG09
import Derived.ChangeSlices
import Derived.ChangeMaps5
import Derived.MakeChecks
import Derived.Stop.LaidErr
import Derived.Lib.SmallJoins

/-
  From a contract over the whole visible heap to the given row: the law returns true and the arguments read as before.
-/
namespace Go.Proofs.YtccplhjglhdopaaGreatDoor
open Go Go.Vcg Go.RowKit Go.WideShapes Go.ChangeShapes

/-- All blocks of cells. -/
def full (W : World) : Heap := fun k =>
  match W.heap[k]? with
  | some (.cells cs ty fz) => bif plainB ⟨cs.toList, ty, fz⟩ then some ⟨cs.toList, ty, fz⟩ else none
  | _ => none

theorem full_sat (W : World) : Sat (full W) W := by
  intro k b hb
  unfold full at hb
  split at hb
  · rename_i cs ty fz e
    cases hp : plainB ⟨cs.toList, ty, fz⟩ with
    | false => rw [hp] at hb; cases hb
    | true =>
      rw [hp] at hb
      cases hb
      exact .mk' hp (by rw [e])
  · cases hb

theorem calls_full {P : Program} {f : FuncId} {args : List Value} {W : World} (c : CallsU P f args (full W) fun v h' => v = .bool true ∧ Le (full W) h') :
    Calls P f args.toArray W fun e W' => e = .returned (.bool true) ∧ Below W.heap.size W W' := by
  refine (c.2 W (full_sat W)).mono ?_
  rintro e W' ⟨v, h', rfl, ⟨rfl, hl⟩, hs, fr⟩
  refine ⟨rfl, ⟨fr.os, fr.tape, fr.output, fr.size, fun k hk => ?_⟩⟩
  cases e : full W k with
  | none => exact (fr.keep k hk e).2
  | some b =>
    have hp : plainB b = true := by
      unfold full at e
      split at e
      · rename_i cs ty fz _
        cases hp : plainB ⟨cs.toList, ty, fz⟩ with
        | false => rw [hp] at e; cases e
        | true => rw [hp] at e; cases e; exact hp
      · cases e
    rw [(hs k b (hl k b e)).cells hp, (full_sat W k b e).cells hp]

section
variable {H : Type} {enc : TypeId × Value → H} {P : Program}

/-- The arguments read as before. -/
theorem trodAll_below (hl : laidOutB P = true) {W W' : World} (hb : Below W.heap.size W W') {sp : Nat → Bool} :
    ∀ {ts : List TypeId} {vs : List Value} {ds : List (DataW H)} {ps : List MemPlace}, (ts.all fun t => P.readableRec t && decide (t < P.types.size)) = true →
      DataW.TrodAll enc P W 0 (fun _ => true) true ts vs ds ps → (∀ p ∈ ps, sp p.block = true) → DataW.TrodAll enc P W' 0 sp true ts vs ds ps
  | [], [], [], _, _, h, _ => h
  | [], [], _ :: _, _, _, h, _ => h.elim
  | [], _ :: _, _, _, _, h, _ => h.elim
  | _ :: _, [], _, _, _, h, _ => h.elim
  | _ :: _, _ :: _, [], _, _, h, _ => h.elim
  | t :: ts, v :: vs, d :: ds, ps, hr, h, hsp => by
    have hlt := h.lt
    obtain ⟨p, q, h1, h2, rfl⟩ := h
    simp only [List.all_cons, Bool.and_eq_true, decide_eq_true_eq] at hr
    exact ⟨p, q, WideElems.Trod_stays hl hr.1.1 hr.1.2 h1 (fun x hx => hb.same (hlt x (by simp [hx]))) (fun x hx => hsp x (by simp [hx])),
      trodAll_below hl hb (by simpa using hr.2) h2 fun x hx => hsp x (by simp [hx]), rfl⟩

theorem law_post {fn : Func} {s : ChangeSpec} {apart fresh handsOn : Bool} {W W' : World} {args : Array Value} {ds : List (DataW H)} {before : List MemPlace} {tb : TypeId} (hl : laidOutB P = true) (hv : s.vars = [])
    (hW : DataW.Whole enc P fn.params.toList s.vars apart W args.toList ds [] before) (hr : fn.resultTypes = #[tb]) (htb : P.underlying tb = some .bool)
    (hread : (fn.params.toList.all fun t => P.readableRec t && decide (t < P.types.size)) = true)
    (hspec : s.fn H ds = { results := [.lit (.bool true)], args := ds }) (hb : Below W.heap.size W W') :
    s.post enc P fn apart fresh handsOn false W args (.bool true) W' := by
  have hlt : ∀ p ∈ before, p.block < W.heap.size := fun p hp => hW.lt p hp
  have hW' := hW
  obtain ⟨p, q, hA, hV, e, _, _⟩ := hW
  rw [hv] at hV
  have eq : q = [] := hV
  subst eq
  rw [List.append_nil] at e
  subst e
  refine ⟨ds, [], before, [], before, [], hW', ?_, ?_, ?_, World.keptBut_mono (fun p hp => ⟨hp, Or.inr (Or.inl hp)⟩) (hb.frame (· ∈ before)), fun h => by cases h⟩
  · rw [List.append_nil, hspec, hr]
    exact trodAll_mk1 (shut_bool htb true)
  · rw [List.append_nil, hspec]
    exact trodAll_below hl hb hread hA fun x hx => by simpa using hlt x hx
  · rw [List.append_nil, hspec, hv]
    rfl
end

theorem own : ownKnob Tryz.prog.godebug = none := by kernel_rfl
theorem laidOut : laidOutB Tryz.prog = true := by kernel_rfl

section
variable {H : Type} {enc : TypeId × Value → H}

theorem trodAll_len {P : Program} {w : World} {b : Nat} {sp : Nat → Bool} {hd : Bool} : ∀ {ts : List TypeId} {vs : List Value} {ds : List (DataW H)} {ps : List MemPlace}, DataW.TrodAll enc P w b sp hd ts vs ds ps → ds.length = ts.length
  | [], [], [], _, _ => rfl
  | [], [], _ :: _, _, h => h.elim
  | [], _ :: _, _, _, h => h.elim
  | _ :: _, [], _, _, h => h.elim
  | _ :: _, _ :: _, [], _, h => h.elim
  | _ :: _, _ :: _, _ :: _, _, h => by
    obtain ⟨p, q, _, h2, _⟩ := h
    simp [trodAll_len h2]

set_option maxRecDepth 100000 in
theorem lifted_of {f : FuncId} {fn : Func} {s : ChangeSpec} {laid : List (String × DataW Unit)} {tb : TypeId} {os : Os} (started : os.Started) (noInit : Tryz.prog.inits.idxOf? f = none) (hfn : Tryz.prog.funcs[f]? = some fn)
    (witness : ∃ (w : World) (tape : Tape) (i : Input), w.os = os ∧ (w.forCall tape i).Shaped Tryz.checked.prog ∧ i.vars = [] ∧ Input.okWide Tryz.checked.prog (w.forCall tape i) .any w.heap.size f i ∧
      ((s.pre enc Tryz.checked.prog fn [] false (w.forCall tape i).memory i.args ∧ laidMetH Tryz.prog laid (w.forCall tape i).memory) ∧ sizedMet enc Tryz.checked.prog fn (OpenSpec.ofChange s) false (w.forCall tape i).memory i.args) ∧ ({} : Assume).holds Tryz.checked.prog (lone (Frame.enter Tryz.checked.prog f i.args .normal) [] (w.forCall tape i)))
    (hv : s.vars = []) (hr : fn.resultTypes = #[tb]) (htb : Tryz.prog.underlying tb = some .bool)
    (hread : (fn.params.toList.all fun t => Tryz.prog.readableRec t && decide (t < Tryz.prog.types.size)) = true)
    (hspec : ∀ ds : List (DataW H), ds.length = fn.params.toList.length → s.fn H ds = { results := [.lit (.bool true)], args := ds })
    (hcall : ∀ (W : World) (base : Nat) (args : Array Value) (ds : List (DataW H)) (p : List MemPlace), (∀ (j : Nat) t v, fn.params[j]? = some t → args[j]? = some v → Value.okWide Tryz.prog W .any base t v) →
      DataW.TrodAll enc Tryz.prog W 0 (fun _ => true) true fn.params.toList args.toList ds p → (DataW.weightsEach Tryz.prog fn.params.toList ds).all (· ≤ reachBytes) = true → laidMetH Tryz.prog laid W →
      CallsU Tryz.prog f args.toList (full W) fun v h' => v = .bool true ∧ Le (full W) h') :
    ReturnsInHanded {} Tryz.checked os f .any (fun w args => (s.pre enc Tryz.prog fn [] false w args ∧ laidMetH Tryz.prog laid w) ∧ sizedMet enc Tryz.prog fn (OpenSpec.ofChange s) false w args)
      (s.post enc Tryz.prog fn false true false false) := by
  refine returnsInHanded_of_change_and (C := Tryz.checked) (X := fun w _ => laidMetH Tryz.prog laid w) (fun _ _ _ hh h => h.of_heap hh) own started noInit hfn witness ?_
  intro W base args ds gs before hval hW _ hsz hL _
  have hW' := hW
  obtain ⟨p, q, hA, hV, e, _, _⟩ := hW
  rw [hv] at hV
  have hgs : gs = [] := by
    cases gs with
    | nil => rfl
    | cons g r => exact hV.elim
  subst hgs
  have hvt : s.plain.varTypes Tryz.checked.prog = [] := by
    unfold DataSpec.varTypes
    show List.filterMap _ s.vars = []
    rw [hv]
    rfl
  rw [hvt, List.append_nil, List.append_nil] at hsz
  have hc := calls_full (hcall W base args ds p hval hA hsz hL)
  rw [Array.toArray_toList] at hc
  refine hc.mono ?_
  rintro e W' ⟨rfl, hb⟩
  exact ⟨_, rfl, law_post laidOut hv hW' hr htb hread (hspec ds (trodAll_len hA)) hb⟩
end

/-- An int among the arguments. -/
theorem int_arg {H : Type} {enc : TypeId × Value → H} {W : World} {b n : Nat} {sp : Nat → Bool} {hd : Bool} {t : TypeId} {k : IntKind} {c : Value} {y : DataW H × List MemPlace} (ht : Tryz.prog.underlying t = some (.int k)) (h : DataW.trod enc Tryz.prog W b sp hd n t [c] = some y) :
    ∃ z : Int, c = .int k z ∧ (Lit.int k z).wf = true := by
  obtain ⟨z, e, _, hw⟩ := DataW.trod_int ht h
  simp at e
  exact ⟨z, e, hw⟩
end Go.Proofs.YtccplhjglhdopaaGreatDoor

/-
  Arguments that are natural numbers, integers, ratios and strings, and the table of the powers of ten, as the whole visible heap holds them.
-/
namespace Go.Proofs.YtccplhjglhdopaaGreatDoor
open Go Go.Vcg Go.RowKit Go.WideShapes Go.ChangeShapes Go.Joins Go.MakeChecks

theorem wf32 {z : Int} (h : (Lit.int .u32 z).wf = true) : 0 ≤ z ∧ z < 4294967296 := by
  unfold Lit.wf at h
  simp only [Bool.and_eq_true, decide_eq_true_eq] at h
  have e1 : IntKind.u32.min = 0 := by decide
  have e2 : IntKind.u32.max = 4294967295 := by decide
  omega

theorem wf16 {z : Int} (h : (Lit.int .u16 z).wf = true) : 0 ≤ z ∧ z < 65536 := by
  unfold Lit.wf at h
  simp only [Bool.and_eq_true, decide_eq_true_eq] at h
  have e1 : IntKind.u16.min = 0 := by decide
  have e2 : IntKind.u16.max = 65535 := by decide
  omega

theorem full_of {W : World} {k : Nat} {cs : Array Value} {ty : TypeId} {fz : Nat × Nat} (h : W.heap[k]? = some (.cells cs ty fz)) (hp : 0 < cs.size) : full W k = some ⟨cs.toList, ty, fz⟩ := by
  unfold full
  rw [h]
  have : plainB ⟨cs.toList, ty, fz⟩ = true := by
    unfold plainB
    have : cs.toList.isEmpty = false := by
      cases hc : cs.toList with
      | nil => rw [← Array.length_toList, hc] at hp; simp at hp
      | cons => rfl
    rw [this]; rfl
  simp only [this, cond_true]

theorem tab_laid {x y : String × DataW Unit} {rest : List (String × DataW Unit)} {W : World} (hp : ((x :: y :: ("internal/strconv.uint64pow10", Lib.tabData .u64 Lib.pow10Tab) :: rest).all fun x => x.2.handleName?.isNone) = true)
    (h : laidMetH Tryz.prog (x :: y :: ("internal/strconv.uint64pow10", Lib.tabData .u64 Lib.pow10Tab) :: rest) W) : Tab (full W) := by
  rw [laidMetH_plain _ _ _ hp] at h
  have ht : Lib.TabIs Tryz.prog W "internal/strconv.uint64pow10" .u64 Lib.pow10Tab :=
    Lib.tabIs_of_head (g := 1) (t := 169) (e := 69) (n := 20) (by kernel_rfl) (by kernel_rfl) (by kernel_rfl) (by kernel_rfl) (by kernel_rfl) (by kernel_rfl) h.tail.tail
  unfold Lib.TabIs World.var? at ht
  have hg : Tryz.prog.globalNamed "internal/strconv.uint64pow10" = some 1 := by kernel_rfl
  rw [hg, Option.bind_some] at ht
  split at ht
  · rename_i cs ty fz e
    have hc := Option.some.inj ht
    refine ⟨_, full_of e (by rw [hc]; decide), ?_⟩
    rw [hc]
  · cases ht

section
variable {H : Type} {enc : TypeId × Value → H} {W : World} {base fuel : Nat} {sp : Nat → Bool} {held : Bool}

theorem cell_block {W : World} {a : Addr} {i : Nat} {v : Value} (h : W.cell? (a.add i) = some v) : ∃ cs ty fz, W.heap[a.block]? = some (.cells cs ty fz) ∧ (i = 0 → a.spot = none) ∧ cs[a.off + i]? = some v := by
  unfold World.cell? at h
  have hb : (a.add i).block = a.block := by unfold Addr.add; split <;> rfl
  have ho : (a.add i).off = a.off + i := by unfold Addr.add; split <;> simp_all
  rw [hb, ho] at h
  split at h
  · rename_i cs ty fz e
    split at h
    · cases h
    · rename_i q
      refine ⟨cs, ty, fz, e, fun hi => ?_, h⟩
      subst hi
      unfold Addr.add at q
      simpa using q
  · cases h

/-- A natural number among the arguments. -/
theorem nat_arg {cs : List Value} {y : DataW H × List MemPlace} (h : DataW.trod enc Tryz.prog W base sp held fuel 24 cs = some y) :
    ∃ A n c v, cs = [.slice A n c] ∧ IsN (full W) A n c v := by
  rcases open_ints (k := .u32) (e := 46) Tryz.underlying24 (by kernel_rfl) (by kernel_rfl) h with ⟨rfl, _⟩ | ⟨a, len, cap, zs, rfl, _, hlc, _, hzl, _, hcell, hwf⟩
  · exact ⟨none, 0, 0, _, rfl, (NmN.nil _ none 0).is⟩
  · have hlz : len ≤ zs.length := by rw [hzl]; split <;> omega
    refine ⟨some a, len, cap, _, rfl, ⟨(zs.take len).map Int.toNat, ⟨by simp; omega, hlc, ?_, fun hn => ?_⟩, rfl⟩⟩
    · intro x hx
      obtain ⟨z, hz, rfl⟩ := List.mem_map.1 hx
      have := wf32 (hwf z (List.mem_of_mem_take hz))
      omega
    · obtain ⟨cs, ty, fz, hb, hsp, hc0⟩ := cell_block (hcell 0 (by omega))
      have hsz : 0 < cs.size := by
        have := (Array.getElem?_eq_some_iff.1 hc0).1
        omega
      refine ⟨a, _, rfl, hsp rfl, full_of hb hsz, ?_⟩
      apply List.ext_getElem?
      intro i
      by_cases hi : i < len
      · obtain ⟨cs', ty', fz', hb', _, hci⟩ := cell_block (hcell i (by omega))
        rw [hb] at hb'
        cases hb'
        rw [List.getElem?_take_of_lt hi, List.getElem?_drop, Array.getElem?_toList, hci, List.map_map, List.getElem?_map, List.getElem?_take_of_lt hi]
        have hz : zs[i]? = some (zs.getD i 0) := by
          rw [List.getD_eq_getElem?_getD, List.getElem?_eq_getElem (by omega)]; rfl
        rw [hz]
        simp only [Option.map_some, Function.comp]
        have hw := wf32 (hwf (zs.getD i 0) (List.mem_of_getElem? hz))
        unfold lv
        rw [Int.toNat_of_nonneg hw.1]
      · rw [List.getElem?_eq_none (by simp; omega), List.getElem?_eq_none (by simp; omega)]

set_option maxRecDepth 100000 in
/-- A ratio among the arguments. -/
theorem ratio_arg {r : Reach} {b0 : Nat} {v : Value} {d : DataW H} {p : List MemPlace} (hval : Value.okWide Tryz.prog W r b0 28 v) (h : DataW.Trod enc Tryz.prog W base sp held 28 v d p) :
    ∃ s A n c B m e q, v = .agg #[.bool s, .slice A n c, .slice B m e] ∧ IsQ (full W) s A n c B m e q := by
  obtain ⟨cs, rfl, hsz⟩ := okWide_struct Tryz.underlying28 hval
  obtain ⟨c0, c1, c2, rfl⟩ := array3 (hsz.trans (by kernel_rfl))
  obtain ⟨fuel, hf⟩ := h
  obtain ⟨y0, y1, n, _, _, h0, h1⟩ := trod_struct2 Tryz.underlying28 hf
  have k0 : Tryz.prog.cellsOf 26 = 2 := by kernel_rfl
  have k1 : Tryz.prog.cellsOf 24 = 1 := by kernel_rfl
  have k2 : Tryz.prog.cellsOf 4 = 1 := by kernel_rfl
  rw [k0] at h0
  rw [k1] at h1
  simp only [Value.cells, List.drop_zero, List.take_succ_cons, List.take_zero, List.drop_succ_cons] at h0 h1
  obtain ⟨z0, z1, n2, _, _, g0, g1⟩ := trod_struct2 Tryz.underlying26 h0
  rw [k2] at g0
  rw [k1] at g1
  simp only [List.drop_zero, List.take_succ_cons, List.take_zero, List.drop_succ_cons] at g0 g1
  obtain ⟨b, hb, _⟩ := DataW.trod_bool (by kernel_rfl) g0
  obtain ⟨A, k, c, x, hA, uA⟩ := nat_arg g1
  obtain ⟨B, k', c', x', hB, uB⟩ := nat_arg h1
  cases hb
  cases hA
  cases hB
  exact ⟨b, A, k, c, B, k', c', _, rfl, _, _, ⟨_, uA, rfl⟩, uB, rfl⟩

set_option maxRecDepth 100000 in
/-- A string among the arguments. -/
theorem str_arg {r : Reach} {b0 : Nat} {v : Value} {d : DataW H} {p : List MemPlace} (hval : Value.okWide Tryz.prog W r b0 9 v) (h : DataW.Trod enc Tryz.prog W base sp held 9 v d p) : ∃ l : List UInt8, v = sv l := by
  obtain ⟨s, rfl, _⟩ := Go.ChangeMaps.open_string Tryz.underlying9 hval h
  exact ⟨s.data.toList, by cases s; rfl⟩
end
end Go.Proofs.YtccplhjglhdopaaGreatDoor

/-
  Contracts of the reference 01: small, Text, Digits.
-/
namespace Go.Proofs.YtccplhjglhdopaaGreatDoor
open Go Go.Vcg
attribute [local irreducible] Br

theorem r1small_c {h : Heap} {A : Option Addr} {n c x : Nat} (ux : IsN h A n c x) (hn : n ≤ 1099511627776) {d : Nat} (hd0 : 0 < d) (hd : d < B32) :
    CallsU Tryz.prog 116 [.slice A n c, .int .u64 d] h fun r h' => ∃ A' k c', r = .tuple #[.slice A' k c', .int .u64 ((x % d : Nat) : Int)] ∧ NmN h' A' k c' (x / d) ∧ Le h h' := by
  apply ref01_small_ok
  obtain ⟨xs, a, rfl⟩ := ux
  have la := a.len
  have hB : B32 = 4294967296 := rfl
  refine ⟨by omega, by omega, by omega, by omega, ?_⟩
  rintro g h1 hg rfl _ rfl
  simp only [Int.toNat_natCast]
  rw [wrap_i64 (by omega) (by omega)]
  refine ⟨fun m r i h' => ∃ (rN : Nat) (qs : List Nat), i = (m : Int) - 1 ∧ m ≤ n ∧ r = (rN : Int) ∧ rN < d ∧ qs.length = n ∧ (∀ x ∈ qs, x < B32) ∧ h' g = some ⟨qs.map lv, 46, (0, 0)⟩ ∧ Le h h' ∧ val (qs.drop m) * d + rN = val (xs.drop m),
    ⟨n, 0, List.replicate n 0, rfl, by omega, rfl, hd0, by simp, fun x hx => by rw [List.mem_replicate] at hx; rw [hx.2]; decide, by rw [Heap.put_same, repV_lv], Le.new hg _, by rw [List.drop_of_length_le (by simp), List.drop_of_length_le (by omega)]; simp [val]⟩, ?_⟩
  rintro m _ _ h2 ⟨rN, qs, rfl, hm, rfl, hr, hql, hqs, hb, hl, hval⟩
  refine Br.mk (fun q => ?_) (fun q => ?_)
  · have q' : 1 ≤ m := by simp at q; omega
    obtain ⟨k, rfl⟩ : ∃ k, m = k + 1 := ⟨m - 1, by omega⟩
    have e1 : ((k + 1 : Nat) : Int) - 1 = (k : Int) := by omega
    rw [e1]
    simp only [Int.toNat_natCast]
    have hxk := a.getD_lt k
    rintro _ rfl
    have w1 : IntKind.u64.wrap ((rN : Int) * 4294967296) = ((rN * 4294967296 : Nat) : Int) := wu (by omega) (by rw [hB] at hd; omega)
    rw [w1]
    refine (limb_c (a.mono hl) k).mono ?_
    rintro _ _ ⟨rfl, rfl⟩
    refine ⟨_, rfl, ?_⟩
    rintro _ rfl
    have w2 : IntKind.u64.wrap (((rN * 4294967296 : Nat) : Int) + ((xs.getD k 0 : Nat) : Int)) = ((rN * B32 + xs.getD k 0 : Nat) : Int) := wu (by rw [hB]; omega) (by rw [hB] at hd ⊢; omega)
    rw [w2]
    generalize ht : rN * B32 + xs.getD k 0 = t
    have htb : t < d * B32 := by
      have : (rN + 1) * B32 ≤ d * B32 := Nat.mul_le_mul_right _ hr
      unfold B32 at *
      omega
    refine Br.mk (fun q2 => by simp at q2; omega) (fun _ => ?_)
    rintro _ rfl
    rw [tdivN rfl rfl]
    have hq : t / d < B32 := Nat.div_lt_of_lt_mul htb
    rw [wu (n := t / d) rfl (by unfold B32 at hq; omega)]
    refine ⟨_, rfl, by omega, by omega, st_own (t / d) hb (by omega) (by rw [w32 rfl, Nat.mod_eq_of_lt hq]) ?_⟩
    refine Br.mk (fun q2 => by simp at q2; omega) (fun _ => ?_)
    rintro _ rfl _ rfl
    rw [tmodN rfl rfl, wrap_i64 (by omega) (by omega)]
    refine ⟨k, by omega, t % d, qs.set k (t / d), rfl, by omega, rfl, Nat.mod_lt _ hd0, by simp [hql], mem_set hqs hq, Heap.put_same _ _ _, hl.put hg _, ?_⟩
    rw [val_drop_cons (by simp; omega), getD_set_eq (by omega), drop_set (by omega), val_drop_cons (xs := xs) (by omega)]
    exact div_step _ _ _ _ _ _ hval ht
  · have hm0 : m = 0 := by simp at q; omega
    subst hm0
    simp only [List.drop_zero] at hval
    have hq : val qs = val xs / d := by rw [← hval, Nat.mul_comm, Nat.mul_add_div hd0, Nat.div_eq_of_lt hr, Nat.add_zero]
    have hrm : rN = val xs % d := by rw [← hval, Nat.mul_comm, Nat.mul_add_mod, Nat.mod_eq_of_lt hr]
    have u := U32.of_blk (m := n) (k := n) hb hqs (by omega) (Nat.le_refl _)
    rw [List.take_of_length_le (by omega)] at u
    refine (r1norm_c ⟨_, u, rfl⟩ (by omega)).mono ?_
    rintro _ h3 ⟨A', k', c', rfl, _, hN, hl3⟩
    rw [hq] at hN
    rw [hrm]
    exact ⟨_, _, _, rfl, _, _, _, rfl, hN, hl.trans hl3⟩

theorem preD_ten (x : Nat) (hx : x ≠ 0) : preD (x / 10) ++ [UInt8.ofNat (48 + x % 10)] = preD x := by
  unfold preD
  rw [if_neg hx]
  by_cases h : x < 10
  · rw [Nat.div_eq_of_lt h, if_pos rfl, dec_lt h, Nat.mod_eq_of_lt h]; rfl
  · rw [if_neg (by omega), dec_ge h]

theorem r1text_c {h : Heap} {A : Option Addr} {n c v : Nat} (u : IsN h A n c v) (hn : n ≤ 4294967296) :
    CallsU Tryz.prog 67 [.slice A n c] h fun r h' => r = sv (Lib.decDigits v) ∧ Le h h' := by
  apply ref01_Text_ok
  have hvlt : Sz v (n + 1) := u.sz.mono (by omega)
  have hdl := digits_le (by omega) hvlt
  refine (r1norm_c u (by omega)).mono ?_
  rintro _ h1 ⟨A1, n1, c1, rfl, hn1, nv, hl1⟩
  refine ⟨_, _, _, rfl, fun x s aA an ac h' => NmN h' aA an ac x ∧ x ≤ v ∧ Le h h' ∧ ∃ l : List UInt8, s = ⟨l.toArray⟩ ∧ preD x ++ l = preD v, ⟨v, nv, Nat.le_refl _, hl1, [], rfl, by simp⟩, ?_⟩
  rintro x s aA an ac h2 ⟨nx, hxv, hl2, l, rfl, hd⟩
  have hz := NmN.zero_iff nx
  have hlen : l.length ≤ 10 * (n + 1) := by
    have h1 := congrArg List.length hd
    rw [List.length_append] at h1
    have h2 : (preD v).length ≤ 10 * (n + 1) := by
      unfold preD
      split
      · simp
      · rw [dec_length]; exact hdl
    omega
  have han := NmN.le_of nx (hvlt.le hxv)
  refine Br.mk (fun q => ?_) (fun q => ?_)
  · have hx0 : x ≠ 0 := fun e => by have := hz.2 e; have := of_decide_eq_true q; omega
    refine (r1small_c nx.is (by omega) (d := 10) (by decide) (by decide)).mono ?_
    rintro _ h3 ⟨A3, n3, c3, rfl, hN3, hl3⟩
    refine ⟨_, _, _, _, rfl, ?_⟩
    rintro _ rfl g _ hg rfl
    have hm : x % 10 < 10 := Nat.mod_lt _ (by decide)
    have w1 : IntKind.u64.wrap (48 + ((x % 10 : Nat) : Int)) = ((48 + x % 10 : Nat) : Int) := wu (by omega) (by omega)
    have w2 : IntKind.u8.wrap ((48 + x % 10 : Nat) : Int) = ((48 + x % 10 : Nat) : Int) := by rw [IntKind.wrap_u8]; omega
    rw [w1, w2]
    refine ⟨[((48 + x % 10 : Nat) : Int)], ⟨rfl, fun _ => ⟨_, rfl, rfl, _, Heap.put_same _ _ _, rfl⟩⟩, ?_⟩
    have e : List.map (fun n : Int => UInt8.ofNat (Int.toNat n)) [((48 + x % 10 : Nat) : Int)] = [UInt8.ofNat (48 + x % 10)] := rfl
    rw [e, ba_size, ba_size, ba_append]
    refine ⟨by simp; omega, x / 10, by omega, hN3.mono (Le.new hg _), by omega, (hl2.trans hl3).trans (Le.new hg _), _, rfl, ?_⟩
    rw [← hd, ← preD_ten x hx0, List.append_assoc]
  · have hx0 : x = 0 := by
      have := of_decide_eq_false q
      exact hz.1 (by omega)
    subst hx0
    rw [preD, if_pos rfl, List.nil_append] at hd
    subst hd
    have e0 : (⟨#[]⟩ : ByteArray).toList = [] := bytes_toList []
    rw [bytes_toList, e0]
    unfold preD
    by_cases hv : v = 0
    · subst hv
      rw [if_pos rfl]
      refine Br.mk (fun _ => ⟨?_, hl2⟩) (fun q => by simp at q)
      rw [dec_lt (by decide)]
      rfl
    · rw [if_neg hv]
      refine Br.mk (fun q => ?_) (fun _ => ⟨rfl, hl2⟩)
      have := dec_ne v
      simp at q
      exact absurd q this

theorem digitsB_c (l : List UInt8) (hl : l.length ≤ 1000000) (h : Heap) :
    CallsU Tryz.prog 123 [sv l] h fun r h' => ∃ b : Bool, r = .bool b ∧ (b = true ↔ Dgs l ∧ ¬ (1 < l.length ∧ l[0]? = some 48)) ∧ h = h' := by
  apply ref01_Digits_ok
  unfold ref01_Digits_vc
  rw [ba_size]
  refine ⟨fun m i h' => ∃ k, k ≤ l.length ∧ m = l.length - k ∧ i = (k : Int) ∧ (∀ y ∈ l.take k, isDg y = true) ∧ h = h', ⟨l.length, 0, by omega, by omega, rfl, by simp, rfl⟩, ?_⟩
  rintro m _ _ ⟨k, hk, rfl, rfl, hdk, rfl⟩
  refine Br.mk (fun q => ?_) (fun q => ?_)
  · have hlt : k < l.length := by have := of_decide_eq_true q; omega
    obtain ⟨x, hx⟩ : ∃ x, l[k]? = some x := ⟨_, List.getElem?_eq_getElem hlt⟩
    have hbad : isDg x = false → ¬ (Dgs l ∧ ¬ (1 < l.length ∧ l[0]? = some 48)) := fun hx' hd => by
      rw [hd.1.2 x (List.mem_of_getElem? hx)] at hx'; cases hx'
    refine ⟨x, by omega, by rw [Int.toNat_natCast, ba_get]; exact hx, Br.mk (fun q2 => ?_) (fun q2 => ⟨x, by omega, by rw [Int.toNat_natCast, ba_get]; exact hx, Br.mk (fun q3 => ?_) (fun q3 => ?_)⟩)⟩
    · have := of_decide_eq_true q2
      exact ⟨false, rfl, ⟨(fun q => by cases q), fun q => absurd q (hbad (decide_eq_false (by omega)))⟩, rfl⟩
    · have := of_decide_eq_true q3
      exact ⟨false, rfl, ⟨(fun q => by cases q), fun q => absurd q (hbad (decide_eq_false (by omega)))⟩, rfl⟩
    · have a := of_decide_eq_false q2
      have b := of_decide_eq_false q3
      rintro _ rfl
      refine ⟨l.length - (k + 1), by omega, k + 1, by omega, rfl, wi (by omega) (by omega), ?_, rfl⟩
      have et : l.take (k + 1) = l.take k ++ [x] := by rw [List.take_add_one, hx]; rfl
      rw [et]
      intro y hy
      rcases List.mem_append.1 hy with q | q
      · exact hdk y q
      · rw [List.mem_singleton.1 q]; exact isDg_iff.2 (by omega)
  · have hk' : k = l.length := by have := of_decide_eq_false q; omega
    subst hk'
    rw [List.take_length] at hdk
    refine Br.mk (fun q2 => ?_) (fun q2 => Br.mk (fun q3 => ?_) (fun q3 => ?_))
    · have : l.length = 1 := by have := beq_iff_eq.1 q2; omega
      exact ⟨true, rfl, ⟨fun _ => ⟨⟨fun e => by rw [e] at this; simp at this, hdk⟩, fun q => by omega⟩, fun _ => rfl⟩, rfl⟩
    · have h1 := of_decide_eq_true q3
      cases l with
      | nil => simp at h1
      | cons y r =>
        refine ⟨y, by omega, by rw [ba_get]; rfl, _, rfl, ?_, rfl⟩
        have hlen : 1 < (y :: r).length := by omega
        constructor
        · intro q4
          refine ⟨⟨by simp, hdk⟩, fun q5 => ?_⟩
          have := q5.2
          simp only [List.getElem?_cons_zero, Option.some.injEq] at this
          subst this
          revert q4; decide
        · intro q4
          have : y ≠ 48 := fun e => q4.2 ⟨hlen, by rw [e]; rfl⟩
          have h2 : y.toNat ≠ 48 := fun e => this (UInt8.toNat_inj.1 e)
          simp only [bne_iff_ne, ne_eq]
          omega
    · have h1 := of_decide_eq_false q3
      have h2 := beq_eq_false_iff_ne.1 q2
      have : l = [] := List.length_eq_zero_iff.1 (by omega)
      exact ⟨false, rfl, ⟨(fun q => by cases q), fun q => absurd this q.1.1⟩, rfl⟩
end Go.Proofs.YtccplhjglhdopaaGreatDoor

/-
  Plain laws: the texts of measures as the reference reads them.
-/
namespace Go.Proofs.YtccplhjglhdopaaGreatDoor
open Go Go.Vcg

/-! ### as the reference reads -/
/-- A whole number of at most so many digits. -/
def Whl (l : List UInt8) (most : Nat) : Prop := Dgs l ∧ l.length ≤ most ∧ ¬ (1 < l.length ∧ l[0]? = some 48)

theorem Whl.whole {l : List UInt8} {k : Nat} (h : Whl l k) (hk : k ≤ 7) : wholeV l = some (dgV l) := by
  unfold wholeV
  rw [if_pos ⟨by have := h.2.1; omega, h.2.2⟩]

theorem wholeV_some {l : List UInt8} {n : Nat} (h : wholeV l = some n) : l.length ≤ 7 ∧ ¬ (1 < l.length ∧ l[0]? = some 48) ∧ dgV l = n := by
  unfold wholeV at h
  split at h
  · rename_i q
    cases h
    exact ⟨q.1, q.2, rfl⟩
  · cases h

theorem whl_of {l : List UInt8} {n : Nat} (hd : Dgs l) (h : wholeV l = some n) : Whl l 7 := let ⟨a, b, _⟩ := wholeV_some h; ⟨hd, a, b⟩

/-- A denominator has at most three digits. -/
theorem dgV_ge {l : List UInt8} (hd : Dgs l) (h0 : l[0]? ≠ some 48) : 10 ^ (l.length - 1) ≤ dgV l := by
  obtain ⟨x, r, rfl⟩ := List.exists_cons_of_ne_nil hd.1
  have h2 := isDg_iff.1 (hd.2 x (by simp))
  have e : dgV (x :: r) = (x.toNat - 48) * 10 ^ r.length + dgV r := by
    have := dgV_append [x] r
    simp only [List.singleton_append] at this
    rw [this]
    simp [dgV]
  have hx : x.toNat ≠ 48 := fun e => h0 (by
    have : x = 48 := UInt8.toNat_inj.1 e
    subst this; rfl)
  rw [e]
  simp only [List.length_cons, Nat.add_sub_cancel]
  have : 1 * 10 ^ r.length ≤ (x.toNat - 48) * 10 ^ r.length := Nat.mul_le_mul_right _ (by omega)
  omega

theorem dgV_lt' {l : List UInt8} {k : Nat} (hd : Dgs l) (hk : l.length ≤ k) : dgV l < 10 ^ k := Nat.lt_of_lt_of_le (dgV_lt l hd.2) (Nat.pow_le_pow_right (by decide) hk)

theorem den_iff {l : List UInt8} (hd : Dgs l) : (Whl l 3 ∧ dgV l ≠ 0) ↔ ∃ n, wholeV l = some n ∧ 1 ≤ n ∧ n ≤ 999 := by
  constructor
  · rintro ⟨h, h0⟩
    exact ⟨_, h.whole (by decide), by omega, by have := dgV_lt' hd h.2.1; omega⟩
  · rintro ⟨n, h, h1, h2⟩
    obtain ⟨a, b, rfl⟩ := wholeV_some h
    refine ⟨⟨hd, ?_, b⟩, by omega⟩
    rcases Nat.lt_or_ge 3 l.length with q | q
    · have := dgV_ge hd (fun e => b ⟨by omega, e⟩)
      have h3 : (10 : Nat) ^ 3 ≤ 10 ^ (l.length - 1) := Nat.pow_le_pow_right (by decide) (by omega)
      omega
    · exact q

/-- A number as the reference reads it, with its numerator and denominator. -/
inductive Val : List UInt8 → Nat → Nat → Prop
  | whole {a : List UInt8} : Whl a 7 → Val a (dgV a) 1
  | dec {a b : List UInt8} : Whl a 7 → Dgs b → b.length ≤ 4 → Val (a ++ 46 :: b) (dgV a * 10 ^ b.length + dgV b) (10 ^ b.length)
  | frac {a b : List UInt8} : Whl a 7 → Whl b 3 → dgV b ≠ 0 → Val (a ++ 47 :: b) (dgV a) (dgV b)
  | mixed {a b c : List UInt8} : Whl a 7 → Whl b 7 → Whl c 3 → dgV c ≠ 0 → Val (a ++ 32 :: (b ++ 47 :: c)) (dgV a * dgV c + dgV b) (dgV c)

theorem Val.num {l : List UInt8} {n d : Nat} (h : Val l n d) : d ≠ 0 ∧ Num l ((n : Rat) / (d : Rat)) ∧ n < 100000000000 ∧ d ≤ 10000 := by
  cases h with
  | whole ha =>
    have := dgV_lt' ha.1 ha.2.1
    exact ⟨by decide, by rw [← rat_div_one]; exact Num.whole ha.1 (ha.whole (by decide)), by omega, by decide⟩
  | @dec a b ha hb hl =>
    have hp : (10 : Nat) ^ b.length ≤ 10 ^ 4 := Nat.pow_le_pow_right (by decide) hl
    have h1 := dgV_lt' ha.1 ha.2.1
    have h2 := dgV_lt' hb hl
    have h3 : dgV a * 10 ^ b.length ≤ 9999999 * 10 ^ 4 := Nat.mul_le_mul (by omega) hp
    refine ⟨Nat.ne_of_gt (Nat.pow_pos (by decide)), Num.dec ha.1 hb ?_, by omega, by omega⟩
    unfold decV
    rw [ha.whole (by decide)]
    simp only
    rw [if_pos hl]
  | @frac a b ha hb h0 =>
    have h1 := dgV_lt' ha.1 ha.2.1
    have h2 := dgV_lt' hb.1 hb.2.1
    refine ⟨h0, Num.frac ha.1 hb.1 ?_, by omega, by omega⟩
    unfold fracV
    rw [ha.whole (by decide), hb.whole (by decide)]
    simp only
    rw [if_pos (by omega)]
  | @mixed a b c ha hb hc h0 =>
    have h1 := dgV_lt' ha.1 ha.2.1
    have h2 := dgV_lt' hb.1 hb.2.1
    have h3 := dgV_lt' hc.1 hc.2.1
    have h4 : dgV a * dgV c ≤ 9999999 * 999 := Nat.mul_le_mul (by omega) (by omega)
    refine ⟨h0, ?_, by omega, by omega⟩
    rw [← rat_add_div h0]
    refine Num.mixed ha.1 hb.1 hc.1 (ha.whole (by decide)) ?_
    unfold fracV
    rw [hb.whole (by decide), hc.whole (by decide)]
    simp only
    rw [if_pos (by omega)]

theorem Num.val {l : List UInt8} {v : Rat} (h : Num l v) : ∃ n d, Val l n d := by
  cases h with
  | whole ha e => exact ⟨_, _, Val.whole (whl_of ha e)⟩
  | @dec a b q ha hb e =>
    unfold decV at e
    split at e
    · rename_i n e1
      split at e
      · rename_i hl
        exact ⟨_, _, Val.dec (whl_of ha e1) hb hl⟩
      · cases e
    · cases e
  | @frac a b q ha hb e =>
    unfold fracV at e
    split at e
    · rename_i x y e1 e2
      split at e
      · rename_i hy
        have := (den_iff hb).2 ⟨y, e2, hy.1, hy.2⟩
        exact ⟨_, _, Val.frac (whl_of ha e1) this.1 this.2⟩
      · cases e
    · cases e
  | @mixed a b c n q ha hb hc e0 e =>
    unfold fracV at e
    split at e
    · rename_i x y e1 e2
      split at e
      · rename_i hy
        have := (den_iff hc).2 ⟨y, e2, hy.1, hy.2⟩
        exact ⟨_, _, Val.mixed (whl_of ha e0) (whl_of hb e1) this.1 this.2⟩
      · cases e
    · cases e

/-- A unit at the end, as the reference seeks it. -/
def Unt (s t : List UInt8) (n : Nat) : Prop := ∃ u, s = t ++ u ∧ unitV u = some n ∧ (u = [109] → ∀ (r : List UInt8) (x : UInt8), x = 109 ∨ x = 99 → s ≠ r ++ [x, 109])

theorem unt_of {body u : List UInt8} {v : Rat} {n : Nat} (hb : Num body v) (hu : unitV u = some n) : Unt (body ++ u) body n := by
  refine ⟨u, rfl, hu, ?_⟩
  rintro rfl r y hy e
  obtain ⟨r', x, rfl, hx⟩ := hb.ends.2
  have e1 : (r' ++ [x]) ++ [109] = (r ++ [y]) ++ [109] := by simpa using e
  have e2 := (List.append_inj' e1 rfl).1
  have e3 := (List.append_inj' e2 rfl).2
  simp at e3
  subst e3
  rcases hy with rfl | rfl <;> revert hx <;> decide

theorem append_two {t r : List UInt8} {a b c d : UInt8} (h : t ++ [a, b] = r ++ [c, d]) : t = r ∧ a = c ∧ b = d := by
  obtain ⟨h1, h2⟩ := List.append_inj' h rfl
  simp at h2
  exact ⟨h1, h2.1, h2.2⟩

theorem unt_unique {s t t' : List UInt8} {n n' : Nat} (h : Unt s t n) (h' : Unt s t' n') : t = t' ∧ n = n' := by
  obtain ⟨u, e, hu, h1⟩ := h
  obtain ⟨u', e', hu', h1'⟩ := h'
  have eq := e.symm.trans e'
  have two : ∀ (r x : List UInt8), r ++ [105, 110] = x ++ [109] → False := fun r x h => by
    have e1 : (r ++ [105]) ++ [110] = x ++ [109] := by simpa using h
    have := (List.append_inj' e1 rfl).2
    simp at this
  rcases unitV_some hu with ⟨rfl, rfl⟩ | ⟨rfl, rfl⟩ | ⟨rfl, rfl⟩ | ⟨rfl, rfl⟩ <;> rcases unitV_some hu' with ⟨rfl, rfl⟩ | ⟨rfl, rfl⟩ | ⟨rfl, rfl⟩ | ⟨rfl, rfl⟩
  all_goals first
    | exact ⟨(List.append_inj' eq rfl).1, rfl⟩
    | (have := append_two eq; simp at this; done)
    | exact absurd e (h1' rfl _ _ (Or.inl rfl))
    | exact absurd e (h1' rfl _ _ (Or.inr rfl))
    | exact absurd e' (h1 rfl _ _ (Or.inl rfl))
    | exact absurd e' (h1 rfl _ _ (Or.inr rfl))
    | exact (two _ _ eq).elim
    | exact (two _ _ eq.symm).elim

/-- What the reference returns. -/
theorem ref_parse {m : Bool} {s t : List UInt8} {n num den : Nat} (hu : Unt s t n) (hv : Val t num den) : parseV (sgL m ++ s) = some (sgn m ((num : Rat) / (den : Rat) * (n : Rat))) := by
  obtain ⟨u, rfl, hu, _⟩ := hu
  exact IsM.parse ⟨m, t, u, n, _, rfl, hu, hv.num.2.1, rfl⟩

theorem ref_none {m : Bool} {s : List UInt8} (hm : m = false → s.head? ≠ some 45) (h : ∀ t n num den, Unt s t n → ¬ Val t num den) : parseV (sgL m ++ s) = none := by
  cases hp : parseV (sgL m ++ s) with
  | none => rfl
  | some q =>
    exfalso
    obtain ⟨m', body, u, n, v, e, hu, hb, _⟩ := parseV_isM hp
    obtain ⟨x, r, hx, hxd⟩ := hb.ends.1
    have hx45 : x ≠ 45 := fun e => by subst e; revert hxd; decide
    have es : s = body ++ u := by
      cases m <;> cases m'
      · exact e
      · exact absurd (by rw [show s = _ from e]; rfl) (hm rfl)
      · exfalso
        rw [hx] at e
        simp [sgL] at e
        exact hx45 e.1.symm
      · simpa [sgL] using e
    subst es
    obtain ⟨num, den, hv⟩ := hb.val
    exact h _ _ _ _ (unt_of hb hu) hv
end Go.Proofs.YtccplhjglhdopaaGreatDoor

/-
  Contracts of the reference 04: text, Units, before, digits, whole, fraction, value, unit, Parse.
-/
namespace Go.Proofs.YtccplhjglhdopaaGreatDoor
open Go Go.Vcg
attribute [local irreducible] Br

theorem rtext_c04 (n : Nat) (hn : n < 9223372036854775808) (h : Heap) : CallsU Tryz.prog 54 [.int .i64 n] h fun r h' => r = sv (Lib.decDigits n) ∧ Le h h' := by
  apply ref04_text_ok
  unfold ref04_text_vc
  rw [wu (n := n) rfl (by omega)]
  refine (r1of_c n (by omega) h).mono ?_
  rintro _ h1 ⟨A, m, c, rfl, hm, hN, hl1⟩
  refine ⟨_, _, _, rfl, (r1text_c hN.is (by omega)).mono ?_⟩
  rintro _ h2 ⟨rfl, hl2⟩
  exact ⟨_, rfl, rfl, hl1.trans hl2⟩

theorem ltext_c (n : Nat) (hn : n < 9223372036854775808) (h : Heap) : CallsU Tryz.prog 24 [.int .i64 n] h fun r h' => r = sv (Lib.decDigits n) ∧ Le h h' := by
  apply law04_text_ok
  unfold law04_text_vc
  rw [wu (n := n) rfl (by omega)]
  refine (r1of_c n (by omega) h).mono ?_
  rintro _ h1 ⟨A, m, c, rfl, hm, hN, hl1⟩
  refine ⟨_, _, _, rfl, (r1text_c hN.is (by omega)).mono ?_⟩
  rintro _ h2 ⟨rfl, hl2⟩
  exact ⟨_, rfl, rfl, hl1.trans hl2⟩

theorem runits_c {h : Heap} {s : Bool} {A B : Option Addr} {n c m d : Nat} {q : Rat} (u : IsQ h s A n c B m d q) (hn : n ≤ 134217728) (hm : m ≤ 134217728) :
    CallsU Tryz.prog 19 [.agg #[.bool s, .slice A n c, .slice B m d]] h fun r h' => r = unitsR q ∧ Le h h' := by
  apply ref04_Units_ok
  refine (r3round_c u hn hm).mono ?_
  rintro _ h1 ⟨s1, A1, k1, c1, rfl, hN1, hk1, hl1⟩
  refine ⟨_, _, _, _, rfl, (r2small_c hN1.is (by omega)).mono ?_⟩
  rintro _ h2 ⟨rfl, hl2⟩
  have hle := hl1.trans hl2
  have none' : ¬ (rndV q).natAbs ≤ 1048576 → Value.tuple #[.int .i64 0, .int .i64 3] = unitsR q := fun hx => by unfold unitsR unitsV; rw [if_neg hx]
  refine ⟨_, _, rfl, ?_⟩
  cases hf : fitsZ (rndV q) with
  | false =>
    have : ¬ (rndV q).natAbs ≤ 1048576 := fun q => by have := of_decide_eq_false hf; omega
    exact Br.mk (fun _ => ⟨none' this, hle⟩) (fun q => by cases q)
  | true =>
    refine Br.mk (fun q => by cases q) (fun _ => Br.mk (fun q1 => ⟨none' ?_, hle⟩) (fun q1 => Br.mk (fun q2 => ⟨none' ?_, hle⟩) (fun q2 => ?_)))
    · have := of_decide_eq_true q1
      simp only [if_true] at this
      omega
    · have := of_decide_eq_true q2
      simp only [if_true] at this
      omega
    · have a := of_decide_eq_false q1
      have b := of_decide_eq_false q2
      simp only [if_true] at a b ⊢
      refine ⟨?_, hle⟩
      unfold unitsR unitsV
      rw [if_pos (by omega)]

theorem before_c (l : List UInt8) (x : UInt8) (hl : l.length ≤ 1000000) (h : Heap) :
    CallsU Tryz.prog 80 [sv l, .int .u8 x.toNat] h fun r h' => ∃ a b ok, r = .tuple #[sv a, sv b, .bool ok] ∧ (ok = true → l = a ++ x :: b ∧ x ∉ a) ∧ (ok = false → a = l ∧ x ∉ l) ∧ a.length ≤ l.length ∧ b.length ≤ l.length ∧ h = h' := by
  apply ref04_before_ok
  unfold ref04_before_vc
  rw [ba_size]
  refine ⟨fun m i h' => ∃ k, k ≤ l.length ∧ m = l.length - k ∧ i = (k : Int) ∧ x ∉ l.take k ∧ h = h', ⟨l.length, 0, by omega, by omega, rfl, by simp, rfl⟩, ?_⟩
  rintro m _ _ ⟨k, hk, rfl, rfl, hx, rfl⟩
  refine Br.mk (fun q => ?_) (fun q => ?_)
  · have hlt : k < l.length := by have := of_decide_eq_true q; omega
    obtain ⟨y, hy⟩ : ∃ y, l[k]? = some y := ⟨_, List.getElem?_eq_getElem hlt⟩
    simp only [Int.toNat_natCast]
    refine ⟨y, by omega, by rw [ba_get]; exact hy, Br.mk (fun q2 => ?_) (fun q2 => ?_)⟩
    · have hyx : y = x := UInt8.toNat_inj.1 (by have := beq_iff_eq.1 q2; omega)
      subst hyx
      refine ⟨by omega, by omega, ?_⟩
      rintro _ rfl
      have w1 : IntKind.i64.wrap ((k : Int) + 1) = ((k + 1 : Nat) : Int) := wi (by omega) (by omega)
      rw [w1, ba_take, Int.toNat_natCast]
      have hs2 := ba_drop l (k + 1)
      rw [ba_size] at hs2
      rw [hs2]
      refine ⟨by omega, by omega, l.take k, l.drop (k + 1), true, rfl, fun _ => ⟨?_, hx⟩, (fun q => by cases q), by simp <;> omega, by simp <;> omega, by first | rfl | trivial⟩
      have h1 := List.take_append_drop k l
      have h2 : l.drop k = y :: l.drop (k + 1) := by
        rw [List.drop_eq_getElem_cons hlt]
        congr 1
        rw [List.getElem?_eq_getElem hlt] at hy
        exact Option.some.inj hy
      rw [← h2, h1]
    · have hyx : y ≠ x := fun e => by subst e; simp at q2
      rintro _ rfl
      refine ⟨l.length - (k + 1), by omega, k + 1, by omega, rfl, wi (by omega) (by omega), ?_, by first | rfl | trivial⟩
      have et : l.take (k + 1) = l.take k ++ [y] := by rw [List.take_add_one, hy]; rfl
      rw [et]
      intro hm
      rcases List.mem_append.1 hm with q | q
      · exact hx q
      · exact hyx (List.mem_singleton.1 q).symm
  · have hk' : k = l.length := by have := of_decide_eq_false q; omega
    subst hk'
    rw [List.take_length] at hx
    exact ⟨l, [], false, rfl, (fun q => by cases q), fun _ => ⟨rfl, hx⟩, by omega, by simp, rfl⟩

theorem rdigits_c (l : List UInt8) (most : Nat) (hm : most ≤ 7) (hl : l.length ≤ 1000000) (h : Heap) :
    CallsU Tryz.prog 83 [sv l, .int .i64 most] h fun r h' => ∃ (n : Int) (ok : Bool), r = .tuple #[.int .i64 n, .bool ok] ∧ (ok = true ↔ Dgs l ∧ l.length ≤ most) ∧ (ok = true → n = (dgV l : Int)) ∧ h = h' := by
  apply ref04_digits_ok
  unfold ref04_digits_vc
  rw [ba_size]
  refine ⟨fun m n i h' => ∃ k, k ≤ l.length ∧ m = l.length - k ∧ i = (k : Int) ∧ k ≤ most ∧ n = ((dgV (l.take k) : Nat) : Int) ∧ (∀ y ∈ l.take k, isDg y = true) ∧ h = h', ⟨l.length, 0, by omega, by omega, rfl, by omega, rfl, by simp, rfl⟩, ?_⟩
  rintro m _ _ _ ⟨k, hk, rfl, rfl, hkm, rfl, hdk, rfl⟩
  have hv : dgV (l.take k) < 10000000 := by
    have h1 := dgV_lt (l.take k) hdk
    rw [List.length_take, Nat.min_eq_left hk] at h1
    have hp : (10 : Nat) ^ k ≤ 10 ^ 7 := Nat.pow_le_pow_right (by decide) (by omega)
    omega
  refine Br.mk (fun q => ?_) (fun q => ?_)
  · have hlt : k < l.length := by have := of_decide_eq_true q; omega
    obtain ⟨x, hx⟩ : ∃ x, l[k]? = some x := ⟨_, List.getElem?_eq_getElem hlt⟩
    simp only [Int.toNat_natCast]
    refine ⟨fun t h' => h = h' ∧ (t = true → ¬ (Dgs l ∧ l.length ≤ most)) ∧ (t = false → k < most ∧ isDg x = true), ?_, ?_⟩
    · rintro t _ ⟨rfl, ht, hf⟩
      refine Br.mk (fun q2 => ?_) (fun q2 => ?_)
      · exact ⟨0, false, rfl, ⟨(fun q => by cases q), fun q => absurd q (ht q2)⟩, (fun q => by cases q), rfl⟩
      · obtain ⟨h1, h2⟩ := hf q2
        have h3 := isDg_iff.1 h2
        rintro _ rfl
        refine ⟨x, by omega, by rw [ba_get]; exact hx, ?_⟩
        rintro _ rfl _ rfl _ rfl
        have et : l.take (k + 1) = l.take k ++ [x] := by rw [List.take_add_one, hx]; rfl
        refine ⟨l.length - (k + 1), by omega, k + 1, by omega, rfl, wi (by omega) (by omega), by omega, ?_, ?_, rfl⟩
        · rw [et, dgV_snoc]
          exact dec_step (by omega) h3.1 h3.2
        · rw [et]
          intro y hy
          rcases List.mem_append.1 hy with q | q
          · exact hdk y q
          · rw [List.mem_singleton.1 q]; exact h2
    · have bad : isDg x = false → ¬ (Dgs l ∧ l.length ≤ most) := fun hx' hd => by rw [hd.1.2 x (List.mem_of_getElem? hx)] at hx'; cases hx'
      refine Br.mk (fun q2 => ⟨rfl, fun _ hd => ?_, fun q => by cases q⟩) (fun q2 => ⟨x, by omega, by rw [ba_get]; exact hx, Br.mk (fun q3 => ⟨rfl, fun _ => ?_, fun q => by cases q⟩) (fun q3 => ⟨x, by omega, by rw [ba_get]; exact hx, rfl, fun q4 => ?_, fun q4 => ?_⟩)⟩)
      · have := of_decide_eq_true q2; omega
      · have := of_decide_eq_true q3
        exact bad (decide_eq_false (by omega))
      · have := of_decide_eq_true q4
        exact bad (decide_eq_false (by omega))
      · have a := of_decide_eq_false q2
        have b := of_decide_eq_false q3
        have c := of_decide_eq_false q4
        exact ⟨by omega, isDg_iff.2 (by omega)⟩
  · have hk' : k = l.length := by have := of_decide_eq_false q; omega
    subst hk'
    rw [List.take_length] at hdk ⊢
    refine ⟨_, _, rfl, ⟨fun q2 => ?_, fun q2 => ?_⟩, fun _ => rfl, rfl⟩
    · have := of_decide_eq_true q2
      exact ⟨⟨fun e => by rw [e] at this; simp at this, hdk⟩, hkm⟩
    · have : l.length ≠ 0 := fun e => q2.1.1 (List.length_eq_zero_iff.1 e)
      exact decide_eq_true (by omega)

theorem rwhole_c (l : List UInt8) (most : Nat) (hm : most ≤ 7) (hl : l.length ≤ 1000000) (h : Heap) :
    CallsU Tryz.prog 82 [sv l, .int .i64 most] h fun r h' => ∃ (n : Int) (ok : Bool), r = .tuple #[.int .i64 n, .bool ok] ∧ (ok = true ↔ Whl l most) ∧ (ok = true → n = (dgV l : Int)) ∧ h = h' := by
  apply ref04_whole_ok
  refine (rdigits_c l most hm hl h).mono ?_
  rintro _ _ ⟨n, ok, rfl, h1, h2, rfl⟩
  refine ⟨_, _, rfl, Br.mk (fun q => ?_) (fun q => ?_)⟩
  · refine (digitsB_c l hl h).mono ?_
    rintro _ _ ⟨b, rfl, h3, rfl⟩
    obtain ⟨a1, a2⟩ := h1.1 q
    exact ⟨_, rfl, _, _, rfl, ⟨fun q2 => ⟨a1, a2, (h3.1 q2).2⟩, fun q2 => h3.2 ⟨q2.1, q2.2.2⟩⟩, fun _ => h2 q, rfl⟩
  · exact ⟨_, _, rfl, ⟨(fun q => by cases q), fun q2 => by rw [h1.2 ⟨q2.1, q2.2.1⟩] at q; cases q⟩, (fun q => by cases q), rfl⟩

/-! ### reading a value -/
theorem split_unique {x : UInt8} : ∀ {a a' b b' : List UInt8}, x ∉ a → x ∉ a' → a ++ x :: b = a' ++ x :: b' → a = a' ∧ b = b'
  | [], [], _, _, _, _, e => by simp at e; exact ⟨rfl, e⟩
  | [], y :: a', _, _, _, h, e => by simp at e; exact absurd (by simp [e.1]) h
  | y :: a, [], _, _, h, _, e => by simp at e; exact absurd (by simp [e.1]) h
  | y :: a, z :: a', b, b', h, h', e => by
    simp only [List.cons_append, List.cons.injEq] at e
    obtain ⟨e1, e2⟩ := split_unique (fun q => h (by simp [q])) (fun q => h' (by simp [q])) e.2
    exact ⟨by rw [e.1, e1], e2⟩

theorem Dgs.notin {a : List UInt8} (h : Dgs a) {x : UInt8} (hx : isDg x = false) : x ∉ a := fun q => by rw [h.2 x q] at hx; cases hx

theorem d47 : isDg 47 = false := by decide
theorem d46 : isDg 46 = false := by decide
theorem d32 : isDg 32 = false := by decide

/-- A number with a slash. -/
theorem Val.slash {a b : List UInt8} {n d : Nat} (h : Val (a ++ 47 :: b) n d) (ha : (47 : UInt8) ∉ a) :
    (Whl a 7 ∧ Whl b 3 ∧ dgV b ≠ 0 ∧ n = dgV a ∧ d = dgV b) ∨ ∃ x y, a = x ++ 32 :: y ∧ Whl x 7 ∧ Whl y 7 ∧ Whl b 3 ∧ dgV b ≠ 0 ∧ n = dgV x * dgV b + dgV y ∧ d = dgV b := by
  generalize he : a ++ 47 :: b = l at h
  have hmem : (47 : UInt8) ∈ l := by rw [← he]; simp
  cases h with
  | whole hw => exact absurd hmem (hw.1.notin d47)
  | dec hw hb hl =>
    exfalso
    rcases List.mem_append.1 hmem with q | q
    · exact hw.1.notin d47 q
    · rcases List.mem_cons.1 q with q | q
      · revert q; decide
      · exact hb.notin d47 q
  | @frac a' b' hw hb h0 =>
    obtain ⟨rfl, rfl⟩ := split_unique ha (hw.1.notin d47) he
    exact Or.inl ⟨hw, hb, h0, rfl, rfl⟩
  | @mixed x y z hx hy hz h0 =>
    have e' : a ++ 47 :: b = (x ++ 32 :: y) ++ 47 :: z := by rw [he]; simp
    have hn : (47 : UInt8) ∉ x ++ 32 :: y := fun q => by
      rcases List.mem_append.1 q with q | q
      · exact hx.1.notin d47 q
      · rcases List.mem_cons.1 q with q | q
        · revert q; decide
        · exact hy.1.notin d47 q
    obtain ⟨rfl, rfl⟩ := split_unique ha hn e'
    exact Or.inr ⟨x, y, rfl, hx, hy, hz, h0, rfl, rfl⟩

theorem rfraction_c {a b : List UInt8} (ha : (47 : UInt8) ∉ a) (hla : a.length ≤ 1000000) (hlb : b.length ≤ 1000000) (h : Heap) :
    CallsU Tryz.prog 81 [sv a, sv b] h fun r h' => ∃ (num den : Int) (ok : Bool), r = .tuple #[.int .i64 num, .int .i64 den, .bool ok] ∧ (ok = true → ∃ n d : Nat, num = n ∧ den = d ∧ Val (a ++ 47 :: b) n d) ∧ (ok = false → ∀ n d, ¬ Val (a ++ 47 :: b) n d) ∧ h = h' := by
  apply ref04_fraction_ok
  refine (rwhole_c b 3 (by omega) hlb h).mono ?_
  rintro _ _ ⟨den, ok1, rfl, k1, k2, rfl⟩
  refine ⟨_, _, rfl, fun t h' => h = h' ∧ (t = true → ¬ (Whl b 3 ∧ dgV b ≠ 0)) ∧ (t = false → Whl b 3 ∧ dgV b ≠ 0 ∧ den = (dgV b : Int)), ?_, ?_⟩
  · rintro t _ ⟨rfl, ht, hf⟩
    refine Br.mk (fun q => ?_) (fun q => ?_)
    · refine ⟨_, _, _, rfl, (fun q => by cases q), fun _ n d hV => ht q ?_, rfl⟩
      rcases hV.slash ha with ⟨_, h1, h2, _⟩ | ⟨_, _, _, _, _, h1, h2, _⟩
      · exact ⟨h1, h2⟩
      · exact ⟨h1, h2⟩
    · obtain ⟨wb, nb, rfl⟩ := hf q
      have hb3 := dgV_lt' wb.1 wb.2.1
      refine (before_c a 32 hla h).mono ?_
      rintro _ _ ⟨x, y, mixed, rfl, m1, m2, lx, ly, rfl⟩
      refine ⟨_, _, _, rfl, Br.mk (fun q2 => ?_) (fun q2 => ?_)⟩
      · have hm : mixed = false := by simpa using q2
        obtain ⟨_, h32⟩ := m2 hm
        refine (rwhole_c a 7 (by omega) hla h).mono ?_
        rintro _ _ ⟨num, ok2, rfl, k3, k4, rfl⟩
        refine ⟨_, _, rfl, _, _, _, rfl, fun q3 => ⟨dgV a, dgV b, k4 q3, rfl, Val.frac (k3.1 q3) wb nb⟩, fun q3 n d hV => ?_, rfl⟩
        rcases hV.slash ha with ⟨h1, _⟩ | ⟨x', y', e, _⟩
        · rw [k3.2 h1] at q3; cases q3
        · exact h32 (by rw [e]; simp)
      · have hm : mixed = true := by simpa using q2
        obtain ⟨e, h32⟩ := m1 hm
        refine (rwhole_c x 7 (by omega) (by omega) h).mono ?_
        rintro _ _ ⟨n1, ok2, rfl, k3, k4, rfl⟩
        refine ⟨_, _, rfl, (rwhole_c y 7 (by omega) (by omega) h).mono ?_⟩
        rintro _ _ ⟨n2, ok3, rfl, k5, k6, rfl⟩
        refine ⟨_, _, rfl, ?_⟩
        rintro _ rfl _ rfl
        have back : ∀ n d, Val (a ++ 47 :: b) n d → ok2 = true ∧ ok3 = true := fun n d hV => by
          rcases hV.slash ha with ⟨h1, _⟩ | ⟨x', y', e', hx', hy', _⟩
          · exact absurd (by rw [e]; simp) (h1.1.notin d32)
          · obtain ⟨rfl, rfl⟩ := split_unique h32 (hx'.1.notin d32) (e.symm.trans e')
            exact ⟨k3.2 hx', k5.2 hy'⟩
        refine Br.mk (fun q3 => ?_) (fun q3 => ?_)
        · refine ⟨_, _, _, rfl, fun q4 => ?_, (fun q4 n d hV => by rw [(back n d hV).2] at q4; cases q4), rfl⟩
          have wx := k3.1 q3
          have wy := k5.1 q4
          have hx7 := dgV_lt' wx.1 wx.2.1
          have hy7 := dgV_lt' wy.1 wy.2.1
          have hmul : dgV x * dgV b ≤ 9999999 * 999 := Nat.mul_le_mul (by omega) (by omega)
          refine ⟨dgV x * dgV b + dgV y, dgV b, ?_, rfl, ?_⟩
          · rw [k4 q3, k6 q4]
            have w1 : IntKind.i64.wrap ((dgV x : Int) * (dgV b : Int)) = ((dgV x * dgV b : Nat) : Int) := wi (by rw [Int.natCast_mul]) (by omega)
            rw [w1]
            exact wi (by omega) (by omega)
          · rw [e]
            have := Val.mixed wx wy wb nb
            simpa using this
        · refine ⟨_, _, _, rfl, (fun q => by cases q), (fun _ n d hV => by rw [(back n d hV).1] at q3; cases q3), rfl⟩
  · refine Br.mk (fun q => ⟨rfl, fun _ hw => ?_, fun q => by cases q⟩) (fun q => ?_)
    · have : ok1 = false := by simpa using q
      rw [k1.2 hw.1] at this; cases this
    · have ho : ok1 = true := by simpa using q
      have hw := k1.1 ho
      have hd := k2 ho
      refine ⟨rfl, fun q2 hw2 => ?_, fun q2 => ⟨hw, ?_, hd⟩⟩
      · have := beq_iff_eq.1 q2
        exact hw2.2 (by omega)
      · have := beq_eq_false_iff_ne.1 q2
        omega
end Go.Proofs.YtccplhjglhdopaaGreatDoor

/-
  Contracts of the reference 04: value, unit, Parse.
-/
namespace Go.Proofs.YtccplhjglhdopaaGreatDoor
open Go Go.Vcg
attribute [local irreducible] Br

theorem Val.no47 {l : List UInt8} {n d : Nat} (h : Val l n d) (h47 : (47 : UInt8) ∉ l) :
    (Whl l 7 ∧ n = dgV l ∧ d = 1) ∨ ∃ a b, l = a ++ 46 :: b ∧ Whl a 7 ∧ Dgs b ∧ b.length ≤ 4 ∧ n = dgV a * 10 ^ b.length + dgV b ∧ d = 10 ^ b.length := by
  cases h with
  | whole hw => exact Or.inl ⟨hw, rfl, rfl⟩
  | dec hw hb hl => exact Or.inr ⟨_, _, rfl, hw, hb, hl, rfl, rfl⟩
  | frac hw hb h0 => exact absurd (by simp) h47
  | mixed hx hy hz h0 => exact absurd (by simp) h47

theorem value_c (l : List UInt8) (hl : l.length ≤ 1000) (h : Heap) :
    CallsU Tryz.prog 35 [sv l] h fun r h' => ∃ (num den : Int) (ok : Bool), r = .tuple #[.int .i64 num, .int .i64 den, .bool ok] ∧ (ok = true → ∃ n d : Nat, num = n ∧ den = d ∧ Val l n d) ∧ (ok = false → ∀ n d, ¬ Val l n d) ∧ h = h' := by
  apply ref04_value_ok
  refine (before_c l 47 (by omega) h).mono ?_
  rintro _ _ ⟨a, b, ok1, rfl, m1, m2, la, lb, rfl⟩
  refine ⟨_, _, _, rfl, Br.mk (fun q => ?_) (fun q => ?_)⟩
  · obtain ⟨e, h47⟩ := m1 q
    refine (rfraction_c h47 (by omega) (by omega) h).mono ?_
    rintro _ _ ⟨num, den, ok, rfl, k1, k2, rfl⟩
    rw [← e] at k1 k2
    exact ⟨_, _, _, rfl, _, _, _, rfl, k1, k2, rfl⟩
  · obtain ⟨_, h47⟩ := m2 q
    refine (before_c l 46 (by omega) h).mono ?_
    rintro _ _ ⟨x, y, ok2, rfl, m3, m4, lx, ly, rfl⟩
    refine ⟨_, _, _, rfl, (rwhole_c x 7 (by omega) (by omega) h).mono ?_⟩
    rintro _ _ ⟨n1, is, rfl, k1, k2, rfl⟩
    refine ⟨_, _, rfl, Br.mk (fun q2 => ?_) (fun q2 => ?_)⟩
    · have hm : ok2 = false := by simpa using q2
      obtain ⟨rfl, h46⟩ := m4 hm
      refine ⟨_, _, _, rfl, fun q3 => ⟨dgV x, 1, k2 q3, rfl, Val.whole (k1.1 q3)⟩, fun q3 n d hV => ?_, rfl⟩
      rcases hV.no47 h47 with ⟨hw, _⟩ | ⟨a', b', e, _⟩
      · rw [k1.2 hw] at q3; cases q3
      · exact h46 (by rw [e]; simp)
    · have hm : ok2 = true := by simpa using q2
      obtain ⟨e, h46⟩ := m3 hm
      refine (rdigits_c y 4 (by omega) (by omega) h).mono ?_
      rintro _ _ ⟨part, good, rfl, k3, k4, rfl⟩
      refine ⟨_, _, rfl, fun den h' => h = h' ∧ den = ((10 ^ (min y.length 4) : Nat) : Int), ?_, ?_⟩
      · rintro _ _ ⟨rfl, rfl⟩ _ rfl _ rfl
        have back : ∀ n d, Val l n d → is = true ∧ good = true := fun n d hV => by
          rcases hV.no47 h47 with ⟨hw, _⟩ | ⟨a', b', e', ha', hb', hl', _⟩
          · exact absurd (by rw [e]; simp) (hw.1.notin d46)
          · obtain ⟨rfl, rfl⟩ := split_unique h46 (ha'.1.notin d46) (e.symm.trans e')
            exact ⟨k1.2 ha', k3.2 ⟨hb', hl'⟩⟩
        refine Br.mk (fun q3 => ?_) (fun q3 => ?_)
        · refine ⟨_, _, _, rfl, fun q4 => ?_, (fun q4 n d hV => by rw [(back n d hV).2] at q4; cases q4), rfl⟩
          have wx := k1.1 q3
          obtain ⟨dy, ly4⟩ := k3.1 q4
          have hx7 := dgV_lt' wx.1 wx.2.1
          have hy4 := dgV_lt' dy ly4
          have hp : (10 : Nat) ^ y.length ≤ 10 ^ 4 := Nat.pow_le_pow_right (by decide) ly4
          have hmul : dgV x * 10 ^ y.length ≤ 9999999 * 10 ^ 4 := Nat.mul_le_mul (by omega) hp
          rw [Nat.min_eq_left ly4]
          refine ⟨dgV x * 10 ^ y.length + dgV y, 10 ^ y.length, ?_, rfl, by rw [e]; exact Val.dec wx dy ly4⟩
          rw [k2 q3, k4 q4]
          generalize (10 : Nat) ^ y.length = P at *
          have w1 : IntKind.i64.wrap ((dgV x : Int) * (P : Int)) = ((dgV x * P : Nat) : Int) := wi (by rw [Int.natCast_mul]) (by omega)
          rw [w1]
          exact wi (by omega) (by omega)
        · exact ⟨_, _, _, rfl, (fun q => by cases q), (fun _ n d hV => by rw [(back n d hV).1] at q3; cases q3), rfl⟩
      · refine ⟨fun m den i h' => ∃ k, k ≤ y.length ∧ k ≤ 4 ∧ m = 4 - k ∧ i = (k : Int) ∧ den = ((10 ^ k : Nat) : Int) ∧ h = h', ⟨4, 0, by omega, by omega, by omega, rfl, rfl, rfl⟩, ?_⟩
        rintro m _ _ _ ⟨k, hk1, hk2, rfl, rfl, rfl, rfl⟩
        rw [ba_size]
        refine Br.mk (fun q3 => Br.mk (fun q4 => ?_) (fun q4 => ?_)) (fun q3 => ?_)
        · have a1 := of_decide_eq_true q3
          have a2 := of_decide_eq_true q4
          rintro _ rfl _ rfl
          have hp : (10 : Nat) ^ k ≤ 10 ^ 4 := Nat.pow_le_pow_right (by decide) hk2
          refine ⟨4 - (k + 1), by omega, k + 1, by omega, by omega, rfl, wi (by omega) (by omega), ?_, rfl⟩
          rw [Nat.pow_succ]
          generalize (10 : Nat) ^ k = P at *
          exact wi (by omega) (by omega)
        · have a1 := of_decide_eq_true q3
          have a2 := of_decide_eq_false q4
          have : k = min y.length 4 := by omega
          rw [← this]
          exact ⟨rfl, rfl⟩
        · have a1 := of_decide_eq_false q3
          have : k = min y.length 4 := by omega
          rw [← this]
          exact ⟨rfl, rfl⟩

def unitNames : List (List UInt8) := [[109, 109], [99, 109], [105, 110], [109]]
def unitScales : List Int := [100, 1000, 2540, 100000]

theorem runit_c (l : List UInt8) (hl : l.length ≤ 1000) (h : Heap) :
    CallsU Tryz.prog 34 [sv l] h fun r h' => ∃ (n : Nat) (t : List UInt8), r = .tuple #[.int .i64 n, sv t] ∧ ((n ≠ 0 ∧ n ≤ 100000 ∧ Unt l t n) ∨ (n = 0 ∧ t = [] ∧ ∀ t n, ¬ Unt l t n)) ∧ t.length ≤ l.length ∧ Le h h' := by
  apply ref04_unit_ok
  unfold ref04_unit_vc
  rintro g _ hg rfl g1 _ hg1 rfl
  have hne : g ≠ g1 := fun e => by rw [← e, Heap.put_same] at hg1; cases hg1
  have hg1' : h g1 = none := by rw [Heap.put_ne _ _ (Ne.symm hne)] at hg1; exact hg1
  generalize hH : Heap.put (Heap.put h g _) g1 _ = H
  have hle : Le h H := by rw [← hH]; exact (Le.new hg _).trans (Le.new hg1 _)
  have sN : Sl sv H (some ⟨g, 0, none⟩) 4 4 unitNames := by
    have hb : H g = some ⟨unitNames.map sv, 9, (0, 0)⟩ := by rw [← hH, Heap.put_ne _ _ hne, Heap.put_same]; rfl
    exact Sl.of_blk (m := 4) (k := 4) hb (by decide) (by decide)
  have sS : Sl iv H (some ⟨g1, 0, none⟩) 4 4 unitScales := by
    have hb : H g1 = some ⟨unitScales.map iv, 3, (0, 0)⟩ := by rw [← hH, Heap.put_same]; rfl
    exact Sl.of_blk (m := 4) (k := 4) hb (by decide) (by decide)
  clear hH
  rw [ba_size]
  refine ⟨fun m i h' => ∃ k, k ≤ 4 ∧ m = 4 - k ∧ i = (k : Int) ∧ H = h' ∧ ∀ j u, j < k → unitNames[j]? = some u → ∀ r, l ≠ r ++ u, ⟨4, 0, by omega, by omega, rfl, rfl, fun j u hj => by omega⟩, ?_⟩
  rintro m _ _ ⟨k, hk, rfl, rfl, rfl, hno⟩
  simp only [Int.toNat_natCast]
  refine Br.mk (fun q => ?_) (fun q => ?_)
  · have hk4 : k < 4 := by have := of_decide_eq_true q; omega
    obtain ⟨u, hu⟩ : ∃ u, unitNames[k]? = some u := ⟨_, List.getElem?_eq_getElem (by simpa [unitNames] using hk4)⟩
    obtain ⟨sc, hsc⟩ : ∃ sc, unitScales[k]? = some sc := ⟨_, List.getElem?_eq_getElem (by simpa [unitScales] using hk4)⟩
    obtain ⟨ad, hA, hld⟩ := sN.get hu
    obtain ⟨ad1, hA1, hld1⟩ := sS.get hsc
    have hul : u.length ≤ 2 ∧ 1 ≤ u.length := by
      have : k = 0 ∨ k = 1 ∨ k = 2 ∨ k = 3 := by omega
      rcases this with rfl | rfl | rfl | rfl <;> (simp [unitNames] at hu; subst hu; simp)
    refine ⟨ad, hA, by omega, by omega, _, hld, ?_⟩
    rw [ba_size]
    rintro _ rfl
    have w1 : IntKind.i64.wrap ((l.length : Int) - (u.length : Int)) = (l.length : Int) - (u.length : Int) := wrap_i64 (by omega) (by omega)
    rw [w1]
    refine ⟨fun t h' => H = h' ∧ (t = true → u.length ≤ l.length ∧ l = l.take (l.length - u.length) ++ u) ∧ (t = false → ∀ r, l ≠ r ++ u), ?_, ?_⟩
    · rintro t _ ⟨rfl, ht, hf⟩
      refine Br.mk (fun q2 => ?_) (fun q2 => ?_)
      · obtain ⟨h1, h2⟩ := ht q2
        have e1 : Int.toNat ((l.length : Int) - (u.length : Int)) = l.length - u.length := by omega
        rw [e1, ba_take]
        refine ⟨ad1, hA1, by omega, by omega, _, hld1, by omega, by omega, sc.toNat, l.take (l.length - u.length), ?_, Or.inl ?_, by simp, hle⟩
        · have : k = 0 ∨ k = 1 ∨ k = 2 ∨ k = 3 := by omega
          rcases this with rfl | rfl | rfl | rfl <;> (simp [unitScales] at hsc; subst hsc; rfl)
        · have hk' : k = 0 ∨ k = 1 ∨ k = 2 ∨ k = 3 := by omega
          have no0 : 0 < k → ∀ r, l ≠ r ++ [109, 109] := fun hk0 => hno 0 [109, 109] hk0 rfl
          have no1 : 1 < k → ∀ r, l ≠ r ++ [99, 109] := fun hk0 => hno 1 [99, 109] hk0 rfl
          rcases hk' with rfl | rfl | rfl | rfl
          · simp [unitNames, unitScales] at hu hsc; subst hu hsc
            exact ⟨by decide, by decide, _, h2, rfl, fun e => by simp at e⟩
          · simp [unitNames, unitScales] at hu hsc; subst hu hsc
            exact ⟨by decide, by decide, _, h2, rfl, fun e => by simp at e⟩
          · simp [unitNames, unitScales] at hu hsc; subst hu hsc
            exact ⟨by decide, by decide, _, h2, rfl, fun e => by simp at e⟩
          · simp [unitNames, unitScales] at hu hsc; subst hu hsc
            refine ⟨by decide, by decide, _, h2, rfl, fun _ r x hx => ?_⟩
            rcases hx with rfl | rfl
            · exact no0 (by omega) r
            · exact no1 (by omega) r
      · rintro _ rfl
        refine ⟨4 - (k + 1), by omega, k + 1, by omega, rfl, wi (by omega) (by omega), rfl, fun j v hj hv => ?_⟩
        rcases Nat.lt_succ_iff_lt_or_eq.1 hj with q | q
        · exact hno j v q hv
        · subst q
          rw [hu] at hv
          cases hv
          exact hf q2
    · refine Br.mk (fun q2 => ?_) (fun q2 => ?_)
      · have h1 := of_decide_eq_true q2
        refine ⟨by omega, by omega, ad, hA, by omega, by omega, _, hld, rfl, ?_⟩
        have e1 : Int.toNat ((l.length : Int) - (u.length : Int)) = l.length - u.length := by omega
        have hs2 := ba_drop l (l.length - u.length)
        rw [ba_size] at hs2
        rw [e1, hs2, bytes_toList, bytes_toList]
        refine ⟨fun q3 => ⟨by omega, ?_⟩, fun q3 r e => ?_⟩
        · have := beq_iff_eq.1 q3
          have h2 := List.take_append_drop (l.length - u.length) l
          rw [this] at h2
          exact h2.symm
        · have hne := beq_eq_false_iff_ne.1 q3
          apply hne
          subst e
          simp
      · have h1 := of_decide_eq_false q2
        refine ⟨rfl, (fun q => by cases q), fun _ r e => ?_⟩
        subst e
        simp at h1
  · have hk4 : k = 4 := by have := of_decide_eq_false q; omega
    subst hk4
    refine ⟨0, [], rfl, Or.inr ⟨rfl, rfl, fun t n hU => ?_⟩, by simp, hle⟩
    obtain ⟨u, e, hu, _⟩ := hU
    rcases unitV_some hu with ⟨rfl, _⟩ | ⟨rfl, _⟩ | ⟨rfl, _⟩ | ⟨rfl, _⟩
    · exact hno 0 _ (by omega) rfl t e
    · exact hno 1 _ (by omega) rfl t e
    · exact hno 3 _ (by omega) rfl t e
    · exact hno 2 _ (by omega) rfl t e

theorem ratio_sg (m : Bool) (sc num den : Nat) : ((((if m then -1 else 1) * (sc : Int) * (num : Int) : Int) : Rat) / (((den : Nat) : Int) : Rat)) = sgn m ((num : Rat) / (den : Rat) * (sc : Rat)) := by
  unfold sgn
  rw [Rat.intCast_mul, Rat.intCast_mul, Rat.intCast_natCast, Rat.intCast_natCast, Rat.intCast_natCast]
  cases m
  · simp only [Bool.false_eq_true, if_false, Rat.intCast_one]
    grind
  · simp only [if_true]
    rw [show (((-1 : Int) : Rat)) = -1 from rfl]
    grind

theorem rparse_c (l : List UInt8) (h : Heap) :
    CallsU Tryz.prog 13 [sv l] h fun r h' => ((∃ q s A n c B m d, parseL l = some q ∧ r = .tuple #[.agg #[.bool s, .slice A n c, .slice B m d], .int .i64 0] ∧ NmQ h' s A n c B m d q ∧ n ≤ 64 ∧ m ≤ 64) ∨ (parseL l = none ∧ r = .tuple #[.agg #[.bool false, .slice none 0 0, .slice none 0 0], .int .i64 (errP l)])) ∧ Le h h' := by
  apply ref04_Parse_ok
  unfold ref04_Parse_vc
  rw [ba_size]
  unfold parseL errP
  refine Br.mk (fun q => ?_) (fun q => ?_)
  · have hq := of_decide_eq_true q
    rw [if_neg (by omega), if_neg (by omega)]
    exact ⟨Or.inr ⟨rfl, rfl⟩, Le.refl _⟩
  · have hq := of_decide_eq_false q
    have hl24 : l.length ≤ 24 := by omega
    rw [if_pos hl24, if_pos hl24]
    refine ⟨fun s1 sign h' => h = h' ∧ ∃ (m : Bool) (s' : List UInt8), s1 = ⟨s'.toArray⟩ ∧ l = sgL m ++ s' ∧ sign = (if m then -1 else 1) ∧ (m = false → s'.head? ≠ some 45), ?_, ?_⟩
    · rintro _ _ _ ⟨rfl, m, s', rfl, el, rfl, hm⟩
      have hls : s'.length ≤ 24 := by
        have := congrArg List.length el
        rw [List.length_append] at this
        omega
      refine (runit_c s' (by omega) h).mono ?_
      rintro _ h1 ⟨sc, t, rfl, hU, ht, hl1⟩
      refine ⟨_, _, rfl, (value_c t (by omega) h1).mono ?_⟩
      rintro _ _ ⟨num, den, ok, rfl, k1, k2, rfl⟩
      refine ⟨_, _, _, rfl, fun b h' => h1 = h' ∧ b = ((sc == 0) || !ok), ?_, ?_⟩
      · rintro b _ ⟨rfl, eb⟩
        refine Br.mk (fun q2 => ?_) (fun q2 => ?_)
        · have hnone : parseV l = none := by
            rw [el]
            refine ref_none hm fun t' n' nu de hu hv => ?_
            rcases hU with ⟨h0, _, hU⟩ | ⟨h0, _, hU⟩
            · obtain ⟨rfl, rfl⟩ := unt_unique hU hu
              rw [q2] at eb
              have : ok = false := by
                cases ok
                · rfl
                · simp at eb; omega
              exact k2 this nu de hv
            · exact hU t' n' hu
          rw [hnone]
          exact ⟨Or.inr ⟨rfl, rfl⟩, hl1⟩
        · rw [q2] at eb
          have hok : ok = true := by cases ok <;> simp at eb ⊢
          have hsc : sc ≠ 0 := by intro e; rw [e] at eb; simp at eb
          obtain ⟨n, d, rfl, rfl, hV⟩ := k1 hok
          rcases hU with ⟨_, hsb, hU⟩ | ⟨h0, _⟩
          · have hp := ref_parse (m := m) hU hV
            rw [← el] at hp
            obtain ⟨hd0, _, hn, hd⟩ := hV.num
            have hmul : sc * n ≤ 100000 * 99999999999 := Nat.mul_le_mul hsb (by omega)
            have hcast : (sc : Int) * (n : Int) = ((sc * n : Nat) : Int) := by rw [Int.natCast_mul]
            have e1 : IntKind.i64.wrap (IntKind.i64.wrap ((if m then (-1 : Int) else 1) * (sc : Int)) * (n : Int)) = (if m then (-1 : Int) else 1) * (sc : Int) * (n : Int) := by
              have w1 : IntKind.i64.wrap ((if m then (-1 : Int) else 1) * (sc : Int)) = (if m then (-1 : Int) else 1) * (sc : Int) := wrap_i64 (by split <;> omega) (by split <;> omega)
              rw [w1, Int.mul_assoc, hcast]
              exact wrap_i64 (by split <;> omega) (by split <;> omega)
            rintro _ rfl _ rfl
            rw [e1]
            refine (r3of_c _ _ (by rw [Int.mul_assoc, hcast]; split <;> omega) (by rw [Int.mul_assoc, hcast]; split <;> omega) (by omega) (by omega) (by omega) h1).mono ?_
            rintro _ h2 ⟨s2, A2, n2, c2, B2, m2, d2, rfl, hN2, a2, b2, hl2⟩
            rw [ratio_sg] at hN2
            exact ⟨_, _, _, _, _, _, _, _, rfl, Or.inl ⟨_, _, _, _, _, _, _, _, hp, rfl, hN2, by omega, by omega⟩, hl1.trans hl2⟩
          · exact absurd h0 hsc
      · refine Br.mk (fun q2 => ⟨rfl, ?_⟩) (fun q2 => ⟨rfl, ?_⟩)
        · have : sc = 0 := by have := beq_iff_eq.1 q2; omega
          rw [this]; rfl
        · have : (sc == 0) = false := by rw [beq_eq_false_iff_ne]; have := beq_eq_false_iff_ne.1 q2; omega
          rw [this]; rfl
    · cases l with
      | nil => exact Br.mk (fun q2 => by simp at q2) (fun _ => ⟨rfl, false, [], rfl, rfl, rfl, fun _ => by simp⟩)
      | cons y r =>
        refine Br.mk (fun _ => ⟨y, by omega, by rw [ba_get]; rfl, Br.mk (fun q3 => ⟨by omega, by simp; omega, rfl, true, r, ?_, ?_, rfl, fun q => by cases q⟩) (fun q3 => ⟨rfl, false, y :: r, rfl, rfl, rfl, fun _ => ?_⟩)⟩) (fun q2 => by simp at q2)
        · have hs2 := ba_drop (y :: r) 1
          rw [ba_size] at hs2
          exact hs2
        · have : y = 45 := UInt8.toNat_inj.1 (by have := beq_iff_eq.1 q3; show y.toNat = 45; omega)
          rw [this]; rfl
        · simp only [List.head?_cons, ne_eq, Option.some.injEq]
          rintro rfl
          cases q3
end Go.Proofs.YtccplhjglhdopaaGreatDoor

/-
  The laws of chapter 04: Units, Mixed, Parses.
-/
namespace Go.Proofs.YtccplhjglhdopaaGreatDoor
open Go Go.Vcg
attribute [local irreducible] Br

theorem unitsR_pair (x : Rat) : unitsR x = .tuple #[.int .i64 ((unitsV x).getD 0), .int .i64 (if (unitsV x).isSome then 0 else 3)] := by unfold unitsR; cases unitsV x <;> rfl

theorem units_law {h : Heap} {s : Bool} {A B : Option Addr} {n c m d : Nat} {x : Rat} (u : IsQ h s A n c B m d x) (tb : Tab h) :
    CallsU Tryz.prog 5 [.agg #[.bool s, .slice A n c, .slice B m d]] h fun v h' => v = .bool true ∧ Le h h' := by
  apply law04_MeasureUnits_ok
  refine (light_c s A B n c m d 24 h).mono ?_
  rintro _ _ ⟨rfl, rfl⟩
  refine ⟨_, rfl, Br.mk (fun _ => aliveF tb (Le.refl _)) (fun q => ?_)⟩
  have hnm : n ≤ 24 ∧ m ≤ 24 := of_decide_eq_true (by simpa using q)
  refine (units_c u (by omega) (by omega)).mono ?_
  rintro _ h1 ⟨rfl, hl1⟩
  rw [unitsR_pair]
  refine ⟨_, _, rfl, (runits_c (u.mono hl1) (by omega) (by omega)).mono ?_⟩
  rintro _ h2 ⟨rfl, hl2⟩
  rw [unitsR_pair]
  exact ⟨_, _, rfl, Br.mk (fun _ => Br.mk (fun _ => aliveF tb (hl1.trans hl2)) (fun q => by simp at q)) (fun q => by simp at q)⟩

theorem parses_law (l : List UInt8) {h : Heap} (tb : Tab h) : CallsU Tryz.prog 3 [sv l] h fun v h' => v = .bool true ∧ Le h h' := by
  apply law04_MeasureParses_ok
  unfold law04_MeasureParses_vc
  rw [ba_size]
  refine Br.mk (fun _ => aliveF tb (Le.refl _)) (fun _ => ?_)
  refine (parse_any l h).mono ?_
  rintro _ h1 ⟨⟨p, s1, A1, n1, c1, B1, m1, d1, hp, rfl, hN1, a1, b1⟩ | ⟨hp, rfl⟩, hl1⟩
  · refine ⟨_, _, _, _, _, _, _, _, rfl, (rparse_c l h1).mono ?_⟩
    rintro _ h2 ⟨⟨p', s2, A2, n2, c2, B2, m2, d2, hp', rfl, hN2, a2, b2⟩ | ⟨hp', rfl⟩, hl2⟩
    · rw [hp] at hp'
      cases hp'
      refine ⟨_, _, _, _, _, _, _, _, rfl, (same_c (hN1.mono hl2) hN2 (by omega) (by omega)).mono ?_⟩
      rintro _ _ ⟨rfl, rfl⟩
      exact ⟨_, rfl, Br.mk (fun _ => Br.mk (fun _ => aliveF tb (hl1.trans hl2)) (fun q => by cases q)) (fun q => by cases q)⟩
    · rw [hp] at hp'; cases hp'
  · refine ⟨_, _, _, _, _, _, _, _, rfl, (rparse_c l h1).mono ?_⟩
    rintro _ h2 ⟨⟨p', s2, A2, n2, c2, B2, m2, d2, hp', rfl, hN2, a2, b2⟩ | ⟨hp', rfl⟩, hl2⟩
    · rw [hp] at hp'; cases hp'
    · refine ⟨_, _, _, _, _, _, _, _, rfl, (same_zero h2).mono ?_⟩
      rintro _ _ ⟨rfl, rfl⟩
      exact ⟨_, rfl, Br.mk (fun _ => Br.mk (fun _ => aliveF tb (hl1.trans hl2)) (fun q => by simp at q)) (fun q => by cases q)⟩

theorem mixed_law (a b c : Nat) (ha : a < 4294967296) (hb : b < 4294967296) (hc : c < 65536) {h : Heap} (tb : Tab h) :
    CallsU Tryz.prog 9 [.int .u32 a, .int .u32 b, .int .u16 c] h fun v h' => v = .bool true ∧ Le h h' := by
  apply law04_MeasureMixed_ok
  unfold law04_MeasureMixed_vc
  rintro _ rfl _ rfl _ rfl _ rfl
  have t1 : Int.tmod (a : Int) 10000000 = ((a % 10000000 : Nat) : Int) := tmodN rfl rfl
  have t2 : Int.tmod (b : Int) 10000000 = ((b % 10000000 : Nat) : Int) := tmodN rfl rfl
  have t3 : Int.tmod (c : Int) 999 = ((c % 999 : Nat) : Int) := tmodN rfl rfl
  have hx : a % 10000000 ≤ 9999999 := by omega
  have hy : b % 10000000 ≤ 9999999 := by omega
  have hz : c % 999 ≤ 998 := by omega
  rw [t1, t2, t3]
  generalize a % 10000000 = x at *
  generalize b % 10000000 = y at *
  generalize c % 999 = z0 at *
  have w3 : IntKind.i64.wrap (1 + IntKind.i64.wrap ((z0 : Nat) : Int)) = ((z0 + 1 : Nat) : Int) := by
    rw [wi (n := z0) rfl (by omega)]
    exact wi (by omega) (by omega)
  rw [w3, wi (n := x) rfl (by omega), wi (n := y) rfl (by omega)]
  obtain ⟨z, hz1, hz2, ez⟩ : ∃ z, 1 ≤ z ∧ z ≤ 999 ∧ z0 + 1 = z := ⟨z0 + 1, by omega, by omega, rfl⟩
  rw [ez]
  have lx := dec_len (n := x) (k := 7) (by omega) (by decide)
  have ly := dec_len (n := y) (k := 7) (by omega) (by decide)
  have lz := dec_len (n := z) (k := 3) (by omega) (by decide)
  refine (ltext_c x (by omega) h).mono ?_
  rintro _ h1 ⟨rfl, hl1⟩
  refine ⟨_, rfl, ?_⟩
  rw [cmm, ba_append, ba_size, ba_size]
  refine ⟨by simp; omega, (parse_some (by simp; omega) (parse_whole hx) h1).mono ?_⟩
  rintro _ h2 ⟨s2, A2, n2, c2, B2, m2, d2, rfl, hN2, a2, b2, hl2⟩
  refine ⟨_, _, _, _, _, _, _, _, rfl, (ltext_c y (by omega) h2).mono ?_⟩
  rintro _ h3 ⟨rfl, hl3⟩
  refine ⟨_, rfl, by simp [ByteArray.size]; omega, (ltext_c z (by omega) h3).mono ?_⟩
  rintro _ h4 ⟨rfl, hl4⟩
  refine ⟨_, rfl, ?_⟩
  have e1 : ((⟨(Lib.decDigits y).toArray⟩ : ByteArray) ++ ⟨#[47]⟩ ++ ⟨(Lib.decDigits z).toArray⟩ ++ ⟨([109, 109] : List UInt8).toArray⟩) = ⟨(Lib.decDigits y ++ 47 :: Lib.decDigits z ++ [109, 109]).toArray⟩ := by
    rw [c47, ba_append, ba_append, ba_append]; simp
  rw [e1]
  refine ⟨by simp [ByteArray.size]; omega, by simp [ByteArray.size]; omega, (parse_some (by simp; omega) (parse_frac hy hz1 hz2) h4).mono ?_⟩
  rintro _ h5 ⟨s5, A5, n5, c5, B5, m5, d5, rfl, hN5, a5, b5, hl5⟩
  refine ⟨_, _, _, _, _, _, _, _, rfl, (ltext_c x (by omega) h5).mono ?_⟩
  rintro _ h6 ⟨rfl, hl6⟩
  refine ⟨_, rfl, by simp [ByteArray.size]; omega, (ltext_c y (by omega) h6).mono ?_⟩
  rintro _ h7 ⟨rfl, hl7⟩
  refine ⟨_, rfl, by simp [ByteArray.size]; omega, by simp [ByteArray.size]; omega, (ltext_c z (by omega) h7).mono ?_⟩
  rintro _ h8 ⟨rfl, hl8⟩
  refine ⟨_, rfl, ?_⟩
  have e2 : ((⟨(Lib.decDigits x).toArray⟩ : ByteArray) ++ ⟨#[32]⟩ ++ ⟨(Lib.decDigits y).toArray⟩ ++ ⟨#[47]⟩ ++ ⟨(Lib.decDigits z).toArray⟩ ++ ⟨([109, 109] : List UInt8).toArray⟩) = ⟨(Lib.decDigits x ++ 32 :: (Lib.decDigits y ++ 47 :: Lib.decDigits z) ++ [109, 109]).toArray⟩ := by
    rw [c47, c32, ba_append, ba_append, ba_append, ba_append, ba_append]; simp
  rw [e2]
  refine ⟨by simp [ByteArray.size]; omega, by simp [ByteArray.size]; omega, (parse_some (by simp; omega) (parse_mixed hx hy hz1 hz2) h8).mono ?_⟩
  rintro _ h9 ⟨s9, A9, n9, c9, B9, m9, d9, rfl, hN9, a9, b9, hl9⟩
  have l29 := ((((((hl3.trans hl4).trans hl5).trans hl6).trans hl7).trans hl8).trans hl9)
  have l59 := ((hl6.trans hl7).trans hl8).trans hl9
  have l09 := (hl1.trans hl2).trans l29
  refine ⟨_, _, _, _, _, _, _, _, rfl, fun t h' => t = false ∧ h9 = h', ?_, Br.mk (fun q => by cases q) (fun _ => Br.mk (fun q => by cases q) (fun _ => ⟨rfl, rfl⟩))⟩
  rintro _ _ ⟨rfl, rfl⟩
  refine Br.mk (fun q => by cases q) (fun _ => ?_)
  rintro _ rfl
  have w5 : IntKind.i64.wrap (100 * (x : Int)) = ((100 * x : Nat) : Int) := wi (by omega) (by omega)
  have w6 : IntKind.i64.wrap (100 * (y : Int)) = ((100 * y : Nat) : Int) := wi (by omega) (by omega)
  rw [w5]
  refine (rof_c _ 1 (by omega) (by omega) (by omega) (by omega) (by omega) h9).mono ?_
  rintro _ h10 ⟨s10, A10, n10, c10, B10, m10, d10, rfl, hN10, a10, b10, hl10⟩
  refine ⟨_, _, _, _, _, _, _, _, rfl, ?_⟩
  rintro _ rfl
  rw [w6]
  refine (rof_c _ _ (by omega) (by omega) (by omega) (by omega) (by omega) h10).mono ?_
  rintro _ h11 ⟨s11, A11, n11, c11, B11, m11, d11, rfl, hN11, a11, b11, hl11⟩
  have q1 : (x : Rat) * 100 = (((100 * x : Nat) : Int) : Rat) / ((1 : Int) : Rat) := by
    rw [Rat.intCast_natCast, Rat.natCast_mul, Rat.intCast_one]
    have : ((100 : Nat) : Rat) = 100 := rfl
    rw [this]; grind
  have q2 : (y : Rat) / (z : Rat) * 100 = (((100 * y : Nat) : Int) : Rat) / (((z : Nat) : Int) : Rat) := by
    rw [Rat.intCast_natCast, Rat.intCast_natCast, Rat.natCast_mul]
    have : ((100 : Nat) : Rat) = 100 := rfl
    rw [this]; grind
  have l911 := hl10.trans hl11
  refine ⟨_, _, _, _, _, _, _, _, rfl, (cmp_eq_c q1 ((hN2.mono l29).mono l911).is (hN10.mono hl11).is (by omega) (by omega) (by omega) (by omega)).mono ?_⟩
  rintro _ h12 ⟨rfl, hl12⟩
  refine ⟨_, rfl, Br.mk (fun _ => ?_) (fun q => by cases q)⟩
  refine (cmp_eq_c q2 (((hN5.mono l59).mono l911).mono hl12).is (hN11.mono hl12).is (by omega) (by omega) (by omega) (by omega)).mono ?_
  rintro _ h13 ⟨rfl, hl13⟩
  refine ⟨_, rfl, Br.mk (fun _ => ?_) (fun q => by cases q)⟩
  have l913 := (l911.trans hl12).trans hl13
  refine (radd_b ((hN2.mono l29).mono l913).is ((hN5.mono l59).mono l913).is (by omega) (by omega) (by omega) (by omega)).mono ?_
  rintro _ h14 ⟨s14, A14, n14, c14, B14, m14, d14, rfl, hN14, a14, b14, hl14⟩
  have q3 : ((x : Rat) + (y : Rat) / (z : Rat)) * 100 = (x : Rat) * 100 + (y : Rat) / (z : Rat) * 100 := by grind
  refine ⟨_, _, _, _, _, _, _, rfl, hl14, (cmp_eq_c q3 ((hN9.mono l913).mono hl14).is hN14.is (by omega) (by omega) (by omega) (by omega)).mono ?_⟩
  rintro _ h15 ⟨rfl, hl15⟩
  exact ⟨_, rfl, Br.mk (fun _ => aliveF tb (((l09.trans l913).trans hl14).trans hl15)) (fun q => by cases q)⟩
end Go.Proofs.YtccplhjglhdopaaGreatDoor

/-
  Contracts of the reference 04: small, decimals, Format.
-/
namespace Go.Proofs.YtccplhjglhdopaaGreatDoor
open Go Go.Vcg
attribute [local irreducible] Br

theorem rsmall_c04 {h : Heap} {s : Bool} {A : Option Addr} {n c k : Nat} (u : IsI h s A n c (k : Int)) (hn : n ≤ 1099511627776) (most : Nat) (hm : most ≤ 1000000000) :
    CallsU Tryz.prog 48 [.agg #[.bool s, .slice A n c], .int .i64 most] h fun r h' => ∃ z : Int, r = .tuple #[.int .i64 z, .bool (decide (k ≤ most))] ∧ (k ≤ most → z = k) ∧ Le h h' := by
  apply ref04_small_ok
  refine (r2small_c u hn).mono ?_
  rintro _ h1 ⟨rfl, hl1⟩
  refine ⟨_, _, rfl, ?_⟩
  cases hf : fitsZ (k : Int) with
  | false =>
    have : ¬ k ≤ most := fun q => by have := of_decide_eq_false hf; omega
    exact Br.mk (fun q => by cases q) (fun _ => ⟨_, by rw [decide_eq_false this], fun q => absurd q this, hl1⟩)
  | true =>
    simp only [if_true]
    refine Br.mk (fun _ => Br.mk (fun _ => ⟨_, ?_, fun _ => rfl, hl1⟩) (fun q => ?_)) (fun q => by cases q)
    · have e : decide ((k : Int) ≤ ((most : Nat) : Int)) = decide (k ≤ most) := by
        rw [Bool.eq_iff_iff, decide_eq_true_eq, decide_eq_true_eq]
        omega
      rw [e]
    · have := of_decide_eq_false q; omega

def decsV (d : Nat) : List UInt8 := if d = 0 then [] else 46 :: Lib.trimRightB ((Lib.decDigits (10000 + d)).drop 1) 48

theorem getD_last {p : List UInt8} {k : Nat} (hk : k < p.length) : p[k]? = some (p.getD k 0) := by rw [List.getD_eq_getElem?_getD, List.getElem?_eq_getElem hk]; rfl

theorem decimals_c (d : Nat) (hd : d < 10000) (h : Heap) : CallsU Tryz.prog 55 [.int .i64 d] h fun r h' => r = sv (decsV d) ∧ Le h h' := by
  apply ref04_decimals_ok
  unfold decsV
  refine Br.mk (fun q => ?_) (fun q => ?_)
  · have : d = 0 := by have := beq_iff_eq.1 q; omega
    rw [if_pos this]
    exact ⟨rfl, Le.refl _⟩
  · have hd0 : d ≠ 0 := by have := beq_eq_false_iff_ne.1 q; omega
    rw [if_neg hd0]
    rintro _ rfl
    have w1 : IntKind.i64.wrap (10000 + (d : Int)) = ((10000 + d : Nat) : Int) := wi (by omega) (by omega)
    rw [w1]
    refine (rtext_c04 (10000 + d) (by omega) h).mono ?_
    rintro _ h1 ⟨rfl, hl1⟩
    have lt := dec_len (n := 10000 + d) (k := 5) (by omega) (by decide)
    have hpos : 1 ≤ (Lib.decDigits (10000 + d)).length := by
      have := dec_ne (10000 + d)
      cases hh : Lib.decDigits (10000 + d) with
      | nil => exact absurd hh this
      | cons => simp
    refine ⟨_, rfl, by omega, by rw [ba_size]; omega, ?_⟩
    rw [ba_drop, drop_one d hd, c46, ba_append, ba_size, ba_size]
    obtain ⟨p1, p2, p3⟩ := padK_ok 4 d (by omega)
    generalize padK 4 d = p at *
    refine ⟨by simp; omega, ?_⟩
    refine ⟨fun m s h' => h1 = h' ∧ m ≤ 4 ∧ s = ⟨([46] ++ p.take m).toArray⟩ ∧ ∀ j, m ≤ j → j < 4 → p.getD j 0 = 48, ⟨4, rfl, by omega, by rw [← p1, List.take_length], fun j h1 h2 => by omega⟩, ?_⟩
    rintro m _ _ ⟨rfl, hm, rfl, hz⟩
    rintro _ rfl
    have hm0 : m ≠ 0 := by
      rintro rfl
      have hall : p = List.replicate 4 48 := by
        rw [List.eq_replicate_iff]
        refine ⟨p1, fun y hy => ?_⟩
        obtain ⟨j, hj⟩ := List.getElem?_of_mem hy
        have hjl : j < p.length := (List.getElem?_eq_some_iff.1 hj).1
        have := hz j (by omega) (by omega)
        rw [getD_last hjl] at hj
        rw [← Option.some.inj hj, this]
      rw [hall, dgV_zeros] at p3
      omega
    have hsz : (⟨([46] ++ p.take m).toArray⟩ : ByteArray).size = m + 1 := by rw [ba_size]; simp; omega
    rw [hsz]
    have w2 : IntKind.i64.wrap (((m + 1 : Nat) : Int) - 1) = (m : Int) := wi (by omega) (by omega)
    rw [w2]
    simp only [Int.toNat_natCast]
    have hget : ([46] ++ p.take m)[m]? = some (p.getD (m - 1) 0) := by
      rw [List.getElem?_append_right (by simp; omega)]
      simp only [List.length_cons, List.length_nil, Nat.zero_add]
      rw [List.getElem?_take_of_lt (by omega), getD_last (by omega)]
    refine ⟨_, by omega, by rw [ba_get]; exact hget, Br.mk (fun q2 => ?_) (fun q2 => ?_)⟩
    · have h48 : p.getD (m - 1) 0 = 48 := UInt8.toNat_inj.1 (by have := beq_iff_eq.1 q2; show _ = 48; omega)
      rintro _ rfl
      simp only [Int.toNat_natCast]
      refine ⟨by omega, by omega, m - 1, by omega, by first | rfl | trivial, by omega, ?_, fun j h1 h2 => ?_⟩
      · rw [ba_take]
        congr 2
        obtain ⟨k, rfl⟩ : ∃ k, m = k + 1 := ⟨m - 1, by omega⟩
        simp only [Nat.add_sub_cancel, List.cons_append, List.nil_append, List.take_succ_cons, List.take_take]
        rw [Nat.min_eq_left (by omega)]
      · rcases Nat.lt_or_ge j m with q | q
        · have : j = m - 1 := by omega
          rw [this]; exact h48
        · exact hz j q h2
    · refine ⟨?_, hl1⟩
      have : Lib.trimRightB p 48 = p.take m := by
        refine Lib.trimRightB_take p 48 m (by omega) (fun j b hj hb => ?_) (fun b _ hb e => ?_)
        · have hjl : j < p.length := (List.getElem?_eq_some_iff.1 hb).1
          rw [getD_last hjl] at hb
          rw [← Option.some.inj hb]
          exact hz j hj (by omega)
        · rw [getD_last (by omega)] at hb
          have := Option.some.inj hb
          rw [this, e] at q2
          cases q2
      rw [this]
      rfl

/-! ### the reference's numbers -/
theorem rest_mk {w : Rat} (hw : 0 ≤ w.num) : w - (((w.num.natAbs / w.den : Nat) : Int) : Rat) = mkRat ((w.num.natAbs % w.den : Nat) : Int) w.den := by
  rw [sub_mk]
  congr 1
  have h1 := Nat.div_add_mod w.num.natAbs w.den
  have h2 : w.num = ((w.num.natAbs : Nat) : Int) := by omega
  have h3 : ((w.num.natAbs : Nat) : Int) = ((w.den * (w.num.natAbs / w.den) + w.num.natAbs % w.den : Nat) : Int) := by rw [h1]
  rw [Int.natCast_add, Int.natCast_mul] at h3
  rw [Int.mul_comm ((w.num.natAbs / w.den : Nat) : Int)]
  omega

theorem mk_red {r D : Nat} (hD : D ≠ 0) (hg : Nat.gcd r D = 1) : (mkRat (r : Int) D).num = r ∧ (mkRat (r : Int) D).den = D := by
  obtain ⟨e1, e2⟩ := mkRat_num (z := (r : Int)) hD
  have hs := mkRat_sign (z := (r : Int)) hD
  rw [Int.natAbs_natCast, hg, Nat.div_one] at e1 e2
  refine ⟨?_, e2⟩
  have : ¬ (mkRat (r : Int) D).num < 0 := fun q => by have := hs.1 q; omega
  omega

theorem tenth_mk {r D : Nat} : mkRat (r : Int) D * ((10000 : Int) : Rat) = mkRat ((r * 10000 : Nat) : Int) D := by
  rw [Rat.mkRat_eq_div, Rat.mkRat_eq_div, Int.natCast_mul, Rat.intCast_mul]
  have : (((10000 : Nat) : Int) : Rat) = ((10000 : Int) : Rat) := rfl
  rw [this]
  grind

theorem tenth_one {k D : Nat} (hD : D ≠ 0) : (mkRat (k : Int) D).den = 1 ↔ k % D = 0 := by
  obtain ⟨e1, e2⟩ := mkRat_num (z := (k : Int)) hD
  rw [Int.natAbs_natCast] at e2
  rw [e2]
  have hg := Nat.gcd_dvd_right k D
  have hgp : 0 < Nat.gcd k D := Nat.gcd_pos_of_pos_right _ (by omega)
  constructor
  · intro h
    have h1 := Nat.div_mul_cancel hg
    rw [h, Nat.one_mul] at h1
    have h2 := Nat.gcd_dvd_left k D
    rw [h1] at h2
    exact Nat.mod_eq_zero_of_dvd h2
  · intro h
    have : Nat.gcd k D = D := Nat.gcd_eq_right (Nat.dvd_of_mod_eq_zero h)
    rw [this, Nat.div_self (by omega)]

theorem tenth_num {k D : Nat} (hD : D ≠ 0) (h : k % D = 0) : (mkRat (k : Int) D).num = ((k / D : Nat) : Int) := by
  obtain ⟨e1, e2⟩ := mkRat_num (z := (k : Int)) hD
  have hs := mkRat_sign (z := (k : Int)) hD
  have : Nat.gcd k D = D := Nat.gcd_eq_right (Nat.dvd_of_mod_eq_zero h)
  rw [Int.natAbs_natCast, this] at e1
  have : ¬ (mkRat (k : Int) D).num < 0 := fun q => by have := hs.1 q; omega
  omega

theorem rformat_c {h : Heap} {s : Bool} {A B : Option Addr} {n c m d : Nat} {q : Rat} (u : IsQ h s A n c B m d q) (hn : n ≤ 1000000) (hm : m ≤ 1000000) :
    CallsU Tryz.prog 17 [.agg #[.bool s, .slice A n c, .slice B m d]] h fun r h' => r = fmtR q ∧ Le h h' := by
  apply ref04_Format_ok
  refine (whole_c 100 (by omega) (by omega) h).mono ?_
  rintro _ h1 ⟨s1, A1, n1, c1, B1, m1, d1, rfl, hN1, a1, b1, hl1⟩
  refine ⟨_, _, _, _, _, _, _, rfl, hl1, (r3div_c (u.mono hl1) hN1.is (by decide +kernel) (by omega) (by omega) (by omega) (by omega)).mono ?_⟩
  rintro _ h2 ⟨s2, A2, n2, c2, B2, m2, d2, rfl, hN2, a2, b2, hl2⟩
  have ev : q / ((100 : Int) : Rat) = q * ((1 : Rat) / 100) := by
    have : ((100 : Int) : Rat) = 100 := rfl
    rw [this]; grind
  rw [ev] at hN2
  have hf : fmtR q = match (bodyF (q * ((1 : Rat) / 100)).num.natAbs (q * ((1 : Rat) / 100)).den).map fun t => sgL (decide ((q * ((1 : Rat) / 100)).num < 0)) ++ (t ++ [109, 109]) with
    | some t => .tuple #[sv t, .int .i64 0]
    | none => .tuple #[sv [], .int .i64 3] := rfl
  rw [hf]
  generalize q * ((1 : Rat) / 100) = v at *
  have hl02 := hl1.trans hl2
  refine ⟨_, _, _, _, _, _, _, _, rfl, fun sg s' A' n' c' B' m' d' h' => ∃ w : Rat, sg = ⟨(sgL (decide (v.num < 0))).toArray⟩ ∧ NmQ h' s' A' n' c' B' m' d' w ∧ w.num = (v.num.natAbs : Int) ∧ w.den = v.den ∧ n' ≤ 2000000 ∧ m' ≤ 2000000 ∧ Le h h', ?_, ?_⟩
  · rintro _ s3 A3 n3 c3 B3 m3 d3 h3 ⟨w, rfl, hw, e1, e2, b3, b4, hl3⟩
    have hD0 : v.den ≠ 0 := v.den_nz
    have hcop : Nat.gcd v.num.natAbs v.den = 1 := v.reduced
    have hna : w.num.natAbs = v.num.natAbs := by rw [e1]; simp
    have hw0 : 0 ≤ w.num := by omega
    have hrm := rest_mk hw0
    rw [hna, e2] at hrm
    have hcop2 : Nat.gcd (v.num.natAbs % v.den) v.den = 1 := by
      rw [← hcop, Nat.gcd_comm v.num.natAbs, Nat.gcd_rec v.den, ]
    have hrl : v.num.natAbs % v.den < v.den := Nat.mod_lt _ (by omega)
    have hfl : ((w.num.natAbs / w.den : Nat) : Int) = ((v.num.natAbs / v.den : Nat) : Int) := by rw [hna, e2]
    have hls : (sgL (decide (v.num < 0))).length ≤ 1 := by unfold sgL; split <;> simp
    refine (r3floor_c hw.is hw0 (by omega) (by omega)).mono ?_
    rintro _ h4 ⟨s4, A4, k4, c4, rfl, hN4, a4, hl4⟩
    rw [hfl] at hN4
    clear hfl
    generalize hSG : sgL (decide (v.num < 0)) = sg at *
    generalize v.num.natAbs = N at *
    generalize v.den = D at *
    refine ⟨_, _, _, _, rfl, (rsmall_c04 hN4.is (by omega) 9999999 (by omega)).mono ?_⟩
    rintro _ h5 ⟨z, rfl, hz, hl5⟩
    have l05 := (hl3.trans hl4).trans hl5
    refine ⟨_, _, rfl, Br.mk (fun q1 => ?_) (fun q1 => ?_)⟩
    · have : ¬ N / D ≤ 9999999 := of_decide_eq_false (by simpa using q1)
      have e : bodyF N D = none := by rw [bodyF, if_pos (by omega)]
      rw [e]
      exact ⟨rfl, l05⟩
    · have hq : N / D ≤ 9999999 := of_decide_eq_true (by simpa using q1)
      have q1' : ¬ 9999999 < N / D := by omega
      have ez := hz hq
      subst ez
      have lq := dec_len (n := N / D) (k := 7) (by omega) (by decide)
      have hK0 : (0 : Int) ≤ ((N / D : Nat) : Int) := Int.natCast_nonneg _
      have hK1 : ((N / D : Nat) : Int) ≤ 9999999 := Int.ofNat_le.2 hq
      refine (whole_c _ (by omega) (by omega) h5).mono ?_
      rintro _ h6 ⟨s6, A6, n6, c6, B6, m6, d6, rfl, hN6, a6, b6, hl6⟩
      refine ⟨_, _, _, _, _, _, _, rfl, hl6, (r3sub_c ((hw.mono (hl4.trans hl5)).mono hl6).is hN6.is (by omega) (by omega) (by omega) (by omega)).mono ?_⟩
      rintro _ h7 ⟨s7, A7, n7, c7, B7, m7, d7, rfl, hN7, a7, b7, hl7⟩
      rw [hrm] at hN7
      obtain ⟨er1, er2⟩ := mk_red hD0 hcop2
      have hrest : NmI h7 s7 A7 n7 c7 ((N % D : Nat) : Int) ∧ NmN h7 B7 m7 d7 D := by
        have := hN7
        unfold NmQ at this
        rw [er1, er2] at this
        exact this
      refine ⟨_, _, _, _, _, _, _, rfl, (whole_c 10000 (by omega) (by omega) h7).mono ?_⟩
      rintro _ h8 ⟨s8, A8, n8, c8, B8, m8, d8, rfl, hN8, a8, b8, hl8⟩
      refine ⟨_, _, _, _, _, _, _, rfl, hl8, (r3mul_c (hN7.mono hl8).is hN8.is (by omega) (by omega) (by omega) (by omega)).mono ?_⟩
      rintro _ h9 ⟨s9, A9, n9, c9, B9, m9, d9, rfl, hN9, a9, b9, hl9⟩
      rw [tenth_mk] at hN9
      refine ⟨_, _, _, _, _, _, _, rfl, (r1of_c 1 (by omega) h9).mono ?_⟩
      rintro _ h10 ⟨A10, n10, c10, rfl, a10, hN10, hl10⟩
      refine ⟨_, _, _, rfl, hl10, (r1cmp_c (hN9.2.mono hl10).is hN10.is (by omega) (by omega)).mono ?_⟩
      rintro _ _ ⟨rfl, rfl⟩
      have l010 := ((((l05.trans hl6).trans hl7).trans hl8).trans hl9).trans hl10
      have l710 := (hl8.trans hl9).trans hl10
      have hone := tenth_one (k := N % D * 10000) hD0
      refine ⟨_, rfl, Br.mk (fun q2 => ?_) (fun q2 => ?_)⟩
      · have hden : (mkRat ((N % D * 10000 : Nat) : Int) D).den = 1 := by
          have := beq_iff_eq.1 q2
          unfold cmpI at this
          split at this
          · cases this
          · split at this
            · cases this
            · omega
        have hmod := hone.1 hden
        have hnum := tenth_num hD0 hmod
        have hdlt : N % D * 10000 / D < 10000 := by
          rw [Nat.div_lt_iff_lt_mul (by omega), Nat.mul_comm]
          exact Nat.mul_lt_mul_of_pos_left hrl (by decide)
        have hN9' := (hN9.1.mono hl10)
        rw [hnum] at hN9'
        refine (rsmall_c04 hN9'.is (by omega) 9999 (by omega)).mono ?_
        rintro _ h11 ⟨z2, rfl, hz2, hl11⟩
        have ez2 := hz2 (by omega)
        subst ez2
        refine ⟨_, _, rfl, (rtext_c04 (N / D) (by omega) h11).mono ?_⟩
        rintro _ h12 ⟨rfl, hl12⟩
        refine ⟨_, rfl, by rw [ba_size, ba_size]; omega, (decimals_c _ hdlt h12).mono ?_⟩
        rintro _ h13 ⟨rfl, hl13⟩
        have hle := ((l010.trans hl11).trans hl12).trans hl13
        have ebody : bodyF N D = some (Lib.decDigits (N / D) ++ decsV (N % D * 10000 / D)) := by
          unfold decsV
          by_cases hr0 : N % D = 0
          · rw [bodyF, if_neg q1', if_pos hr0, hr0, Nat.zero_mul, Nat.zero_div, if_pos rfl, List.append_nil]
          · have hd0 : N % D * 10000 / D ≠ 0 := fun e => by
              have := Nat.div_add_mod (N % D * 10000) D
              rw [e, hmod] at this
              omega
            rw [bodyF, if_neg q1', if_neg hr0, if_pos hmod, if_neg hd0]
        have ldec : (decsV (N % D * 10000 / D)).length ≤ 5 := by
          unfold decsV
          split
          · simp
          · obtain ⟨k, hk⟩ := trimR_split ((Lib.decDigits (10000 + N % D * 10000 / D)).drop 1)
            have := congrArg List.length hk
            have l5 := dec_len (n := 10000 + N % D * 10000 / D) (k := 5) (by omega) (by decide)
            rw [List.length_append, List.length_drop] at this
            simp only [List.length_cons]
            omega
        rw [ebody]
        refine ⟨_, rfl, ?_⟩
        rw [cmm, ba_append, ba_append, ba_append, ba_size, ba_size, ba_size, ba_size]
        refine ⟨by simp; omega, by simp; omega, ?_, hle⟩
        simp
      · have hden : (mkRat ((N % D * 10000 : Nat) : Int) D).den ≠ 1 := fun e => by
          have := beq_eq_false_iff_ne.1 q2
          apply this
          rw [e]
          rfl
        have hmod : ¬ N % D * 10000 % D = 0 := fun e => hden (hone.2 e)
        have hr0 : ¬ N % D = 0 := fun e => hmod (by rw [e]; simp)
        refine (rsmall_c04 (s := false) (k := D) ⟨_, (hrest.2.mono l710).is, rfl⟩ (by omega) 999 (by omega)).mono ?_
        rintro _ h11 ⟨z2, rfl, hz2, hl11⟩
        refine ⟨_, _, rfl, Br.mk (fun q3 => ?_) (fun q3 => ?_)⟩
        · have : ¬ D ≤ 999 := of_decide_eq_false (by simpa using q3)
          have e : bodyF N D = none := by rw [bodyF, if_neg q1', if_neg hr0, if_neg hmod, if_pos (by omega)]
          rw [e]
          exact ⟨rfl, l010.trans hl11⟩
        · have hD9 : D ≤ 999 := of_decide_eq_true (by simpa using q3)
          have ez2 := hz2 hD9
          subst ez2
          refine (rsmall_c04 ((hrest.1.mono l710).mono hl11).is (by omega) 999 (by omega)).mono ?_
          rintro _ h12 ⟨z3, rfl, hz3, hl12⟩
          have ez3 := hz3 (by omega)
          subst ez3
          have lr := dec_len (n := N % D) (k := 3) (by omega) (by decide)
          have lD := dec_len (n := D) (k := 3) (by omega) (by decide)
          refine ⟨_, _, rfl, (rtext_c04 (N % D) (by omega) h12).mono ?_⟩
          rintro _ h13 ⟨rfl, hl13⟩
          refine ⟨_, rfl, by simp [ByteArray.size]; omega, (rtext_c04 D (by omega) h13).mono ?_⟩
          rintro _ h14 ⟨rfl, hl14⟩
          have hle := (((l010.trans hl11).trans hl12).trans hl13).trans hl14
          have e : bodyF N D = some (if N / D = 0 then Lib.decDigits (N % D) ++ 47 :: Lib.decDigits D else Lib.decDigits (N / D) ++ 32 :: (Lib.decDigits (N % D) ++ 47 :: Lib.decDigits D)) := by rw [bodyF, if_neg q1', if_neg hr0, if_neg hmod, if_neg (by omega)]
          rw [e]
          refine ⟨_, rfl, by simp [ByteArray.size]; omega, by simp [ByteArray.size]; omega, Br.mk (fun q4 => ?_) (fun q4 => ?_)⟩
          · have h0 : N / D ≠ 0 := by have := of_decide_eq_true q4; omega
            rw [if_neg h0]
            refine (rtext_c04 (N / D) (by omega) h14).mono ?_
            rintro _ h15 ⟨rfl, hl15⟩
            refine ⟨_, rfl, by simp [ByteArray.size]; omega, by simp [ByteArray.size]; omega, by simp [ByteArray.size]; omega, ?_, hle.trans hl15⟩
            rw [c47, c32, cmm, ba_append, ba_append, ba_append, ba_append, ba_append, ba_append]
            simp
          · have h0 : N / D = 0 := by have := of_decide_eq_false q4; omega
            rw [if_pos h0]
            refine ⟨by simp [ByteArray.size]; omega, ?_, hle⟩
            rw [c47, cmm, ba_append, ba_append, ba_append, ba_append]
            simp
  · refine (r3sign_c hN2.is (by omega) (by omega)).mono ?_
    rintro _ h3 ⟨k, rfl, hk, hl3⟩
    refine ⟨_, rfl, Br.mk (fun q1 => ?_) (fun q1 => ?_)⟩
    · have hneg : v.num < 0 := hk.1 (of_decide_eq_true q1)
      refine (r3neg_c (hN2.mono hl3).is (by omega) (by omega)).mono ?_
      rintro _ h4 ⟨s4, A4, n4, c4, B4, m4, d4, rfl, hN4, a4, b4, hl4⟩
      refine ⟨_, _, _, _, _, _, _, rfl, -v, ?_, hN4, by rw [Rat.neg_num]; omega, Rat.neg_den v, by omega, by omega, (hl02.trans hl3).trans hl4⟩
      rw [decide_eq_true hneg]; rfl
    · have hneg : ¬ v.num < 0 := fun q => of_decide_eq_false q1 (hk.2 q)
      refine ⟨v, ?_, hN2.mono hl3, by omega, rfl, by omega, by omega, hl02.trans hl3⟩
      rw [decide_eq_false hneg]; rfl
end Go.Proofs.YtccplhjglhdopaaGreatDoor

/-
  The law of chapter 04: Formats.
-/
namespace Go.Proofs.YtccplhjglhdopaaGreatDoor
open Go Go.Vcg
attribute [local irreducible] Br

theorem rformat_gen {h : Heap} {s : Bool} {A B : Option Addr} {n c m d : Nat} {q : Rat} (u : IsQ h s A n c B m d q) (hn : n ≤ 1000000) (hm : m ≤ 1000000) :
    CallsU Tryz.prog 17 [.agg #[.bool s, .slice A n c, .slice B m d]] h fun r h' => ∃ t e, r = .tuple #[sv t, .int .i64 e] ∧ ((formatV q = some t ∧ e = 0) ∨ (formatV q = none ∧ t = [] ∧ e = 3)) ∧ Le h h' := by
  refine (rformat_c u hn hm).mono ?_
  rintro _ h1 ⟨rfl, hl1⟩
  cases hf : formatV q with
  | none => rw [fmtR_none hf]; exact ⟨_, _, rfl, Or.inr ⟨rfl, rfl, rfl⟩, hl1⟩
  | some t => rw [fmtR_some hf]; exact ⟨_, _, rfl, Or.inl ⟨rfl, rfl⟩, hl1⟩

theorem formats_law {h : Heap} {s : Bool} {A B : Option Addr} {n c m d : Nat} {x : Rat} (u : IsQ h s A n c B m d x) (tb : Tab h) :
    CallsU Tryz.prog 4 [.agg #[.bool s, .slice A n c, .slice B m d]] h fun v h' => v = .bool true ∧ Le h h' := by
  apply law04_MeasureFormats_ok
  refine (light_c s A B n c m d 24 h).mono ?_
  rintro _ _ ⟨rfl, rfl⟩
  refine ⟨_, rfl, Br.mk (fun _ => aliveF tb (Le.refl _)) (fun q => ?_)⟩
  have hnm : n ≤ 24 ∧ m ≤ 24 := of_decide_eq_true (by simpa using q)
  refine (format_gen u (by omega) (by omega) tb).mono ?_
  rintro _ h1 ⟨t1, e1, rfl, hf1, hl1⟩
  refine ⟨_, _, rfl, (rformat_gen (u.mono hl1) (by omega) (by omega)).mono ?_⟩
  rintro _ h2 ⟨t2, e2, rfl, hf2, hl2⟩
  have et : t1 = t2 ∧ e1 = e2 := by
    rcases hf1 with ⟨f1, rfl, _⟩ | ⟨f1, rfl, rfl⟩ <;> rcases hf2 with ⟨f2, rfl⟩ | ⟨f2, rfl, rfl⟩ <;> rw [f1] at f2 <;> cases f2 <;> exact ⟨rfl, rfl⟩
  obtain ⟨rfl, rfl⟩ := et
  exact ⟨_, _, rfl, Br.mk (fun _ => Br.mk (fun _ => aliveF tb (hl1.trans hl2)) (fun q => by simp at q)) (fun q => by simp at q)⟩
end Go.Proofs.YtccplhjglhdopaaGreatDoor
