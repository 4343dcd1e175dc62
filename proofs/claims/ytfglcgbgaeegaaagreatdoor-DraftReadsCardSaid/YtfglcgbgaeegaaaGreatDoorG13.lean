/-
 Gathered texts of this proof: Fin1, Fin2, Fin3, Fin4, CloDraftReads.
-/
import Derived.Test.YtfglcgbgaeegaaaGreatDoorG03
import Derived.Test.YtfglcgbgaeegaaaGreatDoorRows
import Derived.ProofKit
import Derived.LaidMore
import Derived.OpenShut
import Derived.Stop.Joined
import Derived.Below
import Derived.ChangeSame
import Derived.Carry
import Derived.WideKeyArgs
import Derived.SevenTiedAt
import Derived.Test.YtfglcgbgaeegaaaGreatDoorG08
import Derived.ChangeSlices
import Derived.ChangeMaps5
import Derived.MakeChecks
import Derived.Stop.LaidErr
import Derived.Lib.SmallJoins
import Derived.Test.YtfglcgbgaeegaaaGreatDoorG10
import Derived.Deep.Strs
import Derived.DataReads
import Derived.Test.YtfglcgbgaeegaaaGreatDoorG11
import Derived.JoinedOf

namespace Go.Proofs.YtfglcgbgaeegaaaGreatDoor
open Go Go.Vcg Go.RowKit Go.WideShapes Go.ChangeShapes
def full (W : World) : Heap := fun k =>
 match W.heap[k]? with
 | some (.cells cs ty fz) => bif plainB ⟨cs.toList, ty, fz⟩ then some ⟨cs.toList, ty, fz⟩ else none
 | _ => none
theorem full_sat (W : World) : Sat (full W) W := by
 intro k b hb
 unfold full at hb
 split at hb
 ·rename_i cs ty fz e
  cases hp : plainB ⟨cs.toList, ty, fz⟩ with
  | false => rw [hp] at hb; cases hb
  | true =>
   rw [hp] at hb
   cases hb
   exact .mk' hp (by rw [e])
 ·cases hb
theorem calls_full {P : Program} {f : FuncId} {args : List Value} {W : World} (c : CallsU P f args (full W) fun v h' => v = .bool true /\ Le (full W) h') :
  Calls P f args.toArray W fun e W' => e = .returned (.bool true) /\ Below W.heap.size W W' := by
 refine (c.2 W (full_sat W)).mono ?_
 rintro e W' ⟨v, h', rfl, ⟨rfl, hl⟩, hs, fr⟩
 refine ⟨rfl, ⟨fr.os, fr.tape, fr.output, fr.size, fun k hk => ?_⟩⟩
 cases e : full W k with
 | none => exact (fr.keep k hk e).2
 | some b =>
  have hp : plainB b = true := by
   unfold full at e
   split at e
   ·rename_i cs ty fz _
    cases hp : plainB ⟨cs.toList, ty, fz⟩ with
    | false => rw [hp] at e; cases e
    | true => rw [hp] at e; cases e; exact hp
   ·cases e
  rw [(hs k b (hl k b e)).cells hp, (full_sat W k b e).cells hp]
section
variable {H : Type} {enc : TypeId × Value -> H} {P : Program}
theorem trodAll_below (hl : laidOutB P = true) {W W' : World} (hb : Below W.heap.size W W') {sp : Nat -> Bool} :
  ∀ {ts : List TypeId} {vs : List Value} {ds : List (DataW H)} {ps : List MemPlace}, (ts.all fun t => P.readableRec t && decide (t < P.types.size)) = true ->
   DataW.TrodAll enc P W 0 (fun _ => true) true ts vs ds ps -> (∀ p ∈ ps, sp p.block = true) -> DataW.TrodAll enc P W' 0 sp true ts vs ds ps
 | [], [], [], _, _, h, _ => h
 | [], [], _ :: _, _, _, h, _ => h.elim
 | [], _ :: _, _, _, _, h, _ => h.elim
 | _ :: _, [], _, _, _, h, _ => h.elim
 | _ :: _, _ :: _, [], _, _, h, _ => h.elim
 | t :: ts, v :: vs, d :: ds, ps, hr, h, hsp => by
  have hlt := h.lt
  obtain ⟨p, q, h1, h2, rfl⟩ := h
  simp only [List.all_cons, Bool.and_eq_true, decide_eq_true_eq] at hr
  exact ⟨p, q, WideElems.Trod_stays hl hr.1.1 hr.1.2 h1 (fun x hx => hb.same (hlt x (by simp [hx]))) (fun x hx => hsp x (by simp [hx])),
   trodAll_below hl hb (by simpa using hr.2) h2 fun x hx => hsp x (by simp [hx]), rfl⟩
theorem law_post {fn : Func} {s : ChangeSpec} {apart fresh handsOn : Bool} {W W' : World} {args : Array Value} {ds : List (DataW H)} {before : List MemPlace} {tb : TypeId} (hl : laidOutB P = true) (hv : s.vars = [])
  (hW : DataW.Whole enc P fn.params.toList s.vars apart W args.toList ds [] before) (hr : fn.resultTypes = #[tb]) (htb : P.underlying tb = some .bool)
  (hread : (fn.params.toList.all fun t => P.readableRec t && decide (t < P.types.size)) = true)
  (hspec : s.fn H ds = { results := [.lit (.bool true)], args := ds }) (hb : Below W.heap.size W W') :
  s.post enc P fn apart fresh handsOn false W args (.bool true) W' := by
 have hlt : ∀ p ∈ before, p.block < W.heap.size := fun p hp => hW.lt p hp
 have hW' := hW
 obtain ⟨p, q, hA, hV, e, _, _⟩ := hW
 rw [hv] at hV
 have eq : q = [] := hV
 subst eq
 rw [List.append_nil] at e
 subst e
 refine ⟨ds, [], before, [], before, [], hW', ?_, ?_, ?_, World.keptBut_mono (fun p hp => ⟨hp, Or.inr (Or.inl hp)⟩) (hb.frame (· ∈ before)), fun h => by cases h⟩
 ·rw [List.append_nil, hspec, hr]
  exact trodAll_mk1 (shut_bool htb true)
 ·rw [List.append_nil, hspec]
  exact trodAll_below hl hb hread hA fun x hx => by simpa using hlt x hx
 ·rw [List.append_nil, hspec, hv]
  rfl
end
theorem own : ownKnob Tryz.prog.godebug = none := by kernel_rfl
theorem laidOut : laidOutB Tryz.prog = true := by kernel_rfl
section
variable {H : Type} {enc : TypeId × Value -> H}
theorem trodAll_len {P : Program} {w : World} {b : Nat} {sp : Nat -> Bool} {hd : Bool} : ∀ {ts : List TypeId} {vs : List Value} {ds : List (DataW H)} {ps : List MemPlace}, DataW.TrodAll enc P w b sp hd ts vs ds ps -> ds.length = ts.length
 | [], [], [], _, _ => rfl
 | [], [], _ :: _, _, h => h.elim
 | [], _ :: _, _, _, h => h.elim
 | _ :: _, [], _, _, h => h.elim
 | _ :: _, _ :: _, [], _, h => h.elim
 | _ :: _, _ :: _, _ :: _, _, h => by
  obtain ⟨p, q, _, h2, _⟩ := h
  simp [trodAll_len h2]
set_option maxRecDepth 100000 in
theorem lifted_of {f : FuncId} {fn : Func} {s : ChangeSpec} {laid : List (String × DataW Unit)} {tb : TypeId} {os : Os} (started : os.Started) (noInit : Tryz.prog.inits.idxOf? f = none) (hfn : Tryz.prog.funcs[f]? = some fn)
  (witness : ∃ (w : World) (tape : Tape) (i : Input), w.os = os /\ (w.forCall tape i).Shaped Tryz.checked.prog /\ i.vars = [] /\ Input.okWide Tryz.checked.prog (w.forCall tape i) .any w.heap.size f i /\
   ((s.pre enc Tryz.checked.prog fn [] false (w.forCall tape i).memory i.args /\ laidMetH Tryz.prog laid (w.forCall tape i).memory) /\ sizedMet enc Tryz.checked.prog fn (OpenSpec.ofChange s) false (w.forCall tape i).memory i.args) /\ ({} : Assume).holds Tryz.checked.prog (lone (Frame.enter Tryz.checked.prog f i.args .normal) [] (w.forCall tape i)))
  (hv : s.vars = []) (hr : fn.resultTypes = #[tb]) (htb : Tryz.prog.underlying tb = some .bool)
  (hread : (fn.params.toList.all fun t => Tryz.prog.readableRec t && decide (t < Tryz.prog.types.size)) = true)
  (hspec : ∀ ds : List (DataW H), ds.length = fn.params.toList.length -> s.fn H ds = { results := [.lit (.bool true)], args := ds })
  (hcall : ∀ (W : World) (base : Nat) (args : Array Value) (ds : List (DataW H)) (p : List MemPlace), (∀ (j : Nat) t v, fn.params[j]? = some t -> args[j]? = some v -> Value.okWide Tryz.prog W .any base t v) ->
   DataW.TrodAll enc Tryz.prog W 0 (fun _ => true) true fn.params.toList args.toList ds p -> (DataW.weightsEach Tryz.prog fn.params.toList ds).all (· <= reachBytes) = true -> laidMetH Tryz.prog laid W ->
   CallsU Tryz.prog f args.toList (full W) fun v h' => v = .bool true /\ Le (full W) h') :
  ReturnsInHanded {} Tryz.checked os f .any (fun w args => (s.pre enc Tryz.prog fn [] false w args /\ laidMetH Tryz.prog laid w) /\ sizedMet enc Tryz.prog fn (OpenSpec.ofChange s) false w args)
   (s.post enc Tryz.prog fn false true false false) := by
 refine returnsInHanded_of_change_and (C := Tryz.checked) (X := fun w _ => laidMetH Tryz.prog laid w) (fun _ _ _ hh h => h.of_heap hh) own started noInit hfn witness ?_
 intro W base args ds gs before hval hW _ hsz hL _
 have hW' := hW
 obtain ⟨p, q, hA, hV, e, _, _⟩ := hW
 rw [hv] at hV
 have hgs : gs = [] := by
  cases gs with
  | nil => rfl
  | cons g r => exact hV.elim
 subst hgs
 have hvt : s.plain.varTypes Tryz.checked.prog = [] := by
  unfold DataSpec.varTypes
  show List.filterMap _ s.vars = []
  rw [hv]
  rfl
 rw [hvt, List.append_nil, List.append_nil] at hsz
 have hc := calls_full (hcall W base args ds p hval hA hsz hL)
 rw [Array.toArray_toList] at hc
 refine hc.mono ?_
 rintro e W' ⟨rfl, hb⟩
 exact ⟨_, rfl, law_post laidOut hv hW' hr htb hread (hspec ds (trodAll_len hA)) hb⟩
end
end Go.Proofs.YtfglcgbgaeegaaaGreatDoor

namespace Go.Proofs.YtfglcgbgaeegaaaGreatDoor
open Go Go.Vcg Go.RowKit Go.WideShapes Go.ChangeShapes Go.Joins Go.MakeChecks
theorem wf32 {z : Int} (h : (Lit.int .u32 z).wf = true) : 0 <= z /\ z < 4294967296 := by
 unfold Lit.wf at h
 simp only [Bool.and_eq_true, decide_eq_true_eq] at h
 have e1 : IntKind.u32.min = 0 := by decide
 have e2 : IntKind.u32.max = 4294967295 := by decide
 omega
theorem full_of {W : World} {k : Nat} {cs : Array Value} {ty : TypeId} {fz : Nat × Nat} (h : W.heap[k]? = some (.cells cs ty fz)) (hp : 0 < cs.size) : full W k = some ⟨cs.toList, ty, fz⟩ := by
 unfold full
 rw [h]
 have : plainB ⟨cs.toList, ty, fz⟩ = true := by
  unfold plainB
  have : cs.toList.isEmpty = false := by
   cases hc : cs.toList with
   | nil => rw [<- Array.length_toList, hc] at hp; simp at hp
   | cons => rfl
  rw [this]; rfl
 simp only [this, cond_true]
theorem tab_laid {x y : String × DataW Unit} {rest : List (String × DataW Unit)} {W : World} (hp : ((x :: y :: ("internal/strconv.uint64pow10", Lib.tabData .u64 Lib.pow10Tab) :: rest).all fun x => x.2.handleName?.isNone) = true)
  (h : laidMetH Tryz.prog (x :: y :: ("internal/strconv.uint64pow10", Lib.tabData .u64 Lib.pow10Tab) :: rest) W) : Tab (full W) := by
 rw [laidMetH_plain _ _ _ hp] at h
 have ht : Lib.TabIs Tryz.prog W "internal/strconv.uint64pow10" .u64 Lib.pow10Tab :=
  Lib.tabIs_of_head (g := 2) (t := 252) (e := 156) (n := 20) (by kernel_rfl) (by kernel_rfl) (by kernel_rfl) (by kernel_rfl) (by kernel_rfl) (by kernel_rfl) h.tail.tail
 unfold Lib.TabIs World.var? at ht
 have hg : Tryz.prog.globalNamed "internal/strconv.uint64pow10" = some 2 := by kernel_rfl
 rw [hg, Option.bind_some] at ht
 split at ht
 ·rename_i cs ty fz e
  have hc := Option.some.inj ht
  refine ⟨_, full_of e (by rw [hc]; decide), ?_⟩
  rw [hc]
 ·cases ht
section
variable {H : Type} {enc : TypeId × Value -> H} {W : World} {base fuel : Nat} {sp : Nat -> Bool} {held : Bool}
theorem cell_block {W : World} {a : Addr} {i : Nat} {v : Value} (h : W.cell? (a.add i) = some v) : ∃ cs ty fz, W.heap[a.block]? = some (.cells cs ty fz) /\ (i = 0 -> a.spot = none) /\ cs[a.off + i]? = some v := by
 unfold World.cell? at h
 have hb : (a.add i).block = a.block := by unfold Addr.add; split <;> rfl
 have ho : (a.add i).off = a.off + i := by unfold Addr.add; split <;> simp_all
 rw [hb, ho] at h
 split at h
 ·rename_i cs ty fz e
  split at h
  ·cases h
  ·rename_i q
   refine ⟨cs, ty, fz, e, fun hi => ?_, h⟩
   subst hi
   unfold Addr.add at q
   simpa using q
 ·cases h
theorem nat_arg {cs : List Value} {y : DataW H × List MemPlace} (h : DataW.trod enc Tryz.prog W base sp held fuel 32 cs = some y) :
  ∃ A n c v, cs = [.slice A n c] /\ IsN (full W) A n c v := by
 rcases open_ints (k := .u32) (e := 166) Tryz.underlying32 (by kernel_rfl) (by kernel_rfl) h with ⟨rfl, _⟩ | ⟨a, len, cap, zs, rfl, _, hlc, _, hzl, _, hcell, hwf⟩
 ·exact ⟨none, 0, 0, _, rfl, (NmN.nil _ none 0).is⟩
 ·have hlz : len <= zs.length := by rw [hzl]; split <;> omega
  refine ⟨some a, len, cap, _, rfl, ⟨(zs.take len).map Int.toNat, ⟨by simp; omega, hlc, ?_, fun hn => ?_⟩, rfl⟩⟩
  ·intro x hx
   obtain ⟨z, hz, rfl⟩ := List.mem_map.1 hx
   have := wf32 (hwf z (List.mem_of_mem_take hz))
   omega
  ·obtain ⟨cs, ty, fz, hb, hsp, hc0⟩ := cell_block (hcell 0 (by omega))
   have hsz : 0 < cs.size := by
    have := (Array.getElem?_eq_some_iff.1 hc0).1
    omega
   refine ⟨a, _, rfl, hsp rfl, full_of hb hsz, ?_⟩
   apply List.ext_getElem?
   intro i
   by_cases hi : i < len
   ·obtain ⟨cs', ty', fz', hb', _, hci⟩ := cell_block (hcell i (by omega))
    rw [hb] at hb'
    cases hb'
    rw [List.getElem?_take_of_lt hi, List.getElem?_drop, Array.getElem?_toList, hci, List.map_map, List.getElem?_map, List.getElem?_take_of_lt hi]
    have hz : zs[i]? = some (zs.getD i 0) := by
     rw [List.getD_eq_getElem?_getD, List.getElem?_eq_getElem (by omega)]; rfl
    rw [hz]
    simp only [Option.map_some, Function.comp]
    have hw := wf32 (hwf (zs.getD i 0) (List.mem_of_getElem? hz))
    unfold lv
    rw [Int.toNat_of_nonneg hw.1]
   ·rw [List.getElem?_eq_none (by simp; omega), List.getElem?_eq_none (by simp; omega)]
set_option maxRecDepth 100000 in
theorem str_arg {r : Reach} {b0 : Nat} {v : Value} {d : DataW H} {p : List MemPlace} (hval : Value.okWide Tryz.prog W r b0 9 v) (h : DataW.Trod enc Tryz.prog W base sp held 9 v d p) : ∃ l : List UInt8, v = sv l := by
 obtain ⟨s, rfl, _⟩ := Go.ChangeMaps.open_string Tryz.underlying9 hval h
 exact ⟨s.data.toList, by cases s; rfl⟩
end
section
variable {H : Type} {enc : TypeId × Value -> H} {W : World} {base : Nat} {sp : Nat -> Bool} {held : Bool}
theorem list3 {α : Type} {l : List α} (h : l.length = 3) : ∃ a b c, l = [a, b, c] := by
 match l, h with
 | [a, b, c], _ => exact ⟨a, b, c, rfl⟩
theorem list4 {α : Type} {l : List α} (h : l.length = 4) : ∃ a b c d, l = [a, b, c, d] := by
 match l, h with
 | [a, b, c, d], _ => exact ⟨a, b, c, d, rfl⟩
theorem list6 {α : Type} {l : List α} (h : l.length = 6) : ∃ a b c d e f, l = [a, b, c, d, e, f] := by
 match l, h with
 | [a, b, c, d, e, f], _ => exact ⟨a, b, c, d, e, f, rfl⟩
set_option maxRecDepth 100000 in
theorem ratio_cells {fuel : Nat} {cs : List Value} {y : DataW H × List MemPlace} (h : DataW.trod enc Tryz.prog W base sp held fuel 36 cs = some y) :
  ∃ s A n c B m e q, cs = [.bool s, .slice A n c, .slice B m e] /\ IsQ (full W) s A n c B m e q := by
 obtain ⟨y0, y1, n, _, hl, h0, h1⟩ := trod_struct2 Tryz.underlying36 h
 obtain ⟨c0, c1, c2, rfl⟩ := list3 (hl.trans (by kernel_rfl))
 have k0 : Tryz.prog.cellsOf 34 = 2 := by kernel_rfl
 have k1 : Tryz.prog.cellsOf 32 = 1 := by kernel_rfl
 have k2 : Tryz.prog.cellsOf 4 = 1 := by kernel_rfl
 rw [k0] at h0
 rw [k1] at h1
 simp only [List.drop_zero, List.take_succ_cons, List.take_zero, List.drop_succ_cons] at h0 h1
 obtain ⟨z0, z1, n2, _, _, g0, g1⟩ := trod_struct2 Tryz.underlying34 h0
 rw [k2] at g0
 rw [k1] at g1
 simp only [List.drop_zero, List.take_succ_cons, List.take_zero, List.drop_succ_cons] at g0 g1
 obtain ⟨b, hb, _⟩ := DataW.trod_bool (by kernel_rfl) g0
 obtain ⟨A, k, c, x, hA, uA⟩ := nat_arg g1
 obtain ⟨B, k', c', x', hB, uB⟩ := nat_arg h1
 cases hb
 cases hA
 cases hB
 exact ⟨b, A, k, c, B, k', c', _, rfl, _, _, ⟨_, uA, rfl⟩, uB, rfl⟩
theorem add_addr (a : Addr) (i j : Nat) : (a.add i).add j = a.add (i + j) := by
 unfold Addr.add
 by_cases hi : i = 0 <;> by_cases hj : j = 0 <;> simp [hi, hj, Nat.add_assoc]
theorem row_block {a : Addr} {len k : Nat} (hk : 0 < k) (hlen : 0 < len) {C : Nat -> List Value} (hc : ∀ i, i < len -> W.cells? base (a.add (i * k)) k = some (C i)) :
  ∃ b : Blk, a.spot = none /\ full W a.block = some b /\ ∀ i, i < len -> (b.cells.drop (a.off + i * k)).take k = C i := by
 have cell : ∀ i j, i < len -> j < k -> W.cell? (a.add (i * k + j)) = (C i)[j]? := fun i j hi hj => by
  obtain ⟨_, _, h3⟩ := World.cells?_some (hc i hi)
  rw [<- add_addr]
  exact h3 j hj
 have clen : ∀ i, i < len -> (C i).length = k := fun i hi => (World.cells?_some (hc i hi)).2.1
 have h00 : (C 0)[0]? = some ((C 0)[0]'(by rw [clen 0 hlen]; exact hk)) := List.getElem?_eq_getElem _
 have c00 := cell 0 0 hlen hk
 rw [h00] at c00
 simp only [Nat.zero_mul, Nat.zero_add] at c00
 obtain ⟨cs, ty, fz, hb, hsp, hc0⟩ := cell_block c00
 have hsz : 0 < cs.size := by
  have := (Array.getElem?_eq_some_iff.1 hc0).1
  omega
 refine ⟨⟨cs.toList, ty, fz⟩, hsp rfl, full_of hb hsz, fun i hi => ?_⟩
 apply List.ext_getElem?
 intro j
 rcases Nat.lt_or_ge j k with hj | hj
 ·have hjl : j < (C i).length := by rw [clen i hi]; exact hj
  have c1 := cell i j hi hj
  rw [List.getElem?_eq_getElem hjl] at c1
  obtain ⟨cs', ty', fz', hb', _, hci⟩ := cell_block c1
  rw [hb] at hb'
  cases hb'
  rw [List.getElem?_take_of_lt hj, List.getElem?_drop, Array.getElem?_toList, Nat.add_assoc, hci, List.getElem?_eq_getElem hjl]
 ·rw [List.getElem?_eq_none (by rw [List.length_take]; omega), List.getElem?_eq_none (by rw [clen i hi]; exact hj)]
theorem IsEs_of {h : Heap} : ∀ {es : List Ex} {cs : List Value}, (∀ i e, es[i]? = some e -> IsE h e ((cs.drop (i * 6)).take 6)) -> IsEs h es cs
 | [], _, _ => by unfold IsEs; trivial
 | e :: es, cs, hh => by
  unfold IsEs
  refine ⟨by simpa using hh 0 e rfl, IsEs_of fun i x hx => ?_⟩
  rw [List.drop_drop, show 6 + i * 6 = (i + 1) * 6 by omega]
  exact hh (i + 1) x (by simpa using hx)
theorem list_of {α : Type} [Inhabited α] {n : Nat} {p : Nat -> α -> Prop} (h : ∀ i, i < n -> ∃ x, p i x) : ∃ l : List α, l.length = n /\ ∀ i x, l[i]? = some x -> p i x := by
 obtain ⟨f, hf⟩ := Go.Deep.choose_lt h
 refine ⟨(List.range n).map f, by simp, fun i x hx => ?_⟩
 rw [List.getElem?_map] at hx
 rcases Nat.lt_or_ge i n with hi | hi
 ·rw [List.getElem?_range hi] at hx
  cases hx
  exact hf i hi
 ·rw [List.getElem?_eq_none (by simpa using hi)] at hx
  cases hx
instance : Inhabited Ex := ⟨.mk 0 0 0 0 [] []⟩
instance : Inhabited Meas := ⟨⟨[], 0, 0, 0⟩⟩
theorem str_cells {fuel : Nat} {cs : List Value} {y : DataW H × List MemPlace} (h : DataW.trod enc Tryz.prog W base sp held fuel 9 cs = some y) : ∃ l : List UInt8, cs = [sv l] := by
 obtain ⟨s, rfl, _⟩ := DataW.trod_string Tryz.underlying9 h
 exact ⟨s.data.toList, by cases s; rfl⟩
set_option maxRecDepth 100000 in
theorem expr_cells : ∀ (fuel : Nat) {cs : List Value} {y : DataW H × List MemPlace}, DataW.trod enc Tryz.prog W base sp held fuel 39 cs = some y -> ∃ e : Ex, IsE (full W) e cs := by
 intro fuel
 induction fuel using Nat.strongRecOn with
 | _ fuel ih =>
  intro cs y h
  obtain ⟨xs, n, rfl, _, hl, _, hf⟩ := DataW.trod_struct Tryz.underlying39 h
  obtain ⟨c0, c1, c2, c3, c4, c5, rfl⟩ := list6 (hl.trans (by kernel_rfl))
  have k0 : Tryz.prog.cellsOf 3 = 1 := by kernel_rfl
  have k1 : Tryz.prog.cellsOf 36 = 3 := by kernel_rfl
  have k2 : Tryz.prog.cellsOf 9 = 1 := by kernel_rfl
  have k3 : Tryz.prog.cellsOf 37 = 1 := by kernel_rfl
  have hxl : xs.length = 4 := by assumption
  obtain ⟨x0, x1, x2, x3, rfl⟩ := list4 hxl
  have f0 := hf 0 _ rfl
  have f1 := hf 1 _ rfl
  have f2 := hf 2 _ rfl
  have f3 := hf 3 _ rfl
  simp only [List.getElem?_cons_zero, List.getElem?_cons_succ] at f0 f1 f2 f3
  obtain ⟨z, hz, _⟩ := DataW.trod_int Tryz.underlying3 f0
  obtain ⟨s, A, qn, c, B, qm, d, q, hq, uq⟩ := ratio_cells f1
  obtain ⟨nm, hnm⟩ := str_cells f2
  cases hz
  cases hq
  cases hnm
  rcases DataW.trod_slice Tryz.underlying37 f3 with ⟨hs, _⟩ | ⟨a, len, cap, elems, rest, n', rfl, hs, _, _, hlc, _, hel, hcs, _, _⟩
  ·cases hs
   refine ⟨.mk z q qn qm nm [], ?_⟩
   unfold IsE
   exact ⟨s, A, c, B, d, none, 0, rfl, uq, Nat.le_refl _, fun hn => absurd rfl hn⟩
  ·cases hs
   have k6 : Tryz.prog.cellsOf 39 = 6 := by kernel_rfl
   rw [k6] at hcs
   have hc : ∀ i, i < len -> ∃ C : List Value, W.cells? base (a.add (i * 6)) 6 = some C /\ ∃ e : Ex, IsE (full W) e C := fun i hi => by
    have h1 := hcs i hi
    rw [List.getElem?_eq_getElem (by omega)] at h1
    obtain ⟨C, hC, ht⟩ := Option.bind_eq_some_iff.1 h1
    exact ⟨C, hC, ih n' (by omega) ht⟩
   obtain ⟨C, hC⟩ := Go.Deep.choose_lt hc
   obtain ⟨es, hesl, hes⟩ := list_of (α := Ex) (n := len) (p := fun i e => IsE (full W) e (C i)) (fun i hi => (hC i hi).2)
   refine ⟨.mk z q qn qm nm es, ?_⟩
   unfold IsE
   rw [hesl]
   refine ⟨s, A, c, B, d, some a, cap, rfl, uq, hlc, fun hn => ?_⟩
   have hlen : 0 < len := by
    rw [<- hesl]
    exact List.length_pos_iff.2 hn
   obtain ⟨b, hsp, hb, hrow⟩ := row_block (by omega) hlen (fun i hi => (hC i hi).1)
   refine ⟨a, b, rfl, hsp, hb, ?_, IsEs_of fun i e he => ?_⟩
   ·have h1 := congrArg List.length (hrow (len - 1) (by omega))
    rw [List.length_take, List.length_drop, (World.cells?_some (hC (len - 1) (by omega)).1).2.1] at h1
    omega
   ·have hi : i < len := by rw [<- hesl]; exact (List.getElem?_eq_some_iff.1 he).1
    rw [List.drop_drop, hrow i hi]
    exact hes i e he
end
section
variable {H : Type} {enc : TypeId × Value -> H} {W : World} {base : Nat} {sp : Nat -> Bool} {held : Bool}
set_option maxRecDepth 100000 in
theorem exprs_cells {fuel : Nat} {cs : List Value} {y : DataW H × List MemPlace} (h : DataW.trod enc Tryz.prog W base sp held fuel 37 cs = some y) :
  ∃ K kc es, cs = [.slice K (List.length es) kc] /\ IsK (full W) K (List.length es) kc es := by
 rcases DataW.trod_slice Tryz.underlying37 h with ⟨hs, _⟩ | ⟨a, len, cap, elems, rest, n', rfl, hs, _, _, hlc, _, hel, hcs, _, _⟩
 ·exact ⟨none, 0, [], hs, rfl, Nat.le_refl _, fun hn => absurd rfl hn⟩
 ·have k6 : Tryz.prog.cellsOf 39 = 6 := by kernel_rfl
  rw [k6] at hcs
  have hc : ∀ i, i < len -> ∃ C : List Value, W.cells? base (a.add (i * 6)) 6 = some C /\ ∃ e : Ex, IsE (full W) e C := fun i hi => by
   have h1 := hcs i hi
   rw [List.getElem?_eq_getElem (by omega)] at h1
   obtain ⟨C, hC, ht⟩ := Option.bind_eq_some_iff.1 h1
   exact ⟨C, hC, expr_cells n' ht⟩
  obtain ⟨C, hC⟩ := Go.Deep.choose_lt hc
  obtain ⟨es, hesl, hes⟩ := list_of (α := Ex) (n := len) (p := fun i e => IsE (full W) e (C i)) (fun i hi => (hC i hi).2)
  refine ⟨some a, cap, es, by rw [hesl]; exact hs, rfl, by rw [hesl]; exact hlc, fun hn => ?_⟩
  have hlen : 0 < len := by
   rw [<- hesl]
   exact List.length_pos_iff.2 hn
  obtain ⟨b, hsp, hb, hrow⟩ := row_block (by omega) hlen (fun i hi => (hC i hi).1)
  refine ⟨a, b, rfl, hsp, hb, ?_, IsEs_of fun i e he => ?_⟩
  ·have h1 := congrArg List.length (hrow (len - 1) (by omega))
   rw [List.length_take, List.length_drop, (World.cells?_some (hC (len - 1) (by omega)).1).2.1] at h1
   omega
  ·have hi : i < len := by rw [<- hesl]; exact (List.getElem?_eq_some_iff.1 he).1
   rw [List.drop_drop, hrow i hi]
   exact hes i e he
set_option maxRecDepth 100000 in
theorem strs_cells {fuel : Nat} {cs : List Value} {y : DataW H × List MemPlace} (h : DataW.trod enc Tryz.prog W base sp held fuel 40 cs = some y) :
  ∃ F fc fs, cs = [.slice F (List.length fs) fc] /\ Sl sv (full W) F (List.length fs) fc fs := by
 rcases DataW.trod_slice Tryz.underlying40 h with ⟨hs, _⟩ | ⟨a, len, cap, elems, rest, n', rfl, hs, _, _, hlc, _, hel, hcs, _, _⟩
 ·exact ⟨none, 0, [], hs, Sl.nil _ _ _⟩
 ·have k1 : Tryz.prog.cellsOf 9 = 1 := by kernel_rfl
  rw [k1] at hcs
  have hc : ∀ i, i < len -> ∃ C : List Value, W.cells? base (a.add (i * 1)) 1 = some C /\ ∃ e : List UInt8, C = [sv e] := fun i hi => by
   have h1 := hcs i hi
   rw [List.getElem?_eq_getElem (by omega)] at h1
   obtain ⟨C, hC, ht⟩ := Option.bind_eq_some_iff.1 h1
   exact ⟨C, hC, str_cells ht⟩
  obtain ⟨C, hC⟩ := Go.Deep.choose_lt hc
  obtain ⟨es, hesl, hes⟩ := list_of (α := List UInt8) (n := len) (p := fun i e => C i = [sv e]) (fun i hi => (hC i hi).2)
  refine ⟨some a, cap, es, by rw [hesl]; exact hs, rfl, by rw [hesl]; exact hlc, fun hn => ?_⟩
  have hlen : 0 < len := by rw [<- hesl]; exact hn
  obtain ⟨b, hsp, hb, hrow⟩ := row_block (by omega) hlen (fun i hi => (hC i hi).1)
  refine ⟨a, b, rfl, hsp, hb, ?_⟩
  apply List.ext_getElem?
  intro i
  rcases Nat.lt_or_ge i es.length with hi | hi
  ·have h1 := hrow i (by omega)
   have h2 := hes i _ (List.getElem?_eq_getElem hi)
   rw [h2] at h1
   have h3 := congrArg (·[0]?) h1
   simp only [List.getElem?_cons_zero] at h3
   rw [List.getElem?_take_of_lt (by omega), List.getElem?_drop] at h3
   rw [List.getElem?_take_of_lt hi, List.getElem?_drop, List.getElem?_map, List.getElem?_eq_getElem hi]
   rw [Nat.mul_one, Nat.add_zero] at h3
   rw [h3]
   rfl
  ·rw [List.getElem?_eq_none (by rw [List.length_take]; omega), List.getElem?_eq_none (by simpa using hi)]
set_option maxRecDepth 100000 in
theorem step_cells {fuel : Nat} {cs : List Value} {y : DataW H × List MemPlace} (h : DataW.trod enc Tryz.prog W base sp held fuel 42 cs = some y) : ∃ s : Stp, IsS (full W) s cs := by
 obtain ⟨xs, n, rfl, _, hl, _, hf⟩ := DataW.trod_struct Tryz.underlying42 h
 obtain ⟨c0, c1, c2, c3, rfl⟩ := list4 (hl.trans (by kernel_rfl))
 have k0 : Tryz.prog.cellsOf 3 = 1 := by kernel_rfl
 have k1 : Tryz.prog.cellsOf 9 = 1 := by kernel_rfl
 have k2 : Tryz.prog.cellsOf 40 = 1 := by kernel_rfl
 have k3 : Tryz.prog.cellsOf 37 = 1 := by kernel_rfl
 have hxl : xs.length = 4 := by assumption
 obtain ⟨x0, x1, x2, x3, rfl⟩ := list4 hxl
 have f0 := hf 0 _ rfl
 have f1 := hf 1 _ rfl
 have f2 := hf 2 _ rfl
 have f3 := hf 3 _ rfl
 simp only [List.getElem?_cons_zero, List.getElem?_cons_succ] at f0 f1 f2 f3
 obtain ⟨nm, hnm⟩ := str_cells f0
 obtain ⟨z, hz, _⟩ := DataW.trod_int Tryz.underlying3 f1
 obtain ⟨F, fc, fs, hfs, uf⟩ := strs_cells f2
 obtain ⟨K, kc, es, hes, uk⟩ := exprs_cells f3
 cases hnm
 cases hz
 cases hfs
 cases hes
 exact ⟨⟨nm, z, fs, es⟩, F, fc, K, kc, rfl, uf, uk⟩
set_option maxRecDepth 100000 in
theorem steps_arg {r : Reach} {b0 : Nat} {v : Value} {d : DataW H} {p : List MemPlace} (hval : Value.okWide Tryz.prog W r b0 22 v) (h : DataW.Trod enc Tryz.prog W base sp held 22 v d p) :
  ∃ (A : Option Addr) (n c : Nat) (l : List Stp), v = .slice A n c /\ StpS (full W) A n c l := by
 obtain ⟨a', l', c', rfl⟩ := okWide_slice Tryz.underlying22 hval
 obtain ⟨fuel, hf⟩ := h
 rcases DataW.trod_slice Tryz.underlying22 hf with ⟨hs, _⟩ | ⟨a, len, cap, elems, rest, n', rfl, hs, _, _, hlc, _, hel, hcs, _, _⟩
 ·refine ⟨none, 0, 0, [], ?_, ⟨rfl, Nat.le_refl _, fun q => absurd rfl q⟩⟩
  cases hs; rfl
 ·refine ⟨some a, len, cap, ?_⟩
  have k4 : Tryz.prog.cellsOf 42 = 4 := by kernel_rfl
  rw [k4] at hcs
  have hc : ∀ i, i < len -> ∃ C : List Value, W.cells? base (a.add (i * 4)) 4 = some C /\ ∃ s : Stp, IsS (full W) s C := fun i hi => by
   have h1 := hcs i hi
   rw [List.getElem?_eq_getElem (by omega)] at h1
   obtain ⟨C, hC, ht⟩ := Option.bind_eq_some_iff.1 h1
   exact ⟨C, hC, step_cells ht⟩
  obtain ⟨C, hC⟩ := Go.Deep.choose_lt hc
  obtain ⟨es, hesl, hes⟩ := list_of (α := Stp) (n := len) (p := fun i s => IsS (full W) s (C i)) (fun i hi => (hC i hi).2)
  refine ⟨es, by cases hs; rfl, ⟨hesl.symm, hlc, fun hn => ?_⟩⟩
  have hlen : 0 < len := by
   rw [<- hesl]
   exact List.length_pos_iff.2 hn
  obtain ⟨b, hsp, hb, hrow⟩ := row_block (by omega) hlen (fun i hi => (hC i hi).1)
  refine ⟨a, b, rfl, hsp, hb, fun i s hs' => ?_⟩
  have hi : i < len := by rw [<- hesl]; exact (List.getElem?_eq_some_iff.1 hs').1
  rw [hrow i hi]
  exact hes i s hs'
set_option maxRecDepth 100000 in
theorem form_cells {fuel : Nat} {cs : List Value} {a b : List UInt8} {m n : Int} {p : List MemPlace} (h : DataW.trod enc Tryz.prog W base sp held fuel 148 cs = some (.agg [.lit (.string a), .lit (.int .i64 m), .lit (.string b), .lit (.int .i64 n)], p)) :
  cs = [sv a, .int .i64 m, sv b, .int .i64 n] := by
 obtain ⟨xs, k, rfl, hx, hl, _, hf⟩ := DataW.trod_struct Tryz.underlying148 h
 obtain ⟨c0, c1, c2, c3, rfl⟩ := list4 (hl.trans (by kernel_rfl))
 have k0 : Tryz.prog.cellsOf 3 = 1 := by kernel_rfl
 have k1 : Tryz.prog.cellsOf 9 = 1 := by kernel_rfl
 have hxl : xs.length = 4 := by assumption
 obtain ⟨x0, x1, x2, x3, rfl⟩ := list4 hxl
 have f0 := hf 0 _ rfl
 have f1 := hf 1 _ rfl
 have f2 := hf 2 _ rfl
 have f3 := hf 3 _ rfl
 simp only [List.getElem?_cons_zero, List.getElem?_cons_succ] at f0 f1 f2 f3
 have hx1 := congrArg Prod.fst hx
 simp only [List.map_cons, List.map_nil, DataW.agg.injEq, List.cons.injEq, and_true] at hx1
 obtain ⟨e0, e1, e2, e3⟩ := hx1
 obtain ⟨s0, hc0, rfl, _⟩ := DataW.trod_string Tryz.underlying9 f0
 obtain ⟨z1, hc1, rfl, _⟩ := DataW.trod_int Tryz.underlying3 f1
 obtain ⟨s2, hc2, rfl, _⟩ := DataW.trod_string Tryz.underlying9 f2
 obtain ⟨z3, hc3, rfl, _⟩ := DataW.trod_int Tryz.underlying3 f3
 simp only [DataW.lit.injEq, Lit.string.injEq, Lit.int.injEq, true_and] at e0 e1 e2 e3
 cases hc0
 cases hc1
 cases hc2
 cases hc3
 subst e0 e1 e2 e3
 rfl
theorem blocks4 : ∀ (n : Nat) (cs : List Value), cs.length = 4 * n -> cs = (List.range n).flatMap fun i => (cs.drop (i * 4)).take 4
 | 0, cs, h => by rw [List.length_eq_zero_iff.1 h]; rfl
 | n + 1, cs, h => by
  rw [List.range_succ_eq_map, List.flatMap_cons, List.flatMap_map]
  have ih := blocks4 n (cs.drop 4) (by rw [List.length_drop]; omega)
  rw [Nat.zero_mul, List.drop_zero]
  conv => lhs; rw [<- List.take_append_drop 4 cs, ih]
  have e : (fun i => ((cs.drop 4).drop (i * 4)).take 4) = fun i => (cs.drop ((i + 1) * 4)).take 4 := funext fun i => by rw [List.drop_drop, show 4 + i * 4 = (i + 1) * 4 by omega]
  rw [e]
set_option maxRecDepth 100000 in
theorem forms_cells {fuel : Nat} {cs : List Value} {p : List MemPlace} (h : DataW.trod enc Tryz.prog W base sp held fuel 149 cs = some (Rows.laid_garment_draft_forms, p)) : cs = frCells := by
 have ht : Tryz.prog.underlying 149 = some (.array 7 148) := by kernel_rfl
 have hce : Tryz.prog.cellsOf 148 = 4 := by kernel_rfl
 have hct : Tryz.prog.cellsOf 149 = 28 := by kernel_rfl
 cases fuel with
 | zero => simp [DataW.trod] at h
 | succ fuel =>
  simp only [DataW.trod, ht, hce, hct] at h
  split at h
  ·rename_i hl
   obtain ⟨xs, hm, hx⟩ := Option.map_eq_some_iff.1 h
   have hx1 := congrArg Prod.fst hx
   have hxl : xs.length = 7 := by simpa using Lib.mapM_length hm
   have hxs : xs.map (·.1) = _ := DataW.agg.inj hx1
   have row : ∀ i a m b n, (xs.map (·.1))[i]? = some (.agg [.lit (.string a), .lit (.int .i64 m), .lit (.string b), .lit (.int .i64 n)]) -> i < 7 -> (cs.drop (i * 4)).take 4 = [sv a, .int .i64 m, sv b, .int .i64 n] := fun i a m b n hi h7 => by
    obtain ⟨y, hy, hf⟩ := Lib.mapM_at hm i i (by simp [h7])
    rw [List.getElem?_map, hy] at hi
    obtain ⟨y1, y2⟩ := y
    cases hi
    exact form_cells hf
   rw [hxs] at row
   have hl' : cs.length = 28 := by simpa using hl
   rw [blocks4 7 cs hl']
   have r0 := row 0 _ _ _ _ rfl (by omega)
   have r1 := row 1 _ _ _ _ rfl (by omega)
   have r2 := row 2 _ _ _ _ rfl (by omega)
   have r3 := row 3 _ _ _ _ rfl (by omega)
   have r4 := row 4 _ _ _ _ rfl (by omega)
   have r5 := row 5 _ _ _ _ rfl (by omega)
   have r6 := row 6 _ _ _ _ rfl (by omega)
   have e : ((List.range 7).flatMap fun i => (cs.drop (i * 4)).take 4) = (cs.drop (0 * 4)).take 4 ++ ((cs.drop (1 * 4)).take 4 ++ ((cs.drop (2 * 4)).take 4 ++ ((cs.drop (3 * 4)).take 4 ++ ((cs.drop (4 * 4)).take 4 ++ ((cs.drop (5 * 4)).take 4 ++ ((cs.drop (6 * 4)).take 4 ++ [])))))) := rfl
   rw [e, r0, r1, r2, r3, r4, r5, r6]
   rfl
  ·cases h
end
set_option maxRecDepth 100000 in
theorem frms_laid {x0 x1 x2 x3 x4 x5 : String × DataW Unit} {rest : List (String × DataW Unit)} {W : World} (hp : ((x0 :: x1 :: x2 :: x3 :: x4 :: x5 :: ("garment/draft.forms", Rows.laid_garment_draft_forms) :: rest).all fun x => x.2.handleName?.isNone) = true)
  (h : laidMetH Tryz.prog (x0 :: x1 :: x2 :: x3 :: x4 :: x5 :: ("garment/draft.forms", Rows.laid_garment_draft_forms) :: rest) W) : Frms (full W) := by
 rw [laidMetH_plain _ _ _ hp] at h
 obtain ⟨ps, ⟨g', t', cs, fuel, p, q, hg', ht', hvar, hd, _, _⟩, _⟩ := h.tail.tail.tail.tail.tail.tail
 have hg : Tryz.prog.globalNamed "garment/draft.forms" = some 0 := by kernel_rfl
 have hty : (Tryz.prog.globals[(0 : Nat)]?).map (·.type) = some 149 := by kernel_rfl
 obtain rfl := Option.some.inj (hg.symm.trans hg')
 obtain rfl := Option.some.inj (hty.symm.trans ht')
 have hc := forms_cells hd
 unfold World.var? at hvar
 rw [hg, Option.bind_some] at hvar
 split at hvar
 ·rename_i cs' ty fz e
  have hcs := Option.some.inj hvar
  subst hcs
  refine ⟨_, full_of e ?_, hc⟩
  rw [<- Array.length_toList, hc]
  decide
 ·cases hvar
section
variable {H : Type} {enc : TypeId × Value -> H} {W : World} {base : Nat} {sp : Nat -> Bool} {held : Bool}
end
end Go.Proofs.YtfglcgbgaeegaaaGreatDoor

namespace Go.Proofs.YtfglcgbgaeegaaaGreatDoor
open Go
theorem draftReads_cl : Tryz.prog.closure 9 = [9, 22, 45, 88, 14, 24, 47, 90, 160, 218, 219, 251, 161, 220, 162, 221, 252, 275, 253, 254, 255, 276, 48, 91, 114, 163, 164, 103, 174, 104, 175, 231, 262, 56, 58, 204, 247, 92, 165, 222, 256, 223, 166, 224, 277, 278, 279, 293, 301, 294, 290, 295, 302, 306, 312, 315, 316, 303, 307, 313, 308, 309, 259, 284, 297, 241, 242, 156, 271, 272, 243, 244, 273, 274, 291, 292, 314, 310, 41, 85, 138, 132, 141, 207, 83, 144, 145, 140, 205, 248, 206, 249, 133, 208, 155, 209, 210, 211, 139, 270, 115, 187, 239, 269, 258, 199, 78, 137, 80, 84, 283, 39, 81, 79, 49, 93, 32, 65, 69, 116, 16, 31, 64, 37, 71, 126, 196, 197, 40, 82, 142, 143, 198, 200, 240, 129, 201, 72, 18, 73, 128, 127, 74, 130, 75, 131, 76, 38, 77, 134, 202, 135, 203, 245, 246, 57, 136, 27, 13, 55, 102, 173, 229, 260, 285, 286, 287, 298, 288, 299, 304, 300, 305, 311, 230, 261, 15, 36, 70, 123, 185, 124, 193, 194, 192, 191, 228, 195, 125, 189, 34, 67, 33, 66, 117, 118, 35, 68, 119, 188, 121, 122, 120, 190, 26, 53, 54, 101, 172] := by kernel_rfl
theorem draftReads_in : Tryz.prog.inPlace 9 = Rows.draftReadsRow.inPlace := by
 unfold Program.inPlace
 rw [draftReads_cl]
 kernel_rfl
theorem draftReads_un : Tryz.prog.unfollowed 9 = false := by
 unfold Program.unfollowed
 rw [draftReads_cl]
 kernel_rfl
theorem draftReads_self : ((Tryz.prog.funcs[(88 : Nat)]?).elim [] Tryz.prog.leadsTo).any (fun h => (Tryz.prog.closure h).contains 88) = true := by kernel_rfl
theorem draftReads_rc : Tryz.prog.recurses 9 = true := by
 unfold Program.recurses
 rw [Bool.or_eq_true, List.any_eq_true]
 refine Or.inr ⟨88, ?_, draftReads_self⟩
 rw [draftReads_cl]
 decide +kernel
theorem draftReads_vn : Tryz.prog.varsNamed 9 = Rows.draftReadsRow.named := by
 unfold Program.varsNamed
 rw [draftReads_cl]
 kernel_rfl
theorem draftReads_facts : joinedFacts Tryz.prog 9 Tryz.f9 Rows.draftReadsSpec Rows.draftReadsRow = true := by
 unfold joinedFacts
 rw [draftReads_in, draftReads_un, draftReads_rc, draftReads_vn]
 kernel_rfl
end Go.Proofs.YtfglcgbgaeegaaaGreatDoor
