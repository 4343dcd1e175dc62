/-
  Gathered texts of this proof: Cn11, Cn12, Cn14, VcL, Cn15, Rf1, Rf2, Rf3.
-/
import Derived.Test.YtccplhjglhdopaaGreatDoorG04
import Derived.Test.YtccplhjglhdopaaGreatDoorG05
import Derived.Lib.ItoaNum
import Derived.Lib.Join
import Derived.Lib.Repeat
import Derived.Test.YtccplhjglhdopaaGreatDoorGSh
import Derived.Lib.Walk
import Derived.Sort.Grow
import Derived.WalkKit
import Derived.BigCall
import Derived.BigGuard
import Derived.Test.YtccplhjglhdopaaGreatDoorG02
import Derived.Test.YtccplhjglhdopaaGreatDoorChecked
import Derived.Laws.Strings

/-
  The library's contracts as CallsU: FormatUint below 100, Join, Reverse, Repeat, Sort.
-/
namespace Go.Proofs
open Go.RowKit Go.Lib Go.Sort

/-- internal/strconv.FormatUint at base 10, below 100. -/
theorem Tryz.isFormatUint_small (i : Nat) (hi : i < 100) (w : World) :
    Calls Tryz.prog 127 #[.int .u64 i, .int .i64 10] w fun e w' => e = .returned (.string ⟨(Lib.decDigits i).toArray⟩) ∧ w' = w := by
  have hw : IntKind.i64.wrap (i : Int) = (i : Int) := by rw [IntKind.wrap_i64]; omega
  go_enter Tryz.func127, Tryz.ntmps127
  go_wp2_with (go_at_call 147; refine (Tryz.internal_strconv_small i hi _).mono ?_; rintro e w' ⟨rfl, rfl⟩)
  go_ret
  exact ⟨rfl, rfl⟩
end Go.Proofs

namespace Go.Proofs.YtccplhjglhdopaaGreatDoor
open Go Go.Vcg Go.RowKit Go.Sort
attribute [local irreducible] Br

theorem callsU_below {P : Program} {f : FuncId} {args : List Value} {h : Heap} {v : Value} (hc : Callable P f)
    (hw : ∀ w, Sat h w → Calls P f args.toArray w fun e w' => e = .returned v ∧ Below w.heap.size w w') : CallsU P f args h fun r h' => r = v ∧ h = h' :=
  ⟨hc, fun w s => (hw w s).mono fun e w' ⟨he, b⟩ => ⟨v, h, he, ⟨rfl, rfl⟩,
    fun k x hk => by
      have := s k x hk
      exact this.same (b.block k this.lt),
    ⟨b.size, b.os, b.tape, b.output, fun k hk h0 => ⟨h0, b.block k hk⟩⟩⟩⟩

theorem callsU_same {P : Program} {f : FuncId} {args : List Value} {h : Heap} {v : Value} (hc : Callable P f)
    (hw : ∀ w, Sat h w → Calls P f args.toArray w fun e w' => e = .returned v ∧ w' = w) : CallsU P f args h fun r h' => r = v ∧ h = h' :=
  callsU_below hc fun w s => (hw w s).mono fun _ _ ⟨a, b⟩ => ⟨a, by rw [b]; exact Below.refl _ _⟩

theorem putCells_seg {α : Type} [Inhabited α] {enc : α → Value} {off : Nat} (d : List α) (cells : List Value) (hle : off + d.length ≤ cells.length) :
    putCells enc off d.toArray cells.toArray = (setSeg cells off (d.map enc)).toArray := by
  unfold putCells setSeg
  apply Array.ext_getElem?
  intro k
  simp only [Array.getElem?_mapIdx, List.getElem?_toArray, List.size_toArray, List.length_map]
  rcases Nat.lt_or_ge k off with h1 | h1
  · rw [List.append_assoc, List.getElem?_append_left (by simp; omega), List.getElem?_take_of_lt h1, List.getElem?_eq_getElem (by omega)]
    simp only [Option.map_some]
    rw [if_neg (by omega)]
  · rw [List.append_assoc, List.getElem?_append_right (by simp; omega), List.length_take, Nat.min_eq_left (by omega)]
    rcases Nat.lt_or_ge k (off + d.length) with h2 | h2
    · rw [List.getElem?_append_left (by simp; omega), List.getElem?_eq_getElem (l := cells) (by omega)]
      simp only [Option.map_some]
      rw [if_pos ⟨h1, h2⟩]
      have hj : k - off < d.length := by omega
      simp [hj]
    · rw [List.getElem?_append_right (by simp; omega), List.getElem?_drop, List.length_map, show off + d.length + (k - off - d.length) = k from by omega]
      cases hk : cells[k]? with
      | none => rfl
      | some x => simp only [Option.map_some]; rw [if_neg (by omega)]

/-- A row of one visible block is written anew. -/
theorem callsU_row {α : Type} [Inhabited α] {P : Program} {f : FuncId} {args : List Value} {h : Heap} {g off ty : Nat} {cells : List Value} {enc : α → Value} (d d' : List α) (hc : Callable P f) (hb : h g = some ⟨cells, ty, (0, 0)⟩)
    (hd : (cells.drop off).take d.length = d.map enc) (hl : d'.length = d.length) (hle : off + d.length ≤ cells.length)
    (hw : ∀ w, g < w.heap.size → Holds enc w g off d.toArray → Calls P f args.toArray w fun e w' => e = .returned (.tuple #[]) ∧ ∃ n os, w' = grow (putRow enc (Sort.ahead w n) g off d'.toArray) os) :
    CallsU P f args h fun r h' => r = .tuple #[] ∧ h' = h.put g ⟨setSeg cells off (d'.map enc), ty, (0, 0)⟩ := by
  refine ⟨hc, fun w s => ?_⟩
  have sg := (s g _ hb).cells (plain_fz rfl)
  have hlt : g < w.heap.size := (Array.getElem?_eq_some_iff.1 sg).1
  have hH : Holds enc w g off d.toArray := by
    intro j hj
    have hj' : j < d.length := by simpa using hj
    refine ⟨?_, ?_⟩
    · unfold World.cell?
      simp only [sg]
      have h1 : ((cells.drop off).take d.length)[j]? = (d.map enc)[j]? := by rw [hd]
      rw [List.getElem?_take_of_lt hj', List.getElem?_drop] at h1
      simp only [Option.isSome_none, Bool.false_eq_true, if_false, List.getElem?_toArray]
      rw [h1]
      simp [hj']
    · unfold World.frozen?
      simp [sg]
  refine (hw w hlt hH).mono ?_
  rintro e w' ⟨he, n, os, rfl⟩
  have hsz : (w.heap.modify g (onCells (putCells enc off d'.toArray))).size = w.heap.size := Array.size_modify
  have hg : (w.heap.modify g (onCells (putCells enc off d'.toArray)))[g]? = some (.cells (setSeg cells off (d'.map enc)).toArray ty (0, 0)) := by
    rw [Array.getElem?_modify, if_pos rfl, sg]
    simp only [Option.map_some, onCells]
    rw [putCells_seg d' cells (by omega)]
  have hne : ∀ k, k ≠ g → (w.heap.modify g (onCells (putCells enc off d'.toArray)))[k]? = w.heap[k]? := fun k hk => by
    rw [Array.getElem?_modify, if_neg (fun e => hk e.symm)]
  have hgr : ∀ k, k < w.heap.size → (grow (putRow enc (Sort.ahead w n) g off d'.toArray) os).heap[k]? = (w.heap.modify g (onCells (putCells enc off d'.toArray)))[k]? := fun k hk => by
    show ((w.heap.modify g (onCells (putCells enc off d'.toArray))) ++ os)[k]? = _
    rw [Array.getElem?_append_left (by omega)]
  refine ⟨_, _, he, ⟨rfl, rfl⟩, ?_, ⟨?_, rfl, rfl, rfl, ?_⟩⟩
  · intro k b hk
    by_cases e : k = g
    · subst e
      rw [Heap.put_same] at hk
      cases hk
      exact .mk' (plain_fz rfl) (by rw [hgr _ hlt, hg])
    · rw [Heap.put_ne _ _ e] at hk
      have sk := s k b hk
      exact sk.same (by rw [hgr k sk.lt, hne k e])
  · show w.heap.size ≤ ((w.heap.modify g (onCells (putCells enc off d'.toArray))) ++ os).size
    rw [Array.size_append]; omega
  · intro k hk h0
    have e : k ≠ g := fun e => by rw [e, hb] at h0; cases h0
    exact ⟨by rw [Heap.put_ne _ _ e]; exact h0, by rw [hgr k hk, hne k e]⟩

theorem reverse_c {h : Heap} {g c ty : Nat} {zs rest : List (List UInt8)} (hb : h g = some ⟨(zs ++ rest).map sv, ty, (0, 0)⟩) {n : Nat} (hn : n = zs.length) (hsz : n < 4611686018427387904) :
    CallsU Tryz.prog 95 [.slice (some ⟨g, 0, none⟩) n c] h fun r h' => r = .tuple #[] ∧ h' = h.put g ⟨(zs.reverse ++ rest).map sv, ty, (0, 0)⟩ := by
  subst hn
  refine (callsU_row (enc := sv) (off := 0) zs zs.reverse ⟨_, Tryz.func95, by kernel_rfl, by kernel_rfl⟩ hb (by rw [List.drop_zero, List.map_append, List.take_append_of_le_length (by simp), ← List.length_map (f := sv), List.take_length]) (by simp) (by simp) ?_).mono ?_
  · intro w hlt hH
    refine (Tryz.slices_Reverse_string g 0 c zs w hH (by omega)).mono ?_
    rintro _ _ ⟨a, n, b⟩
    refine ⟨a, n, #[], ?_⟩
    rw [b]
    show _ = ({ (putRow sv (Sort.ahead w n) g 0 zs.reverse.toArray) with heap := (putRow sv (Sort.ahead w n) g 0 zs.reverse.toArray).heap ++ #[] } : World)
    rw [Array.append_empty]
  · rintro _ _ ⟨rfl, rfl⟩
    refine ⟨rfl, ?_⟩
    congr 2
    unfold setSeg
    simp

theorem join_empty (zs : List (List UInt8)) : Lib.join zs [] = zs.flatten := by
  cases zs with
  | nil => rfl
  | cons x r => rw [Lib.join_cons]; simp [Lib.joinTail]

theorem join_c {h : Heap} {g c ty : Nat} {zs rest : List (List UInt8)} (hb : h g = some ⟨(zs ++ rest).map sv, ty, (0, 0)⟩) {n : Nat} (hn : n = zs.length) (hc : n ≤ c) (hsz : n ≤ 140737488355328) (hlen : zs.flatten.length ≤ 140737488355328) :
    CallsU Tryz.prog 96 [.slice (some ⟨g, 0, none⟩) n c, .string ⟨#[]⟩] h fun r h' => r = sv zs.flatten ∧ h = h' := by
  subst hn
  refine callsU_below ⟨_, Tryz.func96, by kernel_rfl, by kernel_rfl⟩ fun w s => ?_
  have sg := (s g _ hb).cells (plain_fz rfl)
  have hlt : g < w.heap.size := (Array.getElem?_eq_some_iff.1 sg).1
  have e : (zs.map fun x => (⟨x.toArray⟩ : ByteArray)).map (fun x => x.data.toList) = zs := by
    rw [List.map_map]
    conv => rhs; rw [← List.map_id zs]
    apply List.map_congr_left
    intro x _
    rfl
  have := Tryz.strings_Join g 0 c (zs.map fun x => ⟨x.toArray⟩) ⟨#[]⟩ w (fun j x hj => by
    unfold World.cell?
    simp only [sg, Option.isSome_none, Bool.false_eq_true, if_false, List.getElem?_toArray, Nat.zero_add]
    rw [List.getElem?_map] at hj ⊢
    have hjl : j < zs.length := by
      rcases Nat.lt_or_ge j zs.length with q | q
      · exact q
      · rw [List.getElem?_eq_none q] at hj; cases hj
    rw [List.getElem?_append_left hjl]
    rw [List.getElem?_eq_getElem hjl] at hj ⊢
    simp only [Option.map_some, Option.some.injEq] at hj ⊢
    rw [← hj]) hlt (by simpa using hsz) (by simpa using hc) (by rw [e]; simpa [join_empty] using hlen)
  rw [e, List.length_map, show (⟨#[]⟩ : ByteArray).data.toList = [] from rfl, join_empty] at this
  exact this

theorem repeat_c (s : List UInt8) (c : Nat) (h : Heap) (hc : c ≤ 9223372036854775807) (hl : s.length * c ≤ 140737488355328) :
    CallsU Tryz.prog 94 [sv s, .int .i64 c] h fun r h' => r = sv (Lib.repeatL s c) ∧ h = h' :=
  callsU_below ⟨_, Tryz.func94, by kernel_rfl, by kernel_rfl⟩ fun w _ => Tryz.strings_Repeat ⟨s.toArray⟩ c w hc (by simpa [ByteArray.size] using hl)

theorem fmt_small_c (i : Nat) (hi : i < 100) (h : Heap) : CallsU Tryz.prog 93 [.int .u64 i, .int .i64 10] h fun r h' => r = sv (Lib.decDigits i) ∧ h = h' := by
  apply strconv_FormatUint_ok
  refine (callsU_same (v := sv (Lib.decDigits i)) ⟨_, Tryz.func127, by kernel_rfl, by kernel_rfl⟩ fun w _ => Tryz.isFormatUint_small i hi w).mono ?_
  rintro _ _ ⟨rfl, rfl⟩
  exact ⟨_, rfl, rfl, rfl⟩

/-! ### decimals in groups -/
/-- The last k digits, with zeros ahead. -/
def padK : Nat → Nat → List UInt8
  | 0, _ => []
  | k + 1, r => padK k (r / 10) ++ [UInt8.ofNat (48 + r % 10)]

theorem dec_lt {u : Nat} (h : u < 10) : Lib.decDigits u = [UInt8.ofNat (48 + u)] := by rw [Lib.decDigits, dif_pos h]
theorem dec_ge {u : Nat} (h : ¬ u < 10) : Lib.decDigits u = Lib.decDigits (u / 10) ++ [UInt8.ofNat (48 + u % 10)] := by rw [Lib.decDigits, dif_neg h]

theorem dec_split : ∀ (k x : Nat), 10 ^ k ≤ x → Lib.decDigits x = Lib.decDigits (x / 10 ^ k) ++ padK k (x % 10 ^ k)
  | 0, x, _ => by simp [padK]
  | k + 1, x, h => by
    have hp : 0 < 10 ^ k := Nat.pow_pos (by decide)
    rw [Nat.pow_succ] at h
    have hx : ¬ x < 10 := by omega
    have hd : 10 ^ k ≤ x / 10 := by omega
    rw [dec_ge hx, dec_split k (x / 10) hd, padK, List.append_assoc]
    have e1 : x / 10 / 10 ^ k = x / 10 ^ (k + 1) := by rw [Nat.div_div_eq_div_mul, Nat.pow_succ, Nat.mul_comm]
    have e2 : x % 10 ^ (k + 1) / 10 = x / 10 % 10 ^ k := by
      rw [Nat.pow_succ, Nat.mul_comm, Nat.mod_mul_right_div_self]
    have e3 : x % 10 ^ (k + 1) % 10 = x % 10 := by
      rw [Nat.pow_succ]
      exact Nat.mod_mod_of_dvd _ (Nat.dvd_mul_left _ _)
    rw [e1, e2, e3]

theorem padK_zero : ∀ k, padK k 0 = List.replicate k 48
  | 0 => rfl
  | k + 1 => by
    rw [padK, Nat.zero_div, padK_zero k, List.replicate_succ']
    rfl

theorem dec_length (u : Nat) : (Lib.decDigits u).length = Lib.nDigits u := Lib.decDigits_length u

theorem padK_dec : ∀ (k r : Nat), r < 10 ^ k → 1 ≤ k → padK k r = List.replicate (k - Lib.nDigits r) 48 ++ Lib.decDigits r ∧ Lib.nDigits r ≤ k
  | 0, _, _, h => by omega
  | k + 1, r, h, _ => by
    rcases Nat.lt_or_ge r 10 with hr | hr
    · rw [padK, Nat.div_eq_of_lt hr, padK_zero, dec_lt hr, Lib.nDigits_small hr, Nat.mod_eq_of_lt hr]
      exact ⟨rfl, by omega⟩
    · have hr' : ¬ r < 10 := by omega
      have hk : 1 ≤ k := by
        rcases k with _ | k
        · simp at h; omega
        · omega
      have ih := padK_dec k (r / 10) (by rw [Nat.pow_succ] at h; omega) hk
      rw [padK, ih.1, dec_ge hr', Lib.nDigits_big hr', List.append_assoc]
      exact ⟨by rw [Nat.add_sub_add_right], by omega⟩

theorem repeatL_48 : ∀ c, Lib.repeatL [48] c = List.replicate c 48
  | 0 => rfl
  | c + 1 => by rw [Lib.repeatL, repeatL_48 c, List.replicate_succ]; rfl
end Go.Proofs.YtccplhjglhdopaaGreatDoor

/-
  Contracts: natural.Text, integer.Text, ratio.Text.
-/
namespace Go.Proofs.YtccplhjglhdopaaGreatDoor
open Go Go.Vcg
attribute [local irreducible] Br

/-- What is still to be written. -/
def preD (x : Nat) : List UInt8 := if x = 0 then [] else Lib.decDigits x

/-- One group of digits. -/
def grp (x : Nat) : List UInt8 := if x / 10 ^ 9 = 0 then Lib.decDigits (x % 10 ^ 9) else padK 9 (x % 10 ^ 9)

theorem preD_step (x : Nat) : preD (x / 10 ^ 9) ++ grp x = Lib.decDigits x := by
  unfold preD grp
  by_cases h : x / 10 ^ 9 = 0
  · rw [if_pos h, if_pos h, List.nil_append, Nat.mod_eq_of_lt]
    rcases Nat.lt_or_ge x (10 ^ 9) with q | q
    · exact q
    · have := Nat.div_pos q (by decide); omega
  · rw [if_neg h, if_neg h]
    refine (dec_split 9 x ?_).symm
    rcases Nat.lt_or_ge x (10 ^ 9) with q | q
    · exact absurd (Nat.div_eq_of_lt q) h
    · exact q

theorem ba_append (a b : List UInt8) : (⟨a.toArray⟩ : ByteArray) ++ ⟨b.toArray⟩ = ⟨(a ++ b).toArray⟩ := by
  apply ByteArray.ext
  rw [ByteArray.data_append]
  simp

theorem ba_size (a : List UInt8) : (⟨a.toArray⟩ : ByteArray).size = a.length := by simp [ByteArray.size]

/-- The strings gathered so far: the slice's first elements, in a block of the call's own. -/
def Own (h h' : Heap) (A : Option Addr) (n c : Nat) (gs : List (List UInt8)) : Prop :=
  n = gs.length ∧ ((A = none ∧ n = 0 ∧ c = 0) ∨ ∃ g zs, A = some ⟨g, 0, none⟩ ∧ h g = none ∧ h' g = some ⟨(gs ++ zs).map sv, 9, (0, 0)⟩ ∧ c = (gs ++ zs).length)

theorem Own.le {h h' h'' : Heap} {A : Option Addr} {n c : Nat} {gs : List (List UInt8)} (o : Own h h' A n c gs) (l : Le h' h'') : Own h h'' A n c gs := by
  obtain ⟨a, b⟩ := o
  refine ⟨a, b.imp id ?_⟩
  rintro ⟨g, zs, e, h0, hb, hc⟩
  exact ⟨g, zs, e, h0, l _ _ hb, hc⟩

theorem repV_sv (n : Nat) : repV [Value.string ByteArray.empty] n = (List.replicate n ([] : List UInt8)).map sv := by
  induction n with
  | zero => rfl
  | succ n ih => simp only [repV, ih, List.replicate_succ]; rfl

/-- append of one string. -/
theorem Own.app {h h4 : Heap} {A : Option Addr} {n c : Nat} {gs : List (List UInt8)} {x : List UInt8} {K : Option Addr → Nat → Heap → Prop} (o : Own h h4 A n c gs) (hl : Le h h4) {g0 : Nat} (hg0 : h4 g0 = none) (hn : (n + 1) * 16 ≤ 140737488355328)
    (hK : ∀ A' c' h', Own h h' A' (n + 1) c' (gs ++ [x]) → Le h h' → (∀ k, k ≠ g0 → h4 k ≠ none → (∀ ad, A = some ad → k ≠ ad.block) → h' k = h4 k) → K A' c' h') :
    ∃ xs : List Value, RdS (h4.put g0 ⟨[sv x], 9, (0, 0)⟩) (some ⟨g0, 0, none⟩) (1 * 1) xs ∧ (∀ y ∈ xs, Go.Vcg.one y = true) ∧
      (n + 1 ≤ c → ∃ (ad : Addr) (b : Blk), A = some ad ∧ ad.spot = none ∧ (h4.put g0 ⟨[sv x], 9, (0, 0)⟩) ad.block = some b ∧ b.fz = (0, 0) ∧ ad.off + n * 1 + 1 * 1 ≤ b.cells.length ∧
        ∀ h' : Heap, h' = Heap.put (h4.put g0 ⟨[sv x], 9, (0, 0)⟩) ad.block { b with cells := setSeg b.cells (ad.off + n * 1) xs } → K A c h') ∧
      (c < n + 1 → ∃ olds : List Value, RdS (h4.put g0 ⟨[sv x], 9, (0, 0)⟩) A (n * 1) olds ∧ (n + 1) * 16 ≤ 140737488355328 ∧
        ∀ (g1 cap : Nat) (h' : Heap), (h4.put g0 ⟨[sv x], 9, (0, 0)⟩) g1 = none → n + 1 ≤ cap → h' = Heap.put (h4.put g0 ⟨[sv x], 9, (0, 0)⟩) g1 ⟨olds ++ xs ++ repV [Value.string ByteArray.empty] (cap - (n + 1)), 9, (0, 0)⟩ → K (some ⟨g1, 0, none⟩) cap h') := by
  obtain ⟨en, o⟩ := o
  have hg0h : h g0 = none := hl.free hg0
  refine ⟨[sv x], ⟨rfl, fun _ => ⟨_, rfl, rfl, _, Heap.put_same _ _ _, rfl⟩⟩, fun y hy => by simp at hy; subst hy; rfl, fun hc => ?_, fun hc => ?_⟩
  · rcases o with ⟨_, _, e⟩ | ⟨g, zs, rfl, h0, hb, rfl⟩
    · omega
    · have hne : g ≠ g0 := fun e => by rw [e, hg0] at hb; cases hb
      have hzl : 0 < zs.length := by simp at hc; omega
      obtain ⟨z, zs', rfl⟩ : ∃ z zs', zs = z :: zs' := by
        cases zs with
        | nil => simp at hzl
        | cons z r => exact ⟨z, r, rfl⟩
      refine ⟨_, _, rfl, rfl, (Heap.put_ne _ _ hne).trans hb, rfl, by simp; omega, ?_⟩
      rintro h' rfl
      have e : setSeg ((gs ++ z :: zs').map sv) (0 + n * 1) [sv x] = ((gs ++ [x]) ++ zs').map sv := by
        unfold setSeg
        subst en
        simp [List.drop_append]
      refine hK _ _ _ ⟨by simp [en], Or.inr ⟨g, zs', rfl, h0, ?_, by simp⟩⟩ ((hl.put hg0h _).put h0 _) (fun k k0 _ kA => ?_)
      · rw [Heap.put_same]; simp only [e]
      · rw [Heap.put_ne _ _ (kA _ rfl), Heap.put_ne _ _ k0]
  · refine ⟨gs.map sv, ?_, hn, ?_⟩
    · refine ⟨by simp [en], fun h0 => ?_⟩
      rcases o with ⟨_, e, _⟩ | ⟨g, zs, rfl, h0, hb, _⟩
      · omega
      · have hne : g ≠ g0 := fun e => by rw [e, hg0] at hb; cases hb
        exact ⟨_, rfl, rfl, _, (Heap.put_ne _ _ hne).trans hb, by simp⟩
    · rintro g1 cap h' hg1 hcap rfl
      have hne : g1 ≠ g0 := fun e => by rw [e, Heap.put_same] at hg1; cases hg1
      have hg1' : h4 g1 = none := by rw [Heap.put_ne _ _ hne] at hg1; exact hg1
      refine hK _ _ _ ⟨by simp [en], Or.inr ⟨g1, List.replicate (cap - (n + 1)) [], rfl, hl.free hg1', ?_, by simp [en]; omega⟩⟩ ((hl.put hg0h _).put (hl.free hg1') _) (fun k k0 kn _ => ?_)
      · rw [Heap.put_same, repV_sv]; simp
      · rw [Heap.put_ne _ _ (fun e => kn (by rw [e]; exact hg1')), Heap.put_ne _ _ k0]

theorem U32.agree {h h' : Heap} {A : Option Addr} {n c : Nat} {xs : List Nat} (u : U32 h A n c xs) (ha : ∀ ad b, 0 < n → A = some ad → h ad.block = some b → (b.cells.drop ad.off).take n = xs.map lv → h' ad.block = some b) : U32 h' A n c xs :=
  ⟨u.len, u.cap, u.lt, fun hn => let ⟨ad, b, e, sp, hb, hc⟩ := u.mem hn; ⟨ad, b, e, sp, ha ad b hn e hb hc, hc⟩⟩

theorem not_str {xs : List Nat} {ys : List (List UInt8)} {o n : Nat} (hn : 0 < n) (hl : xs.length = n) (h : ((ys.map sv).drop o).take n = xs.map lv) : False := by
  cases xs with
  | nil => simp at hl; omega
  | cons x r =>
    have h1 : (((ys.map sv).drop o).take n)[0]? = (List.map lv (x :: r))[0]? := by rw [h]
    rw [List.getElem?_take_of_lt hn, List.getElem?_drop, List.getElem?_map] at h1
    cases hy : ys[o + 0]? with
    | none => rw [hy] at h1; simp at h1
    | some y => rw [hy] at h1; simp at h1

theorem NmN.app {h h4 h' : Heap} {A B : Option Addr} {n c k d x g0 : Nat} {gs : List (List UInt8)} (u : NmN h4 B k d x) (o : Own h h4 A n c gs) (hg0 : h4 g0 = none)
    (ha : ∀ k, k ≠ g0 → h4 k ≠ none → (∀ ad, A = some ad → k ≠ ad.block) → h' k = h4 k) : NmN h' B k d x := by
  obtain ⟨xs, a, e, r⟩ := u
  refine ⟨xs, U32.agree a fun ad b hk eB hb hc => ?_, e, r⟩
  rw [ha ad.block (fun q => by rw [q, hg0] at hb; cases hb) (fun q => by rw [q] at hb; cases hb) ?_]
  · exact hb
  · intro ad' eA q
    rcases o.2 with ⟨e1, _, _⟩ | ⟨g, zs, e1, _, hg, _⟩
    · rw [e1] at eA; cases eA
    · rw [e1] at eA
      cases eA
      rw [q, hg] at hb
      cases hb
      exact not_str hk a.len hc

theorem groups_lt {k v n : Nat} (h : (10 ^ 9) ^ k ≤ v) (hv : v < B32 ^ n) : k < 2 * n := by
  have h1 : (2 ^ 16) ^ k ≤ (10 ^ 9) ^ k := Nat.pow_le_pow_left (by decide) k
  have h2 : B32 ^ n = (2 ^ 16) ^ (2 * n) := by rw [Nat.pow_mul]; rfl
  rw [h2] at hv
  exact (Nat.pow_lt_pow_iff_right (by decide)).1 (Nat.lt_of_le_of_lt (Nat.le_trans h1 h) hv)

theorem digits_le {v n : Nat} (hn : 1 ≤ n) (hv : v < B32 ^ n) : Lib.nDigits v ≤ 10 * n := by
  have h2 : B32 ^ n ≤ 10 ^ (10 * n) := by rw [Nat.pow_mul]; exact Nat.pow_le_pow_left (by decide) n
  exact (padK_dec (10 * n) v (Nat.lt_of_lt_of_le hv h2) (by omega)).2

theorem dec_ne (v : Nat) : Lib.decDigits v ≠ [] := fun e => by
  have h1 := dec_length v
  have h2 := Lib.nDigits_pos v
  rw [e, List.length_nil] at h1
  omega

theorem text_c {h : Heap} {A : Option Addr} {n c v : Nat} (u : IsN h A n c v) (hn : n ≤ 4294967296)
    (hF : ∀ (r : Nat) (h' : Heap), r ≤ v → r < 10 ^ 9 → Le h h' → CallsU Tryz.prog 93 [.int .u64 r, .int .i64 10] h' fun s h'' => s = sv (Lib.decDigits r) ∧ h' = h'') :
    CallsU Tryz.prog 41 [.slice A n c] h fun r h' => r = sv (Lib.decDigits v) ∧ Le h h' := by
  apply natural_Text_ok
  refine (trim_n u (by omega)).mono ?_
  rintro _ _ ⟨n', rfl, hn', nv, rfl⟩
  have hz := NmN.zero_iff nv
  have hvlt : v < B32 ^ n := u.lt
  refine ⟨_, _, _, rfl, Br.mk (fun q => ?_) (fun q => ?_)⟩
  · have : v = 0 := by simp at q; omega
    subst this
    exact ⟨by rw [dec_lt (by decide)]; rfl, Le.refl _⟩
  · have hv0 : v ≠ 0 := by simp at q; omega
    have hn1 : 1 ≤ n := by simp at q; omega
    have hB : Sz v n := hvlt
    refine ⟨fun x aA an ac gA gn gc h' => ∃ gs, NmN h' aA an ac x ∧ Own h h' gA gn gc gs ∧ Le h h' ∧ preD x ++ gs.reverse.flatten = Lib.decDigits v ∧ x * (10 ^ 9) ^ gs.length ≤ v ∧ gs.length ≤ 2 * n,
      ⟨v, [], nv, ⟨rfl, Or.inl ⟨rfl, rfl, rfl⟩⟩, Le.refl _, by simp [preD, hv0], by simp, by simp⟩, ?_⟩
    rintro x aA an ac gA gn gc h2 ⟨gs, nx, own, hl, hdig, hxk, hgl⟩
    have hxz := NmN.zero_iff nx
    have hgn := own.1
    have hpk : 0 < (10 ^ 9) ^ gs.length := Nat.pow_pos (by decide)
    have hxv : x ≤ v := Nat.le_trans (Nat.le_mul_of_pos_right _ hpk) hxk
    have han := NmN.le_of nx (hB.le hxv)
    refine Br.mk (fun q2 => ?_) (fun q2 => ?_)
    · have hx0 : x ≠ 0 := by simp at q2; omega
      have hk : gs.length < 2 * n := by
        refine groups_lt (v := v) ?_ hvlt
        have := Nat.mul_le_mul_right ((10 ^ 9) ^ gs.length) (show 1 ≤ x by omega)
        omega
      have hdiv : x / 10 ^ 9 < x := Nat.div_lt_self (by omega) (by decide)
      have hmodlt : x % 10 ^ 9 < 10 ^ 9 := Nat.mod_lt _ (by decide)
      have hxk' : x / 10 ^ 9 * (10 ^ 9) ^ (gs.length + 1) ≤ v := by
        refine Nat.le_trans ?_ hxk
        rw [show (10 ^ 9) ^ (gs.length + 1) = (10 ^ 9) ^ gs.length * 10 ^ 9 from Nat.pow_succ _ _, Nat.mul_comm _ (10 ^ 9), ← Nat.mul_assoc]
        exact Nat.mul_le_mul_right _ (Nat.div_mul_le_self _ _)
      refine (short_c nx.is (by omega) (d := 1000000000) (by decide) (by decide)).mono ?_
      rintro _ h3 ⟨A3, n3, c3, rfl, n3N, hl3⟩
      have hz3 := NmN.zero_iff n3N
      refine ⟨_, _, _, _, rfl, ?_⟩
      rw [wu (n := x % 1000000000) rfl (by omega)]
      refine (hF (x % 10 ^ 9) h3 (Nat.le_trans (Nat.mod_le _ _) hxv) hmodlt (hl.trans hl3)).mono ?_
      rintro _ _ ⟨rfl, rfl⟩
      refine ⟨_, rfl, ?_⟩
      have own3 := own.le hl3
      have fin : ∀ (A' : Option Addr) (c' : Nat) (h' : Heap) (g0 : Nat), h3 g0 = none → Own h h' A' (gn + 1) c' (gs ++ [grp x]) → Le h h' → (∀ k, k ≠ g0 → h3 k ≠ none → (∀ ad, gA = some ad → k ≠ ad.block) → h' k = h3 k) →
          ∃ m_1, m_1 < x ∧ ∃ gs, NmN h' A3 n3 c3 m_1 ∧ Own h h' A' (gn + 1) c' gs ∧ Le h h' ∧ preD m_1 ++ gs.reverse.flatten = Lib.decDigits v ∧ m_1 * (10 ^ 9) ^ gs.length ≤ v ∧ gs.length ≤ 2 * n := by
        intro A' c' h' g0 hg0 o l a
        refine ⟨x / 10 ^ 9, hdiv, gs ++ [grp x], n3N.app own3 hg0 a, o, l, ?_, by rw [List.length_append, List.length_singleton]; exact hxk', by simp; omega⟩
        rw [List.reverse_append, List.reverse_singleton, List.flatten_append, List.flatten_singleton, ← List.append_assoc, preD_step, ← hdig]
        rw [preD, if_neg hx0]
      refine Br.mk (fun q3 => ?_) (fun q3 => ?_)
      · have h30 : x / 10 ^ 9 ≠ 0 := by
          intro e; have := hz3.2 e; simp at q3; omega
        have hpd := padK_dec 9 (x % 10 ^ 9) hmodlt (by omega)
        have hg : grp x = List.replicate (9 - Lib.nDigits (x % 10 ^ 9)) 48 ++ Lib.decDigits (x % 10 ^ 9) := by rw [grp, if_neg h30, hpd.1]
        have hlen := dec_length (x % 10 ^ 9)
        have hb2 : Lib.nDigits (x % 1000000000) ≤ 9 := hpd.2
        rw [ba_size, hlen]
        rintro _ rfl
        rw [wi (n := 9 - Lib.nDigits (x % 10 ^ 9)) (by omega) (by omega)]
        refine (repeat_c [48] (9 - Lib.nDigits (x % 10 ^ 9)) h3 (by omega) (by simp; omega)).mono ?_
        rintro _ _ ⟨rfl, rfl⟩
        refine ⟨_, rfl, ?_⟩
        rw [ba_size, ba_append, repeatL_48, ← hg]
        refine ⟨by simp; omega, ?_⟩
        rintro g0 _ hg0 rfl
        exact own3.app (hl.trans hl3) hg0 (by omega) (fun A' c' h' o l a => fin A' c' h' g0 hg0 o l a)
      · have h30 : x / 10 ^ 9 = 0 := by
          have : n3 = 0 := by simp at q3; omega
          exact hz3.1 this
        have hg : grp x = Lib.decDigits (x % 10 ^ 9) := by rw [grp, if_pos h30]
        rw [← hg]
        rintro g0 _ hg0 rfl
        exact own3.app (hl.trans hl3) hg0 (by omega) (fun A' c' h' o l a => fin A' c' h' g0 hg0 o l a)
    · have hx0 : x = 0 := by simp at q2; omega
      subst hx0
      rw [preD, if_pos rfl, List.nil_append] at hdig
      rcases own.2 with ⟨_, e, _⟩ | ⟨g, zs, rfl, hg0, hgb, hgc⟩
      · exfalso
        have : gs = [] := List.length_eq_zero_iff.1 (by omega)
        rw [this] at hdig
        exact dec_ne v hdig.symm
      · refine (reverse_c (zs := gs) hgb hgn (by omega)).mono ?_
        rintro _ _ ⟨rfl, rfl⟩
        refine ⟨rfl, ?_⟩
        have hfl : gs.reverse.flatten.length ≤ 10 * n := by rw [hdig, dec_length]; exact digits_le hn1 hvlt
        refine (join_c (zs := gs.reverse) (Heap.put_same _ _ _) (by rw [List.length_reverse]; exact hgn) (by rw [hgc]; simp; omega) (by omega) (by omega)).mono ?_
        rintro _ _ ⟨rfl, rfl⟩
        exact ⟨_, rfl, by rw [hdig], hl.put hg0 _⟩

/-- An integer's decimal text. -/
def itx (z : Int) : List UInt8 := if z < 0 then 45 :: Lib.decDigits z.natAbs else Lib.decDigits z.natAbs

/-- A ratio's text. -/
def rtx (q : Rat) : List UInt8 := if q.den = 1 then itx q.num else itx q.num ++ [47] ++ Lib.decDigits q.den

end Go.Proofs.YtccplhjglhdopaaGreatDoor

/-
  Contracts: draws.Sample, sampling.Draw; references 53: SameInts, Check.
-/
namespace Go.Proofs.YtccplhjglhdopaaGreatDoor
open Go Go.Vcg
attribute [local irreducible] Br

theorem iv_one (y : Int) : Go.Vcg.one (iv y) = true := rfl

/-! ### references of 53 -/
/-- What Draw returns. -/
def DrawR (d n c lot : Int) (r : Value) (h h' : Heap) : Prop :=
  (okP n c lot = false ∧ r = .tuple #[.int .u64 0, .slice none 0 0, .int .i64 3] ∧ h = h') ∨
  (okP n c lot = true ∧ ∃ A k, r = .tuple #[.int .u64 (shuf d lot.toNat).1, .slice A n.toNat k, .int .i64 0] ∧ Sl iv h' A n.toNat k (asc ((shuf d lot.toNat).2.take n.toNat)) ∧ Le h h')

end Go.Proofs.YtccplhjglhdopaaGreatDoor

/- Made by vcgen.py: verification conditions of functions, each held against the calculator by the kernel. -/
namespace Go.Proofs.YtccplhjglhdopaaGreatDoor
open Go Go.Vcg

def law04_MeasureParses_vc (s : ByteArray) (h : Heap) (R : Value → Heap → Prop) : Prop :=
 Br (decide (((s.size : Nat) : Int) > 60))
  (CallsU Tryz.prog 11 [] h fun v h_1 =>
 ∃ t10 : Bool, v = Value.bool t10 ∧
 R (Value.bool t10) h_1)
  (CallsU Tryz.prog 12 [Value.string s] h fun v_1 h_2 =>
 ∃ t13_0_0 : Bool, ∃ t13_0_1A : Option Addr, ∃ t13_0_1n t13_0_1c : Nat, ∃ t13_0_2A : Option Addr, ∃ t13_0_2n t13_0_2c : Nat, ∃ t13_1 : Int, v_1 = Value.tuple #[Value.agg #[Value.bool t13_0_0, Value.slice t13_0_1A t13_0_1n t13_0_1c, Value.slice t13_0_2A t13_0_2n t13_0_2c], Value.int .i64 t13_1] ∧
 CallsU Tryz.prog 13 [Value.string s] h_2 fun v_2 h_3 =>
 ∃ t18_0_0 : Bool, ∃ t18_0_1A : Option Addr, ∃ t18_0_1n t18_0_1c : Nat, ∃ t18_0_2A : Option Addr, ∃ t18_0_2n t18_0_2c : Nat, ∃ t18_1 : Int, v_2 = Value.tuple #[Value.agg #[Value.bool t18_0_0, Value.slice t18_0_1A t18_0_1n t18_0_1c, Value.slice t18_0_2A t18_0_2n t18_0_2c], Value.int .i64 t18_1] ∧
 CallsU Tryz.prog 14 [Value.agg #[Value.bool t13_0_0, Value.slice t13_0_1A t13_0_1n t13_0_1c, Value.slice t13_0_2A t13_0_2n t13_0_2c], Value.agg #[Value.bool t18_0_0, Value.slice t18_0_1A t18_0_1n t18_0_1c, Value.slice t18_0_2A t18_0_2n t18_0_2c]] h_3 fun v_3 h_4 =>
 ∃ t23 : Bool, v_3 = Value.bool t23 ∧
 Br (t23)
  (Br ((t13_1 : Int) == t18_1)
  (CallsU Tryz.prog 11 [] h_4 fun v_4 h_5 =>
 ∃ t30 : Bool, v_4 = Value.bool t30 ∧
 R (Value.bool t30) h_5)
  (R (Value.bool false) h_4))
  (R (Value.bool false) h_4))

set_option maxRecDepth 100000 in
theorem law04_MeasureParses_ok {s : ByteArray} {h : Heap} {R : Value → Heap → Prop} (hv : law04_MeasureParses_vc s h R) : CallsU Tryz.prog 3 [Value.string s] h R :=
  fn_sound Tryz.func3 (by kernel_rfl) (by kernel_rfl) (by kernel_rfl) (fun _ => false) .nil [Value.string s] h R (by kernel_rfl)
    (Eq.mp (show law04_MeasureParses_vc s h R = fnV Tryz.prog Tryz.f3 (fun _ => false) .nil [Value.string s] h R by kernel_rfl) hv)

def law04_MeasureFormats_vc (r_0 : Bool) (r_1A : Option Addr) (r_1n r_1c : Nat) (r_2A : Option Addr) (r_2n r_2c : Nat) (h : Heap) (R : Value → Heap → Prop) : Prop :=
 CallsU Tryz.prog 15 [Value.agg #[Value.bool r_0, Value.slice r_1A r_1n r_1c, Value.slice r_2A r_2n r_2c], Value.int .i64 24] h fun v h_1 =>
 ∃ t8 : Bool, v = Value.bool t8 ∧
 Br (!t8)
  (CallsU Tryz.prog 11 [] h_1 fun v_1 h_2 =>
 ∃ t10 : Bool, v_1 = Value.bool t10 ∧
 R (Value.bool t10) h_2)
  (CallsU Tryz.prog 16 [Value.agg #[Value.bool r_0, Value.slice r_1A r_1n r_1c, Value.slice r_2A r_2n r_2c]] h_1 fun v_2 h_3 =>
 ∃ t13_0 : ByteArray, ∃ t13_1 : Int, v_2 = Value.tuple #[Value.string t13_0, Value.int .i64 t13_1] ∧
 CallsU Tryz.prog 17 [Value.agg #[Value.bool r_0, Value.slice r_1A r_1n r_1c, Value.slice r_2A r_2n r_2c]] h_3 fun v_3 h_4 =>
 ∃ t18_0 : ByteArray, ∃ t18_1 : Int, v_3 = Value.tuple #[Value.string t18_0, Value.int .i64 t18_1] ∧
 Br (t13_0.toList == t18_0.toList)
  (Br ((t13_1 : Int) == t18_1)
  (CallsU Tryz.prog 11 [] h_4 fun v_4 h_5 =>
 ∃ t30 : Bool, v_4 = Value.bool t30 ∧
 R (Value.bool t30) h_5)
  (R (Value.bool false) h_4))
  (R (Value.bool false) h_4))

set_option maxRecDepth 100000 in
theorem law04_MeasureFormats_ok {r_0 : Bool} {r_1A : Option Addr} {r_1n r_1c : Nat} {r_2A : Option Addr} {r_2n r_2c : Nat} {h : Heap} {R : Value → Heap → Prop} (hv : law04_MeasureFormats_vc r_0 r_1A r_1n r_1c r_2A r_2n r_2c h R) : CallsU Tryz.prog 4 [Value.agg #[Value.bool r_0, Value.slice r_1A r_1n r_1c, Value.slice r_2A r_2n r_2c]] h R :=
  fn_sound Tryz.func4 (by kernel_rfl) (by kernel_rfl) (by kernel_rfl) (fun _ => false) .nil [Value.agg #[Value.bool r_0, Value.slice r_1A r_1n r_1c, Value.slice r_2A r_2n r_2c]] h R (by kernel_rfl)
    (Eq.mp (show law04_MeasureFormats_vc r_0 r_1A r_1n r_1c r_2A r_2n r_2c h R = fnV Tryz.prog Tryz.f4 (fun _ => false) .nil [Value.agg #[Value.bool r_0, Value.slice r_1A r_1n r_1c, Value.slice r_2A r_2n r_2c]] h R by kernel_rfl) hv)

def law04_MeasureUnits_vc (r_0 : Bool) (r_1A : Option Addr) (r_1n r_1c : Nat) (r_2A : Option Addr) (r_2n r_2c : Nat) (h : Heap) (R : Value → Heap → Prop) : Prop :=
 CallsU Tryz.prog 15 [Value.agg #[Value.bool r_0, Value.slice r_1A r_1n r_1c, Value.slice r_2A r_2n r_2c], Value.int .i64 24] h fun v h_1 =>
 ∃ t8 : Bool, v = Value.bool t8 ∧
 Br (!t8)
  (CallsU Tryz.prog 11 [] h_1 fun v_1 h_2 =>
 ∃ t10 : Bool, v_1 = Value.bool t10 ∧
 R (Value.bool t10) h_2)
  (CallsU Tryz.prog 18 [Value.agg #[Value.bool r_0, Value.slice r_1A r_1n r_1c, Value.slice r_2A r_2n r_2c]] h_1 fun v_2 h_3 =>
 ∃ t13_0 : Int, ∃ t13_1 : Int, v_2 = Value.tuple #[Value.int .i64 t13_0, Value.int .i64 t13_1] ∧
 CallsU Tryz.prog 19 [Value.agg #[Value.bool r_0, Value.slice r_1A r_1n r_1c, Value.slice r_2A r_2n r_2c]] h_3 fun v_3 h_4 =>
 ∃ t18_0 : Int, ∃ t18_1 : Int, v_3 = Value.tuple #[Value.int .i64 t18_0, Value.int .i64 t18_1] ∧
 Br ((t13_0 : Int) == t18_0)
  (Br ((t13_1 : Int) == t18_1)
  (CallsU Tryz.prog 11 [] h_4 fun v_4 h_5 =>
 ∃ t30 : Bool, v_4 = Value.bool t30 ∧
 R (Value.bool t30) h_5)
  (R (Value.bool false) h_4))
  (R (Value.bool false) h_4))

set_option maxRecDepth 100000 in
theorem law04_MeasureUnits_ok {r_0 : Bool} {r_1A : Option Addr} {r_1n r_1c : Nat} {r_2A : Option Addr} {r_2n r_2c : Nat} {h : Heap} {R : Value → Heap → Prop} (hv : law04_MeasureUnits_vc r_0 r_1A r_1n r_1c r_2A r_2n r_2c h R) : CallsU Tryz.prog 5 [Value.agg #[Value.bool r_0, Value.slice r_1A r_1n r_1c, Value.slice r_2A r_2n r_2c]] h R :=
  fn_sound Tryz.func5 (by kernel_rfl) (by kernel_rfl) (by kernel_rfl) (fun _ => false) .nil [Value.agg #[Value.bool r_0, Value.slice r_1A r_1n r_1c, Value.slice r_2A r_2n r_2c]] h R (by kernel_rfl)
    (Eq.mp (show law04_MeasureUnits_vc r_0 r_1A r_1n r_1c r_2A r_2n r_2c h R = fnV Tryz.prog Tryz.f5 (fun _ => false) .nil [Value.agg #[Value.bool r_0, Value.slice r_1A r_1n r_1c, Value.slice r_2A r_2n r_2c]] h R by kernel_rfl) hv)

def law04_MeasureRoundTrip_vc (r_0 : Bool) (r_1A : Option Addr) (r_1n r_1c : Nat) (r_2A : Option Addr) (r_2n r_2c : Nat) (s : ByteArray) (h : Heap) (R : Value → Heap → Prop) : Prop :=
 ∃ C : Bool → Heap → Prop, (∀ (t22 : Bool) (h_1 : Heap), C t22 h_1 →
 Br (t22)
  (CallsU Tryz.prog 11 [] h_1 fun v h_2 =>
 ∃ t23 : Bool, v = Value.bool t23 ∧
 R (Value.bool t23) h_2)
  (CallsU Tryz.prog 16 [Value.agg #[Value.bool r_0, Value.slice r_1A r_1n r_1c, Value.slice r_2A r_2n r_2c]] h_1 fun v_1 h_3 =>
 ∃ t26_0 : ByteArray, ∃ t26_1 : Int, v_1 = Value.tuple #[Value.string t26_0, Value.int .i64 t26_1] ∧
 CallsU Tryz.prog 12 [Value.string t26_0] h_3 fun v_2 h_4 =>
 ∃ t31_0_0 : Bool, ∃ t31_0_1A : Option Addr, ∃ t31_0_1n t31_0_1c : Nat, ∃ t31_0_2A : Option Addr, ∃ t31_0_2n t31_0_2c : Nat, ∃ t31_1 : Int, v_2 = Value.tuple #[Value.agg #[Value.bool t31_0_0, Value.slice t31_0_1A t31_0_1n t31_0_1c, Value.slice t31_0_2A t31_0_2n t31_0_2c], Value.int .i64 t31_1] ∧
 ∃ C_1 : Heap → Prop, (∀  (h_5 : Heap), C_1 h_5 →
 CallsU Tryz.prog 12 [Value.string s] h_5 fun v_3 h_6 =>
 ∃ t48_0_0 : Bool, ∃ t48_0_1A : Option Addr, ∃ t48_0_1n t48_0_1c : Nat, ∃ t48_0_2A : Option Addr, ∃ t48_0_2n t48_0_2c : Nat, ∃ t48_1 : Int, v_3 = Value.tuple #[Value.agg #[Value.bool t48_0_0, Value.slice t48_0_1A t48_0_1n t48_0_1c, Value.slice t48_0_2A t48_0_2n t48_0_2c], Value.int .i64 t48_1] ∧
 Br ((t48_1 : Int) != 0)
  (CallsU Tryz.prog 11 [] h_6 fun v_4 h_7 =>
 ∃ t53 : Bool, v_4 = Value.bool t53 ∧
 R (Value.bool t53) h_7)
  (CallsU Tryz.prog 16 [Value.agg #[Value.bool t48_0_0, Value.slice t48_0_1A t48_0_1n t48_0_1c, Value.slice t48_0_2A t48_0_2n t48_0_2c]] h_6 fun v_5 h_8 =>
 ∃ t56_0 : ByteArray, ∃ t56_1 : Int, v_5 = Value.tuple #[Value.string t56_0, Value.int .i64 t56_1] ∧
 CallsU Tryz.prog 12 [Value.string t56_0] h_8 fun v_6 h_9 =>
 ∃ t61_0_0 : Bool, ∃ t61_0_1A : Option Addr, ∃ t61_0_1n t61_0_1c : Nat, ∃ t61_0_2A : Option Addr, ∃ t61_0_2n t61_0_2c : Nat, ∃ t61_1 : Int, v_6 = Value.tuple #[Value.agg #[Value.bool t61_0_0, Value.slice t61_0_1A t61_0_1n t61_0_1c, Value.slice t61_0_2A t61_0_2n t61_0_2c], Value.int .i64 t61_1] ∧
 Br ((t56_1 : Int) == 3)
  (CallsU Tryz.prog 11 [] h_9 fun v_7 h_10 =>
 ∃ t81 : Bool, v_7 = Value.bool t81 ∧
 R (Value.bool t81) h_10)
  (Br ((t56_1 : Int) == 0)
  (Br ((t61_1 : Int) == 0)
  (CallsU Tryz.prog 20 [Value.agg #[Value.bool t48_0_0, Value.slice t48_0_1A t48_0_1n t48_0_1c, Value.slice t48_0_2A t48_0_2n t48_0_2c], Value.agg #[Value.bool t61_0_0, Value.slice t61_0_1A t61_0_1n t61_0_1c, Value.slice t61_0_2A t61_0_2n t61_0_2c]] h_9 fun v_8 h_11 =>
 ∃ t76 : Int, v_8 = Value.int .i64 t76 ∧
 Br ((t76 : Int) == 0)
  (CallsU Tryz.prog 11 [] h_11 fun v_9 h_12 =>
 ∃ t81_1 : Bool, v_9 = Value.bool t81_1 ∧
 R (Value.bool t81_1) h_12)
  (R (Value.bool false) h_11))
  (R (Value.bool false) h_9))
  (R (Value.bool false) h_9)))) ∧
 Br ((t26_1 : Int) == 0)
  (Br ((t31_1 : Int) != 0)
  (R (Value.bool false) h_4)
  (CallsU Tryz.prog 20 [Value.agg #[Value.bool t31_0_0, Value.slice t31_0_1A t31_0_1n t31_0_1c, Value.slice t31_0_2A t31_0_2n t31_0_2c], Value.agg #[Value.bool r_0, Value.slice r_1A r_1n r_1c, Value.slice r_2A r_2n r_2c]] h_4 fun v_10 h_13 =>
 ∃ t42 : Int, v_10 = Value.int .i64 t42 ∧
 Br ((t42 : Int) != 0)
  (R (Value.bool false) h_13)
  (C_1 h_13)))
  (C_1 h_4))) ∧
 CallsU Tryz.prog 15 [Value.agg #[Value.bool r_0, Value.slice r_1A r_1n r_1c, Value.slice r_2A r_2n r_2c], Value.int .i64 24] h fun v_11 h_14 =>
 ∃ t16 : Bool, v_11 = Value.bool t16 ∧
 Br (!t16)
  (C true h_14)
  (C (decide (((s.size : Nat) : Int) > 60)) h_14)

set_option maxRecDepth 100000 in
theorem law04_MeasureRoundTrip_ok {r_0 : Bool} {r_1A : Option Addr} {r_1n r_1c : Nat} {r_2A : Option Addr} {r_2n r_2c : Nat} {s : ByteArray} {h : Heap} {R : Value → Heap → Prop} (hv : law04_MeasureRoundTrip_vc r_0 r_1A r_1n r_1c r_2A r_2n r_2c s h R) : CallsU Tryz.prog 6 [Value.agg #[Value.bool r_0, Value.slice r_1A r_1n r_1c, Value.slice r_2A r_2n r_2c], Value.string s] h R :=
  fn_sound Tryz.func6 (by kernel_rfl) (by kernel_rfl) (by kernel_rfl) (fun _ => false) (.two .nil (.two (.cut ⟨[(22, Sh.bool)], []⟩ .nil .nil) (.two .nil (.two .nil (.cut ⟨[], []⟩ .nil .nil))))) [Value.agg #[Value.bool r_0, Value.slice r_1A r_1n r_1c, Value.slice r_2A r_2n r_2c], Value.string s] h R (by kernel_rfl)
    (Eq.mp (show law04_MeasureRoundTrip_vc r_0 r_1A r_1n r_1c r_2A r_2n r_2c s h R = fnV Tryz.prog Tryz.f6 (fun _ => false) (.two .nil (.two (.cut ⟨[(22, Sh.bool)], []⟩ .nil .nil) (.two .nil (.two .nil (.cut ⟨[], []⟩ .nil .nil))))) [Value.agg #[Value.bool r_0, Value.slice r_1A r_1n r_1c, Value.slice r_2A r_2n r_2c], Value.string s] h R by kernel_rfl) hv)

def law04_MeasureSigns_vc (r_0 : Bool) (r_1A : Option Addr) (r_1n r_1c : Nat) (r_2A : Option Addr) (r_2n r_2c : Nat) (s : ByteArray) (h : Heap) (R : Value → Heap → Prop) : Prop :=
 ∃ C : Heap → Prop, (∀  (h_1 : Heap), C h_1 →
 CallsU Tryz.prog 12 [Value.string s] h_1 fun v h_2 =>
 ∃ t35_0_0 : Bool, ∃ t35_0_1A : Option Addr, ∃ t35_0_1n t35_0_1c : Nat, ∃ t35_0_2A : Option Addr, ∃ t35_0_2n t35_0_2c : Nat, ∃ t35_1 : Int, v = Value.tuple #[Value.agg #[Value.bool t35_0_0, Value.slice t35_0_1A t35_0_1n t35_0_1c, Value.slice t35_0_2A t35_0_2n t35_0_2c], Value.int .i64 t35_1] ∧
 (((⟨#[45]⟩ : ByteArray).size + s.size : Nat) : Int) ≤ 9223372036854775807 ∧
 CallsU Tryz.prog 12 [Value.string ((⟨#[45]⟩ : ByteArray) ++ s)] h_2 fun v_1 h_3 =>
 ∃ t41_0_0 : Bool, ∃ t41_0_1A : Option Addr, ∃ t41_0_1n t41_0_1c : Nat, ∃ t41_0_2A : Option Addr, ∃ t41_0_2n t41_0_2c : Nat, ∃ t41_1 : Int, v_1 = Value.tuple #[Value.agg #[Value.bool t41_0_0, Value.slice t41_0_1A t41_0_1n t41_0_1c, Value.slice t41_0_2A t41_0_2n t41_0_2c], Value.int .i64 t41_1] ∧
 ∃ C_1 : Heap → Prop, (∀  (h_4 : Heap), C_1 h_4 →
 CallsU Tryz.prog 16 [Value.agg #[Value.bool r_0, Value.slice r_1A r_1n r_1c, Value.slice r_2A r_2n r_2c]] h_4 fun v_2 h_5 =>
 ∃ t60_0 : ByteArray, ∃ t60_1 : Int, v_2 = Value.tuple #[Value.string t60_0, Value.int .i64 t60_1] ∧
 CallsU Tryz.prog 21 [Value.agg #[Value.bool r_0, Value.slice r_1A r_1n r_1c, Value.slice r_2A r_2n r_2c]] h_5 fun v_3 h_6 =>
 ∃ t65_0 : Bool, ∃ t65_1A : Option Addr, ∃ t65_1n t65_1c : Nat, ∃ t65_2A : Option Addr, ∃ t65_2n t65_2c : Nat, v_3 = Value.agg #[Value.bool t65_0, Value.slice t65_1A t65_1n t65_1c, Value.slice t65_2A t65_2n t65_2c] ∧
 CallsU Tryz.prog 16 [Value.agg #[Value.bool t65_0, Value.slice t65_1A t65_1n t65_1c, Value.slice t65_2A t65_2n t65_2c]] h_6 fun v_4 h_7 =>
 ∃ t66_0 : ByteArray, ∃ t66_1 : Int, v_4 = Value.tuple #[Value.string t66_0, Value.int .i64 t66_1] ∧
 Br ((t60_1 : Int) != t66_1)
  (R (Value.bool false) h_7)
  (CallsU Tryz.prog 20 [Value.agg #[Value.bool r_0, Value.slice r_1A r_1n r_1c, Value.slice r_2A r_2n r_2c], Value.agg #[Value.bool false, Value.slice none 0 0, Value.slice none 0 0]] h_7 fun v_5 h_8 =>
 ∃ t74 : Int, v_5 = Value.int .i64 t74 ∧
 Br ((t60_1 : Int) != 0)
  (CallsU Tryz.prog 11 [] h_8 fun v_6 h_9 =>
 ∃ t111 : Bool, v_6 = Value.bool t111 ∧
 R (Value.bool t111) h_9)
  (Br ((t74 : Int) == 0)
  (Br (t60_0.toList == (⟨#[48, 109, 109]⟩ : ByteArray).toList)
  (Br (t66_0.toList == t60_0.toList)
  (CallsU Tryz.prog 11 [] h_8 fun v_7 h_10 =>
 ∃ t111_1 : Bool, v_7 = Value.bool t111_1 ∧
 R (Value.bool t111_1) h_10)
  (Br (decide (t74 > 0))
  ((((⟨#[45]⟩ : ByteArray).size + t60_0.size : Nat) : Int) ≤ 9223372036854775807 ∧
 Br (t66_0.toList == ((⟨#[45]⟩ : ByteArray) ++ t60_0).toList)
  (CallsU Tryz.prog 11 [] h_8 fun v_8 h_11 =>
 ∃ t111_2 : Bool, v_8 = Value.bool t111_2 ∧
 R (Value.bool t111_2) h_11)
  (Br (decide (t74 < 0))
  ((((⟨#[45]⟩ : ByteArray).size + t66_0.size : Nat) : Int) ≤ 9223372036854775807 ∧
 Br (t60_0.toList == ((⟨#[45]⟩ : ByteArray) ++ t66_0).toList)
  (CallsU Tryz.prog 11 [] h_8 fun v_9 h_12 =>
 ∃ t111_3 : Bool, v_9 = Value.bool t111_3 ∧
 R (Value.bool t111_3) h_12)
  (R (Value.bool false) h_8))
  (R (Value.bool false) h_8)))
  (Br (decide (t74 < 0))
  ((((⟨#[45]⟩ : ByteArray).size + t66_0.size : Nat) : Int) ≤ 9223372036854775807 ∧
 Br (t60_0.toList == ((⟨#[45]⟩ : ByteArray) ++ t66_0).toList)
  (CallsU Tryz.prog 11 [] h_8 fun v_10 h_13 =>
 ∃ t111_4 : Bool, v_10 = Value.bool t111_4 ∧
 R (Value.bool t111_4) h_13)
  (R (Value.bool false) h_8))
  (R (Value.bool false) h_8))))
  (Br (decide (t74 > 0))
  ((((⟨#[45]⟩ : ByteArray).size + t60_0.size : Nat) : Int) ≤ 9223372036854775807 ∧
 Br (t66_0.toList == ((⟨#[45]⟩ : ByteArray) ++ t60_0).toList)
  (CallsU Tryz.prog 11 [] h_8 fun v_11 h_14 =>
 ∃ t111_5 : Bool, v_11 = Value.bool t111_5 ∧
 R (Value.bool t111_5) h_14)
  (Br (decide (t74 < 0))
  ((((⟨#[45]⟩ : ByteArray).size + t66_0.size : Nat) : Int) ≤ 9223372036854775807 ∧
 Br (t60_0.toList == ((⟨#[45]⟩ : ByteArray) ++ t66_0).toList)
  (CallsU Tryz.prog 11 [] h_8 fun v_12 h_15 =>
 ∃ t111_6 : Bool, v_12 = Value.bool t111_6 ∧
 R (Value.bool t111_6) h_15)
  (R (Value.bool false) h_8))
  (R (Value.bool false) h_8)))
  (Br (decide (t74 < 0))
  ((((⟨#[45]⟩ : ByteArray).size + t66_0.size : Nat) : Int) ≤ 9223372036854775807 ∧
 Br (t60_0.toList == ((⟨#[45]⟩ : ByteArray) ++ t66_0).toList)
  (CallsU Tryz.prog 11 [] h_8 fun v_13 h_16 =>
 ∃ t111_7 : Bool, v_13 = Value.bool t111_7 ∧
 R (Value.bool t111_7) h_16)
  (R (Value.bool false) h_8))
  (R (Value.bool false) h_8))))
  (Br (decide (t74 > 0))
  ((((⟨#[45]⟩ : ByteArray).size + t60_0.size : Nat) : Int) ≤ 9223372036854775807 ∧
 Br (t66_0.toList == ((⟨#[45]⟩ : ByteArray) ++ t60_0).toList)
  (CallsU Tryz.prog 11 [] h_8 fun v_14 h_17 =>
 ∃ t111_8 : Bool, v_14 = Value.bool t111_8 ∧
 R (Value.bool t111_8) h_17)
  (Br (decide (t74 < 0))
  ((((⟨#[45]⟩ : ByteArray).size + t66_0.size : Nat) : Int) ≤ 9223372036854775807 ∧
 Br (t60_0.toList == ((⟨#[45]⟩ : ByteArray) ++ t66_0).toList)
  (CallsU Tryz.prog 11 [] h_8 fun v_15 h_18 =>
 ∃ t111_9 : Bool, v_15 = Value.bool t111_9 ∧
 R (Value.bool t111_9) h_18)
  (R (Value.bool false) h_8))
  (R (Value.bool false) h_8)))
  (Br (decide (t74 < 0))
  ((((⟨#[45]⟩ : ByteArray).size + t66_0.size : Nat) : Int) ≤ 9223372036854775807 ∧
 Br (t60_0.toList == ((⟨#[45]⟩ : ByteArray) ++ t66_0).toList)
  (CallsU Tryz.prog 11 [] h_8 fun v_16 h_19 =>
 ∃ t111_10 : Bool, v_16 = Value.bool t111_10 ∧
 R (Value.bool t111_10) h_19)
  (R (Value.bool false) h_8))
  (R (Value.bool false) h_8)))))) ∧
 Br ((t35_1 : Int) != t41_1)
  (LeH h_3 h_3 ∧
 R (Value.bool false) h_3)
  (Br ((t35_1 : Int) == 0)
  (CallsU Tryz.prog 21 [Value.agg #[Value.bool t35_0_0, Value.slice t35_0_1A t35_0_1n t35_0_1c, Value.slice t35_0_2A t35_0_2n t35_0_2c]] h_3 fun v_17 h_20 =>
 ∃ t52_0 : Bool, ∃ t52_1A : Option Addr, ∃ t52_1n t52_1c : Nat, ∃ t52_2A : Option Addr, ∃ t52_2n t52_2c : Nat, v_17 = Value.agg #[Value.bool t52_0, Value.slice t52_1A t52_1n t52_1c, Value.slice t52_2A t52_2n t52_2c] ∧
 LeH h_3 h_20 ∧
 CallsU Tryz.prog 20 [Value.agg #[Value.bool t52_0, Value.slice t52_1A t52_1n t52_1c, Value.slice t52_2A t52_2n t52_2c], Value.agg #[Value.bool t41_0_0, Value.slice t41_0_1A t41_0_1n t41_0_1c, Value.slice t41_0_2A t41_0_2n t41_0_2c]] h_20 fun v_18 h_21 =>
 ∃ t54 : Int, v_18 = Value.int .i64 t54 ∧
 Br ((t54 : Int) != 0)
  (R (Value.bool false) h_21)
  (C_1 h_21))
  (LeH h_3 h_3 ∧
 C_1 h_3))) ∧
 CallsU Tryz.prog 15 [Value.agg #[Value.bool r_0, Value.slice r_1A r_1n r_1c, Value.slice r_2A r_2n r_2c], Value.int .i64 24] h fun v_19 h_22 =>
 ∃ t15 : Bool, v_19 = Value.bool t15 ∧
 Br (!t15)
  (CallsU Tryz.prog 11 [] h_22 fun v_20 h_23 =>
 ∃ t32 : Bool, v_20 = Value.bool t32 ∧
 R (Value.bool t32) h_23)
  (Br (decide (((s.size : Nat) : Int) > 23))
  (CallsU Tryz.prog 11 [] h_22 fun v_21 h_24 =>
 ∃ t32_1 : Bool, v_21 = Value.bool t32_1 ∧
 R (Value.bool t32_1) h_24)
  (Br (decide (((s.size : Nat) : Int) > 0))
  (∃ c : UInt8, 0 ≤ (0 : Int) ∧ s[(0 : Nat)]? = some c ∧
 Br (((c.toNat : Int) : Int) == 45)
  (CallsU Tryz.prog 11 [] h_22 fun v_22 h_25 =>
 ∃ t32_2 : Bool, v_22 = Value.bool t32_2 ∧
 R (Value.bool t32_2) h_25)
  (C h_22))
  (C h_22)))

set_option maxRecDepth 100000 in
theorem law04_MeasureSigns_ok {r_0 : Bool} {r_1A : Option Addr} {r_1n r_1c : Nat} {r_2A : Option Addr} {r_2n r_2c : Nat} {s : ByteArray} {h : Heap} {R : Value → Heap → Prop} (hv : law04_MeasureSigns_vc r_0 r_1A r_1n r_1c r_2A r_2n r_2c s h R) : CallsU Tryz.prog 7 [Value.agg #[Value.bool r_0, Value.slice r_1A r_1n r_1c, Value.slice r_2A r_2n r_2c], Value.string s] h R :=
  fn_sound Tryz.func7 (by kernel_rfl) (by kernel_rfl) (by kernel_rfl) (fun _ => false) (.two .nil (.cut ⟨[], []⟩ .nil (.two .nil (.two .nil (.cut ⟨[], []⟩ (.two (.ord [0, 1, 2, 3, 4, 5, 6, 7, 9, 8, 10, 11, 12, 13]) .nil) .nil))))) [Value.agg #[Value.bool r_0, Value.slice r_1A r_1n r_1c, Value.slice r_2A r_2n r_2c], Value.string s] h R (by kernel_rfl)
    (Eq.mp (show law04_MeasureSigns_vc r_0 r_1A r_1n r_1c r_2A r_2n r_2c s h R = fnV Tryz.prog Tryz.f7 (fun _ => false) (.two .nil (.cut ⟨[], []⟩ .nil (.two .nil (.two .nil (.cut ⟨[], []⟩ (.two (.ord [0, 1, 2, 3, 4, 5, 6, 7, 9, 8, 10, 11, 12, 13]) .nil) .nil))))) [Value.agg #[Value.bool r_0, Value.slice r_1A r_1n r_1c, Value.slice r_2A r_2n r_2c], Value.string s] h R by kernel_rfl) hv)

def law04_MeasureScales_vc (s : ByteArray) (h : Heap) (R : Value → Heap → Prop) : Prop :=
 Br (decide (((s.size : Nat) : Int) > 22))
  (CallsU Tryz.prog 11 [] h fun v h_1 =>
 ∃ t20 : Bool, v = Value.bool t20 ∧
 R (Value.bool t20) h_1)
  (((s.size + (⟨#[109, 109]⟩ : ByteArray).size : Nat) : Int) ≤ 9223372036854775807 ∧
 CallsU Tryz.prog 12 [Value.string (s ++ (⟨#[109, 109]⟩ : ByteArray))] h fun v_1 h_2 =>
 ∃ t24_0_0 : Bool, ∃ t24_0_1A : Option Addr, ∃ t24_0_1n t24_0_1c : Nat, ∃ t24_0_2A : Option Addr, ∃ t24_0_2n t24_0_2c : Nat, ∃ t24_1 : Int, v_1 = Value.tuple #[Value.agg #[Value.bool t24_0_0, Value.slice t24_0_1A t24_0_1n t24_0_1c, Value.slice t24_0_2A t24_0_2n t24_0_2c], Value.int .i64 t24_1] ∧
 Br ((t24_1 : Int) != 0)
  (CallsU Tryz.prog 11 [] h_2 fun v_2 h_3 =>
 ∃ t29 : Bool, v_2 = Value.bool t29 ∧
 R (Value.bool t29) h_3)
  (((s.size + (⟨#[99, 109]⟩ : ByteArray).size : Nat) : Int) ≤ 9223372036854775807 ∧
 CallsU Tryz.prog 12 [Value.string (s ++ (⟨#[99, 109]⟩ : ByteArray))] h_2 fun v_3 h_4 =>
 ∃ t33_0_0 : Bool, ∃ t33_0_1A : Option Addr, ∃ t33_0_1n t33_0_1c : Nat, ∃ t33_0_2A : Option Addr, ∃ t33_0_2n t33_0_2c : Nat, ∃ t33_1 : Int, v_3 = Value.tuple #[Value.agg #[Value.bool t33_0_0, Value.slice t33_0_1A t33_0_1n t33_0_1c, Value.slice t33_0_2A t33_0_2n t33_0_2c], Value.int .i64 t33_1] ∧
 ((s.size + (⟨#[109]⟩ : ByteArray).size : Nat) : Int) ≤ 9223372036854775807 ∧
 CallsU Tryz.prog 12 [Value.string (s ++ (⟨#[109]⟩ : ByteArray))] h_4 fun v_4 h_5 =>
 ∃ t39_0_0 : Bool, ∃ t39_0_1A : Option Addr, ∃ t39_0_1n t39_0_1c : Nat, ∃ t39_0_2A : Option Addr, ∃ t39_0_2n t39_0_2c : Nat, ∃ t39_1 : Int, v_4 = Value.tuple #[Value.agg #[Value.bool t39_0_0, Value.slice t39_0_1A t39_0_1n t39_0_1c, Value.slice t39_0_2A t39_0_2n t39_0_2c], Value.int .i64 t39_1] ∧
 ((s.size + (⟨#[105, 110]⟩ : ByteArray).size : Nat) : Int) ≤ 9223372036854775807 ∧
 CallsU Tryz.prog 12 [Value.string (s ++ (⟨#[105, 110]⟩ : ByteArray))] h_5 fun v_5 h_6 =>
 ∃ t45_0_0 : Bool, ∃ t45_0_1A : Option Addr, ∃ t45_0_1n t45_0_1c : Nat, ∃ t45_0_2A : Option Addr, ∃ t45_0_2n t45_0_2c : Nat, ∃ t45_1 : Int, v_5 = Value.tuple #[Value.agg #[Value.bool t45_0_0, Value.slice t45_0_1A t45_0_1n t45_0_1c, Value.slice t45_0_2A t45_0_2n t45_0_2c], Value.int .i64 t45_1] ∧
 ∃ C : Bool → Heap → Prop, (∀ (t57 : Bool) (h_7 : Heap), C t57 h_7 →
 Br (t57)
  (R (Value.bool false) h_7)
  (CallsU Tryz.prog 22 [Value.int .i64 10, Value.int .i64 1] h_7 fun v_6 h_8 =>
 ∃ t59_0_0 : Bool, ∃ t59_0_1A : Option Addr, ∃ t59_0_1n t59_0_1c : Nat, ∃ t59_0_2A : Option Addr, ∃ t59_0_2n t59_0_2c : Nat, ∃ t59_1 : Bool, v_6 = Value.tuple #[Value.agg #[Value.bool t59_0_0, Value.slice t59_0_1A t59_0_1n t59_0_1c, Value.slice t59_0_2A t59_0_2n t59_0_2c], Value.bool t59_1] ∧
 CallsU Tryz.prog 22 [Value.int .i64 1000, Value.int .i64 1] h_8 fun v_7 h_9 =>
 ∃ t63_0_0 : Bool, ∃ t63_0_1A : Option Addr, ∃ t63_0_1n t63_0_1c : Nat, ∃ t63_0_2A : Option Addr, ∃ t63_0_2n t63_0_2c : Nat, ∃ t63_1 : Bool, v_7 = Value.tuple #[Value.agg #[Value.bool t63_0_0, Value.slice t63_0_1A t63_0_1n t63_0_1c, Value.slice t63_0_2A t63_0_2n t63_0_2c], Value.bool t63_1] ∧
 CallsU Tryz.prog 22 [Value.int .i64 127, Value.int .i64 5] h_9 fun v_8 h_10 =>
 ∃ t67_0_0 : Bool, ∃ t67_0_1A : Option Addr, ∃ t67_0_1n t67_0_1c : Nat, ∃ t67_0_2A : Option Addr, ∃ t67_0_2n t67_0_2c : Nat, ∃ t67_1 : Bool, v_8 = Value.tuple #[Value.agg #[Value.bool t67_0_0, Value.slice t67_0_1A t67_0_1n t67_0_1c, Value.slice t67_0_2A t67_0_2n t67_0_2c], Value.bool t67_1] ∧
 CallsU Tryz.prog 23 [Value.agg #[Value.bool t24_0_0, Value.slice t24_0_1A t24_0_1n t24_0_1c, Value.slice t24_0_2A t24_0_2n t24_0_2c], Value.agg #[Value.bool t59_0_0, Value.slice t59_0_1A t59_0_1n t59_0_1c, Value.slice t59_0_2A t59_0_2n t59_0_2c]] h_10 fun v_9 h_11 =>
 ∃ t73_0 : Bool, ∃ t73_1A : Option Addr, ∃ t73_1n t73_1c : Nat, ∃ t73_2A : Option Addr, ∃ t73_2n t73_2c : Nat, v_9 = Value.agg #[Value.bool t73_0, Value.slice t73_1A t73_1n t73_1c, Value.slice t73_2A t73_2n t73_2c] ∧
 LeH h_10 h_11 ∧
 CallsU Tryz.prog 20 [Value.agg #[Value.bool t33_0_0, Value.slice t33_0_1A t33_0_1n t33_0_1c, Value.slice t33_0_2A t33_0_2n t33_0_2c], Value.agg #[Value.bool t73_0, Value.slice t73_1A t73_1n t73_1c, Value.slice t73_2A t73_2n t73_2c]] h_11 fun v_10 h_12 =>
 ∃ t74 : Int, v_10 = Value.int .i64 t74 ∧
 Br ((t74 : Int) == 0)
  (CallsU Tryz.prog 23 [Value.agg #[Value.bool t24_0_0, Value.slice t24_0_1A t24_0_1n t24_0_1c, Value.slice t24_0_2A t24_0_2n t24_0_2c], Value.agg #[Value.bool t63_0_0, Value.slice t63_0_1A t63_0_1n t63_0_1c, Value.slice t63_0_2A t63_0_2n t63_0_2c]] h_12 fun v_11 h_13 =>
 ∃ t80_0 : Bool, ∃ t80_1A : Option Addr, ∃ t80_1n t80_1c : Nat, ∃ t80_2A : Option Addr, ∃ t80_2n t80_2c : Nat, v_11 = Value.agg #[Value.bool t80_0, Value.slice t80_1A t80_1n t80_1c, Value.slice t80_2A t80_2n t80_2c] ∧
 LeH h_12 h_13 ∧
 CallsU Tryz.prog 20 [Value.agg #[Value.bool t39_0_0, Value.slice t39_0_1A t39_0_1n t39_0_1c, Value.slice t39_0_2A t39_0_2n t39_0_2c], Value.agg #[Value.bool t80_0, Value.slice t80_1A t80_1n t80_1c, Value.slice t80_2A t80_2n t80_2c]] h_13 fun v_12 h_14 =>
 ∃ t81 : Int, v_12 = Value.int .i64 t81 ∧
 Br ((t81 : Int) == 0)
  (CallsU Tryz.prog 23 [Value.agg #[Value.bool t24_0_0, Value.slice t24_0_1A t24_0_1n t24_0_1c, Value.slice t24_0_2A t24_0_2n t24_0_2c], Value.agg #[Value.bool t67_0_0, Value.slice t67_0_1A t67_0_1n t67_0_1c, Value.slice t67_0_2A t67_0_2n t67_0_2c]] h_14 fun v_13 h_15 =>
 ∃ t88_0 : Bool, ∃ t88_1A : Option Addr, ∃ t88_1n t88_1c : Nat, ∃ t88_2A : Option Addr, ∃ t88_2n t88_2c : Nat, v_13 = Value.agg #[Value.bool t88_0, Value.slice t88_1A t88_1n t88_1c, Value.slice t88_2A t88_2n t88_2c] ∧
 LeH h_14 h_15 ∧
 CallsU Tryz.prog 20 [Value.agg #[Value.bool t45_0_0, Value.slice t45_0_1A t45_0_1n t45_0_1c, Value.slice t45_0_2A t45_0_2n t45_0_2c], Value.agg #[Value.bool t88_0, Value.slice t88_1A t88_1n t88_1c, Value.slice t88_2A t88_2n t88_2c]] h_15 fun v_14 h_16 =>
 ∃ t89 : Int, v_14 = Value.int .i64 t89 ∧
 Br ((t89 : Int) == 0)
  (CallsU Tryz.prog 11 [] h_16 fun v_15 h_17 =>
 ∃ t93 : Bool, v_15 = Value.bool t93 ∧
 R (Value.bool t93) h_17)
  (R (Value.bool false) h_16))
  (LeH h_14 h_14 ∧
 R (Value.bool false) h_14))
  (LeH h_12 h_12 ∧
 LeH h_12 h_12 ∧
 R (Value.bool false) h_12))) ∧
 Br ((t33_1 : Int) != 0)
  (C true h_6)
  (Br ((t39_1 : Int) != 0)
  (C true h_6)
  (C ((t45_1 : Int) != 0) h_6))))

set_option maxRecDepth 100000 in
theorem law04_MeasureScales_ok {s : ByteArray} {h : Heap} {R : Value → Heap → Prop} (hv : law04_MeasureScales_vc s h R) : CallsU Tryz.prog 8 [Value.string s] h R :=
  fn_sound Tryz.func8 (by kernel_rfl) (by kernel_rfl) (by kernel_rfl) (fun _ => false) (.two .nil (.two .nil (.two .nil (.two .nil (.two .nil (.two .nil (.two .nil (.two (.cut ⟨[(57, Sh.bool)], []⟩ .nil .nil) (.two .nil (.two .nil (.two .nil (.two (.ord [0, 1, 2, 3, 4, 5, 6, 7, 8, 9, 10, 11, 12, 13, 14, 15, 16, 17, 18, 19, 20, 21, 22, 23, 24, 25]) .nil)))))))))))) [Value.string s] h R (by kernel_rfl)
    (Eq.mp (show law04_MeasureScales_vc s h R = fnV Tryz.prog Tryz.f8 (fun _ => false) (.two .nil (.two .nil (.two .nil (.two .nil (.two .nil (.two .nil (.two .nil (.two (.cut ⟨[(57, Sh.bool)], []⟩ .nil .nil) (.two .nil (.two .nil (.two .nil (.two (.ord [0, 1, 2, 3, 4, 5, 6, 7, 8, 9, 10, 11, 12, 13, 14, 15, 16, 17, 18, 19, 20, 21, 22, 23, 24, 25]) .nil)))))))))))) [Value.string s] h R by kernel_rfl) hv)

def law04_MeasureMixed_vc (a : Int) (b : Int) (c : Int) (h : Heap) (R : Value → Heap → Prop) : Prop :=
 ∀ t21 : Int, t21 = (Int.tmod a 10000000) →
 ∀ t24 : Int, t24 = (Int.tmod b 10000000) →
 ∀ t27 : Int, t27 = (Int.tmod c 999) →
 ∀ t29 : Int, t29 = IntKind.i64.wrap (1 + (IntKind.i64.wrap t27)) →
 CallsU Tryz.prog 24 [Value.int .i64 (IntKind.i64.wrap t21)] h fun v h_1 =>
 ∃ t32 : ByteArray, v = Value.string t32 ∧
 ((t32.size + (⟨#[109, 109]⟩ : ByteArray).size : Nat) : Int) ≤ 9223372036854775807 ∧
 CallsU Tryz.prog 12 [Value.string (t32 ++ (⟨#[109, 109]⟩ : ByteArray))] h_1 fun v_1 h_2 =>
 ∃ t34_0_0 : Bool, ∃ t34_0_1A : Option Addr, ∃ t34_0_1n t34_0_1c : Nat, ∃ t34_0_2A : Option Addr, ∃ t34_0_2n t34_0_2c : Nat, ∃ t34_1 : Int, v_1 = Value.tuple #[Value.agg #[Value.bool t34_0_0, Value.slice t34_0_1A t34_0_1n t34_0_1c, Value.slice t34_0_2A t34_0_2n t34_0_2c], Value.int .i64 t34_1] ∧
 CallsU Tryz.prog 24 [Value.int .i64 (IntKind.i64.wrap t24)] h_2 fun v_2 h_3 =>
 ∃ t39 : ByteArray, v_2 = Value.string t39 ∧
 ((t39.size + (⟨#[47]⟩ : ByteArray).size : Nat) : Int) ≤ 9223372036854775807 ∧
 CallsU Tryz.prog 24 [Value.int .i64 t29] h_3 fun v_3 h_4 =>
 ∃ t42 : ByteArray, v_3 = Value.string t42 ∧
 (((t39 ++ (⟨#[47]⟩ : ByteArray)).size + t42.size : Nat) : Int) ≤ 9223372036854775807 ∧
 ((((t39 ++ (⟨#[47]⟩ : ByteArray)) ++ t42).size + (⟨#[109, 109]⟩ : ByteArray).size : Nat) : Int) ≤ 9223372036854775807 ∧
 CallsU Tryz.prog 12 [Value.string (((t39 ++ (⟨#[47]⟩ : ByteArray)) ++ t42) ++ (⟨#[109, 109]⟩ : ByteArray))] h_4 fun v_4 h_5 =>
 ∃ t45_0_0 : Bool, ∃ t45_0_1A : Option Addr, ∃ t45_0_1n t45_0_1c : Nat, ∃ t45_0_2A : Option Addr, ∃ t45_0_2n t45_0_2c : Nat, ∃ t45_1 : Int, v_4 = Value.tuple #[Value.agg #[Value.bool t45_0_0, Value.slice t45_0_1A t45_0_1n t45_0_1c, Value.slice t45_0_2A t45_0_2n t45_0_2c], Value.int .i64 t45_1] ∧
 CallsU Tryz.prog 24 [Value.int .i64 (IntKind.i64.wrap t21)] h_5 fun v_5 h_6 =>
 ∃ t50 : ByteArray, v_5 = Value.string t50 ∧
 ((t50.size + (⟨#[32]⟩ : ByteArray).size : Nat) : Int) ≤ 9223372036854775807 ∧
 CallsU Tryz.prog 24 [Value.int .i64 (IntKind.i64.wrap t24)] h_6 fun v_6 h_7 =>
 ∃ t53 : ByteArray, v_6 = Value.string t53 ∧
 (((t50 ++ (⟨#[32]⟩ : ByteArray)).size + t53.size : Nat) : Int) ≤ 9223372036854775807 ∧
 ((((t50 ++ (⟨#[32]⟩ : ByteArray)) ++ t53).size + (⟨#[47]⟩ : ByteArray).size : Nat) : Int) ≤ 9223372036854775807 ∧
 CallsU Tryz.prog 24 [Value.int .i64 t29] h_7 fun v_7 h_8 =>
 ∃ t57 : ByteArray, v_7 = Value.string t57 ∧
 (((((t50 ++ (⟨#[32]⟩ : ByteArray)) ++ t53) ++ (⟨#[47]⟩ : ByteArray)).size + t57.size : Nat) : Int) ≤ 9223372036854775807 ∧
 ((((((t50 ++ (⟨#[32]⟩ : ByteArray)) ++ t53) ++ (⟨#[47]⟩ : ByteArray)) ++ t57).size + (⟨#[109, 109]⟩ : ByteArray).size : Nat) : Int) ≤ 9223372036854775807 ∧
 CallsU Tryz.prog 12 [Value.string (((((t50 ++ (⟨#[32]⟩ : ByteArray)) ++ t53) ++ (⟨#[47]⟩ : ByteArray)) ++ t57) ++ (⟨#[109, 109]⟩ : ByteArray))] h_8 fun v_8 h_9 =>
 ∃ t60_0_0 : Bool, ∃ t60_0_1A : Option Addr, ∃ t60_0_1n t60_0_1c : Nat, ∃ t60_0_2A : Option Addr, ∃ t60_0_2n t60_0_2c : Nat, ∃ t60_1 : Int, v_8 = Value.tuple #[Value.agg #[Value.bool t60_0_0, Value.slice t60_0_1A t60_0_1n t60_0_1c, Value.slice t60_0_2A t60_0_2n t60_0_2c], Value.int .i64 t60_1] ∧
 ∃ C : Bool → Heap → Prop, (∀ (t72 : Bool) (h_10 : Heap), C t72 h_10 →
 Br (t72)
  (R (Value.bool false) h_10)
  (∀ t75 : Int, t75 = IntKind.i64.wrap (100 * (IntKind.i64.wrap t21)) →
 CallsU Tryz.prog 22 [Value.int .i64 t75, Value.int .i64 1] h_10 fun v_9 h_11 =>
 ∃ t76_0_0 : Bool, ∃ t76_0_1A : Option Addr, ∃ t76_0_1n t76_0_1c : Nat, ∃ t76_0_2A : Option Addr, ∃ t76_0_2n t76_0_2c : Nat, ∃ t76_1 : Bool, v_9 = Value.tuple #[Value.agg #[Value.bool t76_0_0, Value.slice t76_0_1A t76_0_1n t76_0_1c, Value.slice t76_0_2A t76_0_2n t76_0_2c], Value.bool t76_1] ∧
 ∀ t81 : Int, t81 = IntKind.i64.wrap (100 * (IntKind.i64.wrap t24)) →
 CallsU Tryz.prog 22 [Value.int .i64 t81, Value.int .i64 t29] h_11 fun v_10 h_12 =>
 ∃ t83_0_0 : Bool, ∃ t83_0_1A : Option Addr, ∃ t83_0_1n t83_0_1c : Nat, ∃ t83_0_2A : Option Addr, ∃ t83_0_2n t83_0_2c : Nat, ∃ t83_1 : Bool, v_10 = Value.tuple #[Value.agg #[Value.bool t83_0_0, Value.slice t83_0_1A t83_0_1n t83_0_1c, Value.slice t83_0_2A t83_0_2n t83_0_2c], Value.bool t83_1] ∧
 CallsU Tryz.prog 20 [Value.agg #[Value.bool t34_0_0, Value.slice t34_0_1A t34_0_1n t34_0_1c, Value.slice t34_0_2A t34_0_2n t34_0_2c], Value.agg #[Value.bool t76_0_0, Value.slice t76_0_1A t76_0_1n t76_0_1c, Value.slice t76_0_2A t76_0_2n t76_0_2c]] h_12 fun v_11 h_13 =>
 ∃ t88 : Int, v_11 = Value.int .i64 t88 ∧
 Br ((t88 : Int) == 0)
  (CallsU Tryz.prog 20 [Value.agg #[Value.bool t45_0_0, Value.slice t45_0_1A t45_0_1n t45_0_1c, Value.slice t45_0_2A t45_0_2n t45_0_2c], Value.agg #[Value.bool t83_0_0, Value.slice t83_0_1A t83_0_1n t83_0_1c, Value.slice t83_0_2A t83_0_2n t83_0_2c]] h_13 fun v_12 h_14 =>
 ∃ t93 : Int, v_12 = Value.int .i64 t93 ∧
 Br ((t93 : Int) == 0)
  (CallsU Tryz.prog 25 [Value.agg #[Value.bool t34_0_0, Value.slice t34_0_1A t34_0_1n t34_0_1c, Value.slice t34_0_2A t34_0_2n t34_0_2c], Value.agg #[Value.bool t45_0_0, Value.slice t45_0_1A t45_0_1n t45_0_1c, Value.slice t45_0_2A t45_0_2n t45_0_2c]] h_14 fun v_13 h_15 =>
 ∃ t100_0 : Bool, ∃ t100_1A : Option Addr, ∃ t100_1n t100_1c : Nat, ∃ t100_2A : Option Addr, ∃ t100_2n t100_2c : Nat, v_13 = Value.agg #[Value.bool t100_0, Value.slice t100_1A t100_1n t100_1c, Value.slice t100_2A t100_2n t100_2c] ∧
 LeH h_14 h_15 ∧
 CallsU Tryz.prog 20 [Value.agg #[Value.bool t60_0_0, Value.slice t60_0_1A t60_0_1n t60_0_1c, Value.slice t60_0_2A t60_0_2n t60_0_2c], Value.agg #[Value.bool t100_0, Value.slice t100_1A t100_1n t100_1c, Value.slice t100_2A t100_2n t100_2c]] h_15 fun v_14 h_16 =>
 ∃ t101 : Int, v_14 = Value.int .i64 t101 ∧
 Br ((t101 : Int) == 0)
  (CallsU Tryz.prog 11 [] h_16 fun v_15 h_17 =>
 ∃ t105 : Bool, v_15 = Value.bool t105 ∧
 R (Value.bool t105) h_17)
  (R (Value.bool false) h_16))
  (LeH h_14 h_14 ∧
 R (Value.bool false) h_14))
  (LeH h_13 h_13 ∧
 R (Value.bool false) h_13))) ∧
 Br ((t34_1 : Int) != 0)
  (C true h_9)
  (Br ((t45_1 : Int) != 0)
  (C true h_9)
  (C ((t60_1 : Int) != 0) h_9))

set_option maxRecDepth 100000 in
theorem law04_MeasureMixed_ok {a : Int} {b : Int} {c : Int} {h : Heap} {R : Value → Heap → Prop} (hv : law04_MeasureMixed_vc a b c h R) : CallsU Tryz.prog 9 [Value.int .u32 a, Value.int .u32 b, Value.int .u16 c] h R :=
  fn_sound Tryz.func9 (by kernel_rfl) (by kernel_rfl) (by kernel_rfl) (fun _ => false) (.two .nil (.two .nil (.two .nil (.two .nil (.two .nil (.two (.cut ⟨[(72, Sh.bool)], []⟩ .nil .nil) (.two .nil (.two .nil (.two (.ord [0, 1, 2, 3, 4, 5, 6, 7, 8, 9, 10, 11, 12, 13, 14, 15, 16, 17, 18, 19, 20, 21]) .nil))))))))) [Value.int .u32 a, Value.int .u32 b, Value.int .u16 c] h R (by kernel_rfl)
    (Eq.mp (show law04_MeasureMixed_vc a b c h R = fnV Tryz.prog Tryz.f9 (fun _ => false) (.two .nil (.two .nil (.two .nil (.two .nil (.two .nil (.two (.cut ⟨[(72, Sh.bool)], []⟩ .nil .nil) (.two .nil (.two .nil (.two (.ord [0, 1, 2, 3, 4, 5, 6, 7, 8, 9, 10, 11, 12, 13, 14, 15, 16, 17, 18, 19, 20, 21]) .nil))))))))) [Value.int .u32 a, Value.int .u32 b, Value.int .u16 c] h R by kernel_rfl) hv)

def law04_MeasureRounds_vc (r_0 : Bool) (r_1A : Option Addr) (r_1n r_1c : Nat) (r_2A : Option Addr) (r_2n r_2c : Nat) (h : Heap) (R : Value → Heap → Prop) : Prop :=
 CallsU Tryz.prog 15 [Value.agg #[Value.bool r_0, Value.slice r_1A r_1n r_1c, Value.slice r_2A r_2n r_2c], Value.int .i64 24] h fun v h_1 =>
 ∃ t16 : Bool, v = Value.bool t16 ∧
 Br (!t16)
  (CallsU Tryz.prog 11 [] h_1 fun v_1 h_2 =>
 ∃ t18 : Bool, v_1 = Value.bool t18 ∧
 R (Value.bool t18) h_2)
  (CallsU Tryz.prog 18 [Value.agg #[Value.bool r_0, Value.slice r_1A r_1n r_1c, Value.slice r_2A r_2n r_2c]] h_1 fun v_2 h_3 =>
 ∃ t21_0 : Int, ∃ t21_1 : Int, v_2 = Value.tuple #[Value.int .i64 t21_0, Value.int .i64 t21_1] ∧
 CallsU Tryz.prog 21 [Value.agg #[Value.bool r_0, Value.slice r_1A r_1n r_1c, Value.slice r_2A r_2n r_2c]] h_3 fun v_3 h_4 =>
 ∃ t26_0 : Bool, ∃ t26_1A : Option Addr, ∃ t26_1n t26_1c : Nat, ∃ t26_2A : Option Addr, ∃ t26_2n t26_2c : Nat, v_3 = Value.agg #[Value.bool t26_0, Value.slice t26_1A t26_1n t26_1c, Value.slice t26_2A t26_2n t26_2c] ∧
 CallsU Tryz.prog 18 [Value.agg #[Value.bool t26_0, Value.slice t26_1A t26_1n t26_1c, Value.slice t26_2A t26_2n t26_2c]] h_4 fun v_4 h_5 =>
 ∃ t27_0 : Int, ∃ t27_1 : Int, v_4 = Value.tuple #[Value.int .i64 t27_0, Value.int .i64 t27_1] ∧
 ∃ C : Bool → Heap → Prop, (∀ (t38 : Bool) (h_6 : Heap), C t38 h_6 →
 Br (t38)
  (R (Value.bool false) h_6)
  (∃ C_1 : Bool → Option Addr → Nat → Nat → Option Addr → Nat → Nat → Heap → Prop, (∀ (size_0 : Bool) (size_1A : Option Addr) (size_1n size_1c : Nat) (size_2A : Option Addr) (size_2n size_2c : Nat) (h_7 : Heap), C_1 size_0 size_1A size_1n size_1c size_2A size_2n size_2c h_7 →
 CallsU Tryz.prog 22 [Value.int .i64 2097153, Value.int .i64 2] h_7 fun v_5 h_8 =>
 ∃ t47_0_0 : Bool, ∃ t47_0_1A : Option Addr, ∃ t47_0_1n t47_0_1c : Nat, ∃ t47_0_2A : Option Addr, ∃ t47_0_2n t47_0_2c : Nat, ∃ t47_1 : Bool, v_5 = Value.tuple #[Value.agg #[Value.bool t47_0_0, Value.slice t47_0_1A t47_0_1n t47_0_1c, Value.slice t47_0_2A t47_0_2n t47_0_2c], Value.bool t47_1] ∧
 Br ((t21_1 : Int) != 0)
  (∃ C_2 : Bool → Heap → Prop, (∀ (t2 : Bool) (h_9 : Heap), C_2 t2 h_9 →
 R (Value.bool t2) h_9) ∧
 Br ((t21_1 : Int) == 3)
  (Br ((t21_0 : Int) == 0)
  (CallsU Tryz.prog 20 [Value.agg #[Value.bool size_0, Value.slice size_1A size_1n size_1c, Value.slice size_2A size_2n size_2c], Value.agg #[Value.bool t47_0_0, Value.slice t47_0_1A t47_0_1n t47_0_1c, Value.slice t47_0_2A t47_0_2n t47_0_2c]] h_8 fun v_6 h_10 =>
 ∃ t61 : Int, v_6 = Value.int .i64 t61 ∧
 Br (decide (t61 ≥ 0))
  (CallsU Tryz.prog 11 [] h_10 fun v_7 h_11 =>
 ∃ t65 : Bool, v_7 = Value.bool t65 ∧
 C_2 t65 h_11)
  (C_2 false h_10))
  (C_2 false h_8))
  (C_2 false h_8))
  (CallsU Tryz.prog 22 [Value.int .i64 t21_0, Value.int .i64 1] h_8 fun v_8 h_12 =>
 ∃ t69_0_0 : Bool, ∃ t69_0_1A : Option Addr, ∃ t69_0_1n t69_0_1c : Nat, ∃ t69_0_2A : Option Addr, ∃ t69_0_2n t69_0_2c : Nat, ∃ t69_1 : Bool, v_8 = Value.tuple #[Value.agg #[Value.bool t69_0_0, Value.slice t69_0_1A t69_0_1n t69_0_1c, Value.slice t69_0_2A t69_0_2n t69_0_2c], Value.bool t69_1] ∧
 CallsU Tryz.prog 22 [Value.int .i64 1, Value.int .i64 2] h_12 fun v_9 h_13 =>
 ∃ t73_0_0 : Bool, ∃ t73_0_1A : Option Addr, ∃ t73_0_1n t73_0_1c : Nat, ∃ t73_0_2A : Option Addr, ∃ t73_0_2n t73_0_2c : Nat, ∃ t73_1 : Bool, v_9 = Value.tuple #[Value.agg #[Value.bool t73_0_0, Value.slice t73_0_1A t73_0_1n t73_0_1c, Value.slice t73_0_2A t73_0_2n t73_0_2c], Value.bool t73_1] ∧
 CallsU Tryz.prog 26 [Value.agg #[Value.bool r_0, Value.slice r_1A r_1n r_1c, Value.slice r_2A r_2n r_2c], Value.agg #[Value.bool t69_0_0, Value.slice t69_0_1A t69_0_1n t69_0_1c, Value.slice t69_0_2A t69_0_2n t69_0_2c]] h_13 fun v_10 h_14 =>
 ∃ t78_0 : Bool, ∃ t78_1A : Option Addr, ∃ t78_1n t78_1c : Nat, ∃ t78_2A : Option Addr, ∃ t78_2n t78_2c : Nat, v_10 = Value.agg #[Value.bool t78_0, Value.slice t78_1A t78_1n t78_1c, Value.slice t78_2A t78_2n t78_2c] ∧
 CallsU Tryz.prog 20 [Value.agg #[Value.bool size_0, Value.slice size_1A size_1n size_1c, Value.slice size_2A size_2n size_2c], Value.agg #[Value.bool t47_0_0, Value.slice t47_0_1A t47_0_1n t47_0_1c, Value.slice t47_0_2A t47_0_2n t47_0_2c]] h_14 fun v_11 h_15 =>
 ∃ t81 : Int, v_11 = Value.int .i64 t81 ∧
 Br (decide (t81 < 0))
  (CallsU Tryz.prog 20 [Value.agg #[Value.bool t78_0, Value.slice t78_1A t78_1n t78_1c, Value.slice t78_2A t78_2n t78_2c], Value.agg #[Value.bool t73_0_0, Value.slice t73_0_1A t73_0_1n t73_0_1c, Value.slice t73_0_2A t73_0_2n t73_0_2c]] h_15 fun v_12 h_16 =>
 ∃ t86 : Int, v_12 = Value.int .i64 t86 ∧
 Br (decide (t86 ≤ 0))
  (CallsU Tryz.prog 21 [Value.agg #[Value.bool t78_0, Value.slice t78_1A t78_1n t78_1c, Value.slice t78_2A t78_2n t78_2c]] h_16 fun v_13 h_17 =>
 ∃ t91_0 : Bool, ∃ t91_1A : Option Addr, ∃ t91_1n t91_1c : Nat, ∃ t91_2A : Option Addr, ∃ t91_2n t91_2c : Nat, v_13 = Value.agg #[Value.bool t91_0, Value.slice t91_1A t91_1n t91_1c, Value.slice t91_2A t91_2n t91_2c] ∧
 LeH h_16 h_17 ∧
 CallsU Tryz.prog 20 [Value.agg #[Value.bool t91_0, Value.slice t91_1A t91_1n t91_1c, Value.slice t91_2A t91_2n t91_2c], Value.agg #[Value.bool t73_0_0, Value.slice t73_0_1A t73_0_1n t73_0_1c, Value.slice t73_0_2A t73_0_2n t73_0_2c]] h_17 fun v_14 h_18 =>
 ∃ t93 : Int, v_14 = Value.int .i64 t93 ∧
 Br (decide (t93 ≤ 0))
  (CallsU Tryz.prog 11 [] h_18 fun v_15 h_19 =>
 ∃ t97 : Bool, v_15 = Value.bool t97 ∧
 R (Value.bool t97) h_19)
  (R (Value.bool false) h_18))
  (LeH h_16 h_16 ∧
 R (Value.bool false) h_16))
  (LeH h_15 h_15 ∧
 R (Value.bool false) h_15))) ∧
 CallsU Tryz.prog 20 [Value.agg #[Value.bool r_0, Value.slice r_1A r_1n r_1c, Value.slice r_2A r_2n r_2c], Value.agg #[Value.bool false, Value.slice none 0 0, Value.slice none 0 0]] h_6 fun v_16 h_20 =>
 ∃ t42 : Int, v_16 = Value.int .i64 t42 ∧
 Br (decide (t42 < 0))
  (CallsU Tryz.prog 21 [Value.agg #[Value.bool r_0, Value.slice r_1A r_1n r_1c, Value.slice r_2A r_2n r_2c]] h_20 fun v_17 h_21 =>
 ∃ t45_0 : Bool, ∃ t45_1A : Option Addr, ∃ t45_1n t45_1c : Nat, ∃ t45_2A : Option Addr, ∃ t45_2n t45_2c : Nat, v_17 = Value.agg #[Value.bool t45_0, Value.slice t45_1A t45_1n t45_1c, Value.slice t45_2A t45_2n t45_2c] ∧
 C_1 t45_0 t45_1A t45_1n t45_1c t45_2A t45_2n t45_2c h_21)
  (C_1 r_0 r_1A r_1n r_1c r_2A r_2n r_2c h_20))) ∧
 Br ((t21_1 : Int) != t27_1)
  (C true h_5)
  (∀ t36 : Int, t36 = IntKind.i64.wrap (0 - t27_0) →
 C ((t21_0 : Int) != t36) h_5))

set_option maxRecDepth 100000 in
theorem law04_MeasureRounds_ok {r_0 : Bool} {r_1A : Option Addr} {r_1n r_1c : Nat} {r_2A : Option Addr} {r_2n r_2c : Nat} {h : Heap} {R : Value → Heap → Prop} (hv : law04_MeasureRounds_vc r_0 r_1A r_1n r_1c r_2A r_2n r_2c h R) : CallsU Tryz.prog 10 [Value.agg #[Value.bool r_0, Value.slice r_1A r_1n r_1c, Value.slice r_2A r_2n r_2c]] h R :=
  fn_sound Tryz.func10 (by kernel_rfl) (by kernel_rfl) (by kernel_rfl) (fun _ => false) (.two .nil (.two .nil (.two .nil (.two .nil (.two (.cut ⟨[(38, Sh.bool)], []⟩ .nil .nil) (.two .nil (.cut ⟨[], [(1, [Sh.bool, Sh.slice, Sh.slice])]⟩ .nil (.two .nil (.two (.two .nil (.two (.cut ⟨[(2, Sh.bool)], []⟩ .nil .nil) .nil)) (.two .nil (.two .nil (.two .nil (.two (.ord [0, 1, 2, 3, 4, 5, 6, 7, 8, 9, 10, 11, 13, 12, 14, 15, 16, 17, 18, 19, 20]) .nil))))))))))))) [Value.agg #[Value.bool r_0, Value.slice r_1A r_1n r_1c, Value.slice r_2A r_2n r_2c]] h R (by kernel_rfl)
    (Eq.mp (show law04_MeasureRounds_vc r_0 r_1A r_1n r_1c r_2A r_2n r_2c h R = fnV Tryz.prog Tryz.f10 (fun _ => false) (.two .nil (.two .nil (.two .nil (.two .nil (.two (.cut ⟨[(38, Sh.bool)], []⟩ .nil .nil) (.two .nil (.cut ⟨[], [(1, [Sh.bool, Sh.slice, Sh.slice])]⟩ .nil (.two .nil (.two (.two .nil (.two (.cut ⟨[(2, Sh.bool)], []⟩ .nil .nil) .nil)) (.two .nil (.two .nil (.two .nil (.two (.ord [0, 1, 2, 3, 4, 5, 6, 7, 8, 9, 10, 11, 13, 12, 14, 15, 16, 17, 18, 19, 20]) .nil))))))))))))) [Value.agg #[Value.bool r_0, Value.slice r_1A r_1n r_1c, Value.slice r_2A r_2n r_2c]] h R by kernel_rfl) hv)

def law04_alive_vc  (h : Heap) (R : Value → Heap → Prop) : Prop :=
 CallsU Tryz.prog 12 [Value.string (⟨#[49, 32, 49, 47, 50, 105, 110]⟩ : ByteArray)] h fun v h_1 =>
 ∃ t18_0_0 : Bool, ∃ t18_0_1A : Option Addr, ∃ t18_0_1n t18_0_1c : Nat, ∃ t18_0_2A : Option Addr, ∃ t18_0_2n t18_0_2c : Nat, ∃ t18_1 : Int, v = Value.tuple #[Value.agg #[Value.bool t18_0_0, Value.slice t18_0_1A t18_0_1n t18_0_1c, Value.slice t18_0_2A t18_0_2n t18_0_2c], Value.int .i64 t18_1] ∧
 CallsU Tryz.prog 12 [Value.string (⟨#[45, 50, 46, 53, 99, 109]⟩ : ByteArray)] h_1 fun v_1 h_2 =>
 ∃ t22_0_0 : Bool, ∃ t22_0_1A : Option Addr, ∃ t22_0_1n t22_0_1c : Nat, ∃ t22_0_2A : Option Addr, ∃ t22_0_2n t22_0_2c : Nat, ∃ t22_1 : Int, v_1 = Value.tuple #[Value.agg #[Value.bool t22_0_0, Value.slice t22_0_1A t22_0_1n t22_0_1c, Value.slice t22_0_2A t22_0_2n t22_0_2c], Value.int .i64 t22_1] ∧
 CallsU Tryz.prog 12 [Value.string (⟨#[48, 53, 109, 109]⟩ : ByteArray)] h_2 fun v_2 h_3 =>
 ∃ t26_0_0 : Bool, ∃ t26_0_1A : Option Addr, ∃ t26_0_1n t26_0_1c : Nat, ∃ t26_0_2A : Option Addr, ∃ t26_0_2n t26_0_2c : Nat, ∃ t26_1 : Int, v_2 = Value.tuple #[Value.agg #[Value.bool t26_0_0, Value.slice t26_0_1A t26_0_1n t26_0_1c, Value.slice t26_0_2A t26_0_2n t26_0_2c], Value.int .i64 t26_1] ∧
 CallsU Tryz.prog 27 [Value.int .i64 3810] h_3 fun v_3 h_4 =>
 ∃ t30_0 : Bool, ∃ t30_1A : Option Addr, ∃ t30_1n t30_1c : Nat, ∃ t30_2A : Option Addr, ∃ t30_2n t30_2c : Nat, v_3 = Value.agg #[Value.bool t30_0, Value.slice t30_1A t30_1n t30_1c, Value.slice t30_2A t30_2n t30_2c] ∧
 CallsU Tryz.prog 16 [Value.agg #[Value.bool t30_0, Value.slice t30_1A t30_1n t30_1c, Value.slice t30_2A t30_2n t30_2c]] h_4 fun v_4 h_5 =>
 ∃ t31_0 : ByteArray, ∃ t31_1 : Int, v_4 = Value.tuple #[Value.string t31_0, Value.int .i64 t31_1] ∧
 CallsU Tryz.prog 28 [Value.int .i64 (-700), Value.int .i64 3] h_5 fun v_5 h_6 =>
 ∃ t35_0_0 : Bool, ∃ t35_0_1A : Option Addr, ∃ t35_0_1n t35_0_1c : Nat, ∃ t35_0_2A : Option Addr, ∃ t35_0_2n t35_0_2c : Nat, ∃ t35_1 : Bool, v_5 = Value.tuple #[Value.agg #[Value.bool t35_0_0, Value.slice t35_0_1A t35_0_1n t35_0_1c, Value.slice t35_0_2A t35_0_2n t35_0_2c], Value.bool t35_1] ∧
 CallsU Tryz.prog 16 [Value.agg #[Value.bool t35_0_0, Value.slice t35_0_1A t35_0_1n t35_0_1c, Value.slice t35_0_2A t35_0_2n t35_0_2c]] h_6 fun v_6 h_7 =>
 ∃ t40_0 : ByteArray, ∃ t40_1 : Int, v_6 = Value.tuple #[Value.string t40_0, Value.int .i64 t40_1] ∧
 CallsU Tryz.prog 28 [Value.int .i64 (-5), Value.int .i64 2] h_7 fun v_7 h_8 =>
 ∃ t44_0_0 : Bool, ∃ t44_0_1A : Option Addr, ∃ t44_0_1n t44_0_1c : Nat, ∃ t44_0_2A : Option Addr, ∃ t44_0_2n t44_0_2c : Nat, ∃ t44_1 : Bool, v_7 = Value.tuple #[Value.agg #[Value.bool t44_0_0, Value.slice t44_0_1A t44_0_1n t44_0_1c, Value.slice t44_0_2A t44_0_2n t44_0_2c], Value.bool t44_1] ∧
 CallsU Tryz.prog 18 [Value.agg #[Value.bool t44_0_0, Value.slice t44_0_1A t44_0_1n t44_0_1c, Value.slice t44_0_2A t44_0_2n t44_0_2c]] h_8 fun v_8 h_9 =>
 ∃ t49_0 : Int, ∃ t49_1 : Int, v_8 = Value.tuple #[Value.int .i64 t49_0, Value.int .i64 t49_1] ∧
 ∃ C : Bool → Heap → Prop, (∀ (t73 : Bool) (h_10 : Heap), C t73 h_10 →
 Br (t73)
  (R (Value.bool false) h_10)
  (CallsU Tryz.prog 27 [Value.int .i64 3810] h_10 fun v_9 h_11 =>
 ∃ t75_0 : Bool, ∃ t75_1A : Option Addr, ∃ t75_1n t75_1c : Nat, ∃ t75_2A : Option Addr, ∃ t75_2n t75_2c : Nat, v_9 = Value.agg #[Value.bool t75_0, Value.slice t75_1A t75_1n t75_1c, Value.slice t75_2A t75_2n t75_2c] ∧
 LeH h_10 h_11 ∧
 CallsU Tryz.prog 14 [Value.agg #[Value.bool t18_0_0, Value.slice t18_0_1A t18_0_1n t18_0_1c, Value.slice t18_0_2A t18_0_2n t18_0_2c], Value.agg #[Value.bool t75_0, Value.slice t75_1A t75_1n t75_1c, Value.slice t75_2A t75_2n t75_2c]] h_11 fun v_10 h_12 =>
 ∃ t76 : Bool, v_10 = Value.bool t76 ∧
 Br (t76)
  (CallsU Tryz.prog 27 [Value.int .i64 (-2500)] h_12 fun v_11 h_13 =>
 ∃ t79_0 : Bool, ∃ t79_1A : Option Addr, ∃ t79_1n t79_1c : Nat, ∃ t79_2A : Option Addr, ∃ t79_2n t79_2c : Nat, v_11 = Value.agg #[Value.bool t79_0, Value.slice t79_1A t79_1n t79_1c, Value.slice t79_2A t79_2n t79_2c] ∧
 LeH h_12 h_13 ∧
 CallsU Tryz.prog 14 [Value.agg #[Value.bool t22_0_0, Value.slice t22_0_1A t22_0_1n t22_0_1c, Value.slice t22_0_2A t22_0_2n t22_0_2c], Value.agg #[Value.bool t79_0, Value.slice t79_1A t79_1n t79_1c, Value.slice t79_2A t79_2n t79_2c]] h_13 fun v_12 h_14 =>
 ∃ t80 : Bool, v_12 = Value.bool t80 ∧
 Br (t80)
  (Br (t31_0.toList == (⟨#[51, 56, 46, 49, 109, 109]⟩ : ByteArray).toList)
  (Br (t40_0.toList == (⟨#[45, 50, 32, 49, 47, 51, 109, 109]⟩ : ByteArray).toList)
  (R (Value.bool ((t49_0 : Int) == (-3))) h_14)
  (R (Value.bool false) h_14))
  (R (Value.bool false) h_14))
  (R (Value.bool false) h_14))
  (LeH h_12 h_12 ∧
 R (Value.bool false) h_12))) ∧
 Br ((t18_1 : Int) != 0)
  (C true h_9)
  (Br ((t22_1 : Int) != 0)
  (C true h_9)
  (Br ((t26_1 : Int) != 2)
  (C true h_9)
  (Br ((t31_1 : Int) != 0)
  (C true h_9)
  (Br ((t40_1 : Int) != 0)
  (C true h_9)
  (C ((t49_1 : Int) != 0) h_9)))))

set_option maxRecDepth 100000 in
theorem law04_alive_ok  {h : Heap} {R : Value → Heap → Prop} (hv : law04_alive_vc  h R) : CallsU Tryz.prog 11 [] h R :=
  fn_sound Tryz.func11 (by kernel_rfl) (by kernel_rfl) (by kernel_rfl) (fun _ => false) (.two .nil (.two .nil (.two .nil (.two .nil (.two .nil (.two .nil (.two .nil (.two .nil (.two .nil (.two (.cut ⟨[(73, Sh.bool)], []⟩ .nil .nil) (.two (.ord [0, 1, 2, 3, 4, 5, 6, 7, 8, 9, 10, 11, 12, 13, 14, 15, 16, 17, 18, 19, 20]) .nil))))))))))) [] h R (by kernel_rfl)
    (Eq.mp (show law04_alive_vc  h R = fnV Tryz.prog Tryz.f11 (fun _ => false) (.two .nil (.two .nil (.two .nil (.two .nil (.two .nil (.two .nil (.two .nil (.two .nil (.two .nil (.two (.cut ⟨[(73, Sh.bool)], []⟩ .nil .nil) (.two (.ord [0, 1, 2, 3, 4, 5, 6, 7, 8, 9, 10, 11, 12, 13, 14, 15, 16, 17, 18, 19, 20]) .nil))))))))))) [] h R by kernel_rfl) hv)

def law04_text_vc (n : Int) (h : Heap) (R : Value → Heap → Prop) : Prop :=
 CallsU Tryz.prog 53 [Value.int .u64 (IntKind.u64.wrap n)] h fun v h_1 =>
 ∃ t5A : Option Addr, ∃ t5n t5c : Nat, v = Value.slice t5A t5n t5c ∧
 CallsU Tryz.prog 67 [Value.slice t5A t5n t5c] h_1 fun v_1 h_2 =>
 ∃ t6 : ByteArray, v_1 = Value.string t6 ∧
 R (Value.string t6) h_2

set_option maxRecDepth 100000 in
theorem law04_text_ok {n : Int} {h : Heap} {R : Value → Heap → Prop} (hv : law04_text_vc n h R) : CallsU Tryz.prog 24 [Value.int .i64 n] h R :=
  fn_sound Tryz.func24 (by kernel_rfl) (by kernel_rfl) (by kernel_rfl) (fun _ => false) .nil [Value.int .i64 n] h R (by kernel_rfl)
    (Eq.mp (show law04_text_vc n h R = fnV Tryz.prog Tryz.f24 (fun _ => false) .nil [Value.int .i64 n] h R by kernel_rfl) hv)

end Go.Proofs.YtccplhjglhdopaaGreatDoor

/-
  Contracts: references 01.Of, 02.Of, 03.Whole; the chapter's examples.
-/
namespace Go.Proofs.YtccplhjglhdopaaGreatDoor
open Go Go.Vcg
attribute [local irreducible] Br

theorem lv_one1 (y : Nat) : Go.Vcg.one (lv y) = true := rfl

theorem Sl.u32 {h : Heap} {A : Option Addr} {n c : Nat} {xs : List Nat} (u : Sl lv h A n c xs) (hlt : ∀ x ∈ xs, x < 4294967296) : U32 h A n c xs := ⟨u.len, u.cap, hlt, u.mem⟩

theorem r1of_c (n : Nat) (hn : n < 18446744073709551616) (h : Heap) :
    CallsU Tryz.prog 53 [.int .u64 n] h fun r h' => ∃ A m c, r = .slice A m c ∧ m ≤ 2 ∧ NmN h' A m c n ∧ Le h h' := by
  apply ref01_Of_ok
  have hB : B32 = 4294967296 := rfl
  refine ⟨fun m x oA on oc h' => ∃ gs : List Nat, x = (m : Int) ∧ val gs + B32 ^ gs.length * m = n ∧ (∀ y ∈ gs, y < 4294967296) ∧ (m = 0 → Nrm gs) ∧ gs.length ≤ 2 ∧ OwnE lv 46 h h' oA on oc gs ∧ Le h h', ⟨n, [], rfl, by simp [val], by simp, fun _ => nrm_nil, by simp, OwnE.nil h, Le.refl h⟩, ?_⟩
  rintro m _ oA on oc h1 ⟨gs, rfl, hval, hlt, hnz, hlen, own, hle⟩
  have hon := own.1
  refine Br.mk (fun q => ?_) (fun q => ?_)
  · have q' : 0 < m := by simp at q; omega
    have hl1 : gs.length ≤ 1 := by
      rcases Nat.lt_or_ge gs.length 2 with a | a
      · omega
      · exfalso
        have e : gs.length = 2 := by omega
        rw [e, hB] at hval
        omega
    have hm : m ≤ n := by
      have : 1 * m ≤ B32 ^ gs.length * m := Nat.mul_le_mul_right _ (Nat.pow_pos (by decide))
      omega
    rintro _ rfl g0 _ hg0 rfl
    have e1 : IntKind.u32.wrap (Int.tmod (m : Int) 4294967296) = ((m % 4294967296 : Nat) : Int) := by
      rw [Int.tmod_eq_emod_of_nonneg (by omega), wrap_u32_mod]; omega
    rw [e1]
    refine own.app (x := m % 4294967296) (z := 0) (bs := 4) (K := fun A c hh => ∀ t : Int, t = IntKind.u64.wrap (Int.tdiv (m : Int) 4294967296) → ∃ m', m' < m ∧ ∃ gs : List Nat, t = (m' : Int) ∧ val gs + B32 ^ gs.length * m' = n ∧ (∀ y ∈ gs, y < 4294967296) ∧ (m' = 0 → Nrm gs) ∧ gs.length ≤ 2 ∧ OwnE lv 46 h hh A (on + 1) c gs ∧ Le h hh) hle lv_one1 rfl rfl hg0 (by omega) ?_
    intro A' c' h' o l _
    rintro _ rfl
    have e2 : IntKind.u64.wrap (Int.tdiv (m : Int) 4294967296) = ((m / 4294967296 : Nat) : Int) := by
      rw [Int.tdiv_eq_ediv_of_nonneg (by omega), wrap_u64_mod]; omega
    rw [e2]
    refine ⟨_, Nat.div_lt_self q' (by decide), gs ++ [m % 4294967296], rfl, ?_, ?_, ?_, by simp; omega, o, l⟩
    · rw [val_append, List.length_append, List.length_singleton, Nat.pow_succ, ← hval]
      simp only [val, Nat.mul_zero, Nat.add_zero]
      have h2 := Nat.mod_add_div m 4294967296
      rw [hB] at *
      generalize 4294967296 ^ gs.length = M at *
      rw [Nat.mul_assoc, Nat.add_assoc, ← Nat.mul_add, h2]
    · intro y hy
      rcases List.mem_append.1 hy with a | a
      · exact hlt y a
      · rw [List.mem_singleton.1 a]; exact Nat.mod_lt _ (by decide)
    · intro e
      simp only [Nrm, List.getLast?_append, List.getLast?_singleton, Option.some_or, ne_eq, Option.some.injEq]
      omega
  · have q' : m = 0 := by simp at q; omega
    subst q'
    rw [Nat.mul_zero, Nat.add_zero] at hval
    exact ⟨_, _, _, rfl, by omega, ⟨gs, own.sl.u32 hlt, hval, hnz rfl⟩, hle⟩

theorem r2of_c (z : Int) (h1 : -9223372036854775808 ≤ z) (h2 : z < 9223372036854775808) (h : Heap) :
    CallsU Tryz.prog 69 [.int .i64 z] h fun r h' => ∃ s' A' k c', r = .agg #[.bool s', .slice A' k c'] ∧ NmI h' s' A' k c' z ∧ k ≤ 2 ∧ Le h h' := by
  apply ref02_Of_ok
  refine Br.mk (fun q => ?_) (fun q => ?_)
  · have hz : z < 0 := by simpa using q
    rintro _ rfl _ rfl _ rfl
    have e : IntKind.u64.wrap (IntKind.u64.wrap (IntKind.i64.wrap (0 - IntKind.i64.wrap (z + 1))) + 1) = ((z.natAbs : Nat) : Int) := by
      rw [wrap_i64 (x := z + 1) (by omega) (by omega), wrap_i64 (by omega) (by omega), wrap_u64 (x := 0 - (z + 1)) (by omega) (by omega), wrap_u64 (by omega) (by omega)]; omega
    rw [e]
    refine (r1of_c z.natAbs (by omega) h).mono ?_
    rintro _ h1 ⟨A, m, c, rfl, hm, hN, hl⟩
    exact ⟨_, _, _, rfl, _, _, _, _, rfl, ⟨hN, by simp [hz]⟩, hm, hl⟩
  · have hz : 0 ≤ z := by simpa using q
    rw [wu (n := z.natAbs) (by omega) (by omega)]
    refine (r1of_c z.natAbs (by omega) h).mono ?_
    rintro _ h1 ⟨A, m, c, rfl, hm, hN, hl⟩
    exact ⟨_, _, _, rfl, _, _, _, _, rfl, ⟨hN, by simp; omega⟩, hm, hl⟩

theorem whole_c (z : Int) (h1 : -9223372036854775808 ≤ z) (h2 : z < 9223372036854775808) (h : Heap) :
    CallsU Tryz.prog 27 [.int .i64 z] h fun r h' => ∃ s' A' n' c' B' m' d', r = .agg #[.bool s', .slice A' n' c', .slice B' m' d'] ∧ NmQ h' s' A' n' c' B' m' d' (z : Rat) ∧ n' ≤ 2 ∧ m' ≤ 2 ∧ Le h h' := by
  apply ref03_Whole_ok
  refine (r2of_c z h1 h2 h).mono ?_
  rintro _ h1 ⟨s, A, k, c, rfl, hI, hk, hl⟩
  refine ⟨_, _, _, _, rfl, (r1of_c 1 (by omega) h1).mono ?_⟩
  rintro _ h2 ⟨B, m, d, rfl, hm, hN, hl2⟩
  exact ⟨_, _, _, rfl, _, _, _, _, _, _, _, rfl, ⟨hI.mono hl2, hN⟩, hk, hm, hl.trans hl2⟩

theorem toList_mk (l : List UInt8) : (⟨l.toArray⟩ : ByteArray).toList = l := by
  rw [ByteArray.toList_eq]

theorem fmt_any {q : Rat} (hq : max q.num.natAbs q.den < 100) (r : Nat) (h' : Heap) (hr : r ≤ max q.num.natAbs q.den) : CallsU Tryz.prog 93 [.int .u64 r, .int .i64 10] h' fun s h'' => s = sv (Lib.decDigits r) ∧ h' = h'' :=
  fmt_small_c r (by omega) h'

theorem ex_pAc1 : rtx (pAc 3 1 5 2) = [55, 47, 49, 48] := by decide +kernel
theorem ex_pEx : rtx (pEx 3 5 2 2) = [51, 47, 49, 48] := by decide +kernel
theorem ex_pAc2 : rtx (pAc 2 0 4 2) = [49, 47, 54] := by decide +kernel
theorem ex_small1 : max (pAc 3 1 5 2).num.natAbs (pAc 3 1 5 2).den < 100 := by decide +kernel
theorem ex_small2 : max (pEx 3 5 2 2).num.natAbs (pEx 3 5 2 2).den < 100 := by decide +kernel
theorem ex_small3 : max (pAc 2 0 4 2).num.natAbs (pAc 2 0 4 2).den < 100 := by decide +kernel
theorem ex_asc : asc ((shuf 7 3).2.take 3) = [0, 1, 2] := by
  rw [asc_eq (shuf_perm 7 3)]
  have hp := shuf_perm 7 3
  have hl := shuf_len 7 3
  rw [List.take_of_length_le (by omega)]
  rw [List.filter_eq_self.2]
  · rfl
  · intro x hx
    rw [decide_eq_true]
    exact hp.mem_iff.2 hx

end Go.Proofs.YtccplhjglhdopaaGreatDoor

/-
  Contracts: reference 01: limb, Norm, Cmp, Add, Sub, Mul, Half, Shift, Bits.
-/
namespace Go.Proofs.YtccplhjglhdopaaGreatDoor
open Go Go.Vcg
attribute [local irreducible] Br

theorem limb_c {h : Heap} {A : Option Addr} {n c : Nat} {xs : List Nat} (u : U32 h A n c xs) (i : Nat) :
    CallsU Tryz.prog 107 [.slice A n c, .int .i64 i] h fun r h' => r = .int .u64 (xs.getD i 0) ∧ h = h' := by
  apply ref01_limb_ok
  refine Br.mk (fun q => by simp at q; omega) (fun _ => Br.mk (fun q => ?_) (fun q => ?_))
  · have q' : n ≤ i := by have := of_decide_eq_true q; omega
    rw [getD_ge (by rw [u.len]; exact q')]
    exact ⟨rfl, rfl⟩
  · have q' : i < n := by have := of_decide_eq_false q; omega
    obtain ⟨ad, hA, hl⟩ := u.get q'
    have hlt := u.getD_lt i
    rw [Int.toNat_natCast]
    refine ⟨ad, hA, by omega, by omega, _, hl, ?_⟩
    rw [wu (n := xs.getD i 0) rfl (by omega)]
    exact ⟨rfl, rfl⟩

/-- append of limbs to an empty slice. -/
theorem app_none {h : Heap} {A : Option Addr} {c : Nat} {xs : List Nat} {m : Nat} (u : U32 h A m c xs) (hm : m ≤ 35184372088832) {K : Option Addr → Nat → Nat → Heap → Prop}
    (k0 : m = 0 → K none 0 0 h) (k1 : ∀ (g cap : Nat), h g = none → m ≤ cap → 0 < m → K (some ⟨g, 0, none⟩) m cap (h.put g ⟨(xs ++ List.replicate (cap - m) 0).map lv, 46, (0, 0)⟩)) :
    ∃ ys : List Value, RdS h A (m * 1) ys ∧ (∀ x ∈ ys, Go.Vcg.one x = true) ∧
      (0 + m ≤ 0 → Br (decide (m * 1 = 0)) (K none (0 + m) 0 h) (∃ (ad : Addr) (b : Blk), none = some ad ∧ ad.spot = none ∧ h ad.block = some b ∧ b.fz = (0, 0) ∧ ad.off + 0 * 1 + m * 1 ≤ b.cells.length ∧
        ∀ h' : Heap, h' = Heap.put h ad.block { b with cells := setSeg b.cells (ad.off + 0 * 1) ys } → K none (0 + m) 0 h')) ∧
      (0 < 0 + m → ∃ olds : List Value, RdS h none (0 * 1) olds ∧ (0 + m) * 4 ≤ 140737488355328 ∧
        ∀ (g cap : Nat) (h' : Heap), h g = none → 0 + m ≤ cap → h' = Heap.put h g ⟨olds ++ ys ++ repV [Value.int .u32 0] (cap - (0 + m)), 46, (0, 0)⟩ → K (some ⟨g, 0, none⟩) (0 + m) cap h') := by
  rw [Nat.zero_add]
  refine ⟨xs.map lv, u.rds, lv_one _, fun h0 => Br.mk (fun _ => ?_) (fun q => ?_), fun hp => ?_⟩
  · have : m = 0 := by omega
    subst this
    exact k0 rfl
  · exfalso
    have : m = 0 := by omega
    subst this
    simp at q
  · refine ⟨[], ⟨rfl, fun q => absurd q (Nat.lt_irrefl 0)⟩, by omega, ?_⟩
    rintro g cap h' hg hc rfl
    rw [repV_lv, List.nil_append, ← List.map_append]
    exact k1 g cap hg hc hp

theorem r1norm_c {h : Heap} {A : Option Addr} {n c v : Nat} (u : IsN h A n c v) (hn : n ≤ 35184372088832) :
    CallsU Tryz.prog 115 [.slice A n c] h fun r h' => ∃ A' m c', r = .slice A' m c' ∧ m ≤ n ∧ NmN h' A' m c' v ∧ Le h h' := by
  apply ref01_Norm_ok
  obtain ⟨xs, u, rfl⟩ := u
  have hc := u.cap
  refine ⟨fun m k h' => h = h' ∧ k = (m : Int) ∧ m ≤ n ∧ trimL xs = trimL (xs.take m), ⟨n, rfl, rfl, Nat.le_refl _, by rw [List.take_of_length_le (Nat.le_of_eq u.len)]⟩, ?_⟩
  rintro m k h' ⟨rfl, rfl, hm, ht⟩
  have fin : Nrm (xs.take m) → ∃ ys : List Value, RdS h A (m * 1) ys ∧ (∀ x ∈ ys, Go.Vcg.one x = true) ∧
      (0 + m ≤ 0 → Br (decide (m * 1 = 0)) ((fun r h' => ∃ A' m c', r = .slice A' m c' ∧ m ≤ n ∧ NmN h' A' m c' (val xs) ∧ Le h h') (Value.slice none (0 + m) 0) h) (∃ (ad : Addr) (b : Blk), none = some ad ∧ ad.spot = none ∧ h ad.block = some b ∧ b.fz = (0, 0) ∧ ad.off + 0 * 1 + m * 1 ≤ b.cells.length ∧
        ∀ h_3 : Heap, h_3 = Heap.put h ad.block { b with cells := setSeg b.cells (ad.off + 0 * 1) ys } → (fun r h' => ∃ A' m c', r = .slice A' m c' ∧ m ≤ n ∧ NmN h' A' m c' (val xs) ∧ Le h h') (Value.slice none (0 + m) 0) h_3)) ∧
      (0 < 0 + m → ∃ olds : List Value, RdS h none (0 * 1) olds ∧ (0 + m) * 4 ≤ 140737488355328 ∧
        ∀ (g cap : Nat) (h_4 : Heap), h g = none → 0 + m ≤ cap → h_4 = Heap.put h g ⟨olds ++ ys ++ repV [Value.int .u32 0] (cap - (0 + m)), 46, (0, 0)⟩ → (fun r h' => ∃ A' m c', r = .slice A' m c' ∧ m ≤ n ∧ NmN h' A' m c' (val xs) ∧ Le h h') (Value.slice (some ⟨g, 0, none⟩) (0 + m) cap) h_4) := by
    intro hN
    have hval : val (xs.take m) = val xs := by rw [← trimL_val xs, ht, trimL_of_nrm hN]
    refine app_none (K := fun A m c h' => (fun r h' => ∃ A' m c', r = .slice A' m c' ∧ m ≤ n ∧ NmN h' A' m c' (val xs) ∧ Le h h') (Value.slice A m c) h') (u.take hm) (by omega) (fun e => ?_) (fun g cap hg hcap hp => ?_)
    · subst e
      exact ⟨_, _, _, rfl, Nat.zero_le _, ⟨[], U32.nil _ _ _, by rw [← hval]; rfl, nrm_nil⟩, Le.refl _⟩
    · refine ⟨_, _, _, rfl, hm, ⟨xs.take m, ?_, hval, hN⟩, Le.new hg _⟩
      have := U32.of_blk (m := m) (k := cap) (h := h.put g ⟨(xs.take m ++ List.replicate (cap - m) 0).map lv, 46, (0, 0)⟩) (Heap.put_same _ _ _) (fun x hx => ?_) (by simp [u.len]; omega) hcap
      · rwa [List.take_left' (by simp [u.len]; omega)] at this
      · rcases List.mem_append.1 hx with a | a
        · exact u.lt x (List.mem_of_mem_take a)
        · rw [(List.mem_replicate.1 a).2]; decide
  refine Br.mk (fun hp => ?_) (fun hp => ?_)
  · have hp' : 0 < m := by simp at hp; omega
    obtain ⟨m, rfl⟩ : ∃ q, m = q + 1 := ⟨m - 1, by omega⟩
    rintro _ rfl
    rw [wi (n := m) (by omega) (by omega)]
    obtain ⟨ad, hA, hl⟩ := u.get (i := m) (by omega)
    rw [Int.toNat_natCast, Int.toNat_natCast]
    refine ⟨ad, hA, by omega, by omega, _, hl, Br.mk (fun h0 => ?_) (fun h0 => ?_)⟩
    · rintro _ rfl
      refine ⟨m, by omega, rfl, rfl, by omega, ?_⟩
      rw [ht, take_last (by rw [u.len]; omega)]
      have : xs.getD m 0 = 0 := by have := beq_iff_eq.1 h0; omega
      rw [this, trimL_snoc_zero]
    · have hnz : xs.getD m 0 ≠ 0 := by
        have := beq_eq_false_iff_ne.1 h0
        omega
      refine ⟨by omega, by omega, fin ?_⟩
      rw [take_last (by rw [u.len]; omega)]
      simpa [Nrm] using hnz
  · have hp' : m = 0 := by simp at hp; omega
    subst hp'
    rw [Int.toNat_natCast]
    exact ⟨by omega, by omega, fin (by simp [Nrm])⟩

theorem max_ite (n m : Nat) : (if decide (((m : Nat) : Int) > ((n : Nat) : Int)) then ((m : Nat) : Int) else ((n : Nat) : Int)) = ((max n m : Nat) : Int) := by
  simp only [decide_eq_true_eq]
  split <;> omega

theorem val_take_le (xs : List Nat) {k : Nat} (h : xs.length ≤ k) : val (xs.take k) = val xs := by rw [List.take_of_length_le h]

theorem val_take_lt' {xs : List Nat} (h : ∀ x ∈ xs, x < B32) (k : Nat) : val (xs.take k) < B32 ^ k := by
  rcases Nat.lt_or_ge k xs.length with q | q
  · exact val_take_lt h (by omega)
  · rw [val_take_le _ q]
    exact Nat.lt_of_lt_of_le (val_lt h) (Nat.pow_le_pow_right (by decide) q)

/-! ### Cmp -/
theorem cmp_step {X Y H a b M : Nat} (hX : X < M) (hab : a < b) : X + M * a + H < Y + M * b + H := by
  have : M * (a + 1) ≤ M * b := Nat.mul_le_mul_left _ hab
  rw [Nat.mul_add] at this
  omega

theorem r1cmp_c {h : Heap} {A B : Option Addr} {n c m d x y : Nat} (ux : IsN h A n c x) (uy : IsN h B m d y) (hn : n ≤ 1099511627776) (hm : m ≤ 1099511627776) :
    CallsU Tryz.prog 52 [.slice A n c, .slice B m d] h fun v h' => v = .int .i64 (cmpI x y) ∧ h = h' := by
  apply ref01_Cmp_ok
  obtain ⟨xs, u, rfl⟩ := ux
  obtain ⟨ys, w, rfl⟩ := uy
  unfold ref01_Cmp_vc
  rw [max_ite]
  rintro _ rfl
  rw [wrap_i64 (by omega) (by omega)]
  refine ⟨fun q i h' => ∃ H : Nat, i = (q : Int) - 1 ∧ q ≤ max n m ∧ h = h' ∧ val xs = val (xs.take q) + H ∧ val ys = val (ys.take q) + H, ⟨max n m, 0, rfl, Nat.le_refl _, rfl, ?_, ?_⟩, ?_⟩
  · rw [val_take_le _ (by rw [u.len]; omega)]; rfl
  · rw [val_take_le _ (by rw [w.len]; omega)]; rfl
  rintro q _ _ ⟨H, rfl, hq, rfl, hx, hy⟩
  refine Br.mk (fun b => ?_) (fun b => ?_)
  · have b' : 0 < q := by have := of_decide_eq_true b; omega
    obtain ⟨q, rfl⟩ : ∃ t, q = t + 1 := ⟨q - 1, by omega⟩
    rw [show ((q + 1 : Nat) : Int) - 1 = (q : Int) from by omega]
    have lx := val_take_lt' (xs := xs) u.lt q
    have ly := val_take_lt' (xs := ys) w.lt q
    rw [val_take_succ'] at hx hy
    refine (limb_c u q).mono ?_
    rintro _ _ ⟨rfl, rfl⟩
    refine ⟨_, rfl, (limb_c w q).mono ?_⟩
    rintro _ _ ⟨rfl, rfl⟩
    refine ⟨_, rfl, Br.mk (fun b1 => ?_) (fun b1 => ?_)⟩
    · have b2 : xs.getD q 0 < ys.getD q 0 := by have := of_decide_eq_true b1; omega
      rw [cmpI_lt]
      · exact ⟨rfl, rfl⟩
      · rw [hx, hy]; exact cmp_step lx b2
    · have b2 : ys.getD q 0 ≤ xs.getD q 0 := by have := of_decide_eq_false b1; omega
      refine (limb_c u q).mono ?_
      rintro _ _ ⟨rfl, rfl⟩
      refine ⟨_, rfl, (limb_c w q).mono ?_⟩
      rintro _ _ ⟨rfl, rfl⟩
      refine ⟨_, rfl, Br.mk (fun b3 => ?_) (fun b3 => ?_)⟩
      · have b4 : ys.getD q 0 < xs.getD q 0 := by have := of_decide_eq_true b3; omega
        rw [cmpI_gt]
        · exact ⟨rfl, rfl⟩
        · rw [hx, hy]; exact cmp_step ly b4
      · have b4 : xs.getD q 0 = ys.getD q 0 := by have := of_decide_eq_false b3; omega
        rintro _ rfl
        rw [wrap_i64 (by omega) (by omega)]
        refine ⟨q, by omega, H + B32 ^ q * xs.getD q 0, rfl, by omega, rfl, by omega, by rw [b4]; omega⟩
  · have b' : q = 0 := by have := of_decide_eq_false b; omega
    subst b'
    have : val xs = val ys := by simp [val] at hx hy; omega
    rw [this, cmpI_eq]
    exact ⟨rfl, rfl⟩

theorem own_is {h h' : Heap} {A : Option Addr} {n c : Nat} {gs : List Nat} (o : OwnE lv 46 h h' A n c gs) (hlt : ∀ x ∈ gs, x < 4294967296) : IsN h' A n c (val gs) := ⟨gs, o.sl.u32 hlt, rfl⟩

theorem mem_snoc32 {gs : List Nat} {y : Nat} (h : ∀ x ∈ gs, x < 4294967296) (hy : y < 4294967296) : ∀ x ∈ gs ++ [y], x < 4294967296 := fun x hx => by
  rcases List.mem_append.1 hx with a | a
  · exact h x a
  · rw [List.mem_singleton.1 a]; exact hy

theorem val_snoc32 (gs : List Nat) (y : Nat) : val (gs ++ [y]) = val gs + B32 ^ gs.length * y := by
  rw [val_append]
  simp [val]

theorem w32t {a : Int} {n : Nat} (h : a = n) : IntKind.u32.wrap (Int.tmod a 4294967296) = ((n % B32 : Nat) : Int) := by
  subst h
  rw [Int.tmod_eq_emod_of_nonneg (by omega), wrap_u32_mod]
  unfold B32
  omega

theorem wdiv {a : Int} {n : Nat} (h : a = n) (hn : n < 18446744073709551616) : IntKind.u64.wrap (Int.tdiv a 4294967296) = ((n / B32 : Nat) : Int) := by
  subst h
  rw [Int.tdiv_eq_ediv_of_nonneg (by omega), wrap_u64_mod]
  unfold B32
  omega

theorem modB (t : Nat) : t % B32 < 4294967296 := Nat.mod_lt _ (by decide)

/-! ### Add -/
def AddI (h : Heap) (xs ys : List Nat) (M : Nat) (m : Nat) (oA : Option Addr) (on oc : Nat) (carry i : Int) (h' : Heap) : Prop :=
  ∃ (k cN : Nat) (gs : List Nat), m = (M - k) * 2 + cN ∧ i = (k : Int) ∧ carry = (cN : Int) ∧ cN ≤ 1 ∧ (k ≤ M ∨ (k = M + 1 ∧ cN = 0)) ∧ gs.length = k ∧ (∀ x ∈ gs, x < 4294967296) ∧
    val gs + B32 ^ k * cN = val (xs.take k) + val (ys.take k) ∧ OwnE lv 46 h h' oA on oc gs ∧ Le h h'

theorem radd_step {G X Y c p q x y t : Nat} (h : G + p * c = X + Y) (ht : x + y + c = t) (hq : q = p * B32) : (G + p * (t % B32)) + q * (t / B32) = (X + p * x) + (Y + p * y) := by
  have := Nat.mod_add_div t B32
  subst hq
  grind

theorem r1add_c {h : Heap} {A B : Option Addr} {n c m d x y : Nat} (ux : IsN h A n c x) (uy : IsN h B m d y) (hn : n ≤ 1099511627776) (hm : m ≤ 1099511627776) :
    CallsU Tryz.prog 111 [.slice A n c, .slice B m d] h fun r h' => ∃ A' k c', r = .slice A' k c' ∧ NmN h' A' k c' (x + y) ∧ Le h h' := by
  apply ref01_Add_ok
  obtain ⟨xs, u, rfl⟩ := ux
  obtain ⟨ys, w, rfl⟩ := uy
  have hB : B32 = 4294967296 := rfl
  unfold ref01_Add_vc
  refine ⟨AddI h xs ys (max n m), ⟨_, 0, 0, [], rfl, rfl, rfl, by omega, Or.inl (by omega), rfl, by simp, by simp [val], OwnE.nil h, Le.refl h⟩, ?_⟩
  rintro _ oA on oc _ _ h1 ⟨k, cN, gs, rfl, rfl, rfl, hc, hk, hgl, hlt, hv, own, hle⟩
  have hon := own.1
  refine ⟨fun h2 => h1 = h2 ∧ (k < max n m ∨ 0 < cN), ?_, ?_⟩
  · rintro _ ⟨rfl, hgo⟩
    have lx := u.getD_lt k
    have ly := w.getD_lt k
    refine (limb_c (u.mono hle) k).mono ?_
    rintro _ _ ⟨rfl, rfl⟩
    refine ⟨_, rfl, (limb_c (w.mono hle) k).mono ?_⟩
    rintro _ _ ⟨rfl, rfl⟩
    refine ⟨_, rfl, ?_⟩
    rintro _ rfl _ rfl _ rfl g0 _ hg0 rfl
    rw [wu (a := ((xs.getD k 0 : Nat) : Int) + ((ys.getD k 0 : Nat) : Int)) (n := xs.getD k 0 + ys.getD k 0) (by omega) (by omega), wu (a := ((xs.getD k 0 + ys.getD k 0 : Nat) : Int) + (cN : Int)) (n := xs.getD k 0 + ys.getD k 0 + cN) (by omega) (by omega), w32t rfl]
    generalize ht : xs.getD k 0 + ys.getD k 0 + cN = t
    refine own.app (x := t % B32) (z := 0) (bs := 4) (K := fun A c hh => ∀ t38 : Int, t38 = IntKind.u64.wrap (Int.tdiv (t : Int) 4294967296) → ∀ t21 : Int, t21 = IntKind.i64.wrap ((k : Int) + 1) → ∃ m', m' < (max n m - k) * 2 + cN ∧ AddI h xs ys (max n m) m' A (on + 1) c t38 t21 hh) hle lv_one1 rfl rfl hg0 (by omega) ?_
    intro A' c' h' o l _
    rintro _ rfl _ rfl
    rw [wdiv rfl (by omega), wi (n := k + 1) (by omega) (by omega)]
    have hk1 : k ≤ max n m := by omega
    have hend : k = max n m → t ≤ 1 := fun e => by
      have e1 := getD_ge (xs := xs) (k := k) (by rw [u.len]; omega)
      have e2 := getD_ge (xs := ys) (k := k) (by rw [w.len]; omega)
      omega
    refine ⟨_, ?_, k + 1, t / B32, gs ++ [t % B32], rfl, rfl, rfl, ?_, ?_, by simp [hgl], mem_snoc32 hlt (modB t), ?_, o, l⟩
    · rw [hB]; omega
    · rw [hB]; omega
    · rw [hB]; omega
    · rw [val_snoc32, hgl, val_take_succ', val_take_succ']
      exact radd_step hv ht (Nat.pow_succ _ _)
  · rw [max_ite]
    refine Br.mk (fun b => ⟨rfl, Or.inl (by have := of_decide_eq_true b; omega)⟩) (fun b => Br.mk (fun b2 => ⟨rfl, Or.inr (by have := of_decide_eq_true b2; omega)⟩) (fun b2 => ?_))
    have b' : max n m ≤ k := by have := of_decide_eq_false b; omega
    have c0 : cN = 0 := by have := of_decide_eq_false b2; omega
    subst c0
    rw [val_take_le xs (by rw [u.len]; omega), val_take_le ys (by rw [w.len]; omega), Nat.mul_zero, Nat.add_zero] at hv
    refine (r1norm_c (own_is own hlt) (by omega)).mono ?_
    rintro _ h2 ⟨A', k', c', rfl, _, hN, hl⟩
    rw [hv] at hN
    exact ⟨_, _, _, rfl, _, _, _, rfl, hN, hle.trans hl⟩

/-! ### Sub -/
def SubI (h : Heap) (xs ys : List Nat) (M : Nat) (m : Nat) (oA : Option Addr) (on oc : Nat) (borrow i : Int) (h' : Heap) : Prop :=
  ∃ (k bN : Nat) (gs : List Nat), m = M - k ∧ i = (k : Int) ∧ borrow = (bN : Int) ∧ bN ≤ 1 ∧ k ≤ M ∧ gs.length = k ∧ (∀ x ∈ gs, x < 4294967296) ∧
    val gs + val (ys.take k) = val (xs.take k) + B32 ^ k * bN ∧ OwnE lv 46 h h' oA on oc gs ∧ Le h h'

theorem rsub_step {G X Y b p q x y t : Nat} (h : G + Y = X + p * b) (ht : B32 + x = t + y + b) (hb : t / B32 ≤ 1) (hq : q = p * B32) : (G + p * (t % B32)) + (Y + p * y) = (X + p * x) + q * (1 - t / B32) := by
  have h1 := Nat.mod_add_div t B32
  subst hq
  rcases Nat.le_one_iff_eq_zero_or_eq_one.1 hb with e0 | e0
  · rw [e0] at h1 ⊢
    simp only [Nat.sub_zero, Nat.mul_one, Nat.mul_zero, Nat.add_zero] at *
    generalize t % B32 = r at *
    subst h1
    have : p * B32 + p * x = p * r + p * y + p * b := by rw [← Nat.mul_add, ht]; rw [Nat.mul_add, Nat.mul_add]
    omega
  · rw [e0] at h1 ⊢
    simp only [Nat.sub_self, Nat.mul_one, Nat.mul_zero, Nat.add_zero] at *
    generalize t % B32 = r at *
    have hr : x = r + y + b := by omega
    subst hr
    rw [Nat.mul_add, Nat.mul_add]
    omega

theorem r1sub_c {h : Heap} {A B : Option Addr} {n c m d x y : Nat} (ux : IsN h A n c x) (uy : IsN h B m d y) (hn : n ≤ 1099511627776) (hm : m ≤ 1099511627776) :
    CallsU Tryz.prog 137 [.slice A n c, .slice B m d] h fun r h' => (x < y ∧ r = .tuple #[.slice none 0 0, .bool false] ∧ h = h') ∨ (y ≤ x ∧ ∃ A' k c', r = .tuple #[.slice A' k c', .bool true] ∧ NmN h' A' k c' (x - y) ∧ Le h h') := by
  apply ref01_Sub_ok
  refine (r1cmp_c ux uy hn hm).mono ?_
  rintro _ _ ⟨rfl, rfl⟩
  refine ⟨_, rfl, Br.mk (fun b => ?_) (fun b => ?_)⟩
  · have b' := of_decide_eq_true b
    refine Or.inl ⟨?_, rfl, rfl⟩
    unfold cmpI at b'
    split at b'
    · omega
    · split at b' <;> omega
  · have b' := of_decide_eq_false b
    have hyx : y ≤ x := by
      unfold cmpI at b'
      split at b'
      · omega
      · omega
    obtain ⟨xs, u, rfl⟩ := ux
    obtain ⟨ys, w, rfl⟩ := uy
    have hB : B32 = 4294967296 := rfl
    refine ⟨SubI h xs ys (max n m), ⟨_, 0, 0, [], rfl, rfl, rfl, by omega, by omega, rfl, by simp, by simp [val], OwnE.nil h, Le.refl h⟩, ?_⟩
    rintro _ oA on oc _ _ h1 ⟨k, bN, gs, rfl, rfl, rfl, hb, hk, hgl, hlt, hv, own, hle⟩
    have hon := own.1
    rw [max_ite]
    refine Br.mk (fun q => ?_) (fun q => ?_)
    · have q' : k < max n m := by have := of_decide_eq_true q; omega
      have lx := u.getD_lt k
      have ly := w.getD_lt k
      refine (limb_c (u.mono hle) k).mono ?_
      rintro _ _ ⟨rfl, rfl⟩
      refine ⟨_, rfl, ?_⟩
      rintro _ rfl
      rw [wu (n := 4294967296 + xs.getD k 0) (by omega) (by omega)]
      refine (limb_c (w.mono hle) k).mono ?_
      rintro _ _ ⟨rfl, rfl⟩
      refine ⟨_, rfl, ?_⟩
      rintro _ rfl _ rfl _ rfl g0 _ hg0 rfl
      rw [wu (a := ((4294967296 + xs.getD k 0 : Nat) : Int) - ((ys.getD k 0 : Nat) : Int)) (n := 4294967296 + xs.getD k 0 - ys.getD k 0) (by omega) (by omega), wu (a := ((4294967296 + xs.getD k 0 - ys.getD k 0 : Nat) : Int) - (bN : Int)) (n := 4294967296 + xs.getD k 0 - ys.getD k 0 - bN) (by omega) (by omega), w32t rfl]
      have ht : B32 + xs.getD k 0 = (4294967296 + xs.getD k 0 - ys.getD k 0 - bN) + ys.getD k 0 + bN := by rw [hB]; omega
      have htl : 4294967296 + xs.getD k 0 - ys.getD k 0 - bN < 2 * 4294967296 := by omega
      generalize 4294967296 + xs.getD k 0 - ys.getD k 0 - bN = t at ht htl ⊢
      refine own.app (x := t % B32) (z := 0) (bs := 4) (K := fun A c hh => ∀ t40 : Int, t40 = IntKind.u64.wrap (Int.tdiv (t : Int) 4294967296) → ∀ t41 : Int, t41 = IntKind.u64.wrap (1 - t40) → ∀ t22 : Int, t22 = IntKind.i64.wrap ((k : Int) + 1) → ∃ m', m' < max n m - k ∧ SubI h xs ys (max n m) m' A (on + 1) c t41 t22 hh) hle lv_one1 rfl rfl hg0 (by omega) ?_
      intro A' c' h' o l _
      rintro _ rfl _ rfl _ rfl
      have hd : t / B32 ≤ 1 := by rw [hB]; omega
      rw [wdiv rfl (by omega), wi (n := k + 1) (by omega) (by omega), wu (a := 1 - ((t / B32 : Nat) : Int)) (n := 1 - t / B32) (by omega) (Nat.lt_of_le_of_lt (Nat.sub_le 1 _) (by decide))]
      refine ⟨_, by omega, k + 1, 1 - t / B32, gs ++ [t % B32], rfl, rfl, rfl, Nat.sub_le 1 _, by omega, by simp [hgl], mem_snoc32 hlt (modB t), ?_, o, l⟩
      rw [val_snoc32, hgl, val_take_succ', val_take_succ']
      exact rsub_step hv ht hd (Nat.pow_succ _ _)
    · have q' : k = max n m := by have := of_decide_eq_false q; omega
      have hg := val_lt (l := gs) hlt
      rw [hgl] at hg
      rw [val_take_le ys (by rw [w.len]; omega), val_take_le xs (by rw [u.len]; omega)] at hv
      have b0 : bN = 0 := by
        rcases Nat.eq_zero_or_pos bN with e | e
        · exact e
        · exfalso
          have : bN = 1 := by omega
          subst this
          omega
      subst b0
      refine (r1norm_c (own_is own hlt) (by omega)).mono ?_
      rintro _ h2 ⟨A', k', c', rfl, _, hN, hl⟩
      rw [show val gs = val xs - val ys from by omega] at hN
      exact ⟨_, _, _, rfl, Or.inr ⟨hyx, _, _, _, rfl, hN, hle.trans hl⟩⟩
end Go.Proofs.YtccplhjglhdopaaGreatDoor

/-
  Contracts: reference 01: Mul, Half, Shift, Bits, DivMod, Gcd.
-/
namespace Go.Proofs.YtccplhjglhdopaaGreatDoor
open Go Go.Vcg
attribute [local irreducible] Br

/-! ### Mul -/
theorem r1mul_c {h : Heap} {A B : Option Addr} {n c m d x y : Nat} (ux : IsN h A n c x) (uy : IsN h B m d y) (hn : n ≤ 1099511627776) (hm : m ≤ 1099511627776) :
    CallsU Tryz.prog 103 [.slice A n c, .slice B m d] h fun r h' => ∃ A' k c', r = .slice A' k c' ∧ NmN h' A' k c' (x * y) ∧ Le h h' := by
  apply ref01_Mul_ok
  obtain ⟨xs, a, rfl⟩ := ux
  obtain ⟨ys, b, rfl⟩ := uy
  have la := a.len
  have lb := b.len
  have hbd2 : B32 * B32 = 18446744073709551616 := by decide
  rintro _ rfl
  rw [wi (n := n + m) (by omega) (by omega)]
  refine ⟨by omega, by omega, by omega, by omega, ?_⟩
  rintro g h4 hg rfl
  simp only [Int.toNat_natCast]
  refine ⟨fun q i h' => ∃ (k : Nat) (rs : List Nat), q = n - k ∧ k ≤ n ∧ i = (k : Int) ∧ rs.length = n + m ∧ (∀ x ∈ rs, x < B32) ∧ (∀ j, k + m ≤ j → rs.getD j 0 = 0) ∧
      h' g = some ⟨rs.map lv, 46, (0, 0)⟩ ∧ Le h h' ∧ val (rs.take (k + m)) = val (xs.take k) * val ys,
    ⟨n, 0, List.replicate (n + m) 0, rfl, by omega, rfl, by simp, fun x hx => by rw [List.mem_replicate] at hx; rw [hx.2]; decide, fun j _ => by simp [List.getElem?_replicate]; split <;> rfl,
      by rw [Heap.put_same, repV_lv], Le.new hg _, by rw [List.take_replicate, val_zeros]; simp [val]⟩, ?_⟩
  rintro _ _ h5 ⟨k, rs, rfl, hk, rfl, hrl, hrs, hz, hb, hl, hval⟩
  refine Br.mk (fun q => ?_) (fun q => ?_)
  · have q' : k < n := by have := of_decide_eq_true q; omega
    have hxk := a.getD_lt k
    refine ⟨fun m2 carry i2 h' => ∃ (j cN : Nat) (ss : List Nat), m2 = m - j ∧ j ≤ m ∧ i2 = (j : Int) ∧ carry = (cN : Int) ∧ cN < B32 ∧ ss.length = n + m ∧ (∀ x ∈ ss, x < B32) ∧ ss.drop (k + j) = rs.drop (k + j) ∧
        h' g = some ⟨ss.map lv, 46, (0, 0)⟩ ∧ Le h h' ∧ val (ss.take (k + j)) + B32 ^ (k + j) * cN = val (rs.take (k + j)) + B32 ^ k * xs.getD k 0 * val (ys.take j),
      ⟨m, 0, 0, rs, rfl, by omega, rfl, rfl, by decide, hrl, hrs, rfl, hb, hl, by simp [val]⟩, ?_⟩
    rintro _ _ _ h6 ⟨j, cN, ss, rfl, hj, rfl, rfl, hc, hsl, hss, hdrop, hb6, hl6, hv6⟩
    refine Br.mk (fun q2 => ?_) (fun q2 => ?_)
    · have q2' : j < m := by have := of_decide_eq_true q2; omega
      have hyj := b.getD_lt j
      have hsk : ss.getD (k + j) 0 < B32 := getD_lt hss (by decide) _
      have hbd := limb_bound (x := xs.getD k 0) (y := ys.getD j 0) hxk hyj hsk hc
      refine (limb_c (a.mono hl6) k).mono ?_
      rintro _ _ ⟨rfl, rfl⟩
      refine ⟨_, rfl, (limb_c (b.mono hl6) j).mono ?_⟩
      rintro _ _ ⟨rfl, rfl⟩
      refine ⟨_, rfl, ?_⟩
      rintro _ rfl _ rfl
      rw [wi (n := k + j) (by omega) (by omega)]
      have us := U32.of_blk (m := n + m) (k := n + m) hb6 hss (by omega) (Nat.le_refl _)
      rw [List.take_of_length_le (by omega)] at us
      refine (limb_c us (k + j)).mono ?_
      rintro _ _ ⟨rfl, rfl⟩
      refine ⟨_, rfl, ?_⟩
      rintro _ rfl _ rfl _ rfl _ rfl
      rw [wu (a := ((xs.getD k 0 : Nat) : Int) * ((ys.getD j 0 : Nat) : Int)) (n := xs.getD k 0 * ys.getD j 0) (by rw [Int.natCast_mul]) (by omega), wu (a := ((xs.getD k 0 * ys.getD j 0 : Nat) : Int) + ((ss.getD (k + j) 0 : Nat) : Int)) (n := xs.getD k 0 * ys.getD j 0 + ss.getD (k + j) 0) (Int.natCast_add _ _).symm (by omega),
        wu (a := ((xs.getD k 0 * ys.getD j 0 + ss.getD (k + j) 0 : Nat) : Int) + (cN : Int)) (n := xs.getD k 0 * ys.getD j 0 + ss.getD (k + j) 0 + cN) (Int.natCast_add _ _).symm (by omega), w32t rfl]
      have ht : cN + (xs.getD k 0 * ys.getD j 0 + ss.getD (k + j) 0) = xs.getD k 0 * ys.getD j 0 + ss.getD (k + j) 0 + cN := by omega
      rw [← ht]
      generalize ht2 : cN + (xs.getD k 0 * ys.getD j 0 + ss.getD (k + j) 0) = t at hbd ⊢
      simp only [Int.toNat_natCast]
      refine ⟨_, rfl, by omega, by omega, st_own (t % B32) hb6 (by omega) rfl ?_⟩
      rintro _ rfl _ rfl
      rw [wdiv rfl (by omega), wi (n := j + 1) (by omega) (by omega)]
      refine ⟨m - (j + 1), by omega, j + 1, t / B32, ss.set (k + j) (t % B32), rfl, by omega, rfl, rfl, Nat.div_lt_of_lt_mul hbd, by simp [hsl], mem_set hss (Nat.mod_lt _ (by decide)), ?_, Heap.put_same _ _ _, hl6.put hg _, ?_⟩
      · rw [drop_set (by omega)]
        have := congrArg (List.drop 1) hdrop
        simpa [List.drop_drop, Nat.add_assoc] using this
      · rw [← Nat.add_assoc, val_take_succ (by simp; omega), take_set_ge (Nat.le_refl _), getD_set_eq (by omega), val_take_succ (xs := rs) (by omega), val_take_succ (xs := ys) (by omega), ← getD_drop hdrop (Nat.le_refl _)]
        exact mul_step _ _ _ _ _ _ _ _ _ _ _ hv6 ht2 (by rw [Nat.pow_succ]) (B32 ^ j) (by rw [Nat.pow_add])
    · have hjm : j = m := by have := of_decide_eq_false q2; omega
      subst hjm
      rintro _ rfl
      rw [wi (n := k + j) (by omega) (by omega)]
      simp only [Int.toNat_natCast]
      refine ⟨_, rfl, by omega, by omega, st_own cN hb6 (by omega) (by rw [w32 rfl, Nat.mod_eq_of_lt hc]) ?_⟩
      rintro _ rfl
      rw [wi (n := k + 1) (by omega) (by omega)]
      refine ⟨n - (k + 1), by omega, k + 1, ss.set (k + j) cN, rfl, by omega, rfl, by simp [hsl], mem_set hss hc, fun i hi => ?_, Heap.put_same _ _ _, hl6.put hg _, ?_⟩
      · rw [getD_set_ne (by omega), getD_drop hdrop (by omega)]
        exact hz i (by omega)
      · have e : k + 1 + j = k + j + 1 := by omega
        rw [e, val_take_succ (by simp; omega), take_set_ge (Nat.le_refl _), getD_set_eq (by omega), hv6, hval, val_take_succ (xs := xs) (by omega), List.take_of_length_le (l := ys) (by omega)]
        grind
  · have hka : k = n := by have := of_decide_eq_false q; omega
    subst hka
    have u := U32.of_blk (m := k + m) (k := k + m) hb hrs (by omega) (Nat.le_refl _)
    have hv2 : val (rs.take (k + m)) = val xs * val ys := by rw [hval, List.take_of_length_le (by omega)]
    refine (r1norm_c ⟨_, u, hv2⟩ (by omega)).mono ?_
    rintro _ _ ⟨A', m2, c', rfl, hm2, hN, hl2⟩
    exact ⟨_, _, _, rfl, _, _, _, rfl, hN, hl.trans hl2⟩

/-! ### Half -/
def HalfI (h : Heap) (xs : List Nat) (n : Nat) (m : Nat) (oA : Option Addr) (on oc : Nat) (i : Int) (h' : Heap) : Prop :=
  ∃ (k : Nat) (gs : List Nat), m = n - k ∧ i = (k : Int) ∧ k ≤ n ∧ gs.length = k ∧ (∀ x ∈ gs, x < 4294967296) ∧
    val gs * 2 + xs.getD 0 0 % 2 = val (xs.take k) + B32 ^ k * (xs.getD k 0 % 2) ∧ OwnE lv 46 h h' oA on oc gs ∧ Le h h'

theorem half_step {G X p q r x y : Nat} (h : G * 2 + r = X + p * (x % 2)) (hq : q = p * B32) : (G + p * (x / 2 + y % 2 * 2147483648)) * 2 + r = (X + p * x) + q * (y % 2) := by
  have h1 := Nat.mod_add_div x 2
  subst hq
  have hB : B32 = 2147483648 * 2 := rfl
  rw [hB]
  generalize x % 2 = a at *
  generalize x / 2 = b at *
  subst h1
  generalize y % 2 = e at *
  grind

theorem r1half_c {h : Heap} {A : Option Addr} {n c x : Nat} (ux : IsN h A n c x) (hn : n ≤ 1099511627776) :
    CallsU Tryz.prog 142 [.slice A n c] h fun r h' => ∃ A' k c', r = .slice A' k c' ∧ NmN h' A' k c' (x / 2) ∧ Le h h' := by
  apply ref01_Half_ok
  obtain ⟨xs, u, rfl⟩ := ux
  refine ⟨HalfI h xs n, ⟨_, 0, [], rfl, rfl, by omega, rfl, by simp, by simp [val], OwnE.nil h, Le.refl h⟩, ?_⟩
  rintro _ oA on oc _ h1 ⟨k, gs, rfl, rfl, hk, hgl, hlt, hv, own, hle⟩
  have hon := own.1
  refine Br.mk (fun q => ?_) (fun q => ?_)
  · have q' : k < n := by have := of_decide_eq_true q; omega
    have lx := u.getD_lt k
    have ly := u.getD_lt (k + 1)
    refine (limb_c (u.mono hle) k).mono ?_
    rintro _ _ ⟨rfl, rfl⟩
    refine ⟨_, rfl, ?_⟩
    rintro _ rfl _ rfl
    rw [wi (n := k + 1) (by omega) (by omega)]
    refine (limb_c (u.mono hle) (k + 1)).mono ?_
    rintro _ _ ⟨rfl, rfl⟩
    refine ⟨_, rfl, ?_⟩
    rintro _ rfl _ rfl _ rfl g0 _ hg0 rfl
    have e1 : Int.tdiv ((xs.getD k 0 : Nat) : Int) 2 = ((xs.getD k 0 / 2 : Nat) : Int) := by rw [Int.tdiv_eq_ediv_of_nonneg (by omega)]; omega
    have e2 : Int.tmod ((xs.getD (k + 1) 0 : Nat) : Int) 2 = ((xs.getD (k + 1) 0 % 2 : Nat) : Int) := by rw [Int.tmod_eq_emod_of_nonneg (by omega)]; omega
    rw [e1, e2, wu (a := ((xs.getD k 0 / 2 : Nat) : Int)) (n := xs.getD k 0 / 2) rfl (by omega), wu (a := ((xs.getD (k + 1) 0 % 2 : Nat) : Int) * 2147483648) (n := xs.getD (k + 1) 0 % 2 * 2147483648) (by omega) (by omega), wu (a := ((xs.getD k 0 / 2 : Nat) : Int) + ((xs.getD (k + 1) 0 % 2 * 2147483648 : Nat) : Int)) (n := xs.getD k 0 / 2 + xs.getD (k + 1) 0 % 2 * 2147483648) (by omega) (by omega), w32 rfl, Nat.mod_eq_of_lt (by unfold B32; omega)]
    refine own.app (x := xs.getD k 0 / 2 + xs.getD (k + 1) 0 % 2 * 2147483648) (z := 0) (bs := 4) (K := fun A c hh => ∀ t10 : Int, t10 = ((k + 1 : Nat) : Int) → ∃ m', m' < n - k ∧ HalfI h xs n m' A (on + 1) c t10 hh) hle lv_one1 rfl rfl hg0 (by omega) ?_
    intro A' c' h' o l _
    rintro _ rfl
    refine ⟨_, by omega, k + 1, _, rfl, rfl, by omega, by simp [hgl], mem_snoc32 hlt (by omega), ?_, o, l⟩
    rw [val_snoc32, hgl, val_take_succ']
    exact half_step hv (Nat.pow_succ _ _)
  · have q' : k = n := by have := of_decide_eq_false q; omega
    rw [val_take_le _ (by rw [u.len]; omega), getD_ge (xs := xs) (k := k) (by rw [u.len]; omega), Nat.zero_mod, Nat.mul_zero, Nat.add_zero] at hv
    refine (r1norm_c (own_is own hlt) (by omega)).mono ?_
    rintro _ h2 ⟨A', k', c', rfl, _, hN, hl⟩
    rw [show val gs = val xs / 2 from by omega] at hN
    exact ⟨_, _, _, rfl, _, _, _, rfl, hN, hle.trans hl⟩

/-! ### Shift -/
def ShiftI (h : Heap) (xs : List Nat) (n qd r : Nat) (m : Nat) (oA : Option Addr) (on oc : Nat) (carry i : Int) (h' : Heap) : Prop :=
  ∃ (k cN : Nat) (ds : List Nat), m = n + 1 - k ∧ i = (k : Int) ∧ carry = (cN : Int) ∧ cN < 2 ^ r ∧ k ≤ n + 1 ∧ ds.length = k ∧ (∀ x ∈ ds, x < 4294967296) ∧
    val ds + B32 ^ k * cN = 2 ^ r * val (xs.take k) ∧ OwnE lv 46 h h' oA on oc (List.replicate qd 0 ++ ds) ∧ Le h h'

theorem shift_step {D X p q s x c t : Nat} (h : D + p * c = s * X) (ht : x * s + c = t) (hq : q = p * B32) : (D + p * (t % B32)) + q * (t / B32) = s * (X + p * x) := by
  have := Nat.mod_add_div t B32
  subst hq
  grind

theorem r1shift_c {h : Heap} {A : Option Addr} {n c x : Nat} (ux : IsN h A n c x) (hn : n ≤ 1099511627776) (s : Nat) (hs : s ≤ 35184372088832) :
    CallsU Tryz.prog 141 [.slice A n c, .int .i64 s] h fun r h' => ∃ A' k c', r = .slice A' k c' ∧ NmN h' A' k c' (x * 2 ^ s) ∧ Le h h' := by
  apply ref01_Shift_ok
  obtain ⟨xs, u, rfl⟩ := ux
  have hB : B32 = 2 ^ 32 := by decide
  have hB' : B32 = 4294967296 := rfl
  have e1 : Int.tdiv ((s : Nat) : Int) 32 = ((s / 32 : Nat) : Int) := by rw [Int.tdiv_eq_ediv_of_nonneg (by omega)]; omega
  have e2 : Int.tmod ((s : Nat) : Int) 32 = ((s % 32 : Nat) : Int) := by rw [Int.tmod_eq_emod_of_nonneg (by omega)]; omega
  rintro _ rfl
  rw [e1, wi (n := s / 32) rfl (by omega)]
  refine ⟨by omega, by omega, by omega, by omega, ?_⟩
  rintro g _ hg rfl
  rw [Int.toNat_natCast]
  have hs2 : s = 32 * (s / 32) + s % 32 := by omega
  have hr : s % 32 < 32 := Nat.mod_lt _ (by decide)
  have hp : 0 < 2 ^ (s % 32) := Nat.pow_pos (by decide)
  have hp2 : 2 ^ (s % 32) ≤ 2 ^ 31 := Nat.pow_le_pow_right (by decide) (by omega)
  have hp3 : (2 : Nat) ^ 31 = 2147483648 := by decide
  have hqd : s / 32 ≤ 1099511627776 := by omega
  have hpow : (2 : Nat) ^ s = B32 ^ (s / 32) * 2 ^ (s % 32) := by
    rw [hB, ← Nat.pow_mul, ← Nat.pow_add, ← hs2]
  rw [hpow]
  generalize s / 32 = qd at *
  generalize s % 32 = r at *
  refine ⟨ShiftI h xs n qd r, ⟨_, 0, 0, [], rfl, rfl, rfl, hp, by omega, rfl, by simp, by simp [val], ?_, Le.new hg _⟩, ?_⟩
  · refine ⟨by simp, Or.inr ⟨g, [], rfl, hg, ?_, by simp⟩⟩
    rw [Heap.put_same, repV_lv]
    simp
  rintro _ oA on oc _ _ h1 ⟨k, cN, ds, rfl, rfl, rfl, hc, hk, hdl, hlt, hv, own, hle⟩
  have hon := own.1
  rw [List.length_append, List.length_replicate, hdl] at hon
  refine Br.mk (fun q => ?_) (fun q => ?_)
  · have q' : k ≤ n := by have := of_decide_eq_true q; omega
    have lx := u.getD_lt k
    refine (limb_c (u.mono hle) k).mono ?_
    rintro _ _ ⟨rfl, rfl⟩
    refine ⟨_, rfl, ?_⟩
    rintro _ rfl
    rw [e2, wu (n := r) rfl (by omega), Int.toNat_natCast, Nat.min_eq_left (by omega)]
    refine Br.mk (fun q1 => by have := of_decide_eq_true q1; omega) (fun _ => ?_)
    rintro _ rfl _ rfl _ rfl g0 _ hg0 rfl
    have hpI : ((2 : Int) ^ r) = ((2 ^ r : Nat) : Int) := by simp
    have hxs : xs.getD k 0 * 2 ^ r + 2 ^ r ≤ 4294967296 * 2 ^ r := by
      have : (xs.getD k 0 + 1) * 2 ^ r ≤ 4294967296 * 2 ^ r := Nat.mul_le_mul_right _ lx
      rw [Nat.add_mul, Nat.one_mul] at this
      exact this
    rw [hpI, wu (a := ((xs.getD k 0 : Nat) : Int) * ((2 ^ r : Nat) : Int)) (n := xs.getD k 0 * 2 ^ r) (by rw [Int.natCast_mul]) (by omega), wu (a := ((xs.getD k 0 * 2 ^ r : Nat) : Int) + (cN : Int)) (n := xs.getD k 0 * 2 ^ r + cN) (Int.natCast_add _ _).symm (by omega), w32t rfl]
    generalize ht : xs.getD k 0 * 2 ^ r + cN = t
    have htl : t < 2 ^ r * B32 := by rw [hB', Nat.mul_comm (2 ^ r)]; omega
    refine own.app (x := t % B32) (z := 0) (bs := 4) (K := fun A c hh => ∀ t34 : Int, t34 = IntKind.u64.wrap (Int.tdiv (t : Int) 4294967296) → ∀ t17 : Int, t17 = IntKind.i64.wrap ((k : Int) + 1) → ∃ m', m' < n + 1 - k ∧ ShiftI h xs n qd r m' A (on + 1) c t34 t17 hh) hle lv_one1 rfl rfl hg0 (by omega) ?_
    intro A' c' h' o l _
    rintro _ rfl _ rfl
    rw [wdiv rfl (by omega), wi (n := k + 1) (by omega) (by omega)]
    refine ⟨_, by omega, k + 1, t / B32, ds ++ [t % B32], rfl, rfl, rfl, Nat.div_lt_of_lt_mul (by rw [Nat.mul_comm]; exact htl), by omega, by simp [hdl], mem_snoc32 hlt (modB t), ?_, by rw [← List.append_assoc]; exact o, l⟩
    rw [val_snoc32, hdl, val_take_succ']
    exact shift_step hv ht (Nat.pow_succ _ _)
  · have q' : k = n + 1 := by have := of_decide_eq_false q; omega
    subst q'
    have hzero : cN = 0 := by
      rw [val_take_le _ (by rw [u.len]; omega)] at hv
      have hx := val_lt (l := xs) u.lt
      rw [u.len] at hx
      rcases Nat.eq_zero_or_pos cN with e | e
      · exact e
      · exfalso
        have h1 : B32 * B32 ^ n ≤ B32 ^ (n + 1) * cN := by
          have := Nat.mul_le_mul_left (B32 ^ (n + 1)) e
          rw [show B32 * B32 ^ n = B32 ^ (n + 1) * (0 + 1) from by rw [Nat.pow_succ, Nat.mul_comm, Nat.zero_add, Nat.mul_one]]
          exact this
        have h2 : 2 ^ r * val xs < 2 ^ r * B32 ^ n := Nat.mul_lt_mul_of_pos_left hx hp
        have h3 : 2 ^ r * B32 ^ n ≤ B32 * B32 ^ n := Nat.mul_le_mul_right _ (by omega)
        omega
    subst hzero
    rw [val_take_le _ (by rw [u.len]; omega), Nat.mul_zero, Nat.add_zero] at hv
    have hlt2 : ∀ x ∈ List.replicate qd 0 ++ ds, x < 4294967296 := fun x hx => by
      rcases List.mem_append.1 hx with a | a
      · rw [(List.mem_replicate.1 a).2]; decide
      · exact hlt x a
    refine (r1norm_c (own_is own hlt2) (by omega)).mono ?_
    rintro _ h2 ⟨A', k', c', rfl, _, hN, hl⟩
    rw [val_append, val_zeros, List.length_replicate, Nat.zero_add, hv, show B32 ^ qd * (2 ^ r * val xs) = val xs * (B32 ^ qd * 2 ^ r) from by rw [Nat.mul_comm (val xs), Nat.mul_assoc]] at hN
    exact ⟨_, _, _, rfl, _, _, _, rfl, hN, hle.trans hl⟩

/-! ### Bits -/
theorem r1bits_c {h : Heap} {A : Option Addr} {n c x : Nat} (ux : IsN h A n c x) (hn : n ≤ 1099511627776) :
    CallsU Tryz.prog 140 [.slice A n c] h fun r h' => ∃ t : Nat, r = .int .i64 t ∧ x < 2 ^ t ∧ (x ≠ 0 → 1 ≤ t ∧ 2 ^ (t - 1) ≤ x) ∧ (x = 0 → t = 0) ∧ t ≤ 32 * n ∧ Le h h' := by
  apply ref01_Bits_ok
  have hB : B32 = 2 ^ 32 := by decide
  refine (r1norm_c ux (by omega)).mono ?_
  rintro _ h1 ⟨A1, m, c1, rfl, hm, hN, hl⟩
  have hz := NmN.zero_iff hN
  refine ⟨_, _, _, rfl, Br.mk (fun q => ?_) (fun q => ?_)⟩
  · have q' : m = 0 := by have := beq_iff_eq.1 q; omega
    have x0 := hz.1 q'
    subst x0
    exact ⟨0, rfl, by decide, fun e => absurd rfl e, fun _ => rfl, by omega, hl⟩
  · have q' : 0 < m := by have := beq_eq_false_iff_ne.1 q; omega
    obtain ⟨xs, u, hv, nr⟩ := hN
    have lu := u.len
    obtain ⟨m, rfl⟩ : ∃ k, m = k + 1 := ⟨m - 1, by omega⟩
    have hne : xs ≠ [] := fun e => by rw [e] at lu; simp at lu
    have hval : val xs = val (xs.take m) + B32 ^ m * xs.getD m 0 := by rw [← val_take_succ', val_take_le _ (by omega)]
    have hlow := val_take_lt' (xs := xs) u.lt m
    have htop : xs.getD m 0 ≠ 0 := fun e => by
      have h2 := nrm_val_pos nr hne
      rw [lu, Nat.add_sub_cancel] at h2
      rw [e, Nat.mul_zero] at hval
      omega
    have htl := u.getD_lt m
    rintro _ rfl _ rfl _ rfl
    rw [wi (a := (((m + 1 : Nat) : Int) - 1)) (n := m) (by omega) (by omega), wi (n := 32 * m) (by omega) (by omega)]
    obtain ⟨ad, hA, hld⟩ := u.get (i := m) (by omega)
    rw [Int.toNat_natCast]
    refine ⟨ad, hA, by omega, by omega, _, hld, ?_⟩
    generalize xs.getD m 0 = top at *
    refine ⟨fun q nn tt h' => ∃ (j : Nat), tt = (q : Int) ∧ nn = ((32 * m + j : Nat) : Int) ∧ j ≤ 32 ∧ q = top / 2 ^ j ∧ h1 = h' ∧ (0 < j → 2 ^ (j - 1) ≤ top), ⟨top, 0, rfl, rfl, by omega, by simp, rfl, fun e => absurd e (Nat.lt_irrefl 0)⟩, ?_⟩
    rintro q _ _ _ ⟨j, rfl, rfl, hj, rfl, rfl, hpos⟩
    refine Br.mk (fun b => ?_) (fun b => ?_)
    · have b' : 0 < top / 2 ^ j := by have := of_decide_eq_true b; omega
      have hge : 2 ^ j ≤ top := by
        rcases Nat.lt_or_ge top (2 ^ j) with e | e
        · rw [Nat.div_eq_of_lt e] at b'; omega
        · exact e
      have hj32 : j < 32 := by
        rcases Nat.lt_or_ge j 32 with e | e
        · exact e
        · have : 2 ^ 32 ≤ 2 ^ j := Nat.pow_le_pow_right (by decide) e
          have e2 : (2 : Nat) ^ 32 = 4294967296 := by decide
          omega
      rintro _ rfl _ rfl
      have hdl : top / 2 ^ j ≤ top := Nat.div_le_self _ _
      have e1 : Int.tdiv ((top / 2 ^ j : Nat) : Int) 2 = ((top / 2 ^ j / 2 : Nat) : Int) := by rw [Int.tdiv_eq_ediv_of_nonneg (by omega)]; omega
      rw [wi (n := 32 * m + j + 1) (by omega) (by omega), e1, w32 rfl, Nat.mod_eq_of_lt (by unfold B32; omega)]
      refine ⟨top / 2 ^ j / 2, by omega, j + 1, rfl, by rw [Nat.add_assoc], by omega, by rw [Nat.div_div_eq_div_mul, ← Nat.pow_succ], rfl, fun _ => by rw [Nat.add_sub_cancel]; exact hge⟩
    · have b' : top / 2 ^ j = 0 := by
        have := of_decide_eq_false b
        generalize top / 2 ^ j = z at this ⊢
        omega
      have hlt : top < 2 ^ j := by
        rcases Nat.lt_or_ge top (2 ^ j) with e | e
        · exact e
        · have := Nat.div_pos e (Nat.pow_pos (by decide)); omega
      have hj0 : 0 < j := by
        rcases Nat.eq_zero_or_pos j with e | e
        · rw [e] at hlt; simp at hlt; omega
        · exact e
      have hp := hpos hj0
      have hpm : B32 ^ m = 2 ^ (32 * m) := by rw [hB, ← Nat.pow_mul]
      refine ⟨32 * m + j, rfl, ?_, fun _ => ⟨by omega, ?_⟩, fun e => ?_, by omega, hl⟩
      · rw [← hv, hval, Nat.pow_add, ← hpm]
        have : B32 ^ m * (top + 1) ≤ B32 ^ m * 2 ^ j := Nat.mul_le_mul_left _ hlt
        rw [Nat.mul_add] at this
        omega
      · rw [← hv, hval, show 32 * m + j - 1 = 32 * m + (j - 1) from by omega, Nat.pow_add, ← hpm]
        have : B32 ^ m * 2 ^ (j - 1) ≤ B32 ^ m * top := Nat.mul_le_mul_left _ hp
        omega
      · exfalso
        have h3 : B32 ^ m * 1 ≤ B32 ^ m * top := Nat.mul_le_mul_left _ (by omega)
        have h4 : 0 < B32 ^ m := Nat.pow_pos (by decide)
        omega
end Go.Proofs.YtccplhjglhdopaaGreatDoor

/-
  Contracts: reference 01: DivMod, Gcd.
-/
namespace Go.Proofs.YtccplhjglhdopaaGreatDoor
open Go Go.Vcg
attribute [local irreducible] Br

theorem val_set_add : ∀ {qs : List Nat} {i d : Nat}, i < qs.length → val (qs.set i (qs.getD i 0 + d)) = val qs + B32 ^ i * d
  | [], i, d, h => by simp at h
  | x :: r, 0, d, _ => by simp [val]; omega
  | x :: r, i + 1, d, h => by
    have ih := val_set_add (qs := r) (i := i) (d := d) (by simpa using h)
    simp only [List.set_cons_succ, val, List.getD_cons_succ]
    rw [ih, Nat.mul_add, Nat.pow_succ, Nat.mul_comm (B32 ^ i) B32, Nat.mul_assoc, Nat.add_assoc]

theorem limb_mult : ∀ {qs : List Nat} {i j t : Nat}, (∀ x ∈ qs, x < 4294967296) → i < qs.length → j < 32 → val qs = 2 ^ (32 * i + (j + 1)) * t → qs.getD i 0 + 2 ^ j < 4294967296
  | [], i, j, t, _, h, _, _ => by simp at h
  | x :: r, 0, j, t, hlt, _, hj, hv => by
    have hx := hlt x (by simp)
    simp only [val, Nat.mul_zero, Nat.zero_add] at hv
    simp only [List.getD_cons_zero]
    have hB : B32 = 2 ^ (j + 1) * 2 ^ (31 - j) := by rw [← Nat.pow_add, show j + 1 + (31 - j) = 32 from by omega]; rfl
    have hB2 : (4294967296 : Nat) = 2 ^ (j + 1) * 2 ^ (31 - j) := hB
    rw [hB, Nat.mul_assoc] at hv
    have hd : x = 2 ^ (j + 1) * (t - 2 ^ (31 - j) * val r) := by rw [Nat.mul_sub, ← hv]; omega
    rw [hB2] at hx ⊢
    rw [Nat.pow_succ] at *
    generalize t - 2 ^ (31 - j) * val r = a at *
    subst hd
    have ha : a < 2 ^ (31 - j) := Nat.lt_of_mul_lt_mul_left hx
    have := Nat.mul_le_mul_left (2 ^ j * 2) ha
    rw [Nat.mul_succ] at this
    have hp : 0 < 2 ^ j := Nat.pow_pos (by decide)
    omega
  | x :: r, i + 1, j, t, hlt, h, hj, hv => by
    have hx := hlt x (by simp)
    simp only [val] at hv
    rw [show 32 * (i + 1) + (j + 1) = 32 + (32 * i + (j + 1)) from by omega, Nat.pow_add, Nat.mul_assoc, show (2 : Nat) ^ 32 = B32 from rfl] at hv
    have hm : (x + B32 * val r) % B32 = (B32 * (2 ^ (32 * i + (j + 1)) * t)) % B32 := by rw [hv]
    rw [Nat.add_mul_mod_self_left, Nat.mul_mod_right, Nat.mod_eq_of_lt (show x < B32 from hx)] at hm
    subst hm
    rw [Nat.zero_add] at hv
    have hv2 := Nat.eq_of_mul_eq_mul_left (by decide) hv
    simp only [List.getD_cons_succ]
    exact limb_mult (fun y hy => hlt y (by simp [hy])) (by simpa using h) hj hv2

theorem r1divmod_0 {h : Heap} {A B : Option Addr} {n c m d x : Nat} (_ux : IsN h A n c x) (uy : IsN h B m d 0) (hm : m ≤ 1099511627776) :
    CallsU Tryz.prog 110 [.slice A n c, .slice B m d] h fun r h' => r = .tuple #[.slice none 0 0, .slice none 0 0, .bool false] ∧ Le h h' := by
  apply ref01_DivMod_ok
  refine (r1bits_c uy hm).mono ?_
  rintro _ h1 ⟨t, rfl, _, _, h0, _, hl⟩
  refine ⟨_, rfl, Br.mk (fun _ => ⟨rfl, hl⟩) (fun q => ?_)⟩
  have := beq_eq_false_iff_ne.1 q
  rw [h0 rfl] at this
  exact absurd rfl this

def DmI (h : Heap) (g : Nat) (x y n q1 : Nat) (m : Nat) (rA : Option Addr) (rn rc : Nat) (pA : Option Addr) (pn pc : Nat) (k : Int) (h' : Heap) : Prop :=
  ∃ (H : Heap) (qs : List Nat) (r p t : Nat), k = (m : Int) - 1 ∧ m ≤ n + 1 ∧ h' = H.put g ⟨qs.map lv, 46, (0, 0)⟩ ∧ H g = none ∧ Le h H ∧ NmN H rA rn rc r ∧ NmN H pA pn pc p ∧ (0 < m → p = y * 2 ^ (m - 1)) ∧ p ≤ y * 2 ^ n ∧
    qs.length = q1 ∧ (∀ z ∈ qs, z < 4294967296) ∧ val qs = 2 ^ m * t ∧ val qs * y + r = x ∧ r < y * 2 ^ m

theorem r1divmod_c {h : Heap} {A B : Option Addr} {n c m d x y : Nat} (ux : IsN h A n c x) (uy : IsN h B m d y) (hn : n ≤ 1073741824) (hm : m ≤ 1073741824) (hy : y ≠ 0) :
    CallsU Tryz.prog 110 [.slice A n c, .slice B m d] h fun r h' => ∃ A1 n1 c1 A2 n2 c2, r = .tuple #[.slice A1 n1 c1, .slice A2 n2 c2, .bool true] ∧ NmN h' A1 n1 c1 (x / y) ∧ NmN h' A2 n2 c2 (x % y) ∧ Le h h' := by
  apply ref01_DivMod_ok
  have hsx := ux.sz
  refine (r1bits_c uy (by omega)).mono ?_
  rintro _ h1 ⟨tb0, rfl, _, hb0, _, _, hl1⟩
  obtain ⟨hb1, _⟩ := hb0 hy
  refine ⟨_, rfl, Br.mk (fun q => by have := beq_iff_eq.1 q; omega) (fun _ => ?_)⟩
  refine (r1norm_c (ux.mono hl1) (by omega)).mono ?_
  rintro _ h2 ⟨A2, n2, c2, rfl, hn2, hN2, hl2⟩
  refine ⟨_, _, _, rfl, (r1bits_c hN2.is (by omega)).mono ?_⟩
  rintro _ h3 ⟨tr, rfl, hr1, hr2, hr0, hr3, hl3⟩
  refine ⟨_, rfl, (r1bits_c ((uy.mono hl1).mono (hl2.trans hl3)) (by omega)).mono ?_⟩
  rintro _ h4 ⟨tb, rfl, ht1, ht2, _, ht4, hl4⟩
  obtain ⟨hb3, hb4⟩ := ht2 hy
  have hl14 : Le h h4 := ((hl1.trans hl2).trans hl3).trans hl4
  have hN4 := hN2.mono (hl3.trans hl4)
  refine ⟨_, rfl, ?_⟩
  rintro _ rfl
  rw [wrap_i64 (by omega) (by omega)]
  refine Br.mk (fun q => ?_) (fun q => ?_)
  · have q' : tr < tb := by have := of_decide_eq_true q; omega
    have hlt : x < y := by
      have : 2 ^ tr ≤ 2 ^ (tb - 1) := Nat.pow_le_pow_right (by decide) (by omega)
      omega
    exact ⟨_, _, _, _, _, _, rfl, by rw [Nat.div_eq_of_lt hlt]; exact NmN.nil _ _ _, by rw [Nat.mod_eq_of_lt hlt]; exact hN4, hl14⟩
  · have q' : tb ≤ tr := by have := of_decide_eq_false q; omega
    have hx0 : x ≠ 0 := fun e => by have := hr0 e; omega
    obtain ⟨hr4, hr5⟩ := hr2 hx0
    obtain ⟨k, hk⟩ : ∃ k, tr = tb + k := ⟨tr - tb, by omega⟩
    rw [show ((tr : Nat) : Int) - ((tb : Nat) : Int) = (k : Int) from by omega]
    have hinit : x < y * 2 ^ (k + 1) := by
      have h5 : 2 ^ tr = 2 ^ (tb - 1) * 2 ^ (k + 1) := by rw [← Nat.pow_add]; congr 1; omega
      have h6 : 2 ^ (tb - 1) * 2 ^ (k + 1) ≤ y * 2 ^ (k + 1) := Nat.mul_le_mul_right _ hb4
      omega
    have hpart : Sz (y * 2 ^ k) (n + 1) := by
      have h5 : y * 2 ^ k < 2 ^ tb * 2 ^ k := Nat.mul_lt_mul_of_pos_right ht1 (Nat.pow_pos (by decide))
      rw [← Nat.pow_add, ← hk] at h5
      have h6 : 2 ^ tr = 2 ^ (tr - 1) * 2 := by rw [← Nat.pow_succ]; congr 1; omega
      unfold Sz at *
      rw [Nat.pow_succ]
      have : B32 ^ n * 2 ≤ B32 ^ n * B32 := Nat.mul_le_mul_left _ (by decide)
      omega
    have e1 : ∀ z : Nat, Int.tdiv ((z : Nat) : Int) 32 = ((z / 32 : Nat) : Int) := fun z => by rw [Int.tdiv_eq_ediv_of_nonneg (by omega)]; omega
    have e2 : ∀ z : Nat, Int.tmod ((z : Nat) : Int) 32 = ((z % 32 : Nat) : Int) := fun z => by rw [Int.tmod_eq_emod_of_nonneg (by omega)]; omega
    rintro _ rfl _ rfl
    rw [e1, wi (n := k / 32) rfl (by omega), wi (n := k / 32 + 1) (by omega) (by omega)]
    refine ⟨by omega, by omega, by omega, by omega, ?_⟩
    rintro g _ hg rfl
    rw [Int.toNat_natCast]
    refine (CallsU.frame (r1shift_c (h := h4) (((uy.mono hl1).mono (hl2.trans hl3)).mono hl4) (by omega) k (by omega)) hg).mono ?_
    rintro _ _ ⟨h5, ⟨A5, n5, c5, rfl, hN5, hl5⟩, hg5, rfl⟩
    refine ⟨_, _, _, rfl, DmI h g x y k (k / 32 + 1), ⟨k + 1, h5, List.replicate (k / 32 + 1) 0, x, y * 2 ^ k, 0, by omega, by omega, by rw [repV_lv], hg5, hl14.trans hl5, hN4.mono hl5, hN5, fun _ => rfl, Nat.le_refl _, by simp, fun z hz => by rw [(List.mem_replicate.1 hz).2]; decide, by rw [val_zeros, Nat.mul_zero], by rw [val_zeros, Nat.zero_mul, Nat.zero_add], hinit⟩, ?_⟩
    rintro mm rA rn rc pA pn pc _ _ ⟨H, qs, r, p, t, rfl, hmm, rfl, hgH, hleH, hNr, hNp, hp, hpn, hql, hqlt, hqm, hqr, hrlt⟩
    have hrx : r ≤ x := by omega
    have hrn := NmN.le_of hNr (hsx.le hrx)
    have hpl := NmN.le_of hNp (hpart.le hpn)
    refine Br.mk (fun b => ?_) (fun b => ?_)
    · have b' : 0 < mm := by have := of_decide_eq_true b; omega
      obtain ⟨i, rfl⟩ : ∃ i, mm = i + 1 := ⟨mm - 1, by omega⟩
      have hp' := hp b'
      rw [Nat.add_sub_cancel] at hp'
      rw [show ((i + 1 : Nat) : Int) - 1 = (i : Int) from by omega]
      have hp2 : 2 ^ (i + 1) = 2 * 2 ^ i := by rw [Nat.pow_succ, Nat.mul_comm]
      have hhalf : 0 < i → p / 2 = y * 2 ^ (i - 1) := fun hi => by
        obtain ⟨j, rfl⟩ : ∃ j, i = j + 1 := ⟨i - 1, by omega⟩
        rw [hp', Nat.add_sub_cancel, Nat.pow_succ, ← Nat.mul_assoc, Nat.mul_div_cancel _ (by decide)]
      refine (CallsU.frame (r1sub_c (h := H) hNr.is hNp.is (by omega) (by omega)) hgH).mono ?_
      rintro _ _ ⟨h8, hsub, hg8, rfl⟩
      rcases hsub with ⟨hlt, rfl, rfl⟩ | ⟨hge, A8, n8, c8, rfl, hN8, hl8⟩
      · refine ⟨_, _, _, _, rfl, Br.mk (fun q => by cases q) (fun _ => ?_)⟩
        refine (CallsU.frame (r1half_c (h := H) hNp.is (by omega)) hgH).mono ?_
        rintro _ _ ⟨h9, ⟨A9, n9, c9, rfl, hN9, hl9⟩, hg9, rfl⟩
        refine ⟨_, _, _, rfl, ?_⟩
        rintro _ rfl
        rw [wrap_i64 (by omega) (by omega)]
        refine ⟨i, by omega, h9, qs, r, p / 2, 2 * t, rfl, by omega, rfl, hg9, hleH.trans hl9, hNr.mono hl9, hN9, hhalf, Nat.le_trans (Nat.div_le_self _ _) hpn, hql, hqlt, ?_, hqr, by rw [hp'] at hlt; exact hlt⟩
        rw [hqm, hp2, Nat.mul_comm 2 (2 ^ i), Nat.mul_assoc]
      · refine ⟨_, _, _, _, rfl, Br.mk (fun _ => ?_) (fun q => by cases q)⟩
        rintro _ rfl _ rfl
        have hidx : i / 32 < qs.length := by rw [hql]; omega
        have hmult := limb_mult (qs := qs) (i := i / 32) (j := i % 32) (t := t) hqlt hidx (Nat.mod_lt _ (by decide)) (by rw [hqm]; congr 2; omega)
        rw [e1, wi (n := i / 32) rfl (by omega)]
        simp only [Int.toNat_natCast]
        refine ⟨_, rfl, by omega, by omega, _, ld_own (Heap.put_same _ _ _) hidx, ?_⟩
        rintro _ rfl
        rw [e2, wu (n := i % 32) rfl (by omega), Int.toNat_natCast, Nat.min_eq_left (by omega)]
        refine Br.mk (fun q => by have := of_decide_eq_true q; omega) (fun _ => ?_)
        rintro _ rfl _ rfl
        have hpI : ((2 : Int) ^ (i % 32)) = ((2 ^ (i % 32) : Nat) : Int) := by simp
        have hpb : 2 ^ (i % 32) < 4294967296 := by omega
        rw [Int.one_mul, hpI, w32 rfl, Nat.mod_eq_of_lt (by exact hpb), w32 (n := qs.getD (i / 32) 0 + 2 ^ (i % 32)) (Int.natCast_add _ _).symm, Nat.mod_eq_of_lt (by exact hmult)]
        refine ⟨_, rfl, by omega, by omega, st_own (qs.getD (i / 32) 0 + 2 ^ (i % 32)) (Heap.put_same _ _ _) hidx rfl ?_⟩
        rw [Heap.put_put]
        refine (CallsU.frame (r1half_c (h := h8) (hNp.mono hl8).is (by omega)) hg8).mono ?_
        rintro _ _ ⟨h9, ⟨A9, n9, c9, rfl, hN9, hl9⟩, hg9, rfl⟩
        refine ⟨_, _, _, rfl, ?_⟩
        rintro _ rfl
        rw [wrap_i64 (by omega) (by omega)]
        have hpow : B32 ^ (i / 32) * 2 ^ (i % 32) = 2 ^ i := by
          rw [show B32 = 2 ^ 32 from rfl, ← Nat.pow_mul, ← Nat.pow_add]
          congr 1
          omega
        have hvs : val (qs.set (i / 32) (qs.getD (i / 32) 0 + 2 ^ (i % 32))) = val qs + 2 ^ i := by rw [val_set_add hidx, hpow]
        refine ⟨i, by omega, h9, _, r - p, p / 2, 2 * t + 1, rfl, by omega, rfl, hg9, (hleH.trans hl8).trans hl9, hN8.mono hl9, hN9, hhalf, Nat.le_trans (Nat.div_le_self _ _) hpn, by rw [List.length_set]; exact hql, mem_set hqlt hmult, ?_, ?_, ?_⟩
        · rw [hvs, hqm, hp2, Nat.mul_add, Nat.mul_one, Nat.mul_comm 2 (2 ^ i), Nat.mul_assoc]
        · rw [hvs, Nat.add_mul, Nat.mul_comm (2 ^ i) y, ← hp']
          omega
        · rw [hp2, Nat.mul_left_comm, ← hp'] at hrlt
          rw [← hp']
          omega
    · have b' : mm = 0 := by have := of_decide_eq_false b; omega
      subst b'
      rw [Nat.pow_zero, Nat.mul_one] at hrlt
      have hq : x / y = val qs := by
        rw [← hqr, Nat.add_comm, Nat.add_mul_div_right _ _ (by omega), Nat.div_eq_of_lt hrlt, Nat.zero_add]
      have hr : x % y = r := by rw [← hqr, Nat.add_comm, Nat.add_mul_mod_self_right, Nat.mod_eq_of_lt hrlt]
      have u := U32.of_blk (h := H.put g ⟨qs.map lv, 46, (0, 0)⟩) (m := k / 32 + 1) (k := k / 32 + 1) (Heap.put_same _ _ _) hqlt (by omega) (Nat.le_refl _)
      rw [List.take_of_length_le (by omega)] at u
      have hlp : Le H (H.put g ⟨qs.map lv, 46, (0, 0)⟩) := Le.new hgH _
      refine (r1norm_c ⟨_, u, rfl⟩ (by omega)).mono ?_
      rintro _ h9 ⟨A9, n9, c9, rfl, _, hN9, hl9⟩
      refine ⟨_, _, _, rfl, _, _, _, _, _, _, rfl, by rw [hq]; exact hN9, by rw [hr]; exact (hNr.mono hlp).mono hl9, (hleH.trans hlp).trans hl9⟩

theorem r1gcd_c {h : Heap} {A B : Option Addr} {n c m d x y : Nat} (ux : IsN h A n c x) (uy : IsN h B m d y) (hn : n ≤ 1073741824) (hm : m ≤ 1073741824) :
    CallsU Tryz.prog 118 [.slice A n c, .slice B m d] h fun r h' => ∃ A' k c', r = .slice A' k c' ∧ NmN h' A' k c' (Nat.gcd x y) ∧ k ≤ max n m ∧ Le h h' := by
  apply ref01_Gcd_ok
  refine (r1norm_c ux (by omega)).mono ?_
  rintro _ h1 ⟨A1, n1, c1, rfl, hn1, nx, hl1⟩
  refine ⟨_, _, _, rfl, (r1norm_c (uy.mono hl1) (by omega)).mono ?_⟩
  rintro _ h2 ⟨A2, n2, c2, rfl, hn2, ny, hl2⟩
  refine ⟨_, _, _, rfl, fun v aA an ac bA bn bc h' => ∃ u, NmN h' aA an ac u ∧ NmN h' bA bn bc v ∧ Nat.gcd u v = Nat.gcd x y ∧ an ≤ max n m ∧ bn ≤ max n m ∧ Le h h', ⟨y, x, nx.mono hl2, ny, rfl, by omega, by omega, hl1.trans hl2⟩, ?_⟩
  rintro v aA an ac bA bn bc h' ⟨u, nu, nv, hg, ha, hb, hl⟩
  have hz := NmN.zero_iff nv
  refine Br.mk (fun q => ?_) (fun q => ?_)
  · have hv : v ≠ 0 := by have := of_decide_eq_true q; omega
    refine (r1divmod_c nu.is nv.is (by omega) (by omega) hv).mono ?_
    rintro _ h4 ⟨A3, n3, c3, A4, n4, c4, rfl, _, hN, hl'⟩
    have hlt : u % v < v := Nat.mod_lt _ (by omega)
    refine ⟨_, _, _, _, _, _, _, rfl, u % v, hlt, v, nv.mono hl', hN, ?_, hb, ?_, hl.trans hl'⟩
    · rw [← hg, Nat.gcd_comm v, Nat.gcd_comm u, ← Nat.gcd_rec]
    · have := NmN.le_of hN (nv.sz.le (Nat.le_of_lt hlt)); omega
  · have hv : v = 0 := by have := of_decide_eq_false q; omega
    subst hv
    rw [Nat.gcd_zero_right] at hg
    subst hg
    exact ⟨_, _, _, rfl, nu, ha, hl⟩
end Go.Proofs.YtccplhjglhdopaaGreatDoor
