/-
  The library's contracts as CallsU: FormatUint below 100, Join, Reverse, Repeat, Sort.
-/
import Derived.Test.YtfhipkdcekffaaaGreatDoorLib2
import Derived.Test.YtfhipkdcekffaaaGreatDoorVcX
import Derived.Lib.ItoaNum
import Derived.Lib.Join
import Derived.Lib.Repeat
import Derived.Test.YtfhipkdcekffaaaGreatDoorShelf
import Derived.Lib.Walk
import Derived.WalkKit
import Derived.BigCall
import Derived.BigGuard
namespace Go.Proofs
open Go.RowKit Go.Lib Go.Sort

/-- internal/strconv.FormatUint at base 10, below 100. -/
theorem Tryz.isFormatUint_small (i : Nat) (hi : i < 100) (w : World) :
    Calls Tryz.prog 91 #[.int .u64 i, .int .i64 10] w fun e w' => e = .returned (.string ⟨(Lib.decDigits i).toArray⟩) ∧ w' = w := by
  have hw : IntKind.i64.wrap (i : Int) = (i : Int) := by rw [IntKind.wrap_i64]; omega
  go_enter Tryz.func91, Tryz.ntmps91
  go_wp2_with (go_at_call 111; refine (Tryz.internal_strconv_small i hi _).mono ?_; rintro e w' ⟨rfl, rfl⟩)
  go_ret
  exact ⟨rfl, rfl⟩
end Go.Proofs

namespace Go.Proofs.YtfhipkdcekffaaaGreatDoor
open Go Go.Vcg Go.RowKit Go.Sort
attribute [local irreducible] Br

theorem callsU_below {P : Program} {f : FuncId} {args : List Value} {h : Heap} {v : Value} (hc : Callable P f)
    (hw : ∀ w, Sat h w → Calls P f args.toArray w fun e w' => e = .returned v ∧ Below w.heap.size w w') : CallsU P f args h fun r h' => r = v ∧ h = h' :=
  ⟨hc, fun w s => (hw w s).mono fun e w' ⟨he, b⟩ => ⟨v, h, he, ⟨rfl, rfl⟩,
    fun k x hk => by
      have := s k x hk
      have hlt : k < w.heap.size := (Array.getElem?_eq_some_iff.1 this).1
      rw [b.block k hlt]; exact this,
    ⟨b.size, b.os, b.tape, b.output, fun k hk h0 => ⟨h0, b.block k hk⟩⟩⟩⟩

theorem callsU_same {P : Program} {f : FuncId} {args : List Value} {h : Heap} {v : Value} (hc : Callable P f)
    (hw : ∀ w, Sat h w → Calls P f args.toArray w fun e w' => e = .returned v ∧ w' = w) : CallsU P f args h fun r h' => r = v ∧ h = h' :=
  callsU_below hc fun w s => (hw w s).mono fun _ _ ⟨a, b⟩ => ⟨a, by rw [b]; exact Below.refl _ _⟩

theorem putCells_seg {α : Type} [Inhabited α] {enc : α → Value} {off : Nat} (d : List α) (cells : List Value) (hle : off + d.length ≤ cells.length) :
    putCells enc off d.toArray cells.toArray = (setSeg cells off (d.map enc)).toArray := by
  unfold putCells setSeg
  apply Array.ext_getElem?
  intro k
  simp only [Array.getElem?_mapIdx, List.getElem?_toArray, List.size_toArray, List.length_map]
  rcases Nat.lt_or_ge k off with h1 | h1
  · rw [List.append_assoc, List.getElem?_append_left (by simp; omega), List.getElem?_take_of_lt h1, List.getElem?_eq_getElem (by omega)]
    simp only [Option.map_some]
    rw [if_neg (by omega)]
  · rw [List.append_assoc, List.getElem?_append_right (by simp; omega), List.length_take, Nat.min_eq_left (by omega)]
    rcases Nat.lt_or_ge k (off + d.length) with h2 | h2
    · rw [List.getElem?_append_left (by simp; omega), List.getElem?_eq_getElem (l := cells) (by omega)]
      simp only [Option.map_some]
      rw [if_pos ⟨h1, h2⟩]
      have hj : k - off < d.length := by omega
      simp [hj]
    · rw [List.getElem?_append_right (by simp; omega), List.getElem?_drop, List.length_map, show off + d.length + (k - off - d.length) = k from by omega]
      cases hk : cells[k]? with
      | none => rfl
      | some x => simp only [Option.map_some]; rw [if_neg (by omega)]

/-- A row of one visible block is written anew. -/
theorem callsU_row {α : Type} [Inhabited α] {P : Program} {f : FuncId} {args : List Value} {h : Heap} {g off ty : Nat} {cells : List Value} {enc : α → Value} (d d' : List α) (hc : Callable P f) (hb : h g = some ⟨cells, ty, (0, 0)⟩)
    (hd : (cells.drop off).take d.length = d.map enc) (hl : d'.length = d.length) (hle : off + d.length ≤ cells.length)
    (hw : ∀ w, g < w.heap.size → Holds enc w g off d.toArray → Calls P f args.toArray w fun e w' => e = .returned (.tuple #[]) ∧ ∃ n os, w' = grow (putRow enc (Sort.ahead w n) g off d'.toArray) os) :
    CallsU P f args h fun r h' => r = .tuple #[] ∧ h' = h.put g ⟨setSeg cells off (d'.map enc), ty, (0, 0)⟩ := by
  refine ⟨hc, fun w s => ?_⟩
  have sg := s g _ hb
  have hlt : g < w.heap.size := (Array.getElem?_eq_some_iff.1 sg).1
  have hH : Holds enc w g off d.toArray := by
    intro j hj
    have hj' : j < d.length := by simpa using hj
    refine ⟨?_, ?_⟩
    · unfold World.cell?
      simp only [sg]
      have h1 : ((cells.drop off).take d.length)[j]? = (d.map enc)[j]? := by rw [hd]
      rw [List.getElem?_take_of_lt hj', List.getElem?_drop] at h1
      simp only [Option.isSome_none, Bool.false_eq_true, if_false, List.getElem?_toArray]
      rw [h1]
      simp [hj']
    · unfold World.frozen?
      simp [sg]
  refine (hw w hlt hH).mono ?_
  rintro e w' ⟨he, n, os, rfl⟩
  have hsz : (w.heap.modify g (onCells (putCells enc off d'.toArray))).size = w.heap.size := Array.size_modify
  have hg : (w.heap.modify g (onCells (putCells enc off d'.toArray)))[g]? = some (.cells (setSeg cells off (d'.map enc)).toArray ty (0, 0)) := by
    rw [Array.getElem?_modify, if_pos rfl, sg]
    simp only [Option.map_some, onCells]
    rw [putCells_seg d' cells (by omega)]
  have hne : ∀ k, k ≠ g → (w.heap.modify g (onCells (putCells enc off d'.toArray)))[k]? = w.heap[k]? := fun k hk => by
    rw [Array.getElem?_modify, if_neg (fun e => hk e.symm)]
  have hgr : ∀ k, k < w.heap.size → (grow (putRow enc (Sort.ahead w n) g off d'.toArray) os).heap[k]? = (w.heap.modify g (onCells (putCells enc off d'.toArray)))[k]? := fun k hk => by
    show ((w.heap.modify g (onCells (putCells enc off d'.toArray))) ++ os)[k]? = _
    rw [Array.getElem?_append_left (by omega)]
  refine ⟨_, _, he, ⟨rfl, rfl⟩, ?_, ⟨?_, rfl, rfl, rfl, ?_⟩⟩
  · intro k b hk
    by_cases e : k = g
    · subst e
      rw [Heap.put_same] at hk
      cases hk
      rw [hgr _ hlt, hg]
    · rw [Heap.put_ne _ _ e] at hk
      have sk := s k b hk
      rw [hgr k (Array.getElem?_eq_some_iff.1 sk).1, hne k e, sk]
  · show w.heap.size ≤ ((w.heap.modify g (onCells (putCells enc off d'.toArray))) ++ os).size
    rw [Array.size_append]; omega
  · intro k hk h0
    have e : k ≠ g := fun e => by rw [e, hb] at h0; cases h0
    exact ⟨by rw [Heap.put_ne _ _ e]; exact h0, by rw [hgr k hk, hne k e]⟩

theorem sort_c {h : Heap} {g n c ty : Nat} {zs : List Int} (hb : h g = some ⟨zs.map iv, ty, (0, 0)⟩) (hn : n ≤ zs.length) (hsz : zs.length < 4611686018427387904) :
    CallsU Tryz.prog 65 [.slice (some ⟨g, 0, none⟩) n c] h fun r h' => r = .tuple #[] ∧ h' = h.put g ⟨(((zs.take n).mergeSort fun x y => decide (x ≤ y)) ++ zs.drop n).map iv, ty, (0, 0)⟩ := by
  have hl : (zs.take n).length = n := by simp; omega
  refine (callsU_row (enc := iv) (off := 0) (zs.take n) ((zs.take n).mergeSort fun x y => decide (x ≤ y)) ⟨_, Tryz.func65, by kernel_rfl, by kernel_rfl⟩ hb (by rw [List.drop_zero, hl, List.map_take]) (List.length_mergeSort _) (by simp; omega) ?_).mono ?_
  · intro w hlt hH
    have := Tryz.slices_Sort_int g 0 c (zs.take n) w hH hlt (by omega)
    rw [hl] at this
    exact this
  · rintro _ _ ⟨rfl, rfl⟩
    refine ⟨rfl, ?_⟩
    congr 2
    unfold setSeg
    simp [hl]

theorem reverse_c {h : Heap} {g c ty : Nat} {zs rest : List (List UInt8)} (hb : h g = some ⟨(zs ++ rest).map sv, ty, (0, 0)⟩) {n : Nat} (hn : n = zs.length) (hsz : n < 4611686018427387904) :
    CallsU Tryz.prog 71 [.slice (some ⟨g, 0, none⟩) n c] h fun r h' => r = .tuple #[] ∧ h' = h.put g ⟨(zs.reverse ++ rest).map sv, ty, (0, 0)⟩ := by
  subst hn
  refine (callsU_row (enc := sv) (off := 0) zs zs.reverse ⟨_, Tryz.func71, by kernel_rfl, by kernel_rfl⟩ hb (by rw [List.drop_zero, List.map_append, List.take_append_of_le_length (by simp), ← List.length_map (f := sv), List.take_length]) (by simp) (by simp) ?_).mono ?_
  · intro w hlt hH
    refine (Tryz.slices_Reverse_string g 0 c zs w hH (by omega)).mono ?_
    rintro _ _ ⟨a, n, b⟩
    refine ⟨a, n, #[], ?_⟩
    rw [b]
    show _ = ({ (putRow sv (Sort.ahead w n) g 0 zs.reverse.toArray) with heap := (putRow sv (Sort.ahead w n) g 0 zs.reverse.toArray).heap ++ #[] } : World)
    rw [Array.append_empty]
  · rintro _ _ ⟨rfl, rfl⟩
    refine ⟨rfl, ?_⟩
    congr 2
    unfold setSeg
    simp

theorem join_empty (zs : List (List UInt8)) : Lib.join zs [] = zs.flatten := by
  cases zs with
  | nil => rfl
  | cons x r => rw [Lib.join_cons]; simp [Lib.joinTail]

theorem join_c {h : Heap} {g c ty : Nat} {zs rest : List (List UInt8)} (hb : h g = some ⟨(zs ++ rest).map sv, ty, (0, 0)⟩) {n : Nat} (hn : n = zs.length) (hc : n ≤ c) (hsz : n ≤ 140737488355328) (hlen : zs.flatten.length ≤ 140737488355328) :
    CallsU Tryz.prog 72 [.slice (some ⟨g, 0, none⟩) n c, .string ⟨#[]⟩] h fun r h' => r = sv zs.flatten ∧ h = h' := by
  subst hn
  refine callsU_below ⟨_, Tryz.func72, by kernel_rfl, by kernel_rfl⟩ fun w s => ?_
  have sg := s g _ hb
  have hlt : g < w.heap.size := (Array.getElem?_eq_some_iff.1 sg).1
  have e : (zs.map fun x => (⟨x.toArray⟩ : ByteArray)).map (fun x => x.data.toList) = zs := by
    rw [List.map_map]
    conv => rhs; rw [← List.map_id zs]
    apply List.map_congr_left
    intro x _
    rfl
  have := Tryz.strings_Join g 0 c (zs.map fun x => ⟨x.toArray⟩) ⟨#[]⟩ w (fun j x hj => by
    unfold World.cell?
    simp only [sg, Option.isSome_none, Bool.false_eq_true, if_false, List.getElem?_toArray, Nat.zero_add]
    rw [List.getElem?_map] at hj ⊢
    have hjl : j < zs.length := by
      rcases Nat.lt_or_ge j zs.length with q | q
      · exact q
      · rw [List.getElem?_eq_none q] at hj; cases hj
    rw [List.getElem?_append_left hjl]
    rw [List.getElem?_eq_getElem hjl] at hj ⊢
    simp only [Option.map_some, Option.some.injEq] at hj ⊢
    rw [← hj]) hlt (by simpa using hsz) (by simpa using hc) (by rw [e]; simpa [join_empty] using hlen)
  rw [e, List.length_map, show (⟨#[]⟩ : ByteArray).data.toList = [] from rfl, join_empty] at this
  exact this

theorem repeat_c (s : List UInt8) (c : Nat) (h : Heap) (hc : c ≤ 9223372036854775807) (hl : s.length * c ≤ 140737488355328) :
    CallsU Tryz.prog 70 [sv s, .int .i64 c] h fun r h' => r = sv (Lib.repeatL s c) ∧ h = h' :=
  callsU_below ⟨_, Tryz.func70, by kernel_rfl, by kernel_rfl⟩ fun w _ => Tryz.strings_Repeat ⟨s.toArray⟩ c w hc (by simpa [ByteArray.size] using hl)

theorem fmt_small_c (i : Nat) (hi : i < 100) (h : Heap) : CallsU Tryz.prog 69 [.int .u64 i, .int .i64 10] h fun r h' => r = sv (Lib.decDigits i) ∧ h = h' := by
  apply strconv_FormatUint_ok
  refine (callsU_same (v := sv (Lib.decDigits i)) ⟨_, Tryz.func91, by kernel_rfl, by kernel_rfl⟩ fun w _ => Tryz.isFormatUint_small i hi w).mono ?_
  rintro _ _ ⟨rfl, rfl⟩
  exact ⟨_, rfl, rfl, rfl⟩

/-! ### decimals in groups -/
/-- The last k digits, with zeros ahead. -/
def padK : Nat → Nat → List UInt8
  | 0, _ => []
  | k + 1, r => padK k (r / 10) ++ [UInt8.ofNat (48 + r % 10)]

theorem dec_lt {u : Nat} (h : u < 10) : Lib.decDigits u = [UInt8.ofNat (48 + u)] := by rw [Lib.decDigits, dif_pos h]
theorem dec_ge {u : Nat} (h : ¬ u < 10) : Lib.decDigits u = Lib.decDigits (u / 10) ++ [UInt8.ofNat (48 + u % 10)] := by rw [Lib.decDigits, dif_neg h]

theorem dec_split : ∀ (k x : Nat), 10 ^ k ≤ x → Lib.decDigits x = Lib.decDigits (x / 10 ^ k) ++ padK k (x % 10 ^ k)
  | 0, x, _ => by simp [padK]
  | k + 1, x, h => by
    have hp : 0 < 10 ^ k := Nat.pow_pos (by decide)
    rw [Nat.pow_succ] at h
    have hx : ¬ x < 10 := by omega
    have hd : 10 ^ k ≤ x / 10 := by omega
    rw [dec_ge hx, dec_split k (x / 10) hd, padK, List.append_assoc]
    have e1 : x / 10 / 10 ^ k = x / 10 ^ (k + 1) := by rw [Nat.div_div_eq_div_mul, Nat.pow_succ, Nat.mul_comm]
    have e2 : x % 10 ^ (k + 1) / 10 = x / 10 % 10 ^ k := by
      rw [Nat.pow_succ, Nat.mul_comm, Nat.mod_mul_right_div_self]
    have e3 : x % 10 ^ (k + 1) % 10 = x % 10 := by
      rw [Nat.pow_succ]
      exact Nat.mod_mod_of_dvd _ (Nat.dvd_mul_left _ _)
    rw [e1, e2, e3]

theorem padK_zero : ∀ k, padK k 0 = List.replicate k 48
  | 0 => rfl
  | k + 1 => by
    rw [padK, Nat.zero_div, padK_zero k, List.replicate_succ']
    rfl

theorem dec_length (u : Nat) : (Lib.decDigits u).length = Lib.nDigits u := Lib.decDigits_length u

theorem padK_dec : ∀ (k r : Nat), r < 10 ^ k → 1 ≤ k → padK k r = List.replicate (k - Lib.nDigits r) 48 ++ Lib.decDigits r ∧ Lib.nDigits r ≤ k
  | 0, _, _, h => by omega
  | k + 1, r, h, _ => by
    rcases Nat.lt_or_ge r 10 with hr | hr
    · rw [padK, Nat.div_eq_of_lt hr, padK_zero, dec_lt hr, Lib.nDigits_small hr, Nat.mod_eq_of_lt hr]
      exact ⟨rfl, by omega⟩
    · have hr' : ¬ r < 10 := by omega
      have hk : 1 ≤ k := by
        rcases k with _ | k
        · simp at h; omega
        · omega
      have ih := padK_dec k (r / 10) (by rw [Nat.pow_succ] at h; omega) hk
      rw [padK, ih.1, dec_ge hr', Lib.nDigits_big hr', List.append_assoc]
      exact ⟨by rw [Nat.add_sub_add_right], by omega⟩

theorem repeatL_48 : ∀ c, Lib.repeatL [48] c = List.replicate c 48
  | 0 => rfl
  | c + 1 => by rw [Lib.repeatL, repeatL_48 c, List.replicate_succ]; rfl
end Go.Proofs.YtfhipkdcekffaaaGreatDoor
