/-
  Gathered texts of this proof: Cn11, Cn12, Cn16, Cn17, Lib3, Pl3, Ex1, VcMe, Bd1, VcB, Bd2, Bd3, Bd4.
-/
import Derived.Test.YtdpdaphholileaaGreatDoorG04
import Derived.Lib.ItoaNum
import Derived.Lib.Join
import Derived.Lib.Repeat
import Derived.Test.YtdpdaphholileaaGreatDoorGSh
import Derived.Lib.Walk
import Derived.Sort.Grow
import Derived.WalkKit
import Derived.BigCall
import Derived.BigGuard
import Derived.Test.YtdpdaphholileaaGreatDoorG02
import Derived.Test.YtdpdaphholileaaGreatDoorChecked
import Derived.Lib.Builder
import Derived.Lib.UnsafeStr
import Derived.Shelf.RegionOpenPlain
import Derived.Laws.Externs

/-
  The library's contracts as CallsU: FormatUint below 100, Join, Reverse, Repeat, Sort.
-/
namespace Go.Proofs
open Go.RowKit Go.Lib Go.Sort

end Go.Proofs

namespace Go.Proofs.YtdpdaphholileaaGreatDoor
open Go Go.Vcg Go.RowKit Go.Sort
attribute [local irreducible] Br

theorem callsU_below {P : Program} {f : FuncId} {args : List Value} {h : Heap} {v : Value} (hc : Callable P f)
    (hw : ∀ w, Sat h w → Calls P f args.toArray w fun e w' => e = .returned v ∧ Below w.heap.size w w') : CallsU P f args h fun r h' => r = v ∧ h = h' :=
  ⟨hc, fun w s => (hw w s).mono fun e w' ⟨he, b⟩ => ⟨v, h, he, ⟨rfl, rfl⟩,
    fun k x hk => by
      have := s k x hk
      exact this.same (b.block k this.lt),
    ⟨b.size, b.os, b.tape, b.output, fun k hk h0 => ⟨h0, b.block k hk⟩⟩⟩⟩

theorem callsU_same {P : Program} {f : FuncId} {args : List Value} {h : Heap} {v : Value} (hc : Callable P f)
    (hw : ∀ w, Sat h w → Calls P f args.toArray w fun e w' => e = .returned v ∧ w' = w) : CallsU P f args h fun r h' => r = v ∧ h = h' :=
  callsU_below hc fun w s => (hw w s).mono fun _ _ ⟨a, b⟩ => ⟨a, by rw [b]; exact Below.refl _ _⟩

theorem putCells_seg {α : Type} [Inhabited α] {enc : α → Value} {off : Nat} (d : List α) (cells : List Value) (hle : off + d.length ≤ cells.length) :
    putCells enc off d.toArray cells.toArray = (setSeg cells off (d.map enc)).toArray := by
  unfold putCells setSeg
  apply Array.ext_getElem?
  intro k
  simp only [Array.getElem?_mapIdx, List.getElem?_toArray, List.size_toArray, List.length_map]
  rcases Nat.lt_or_ge k off with h1 | h1
  · rw [List.append_assoc, List.getElem?_append_left (by simp; omega), List.getElem?_take_of_lt h1, List.getElem?_eq_getElem (by omega)]
    simp only [Option.map_some]
    rw [if_neg (by omega)]
  · rw [List.append_assoc, List.getElem?_append_right (by simp; omega), List.length_take, Nat.min_eq_left (by omega)]
    rcases Nat.lt_or_ge k (off + d.length) with h2 | h2
    · rw [List.getElem?_append_left (by simp; omega), List.getElem?_eq_getElem (l := cells) (by omega)]
      simp only [Option.map_some]
      rw [if_pos ⟨h1, h2⟩]
      have hj : k - off < d.length := by omega
      simp [hj]
    · rw [List.getElem?_append_right (by simp; omega), List.getElem?_drop, List.length_map, show off + d.length + (k - off - d.length) = k from by omega]
      cases hk : cells[k]? with
      | none => rfl
      | some x => simp only [Option.map_some]; rw [if_neg (by omega)]

/-! ### decimals in groups -/
/-- The last k digits, with zeros ahead. -/
def padK : Nat → Nat → List UInt8
  | 0, _ => []
  | k + 1, r => padK k (r / 10) ++ [UInt8.ofNat (48 + r % 10)]

theorem dec_lt {u : Nat} (h : u < 10) : Lib.decDigits u = [UInt8.ofNat (48 + u)] := by rw [Lib.decDigits, dif_pos h]
theorem dec_ge {u : Nat} (h : ¬ u < 10) : Lib.decDigits u = Lib.decDigits (u / 10) ++ [UInt8.ofNat (48 + u % 10)] := by rw [Lib.decDigits, dif_neg h]

theorem padK_zero : ∀ k, padK k 0 = List.replicate k 48
  | 0 => rfl
  | k + 1 => by
    rw [padK, Nat.zero_div, padK_zero k, List.replicate_succ']
    rfl

theorem dec_length (u : Nat) : (Lib.decDigits u).length = Lib.nDigits u := Lib.decDigits_length u

theorem padK_dec : ∀ (k r : Nat), r < 10 ^ k → 1 ≤ k → padK k r = List.replicate (k - Lib.nDigits r) 48 ++ Lib.decDigits r ∧ Lib.nDigits r ≤ k
  | 0, _, _, h => by omega
  | k + 1, r, h, _ => by
    rcases Nat.lt_or_ge r 10 with hr | hr
    · rw [padK, Nat.div_eq_of_lt hr, padK_zero, dec_lt hr, Lib.nDigits_small hr, Nat.mod_eq_of_lt hr]
      exact ⟨rfl, by omega⟩
    · have hr' : ¬ r < 10 := by omega
      have hk : 1 ≤ k := by
        rcases k with _ | k
        · simp at h; omega
        · omega
      have ih := padK_dec k (r / 10) (by rw [Nat.pow_succ] at h; omega) hk
      rw [padK, ih.1, dec_ge hr', Lib.nDigits_big hr', List.append_assoc]
      exact ⟨by rw [Nat.add_sub_add_right], by omega⟩

end Go.Proofs.YtdpdaphholileaaGreatDoor

/-
  Contracts: natural.Text, integer.Text, ratio.Text.
-/
namespace Go.Proofs.YtdpdaphholileaaGreatDoor
open Go Go.Vcg
attribute [local irreducible] Br

theorem ba_append (a b : List UInt8) : (⟨a.toArray⟩ : ByteArray) ++ ⟨b.toArray⟩ = ⟨(a ++ b).toArray⟩ := by
  apply ByteArray.ext
  rw [ByteArray.data_append]
  simp

theorem ba_size (a : List UInt8) : (⟨a.toArray⟩ : ByteArray).size = a.length := by simp [ByteArray.size]

/-- The strings gathered so far: the slice's first elements, in a block of the call's own. -/
def Own (h h' : Heap) (A : Option Addr) (n c : Nat) (gs : List (List UInt8)) : Prop :=
  n = gs.length ∧ ((A = none ∧ n = 0 ∧ c = 0) ∨ ∃ g zs, A = some ⟨g, 0, none⟩ ∧ h g = none ∧ h' g = some ⟨(gs ++ zs).map sv, 9, (0, 0)⟩ ∧ c = (gs ++ zs).length)

theorem Own.le {h h' h'' : Heap} {A : Option Addr} {n c : Nat} {gs : List (List UInt8)} (o : Own h h' A n c gs) (l : Le h' h'') : Own h h'' A n c gs := by
  obtain ⟨a, b⟩ := o
  refine ⟨a, b.imp id ?_⟩
  rintro ⟨g, zs, e, h0, hb, hc⟩
  exact ⟨g, zs, e, h0, l _ _ hb, hc⟩

theorem repV_sv (n : Nat) : repV [Value.string ByteArray.empty] n = (List.replicate n ([] : List UInt8)).map sv := by
  induction n with
  | zero => rfl
  | succ n ih => simp only [repV, ih, List.replicate_succ]; rfl

/-- append of one string. -/
theorem Own.app {h h4 : Heap} {A : Option Addr} {n c : Nat} {gs : List (List UInt8)} {x : List UInt8} {K : Option Addr → Nat → Heap → Prop} (o : Own h h4 A n c gs) (hl : Le h h4) {g0 : Nat} (hg0 : h4 g0 = none) (hn : (n + 1) * 16 ≤ 140737488355328)
    (hK : ∀ A' c' h', Own h h' A' (n + 1) c' (gs ++ [x]) → Le h h' → (∀ k, k ≠ g0 → h4 k ≠ none → (∀ ad, A = some ad → k ≠ ad.block) → h' k = h4 k) → K A' c' h') :
    ∃ xs : List Value, RdS (h4.put g0 ⟨[sv x], 9, (0, 0)⟩) (some ⟨g0, 0, none⟩) (1 * 1) xs ∧ (∀ y ∈ xs, Go.Vcg.one y = true) ∧
      (n + 1 ≤ c → ∃ (ad : Addr) (b : Blk), A = some ad ∧ ad.spot = none ∧ (h4.put g0 ⟨[sv x], 9, (0, 0)⟩) ad.block = some b ∧ b.fz = (0, 0) ∧ ad.off + n * 1 + 1 * 1 ≤ b.cells.length ∧
        ∀ h' : Heap, h' = Heap.put (h4.put g0 ⟨[sv x], 9, (0, 0)⟩) ad.block { b with cells := setSeg b.cells (ad.off + n * 1) xs } → K A c h') ∧
      (c < n + 1 → ∃ olds : List Value, RdS (h4.put g0 ⟨[sv x], 9, (0, 0)⟩) A (n * 1) olds ∧ (n + 1) * 16 ≤ 140737488355328 ∧
        ∀ (g1 cap : Nat) (h' : Heap), (h4.put g0 ⟨[sv x], 9, (0, 0)⟩) g1 = none → n + 1 ≤ cap → h' = Heap.put (h4.put g0 ⟨[sv x], 9, (0, 0)⟩) g1 ⟨olds ++ xs ++ repV [Value.string ByteArray.empty] (cap - (n + 1)), 9, (0, 0)⟩ → K (some ⟨g1, 0, none⟩) cap h') := by
  obtain ⟨en, o⟩ := o
  have hg0h : h g0 = none := hl.free hg0
  refine ⟨[sv x], ⟨rfl, fun _ => ⟨_, rfl, rfl, _, Heap.put_same _ _ _, rfl⟩⟩, fun y hy => by simp at hy; subst hy; rfl, fun hc => ?_, fun hc => ?_⟩
  · rcases o with ⟨_, _, e⟩ | ⟨g, zs, rfl, h0, hb, rfl⟩
    · omega
    · have hne : g ≠ g0 := fun e => by rw [e, hg0] at hb; cases hb
      have hzl : 0 < zs.length := by simp at hc; omega
      obtain ⟨z, zs', rfl⟩ : ∃ z zs', zs = z :: zs' := by
        cases zs with
        | nil => simp at hzl
        | cons z r => exact ⟨z, r, rfl⟩
      refine ⟨_, _, rfl, rfl, (Heap.put_ne _ _ hne).trans hb, rfl, by simp; omega, ?_⟩
      rintro h' rfl
      have e : setSeg ((gs ++ z :: zs').map sv) (0 + n * 1) [sv x] = ((gs ++ [x]) ++ zs').map sv := by
        unfold setSeg
        subst en
        simp [List.drop_append]
      refine hK _ _ _ ⟨by simp [en], Or.inr ⟨g, zs', rfl, h0, ?_, by simp⟩⟩ ((hl.put hg0h _).put h0 _) (fun k k0 _ kA => ?_)
      · rw [Heap.put_same]; simp only [e]
      · rw [Heap.put_ne _ _ (kA _ rfl), Heap.put_ne _ _ k0]
  · refine ⟨gs.map sv, ?_, hn, ?_⟩
    · refine ⟨by simp [en], fun h0 => ?_⟩
      rcases o with ⟨_, e, _⟩ | ⟨g, zs, rfl, h0, hb, _⟩
      · omega
      · have hne : g ≠ g0 := fun e => by rw [e, hg0] at hb; cases hb
        exact ⟨_, rfl, rfl, _, (Heap.put_ne _ _ hne).trans hb, by simp⟩
    · rintro g1 cap h' hg1 hcap rfl
      have hne : g1 ≠ g0 := fun e => by rw [e, Heap.put_same] at hg1; cases hg1
      have hg1' : h4 g1 = none := by rw [Heap.put_ne _ _ hne] at hg1; exact hg1
      refine hK _ _ _ ⟨by simp [en], Or.inr ⟨g1, List.replicate (cap - (n + 1)) [], rfl, hl.free hg1', ?_, by simp [en]; omega⟩⟩ ((hl.put hg0h _).put (hl.free hg1') _) (fun k k0 kn _ => ?_)
      · rw [Heap.put_same, repV_sv]; simp
      · rw [Heap.put_ne _ _ (fun e => kn (by rw [e]; exact hg1')), Heap.put_ne _ _ k0]

theorem U32.agree {h h' : Heap} {A : Option Addr} {n c : Nat} {xs : List Nat} (u : U32 h A n c xs) (ha : ∀ ad b, 0 < n → A = some ad → h ad.block = some b → (b.cells.drop ad.off).take n = xs.map lv → h' ad.block = some b) : U32 h' A n c xs :=
  ⟨u.len, u.cap, u.lt, fun hn => let ⟨ad, b, e, sp, hb, hc⟩ := u.mem hn; ⟨ad, b, e, sp, ha ad b hn e hb hc, hc⟩⟩

theorem not_str {xs : List Nat} {ys : List (List UInt8)} {o n : Nat} (hn : 0 < n) (hl : xs.length = n) (h : ((ys.map sv).drop o).take n = xs.map lv) : False := by
  cases xs with
  | nil => simp at hl; omega
  | cons x r =>
    have h1 : (((ys.map sv).drop o).take n)[0]? = (List.map lv (x :: r))[0]? := by rw [h]
    rw [List.getElem?_take_of_lt hn, List.getElem?_drop, List.getElem?_map] at h1
    cases hy : ys[o + 0]? with
    | none => rw [hy] at h1; simp at h1
    | some y => rw [hy] at h1; simp at h1

theorem NmN.app {h h4 h' : Heap} {A B : Option Addr} {n c k d x g0 : Nat} {gs : List (List UInt8)} (u : NmN h4 B k d x) (o : Own h h4 A n c gs) (hg0 : h4 g0 = none)
    (ha : ∀ k, k ≠ g0 → h4 k ≠ none → (∀ ad, A = some ad → k ≠ ad.block) → h' k = h4 k) : NmN h' B k d x := by
  obtain ⟨xs, a, e, r⟩ := u
  refine ⟨xs, U32.agree a fun ad b hk eB hb hc => ?_, e, r⟩
  rw [ha ad.block (fun q => by rw [q, hg0] at hb; cases hb) (fun q => by rw [q] at hb; cases hb) ?_]
  · exact hb
  · intro ad' eA q
    rcases o.2 with ⟨e1, _, _⟩ | ⟨g, zs, e1, _, hg, _⟩
    · rw [e1] at eA; cases eA
    · rw [e1] at eA
      cases eA
      rw [q, hg] at hb
      cases hb
      exact not_str hk a.len hc

theorem dec_ne (v : Nat) : Lib.decDigits v ≠ [] := fun e => by
  have h1 := dec_length v
  have h2 := Lib.nDigits_pos v
  rw [e, List.length_nil] at h1
  omega

end Go.Proofs.YtdpdaphholileaaGreatDoor

/-
  Contracts: natural.Sub; integer.Add; ratio.Add, ratio.Mul.
-/
namespace Go.Proofs.YtdpdaphholileaaGreatDoor
open Go Go.Vcg
attribute [local irreducible] Br

theorem sub_digit {x y b : Nat} (hx : x < 4294967296) (hy : y < 4294967296) (hb : b ≤ 1) :
    ∃ r b' : Nat, IntKind.u32.wrap (IntKind.u64.wrap ((x : Int) - b - y)) = (r : Int) ∧ Int.fdiv (IntKind.u64.wrap ((x : Int) - b - y)) (2 ^ (63 : Nat)) = (b' : Int) ∧ x + B32 * b' = r + y + b ∧ r < 4294967296 ∧ b' ≤ 1 := by
  have e63 : ((2 : Int) ^ (63 : Nat)) = 9223372036854775808 := by decide
  rw [Int.fdiv_eq_ediv_of_nonneg _ (by decide), e63, wrap_u64_mod, wrap_u32_mod]
  have hB : B32 = 4294967296 := rfl
  rw [hB]
  rcases Nat.lt_or_ge x (y + b) with q | q
  · exact ⟨4294967296 + x - y - b, 1, by omega, by omega, by omega, by omega, by omega⟩
  · exact ⟨x - y - b, 0, by omega, by omega, by omega, by omega, by omega⟩

theorem sub_val {G X Y p q x y r b b' : Nat} (h : G + Y = X + p * b) (hd : x + B32 * b' = r + y + b) (hq : q = p * B32) : (G + p * r) + (Y + p * y) = (X + p * x) + q * b' := by
  subst hq
  have : p * x + p * (B32 * b') = p * r + p * y + p * b := by rw [← Nat.mul_add, hd, Nat.mul_add, Nat.mul_add]
  rw [Nat.mul_assoc]
  omega

theorem sub_c {h : Heap} {A B : Option Addr} {n c m d x y : Nat} (ux : IsN h A n c x) (uy : IsN h B m d y) (hn : n ≤ 1099511627776) (hm : m ≤ 1099511627776) :
    CallsU Tryz.prog 98 [.slice A n c, .slice B m d] h fun r h' => (x < y ∧ r = .tuple #[.slice none 0 0, .bool false] ∧ h = h') ∨ (y ≤ x ∧ ∃ A' k c', r = .tuple #[.slice A' k c', .bool true] ∧ NmN h' A' k c' (x - y) ∧ Le h h') := by
  apply natural_Sub_ok
  refine (trim_n ux (by omega)).mono ?_
  rintro _ _ ⟨n', rfl, hn', nx, rfl⟩
  refine ⟨_, _, _, rfl, (trim_n uy (by omega)).mono ?_⟩
  rintro _ _ ⟨m', rfl, hm', ny, rfl⟩
  refine ⟨_, _, _, rfl, (cmp_c nx.is ny.is (by omega) (by omega)).mono ?_⟩
  rintro _ _ ⟨rfl, rfl⟩
  refine ⟨_, rfl, Br.mk (fun b => ?_) (fun b => ?_)⟩
  · have b' := of_decide_eq_true b
    refine Or.inl ⟨?_, rfl, rfl⟩
    unfold cmpI at b'
    split at b'
    · omega
    · split at b' <;> omega
  · have b' := of_decide_eq_false b
    have hyx : y ≤ x := by
      unfold cmpI at b'
      split at b'
      · omega
      · omega
    have hmn : m' ≤ n' := NmN.le_of ny (nx.sz.le hyx)
    obtain ⟨xs, u, hx, _⟩ := nx
    obtain ⟨ys, w, hy, _⟩ := ny
    subst hx hy
    have lu := u.len
    have lw := w.len
    refine ⟨by omega, by omega, by omega, by omega, ?_⟩
    rintro g _ hg rfl
    simp only [Int.toNat_natCast]
    refine ⟨fun q bo i h' => ∃ (k bN : Nat) (rs : List Nat), q = n' - k ∧ k ≤ n' ∧ i = (k : Int) ∧ bo = (bN : Int) ∧ bN ≤ 1 ∧ rs.length = n' ∧ (∀ z ∈ rs, z < 4294967296) ∧ h' g = some ⟨rs.map lv, 104, (0, 0)⟩ ∧ Le h h' ∧
        val (rs.take k) + val (ys.take k) = val (xs.take k) + B32 ^ k * bN,
      ⟨_, 0, 0, List.replicate n' 0, rfl, by omega, rfl, rfl, by omega, by simp, fun z hz => by rw [(List.mem_replicate.1 hz).2]; decide, by rw [Heap.put_same, repV_lv], Le.new hg _, by simp [val]⟩, ?_⟩
    rintro _ _ _ h5 ⟨k, bN, rs, rfl, hk, rfl, rfl, hb, hrl, hrlt, hbk, hle, hv⟩
    refine Br.mk (fun q => ?_) (fun q => ?_)
    · have q' : k < n' := by have := of_decide_eq_true q; omega
      obtain ⟨ad, hA, hld⟩ := (u.mono hle).get q'
      have lx := u.getD_lt k
      have ly := w.getD_lt k
      rw [Int.toNat_natCast]
      refine ⟨ad, hA, by omega, by omega, _, hld, ?_⟩
      rintro _ rfl
      rw [wu (n := xs.getD k 0) rfl (by omega)]
      obtain ⟨r, b2, d1, d2, d3, d4, d5⟩ := sub_digit lx ly hb
      refine ⟨fun dd h' => h5 = h' ∧ dd = IntKind.u64.wrap (((xs.getD k 0 : Nat) : Int) - bN - ((ys.getD k 0 : Nat) : Int)), ?_, ?_⟩
      · rintro _ _ ⟨rfl, rfl⟩
        refine ⟨_, rfl, by omega, by omega, st_own r hbk (by omega) (by rw [d1]) ?_⟩
        rintro _ rfl _ rfl
        rw [d2, wi (n := k + 1) (by omega) (by omega)]
        refine ⟨_, by omega, k + 1, b2, rs.set k r, rfl, by omega, rfl, rfl, d5, by simp [hrl], mem_set hrlt d4, Heap.put_same _ _ _, hle.put hg _, ?_⟩
        rw [val_take_succ (by simp; omega), take_set_ge (Nat.le_refl _), getD_set_eq (by omega), val_take_succ', val_take_succ']
        exact sub_val hv d3 (Nat.pow_succ _ _)
      · refine Br.mk (fun q2 => ?_) (fun q2 => ?_)
        · have q3 : k < m' := by have := of_decide_eq_true q2; omega
          obtain ⟨ad2, hB, hld2⟩ := (w.mono hle).get q3
          refine ⟨ad2, hB, by omega, by omega, _, hld2, ?_⟩
          rintro _ rfl
          rw [wu (a := ((ys.getD k 0 : Nat) : Int)) (n := ys.getD k 0) rfl (by omega)]
          refine ⟨rfl, ?_⟩
          rw [wrap_u64_mod, wrap_u64_mod, wrap_u64_mod]
          omega
        · have q3 : m' ≤ k := by have := of_decide_eq_false q2; omega
          refine ⟨rfl, ?_⟩
          rw [getD_ge (xs := ys) (k := k) (by omega)]
          congr 1
          omega
    · have q' : k = n' := by have := of_decide_eq_false q; omega
      subst q'
      have hg1 := val_lt (l := rs) hrlt
      rw [List.take_of_length_le (by omega), List.take_of_length_le (by omega), List.take_of_length_le (by omega)] at hv
      rw [hrl] at hg1
      have b0 : bN = 0 := by
        rcases Nat.eq_zero_or_pos bN with e | e
        · exact e
        · exfalso
          have : bN = 1 := by omega
          subst this
          omega
      subst b0
      have us := U32.of_blk (m := k) (k := k) hbk hrlt (by omega) (Nat.le_refl _)
      rw [List.take_of_length_le (by omega)] at us
      refine (trim_n ⟨_, us, rfl⟩ (by omega)).mono ?_
      rintro _ _ ⟨m2, rfl, _, hN, rfl⟩
      rw [show val rs = val xs - val ys from by omega] at hN
      exact ⟨_, _, _, rfl, Or.inr ⟨hyx, _, _, _, rfl, hN, hle⟩⟩

theorem iadd_c {h : Heap} {s s2 : Bool} {A B : Option Addr} {n c m d : Nat} {z w : Int} (u : IsI h s A n c z) (v : IsI h s2 B m d w) (hn : n ≤ 549755813888) (hm : m ≤ 549755813888) :
    CallsU Tryz.prog 59 [.agg #[.bool s, .slice A n c], .agg #[.bool s2, .slice B m d]] h fun r h' => ∃ s' A' k c', r = .agg #[.bool s', .slice A' k c'] ∧ NmI h' s' A' k c' (z + w) ∧ k ≤ max n m + 1 ∧ Le h h' := by
  apply integer_Add_ok
  obtain ⟨x, ux, rfl⟩ := u
  obtain ⟨y, uy, rfl⟩ := v
  have hsx : Sz x (max n m) := ux.sz.mono (by omega)
  have hsy : Sz y (max n m) := uy.sz.mono (by omega)
  refine Br.mk (fun q => ?_) (fun q => ?_)
  · have e : s = s2 := by simpa using q
    subst e
    refine (add_c ux uy (by omega) (by omega)).mono ?_
    rintro _ h1 ⟨A', k, c', rfl, hN, hl⟩
    have hk := NmN.le_of hN (hsx.add hsy)
    refine ⟨_, _, _, rfl, (by first | assumption | exact Le.refl _), (signed_c (s := s) (z := (if s then -(x : Int) else x) + (if s then -(y : Int) else y)) ⟨_, hN.is, by cases s <;> simp <;> omega⟩ (by omega)).mono ?_⟩
    rintro _ _ ⟨s', A', k, c', rfl, r, hk', hl'⟩
    exact ⟨_, _, _, _, rfl, _, _, _, _, rfl, r, by omega, hl.trans hl'⟩
  · have e : s2 = !s := by cases s <;> cases s2 <;> simp at q ⊢
    subst e
    refine (sub_c ux uy (by omega) (by omega)).mono ?_
    rintro _ h1 (⟨hlt, rfl, rfl⟩ | ⟨hge, A1, k1, c1, rfl, hN, hl⟩)
    · refine ⟨_, _, _, _, rfl, Br.mk (fun q => by cases q) (fun _ => ?_)⟩
      refine (sub_c uy ux (by omega) (by omega)).mono ?_
      rintro _ h1 (⟨hlt2, _⟩ | ⟨hge, A1, k1, c1, rfl, hN, hl⟩)
      · omega
      · have hk := NmN.le_of hN (hsy.le (Nat.sub_le _ _))
        refine ⟨_, _, _, _, rfl, (signed_c (s := !s) (z := (if s then -(x : Int) else x) + (if (!s) = true then -(y : Int) else y)) ⟨_, hN.is, by cases s <;> simp <;> omega⟩ (by omega)).mono ?_⟩
        rintro _ _ ⟨s', A', k, c', rfl, r, hk', hl'⟩
        exact ⟨_, _, _, _, rfl, _, _, _, _, rfl, r, by omega, hl.trans hl'⟩
    · have hk := NmN.le_of hN (hsx.le (Nat.sub_le _ _))
      refine ⟨_, _, _, _, rfl, Br.mk (fun _ => ?_) (fun q => by cases q)⟩
      refine (signed_c (s := s) (z := (if s then -(x : Int) else x) + (if (!s) = true then -(y : Int) else y)) ⟨_, hN.is, by cases s <;> simp <;> omega⟩ (by omega)).mono ?_
      rintro _ _ ⟨s', A', k, c', rfl, r, hk', hl'⟩
      exact ⟨_, _, _, _, rfl, _, _, _, _, rfl, r, by omega, hl.trans hl'⟩

theorem radd_b {h : Heap} {s s2 : Bool} {A B C D : Option Addr} {n c m d n2 c2 m2 d2 : Nat} {q p : Rat} (u : IsQ h s A n c B m d q) (w : IsQ h s2 C n2 c2 D m2 d2 p) (hn : n ≤ 134217728) (hm : m ≤ 134217728) (hn2 : n2 ≤ 134217728) (hm2 : m2 ≤ 134217728) :
    CallsU Tryz.prog 30 [.agg #[.bool s, .slice A n c, .slice B m d], .agg #[.bool s2, .slice C n2 c2, .slice D m2 d2]] h fun r h' => ∃ s' A' n' c' B' m' d', r = .agg #[.bool s', .slice A' n' c', .slice B' m' d'] ∧ NmQ h' s' A' n' c' B' m' d' (q + p) ∧ n' ≤ max (n + max m2 2) (n2 + max m 2) + 1 ∧ m' ≤ max m 2 + max m2 2 ∧ Le h h' := by
  apply ratio_Add_ok
  refine (rvalue_c u (by omega)).mono ?_
  rintro _ h1 ⟨s1, A1, n1, c1, B1, m1, d1, rfl, ⟨z, v, hv, uz, uv, rfl⟩, hn1, hm1, hl1⟩
  refine ⟨_, _, _, _, _, _, _, rfl, (by first | assumption | exact Le.refl _), (rvalue_c (w.mono hl1) (by omega)).mono ?_⟩
  rintro _ h2 ⟨s3, A3, n3, c3, B3, m3, d3, rfl, ⟨y, t, ht, uy, ut, rfl⟩, hn3, hm3, hl2⟩
  refine ⟨_, _, _, _, _, _, _, rfl, (rpos_c ut).mono ?_⟩
  rintro _ _ ⟨rfl, pt, rfl⟩
  refine ⟨_, _, _, _, rfl, (by first | assumption | exact Le.refl _), (imul_c (uz.mono hl2) pt (by omega) (by omega)).mono ?_⟩
  rintro _ h3 ⟨s4, A4, k4, c4, rfl, hN4, hk4, hl4⟩
  refine ⟨_, _, _, _, rfl, (by first | assumption | exact Le.refl _), (rpos_c ((uv.mono hl2).mono hl4)).mono ?_⟩
  rintro _ _ ⟨rfl, pv, rfl⟩
  refine ⟨_, _, _, _, rfl, (by first | assumption | exact Le.refl _), (imul_c (uy.mono hl4) pv (by omega) (by omega)).mono ?_⟩
  rintro _ h5 ⟨s6, A6, k6, c6, rfl, hN6, hk6, hl6⟩
  refine ⟨_, _, _, _, rfl, (iadd_c (hN4.mono hl6).is hN6.is (by omega) (by omega)).mono ?_⟩
  rintro _ h6 ⟨s7, A7, k7, c7, rfl, hN7, hk7, hl7⟩
  have hl27 := (hl4.trans hl6).trans hl7
  refine ⟨_, _, _, _, rfl, (mul_c ((uv.mono hl2).mono hl27) (ut.mono hl27) (by omega) (by omega)).mono ?_⟩
  rintro _ h7 ⟨A8, k8, c8, rfl, hN8, hl8⟩
  have hk8 := NmN.le_of hN8 (uv.sz.mul ut.sz)
  refine ⟨_, _, _, rfl, (by first | assumption | exact Le.refl _), (reduce_c (hN7.mono hl8).is hN8.is (Nat.mul_ne_zero hv ht) (by omega) (by omega)).mono ?_⟩
  rintro _ h8 ⟨s9, A9, n9, c9, B9, m9, d9, rfl, hN9, b1, b2, hl9⟩
  rw [← Rat.mkRat_add_mkRat _ _ hv ht] at hN9
  exact ⟨_, _, _, _, _, _, _, rfl, _, _, _, _, _, _, _, rfl, hN9, by omega, by omega, ((hl1.trans hl2).trans hl27).trans (hl8.trans hl9)⟩

theorem rmul_c {h : Heap} {s s2 : Bool} {A B C D : Option Addr} {n c m d n2 c2 m2 d2 : Nat} {q p : Rat} (u : IsQ h s A n c B m d q) (w : IsQ h s2 C n2 c2 D m2 d2 p) (hn : n ≤ 134217728) (hm : m ≤ 134217728) (hn2 : n2 ≤ 134217728) (hm2 : m2 ≤ 134217728) :
    CallsU Tryz.prog 32 [.agg #[.bool s, .slice A n c, .slice B m d], .agg #[.bool s2, .slice C n2 c2, .slice D m2 d2]] h fun r h' => ∃ s' A' n' c' B' m' d', r = .agg #[.bool s', .slice A' n' c', .slice B' m' d'] ∧ NmQ h' s' A' n' c' B' m' d' (q * p) ∧ n' ≤ n + n2 ∧ m' ≤ max m 2 + max m2 2 ∧ Le h h' := by
  apply ratio_Mul_ok
  refine (rvalue_c u (by omega)).mono ?_
  rintro _ h1 ⟨s1, A1, n1, c1, B1, m1, d1, rfl, ⟨z, v, hv, uz, uv, rfl⟩, hn1, hm1, hl1⟩
  refine ⟨_, _, _, _, _, _, _, rfl, (by first | assumption | exact Le.refl _), (rvalue_c (w.mono hl1) (by omega)).mono ?_⟩
  rintro _ h2 ⟨s3, A3, n3, c3, B3, m3, d3, rfl, ⟨y, t, ht, uy, ut, rfl⟩, hn3, hm3, hl2⟩
  refine ⟨_, _, _, _, _, _, _, rfl, (imul_c (uz.mono hl2) uy (by omega) (by omega)).mono ?_⟩
  rintro _ h3 ⟨s4, A4, k4, c4, rfl, hN4, hk4, hl4⟩
  refine ⟨_, _, _, _, rfl, (by first | assumption | exact Le.refl _), (mul_c ((uv.mono hl2).mono hl4) (ut.mono hl4) (by omega) (by omega)).mono ?_⟩
  rintro _ h7 ⟨A8, k8, c8, rfl, hN8, hl8⟩
  have hk8 := NmN.le_of hN8 (uv.sz.mul ut.sz)
  refine ⟨_, _, _, rfl, (reduce_c (hN4.mono hl8).is hN8.is (Nat.mul_ne_zero hv ht) (by omega) (by omega)).mono ?_⟩
  rintro _ h8 ⟨s9, A9, n9, c9, B9, m9, d9, rfl, hN9, b1, b2, hl9⟩
  rw [← Rat.mkRat_mul_mkRat] at hN9
  exact ⟨_, _, _, _, _, _, _, rfl, _, _, _, _, _, _, _, rfl, hN9, by omega, by omega, ((hl1.trans hl2).trans hl4).trans (hl8.trans hl9)⟩
end Go.Proofs.YtdpdaphholileaaGreatDoor

/-
  Contracts: integer.Neg, Small; ratio.Neg, Sub.
-/
namespace Go.Proofs.YtdpdaphholileaaGreatDoor
open Go Go.Vcg
attribute [local irreducible] Br

theorem ineg_c {h : Heap} {s : Bool} {A : Option Addr} {n c : Nat} {z : Int} (u : IsI h s A n c z) (hn : n ≤ 1099511627776) :
    CallsU Tryz.prog 102 [.agg #[.bool s, .slice A n c]] h fun r h' => ∃ s' A' k c', r = .agg #[.bool s', .slice A' k c'] ∧ NmI h' s' A' k c' (-z) ∧ k ≤ n ∧ Le h h' := by
  apply integer_Neg_ok
  have hI : IsI h (!s) A n c (-z) := by
    obtain ⟨v, a, e⟩ := u
    exact ⟨v, a, by subst e; cases s <;> simp⟩
  refine (signed_c hI hn).mono ?_
  rintro _ _ ⟨s', A', k, c', rfl, r⟩
  exact ⟨_, _, _, _, rfl, _, _, _, _, rfl, r⟩

theorem rneg_c {h : Heap} {s : Bool} {A B : Option Addr} {n c m d : Nat} {q : Rat} (u : IsQ h s A n c B m d q) (hn : n ≤ 1099511627776) (hm : m ≤ 1099511627776) :
    CallsU Tryz.prog 62 [.agg #[.bool s, .slice A n c, .slice B m d]] h fun r h' => ∃ s' A' n' c' B' m' d', r = .agg #[.bool s', .slice A' n' c', .slice B' m' d'] ∧ NmQ h' s' A' n' c' B' m' d' (-q) ∧ n' ≤ n ∧ m' ≤ max m 2 ∧ Le h h' := by
  apply ratio_Neg_ok
  refine (rvalue_c u hm).mono ?_
  rintro _ h1 ⟨s1, A1, n1, c1, B1, m1, d1, rfl, ⟨z, v, hv, uz, uv, e⟩, hn1, hm1, hl1⟩
  refine ⟨_, _, _, _, _, _, _, rfl, (ineg_c uz (by omega)).mono ?_⟩
  rintro _ h2 ⟨s2, A2, k2, c2, rfl, hN2, hk2, hl2⟩
  refine ⟨_, _, _, _, rfl, hl2, (reduce_c hN2.is (uv.mono hl2) hv (by omega) (by omega)).mono ?_⟩
  rintro _ h3 ⟨s3, A3, n3, c3, B3, m3, d3, rfl, hN3, a3, b3, hl3⟩
  rw [← Rat.neg_mkRat, e] at hN3
  exact ⟨_, _, _, _, _, _, _, rfl, _, _, _, _, _, _, _, rfl, hN3, by omega, by omega, (hl1.trans hl2).trans hl3⟩

theorem rsub_c {h : Heap} {s s2 : Bool} {A B C D : Option Addr} {n c m d n2 c2 m2 d2 : Nat} {q p : Rat} (u : IsQ h s A n c B m d q) (w : IsQ h s2 C n2 c2 D m2 d2 p) (hn : n ≤ 134217728) (hm : m ≤ 134217728) (hn2 : n2 ≤ 134217728) (hm2 : m2 ≤ 134217728) :
    CallsU Tryz.prog 31 [.agg #[.bool s, .slice A n c, .slice B m d], .agg #[.bool s2, .slice C n2 c2, .slice D m2 d2]] h fun r h' => ∃ s' A' n' c' B' m' d', r = .agg #[.bool s', .slice A' n' c', .slice B' m' d'] ∧ NmQ h' s' A' n' c' B' m' d' (q - p) ∧ n' ≤ max (n + max m2 2) (n2 + max m 2) + 1 ∧ m' ≤ max m 2 + max m2 2 ∧ Le h h' := by
  apply ratio_Sub_ok
  refine (rneg_c w (by omega) (by omega)).mono ?_
  rintro _ h1 ⟨s1, A1, n1, c1, B1, m1, d1, rfl, hN1, a1, b1, hl1⟩
  refine ⟨_, _, _, _, _, _, _, rfl, hl1, (radd_b (u.mono hl1) hN1.is (by omega) (by omega) (by omega) (by omega)).mono ?_⟩
  rintro _ h2 ⟨s2, A2, n2, c2, B2, m2, d2, rfl, hN2, a2, b2, hl2⟩
  rw [← Rat.sub_eq_add_neg] at hN2
  exact ⟨_, _, _, _, _, _, _, rfl, _, _, _, _, _, _, _, rfl, hN2, by omega, by omega, hl1.trans hl2⟩

/-- Whether an integer is an int. -/
def fitsZ (z : Int) : Bool := decide (-9223372036854775808 ≤ z ∧ z < 9223372036854775808)

theorem small_c {h : Heap} {s : Bool} {A : Option Addr} {n c : Nat} {z : Int} (u : IsI h s A n c z) (hn : n ≤ 1099511627776) :
    CallsU Tryz.prog 155 [.agg #[.bool s, .slice A n c]] h fun r h' => r = .tuple #[.int .i64 (if fitsZ z then z else 0), .bool (fitsZ z)] ∧ Le h h' := by
  apply integer_Small_ok
  refine (inorm_c u hn).mono ?_
  rintro _ h1 ⟨s1, A1, k1, c1, rfl, ⟨hN, hs⟩, hk1, hl1⟩
  have hB : B32 = 4294967296 := rfl
  have hsz := NmN.sz hN
  refine ⟨_, _, _, _, rfl, Br.mk (fun q => ?_) (fun q => ?_)⟩
  · have q' := of_decide_eq_true q
    have hbig : ¬ z.natAbs < B32 ^ 2 := fun hlt => by have := NmN.len_le hN hlt; omega
    have hf : fitsZ z = false := decide_eq_false (by rw [hB] at hbig; omega)
    rw [hf]
    exact ⟨rfl, hl1⟩
  · have q' := of_decide_eq_false q
    have hz64 : z.natAbs < 18446744073709551616 := by
      have := hsz.mono (show k1 ≤ 2 by omega)
      unfold Sz at this
      rw [hB] at this
      omega
    obtain ⟨xs, a, ez, _⟩ := hN
    have la := a.len
    refine ⟨fun m nn t h' => ∃ k, k ≤ k1 ∧ m = k1 - k ∧ t = (k : Int) ∧ nn = ((val (xs.take k) : Nat) : Int) ∧ h1 = h', ⟨k1, 0, by omega, by omega, rfl, by simp [val], rfl⟩, ?_⟩
    rintro m _ _ _ ⟨k, hk, rfl, rfl, rfl, rfl⟩
    refine Br.mk (fun q2 => ?_) (fun q2 => ?_)
    · have hlt : k < k1 := by have := of_decide_eq_true q2; omega
      obtain ⟨ad, hA, hld⟩ := a.get (i := k) hlt
      simp only [Int.toNat_natCast]
      have hx := a.getD_lt k
      refine ⟨ad, hA, by omega, by omega, _, hld, ?_⟩
      rintro _ rfl
      have hk01 : k = 0 ∨ k = 1 := by omega
      refine Br.mk (fun q3 => ?_) (fun _ => ?_)
      · have := of_decide_eq_true q3
        rw [IntKind.wrap_i64] at this
        omega
      · rintro _ rfl _ rfl _ rfl
        refine ⟨k1 - (k + 1), by omega, k + 1, by omega, rfl, by rw [IntKind.wrap_i64]; omega, ?_, by first | rfl | trivial⟩
        rw [val_take_succ (by omega)]
        rcases hk01 with rfl | rfl
        · have e : IntKind.u64.wrap (IntKind.u64.wrap ((xs.getD 0 0 : Nat) : Int) * 2 ^ (min (Int.toNat (IntKind.i64.wrap (32 * ((0 : Nat) : Int)))) 64 : Nat)) = ((xs.getD 0 0 : Nat) : Int) := by
            rw [wu (n := xs.getD 0 0) rfl (by omega)]
            have : IntKind.i64.wrap (32 * ((0 : Nat) : Int)) = 0 := by rw [IntKind.wrap_i64]; omega
            rw [this]
            simp only [Int.toNat_zero, Nat.zero_min, Int.pow_zero, Int.mul_one]
            exact wu rfl (by omega)
          rw [e]
          have := or64 (x := ((0 : Nat) : Int)) (hi := 0) (lo := xs.getD 0 0) (by simp) rfl hx (by decide)
          simpa [val] using this
        · have e : IntKind.u64.wrap (IntKind.u64.wrap ((xs.getD 1 0 : Nat) : Int) * 2 ^ (min (Int.toNat (IntKind.i64.wrap (32 * ((1 : Nat) : Int)))) 64 : Nat)) = ((xs.getD 1 0 * B32 : Nat) : Int) := by
            rw [wu (n := xs.getD 1 0) rfl (by omega)]
            have : IntKind.i64.wrap (32 * ((1 : Nat) : Int)) = 32 := by rw [IntKind.wrap_i64]; omega
            rw [this]
            exact shlB rfl hx
          rw [e]
          have hv : val (xs.take 1) < B32 := by
            have := U32.val_lt (a.take (m := 1) (by omega))
            simpa using this
          have := or64_zero (x := ((val (xs.take 1) : Nat) : Int)) (hi := xs.getD 1 0) (lo := val (xs.take 1)) rfl rfl hv hx
          rw [this]
          congr 1
          rw [Nat.pow_one, Nat.mul_comm B32]
          omega
    · have hkk : k = k1 := by have := of_decide_eq_false q2; omega
      subst hkk
      rw [List.take_of_length_le (by omega)]
      have hv : val xs = z.natAbs := ez
      refine ⟨fun t h' => h1 = h' ∧ t = (s1 && decide ((val xs : Int) ≤ 9223372036854775808)), ?_, ?_⟩
      · rintro t _ ⟨rfl, et⟩
        rw [hv] at et ⊢
        refine Br.mk (fun q3 => ?_) (fun q3 => ?_)
        · rintro _ rfl
          subst q3
          rw [eq_comm, Bool.and_eq_true, decide_eq_true_eq, hs, decide_eq_true_eq] at et
          have hf : fitsZ z = true := decide_eq_true (by omega)
          rw [hf]
          refine ⟨?_, hl1⟩
          have e : IntKind.i64.wrap (IntKind.u64.wrap (0 - (z.natAbs : Int))) = z := by rw [IntKind.wrap_u64, IntKind.wrap_i64]; omega
          rw [e, if_pos rfl]
        · refine Br.mk (fun q4 => Br.mk (fun q5 => ?_) (fun q5 => ?_)) (fun q4 => ?_)
          · have q5' := of_decide_eq_true q5
            have hz : 0 ≤ z := by rw [hs] at q4; simp at q4; exact q4
            have hf : fitsZ z = true := decide_eq_true (by omega)
            rw [hf]
            refine ⟨?_, hl1⟩
            have e : IntKind.i64.wrap (z.natAbs : Int) = z := by rw [IntKind.wrap_i64]; omega
            rw [e, if_pos rfl]
          · have q5' := of_decide_eq_false q5
            have hz : 0 ≤ z := by rw [hs] at q4; simp at q4; exact q4
            have hf : fitsZ z = false := decide_eq_false (by omega)
            rw [hf]
            exact ⟨rfl, hl1⟩
          · have hz : z < 0 := by rw [hs] at q4; simp at q4; exact q4
            rw [q3, hs, decide_eq_true hz, Bool.true_and, eq_comm] at et
            have := of_decide_eq_false et
            have hf : fitsZ z = false := decide_eq_false (by omega)
            rw [hf]
            exact ⟨rfl, hl1⟩
      · refine Br.mk (fun q3 => ⟨rfl, by rw [q3, Bool.true_and]⟩) (fun q3 => ⟨rfl, by rw [q3, Bool.false_and]⟩)
end Go.Proofs.YtdpdaphholileaaGreatDoor

/-
  A slice that grows by append of some elements; bytes.
-/
namespace Go.Proofs.YtdpdaphholileaaGreatDoor
open Go Go.Vcg
attribute [local irreducible] Br

abbrev bv (x : UInt8) : Value := .int .u8 (x.toNat : Int)

section
variable {α : Type} {enc : α → Value} {ty : Nat} {h h' h'' : Heap} {A : Option Addr} {n c : Nat} {gs : List α}

end
end Go.Proofs.YtdpdaphholileaaGreatDoor

/-
  Plain laws: what a walk over a string gives; the form of a text and its runs of digits.
-/
namespace Go.Proofs.YtdpdaphholileaaGreatDoor
open Go Go.Vcg

/-! ### the form of a text -/
def isDg (x : UInt8) : Bool := decide (48 ≤ x.toNat ∧ x.toNat ≤ 57)

structure Sc where
  form : List UInt8
  runs : List (List UInt8)
  inRun : Bool

def addLast (rs : List (List UInt8)) (x : UInt8) : List (List UInt8) := rs.set (rs.length - 1) (rs.getD (rs.length - 1) [] ++ [x])

def Sc.step (t : Sc) (x : UInt8) : Sc :=
  if isDg x then (if t.inRun then ⟨t.form, addLast t.runs x, true⟩ else ⟨t.form ++ [48], t.runs ++ [[x]], true⟩) else ⟨t.form ++ [x], t.runs, false⟩

def scanL (l : List UInt8) : Sc := l.foldl Sc.step ⟨[], [], false⟩

def low (l : List UInt8) : Prop := ∀ x ∈ l, x.toNat < 128
end Go.Proofs.YtdpdaphholileaaGreatDoor

/-
  Expressions: trees in the heap.
-/
namespace Go.Proofs.YtdpdaphholileaaGreatDoor
open Go Go.Vcg
attribute [local irreducible] Br

/-- A node: its kind, its value with the numbers of its limbs, its name, its kids. -/
inductive Ex
  | mk (kind : Int) (val : Rat) (n m : Nat) (name : List UInt8) (kids : List Ex)

namespace Ex
def kind : Ex → Int | mk k _ _ _ _ _ => k
def val : Ex → Rat | mk _ q _ _ _ _ => q
def ln : Ex → Nat | mk _ _ n _ _ _ => n
def lm : Ex → Nat | mk _ _ _ m _ _ => m
def name : Ex → List UInt8 | mk _ _ _ _ s _ => s
def kids : Ex → List Ex | mk _ _ _ _ _ ks => ks
end Ex

/-- The six cells of a node. -/
def cellsE (k : Int) (s : Bool) (A : Option Addr) (n c : Nat) (B : Option Addr) (m d : Nat) (nm : List UInt8) (K : Option Addr) (kn kc : Nat) : List Value :=
  [.int .i64 k, .bool s, .slice A n c, .slice B m d, sv nm, .slice K kn kc]

mutual
/-- The cells of a tree. -/
def IsE (h : Heap) : Ex → List Value → Prop
  | .mk k q n m nm kids, vs => ∃ s A c B d K kc, vs = cellsE k s A n c B m d nm K kids.length kc ∧ IsQ h s A n c B m d q ∧ kids.length ≤ kc ∧
      (kids ≠ [] → ∃ (ad : Addr) (b : Blk), K = some ad ∧ ad.spot = none ∧ h ad.block = some b ∧ ad.off + 6 * kids.length ≤ b.cells.length ∧ IsEs h kids (b.cells.drop ad.off))
/-- .. of the trees of a slice, one behind the other. -/
def IsEs (h : Heap) : List Ex → List Value → Prop
  | [], _ => True
  | e :: es, cs => IsE h e (cs.take 6) ∧ IsEs h es (cs.drop 6)
end

mutual
theorem IsE.mono {h h' : Heap} (l : Le h h') : ∀ (e : Ex) (vs : List Value), IsE h e vs → IsE h' e vs
  | .mk k q n m nm kids, vs, u => by
    unfold IsE at u ⊢
    obtain ⟨s, A, c, B, d, K, kc, e, uq, hc, hk⟩ := u
    refine ⟨s, A, c, B, d, K, kc, e, uq.mono l, hc, fun hn => ?_⟩
    obtain ⟨ad, b, e1, e2, hb, hl, hs⟩ := hk hn
    exact ⟨ad, b, e1, e2, l _ _ hb, hl, IsEs.mono l kids _ hs⟩
theorem IsEs.mono {h h' : Heap} (l : Le h h') : ∀ (es : List Ex) (cs : List Value), IsEs h es cs → IsEs h' es cs
  | [], _, _ => by unfold IsEs; trivial
  | e :: es, cs, u => by
    unfold IsEs at u ⊢
    exact ⟨IsE.mono l e _ u.1, IsEs.mono l es _ u.2⟩
end

theorem IsEs.get {h : Heap} : ∀ {es : List Ex} {cs : List Value} {i : Nat} {e : Ex}, IsEs h es cs → es[i]? = some e → IsE h e ((cs.drop (i * 6)).take 6)
  | [], _, i, e, _, he => by simp at he
  | x :: es, cs, 0, e, u, he => by
    unfold IsEs at u
    simp at he
    subst he
    simpa using u.1
  | x :: es, cs, i + 1, e, u, he => by
    unfold IsEs at u
    have := IsEs.get u.2 (i := i) (by simpa using he)
    rw [List.drop_drop] at this
    rw [show (i + 1) * 6 = 6 + i * 6 by omega]
    exact this

theorem LdN_of {h : Heap} {ad : Addr} {b : Blk} {o k : Nat} {vs : List Value} (hs : ad.spot = none) (hb : h ad.block = some b) (hk : vs.length = k) (hv : (b.cells.drop (ad.off + o)).take k = vs) : LdN h (ad.add o) vs := by
  refine ⟨?_, b, ?_, ?_⟩
  · unfold Addr.add; split
    · exact hs
    · rfl
  · rw [show (ad.add o).block = ad.block from by unfold Addr.add; split <;> rfl]
    exact hb
  · rw [show (ad.add o).off = ad.off + o from by unfold Addr.add; split <;> simp_all, hk]
    exact hv

theorem cellsE_len (k : Int) (s : Bool) (A : Option Addr) (n c : Nat) (B : Option Addr) (m d : Nat) (nm : List UInt8) (K : Option Addr) (kn kc : Nat) : (cellsE k s A n c B m d nm K kn kc).length = 6 := rfl

theorem IsE.len {h : Heap} {e : Ex} {vs : List Value} (u : IsE h e vs) : vs.length = 6 := by
  cases e
  unfold IsE at u
  obtain ⟨_, _, _, _, _, _, _, rfl, _⟩ := u
  rfl

/-- What a tree's cells are. -/
theorem IsE.open {h : Heap} {e : Ex} {vs : List Value} (u : IsE h e vs) : ∃ s A c B d K kc, vs = cellsE e.kind s A e.ln c B e.lm d e.name K e.kids.length kc ∧ IsQ h s A e.ln c B e.lm d e.val ∧ e.kids.length ≤ kc ∧
    (e.kids ≠ [] → ∃ (ad : Addr) (b : Blk), K = some ad ∧ ad.spot = none ∧ h ad.block = some b ∧ ad.off + 6 * e.kids.length ≤ b.cells.length ∧ IsEs h e.kids (b.cells.drop ad.off)) := by
  cases e
  unfold IsE at u
  exact u

/-- A kid, as a load finds it. -/
theorem kid_ld {h : Heap} {e : Ex} {K : Option Addr} {i : Nat} {x : Ex} (hk : e.kids ≠ [] → ∃ (ad : Addr) (b : Blk), K = some ad ∧ ad.spot = none ∧ h ad.block = some b ∧ ad.off + 6 * e.kids.length ≤ b.cells.length ∧ IsEs h e.kids (b.cells.drop ad.off)) (hx : e.kids[i]? = some x) :
    ∃ ad vs, K = some ad ∧ LdN h (ad.add (i * 6)) vs ∧ IsE h x vs := by
  have hne : e.kids ≠ [] := fun q => by rw [q] at hx; simp at hx
  obtain ⟨ad, b, e1, sp, hb, hl, hs⟩ := hk hne
  have hi : i < e.kids.length := (List.getElem?_eq_some_iff.1 hx).1
  have u := hs.get hx
  rw [List.drop_drop] at u
  exact ⟨ad, _, e1, LdN_of sp hb (IsE.len u) rfl, u⟩

mutual
/-- Sizes that the program's arithmetic bears. -/
def Szs : Ex → Prop
  | .mk _ _ n m nm kids => n ≤ 64 ∧ m ≤ 64 ∧ nm.length ≤ 1000 ∧ kids.length ≤ 1000000 ∧ SzsL kids
def SzsL : List Ex → Prop
  | [] => True
  | e :: es => Szs e ∧ SzsL es
end

theorem SzsL.get : ∀ {es : List Ex} {i : Nat} {e : Ex}, SzsL es → es[i]? = some e → Szs e
  | [], i, e, _, h => by simp at h
  | x :: es, 0, e, u, h => by unfold SzsL at u; simp at h; subst h; exact u.1
  | x :: es, i + 1, e, u, h => by unfold SzsL at u; exact SzsL.get u.2 (i := i) (by simpa using h)

theorem Szs.open {e : Ex} (u : Szs e) : e.ln ≤ 64 ∧ e.lm ≤ 64 ∧ e.name.length ≤ 1000 ∧ e.kids.length ≤ 1000000 ∧ SzsL e.kids := by
  cases e
  unfold Szs at u
  exact u
end Go.Proofs.YtdpdaphholileaaGreatDoor

/- Made by vcgen.py: verification conditions of functions, each held against the calculator by the kernel. -/
namespace Go.Proofs.YtdpdaphholileaaGreatDoor
open Go Go.Vcg

def formula_Check_vc (e_0 : Int) (e_1 : Bool) (e_2A : Option Addr) (e_2n e_2c : Nat) (e_3A : Option Addr) (e_3n e_3c : Nat) (e_4 : ByteArray) (e_5A : Option Addr) (e_5n e_5c : Nat) (h : Heap) (R : Value → Heap → Prop) : Prop :=
 CallsU Tryz.prog 35 [Value.agg #[Value.int .i64 e_0, Value.bool e_1, Value.slice e_2A e_2n e_2c, Value.slice e_3A e_3n e_3c, Value.string e_4, Value.slice e_5A e_5n e_5c], Value.int .i64 1] h fun v h_1 =>
 ∃ t4 : Int, v = Value.int .i64 t4 ∧
 R (Value.int .i64 t4) h_1

set_option maxRecDepth 100000 in
theorem formula_Check_ok {e_0 : Int} {e_1 : Bool} {e_2A : Option Addr} {e_2n e_2c : Nat} {e_3A : Option Addr} {e_3n e_3c : Nat} {e_4 : ByteArray} {e_5A : Option Addr} {e_5n e_5c : Nat} {h : Heap} {R : Value → Heap → Prop} (hv : formula_Check_vc e_0 e_1 e_2A e_2n e_2c e_3A e_3n e_3c e_4 e_5A e_5n e_5c h R) : CallsU Tryz.prog 13 [Value.agg #[Value.int .i64 e_0, Value.bool e_1, Value.slice e_2A e_2n e_2c, Value.slice e_3A e_3n e_3c, Value.string e_4, Value.slice e_5A e_5n e_5c]] h R :=
  fn_sound Tryz.func13 (by kernel_rfl) (by kernel_rfl) (by kernel_rfl) (fun _ => false) .nil [Value.agg #[Value.int .i64 e_0, Value.bool e_1, Value.slice e_2A e_2n e_2c, Value.slice e_3A e_3n e_3c, Value.string e_4, Value.slice e_5A e_5n e_5c]] h R (by kernel_rfl)
    (Eq.mp (show formula_Check_vc e_0 e_1 e_2A e_2n e_2c e_3A e_3n e_3c e_4 e_5A e_5n e_5c h R = fnV Tryz.prog Tryz.f13 (fun _ => false) .nil [Value.agg #[Value.int .i64 e_0, Value.bool e_1, Value.slice e_2A e_2n e_2c, Value.slice e_3A e_3n e_3c, Value.string e_4, Value.slice e_5A e_5n e_5c]] h R by kernel_rfl) hv)

def formula_Names_vc (e_0 : Int) (e_1 : Bool) (e_2A : Option Addr) (e_2n e_2c : Nat) (e_3A : Option Addr) (e_3n e_3c : Nat) (e_4 : ByteArray) (e_5A : Option Addr) (e_5n e_5c : Nat) (h : Heap) (R : Value → Heap → Prop) : Prop :=
 CallsU Tryz.prog 37 [Value.slice none 0 0, Value.agg #[Value.int .i64 e_0, Value.bool e_1, Value.slice e_2A e_2n e_2c, Value.slice e_3A e_3n e_3c, Value.string e_4, Value.slice e_5A e_5n e_5c]] h fun v h_1 =>
 ∃ t5A : Option Addr, ∃ t5n t5c : Nat, v = Value.slice t5A t5n t5c ∧
 CallsU Tryz.prog 38 [Value.slice t5A t5n t5c] h_1 fun v_1 h_2 =>
 v_1 = Value.tuple #[] ∧
 CallsU Tryz.prog 39 [Value.slice t5A t5n t5c] h_2 fun v_2 h_3 =>
 ∃ t9A : Option Addr, ∃ t9n t9c : Nat, v_2 = Value.slice t9A t9n t9c ∧
 R (Value.slice t9A t9n t9c) h_3

set_option maxRecDepth 100000 in
theorem formula_Names_ok {e_0 : Int} {e_1 : Bool} {e_2A : Option Addr} {e_2n e_2c : Nat} {e_3A : Option Addr} {e_3n e_3c : Nat} {e_4 : ByteArray} {e_5A : Option Addr} {e_5n e_5c : Nat} {h : Heap} {R : Value → Heap → Prop} (hv : formula_Names_vc e_0 e_1 e_2A e_2n e_2c e_3A e_3n e_3c e_4 e_5A e_5n e_5c h R) : CallsU Tryz.prog 16 [Value.agg #[Value.int .i64 e_0, Value.bool e_1, Value.slice e_2A e_2n e_2c, Value.slice e_3A e_3n e_3c, Value.string e_4, Value.slice e_5A e_5n e_5c]] h R :=
  fn_sound Tryz.func16 (by kernel_rfl) (by kernel_rfl) (by kernel_rfl) (fun _ => false) .nil [Value.agg #[Value.int .i64 e_0, Value.bool e_1, Value.slice e_2A e_2n e_2c, Value.slice e_3A e_3n e_3c, Value.string e_4, Value.slice e_5A e_5n e_5c]] h R (by kernel_rfl)
    (Eq.mp (show formula_Names_vc e_0 e_1 e_2A e_2n e_2c e_3A e_3n e_3c e_4 e_5A e_5n e_5c h R = fnV Tryz.prog Tryz.f16 (fun _ => false) .nil [Value.agg #[Value.int .i64 e_0, Value.bool e_1, Value.slice e_2A e_2n e_2c, Value.slice e_3A e_3n e_3c, Value.string e_4, Value.slice e_5A e_5n e_5c]] h R by kernel_rfl) hv)

def formula_Parse_vc (s : ByteArray) (h : Heap) (R : Value → Heap → Prop) : Prop :=
 Br (decide (((s.size : Nat) : Int) > 400))
  (R (Value.tuple #[Value.agg #[Value.int .i64 0, Value.bool false, Value.slice none 0 0, Value.slice none 0 0, Value.string ByteArray.empty, Value.slice none 0 0], Value.int .i64 5]) h)
  (∀ (g : Nat) (h_1 : Heap), h g = none → h_1 = Heap.put h g ⟨[Value.string ByteArray.empty, Value.int .i64 0], 63, (0, 0)⟩ →
 ∃ b : Blk, h_1 (Addr.block (⟨g, 0, none⟩)) = some b ∧ b.fz = (0, 0) ∧ Addr.spot (⟨g, 0, none⟩) = none ∧ Addr.off (⟨g, 0, none⟩) + 2 ≤ b.cells.length ∧
 ∀ h_2 : Heap, h_2 = Heap.put h_1 (Addr.block (⟨g, 0, none⟩)) { b with cells := setSeg b.cells (Addr.off (⟨g, 0, none⟩)) [Value.string s, Value.int .i64 0] } →
 CallsU Tryz.prog 41 [Value.pointer (some (⟨g, 0, none⟩))] h_2 fun v h_3 =>
 ∃ t14_0_0 : Int, ∃ t14_0_1 : Bool, ∃ t14_0_2A : Option Addr, ∃ t14_0_2n t14_0_2c : Nat, ∃ t14_0_3A : Option Addr, ∃ t14_0_3n t14_0_3c : Nat, ∃ t14_0_4 : ByteArray, ∃ t14_0_5A : Option Addr, ∃ t14_0_5n t14_0_5c : Nat, ∃ t14_1 : Int, v = Value.tuple #[Value.agg #[Value.int .i64 t14_0_0, Value.bool t14_0_1, Value.slice t14_0_2A t14_0_2n t14_0_2c, Value.slice t14_0_3A t14_0_3n t14_0_3c, Value.string t14_0_4, Value.slice t14_0_5A t14_0_5n t14_0_5c], Value.int .i64 t14_1] ∧
 ∃ C : Int → Heap → Prop, (∀ (err : Int) (h_4 : Heap), C err h_4 →
 Br ((err : Int) == 0)
  (CallsU Tryz.prog 13 [Value.agg #[Value.int .i64 t14_0_0, Value.bool t14_0_1, Value.slice t14_0_2A t14_0_2n t14_0_2c, Value.slice t14_0_3A t14_0_3n t14_0_3c, Value.string t14_0_4, Value.slice t14_0_5A t14_0_5n t14_0_5c]] h_4 fun v_1 h_5 =>
 ∃ t26 : Int, v_1 = Value.int .i64 t26 ∧
 Br ((t26 : Int) != 0)
  (R (Value.tuple #[Value.agg #[Value.int .i64 0, Value.bool false, Value.slice none 0 0, Value.slice none 0 0, Value.string ByteArray.empty, Value.slice none 0 0], Value.int .i64 t26]) h_5)
  (R (Value.tuple #[Value.agg #[Value.int .i64 t14_0_0, Value.bool t14_0_1, Value.slice t14_0_2A t14_0_2n t14_0_2c, Value.slice t14_0_3A t14_0_3n t14_0_3c, Value.string t14_0_4, Value.slice t14_0_5A t14_0_5n t14_0_5c], Value.int .i64 0]) h_5))
  (Br ((err : Int) != 0)
  (R (Value.tuple #[Value.agg #[Value.int .i64 0, Value.bool false, Value.slice none 0 0, Value.slice none 0 0, Value.string ByteArray.empty, Value.slice none 0 0], Value.int .i64 err]) h_4)
  (R (Value.tuple #[Value.agg #[Value.int .i64 t14_0_0, Value.bool t14_0_1, Value.slice t14_0_2A t14_0_2n t14_0_2c, Value.slice t14_0_3A t14_0_3n t14_0_3c, Value.string t14_0_4, Value.slice t14_0_5A t14_0_5n t14_0_5c], Value.int .i64 0]) h_4))) ∧
 Br ((t14_1 : Int) == 0)
  (CallsU Tryz.prog 42 [Value.pointer (some (⟨g, 0, none⟩))] h_3 fun v_2 h_6 =>
 ∃ t20 : ByteArray, v_2 = Value.string t20 ∧
 Br (!(t20.toList == (⟨#[]⟩ : ByteArray).toList))
  (C 2 h_6)
  (C t14_1 h_6))
  (C t14_1 h_3))

set_option maxRecDepth 100000 in
theorem formula_Parse_ok {s : ByteArray} {h : Heap} {R : Value → Heap → Prop} (hv : formula_Parse_vc s h R) : CallsU Tryz.prog 18 [Value.string s] h R :=
  fn_sound Tryz.func18 (by kernel_rfl) (by kernel_rfl) (by kernel_rfl) (fun t => Nat.beq t 4) (.two .nil (.two .nil (.two .nil (.two .nil (.cut ⟨[(6, Sh.int .i64)], []⟩ .nil .nil))))) [Value.string s] h R (by kernel_rfl)
    (Eq.mp (show formula_Parse_vc s h R = fnV Tryz.prog Tryz.f18 (fun t => Nat.beq t 4) (.two .nil (.two .nil (.two .nil (.two .nil (.cut ⟨[(6, Sh.int .i64)], []⟩ .nil .nil))))) [Value.string s] h R by kernel_rfl) hv)

def formula_Print_vc (e_0 : Int) (e_1 : Bool) (e_2A : Option Addr) (e_2n e_2c : Nat) (e_3A : Option Addr) (e_3n e_3c : Nat) (e_4 : ByteArray) (e_5A : Option Addr) (e_5n e_5c : Nat) (h : Heap) (R : Value → Heap → Prop) : Prop :=
 CallsU Tryz.prog 13 [Value.agg #[Value.int .i64 e_0, Value.bool e_1, Value.slice e_2A e_2n e_2c, Value.slice e_3A e_3n e_3c, Value.string e_4, Value.slice e_5A e_5n e_5c]] h fun v h_1 =>
 ∃ t7 : Int, v = Value.int .i64 t7 ∧
 Br ((t7 : Int) != 0)
  (R (Value.tuple #[Value.string (⟨#[]⟩ : ByteArray), Value.int .i64 t7]) h_1)
  (CallsU Tryz.prog 49 [Value.agg #[Value.int .i64 e_0, Value.bool e_1, Value.slice e_2A e_2n e_2c, Value.slice e_3A e_3n e_3c, Value.string e_4, Value.slice e_5A e_5n e_5c]] h_1 fun v_1 h_2 =>
 ∃ t12 : ByteArray, v_1 = Value.string t12 ∧
 Br (decide (((t12.size : Nat) : Int) > 400))
  (R (Value.tuple #[Value.string (⟨#[]⟩ : ByteArray), Value.int .i64 5]) h_2)
  (R (Value.tuple #[Value.string t12, Value.int .i64 0]) h_2))

set_option maxRecDepth 100000 in
theorem formula_Print_ok {e_0 : Int} {e_1 : Bool} {e_2A : Option Addr} {e_2n e_2c : Nat} {e_3A : Option Addr} {e_3n e_3c : Nat} {e_4 : ByteArray} {e_5A : Option Addr} {e_5n e_5c : Nat} {h : Heap} {R : Value → Heap → Prop} (hv : formula_Print_vc e_0 e_1 e_2A e_2n e_2c e_3A e_3n e_3c e_4 e_5A e_5n e_5c h R) : CallsU Tryz.prog 22 [Value.agg #[Value.int .i64 e_0, Value.bool e_1, Value.slice e_2A e_2n e_2c, Value.slice e_3A e_3n e_3c, Value.string e_4, Value.slice e_5A e_5n e_5c]] h R :=
  fn_sound Tryz.func22 (by kernel_rfl) (by kernel_rfl) (by kernel_rfl) (fun _ => false) .nil [Value.agg #[Value.int .i64 e_0, Value.bool e_1, Value.slice e_2A e_2n e_2c, Value.slice e_3A e_3n e_3c, Value.string e_4, Value.slice e_5A e_5n e_5c]] h R (by kernel_rfl)
    (Eq.mp (show formula_Print_vc e_0 e_1 e_2A e_2n e_2c e_3A e_3n e_3c e_4 e_5A e_5n e_5c h R = fnV Tryz.prog Tryz.f22 (fun _ => false) .nil [Value.agg #[Value.int .i64 e_0, Value.bool e_1, Value.slice e_2A e_2n e_2c, Value.slice e_3A e_3n e_3c, Value.string e_4, Value.slice e_5A e_5n e_5c]] h R by kernel_rfl) hv)

def formula_Eval_vc (e_0 : Int) (e_1 : Bool) (e_2A : Option Addr) (e_2n e_2c : Nat) (e_3A : Option Addr) (e_3n e_3c : Nat) (e_4 : ByteArray) (e_5A : Option Addr) (e_5n e_5c : Nat) (envA : Option Addr) (envn envc : Nat) (h : Heap) (R : Value → Heap → Prop) : Prop :=
 CallsU Tryz.prog 13 [Value.agg #[Value.int .i64 e_0, Value.bool e_1, Value.slice e_2A e_2n e_2c, Value.slice e_3A e_3n e_3c, Value.string e_4, Value.slice e_5A e_5n e_5c]] h fun v h_1 =>
 ∃ t8 : Int, v = Value.int .i64 t8 ∧
 Br ((t8 : Int) != 0)
  (R (Value.tuple #[Value.agg #[Value.bool false, Value.slice none 0 0, Value.slice none 0 0], Value.int .i64 t8]) h_1)
  (CallsU Tryz.prog 51 [Value.agg #[Value.int .i64 e_0, Value.bool e_1, Value.slice e_2A e_2n e_2c, Value.slice e_3A e_3n e_3c, Value.string e_4, Value.slice e_5A e_5n e_5c], Value.slice envA envn envc] h_1 fun v_1 h_2 =>
 ∃ t15_0_0 : Bool, ∃ t15_0_1A : Option Addr, ∃ t15_0_1n t15_0_1c : Nat, ∃ t15_0_2A : Option Addr, ∃ t15_0_2n t15_0_2c : Nat, ∃ t15_1 : Int, v_1 = Value.tuple #[Value.agg #[Value.bool t15_0_0, Value.slice t15_0_1A t15_0_1n t15_0_1c, Value.slice t15_0_2A t15_0_2n t15_0_2c], Value.int .i64 t15_1] ∧
 R (Value.tuple #[Value.agg #[Value.bool t15_0_0, Value.slice t15_0_1A t15_0_1n t15_0_1c, Value.slice t15_0_2A t15_0_2n t15_0_2c], Value.int .i64 t15_1]) h_2)

set_option maxRecDepth 100000 in
theorem formula_Eval_ok {e_0 : Int} {e_1 : Bool} {e_2A : Option Addr} {e_2n e_2c : Nat} {e_3A : Option Addr} {e_3n e_3c : Nat} {e_4 : ByteArray} {e_5A : Option Addr} {e_5n e_5c : Nat} {envA : Option Addr} {envn envc : Nat} {h : Heap} {R : Value → Heap → Prop} (hv : formula_Eval_vc e_0 e_1 e_2A e_2n e_2c e_3A e_3n e_3c e_4 e_5A e_5n e_5c envA envn envc h R) : CallsU Tryz.prog 25 [Value.agg #[Value.int .i64 e_0, Value.bool e_1, Value.slice e_2A e_2n e_2c, Value.slice e_3A e_3n e_3c, Value.string e_4, Value.slice e_5A e_5n e_5c], Value.slice envA envn envc] h R :=
  fn_sound Tryz.func25 (by kernel_rfl) (by kernel_rfl) (by kernel_rfl) (fun _ => false) .nil [Value.agg #[Value.int .i64 e_0, Value.bool e_1, Value.slice e_2A e_2n e_2c, Value.slice e_3A e_3n e_3c, Value.string e_4, Value.slice e_5A e_5n e_5c], Value.slice envA envn envc] h R (by kernel_rfl)
    (Eq.mp (show formula_Eval_vc e_0 e_1 e_2A e_2n e_2c e_3A e_3n e_3c e_4 e_5A e_5n e_5c envA envn envc h R = fnV Tryz.prog Tryz.f25 (fun _ => false) .nil [Value.agg #[Value.int .i64 e_0, Value.bool e_1, Value.slice e_2A e_2n e_2c, Value.slice e_3A e_3n e_3c, Value.string e_4, Value.slice e_5A e_5n e_5c], Value.slice envA envn envc] h R by kernel_rfl) hv)

def formula_check_vc (e_0 : Int) (e_1 : Bool) (e_2A : Option Addr) (e_2n e_2c : Nat) (e_3A : Option Addr) (e_3n e_3c : Nat) (e_4 : ByteArray) (e_5A : Option Addr) (e_5n e_5c : Nat) (level : Int) (h : Heap) (R : Value → Heap → Prop) : Prop :=
 Br (decide (level > 12))
  (R (Value.int .i64 5) h)
  (CallsU Tryz.prog 64 [Value.agg #[Value.int .i64 e_0, Value.bool e_1, Value.slice e_2A e_2n e_2c, Value.slice e_3A e_3n e_3c, Value.string e_4, Value.slice e_5A e_5n e_5c]] h fun v h_1 =>
 ∃ t11 : Bool, v = Value.bool t11 ∧
 Br (!t11)
  (R (Value.int .i64 1) h_1)
  (∃ J : Nat → Int → Heap → Prop, (∃ m, J m 0 h_1) ∧
 ∀ (m : Nat) (t16 : Int) (h_2 : Heap), J m t16 h_2 →
 Br (decide (t16 < ((e_5n : Nat) : Int)))
  (∃ ad : Addr, e_5A = some ad ∧ 0 ≤ t16 ∧ t16 < ((e_5n : Nat) : Int) ∧
 ∃ t19_0 : Int, ∃ t19_1 : Bool, ∃ t19_2A : Option Addr, ∃ t19_2n t19_2c : Nat, ∃ t19_3A : Option Addr, ∃ t19_3n t19_3c : Nat, ∃ t19_4 : ByteArray, ∃ t19_5A : Option Addr, ∃ t19_5n t19_5c : Nat, LdN h_2 (Addr.add ad (Int.toNat t16 * 6)) [Value.int .i64 t19_0, Value.bool t19_1, Value.slice t19_2A t19_2n t19_2c, Value.slice t19_3A t19_3n t19_3c, Value.string t19_4, Value.slice t19_5A t19_5n t19_5c] ∧
 ∀ t22 : Int, t22 = IntKind.i64.wrap (level + 1) →
 CallsU Tryz.prog 35 [Value.agg #[Value.int .i64 t19_0, Value.bool t19_1, Value.slice t19_2A t19_2n t19_2c, Value.slice t19_3A t19_3n t19_3c, Value.string t19_4, Value.slice t19_5A t19_5n t19_5c], Value.int .i64 t22] h_2 fun v_1 h_3 =>
 ∃ t23 : Int, v_1 = Value.int .i64 t23 ∧
 Br ((t23 : Int) != 0)
  (R (Value.int .i64 t23) h_3)
  (∀ t27 : Int, t27 = IntKind.i64.wrap (t16 + 1) →
 ∃ m_1, m_1 < m ∧ J m_1 t27 h_3))
  (R (Value.int .i64 0) h_2)))

set_option maxRecDepth 100000 in
theorem formula_check_ok {e_0 : Int} {e_1 : Bool} {e_2A : Option Addr} {e_2n e_2c : Nat} {e_3A : Option Addr} {e_3n e_3c : Nat} {e_4 : ByteArray} {e_5A : Option Addr} {e_5n e_5c : Nat} {level : Int} {h : Heap} {R : Value → Heap → Prop} (hv : formula_check_vc e_0 e_1 e_2A e_2n e_2c e_3A e_3n e_3c e_4 e_5A e_5n e_5c level h R) : CallsU Tryz.prog 35 [Value.agg #[Value.int .i64 e_0, Value.bool e_1, Value.slice e_2A e_2n e_2c, Value.slice e_3A e_3n e_3c, Value.string e_4, Value.slice e_5A e_5n e_5c], Value.int .i64 level] h R :=
  fn_sound Tryz.func35 (by kernel_rfl) (by kernel_rfl) (by kernel_rfl) (fun _ => false) (.two .nil (.two .nil (.two .nil (.two (.two .nil (.one (.loop ⟨[(16, Sh.int .i64)], []⟩ .nil))) .nil)))) [Value.agg #[Value.int .i64 e_0, Value.bool e_1, Value.slice e_2A e_2n e_2c, Value.slice e_3A e_3n e_3c, Value.string e_4, Value.slice e_5A e_5n e_5c], Value.int .i64 level] h R (by kernel_rfl)
    (Eq.mp (show formula_check_vc e_0 e_1 e_2A e_2n e_2c e_3A e_3n e_3c e_4 e_5A e_5n e_5c level h R = fnV Tryz.prog Tryz.f35 (fun _ => false) (.two .nil (.two .nil (.two .nil (.two (.two .nil (.one (.loop ⟨[(16, Sh.int .i64)], []⟩ .nil))) .nil)))) [Value.agg #[Value.int .i64 e_0, Value.bool e_1, Value.slice e_2A e_2n e_2c, Value.slice e_3A e_3n e_3c, Value.string e_4, Value.slice e_5A e_5n e_5c], Value.int .i64 level] h R by kernel_rfl) hv)

def formula_collect_vc (listA : Option Addr) (listn listc : Nat) (e_0 : Int) (_e_1 : Bool) (_e_2A : Option Addr) (_e_2n _e_2c : Nat) (_e_3A : Option Addr) (_e_3n _e_3c : Nat) (e_4 : ByteArray) (e_5A : Option Addr) (e_5n _e_5c : Nat) (h : Heap) (R : Value → Heap → Prop) : Prop :=
 ∃ C : Option Addr → Nat → Nat → Heap → Prop, (∀ (listA_1 : Option Addr) (listn_1 listc_1 : Nat) (h_1 : Heap), C listA_1 listn_1 listc_1 h_1 →
 ∃ J : Nat → Option Addr → Nat → Nat → Int → Heap → Prop, (∃ m, J m listA_1 listn_1 listc_1 0 h_1) ∧
 ∀ (m : Nat) (listA_2 : Option Addr) (listn_2 listc_2 : Nat) (t18 : Int) (h_2 : Heap), J m listA_2 listn_2 listc_2 t18 h_2 →
 Br (decide (t18 < ((e_5n : Nat) : Int)))
  (∃ ad : Addr, e_5A = some ad ∧ 0 ≤ t18 ∧ t18 < ((e_5n : Nat) : Int) ∧
 ∃ t21_0 : Int, ∃ t21_1 : Bool, ∃ t21_2A : Option Addr, ∃ t21_2n t21_2c : Nat, ∃ t21_3A : Option Addr, ∃ t21_3n t21_3c : Nat, ∃ t21_4 : ByteArray, ∃ t21_5A : Option Addr, ∃ t21_5n t21_5c : Nat, LdN h_2 (Addr.add ad (Int.toNat t18 * 6)) [Value.int .i64 t21_0, Value.bool t21_1, Value.slice t21_2A t21_2n t21_2c, Value.slice t21_3A t21_3n t21_3c, Value.string t21_4, Value.slice t21_5A t21_5n t21_5c] ∧
 CallsU Tryz.prog 37 [Value.slice listA_2 listn_2 listc_2, Value.agg #[Value.int .i64 t21_0, Value.bool t21_1, Value.slice t21_2A t21_2n t21_2c, Value.slice t21_3A t21_3n t21_3c, Value.string t21_4, Value.slice t21_5A t21_5n t21_5c]] h_2 fun v h_3 =>
 ∃ t24A : Option Addr, ∃ t24n t24c : Nat, v = Value.slice t24A t24n t24c ∧
 ∀ t25 : Int, t25 = IntKind.i64.wrap (t18 + 1) →
 ∃ m_1, m_1 < m ∧ J m_1 t24A t24n t24c t25 h_3)
  (R (Value.slice listA_2 listn_2 listc_2) h_2)) ∧
 Br ((e_0 : Int) == 2)
  (∀ (g : Nat) (h_4 : Heap), h g = none → h_4 = Heap.put h g ⟨[Value.string e_4], 9, (0, 0)⟩ →
 ∃ xs : List Value, RdS h_4 (some ⟨g, 0, none⟩) (1 * 1) xs ∧ (∀ x ∈ xs, Go.Vcg.one x = true) ∧
 (listn + 1 ≤ listc → ∃ (ad_1 : Addr) (b : Blk), listA = some ad_1 ∧ ad_1.spot = none ∧ h_4 ad_1.block = some b ∧ b.fz = (0, 0) ∧ ad_1.off + listn * 1 + 1 * 1 ≤ b.cells.length ∧
 ∀ h_6 : Heap, h_6 = Heap.put h_4 ad_1.block { b with cells := setSeg b.cells (ad_1.off + listn * 1) xs } →
 C listA (listn + 1) listc h_6) ∧
 (listc < listn + 1 → ∃ olds : List Value, RdS h_4 listA (listn * 1) olds ∧ (listn + 1) * 16 ≤ 140737488355328 ∧
 ∀ (g_1 cap : Nat) (h_7 : Heap), h_4 g_1 = none → listn + 1 ≤ cap → h_7 = Heap.put h_4 g_1 ⟨olds ++ xs ++ repV [Value.string ByteArray.empty] (cap - (listn + 1)), 9, (0, 0)⟩ →
 C (some ⟨g_1, 0, none⟩) (listn + 1) cap h_7))
  (C listA listn listc h)

set_option maxRecDepth 100000 in
theorem formula_collect_ok {listA : Option Addr} {listn listc : Nat} {e_0 : Int} {e_1 : Bool} {e_2A : Option Addr} {e_2n e_2c : Nat} {e_3A : Option Addr} {e_3n e_3c : Nat} {e_4 : ByteArray} {e_5A : Option Addr} {e_5n e_5c : Nat} {h : Heap} {R : Value → Heap → Prop} (hv : formula_collect_vc listA listn listc e_0 e_1 e_2A e_2n e_2c e_3A e_3n e_3c e_4 e_5A e_5n e_5c h R) : CallsU Tryz.prog 37 [Value.slice listA listn listc, Value.agg #[Value.int .i64 e_0, Value.bool e_1, Value.slice e_2A e_2n e_2c, Value.slice e_3A e_3n e_3c, Value.string e_4, Value.slice e_5A e_5n e_5c]] h R :=
  fn_sound Tryz.func37 (by kernel_rfl) (by kernel_rfl) (by kernel_rfl) (fun _ => false) (.two .nil (.cut ⟨[(0, Sh.slice)], []⟩ .nil (.two (.two .nil (.one (.loop ⟨[(0, Sh.slice), (18, Sh.int .i64)], []⟩ .nil))) .nil))) [Value.slice listA listn listc, Value.agg #[Value.int .i64 e_0, Value.bool e_1, Value.slice e_2A e_2n e_2c, Value.slice e_3A e_3n e_3c, Value.string e_4, Value.slice e_5A e_5n e_5c]] h R (by kernel_rfl)
    (Eq.mp (show formula_collect_vc listA listn listc e_0 e_1 e_2A e_2n e_2c e_3A e_3n e_3c e_4 e_5A e_5n e_5c h R = fnV Tryz.prog Tryz.f37 (fun _ => false) (.two .nil (.cut ⟨[(0, Sh.slice)], []⟩ .nil (.two (.two .nil (.one (.loop ⟨[(0, Sh.slice), (18, Sh.int .i64)], []⟩ .nil))) .nil))) [Value.slice listA listn listc, Value.agg #[Value.int .i64 e_0, Value.bool e_1, Value.slice e_2A e_2n e_2c, Value.slice e_3A e_3n e_3c, Value.string e_4, Value.slice e_5A e_5n e_5c]] h R by kernel_rfl) hv)

def garment_formula_parser_sum_vc (p : Addr) (h : Heap) (R : Value → Heap → Prop) : Prop :=
 CallsU Tryz.prog 69 [Value.pointer (some p)] h fun v h_1 =>
 ∃ t10_0_0 : Int, ∃ t10_0_1 : Bool, ∃ t10_0_2A : Option Addr, ∃ t10_0_2n t10_0_2c : Nat, ∃ t10_0_3A : Option Addr, ∃ t10_0_3n t10_0_3c : Nat, ∃ t10_0_4 : ByteArray, ∃ t10_0_5A : Option Addr, ∃ t10_0_5n t10_0_5c : Nat, ∃ t10_1 : Int, v = Value.tuple #[Value.agg #[Value.int .i64 t10_0_0, Value.bool t10_0_1, Value.slice t10_0_2A t10_0_2n t10_0_2c, Value.slice t10_0_3A t10_0_3n t10_0_3c, Value.string t10_0_4, Value.slice t10_0_5A t10_0_5n t10_0_5c], Value.int .i64 t10_1] ∧
 ∃ J : Nat → Int → Int → Bool → Option Addr → Nat → Nat → Option Addr → Nat → Nat → ByteArray → Option Addr → Nat → Nat → Int → Bool → Option Addr → Nat → Nat → Option Addr → Nat → Nat → ByteArray → Option Addr → Nat → Nat → Heap → Prop, (∃ m, J m t10_1 0 false none 0 0 none 0 0 ByteArray.empty none 0 0 t10_0_0 t10_0_1 t10_0_2A t10_0_2n t10_0_2c t10_0_3A t10_0_3n t10_0_3c t10_0_4 t10_0_5A t10_0_5n t10_0_5c h_1) ∧
 ∀ (m : Nat) (err : Int) (t2_0 : Int) (t2_1 : Bool) (t2_2A : Option Addr) (t2_2n t2_2c : Nat) (t2_3A : Option Addr) (t2_3n t2_3c : Nat) (t2_4 : ByteArray) (t2_5A : Option Addr) (t2_5n t2_5c : Nat) (left_0 : Int) (left_1 : Bool) (left_2A : Option Addr) (left_2n left_2c : Nat) (left_3A : Option Addr) (left_3n left_3c : Nat) (left_4 : ByteArray) (left_5A : Option Addr) (left_5n left_5c : Nat) (h_2 : Heap), J m err t2_0 t2_1 t2_2A t2_2n t2_2c t2_3A t2_3n t2_3c t2_4 t2_5A t2_5n t2_5c left_0 left_1 left_2A left_2n left_2c left_3A left_3n left_3c left_4 left_5A left_5n left_5c h_2 →
 Br ((err : Int) == 0)
  (∃ C : Int → Int → Bool → Option Addr → Nat → Nat → Option Addr → Nat → Nat → ByteArray → Option Addr → Nat → Nat → Heap → Prop, (∀ (kind : Int) (t2_0_1 : Int) (t2_1_1 : Bool) (t2_2A_1 : Option Addr) (t2_2n_1 t2_2c_1 : Nat) (t2_3A_1 : Option Addr) (t2_3n_1 t2_3c_1 : Nat) (t2_4_1 : ByteArray) (t2_5A_1 : Option Addr) (t2_5n_1 t2_5c_1 : Nat) (h_3 : Heap), C kind t2_0_1 t2_1_1 t2_2A_1 t2_2n_1 t2_2c_1 t2_3A_1 t2_3n_1 t2_3c_1 t2_4_1 t2_5A_1 t2_5n_1 t2_5c_1 h_3 →
 CallsU Tryz.prog 70 [Value.pointer (some p)] h_3 fun v_1 h_4 =>
 ∃ t23 : ByteArray, v_1 = Value.string t23 ∧
 CallsU Tryz.prog 69 [Value.pointer (some p)] h_4 fun v_2 h_5 =>
 ∃ t26_0_0 : Int, ∃ t26_0_1 : Bool, ∃ t26_0_2A : Option Addr, ∃ t26_0_2n t26_0_2c : Nat, ∃ t26_0_3A : Option Addr, ∃ t26_0_3n t26_0_3c : Nat, ∃ t26_0_4 : ByteArray, ∃ t26_0_5A : Option Addr, ∃ t26_0_5n t26_0_5c : Nat, ∃ t26_1 : Int, v_2 = Value.tuple #[Value.agg #[Value.int .i64 t26_0_0, Value.bool t26_0_1, Value.slice t26_0_2A t26_0_2n t26_0_2c, Value.slice t26_0_3A t26_0_3n t26_0_3c, Value.string t26_0_4, Value.slice t26_0_5A t26_0_5n t26_0_5c], Value.int .i64 t26_1] ∧
 ∀ (g : Nat) (h_6 : Heap), h_5 g = none → h_6 = Heap.put h_5 g ⟨[Value.int .i64 left_0, Value.bool left_1, Value.slice left_2A left_2n left_2c, Value.slice left_3A left_3n left_3c, Value.string left_4, Value.slice left_5A left_5n left_5c, Value.int .i64 t26_0_0, Value.bool t26_0_1, Value.slice t26_0_2A t26_0_2n t26_0_2c, Value.slice t26_0_3A t26_0_3n t26_0_3c, Value.string t26_0_4, Value.slice t26_0_5A t26_0_5n t26_0_5c], 30, (0, 0)⟩ →
 ∃ m_1, m_1 < m ∧ J m_1 t26_1 t2_0_1 t2_1_1 t2_2A_1 t2_2n_1 t2_2c_1 t2_3A_1 t2_3n_1 t2_3c_1 t2_4_1 t2_5A_1 t2_5n_1 t2_5c_1 kind false none 0 0 none 0 0 ByteArray.empty (some ⟨g, 0, none⟩) 2 2 h_6) ∧
 CallsU Tryz.prog 42 [Value.pointer (some p)] h_2 fun v_3 h_7 =>
 ∃ t16 : ByteArray, v_3 = Value.string t16 ∧
 Br (t16.toList == (⟨#[43]⟩ : ByteArray).toList)
  (C 3 t2_0 t2_1 t2_2A t2_2n t2_2c t2_3A t2_3n t2_3c t2_4 t2_5A t2_5n t2_5c h_7)
  (Br (t16.toList == (⟨#[45]⟩ : ByteArray).toList)
  (C 4 t2_0 t2_1 t2_2A t2_2n t2_2c t2_3A t2_3n t2_3c t2_4 t2_5A t2_5n t2_5c h_7)
  (R (Value.tuple #[Value.agg #[Value.int .i64 left_0, Value.bool left_1, Value.slice left_2A left_2n left_2c, Value.slice left_3A left_3n left_3c, Value.string left_4, Value.slice left_5A left_5n left_5c], Value.int .i64 0]) h_7)))
  (R (Value.tuple #[Value.agg #[Value.int .i64 0, Value.bool false, Value.slice none 0 0, Value.slice none 0 0, Value.string ByteArray.empty, Value.slice none 0 0], Value.int .i64 err]) h_2)

set_option maxRecDepth 100000 in
theorem garment_formula_parser_sum_ok {p : Addr} {h : Heap} {R : Value → Heap → Prop} (hv : garment_formula_parser_sum_vc p h R) : CallsU Tryz.prog 41 [Value.pointer (some p)] h R :=
  fn_sound Tryz.func41 (by kernel_rfl) (by kernel_rfl) (by kernel_rfl) (fun _ => false) (.two .nil (.two .nil (.two (.one (.loop ⟨[(5, Sh.int .i64)], [(0, [Sh.int .i64, Sh.bool, Sh.slice, Sh.slice, Sh.str, Sh.slice]), (1, [Sh.int .i64, Sh.bool, Sh.slice, Sh.slice, Sh.str, Sh.slice])]⟩ (.two .nil (.one (.two .nil (.cut ⟨[(6, Sh.int .i64)], [(0, [Sh.int .i64, Sh.bool, Sh.slice, Sh.slice, Sh.str, Sh.slice])]⟩ .nil .nil)))))) .nil))) [Value.pointer (some p)] h R (by kernel_rfl)
    (Eq.mp (show garment_formula_parser_sum_vc p h R = fnV Tryz.prog Tryz.f41 (fun _ => false) (.two .nil (.two .nil (.two (.one (.loop ⟨[(5, Sh.int .i64)], [(0, [Sh.int .i64, Sh.bool, Sh.slice, Sh.slice, Sh.str, Sh.slice]), (1, [Sh.int .i64, Sh.bool, Sh.slice, Sh.slice, Sh.str, Sh.slice])]⟩ (.two .nil (.one (.two .nil (.cut ⟨[(6, Sh.int .i64)], [(0, [Sh.int .i64, Sh.bool, Sh.slice, Sh.slice, Sh.str, Sh.slice])]⟩ .nil .nil)))))) .nil))) [Value.pointer (some p)] h R by kernel_rfl) hv)

def garment_formula_parser_next_vc (p : Addr) (h : Heap) (R : Value → Heap → Prop) : Prop :=
 ∃ C : Heap → Prop, (∀  (h_1 : Heap), C h_1 →
 ∃ t36 : Int, LdN h_1 (Addr.add p 1) [Value.int .i64 t36] ∧
 ∃ C_1 : Int → Heap → Prop, (∀ (endv : Int) (h_2 : Heap), C_1 endv h_2 →
 ∃ C_2 : Int → Heap → Prop, (∀ (endv_1 : Int) (h_3 : Heap), C_2 endv_1 h_3 →
 ∃ t76 : ByteArray, LdN h_3 (Addr.add p 0) [Value.string t76] ∧
 ∃ t80 : Int, LdN h_3 (Addr.add p 1) [Value.int .i64 t80] ∧
 ((0 : Nat) : Int) ≤ endv_1 ∧ endv_1 ≤ ((t76.size : Nat) : Int) ∧
 ((0 : Nat) : Int) ≤ t80 ∧ t80 ≤ (((Int.toNat endv_1) : Nat) : Int) ∧
 R (Value.string (ByteArray.extract t76 (Int.toNat t80) (Int.toNat endv_1))) h_3) ∧
 ∃ t60 : Int, LdN h_2 (Addr.add p 1) [Value.int .i64 t60] ∧
 Br ((endv : Int) == t60)
  (∃ t67 : ByteArray, LdN h_2 (Addr.add p 0) [Value.string t67] ∧
 Br (decide (endv < ((t67.size : Nat) : Int)))
  (∀ t72 : Int, t72 = IntKind.i64.wrap (endv + 1) →
 C_2 t72 h_2)
  (C_2 endv h_2))
  (C_2 endv h_2)) ∧
 ∃ J : Nat → Int → Heap → Prop, (∃ m, J m t36 h_1) ∧
 ∀ (m : Nat) (endv_2 : Int) (h_4 : Heap), J m endv_2 h_4 →
 ∃ t41 : ByteArray, LdN h_4 (Addr.add p 0) [Value.string t41] ∧
 Br (decide (endv_2 < ((t41.size : Nat) : Int)))
  (∃ t48 : ByteArray, LdN h_4 (Addr.add p 0) [Value.string t48] ∧
 ∃ c : UInt8, 0 ≤ endv_2 ∧ t48[(Int.toNat endv_2 : Nat)]? = some c ∧
 CallsU Tryz.prog 71 [Value.string (⟨#[43, 45, 42, 47, 40, 41, 44, 32]⟩ : ByteArray), Value.int .u8 (c.toNat : Int)] h_4 fun v h_5 =>
 ∃ t51 : Int, v = Value.int .i64 t51 ∧
 Br (decide (t51 < 0))
  (∀ t55 : Int, t55 = IntKind.i64.wrap (endv_2 + 1) →
 ∃ m_1, m_1 < m ∧ J m_1 t55 h_5)
  (C_1 endv_2 h_5))
  (C_1 endv_2 h_4)) ∧
 ∃ J_1 : Nat → Heap → Prop, (∃ m_2, J_1 m_2 h) ∧
 ∀ (m_2 : Nat)  (h_6 : Heap), J_1 m_2 h_6 →
 ∃ t7 : Int, LdN h_6 (Addr.add p 1) [Value.int .i64 t7] ∧
 ∃ t11 : ByteArray, LdN h_6 (Addr.add p 0) [Value.string t11] ∧
 Br (decide (t7 < ((t11.size : Nat) : Int)))
  (∃ t18 : ByteArray, LdN h_6 (Addr.add p 0) [Value.string t18] ∧
 ∃ t22 : Int, LdN h_6 (Addr.add p 1) [Value.int .i64 t22] ∧
 ∃ c_1 : UInt8, 0 ≤ t22 ∧ t18[(Int.toNat t22 : Nat)]? = some c_1 ∧
 Br (((c_1.toNat : Int) : Int) == 32)
  (∃ t29 : Int, LdN h_6 (Addr.add p 1) [Value.int .i64 t29] ∧
 ∀ t30 : Int, t30 = IntKind.i64.wrap (t29 + 1) →
 ∃ b : Blk, h_6 (Addr.block (Addr.add p 1)) = some b ∧ b.fz = (0, 0) ∧ Addr.spot (Addr.add p 1) = none ∧ Addr.off (Addr.add p 1) + 1 ≤ b.cells.length ∧
 ∀ h_7 : Heap, h_7 = Heap.put h_6 (Addr.block (Addr.add p 1)) { b with cells := setSeg b.cells (Addr.off (Addr.add p 1)) [Value.int .i64 t30] } →
 ∃ m_3, m_3 < m_2 ∧ J_1 m_3 h_7)
  (C h_6))
  (C h_6)

set_option maxRecDepth 100000 in
theorem garment_formula_parser_next_ok {p : Addr} {h : Heap} {R : Value → Heap → Prop} (hv : garment_formula_parser_next_vc p h R) : CallsU Tryz.prog 42 [Value.pointer (some p)] h R :=
  fn_sound Tryz.func42 (by kernel_rfl) (by kernel_rfl) (by kernel_rfl) (fun _ => false) (.two .nil (.cut ⟨[], []⟩ (.one (.loop ⟨[], []⟩ (.two (.two (.ord [0, 1, 2, 3, 4, 5, 6, 7, 8, 9, 10, 11, 12, 13, 14, 15, 16, 17, 18, 19, 20, 21]) .nil) .nil))) (.two .nil (.cut ⟨[(3, Sh.int .i64)], []⟩ (.one (.loop ⟨[(3, Sh.int .i64)], []⟩ .nil)) (.cut ⟨[(3, Sh.int .i64)], []⟩ .nil (.two (.ord [0, 1, 2, 3, 4, 5, 6, 7, 8, 9, 10]) .nil)))))) [Value.pointer (some p)] h R (by kernel_rfl)
    (Eq.mp (show garment_formula_parser_next_vc p h R = fnV Tryz.prog Tryz.f42 (fun _ => false) (.two .nil (.cut ⟨[], []⟩ (.one (.loop ⟨[], []⟩ (.two (.two (.ord [0, 1, 2, 3, 4, 5, 6, 7, 8, 9, 10, 11, 12, 13, 14, 15, 16, 17, 18, 19, 20, 21]) .nil) .nil))) (.two .nil (.cut ⟨[(3, Sh.int .i64)], []⟩ (.one (.loop ⟨[(3, Sh.int .i64)], []⟩ .nil)) (.cut ⟨[(3, Sh.int .i64)], []⟩ .nil (.two (.ord [0, 1, 2, 3, 4, 5, 6, 7, 8, 9, 10]) .nil)))))) [Value.pointer (some p)] h R by kernel_rfl) hv)

set_option maxRecDepth 100000 in
def formula_text_vc (e_0 : Int) (e_1 : Bool) (e_2A : Option Addr) (e_2n e_2c : Nat) (e_3A : Option Addr) (e_3n e_3c : Nat) (e_4 : ByteArray) (e_5A : Option Addr) (e_5n _e_5c : Nat) (h : Heap) (R : Value → Heap → Prop) : Prop :=
 Br ((e_0 : Int) == 1)
  (CallsU Tryz.prog 80 [Value.agg #[Value.bool e_1, Value.slice e_2A e_2n e_2c, Value.slice e_3A e_3n e_3c]] h fun v h_1 =>
 ∃ t13 : ByteArray, v = Value.string t13 ∧
 R (Value.string t13) h_1)
  (Br ((e_0 : Int) == 2)
  (R (Value.string e_4) h)
  (Br ((e_0 : Int) == 3)
  (∃ ad : Addr, e_5A = some ad ∧ 0 ≤ (0 : Int) ∧ (0 : Int) < ((e_5n : Nat) : Int) ∧
 ∃ t23_0 : Int, ∃ t23_1 : Bool, ∃ t23_2A : Option Addr, ∃ t23_2n t23_2c : Nat, ∃ t23_3A : Option Addr, ∃ t23_3n t23_3c : Nat, ∃ t23_4 : ByteArray, ∃ t23_5A : Option Addr, ∃ t23_5n t23_5c : Nat, LdN h (Addr.add ad (0 * 6)) [Value.int .i64 t23_0, Value.bool t23_1, Value.slice t23_2A t23_2n t23_2c, Value.slice t23_3A t23_3n t23_3c, Value.string t23_4, Value.slice t23_5A t23_5n t23_5c] ∧
 ∃ ad_1 : Addr, e_5A = some ad_1 ∧ 0 ≤ (1 : Int) ∧ (1 : Int) < ((e_5n : Nat) : Int) ∧
 ∃ t29_0 : Int, ∃ t29_1 : Bool, ∃ t29_2A : Option Addr, ∃ t29_2n t29_2c : Nat, ∃ t29_3A : Option Addr, ∃ t29_3n t29_3c : Nat, ∃ t29_4 : ByteArray, ∃ t29_5A : Option Addr, ∃ t29_5n t29_5c : Nat, LdN h (Addr.add ad_1 (1 * 6)) [Value.int .i64 t29_0, Value.bool t29_1, Value.slice t29_2A t29_2n t29_2c, Value.slice t29_3A t29_3n t29_3c, Value.string t29_4, Value.slice t29_5A t29_5n t29_5c] ∧
 CallsU Tryz.prog 81 [Value.agg #[Value.int .i64 t23_0, Value.bool t23_1, Value.slice t23_2A t23_2n t23_2c, Value.slice t23_3A t23_3n t23_3c, Value.string t23_4, Value.slice t23_5A t23_5n t23_5c], Value.int .i64 0] h fun v_1 h_2 =>
 ∃ t24 : ByteArray, v_1 = Value.string t24 ∧
 LeH h h_2 ∧
 ((t24.size + (⟨#[32, 43, 32]⟩ : ByteArray).size : Nat) : Int) ≤ 9223372036854775807 ∧
 CallsU Tryz.prog 81 [Value.agg #[Value.int .i64 t29_0, Value.bool t29_1, Value.slice t29_2A t29_2n t29_2c, Value.slice t29_3A t29_3n t29_3c, Value.string t29_4, Value.slice t29_5A t29_5n t29_5c], Value.int .i64 1] h_2 fun v_2 h_3 =>
 ∃ t30 : ByteArray, v_2 = Value.string t30 ∧
 (((t24 ++ (⟨#[32, 43, 32]⟩ : ByteArray)).size + t30.size : Nat) : Int) ≤ 9223372036854775807 ∧
 R (Value.string ((t24 ++ (⟨#[32, 43, 32]⟩ : ByteArray)) ++ t30)) h_3)
  (Br ((e_0 : Int) == 4)
  (∃ ad_2 : Addr, e_5A = some ad_2 ∧ 0 ≤ (0 : Int) ∧ (0 : Int) < ((e_5n : Nat) : Int) ∧
 ∃ t37_0 : Int, ∃ t37_1 : Bool, ∃ t37_2A : Option Addr, ∃ t37_2n t37_2c : Nat, ∃ t37_3A : Option Addr, ∃ t37_3n t37_3c : Nat, ∃ t37_4 : ByteArray, ∃ t37_5A : Option Addr, ∃ t37_5n t37_5c : Nat, LdN h (Addr.add ad_2 (0 * 6)) [Value.int .i64 t37_0, Value.bool t37_1, Value.slice t37_2A t37_2n t37_2c, Value.slice t37_3A t37_3n t37_3c, Value.string t37_4, Value.slice t37_5A t37_5n t37_5c] ∧
 ∃ ad_3 : Addr, e_5A = some ad_3 ∧ 0 ≤ (1 : Int) ∧ (1 : Int) < ((e_5n : Nat) : Int) ∧
 ∃ t43_0 : Int, ∃ t43_1 : Bool, ∃ t43_2A : Option Addr, ∃ t43_2n t43_2c : Nat, ∃ t43_3A : Option Addr, ∃ t43_3n t43_3c : Nat, ∃ t43_4 : ByteArray, ∃ t43_5A : Option Addr, ∃ t43_5n t43_5c : Nat, LdN h (Addr.add ad_3 (1 * 6)) [Value.int .i64 t43_0, Value.bool t43_1, Value.slice t43_2A t43_2n t43_2c, Value.slice t43_3A t43_3n t43_3c, Value.string t43_4, Value.slice t43_5A t43_5n t43_5c] ∧
 CallsU Tryz.prog 81 [Value.agg #[Value.int .i64 t37_0, Value.bool t37_1, Value.slice t37_2A t37_2n t37_2c, Value.slice t37_3A t37_3n t37_3c, Value.string t37_4, Value.slice t37_5A t37_5n t37_5c], Value.int .i64 0] h fun v_3 h_4 =>
 ∃ t38 : ByteArray, v_3 = Value.string t38 ∧
 LeH h h_4 ∧
 ((t38.size + (⟨#[32, 45, 32]⟩ : ByteArray).size : Nat) : Int) ≤ 9223372036854775807 ∧
 CallsU Tryz.prog 81 [Value.agg #[Value.int .i64 t43_0, Value.bool t43_1, Value.slice t43_2A t43_2n t43_2c, Value.slice t43_3A t43_3n t43_3c, Value.string t43_4, Value.slice t43_5A t43_5n t43_5c], Value.int .i64 1] h_4 fun v_4 h_5 =>
 ∃ t44 : ByteArray, v_4 = Value.string t44 ∧
 (((t38 ++ (⟨#[32, 45, 32]⟩ : ByteArray)).size + t44.size : Nat) : Int) ≤ 9223372036854775807 ∧
 R (Value.string ((t38 ++ (⟨#[32, 45, 32]⟩ : ByteArray)) ++ t44)) h_5)
  (Br ((e_0 : Int) == 5)
  (∃ ad_4 : Addr, e_5A = some ad_4 ∧ 0 ≤ (0 : Int) ∧ (0 : Int) < ((e_5n : Nat) : Int) ∧
 ∃ t51_0 : Int, ∃ t51_1 : Bool, ∃ t51_2A : Option Addr, ∃ t51_2n t51_2c : Nat, ∃ t51_3A : Option Addr, ∃ t51_3n t51_3c : Nat, ∃ t51_4 : ByteArray, ∃ t51_5A : Option Addr, ∃ t51_5n t51_5c : Nat, LdN h (Addr.add ad_4 (0 * 6)) [Value.int .i64 t51_0, Value.bool t51_1, Value.slice t51_2A t51_2n t51_2c, Value.slice t51_3A t51_3n t51_3c, Value.string t51_4, Value.slice t51_5A t51_5n t51_5c] ∧
 ∃ ad_5 : Addr, e_5A = some ad_5 ∧ 0 ≤ (1 : Int) ∧ (1 : Int) < ((e_5n : Nat) : Int) ∧
 ∃ t57_0 : Int, ∃ t57_1 : Bool, ∃ t57_2A : Option Addr, ∃ t57_2n t57_2c : Nat, ∃ t57_3A : Option Addr, ∃ t57_3n t57_3c : Nat, ∃ t57_4 : ByteArray, ∃ t57_5A : Option Addr, ∃ t57_5n t57_5c : Nat, LdN h (Addr.add ad_5 (1 * 6)) [Value.int .i64 t57_0, Value.bool t57_1, Value.slice t57_2A t57_2n t57_2c, Value.slice t57_3A t57_3n t57_3c, Value.string t57_4, Value.slice t57_5A t57_5n t57_5c] ∧
 CallsU Tryz.prog 81 [Value.agg #[Value.int .i64 t51_0, Value.bool t51_1, Value.slice t51_2A t51_2n t51_2c, Value.slice t51_3A t51_3n t51_3c, Value.string t51_4, Value.slice t51_5A t51_5n t51_5c], Value.int .i64 1] h fun v_5 h_6 =>
 ∃ t52 : ByteArray, v_5 = Value.string t52 ∧
 LeH h h_6 ∧
 ((t52.size + (⟨#[32, 42, 32]⟩ : ByteArray).size : Nat) : Int) ≤ 9223372036854775807 ∧
 CallsU Tryz.prog 81 [Value.agg #[Value.int .i64 t57_0, Value.bool t57_1, Value.slice t57_2A t57_2n t57_2c, Value.slice t57_3A t57_3n t57_3c, Value.string t57_4, Value.slice t57_5A t57_5n t57_5c], Value.int .i64 2] h_6 fun v_6 h_7 =>
 ∃ t58 : ByteArray, v_6 = Value.string t58 ∧
 (((t52 ++ (⟨#[32, 42, 32]⟩ : ByteArray)).size + t58.size : Nat) : Int) ≤ 9223372036854775807 ∧
 R (Value.string ((t52 ++ (⟨#[32, 42, 32]⟩ : ByteArray)) ++ t58)) h_7)
  (Br ((e_0 : Int) == 6)
  (∃ ad_6 : Addr, e_5A = some ad_6 ∧ 0 ≤ (0 : Int) ∧ (0 : Int) < ((e_5n : Nat) : Int) ∧
 ∃ t65_0 : Int, ∃ t65_1 : Bool, ∃ t65_2A : Option Addr, ∃ t65_2n t65_2c : Nat, ∃ t65_3A : Option Addr, ∃ t65_3n t65_3c : Nat, ∃ t65_4 : ByteArray, ∃ t65_5A : Option Addr, ∃ t65_5n t65_5c : Nat, LdN h (Addr.add ad_6 (0 * 6)) [Value.int .i64 t65_0, Value.bool t65_1, Value.slice t65_2A t65_2n t65_2c, Value.slice t65_3A t65_3n t65_3c, Value.string t65_4, Value.slice t65_5A t65_5n t65_5c] ∧
 ∃ ad_7 : Addr, e_5A = some ad_7 ∧ 0 ≤ (1 : Int) ∧ (1 : Int) < ((e_5n : Nat) : Int) ∧
 ∃ t71_0 : Int, ∃ t71_1 : Bool, ∃ t71_2A : Option Addr, ∃ t71_2n t71_2c : Nat, ∃ t71_3A : Option Addr, ∃ t71_3n t71_3c : Nat, ∃ t71_4 : ByteArray, ∃ t71_5A : Option Addr, ∃ t71_5n t71_5c : Nat, LdN h (Addr.add ad_7 (1 * 6)) [Value.int .i64 t71_0, Value.bool t71_1, Value.slice t71_2A t71_2n t71_2c, Value.slice t71_3A t71_3n t71_3c, Value.string t71_4, Value.slice t71_5A t71_5n t71_5c] ∧
 CallsU Tryz.prog 81 [Value.agg #[Value.int .i64 t65_0, Value.bool t65_1, Value.slice t65_2A t65_2n t65_2c, Value.slice t65_3A t65_3n t65_3c, Value.string t65_4, Value.slice t65_5A t65_5n t65_5c], Value.int .i64 1] h fun v_7 h_8 =>
 ∃ t66 : ByteArray, v_7 = Value.string t66 ∧
 LeH h h_8 ∧
 ((t66.size + (⟨#[32, 47, 32]⟩ : ByteArray).size : Nat) : Int) ≤ 9223372036854775807 ∧
 CallsU Tryz.prog 81 [Value.agg #[Value.int .i64 t71_0, Value.bool t71_1, Value.slice t71_2A t71_2n t71_2c, Value.slice t71_3A t71_3n t71_3c, Value.string t71_4, Value.slice t71_5A t71_5n t71_5c], Value.int .i64 2] h_8 fun v_8 h_9 =>
 ∃ t72 : ByteArray, v_8 = Value.string t72 ∧
 (((t66 ++ (⟨#[32, 47, 32]⟩ : ByteArray)).size + t72.size : Nat) : Int) ≤ 9223372036854775807 ∧
 R (Value.string ((t66 ++ (⟨#[32, 47, 32]⟩ : ByteArray)) ++ t72)) h_9)
  (Br ((e_0 : Int) == 7)
  (∃ ad_8 : Addr, e_5A = some ad_8 ∧ 0 ≤ (0 : Int) ∧ (0 : Int) < ((e_5n : Nat) : Int) ∧
 ∃ t79_0 : Int, ∃ t79_1 : Bool, ∃ t79_2A : Option Addr, ∃ t79_2n t79_2c : Nat, ∃ t79_3A : Option Addr, ∃ t79_3n t79_3c : Nat, ∃ t79_4 : ByteArray, ∃ t79_5A : Option Addr, ∃ t79_5n t79_5c : Nat, LdN h (Addr.add ad_8 (0 * 6)) [Value.int .i64 t79_0, Value.bool t79_1, Value.slice t79_2A t79_2n t79_2c, Value.slice t79_3A t79_3n t79_3c, Value.string t79_4, Value.slice t79_5A t79_5n t79_5c] ∧
 CallsU Tryz.prog 81 [Value.agg #[Value.int .i64 t79_0, Value.bool t79_1, Value.slice t79_2A t79_2n t79_2c, Value.slice t79_3A t79_3n t79_3c, Value.string t79_4, Value.slice t79_5A t79_5n t79_5c], Value.int .i64 2] h fun v_9 h_10 =>
 ∃ t80 : ByteArray, v_9 = Value.string t80 ∧
 (((⟨#[45]⟩ : ByteArray).size + t80.size : Nat) : Int) ≤ 9223372036854775807 ∧
 R (Value.string ((⟨#[45]⟩ : ByteArray) ++ t80)) h_10)
  (∃ J : Nat → Option Addr → Nat → Nat → Int → Heap → Prop, (∃ m, J m none 0 0 0 h) ∧
 ∀ (m : Nat) (kidsA : Option Addr) (kidsn kidsc : Nat) (t85 : Int) (h_11 : Heap), J m kidsA kidsn kidsc t85 h_11 →
 Br (decide (t85 < ((e_5n : Nat) : Int)))
  (∃ ad_9 : Addr, e_5A = some ad_9 ∧ 0 ≤ t85 ∧ t85 < ((e_5n : Nat) : Int) ∧
 ∃ t88_0 : Int, ∃ t88_1 : Bool, ∃ t88_2A : Option Addr, ∃ t88_2n t88_2c : Nat, ∃ t88_3A : Option Addr, ∃ t88_3n t88_3c : Nat, ∃ t88_4 : ByteArray, ∃ t88_5A : Option Addr, ∃ t88_5n t88_5c : Nat, LdN h_11 (Addr.add ad_9 (Int.toNat t85 * 6)) [Value.int .i64 t88_0, Value.bool t88_1, Value.slice t88_2A t88_2n t88_2c, Value.slice t88_3A t88_3n t88_3c, Value.string t88_4, Value.slice t88_5A t88_5n t88_5c] ∧
 CallsU Tryz.prog 49 [Value.agg #[Value.int .i64 t88_0, Value.bool t88_1, Value.slice t88_2A t88_2n t88_2c, Value.slice t88_3A t88_3n t88_3c, Value.string t88_4, Value.slice t88_5A t88_5n t88_5c]] h_11 fun v_10 h_12 =>
 ∃ t91 : ByteArray, v_10 = Value.string t91 ∧
 ∀ (g : Nat) (h_13 : Heap), h_12 g = none → h_13 = Heap.put h_12 g ⟨[Value.string t91], 9, (0, 0)⟩ →
 ∃ xs : List Value, RdS h_13 (some ⟨g, 0, none⟩) (1 * 1) xs ∧ (∀ x ∈ xs, Go.Vcg.one x = true) ∧
 (kidsn + 1 ≤ kidsc → ∃ (ad_10 : Addr) (b : Blk), kidsA = some ad_10 ∧ ad_10.spot = none ∧ h_13 ad_10.block = some b ∧ b.fz = (0, 0) ∧ ad_10.off + kidsn * 1 + 1 * 1 ≤ b.cells.length ∧
 ∀ h_15 : Heap, h_15 = Heap.put h_13 ad_10.block { b with cells := setSeg b.cells (ad_10.off + kidsn * 1) xs } →
 ∀ t94 : Int, t94 = IntKind.i64.wrap (t85 + 1) →
 ∃ m_1, m_1 < m ∧ J m_1 kidsA (kidsn + 1) kidsc t94 h_15) ∧
 (kidsc < kidsn + 1 → ∃ olds : List Value, RdS h_13 kidsA (kidsn * 1) olds ∧ (kidsn + 1) * 16 ≤ 140737488355328 ∧
 ∀ (g_1 cap : Nat) (h_16 : Heap), h_13 g_1 = none → kidsn + 1 ≤ cap → h_16 = Heap.put h_13 g_1 ⟨olds ++ xs ++ repV [Value.string ByteArray.empty] (cap - (kidsn + 1)), 9, (0, 0)⟩ →
 ∀ t94_1 : Int, t94_1 = IntKind.i64.wrap (t85 + 1) →
 ∃ m_1, m_1 < m ∧ J m_1 (some ⟨g_1, 0, none⟩) (kidsn + 1) cap t94_1 h_16))
  (Br ((e_0 : Int) == 9)
  (CallsU Tryz.prog 82 [Value.slice kidsA kidsn kidsc, Value.string (⟨#[44, 32]⟩ : ByteArray)] h_11 fun v_12 h_17 =>
 ∃ t100 : ByteArray, v_12 = Value.string t100 ∧
 (((⟨#[109, 97, 120, 40]⟩ : ByteArray).size + t100.size : Nat) : Int) ≤ 9223372036854775807 ∧
 ((((⟨#[109, 97, 120, 40]⟩ : ByteArray) ++ t100).size + (⟨#[41]⟩ : ByteArray).size : Nat) : Int) ≤ 9223372036854775807 ∧
 R (Value.string (((⟨#[109, 97, 120, 40]⟩ : ByteArray) ++ t100) ++ (⟨#[41]⟩ : ByteArray))) h_17)
  (CallsU Tryz.prog 82 [Value.slice kidsA kidsn kidsc, Value.string (⟨#[44, 32]⟩ : ByteArray)] h_11 fun v_13 h_18 =>
 ∃ t100_1 : ByteArray, v_13 = Value.string t100_1 ∧
 (((⟨#[109, 105, 110, 40]⟩ : ByteArray).size + t100_1.size : Nat) : Int) ≤ 9223372036854775807 ∧
 ((((⟨#[109, 105, 110, 40]⟩ : ByteArray) ++ t100_1).size + (⟨#[41]⟩ : ByteArray).size : Nat) : Int) ≤ 9223372036854775807 ∧
 R (Value.string (((⟨#[109, 105, 110, 40]⟩ : ByteArray) ++ t100_1) ++ (⟨#[41]⟩ : ByteArray))) h_18)))))))))

set_option maxRecDepth 100000 in
theorem formula_text_ok {e_0 : Int} {e_1 : Bool} {e_2A : Option Addr} {e_2n e_2c : Nat} {e_3A : Option Addr} {e_3n e_3c : Nat} {e_4 : ByteArray} {e_5A : Option Addr} {e_5n e_5c : Nat} {h : Heap} {R : Value → Heap → Prop} (hv : formula_text_vc e_0 e_1 e_2A e_2n e_2c e_3A e_3n e_3c e_4 e_5A e_5n e_5c h R) : CallsU Tryz.prog 49 [Value.agg #[Value.int .i64 e_0, Value.bool e_1, Value.slice e_2A e_2n e_2c, Value.slice e_3A e_3n e_3c, Value.string e_4, Value.slice e_5A e_5n e_5c]] h R :=
  fn_sound Tryz.func49 (by kernel_rfl) (by kernel_rfl) (by kernel_rfl) (fun _ => false) (.two .nil (.two (.two .nil (.one (.two .nil (.two .nil (.two .nil (.two .nil (.two .nil (.two (.two (.ord [0, 1, 2, 3, 6, 7, 8, 9, 4, 5, 10, 11, 12]) .nil) (.two .nil (.two (.two (.ord [0, 1, 2, 3, 6, 7, 8, 9, 4, 5, 10, 11, 12]) .nil) (.two .nil (.two (.two (.ord [0, 1, 2, 3, 6, 7, 8, 9, 4, 5, 10, 11, 12]) .nil) (.two .nil (.two (.two (.ord [0, 1, 2, 3, 6, 7, 8, 9, 4, 5, 10, 11, 12]) .nil) .nil)))))))))))))) (.two .nil (.two (.two .nil (.one (.loop ⟨[(3, Sh.slice), (85, Sh.int .i64)], []⟩ .nil))) .nil)))) [Value.agg #[Value.int .i64 e_0, Value.bool e_1, Value.slice e_2A e_2n e_2c, Value.slice e_3A e_3n e_3c, Value.string e_4, Value.slice e_5A e_5n e_5c]] h R (by kernel_rfl)
    (Eq.mp (show formula_text_vc e_0 e_1 e_2A e_2n e_2c e_3A e_3n e_3c e_4 e_5A e_5n e_5c h R = fnV Tryz.prog Tryz.f49 (fun _ => false) (.two .nil (.two (.two .nil (.one (.two .nil (.two .nil (.two .nil (.two .nil (.two .nil (.two (.two (.ord [0, 1, 2, 3, 6, 7, 8, 9, 4, 5, 10, 11, 12]) .nil) (.two .nil (.two (.two (.ord [0, 1, 2, 3, 6, 7, 8, 9, 4, 5, 10, 11, 12]) .nil) (.two .nil (.two (.two (.ord [0, 1, 2, 3, 6, 7, 8, 9, 4, 5, 10, 11, 12]) .nil) (.two .nil (.two (.two (.ord [0, 1, 2, 3, 6, 7, 8, 9, 4, 5, 10, 11, 12]) .nil) .nil)))))))))))))) (.two .nil (.two (.two .nil (.one (.loop ⟨[(3, Sh.slice), (85, Sh.int .i64)], []⟩ .nil))) .nil)))) [Value.agg #[Value.int .i64 e_0, Value.bool e_1, Value.slice e_2A e_2n e_2c, Value.slice e_3A e_3n e_3c, Value.string e_4, Value.slice e_5A e_5n e_5c]] h R by kernel_rfl) hv)

set_option maxRecDepth 100000 in
def formula_eval_vc (e_0 : Int) (e_1 : Bool) (e_2A : Option Addr) (e_2n e_2c : Nat) (e_3A : Option Addr) (e_3n e_3c : Nat) (e_4 : ByteArray) (e_5A : Option Addr) (e_5n _e_5c : Nat) (envA : Option Addr) (envn envc : Nat) (h : Heap) (R : Value → Heap → Prop) : Prop :=
 0 ≤ ((e_5n : Nat) : Int) ∧ ((e_5n : Nat) : Int) ≤ ((e_5n : Nat) : Int) ∧ ((e_5n : Nat) : Int) * 56 ≤ 140737488355328 ∧ ((e_5n : Nat) : Int) ≤ 9223372036854775807 ∧
 ∀ (g : Nat) (h_1 : Heap), h g = none → h_1 = Heap.put h g ⟨repV [Value.bool false, Value.slice none 0 0, Value.slice none 0 0] (Int.toNat ((e_5n : Nat) : Int)), 27, (0, 0)⟩ →
 ∃ J : Nat → Int → Bool → Option Addr → Nat → Nat → Option Addr → Nat → Nat → Heap → Prop, (∃ m, J m 0 false none 0 0 none 0 0 h_1) ∧
 ∀ (m : Nat) (t20 : Int) (t4_0 : Bool) (t4_1A : Option Addr) (t4_1n t4_1c : Nat) (t4_2A : Option Addr) (t4_2n t4_2c : Nat) (h_2 : Heap), J m t20 t4_0 t4_1A t4_1n t4_1c t4_2A t4_2n t4_2c h_2 →
 Br (decide (t20 < ((e_5n : Nat) : Int)))
  (∃ ad : Addr, e_5A = some ad ∧ 0 ≤ t20 ∧ t20 < ((e_5n : Nat) : Int) ∧
 ∃ t24_0 : Int, ∃ t24_1 : Bool, ∃ t24_2A : Option Addr, ∃ t24_2n t24_2c : Nat, ∃ t24_3A : Option Addr, ∃ t24_3n t24_3c : Nat, ∃ t24_4 : ByteArray, ∃ t24_5A : Option Addr, ∃ t24_5n t24_5c : Nat, LdN h_2 (Addr.add ad (Int.toNat t20 * 6)) [Value.int .i64 t24_0, Value.bool t24_1, Value.slice t24_2A t24_2n t24_2c, Value.slice t24_3A t24_3n t24_3c, Value.string t24_4, Value.slice t24_5A t24_5n t24_5c] ∧
 CallsU Tryz.prog 51 [Value.agg #[Value.int .i64 t24_0, Value.bool t24_1, Value.slice t24_2A t24_2n t24_2c, Value.slice t24_3A t24_3n t24_3c, Value.string t24_4, Value.slice t24_5A t24_5n t24_5c], Value.slice envA envn envc] h_2 fun v h_3 =>
 ∃ t28_0_0 : Bool, ∃ t28_0_1A : Option Addr, ∃ t28_0_1n t28_0_1c : Nat, ∃ t28_0_2A : Option Addr, ∃ t28_0_2n t28_0_2c : Nat, ∃ t28_1 : Int, v = Value.tuple #[Value.agg #[Value.bool t28_0_0, Value.slice t28_0_1A t28_0_1n t28_0_1c, Value.slice t28_0_2A t28_0_2n t28_0_2c], Value.int .i64 t28_1] ∧
 Br ((t28_1 : Int) != 0)
  (R (Value.tuple #[Value.agg #[Value.bool false, Value.slice none 0 0, Value.slice none 0 0], Value.int .i64 t28_1]) h_3)
  (∃ ad_1 : Addr, some ⟨g, 0, none⟩ = some ad_1 ∧ 0 ≤ t20 ∧ t20 < (((Int.toNat ((e_5n : Nat) : Int)) : Nat) : Int) ∧
 ∃ b : Blk, h_3 (Addr.block (Addr.add ad_1 (Int.toNat t20 * 3))) = some b ∧ b.fz = (0, 0) ∧ Addr.spot (Addr.add ad_1 (Int.toNat t20 * 3)) = none ∧ Addr.off (Addr.add ad_1 (Int.toNat t20 * 3)) + 3 ≤ b.cells.length ∧
 ∀ h_4 : Heap, h_4 = Heap.put h_3 (Addr.block (Addr.add ad_1 (Int.toNat t20 * 3))) { b with cells := setSeg b.cells (Addr.off (Addr.add ad_1 (Int.toNat t20 * 3))) [Value.bool t28_0_0, Value.slice t28_0_1A t28_0_1n t28_0_1c, Value.slice t28_0_2A t28_0_2n t28_0_2c] } →
 ∀ t39 : Int, t39 = IntKind.i64.wrap (t20 + 1) →
 ∃ m_1, m_1 < m ∧ J m_1 t39 t4_0 t4_1A t4_1n t4_1c t4_2A t4_2n t4_2c h_4))
  (Br ((e_0 : Int) == 1)
  (CallsU Tryz.prog 86 [Value.agg #[Value.bool e_1, Value.slice e_2A e_2n e_2c, Value.slice e_3A e_3n e_3c]] h_2 fun v_1 h_5 =>
 ∃ t46_0 : Bool, ∃ t46_1A : Option Addr, ∃ t46_1n t46_1c : Nat, ∃ t46_2A : Option Addr, ∃ t46_2n t46_2c : Nat, v_1 = Value.agg #[Value.bool t46_0, Value.slice t46_1A t46_1n t46_1c, Value.slice t46_2A t46_2n t46_2c] ∧
 R (Value.tuple #[Value.agg #[Value.bool t46_0, Value.slice t46_1A t46_1n t46_1c, Value.slice t46_2A t46_2n t46_2c], Value.int .i64 0]) h_5)
  (Br ((e_0 : Int) == 2)
  (CallsU Tryz.prog 87 [Value.slice envA envn envc, Value.string e_4] h_2 fun v_2 h_6 =>
 ∃ t52_0_0 : Bool, ∃ t52_0_1A : Option Addr, ∃ t52_0_1n t52_0_1c : Nat, ∃ t52_0_2A : Option Addr, ∃ t52_0_2n t52_0_2c : Nat, ∃ t52_1 : Int, v_2 = Value.tuple #[Value.agg #[Value.bool t52_0_0, Value.slice t52_0_1A t52_0_1n t52_0_1c, Value.slice t52_0_2A t52_0_2n t52_0_2c], Value.int .i64 t52_1] ∧
 R (Value.tuple #[Value.agg #[Value.bool t52_0_0, Value.slice t52_0_1A t52_0_1n t52_0_1c, Value.slice t52_0_2A t52_0_2n t52_0_2c], Value.int .i64 t52_1]) h_6)
  (Br ((e_0 : Int) == 3)
  (∃ ad_2 : Addr, some ⟨g, 0, none⟩ = some ad_2 ∧ 0 ≤ (0 : Int) ∧ (0 : Int) < (((Int.toNat ((e_5n : Nat) : Int)) : Nat) : Int) ∧
 ∃ t59_0 : Bool, ∃ t59_1A : Option Addr, ∃ t59_1n t59_1c : Nat, ∃ t59_2A : Option Addr, ∃ t59_2n t59_2c : Nat, LdN h_2 (Addr.add ad_2 (0 * 3)) [Value.bool t59_0, Value.slice t59_1A t59_1n t59_1c, Value.slice t59_2A t59_2n t59_2c] ∧
 ∃ ad_3 : Addr, some ⟨g, 0, none⟩ = some ad_3 ∧ 0 ≤ (1 : Int) ∧ (1 : Int) < (((Int.toNat ((e_5n : Nat) : Int)) : Nat) : Int) ∧
 ∃ t62_0 : Bool, ∃ t62_1A : Option Addr, ∃ t62_1n t62_1c : Nat, ∃ t62_2A : Option Addr, ∃ t62_2n t62_2c : Nat, LdN h_2 (Addr.add ad_3 (1 * 3)) [Value.bool t62_0, Value.slice t62_1A t62_1n t62_1c, Value.slice t62_2A t62_2n t62_2c] ∧
 CallsU Tryz.prog 30 [Value.agg #[Value.bool t59_0, Value.slice t59_1A t59_1n t59_1c, Value.slice t59_2A t59_2n t59_2c], Value.agg #[Value.bool t62_0, Value.slice t62_1A t62_1n t62_1c, Value.slice t62_2A t62_2n t62_2c]] h_2 fun v_3 h_7 =>
 ∃ t63_0 : Bool, ∃ t63_1A : Option Addr, ∃ t63_1n t63_1c : Nat, ∃ t63_2A : Option Addr, ∃ t63_2n t63_2c : Nat, v_3 = Value.agg #[Value.bool t63_0, Value.slice t63_1A t63_1n t63_1c, Value.slice t63_2A t63_2n t63_2c] ∧
 R (Value.tuple #[Value.agg #[Value.bool t63_0, Value.slice t63_1A t63_1n t63_1c, Value.slice t63_2A t63_2n t63_2c], Value.int .i64 0]) h_7)
  (Br ((e_0 : Int) == 4)
  (∃ ad_4 : Addr, some ⟨g, 0, none⟩ = some ad_4 ∧ 0 ≤ (0 : Int) ∧ (0 : Int) < (((Int.toNat ((e_5n : Nat) : Int)) : Nat) : Int) ∧
 ∃ t68_0 : Bool, ∃ t68_1A : Option Addr, ∃ t68_1n t68_1c : Nat, ∃ t68_2A : Option Addr, ∃ t68_2n t68_2c : Nat, LdN h_2 (Addr.add ad_4 (0 * 3)) [Value.bool t68_0, Value.slice t68_1A t68_1n t68_1c, Value.slice t68_2A t68_2n t68_2c] ∧
 ∃ ad_5 : Addr, some ⟨g, 0, none⟩ = some ad_5 ∧ 0 ≤ (1 : Int) ∧ (1 : Int) < (((Int.toNat ((e_5n : Nat) : Int)) : Nat) : Int) ∧
 ∃ t71_0 : Bool, ∃ t71_1A : Option Addr, ∃ t71_1n t71_1c : Nat, ∃ t71_2A : Option Addr, ∃ t71_2n t71_2c : Nat, LdN h_2 (Addr.add ad_5 (1 * 3)) [Value.bool t71_0, Value.slice t71_1A t71_1n t71_1c, Value.slice t71_2A t71_2n t71_2c] ∧
 CallsU Tryz.prog 31 [Value.agg #[Value.bool t68_0, Value.slice t68_1A t68_1n t68_1c, Value.slice t68_2A t68_2n t68_2c], Value.agg #[Value.bool t71_0, Value.slice t71_1A t71_1n t71_1c, Value.slice t71_2A t71_2n t71_2c]] h_2 fun v_4 h_8 =>
 ∃ t72_0 : Bool, ∃ t72_1A : Option Addr, ∃ t72_1n t72_1c : Nat, ∃ t72_2A : Option Addr, ∃ t72_2n t72_2c : Nat, v_4 = Value.agg #[Value.bool t72_0, Value.slice t72_1A t72_1n t72_1c, Value.slice t72_2A t72_2n t72_2c] ∧
 R (Value.tuple #[Value.agg #[Value.bool t72_0, Value.slice t72_1A t72_1n t72_1c, Value.slice t72_2A t72_2n t72_2c], Value.int .i64 0]) h_8)
  (Br ((e_0 : Int) == 5)
  (∃ ad_6 : Addr, some ⟨g, 0, none⟩ = some ad_6 ∧ 0 ≤ (0 : Int) ∧ (0 : Int) < (((Int.toNat ((e_5n : Nat) : Int)) : Nat) : Int) ∧
 ∃ t77_0 : Bool, ∃ t77_1A : Option Addr, ∃ t77_1n t77_1c : Nat, ∃ t77_2A : Option Addr, ∃ t77_2n t77_2c : Nat, LdN h_2 (Addr.add ad_6 (0 * 3)) [Value.bool t77_0, Value.slice t77_1A t77_1n t77_1c, Value.slice t77_2A t77_2n t77_2c] ∧
 ∃ ad_7 : Addr, some ⟨g, 0, none⟩ = some ad_7 ∧ 0 ≤ (1 : Int) ∧ (1 : Int) < (((Int.toNat ((e_5n : Nat) : Int)) : Nat) : Int) ∧
 ∃ t80_0 : Bool, ∃ t80_1A : Option Addr, ∃ t80_1n t80_1c : Nat, ∃ t80_2A : Option Addr, ∃ t80_2n t80_2c : Nat, LdN h_2 (Addr.add ad_7 (1 * 3)) [Value.bool t80_0, Value.slice t80_1A t80_1n t80_1c, Value.slice t80_2A t80_2n t80_2c] ∧
 CallsU Tryz.prog 32 [Value.agg #[Value.bool t77_0, Value.slice t77_1A t77_1n t77_1c, Value.slice t77_2A t77_2n t77_2c], Value.agg #[Value.bool t80_0, Value.slice t80_1A t80_1n t80_1c, Value.slice t80_2A t80_2n t80_2c]] h_2 fun v_5 h_9 =>
 ∃ t81_0 : Bool, ∃ t81_1A : Option Addr, ∃ t81_1n t81_1c : Nat, ∃ t81_2A : Option Addr, ∃ t81_2n t81_2c : Nat, v_5 = Value.agg #[Value.bool t81_0, Value.slice t81_1A t81_1n t81_1c, Value.slice t81_2A t81_2n t81_2c] ∧
 R (Value.tuple #[Value.agg #[Value.bool t81_0, Value.slice t81_1A t81_1n t81_1c, Value.slice t81_2A t81_2n t81_2c], Value.int .i64 0]) h_9)
  (Br ((e_0 : Int) == 6)
  (∃ ad_8 : Addr, some ⟨g, 0, none⟩ = some ad_8 ∧ 0 ≤ (0 : Int) ∧ (0 : Int) < (((Int.toNat ((e_5n : Nat) : Int)) : Nat) : Int) ∧
 ∃ t87_0 : Bool, ∃ t87_1A : Option Addr, ∃ t87_1n t87_1c : Nat, ∃ t87_2A : Option Addr, ∃ t87_2n t87_2c : Nat, LdN h_2 (Addr.add ad_8 (0 * 3)) [Value.bool t87_0, Value.slice t87_1A t87_1n t87_1c, Value.slice t87_2A t87_2n t87_2c] ∧
 ∃ ad_9 : Addr, some ⟨g, 0, none⟩ = some ad_9 ∧ 0 ≤ (1 : Int) ∧ (1 : Int) < (((Int.toNat ((e_5n : Nat) : Int)) : Nat) : Int) ∧
 ∃ t90_0 : Bool, ∃ t90_1A : Option Addr, ∃ t90_1n t90_1c : Nat, ∃ t90_2A : Option Addr, ∃ t90_2n t90_2c : Nat, LdN h_2 (Addr.add ad_9 (1 * 3)) [Value.bool t90_0, Value.slice t90_1A t90_1n t90_1c, Value.slice t90_2A t90_2n t90_2c] ∧
 CallsU Tryz.prog 88 [Value.agg #[Value.bool t87_0, Value.slice t87_1A t87_1n t87_1c, Value.slice t87_2A t87_2n t87_2c], Value.agg #[Value.bool t90_0, Value.slice t90_1A t90_1n t90_1c, Value.slice t90_2A t90_2n t90_2c]] h_2 fun v_6 h_10 =>
 ∃ t91_0_0 : Bool, ∃ t91_0_1A : Option Addr, ∃ t91_0_1n t91_0_1c : Nat, ∃ t91_0_2A : Option Addr, ∃ t91_0_2n t91_0_2c : Nat, ∃ t91_1 : Bool, v_6 = Value.tuple #[Value.agg #[Value.bool t91_0_0, Value.slice t91_0_1A t91_0_1n t91_0_1c, Value.slice t91_0_2A t91_0_2n t91_0_2c], Value.bool t91_1] ∧
 Br (!t91_1)
  (R (Value.tuple #[Value.agg #[Value.bool false, Value.slice none 0 0, Value.slice none 0 0], Value.int .i64 10]) h_10)
  (R (Value.tuple #[Value.agg #[Value.bool t91_0_0, Value.slice t91_0_1A t91_0_1n t91_0_1c, Value.slice t91_0_2A t91_0_2n t91_0_2c], Value.int .i64 0]) h_10))
  (Br ((e_0 : Int) == 7)
  (∃ ad_10 : Addr, some ⟨g, 0, none⟩ = some ad_10 ∧ 0 ≤ (0 : Int) ∧ (0 : Int) < (((Int.toNat ((e_5n : Nat) : Int)) : Nat) : Int) ∧
 ∃ t102_0 : Bool, ∃ t102_1A : Option Addr, ∃ t102_1n t102_1c : Nat, ∃ t102_2A : Option Addr, ∃ t102_2n t102_2c : Nat, LdN h_2 (Addr.add ad_10 (0 * 3)) [Value.bool t102_0, Value.slice t102_1A t102_1n t102_1c, Value.slice t102_2A t102_2n t102_2c] ∧
 CallsU Tryz.prog 62 [Value.agg #[Value.bool t102_0, Value.slice t102_1A t102_1n t102_1c, Value.slice t102_2A t102_2n t102_2c]] h_2 fun v_7 h_11 =>
 ∃ t103_0 : Bool, ∃ t103_1A : Option Addr, ∃ t103_1n t103_1c : Nat, ∃ t103_2A : Option Addr, ∃ t103_2n t103_2c : Nat, v_7 = Value.agg #[Value.bool t103_0, Value.slice t103_1A t103_1n t103_1c, Value.slice t103_2A t103_2n t103_2c] ∧
 R (Value.tuple #[Value.agg #[Value.bool t103_0, Value.slice t103_1A t103_1n t103_1c, Value.slice t103_2A t103_2n t103_2c], Value.int .i64 0]) h_11)
  (Br ((e_0 : Int) == 8)
  (CallsU Tryz.prog 89 [Value.slice (some ⟨g, 0, none⟩) (Int.toNat ((e_5n : Nat) : Int)) (Int.toNat ((e_5n : Nat) : Int)), Value.int .i64 (-1)] h_2 fun v_8 h_12 =>
 ∃ t107_0 : Bool, ∃ t107_1A : Option Addr, ∃ t107_1n t107_1c : Nat, ∃ t107_2A : Option Addr, ∃ t107_2n t107_2c : Nat, v_8 = Value.agg #[Value.bool t107_0, Value.slice t107_1A t107_1n t107_1c, Value.slice t107_2A t107_2n t107_2c] ∧
 R (Value.tuple #[Value.agg #[Value.bool t107_0, Value.slice t107_1A t107_1n t107_1c, Value.slice t107_2A t107_2n t107_2c], Value.int .i64 0]) h_12)
  (CallsU Tryz.prog 89 [Value.slice (some ⟨g, 0, none⟩) (Int.toNat ((e_5n : Nat) : Int)) (Int.toNat ((e_5n : Nat) : Int)), Value.int .i64 1] h_2 fun v_9 h_13 =>
 ∃ t109_0 : Bool, ∃ t109_1A : Option Addr, ∃ t109_1n t109_1c : Nat, ∃ t109_2A : Option Addr, ∃ t109_2n t109_2c : Nat, v_9 = Value.agg #[Value.bool t109_0, Value.slice t109_1A t109_1n t109_1c, Value.slice t109_2A t109_2n t109_2c] ∧
 R (Value.tuple #[Value.agg #[Value.bool t109_0, Value.slice t109_1A t109_1n t109_1c, Value.slice t109_2A t109_2n t109_2c], Value.int .i64 0]) h_13)))))))))

set_option maxRecDepth 100000 in
theorem formula_eval_ok {e_0 : Int} {e_1 : Bool} {e_2A : Option Addr} {e_2n e_2c : Nat} {e_3A : Option Addr} {e_3n e_3c : Nat} {e_4 : ByteArray} {e_5A : Option Addr} {e_5n e_5c : Nat} {envA : Option Addr} {envn envc : Nat} {h : Heap} {R : Value → Heap → Prop} (hv : formula_eval_vc e_0 e_1 e_2A e_2n e_2c e_3A e_3n e_3c e_4 e_5A e_5n e_5c envA envn envc h R) : CallsU Tryz.prog 51 [Value.agg #[Value.int .i64 e_0, Value.bool e_1, Value.slice e_2A e_2n e_2c, Value.slice e_3A e_3n e_3c, Value.string e_4, Value.slice e_5A e_5n e_5c], Value.slice envA envn envc] h R :=
  fn_sound Tryz.func51 (by kernel_rfl) (by kernel_rfl) (by kernel_rfl) (fun _ => false) (.two .nil (.two .nil (.two (.two .nil (.one (.loop ⟨[(20, Sh.int .i64)], [(1, [Sh.bool, Sh.slice, Sh.slice])]⟩ .nil))) (.two (.two .nil (.one (.two .nil (.two .nil (.two .nil (.two .nil (.two .nil (.two (.two (.ord [0, 1, 2, 3, 4, 5, 6, 7, 8]) .nil) (.two .nil (.two (.two (.ord [0, 1, 2, 3, 4, 5, 6, 7, 8]) .nil) (.two .nil (.two (.two (.ord [0, 1, 2, 3, 4, 5, 6, 7, 8]) .nil) (.two .nil (.two (.two (.ord [0, 1, 2, 3, 4, 5, 6, 7, 8, 9, 10, 11, 12]) .nil) .nil)))))))))))))) .nil)))) [Value.agg #[Value.int .i64 e_0, Value.bool e_1, Value.slice e_2A e_2n e_2c, Value.slice e_3A e_3n e_3c, Value.string e_4, Value.slice e_5A e_5n e_5c], Value.slice envA envn envc] h R (by kernel_rfl)
    (Eq.mp (show formula_eval_vc e_0 e_1 e_2A e_2n e_2c e_3A e_3n e_3c e_4 e_5A e_5n e_5c envA envn envc h R = fnV Tryz.prog Tryz.f51 (fun _ => false) (.two .nil (.two .nil (.two (.two .nil (.one (.loop ⟨[(20, Sh.int .i64)], [(1, [Sh.bool, Sh.slice, Sh.slice])]⟩ .nil))) (.two (.two .nil (.one (.two .nil (.two .nil (.two .nil (.two .nil (.two .nil (.two (.two (.ord [0, 1, 2, 3, 4, 5, 6, 7, 8]) .nil) (.two .nil (.two (.two (.ord [0, 1, 2, 3, 4, 5, 6, 7, 8]) .nil) (.two .nil (.two (.two (.ord [0, 1, 2, 3, 4, 5, 6, 7, 8]) .nil) (.two .nil (.two (.two (.ord [0, 1, 2, 3, 4, 5, 6, 7, 8, 9, 10, 11, 12]) .nil) .nil)))))))))))))) .nil)))) [Value.agg #[Value.int .i64 e_0, Value.bool e_1, Value.slice e_2A e_2n e_2c, Value.slice e_3A e_3n e_3c, Value.string e_4, Value.slice e_5A e_5n e_5c], Value.slice envA envn envc] h R by kernel_rfl) hv)

def formula_right_vc (e_0 : Int) (e_1 : Bool) (e_2A : Option Addr) (e_2n e_2c : Nat) (e_3A : Option Addr) (e_3n e_3c : Nat) (e_4 : ByteArray) (_e_5A : Option Addr) (e_5n _e_5c : Nat) (h : Heap) (R : Value → Heap → Prop) : Prop :=
 CallsU Tryz.prog 104 [Value.int .i64 e_0] h fun v h_1 =>
 ∃ t10_0 : Int, ∃ t10_1 : Int, v = Value.tuple #[Value.int .i64 t10_0, Value.int .i64 t10_1] ∧
 ∃ C : Bool → Heap → Prop, (∀ (t24 : Bool) (h_2 : Heap), C t24 h_2 →
 Br (t24)
  (R (Value.bool false) h_2)
  (∃ C_1 : Heap → Prop, (∀  (h_3 : Heap), C_1 h_3 →
 Br ((e_0 : Int) == 1)
  (CallsU Tryz.prog 106 [Value.agg #[Value.bool e_1, Value.slice e_2A e_2n e_2c, Value.slice e_3A e_3n e_3c]] h_3 fun v_1 h_4 =>
 ∃ t41_0 : Int, ∃ t41_1 : Bool, v_1 = Value.tuple #[Value.int .i64 t41_0, Value.bool t41_1] ∧
 R (Value.bool t41_1) h_4)
  (CallsU Tryz.prog 29 [Value.agg #[Value.bool e_1, Value.slice e_2A e_2n e_2c, Value.slice e_3A e_3n e_3c], Value.agg #[Value.bool false, Value.slice none 0 0, Value.slice none 0 0]] h_3 fun v_2 h_5 =>
 ∃ t48 : Int, v_2 = Value.int .i64 t48 ∧
 R (Value.bool ((t48 : Int) == 0)) h_5)) ∧
 Br ((e_0 : Int) == 2)
  (CallsU Tryz.prog 105 [Value.string e_4] h_2 fun v_3 h_6 =>
 ∃ t30 : Bool, v_3 = Value.bool t30 ∧
 Br (!t30)
  (R (Value.bool false) h_6)
  (C_1 h_6))
  (Br (!(e_4.toList == (⟨#[]⟩ : ByteArray).toList))
  (R (Value.bool false) h_2)
  (C_1 h_2)))) ∧
 Br (decide (((e_5n : Nat) : Int) < t10_0))
  (C true h_1)
  (C (decide (((e_5n : Nat) : Int) > t10_1)) h_1)

set_option maxRecDepth 100000 in
theorem formula_right_ok {e_0 : Int} {e_1 : Bool} {e_2A : Option Addr} {e_2n e_2c : Nat} {e_3A : Option Addr} {e_3n e_3c : Nat} {e_4 : ByteArray} {e_5A : Option Addr} {e_5n e_5c : Nat} {h : Heap} {R : Value → Heap → Prop} (hv : formula_right_vc e_0 e_1 e_2A e_2n e_2c e_3A e_3n e_3c e_4 e_5A e_5n e_5c h R) : CallsU Tryz.prog 64 [Value.agg #[Value.int .i64 e_0, Value.bool e_1, Value.slice e_2A e_2n e_2c, Value.slice e_3A e_3n e_3c, Value.string e_4, Value.slice e_5A e_5n e_5c]] h R :=
  fn_sound Tryz.func64 (by kernel_rfl) (by kernel_rfl) (by kernel_rfl) (fun _ => false) (.two .nil (.two .nil (.two (.cut ⟨[(24, Sh.bool)], []⟩ .nil .nil) (.cut ⟨[], []⟩ .nil .nil)))) [Value.agg #[Value.int .i64 e_0, Value.bool e_1, Value.slice e_2A e_2n e_2c, Value.slice e_3A e_3n e_3c, Value.string e_4, Value.slice e_5A e_5n e_5c]] h R (by kernel_rfl)
    (Eq.mp (show formula_right_vc e_0 e_1 e_2A e_2n e_2c e_3A e_3n e_3c e_4 e_5A e_5n e_5c h R = fnV Tryz.prog Tryz.f64 (fun _ => false) (.two .nil (.two .nil (.two (.cut ⟨[(24, Sh.bool)], []⟩ .nil .nil) (.cut ⟨[], []⟩ .nil .nil)))) [Value.agg #[Value.int .i64 e_0, Value.bool e_1, Value.slice e_2A e_2n e_2c, Value.slice e_3A e_3n e_3c, Value.string e_4, Value.slice e_5A e_5n e_5c]] h R by kernel_rfl) hv)

def garment_formula_parser_product_vc (p : Addr) (h : Heap) (R : Value → Heap → Prop) : Prop :=
 CallsU Tryz.prog 120 [Value.pointer (some p)] h fun v h_1 =>
 ∃ t10_0_0 : Int, ∃ t10_0_1 : Bool, ∃ t10_0_2A : Option Addr, ∃ t10_0_2n t10_0_2c : Nat, ∃ t10_0_3A : Option Addr, ∃ t10_0_3n t10_0_3c : Nat, ∃ t10_0_4 : ByteArray, ∃ t10_0_5A : Option Addr, ∃ t10_0_5n t10_0_5c : Nat, ∃ t10_1 : Int, v = Value.tuple #[Value.agg #[Value.int .i64 t10_0_0, Value.bool t10_0_1, Value.slice t10_0_2A t10_0_2n t10_0_2c, Value.slice t10_0_3A t10_0_3n t10_0_3c, Value.string t10_0_4, Value.slice t10_0_5A t10_0_5n t10_0_5c], Value.int .i64 t10_1] ∧
 ∃ J : Nat → Int → Int → Bool → Option Addr → Nat → Nat → Option Addr → Nat → Nat → ByteArray → Option Addr → Nat → Nat → Int → Bool → Option Addr → Nat → Nat → Option Addr → Nat → Nat → ByteArray → Option Addr → Nat → Nat → Heap → Prop, (∃ m, J m t10_1 0 false none 0 0 none 0 0 ByteArray.empty none 0 0 t10_0_0 t10_0_1 t10_0_2A t10_0_2n t10_0_2c t10_0_3A t10_0_3n t10_0_3c t10_0_4 t10_0_5A t10_0_5n t10_0_5c h_1) ∧
 ∀ (m : Nat) (err : Int) (t2_0 : Int) (t2_1 : Bool) (t2_2A : Option Addr) (t2_2n t2_2c : Nat) (t2_3A : Option Addr) (t2_3n t2_3c : Nat) (t2_4 : ByteArray) (t2_5A : Option Addr) (t2_5n t2_5c : Nat) (left_0 : Int) (left_1 : Bool) (left_2A : Option Addr) (left_2n left_2c : Nat) (left_3A : Option Addr) (left_3n left_3c : Nat) (left_4 : ByteArray) (left_5A : Option Addr) (left_5n left_5c : Nat) (h_2 : Heap), J m err t2_0 t2_1 t2_2A t2_2n t2_2c t2_3A t2_3n t2_3c t2_4 t2_5A t2_5n t2_5c left_0 left_1 left_2A left_2n left_2c left_3A left_3n left_3c left_4 left_5A left_5n left_5c h_2 →
 Br ((err : Int) == 0)
  (∃ C : Int → Int → Bool → Option Addr → Nat → Nat → Option Addr → Nat → Nat → ByteArray → Option Addr → Nat → Nat → Heap → Prop, (∀ (kind : Int) (t2_0_1 : Int) (t2_1_1 : Bool) (t2_2A_1 : Option Addr) (t2_2n_1 t2_2c_1 : Nat) (t2_3A_1 : Option Addr) (t2_3n_1 t2_3c_1 : Nat) (t2_4_1 : ByteArray) (t2_5A_1 : Option Addr) (t2_5n_1 t2_5c_1 : Nat) (h_3 : Heap), C kind t2_0_1 t2_1_1 t2_2A_1 t2_2n_1 t2_2c_1 t2_3A_1 t2_3n_1 t2_3c_1 t2_4_1 t2_5A_1 t2_5n_1 t2_5c_1 h_3 →
 CallsU Tryz.prog 70 [Value.pointer (some p)] h_3 fun v_1 h_4 =>
 ∃ t23 : ByteArray, v_1 = Value.string t23 ∧
 CallsU Tryz.prog 120 [Value.pointer (some p)] h_4 fun v_2 h_5 =>
 ∃ t26_0_0 : Int, ∃ t26_0_1 : Bool, ∃ t26_0_2A : Option Addr, ∃ t26_0_2n t26_0_2c : Nat, ∃ t26_0_3A : Option Addr, ∃ t26_0_3n t26_0_3c : Nat, ∃ t26_0_4 : ByteArray, ∃ t26_0_5A : Option Addr, ∃ t26_0_5n t26_0_5c : Nat, ∃ t26_1 : Int, v_2 = Value.tuple #[Value.agg #[Value.int .i64 t26_0_0, Value.bool t26_0_1, Value.slice t26_0_2A t26_0_2n t26_0_2c, Value.slice t26_0_3A t26_0_3n t26_0_3c, Value.string t26_0_4, Value.slice t26_0_5A t26_0_5n t26_0_5c], Value.int .i64 t26_1] ∧
 ∀ (g : Nat) (h_6 : Heap), h_5 g = none → h_6 = Heap.put h_5 g ⟨[Value.int .i64 left_0, Value.bool left_1, Value.slice left_2A left_2n left_2c, Value.slice left_3A left_3n left_3c, Value.string left_4, Value.slice left_5A left_5n left_5c, Value.int .i64 t26_0_0, Value.bool t26_0_1, Value.slice t26_0_2A t26_0_2n t26_0_2c, Value.slice t26_0_3A t26_0_3n t26_0_3c, Value.string t26_0_4, Value.slice t26_0_5A t26_0_5n t26_0_5c], 30, (0, 0)⟩ →
 ∃ m_1, m_1 < m ∧ J m_1 t26_1 t2_0_1 t2_1_1 t2_2A_1 t2_2n_1 t2_2c_1 t2_3A_1 t2_3n_1 t2_3c_1 t2_4_1 t2_5A_1 t2_5n_1 t2_5c_1 kind false none 0 0 none 0 0 ByteArray.empty (some ⟨g, 0, none⟩) 2 2 h_6) ∧
 CallsU Tryz.prog 42 [Value.pointer (some p)] h_2 fun v_3 h_7 =>
 ∃ t16 : ByteArray, v_3 = Value.string t16 ∧
 Br (t16.toList == (⟨#[42]⟩ : ByteArray).toList)
  (C 5 t2_0 t2_1 t2_2A t2_2n t2_2c t2_3A t2_3n t2_3c t2_4 t2_5A t2_5n t2_5c h_7)
  (Br (t16.toList == (⟨#[47]⟩ : ByteArray).toList)
  (C 6 t2_0 t2_1 t2_2A t2_2n t2_2c t2_3A t2_3n t2_3c t2_4 t2_5A t2_5n t2_5c h_7)
  (R (Value.tuple #[Value.agg #[Value.int .i64 left_0, Value.bool left_1, Value.slice left_2A left_2n left_2c, Value.slice left_3A left_3n left_3c, Value.string left_4, Value.slice left_5A left_5n left_5c], Value.int .i64 0]) h_7)))
  (R (Value.tuple #[Value.agg #[Value.int .i64 0, Value.bool false, Value.slice none 0 0, Value.slice none 0 0, Value.string ByteArray.empty, Value.slice none 0 0], Value.int .i64 err]) h_2)

set_option maxRecDepth 100000 in
theorem garment_formula_parser_product_ok {p : Addr} {h : Heap} {R : Value → Heap → Prop} (hv : garment_formula_parser_product_vc p h R) : CallsU Tryz.prog 69 [Value.pointer (some p)] h R :=
  fn_sound Tryz.func69 (by kernel_rfl) (by kernel_rfl) (by kernel_rfl) (fun _ => false) (.two .nil (.two .nil (.two (.one (.loop ⟨[(5, Sh.int .i64)], [(0, [Sh.int .i64, Sh.bool, Sh.slice, Sh.slice, Sh.str, Sh.slice]), (1, [Sh.int .i64, Sh.bool, Sh.slice, Sh.slice, Sh.str, Sh.slice])]⟩ (.two .nil (.one (.two .nil (.cut ⟨[(6, Sh.int .i64)], [(0, [Sh.int .i64, Sh.bool, Sh.slice, Sh.slice, Sh.str, Sh.slice])]⟩ .nil .nil)))))) .nil))) [Value.pointer (some p)] h R (by kernel_rfl)
    (Eq.mp (show garment_formula_parser_product_vc p h R = fnV Tryz.prog Tryz.f69 (fun _ => false) (.two .nil (.two .nil (.two (.one (.loop ⟨[(5, Sh.int .i64)], [(0, [Sh.int .i64, Sh.bool, Sh.slice, Sh.slice, Sh.str, Sh.slice]), (1, [Sh.int .i64, Sh.bool, Sh.slice, Sh.slice, Sh.str, Sh.slice])]⟩ (.two .nil (.one (.two .nil (.cut ⟨[(6, Sh.int .i64)], [(0, [Sh.int .i64, Sh.bool, Sh.slice, Sh.slice, Sh.str, Sh.slice])]⟩ .nil .nil)))))) .nil))) [Value.pointer (some p)] h R by kernel_rfl) hv)

def garment_formula_parser_take_vc (p : Addr) (h : Heap) (R : Value → Heap → Prop) : Prop :=
 CallsU Tryz.prog 42 [Value.pointer (some p)] h fun v h_1 =>
 ∃ t5 : ByteArray, v = Value.string t5 ∧
 ∃ t9 : Int, LdN h_1 (Addr.add p 1) [Value.int .i64 t9] ∧
 ∀ t12 : Int, t12 = IntKind.i64.wrap (t9 + ((t5.size : Nat) : Int)) →
 ∃ b : Blk, h_1 (Addr.block (Addr.add p 1)) = some b ∧ b.fz = (0, 0) ∧ Addr.spot (Addr.add p 1) = none ∧ Addr.off (Addr.add p 1) + 1 ≤ b.cells.length ∧
 ∀ h_2 : Heap, h_2 = Heap.put h_1 (Addr.block (Addr.add p 1)) { b with cells := setSeg b.cells (Addr.off (Addr.add p 1)) [Value.int .i64 t12] } →
 R (Value.string t5) h_2

set_option maxRecDepth 100000 in
theorem garment_formula_parser_take_ok {p : Addr} {h : Heap} {R : Value → Heap → Prop} (hv : garment_formula_parser_take_vc p h R) : CallsU Tryz.prog 70 [Value.pointer (some p)] h R :=
  fn_sound Tryz.func70 (by kernel_rfl) (by kernel_rfl) (by kernel_rfl) (fun _ => false) .nil [Value.pointer (some p)] h R (by kernel_rfl)
    (Eq.mp (show garment_formula_parser_take_vc p h R = fnV Tryz.prog Tryz.f70 (fun _ => false) .nil [Value.pointer (some p)] h R by kernel_rfl) hv)

def formula_numberText_vc (value_0 : Bool) (value_1A : Option Addr) (value_1n value_1c : Nat) (value_2A : Option Addr) (value_2n value_2c : Nat) (h : Heap) (R : Value → Heap → Prop) : Prop :=
 CallsU Tryz.prog 106 [Value.agg #[Value.bool value_0, Value.slice value_1A value_1n value_1c, Value.slice value_2A value_2n value_2c]] h fun v h_1 =>
 ∃ t9_0 : Int, ∃ t9_1 : Bool, v = Value.tuple #[Value.int .i64 t9_0, Value.bool t9_1] ∧
 ∀ t13 : Int, t13 = IntKind.i64.wrap (Int.tdiv t9_0 10000) →
 CallsU Tryz.prog 131 [Value.int .i64 t13] h_1 fun v_1 h_2 =>
 ∃ t14 : ByteArray, v_1 = Value.string t14 ∧
 ∀ t16 : Int, t16 = (Int.tmod t9_0 10000) →
 Br ((t16 : Int) == 0)
  (R (Value.string t14) h_2)
  (∀ t20 : Int, t20 = (Int.tmod t9_0 10000) →
 ∀ t21 : Int, t21 = IntKind.i64.wrap (10000 + t20) →
 CallsU Tryz.prog 131 [Value.int .i64 t21] h_2 fun v_2 h_3 =>
 ∃ t22 : ByteArray, v_2 = Value.string t22 ∧
 ((0 : Nat) : Int) ≤ (1 : Int) ∧ 1 ≤ ((t22.size : Nat) : Int) ∧
 ((t14.size + (⟨#[46]⟩ : ByteArray).size : Nat) : Int) ≤ 9223372036854775807 ∧
 CallsU Tryz.prog 132 [Value.string (ByteArray.extract t22 1 t22.size), Value.string (⟨#[48]⟩ : ByteArray)] h_3 fun v_3 h_4 =>
 ∃ t27 : ByteArray, v_3 = Value.string t27 ∧
 (((t14 ++ (⟨#[46]⟩ : ByteArray)).size + t27.size : Nat) : Int) ≤ 9223372036854775807 ∧
 R (Value.string ((t14 ++ (⟨#[46]⟩ : ByteArray)) ++ t27)) h_4)

set_option maxRecDepth 100000 in
theorem formula_numberText_ok {value_0 : Bool} {value_1A : Option Addr} {value_1n value_1c : Nat} {value_2A : Option Addr} {value_2n value_2c : Nat} {h : Heap} {R : Value → Heap → Prop} (hv : formula_numberText_vc value_0 value_1A value_1n value_1c value_2A value_2n value_2c h R) : CallsU Tryz.prog 80 [Value.agg #[Value.bool value_0, Value.slice value_1A value_1n value_1c, Value.slice value_2A value_2n value_2c]] h R :=
  fn_sound Tryz.func80 (by kernel_rfl) (by kernel_rfl) (by kernel_rfl) (fun _ => false) .nil [Value.agg #[Value.bool value_0, Value.slice value_1A value_1n value_1c, Value.slice value_2A value_2n value_2c]] h R (by kernel_rfl)
    (Eq.mp (show formula_numberText_vc value_0 value_1A value_1n value_1c value_2A value_2n value_2c h R = fnV Tryz.prog Tryz.f80 (fun _ => false) .nil [Value.agg #[Value.bool value_0, Value.slice value_1A value_1n value_1c, Value.slice value_2A value_2n value_2c]] h R by kernel_rfl) hv)

def formula_operand_vc (e_0 : Int) (e_1 : Bool) (e_2A : Option Addr) (e_2n e_2c : Nat) (e_3A : Option Addr) (e_3n e_3c : Nat) (e_4 : ByteArray) (e_5A : Option Addr) (e_5n e_5c : Nat) (required : Int) (h : Heap) (R : Value → Heap → Prop) : Prop :=
 CallsU Tryz.prog 49 [Value.agg #[Value.int .i64 e_0, Value.bool e_1, Value.slice e_2A e_2n e_2c, Value.slice e_3A e_3n e_3c, Value.string e_4, Value.slice e_5A e_5n e_5c]] h fun v h_1 =>
 ∃ t7 : ByteArray, v = Value.string t7 ∧
 CallsU Tryz.prog 133 [Value.int .i64 e_0] h_1 fun v_1 h_2 =>
 ∃ t10 : Int, v_1 = Value.int .i64 t10 ∧
 Br (decide (t10 < required))
  ((((⟨#[40]⟩ : ByteArray).size + t7.size : Nat) : Int) ≤ 9223372036854775807 ∧
 ((((⟨#[40]⟩ : ByteArray) ++ t7).size + (⟨#[41]⟩ : ByteArray).size : Nat) : Int) ≤ 9223372036854775807 ∧
 R (Value.string (((⟨#[40]⟩ : ByteArray) ++ t7) ++ (⟨#[41]⟩ : ByteArray))) h_2)
  (R (Value.string t7) h_2)

set_option maxRecDepth 100000 in
theorem formula_operand_ok {e_0 : Int} {e_1 : Bool} {e_2A : Option Addr} {e_2n e_2c : Nat} {e_3A : Option Addr} {e_3n e_3c : Nat} {e_4 : ByteArray} {e_5A : Option Addr} {e_5n e_5c : Nat} {required : Int} {h : Heap} {R : Value → Heap → Prop} (hv : formula_operand_vc e_0 e_1 e_2A e_2n e_2c e_3A e_3n e_3c e_4 e_5A e_5n e_5c required h R) : CallsU Tryz.prog 81 [Value.agg #[Value.int .i64 e_0, Value.bool e_1, Value.slice e_2A e_2n e_2c, Value.slice e_3A e_3n e_3c, Value.string e_4, Value.slice e_5A e_5n e_5c], Value.int .i64 required] h R :=
  fn_sound Tryz.func81 (by kernel_rfl) (by kernel_rfl) (by kernel_rfl) (fun _ => false) .nil [Value.agg #[Value.int .i64 e_0, Value.bool e_1, Value.slice e_2A e_2n e_2c, Value.slice e_3A e_3n e_3c, Value.string e_4, Value.slice e_5A e_5n e_5c], Value.int .i64 required] h R (by kernel_rfl)
    (Eq.mp (show formula_operand_vc e_0 e_1 e_2A e_2n e_2c e_3A e_3n e_3c e_4 e_5A e_5n e_5c required h R = fnV Tryz.prog Tryz.f81 (fun _ => false) .nil [Value.agg #[Value.int .i64 e_0, Value.bool e_1, Value.slice e_2A e_2n e_2c, Value.slice e_3A e_3n e_3c, Value.string e_4, Value.slice e_5A e_5n e_5c], Value.int .i64 required] h R by kernel_rfl) hv)

def formula_lookUp_vc (envA : Option Addr) (envn _envc : Nat) (name : ByteArray) (h : Heap) (R : Value → Heap → Prop) : Prop :=
 ∃ J : Nat → Int → Bool → Option Addr → Nat → Nat → Option Addr → Nat → Nat → Heap → Prop, (∃ m, J m 0 false none 0 0 none 0 0 h) ∧
 ∀ (m : Nat) (t10 : Int) (t4_0 : Bool) (t4_1A : Option Addr) (t4_1n t4_1c : Nat) (t4_2A : Option Addr) (t4_2n t4_2c : Nat) (h_1 : Heap), J m t10 t4_0 t4_1A t4_1n t4_1c t4_2A t4_2n t4_2c h_1 →
 Br (decide (t10 < ((envn : Nat) : Int)))
  (∃ ad : Addr, envA = some ad ∧ 0 ≤ t10 ∧ t10 < ((envn : Nat) : Int) ∧
 ∃ t13_0 : ByteArray, ∃ t13_1 : Bool, ∃ t13_2A : Option Addr, ∃ t13_2n t13_2c : Nat, ∃ t13_3A : Option Addr, ∃ t13_3n t13_3c : Nat, LdN h_1 (Addr.add ad (Int.toNat t10 * 4)) [Value.string t13_0, Value.bool t13_1, Value.slice t13_2A t13_2n t13_2c, Value.slice t13_3A t13_3n t13_3c] ∧
 Br (t13_0.toList == name.toList)
  (CallsU Tryz.prog 86 [Value.agg #[Value.bool t13_1, Value.slice t13_2A t13_2n t13_2c, Value.slice t13_3A t13_3n t13_3c]] h_1 fun v h_2 =>
 ∃ t20_0 : Bool, ∃ t20_1A : Option Addr, ∃ t20_1n t20_1c : Nat, ∃ t20_2A : Option Addr, ∃ t20_2n t20_2c : Nat, v = Value.agg #[Value.bool t20_0, Value.slice t20_1A t20_1n t20_1c, Value.slice t20_2A t20_2n t20_2c] ∧
 R (Value.tuple #[Value.agg #[Value.bool t20_0, Value.slice t20_1A t20_1n t20_1c, Value.slice t20_2A t20_2n t20_2c], Value.int .i64 0]) h_2)
  (∀ t21 : Int, t21 = IntKind.i64.wrap (t10 + 1) →
 ∃ m_1, m_1 < m ∧ J m_1 t21 t4_0 t4_1A t4_1n t4_1c t4_2A t4_2n t4_2c h_1))
  (R (Value.tuple #[Value.agg #[Value.bool false, Value.slice none 0 0, Value.slice none 0 0], Value.int .i64 6]) h_1)

set_option maxRecDepth 100000 in
theorem formula_lookUp_ok {envA : Option Addr} {envn envc : Nat} {name : ByteArray} {h : Heap} {R : Value → Heap → Prop} (hv : formula_lookUp_vc envA envn envc name h R) : CallsU Tryz.prog 87 [Value.slice envA envn envc, Value.string name] h R :=
  fn_sound Tryz.func87 (by kernel_rfl) (by kernel_rfl) (by kernel_rfl) (fun _ => false) (.two .nil (.two (.two .nil (.one (.loop ⟨[(10, Sh.int .i64)], [(0, [Sh.bool, Sh.slice, Sh.slice])]⟩ .nil))) .nil)) [Value.slice envA envn envc, Value.string name] h R (by kernel_rfl)
    (Eq.mp (show formula_lookUp_vc envA envn envc name h R = fnV Tryz.prog Tryz.f87 (fun _ => false) (.two .nil (.two (.two .nil (.one (.loop ⟨[(10, Sh.int .i64)], [(0, [Sh.bool, Sh.slice, Sh.slice])]⟩ .nil))) .nil)) [Value.slice envA envn envc, Value.string name] h R by kernel_rfl) hv)

def formula_extreme_vc (valuesA : Option Addr) (valuesn valuesc : Nat) (sign : Int) (h : Heap) (R : Value → Heap → Prop) : Prop :=
 ∃ ad : Addr, valuesA = some ad ∧ 0 ≤ (0 : Int) ∧ (0 : Int) < ((valuesn : Nat) : Int) ∧
 ∃ t10_0 : Bool, ∃ t10_1A : Option Addr, ∃ t10_1n t10_1c : Nat, ∃ t10_2A : Option Addr, ∃ t10_2n t10_2c : Nat, LdN h (Addr.add ad (0 * 3)) [Value.bool t10_0, Value.slice t10_1A t10_1n t10_1c, Value.slice t10_2A t10_2n t10_2c] ∧
 ((0 : Nat) : Int) ≤ (1 : Int) ∧ 1 ≤ ((valuesn : Nat) : Int) ∧
 ∃ J : Nat → Int → Bool → Option Addr → Nat → Nat → Option Addr → Nat → Nat → Heap → Prop, (∃ m, J m 0 t10_0 t10_1A t10_1n t10_1c t10_2A t10_2n t10_2c h) ∧
 ∀ (m : Nat) (t14 : Int) (best_0 : Bool) (best_1A : Option Addr) (best_1n best_1c : Nat) (best_2A : Option Addr) (best_2n best_2c : Nat) (h_1 : Heap), J m t14 best_0 best_1A best_1n best_1c best_2A best_2n best_2c h_1 →
 Br (decide (t14 < (((valuesn - 1) : Nat) : Int)))
  (∃ ad_1 : Addr, (if valuesc = 1 then valuesA else Option.map (fun x => Addr.add x (1 * 3)) valuesA) = some ad_1 ∧ 0 ≤ t14 ∧ t14 < (((valuesn - 1) : Nat) : Int) ∧
 ∃ t17_0 : Bool, ∃ t17_1A : Option Addr, ∃ t17_1n t17_1c : Nat, ∃ t17_2A : Option Addr, ∃ t17_2n t17_2c : Nat, LdN h_1 (Addr.add ad_1 (Int.toNat t14 * 3)) [Value.bool t17_0, Value.slice t17_1A t17_1n t17_1c, Value.slice t17_2A t17_2n t17_2c] ∧
 CallsU Tryz.prog 29 [Value.agg #[Value.bool t17_0, Value.slice t17_1A t17_1n t17_1c, Value.slice t17_2A t17_2n t17_2c], Value.agg #[Value.bool best_0, Value.slice best_1A best_1n best_1c, Value.slice best_2A best_2n best_2c]] h_1 fun v h_2 =>
 ∃ t20 : Int, v = Value.int .i64 t20 ∧
 Br ((t20 : Int) == sign)
  (∀ t24 : Int, t24 = IntKind.i64.wrap (t14 + 1) →
 ∃ m_1, m_1 < m ∧ J m_1 t24 t17_0 t17_1A t17_1n t17_1c t17_2A t17_2n t17_2c h_2)
  (∀ t24_1 : Int, t24_1 = IntKind.i64.wrap (t14 + 1) →
 ∃ m_1, m_1 < m ∧ J m_1 t24_1 best_0 best_1A best_1n best_1c best_2A best_2n best_2c h_2))
  (R (Value.agg #[Value.bool best_0, Value.slice best_1A best_1n best_1c, Value.slice best_2A best_2n best_2c]) h_1)

set_option maxRecDepth 100000 in
theorem formula_extreme_ok {valuesA : Option Addr} {valuesn valuesc : Nat} {sign : Int} {h : Heap} {R : Value → Heap → Prop} (hv : formula_extreme_vc valuesA valuesn valuesc sign h R) : CallsU Tryz.prog 89 [Value.slice valuesA valuesn valuesc, Value.int .i64 sign] h R :=
  fn_sound Tryz.func89 (by kernel_rfl) (by kernel_rfl) (by kernel_rfl) (fun _ => false) (.two .nil (.two .nil (.two (.two .nil (.one (.loop ⟨[(14, Sh.int .i64)], [(1, [Sh.bool, Sh.slice, Sh.slice])]⟩ .nil))) .nil))) [Value.slice valuesA valuesn valuesc, Value.int .i64 sign] h R (by kernel_rfl)
    (Eq.mp (show formula_extreme_vc valuesA valuesn valuesc sign h R = fnV Tryz.prog Tryz.f89 (fun _ => false) (.two .nil (.two .nil (.two (.two .nil (.one (.loop ⟨[(14, Sh.int .i64)], [(1, [Sh.bool, Sh.slice, Sh.slice])]⟩ .nil))) .nil))) [Value.slice valuesA valuesn valuesc, Value.int .i64 sign] h R by kernel_rfl) hv)

def formula_operands_vc (kind : Int) (h : Heap) (R : Value → Heap → Prop) : Prop :=
 ∃ C : Bool → Heap → Prop, (∀ (t5 : Bool) (h_1 : Heap), C t5 h_1 →
 Br (t5)
  (R (Value.tuple #[Value.int .i64 0, Value.int .i64 0]) h_1)
  (∃ C_1 : Bool → Heap → Prop, (∀ (t8 : Bool) (h_2 : Heap), C_1 t8 h_2 →
 Br (t8)
  (R (Value.tuple #[Value.int .i64 2, Value.int .i64 2]) h_2)
  (Br ((kind : Int) == 7)
  (R (Value.tuple #[Value.int .i64 1, Value.int .i64 1]) h_2)
  (Br ((kind : Int) == 8)
  (Br ((kind : Int) == 8)
  (R (Value.tuple #[Value.int .i64 1, Value.int .i64 8]) h_2)
  (R (Value.tuple #[Value.int .i64 0, Value.int .i64 (-1)]) h_2))
  (Br ((kind : Int) == 9)
  (R (Value.tuple #[Value.int .i64 1, Value.int .i64 8]) h_2)
  (R (Value.tuple #[Value.int .i64 0, Value.int .i64 (-1)]) h_2))))) ∧
 Br ((kind : Int) == 3)
  (C_1 ((kind : Int) == 3) h_1)
  (Br ((kind : Int) == 4)
  (C_1 ((kind : Int) == 4) h_1)
  (Br ((kind : Int) == 5)
  (C_1 ((kind : Int) == 5) h_1)
  (C_1 ((kind : Int) == 6) h_1))))) ∧
 Br ((kind : Int) == 1)
  (C ((kind : Int) == 1) h)
  (C ((kind : Int) == 2) h)

set_option maxRecDepth 100000 in
theorem formula_operands_ok {kind : Int} {h : Heap} {R : Value → Heap → Prop} (hv : formula_operands_vc kind h R) : CallsU Tryz.prog 104 [Value.int .i64 kind] h R :=
  fn_sound Tryz.func104 (by kernel_rfl) (by kernel_rfl) (by kernel_rfl) (fun _ => false) (.two .nil (.two (.two .nil (.one (.cut ⟨[(5, Sh.bool)], []⟩ .nil (.two .nil (.cut ⟨[(8, Sh.bool)], []⟩ .nil .nil))))) .nil)) [Value.int .i64 kind] h R (by kernel_rfl)
    (Eq.mp (show formula_operands_vc kind h R = fnV Tryz.prog Tryz.f104 (fun _ => false) (.two .nil (.two (.two .nil (.one (.cut ⟨[(5, Sh.bool)], []⟩ .nil (.two .nil (.cut ⟨[(8, Sh.bool)], []⟩ .nil .nil))))) .nil)) [Value.int .i64 kind] h R by kernel_rfl) hv)

def formula_isName_vc (s : ByteArray) (h : Heap) (R : Value → Heap → Prop) : Prop :=
 ∃ C : Bool → Heap → Prop, (∀ (t21 : Bool) (h_1 : Heap), C t21 h_1 →
 Br (t21)
  (R (Value.bool false) h_1)
  (∃ J : Nat → Int → Heap → Prop, (∃ m, J m 0 h_1) ∧
 ∀ (m : Nat) (t24 : Int) (h_2 : Heap), J m t24 h_2 →
 Br (decide (t24 < ((s.size : Nat) : Int)))
  (∃ c : UInt8, 0 ≤ t24 ∧ s[(Int.toNat t24 : Nat)]? = some c ∧
 ∃ C_1 : Bool → Heap → Prop, (∀ (small : Bool) (h_3 : Heap), C_1 small h_3 →
 Br (!small)
  (Br ((t24 : Int) == 0)
  (R (Value.bool false) h_3)
  (Br (((c.toNat : Int) : Int) != 95)
  (CallsU Tryz.prog 153 [Value.int .u8 (c.toNat : Int)] h_3 fun v h_4 =>
 ∃ t46 : Bool, v = Value.bool t46 ∧
 Br (!t46)
  (R (Value.bool false) h_4)
  (∀ t51 : Int, t51 = IntKind.i64.wrap (t24 + 1) →
 ∃ m_1, m_1 < m ∧ J m_1 t51 h_4))
  (∀ t51_1 : Int, t51_1 = IntKind.i64.wrap (t24 + 1) →
 ∃ m_1, m_1 < m ∧ J m_1 t51_1 h_3)))
  (∀ t51_2 : Int, t51_2 = IntKind.i64.wrap (t24 + 1) →
 ∃ m_1, m_1 < m ∧ J m_1 t51_2 h_3)) ∧
 Br (decide ((97 : Int) ≤ (c.toNat : Int)))
  (C_1 (decide ((c.toNat : Int) ≤ 122)) h_2)
  (C_1 false h_2))
  (R (Value.bool true) h_2))) ∧
 Br ((((s.size : Nat) : Int) : Int) == 0)
  (C true h)
  (Br (decide (((s.size : Nat) : Int) > 24))
  (C true h)
  (Br (s.toList == (⟨#[109, 105, 110]⟩ : ByteArray).toList)
  (C true h)
  (C (s.toList == (⟨#[109, 97, 120]⟩ : ByteArray).toList) h)))

set_option maxRecDepth 100000 in
theorem formula_isName_ok {s : ByteArray} {h : Heap} {R : Value → Heap → Prop} (hv : formula_isName_vc s h R) : CallsU Tryz.prog 105 [Value.string s] h R :=
  fn_sound Tryz.func105 (by kernel_rfl) (by kernel_rfl) (by kernel_rfl) (fun _ => false) (.two .nil (.two (.cut ⟨[(21, Sh.bool)], []⟩ .nil .nil) (.two (.two .nil (.one (.loop ⟨[(24, Sh.int .i64)], []⟩ (.two .nil (.two .nil (.two (.one (.two .nil (.two .nil (.cut ⟨[(5, Sh.bool)], []⟩ .nil .nil)))) .nil)))))) .nil))) [Value.string s] h R (by kernel_rfl)
    (Eq.mp (show formula_isName_vc s h R = fnV Tryz.prog Tryz.f105 (fun _ => false) (.two .nil (.two (.cut ⟨[(21, Sh.bool)], []⟩ .nil .nil) (.two (.two .nil (.one (.loop ⟨[(24, Sh.int .i64)], []⟩ (.two .nil (.two .nil (.two (.one (.two .nil (.two .nil (.cut ⟨[(5, Sh.bool)], []⟩ .nil .nil)))) .nil)))))) .nil))) [Value.string s] h R by kernel_rfl) hv)

def formula_inShares_vc (value_0 : Bool) (value_1A : Option Addr) (value_1n value_1c : Nat) (value_2A : Option Addr) (value_2n value_2c : Nat) (h : Heap) (R : Value → Heap → Prop) : Prop :=
 CallsU Tryz.prog 154 [Value.int .i64 10000, Value.int .i64 1] h fun v h_1 =>
 ∃ t10_0_0 : Bool, ∃ t10_0_1A : Option Addr, ∃ t10_0_1n t10_0_1c : Nat, ∃ t10_0_2A : Option Addr, ∃ t10_0_2n t10_0_2c : Nat, ∃ t10_1 : Bool, v = Value.tuple #[Value.agg #[Value.bool t10_0_0, Value.slice t10_0_1A t10_0_1n t10_0_1c, Value.slice t10_0_2A t10_0_2n t10_0_2c], Value.bool t10_1] ∧
 CallsU Tryz.prog 32 [Value.agg #[Value.bool value_0, Value.slice value_1A value_1n value_1c, Value.slice value_2A value_2n value_2c], Value.agg #[Value.bool t10_0_0, Value.slice t10_0_1A t10_0_1n t10_0_1c, Value.slice t10_0_2A t10_0_2n t10_0_2c]] h_1 fun v_1 h_2 =>
 ∃ t15_0 : Bool, ∃ t15_1A : Option Addr, ∃ t15_1n t15_1c : Nat, ∃ t15_2A : Option Addr, ∃ t15_2n t15_2c : Nat, v_1 = Value.agg #[Value.bool t15_0, Value.slice t15_1A t15_1n t15_1c, Value.slice t15_2A t15_2n t15_2c] ∧
 CallsU Tryz.prog 93 [Value.int .u64 1] h_2 fun v_2 h_3 =>
 ∃ t18A : Option Addr, ∃ t18n t18c : Nat, v_2 = Value.slice t18A t18n t18c ∧
 LeH h_2 h_3 ∧
 CallsU Tryz.prog 95 [Value.slice t15_2A t15_2n t15_2c, Value.slice t18A t18n t18c] h_3 fun v_3 h_4 =>
 ∃ t19 : Int, v_3 = Value.int .i64 t19 ∧
 Br ((t19 : Int) != 0)
  (R (Value.tuple #[Value.int .i64 0, Value.bool false]) h_4)
  (CallsU Tryz.prog 155 [Value.agg #[Value.bool t15_0, Value.slice t15_1A t15_1n t15_1c]] h_4 fun v_4 h_5 =>
 ∃ t24_0 : Int, ∃ t24_1 : Bool, v_4 = Value.tuple #[Value.int .i64 t24_0, Value.bool t24_1] ∧
 Br (!t24_1)
  (R (Value.tuple #[Value.int .i64 0, Value.bool false]) h_5)
  (Br (decide (t24_0 < 0))
  (R (Value.tuple #[Value.int .i64 0, Value.bool false]) h_5)
  (Br (decide (t24_0 > 9999999999999))
  (R (Value.tuple #[Value.int .i64 0, Value.bool false]) h_5)
  (R (Value.tuple #[Value.int .i64 t24_0, Value.bool true]) h_5))))

set_option maxRecDepth 100000 in
theorem formula_inShares_ok {value_0 : Bool} {value_1A : Option Addr} {value_1n value_1c : Nat} {value_2A : Option Addr} {value_2n value_2c : Nat} {h : Heap} {R : Value → Heap → Prop} (hv : formula_inShares_vc value_0 value_1A value_1n value_1c value_2A value_2n value_2c h R) : CallsU Tryz.prog 106 [Value.agg #[Value.bool value_0, Value.slice value_1A value_1n value_1c, Value.slice value_2A value_2n value_2c]] h R :=
  fn_sound Tryz.func106 (by kernel_rfl) (by kernel_rfl) (by kernel_rfl) (fun _ => false) (.two .nil (.two .nil (.two .nil (.two (.two (.ord [0, 1, 2, 3, 4]) .nil) .nil)))) [Value.agg #[Value.bool value_0, Value.slice value_1A value_1n value_1c, Value.slice value_2A value_2n value_2c]] h R (by kernel_rfl)
    (Eq.mp (show formula_inShares_vc value_0 value_1A value_1n value_1c value_2A value_2n value_2c h R = fnV Tryz.prog Tryz.f106 (fun _ => false) (.two .nil (.two .nil (.two .nil (.two (.two (.ord [0, 1, 2, 3, 4]) .nil) .nil)))) [Value.agg #[Value.bool value_0, Value.slice value_1A value_1n value_1c, Value.slice value_2A value_2n value_2c]] h R by kernel_rfl) hv)

def garment_formula_parser_factor_vc (p : Addr) (h : Heap) (R : Value → Heap → Prop) : Prop :=
 CallsU Tryz.prog 70 [Value.pointer (some p)] h fun v h_1 =>
 ∃ t12 : ByteArray, v = Value.string t12 ∧
 Br (t12.toList == (⟨#[]⟩ : ByteArray).toList)
  (R (Value.tuple #[Value.agg #[Value.int .i64 0, Value.bool false, Value.slice none 0 0, Value.slice none 0 0, Value.string ByteArray.empty, Value.slice none 0 0], Value.int .i64 4]) h_1)
  (Br (t12.toList == (⟨#[45]⟩ : ByteArray).toList)
  (CallsU Tryz.prog 120 [Value.pointer (some p)] h_1 fun v_1 h_2 =>
 ∃ t34_0_0 : Int, ∃ t34_0_1 : Bool, ∃ t34_0_2A : Option Addr, ∃ t34_0_2n t34_0_2c : Nat, ∃ t34_0_3A : Option Addr, ∃ t34_0_3n t34_0_3c : Nat, ∃ t34_0_4 : ByteArray, ∃ t34_0_5A : Option Addr, ∃ t34_0_5n t34_0_5c : Nat, ∃ t34_1 : Int, v_1 = Value.tuple #[Value.agg #[Value.int .i64 t34_0_0, Value.bool t34_0_1, Value.slice t34_0_2A t34_0_2n t34_0_2c, Value.slice t34_0_3A t34_0_3n t34_0_3c, Value.string t34_0_4, Value.slice t34_0_5A t34_0_5n t34_0_5c], Value.int .i64 t34_1] ∧
 Br ((t34_1 : Int) != 0)
  (R (Value.tuple #[Value.agg #[Value.int .i64 0, Value.bool false, Value.slice none 0 0, Value.slice none 0 0, Value.string ByteArray.empty, Value.slice none 0 0], Value.int .i64 t34_1]) h_2)
  (∀ (g : Nat) (h_3 : Heap), h_2 g = none → h_3 = Heap.put h_2 g ⟨[Value.int .i64 t34_0_0, Value.bool t34_0_1, Value.slice t34_0_2A t34_0_2n t34_0_2c, Value.slice t34_0_3A t34_0_3n t34_0_3c, Value.string t34_0_4, Value.slice t34_0_5A t34_0_5n t34_0_5c], 30, (0, 0)⟩ →
 R (Value.tuple #[Value.agg #[Value.int .i64 7, Value.bool false, Value.slice none 0 0, Value.slice none 0 0, Value.string ByteArray.empty, Value.slice (some ⟨g, 0, none⟩) 1 1], Value.int .i64 0]) h_3))
  (Br (t12.toList == (⟨#[40]⟩ : ByteArray).toList)
  (CallsU Tryz.prog 41 [Value.pointer (some p)] h_1 fun v_2 h_4 =>
 ∃ t48_0_0 : Int, ∃ t48_0_1 : Bool, ∃ t48_0_2A : Option Addr, ∃ t48_0_2n t48_0_2c : Nat, ∃ t48_0_3A : Option Addr, ∃ t48_0_3n t48_0_3c : Nat, ∃ t48_0_4 : ByteArray, ∃ t48_0_5A : Option Addr, ∃ t48_0_5n t48_0_5c : Nat, ∃ t48_1 : Int, v_2 = Value.tuple #[Value.agg #[Value.int .i64 t48_0_0, Value.bool t48_0_1, Value.slice t48_0_2A t48_0_2n t48_0_2c, Value.slice t48_0_3A t48_0_3n t48_0_3c, Value.string t48_0_4, Value.slice t48_0_5A t48_0_5n t48_0_5c], Value.int .i64 t48_1] ∧
 Br ((t48_1 : Int) == 0)
  (CallsU Tryz.prog 163 [Value.pointer (some p), Value.string (⟨#[41]⟩ : ByteArray)] h_4 fun v_3 h_5 =>
 ∃ t54 : Int, v_3 = Value.int .i64 t54 ∧
 Br ((t54 : Int) != 0)
  (R (Value.tuple #[Value.agg #[Value.int .i64 0, Value.bool false, Value.slice none 0 0, Value.slice none 0 0, Value.string ByteArray.empty, Value.slice none 0 0], Value.int .i64 t54]) h_5)
  (R (Value.tuple #[Value.agg #[Value.int .i64 t48_0_0, Value.bool t48_0_1, Value.slice t48_0_2A t48_0_2n t48_0_2c, Value.slice t48_0_3A t48_0_3n t48_0_3c, Value.string t48_0_4, Value.slice t48_0_5A t48_0_5n t48_0_5c], Value.int .i64 0]) h_5))
  (Br ((t48_1 : Int) != 0)
  (R (Value.tuple #[Value.agg #[Value.int .i64 0, Value.bool false, Value.slice none 0 0, Value.slice none 0 0, Value.string ByteArray.empty, Value.slice none 0 0], Value.int .i64 t48_1]) h_4)
  (R (Value.tuple #[Value.agg #[Value.int .i64 t48_0_0, Value.bool t48_0_1, Value.slice t48_0_2A t48_0_2n t48_0_2c, Value.slice t48_0_3A t48_0_3n t48_0_3c, Value.string t48_0_4, Value.slice t48_0_5A t48_0_5n t48_0_5c], Value.int .i64 0]) h_4)))
  (Br (t12.toList == (⟨#[109, 105, 110]⟩ : ByteArray).toList)
  (CallsU Tryz.prog 164 [Value.pointer (some p), Value.int .i64 8] h_1 fun v_4 h_6 =>
 ∃ t63_0_0 : Int, ∃ t63_0_1 : Bool, ∃ t63_0_2A : Option Addr, ∃ t63_0_2n t63_0_2c : Nat, ∃ t63_0_3A : Option Addr, ∃ t63_0_3n t63_0_3c : Nat, ∃ t63_0_4 : ByteArray, ∃ t63_0_5A : Option Addr, ∃ t63_0_5n t63_0_5c : Nat, ∃ t63_1 : Int, v_4 = Value.tuple #[Value.agg #[Value.int .i64 t63_0_0, Value.bool t63_0_1, Value.slice t63_0_2A t63_0_2n t63_0_2c, Value.slice t63_0_3A t63_0_3n t63_0_3c, Value.string t63_0_4, Value.slice t63_0_5A t63_0_5n t63_0_5c], Value.int .i64 t63_1] ∧
 R (Value.tuple #[Value.agg #[Value.int .i64 t63_0_0, Value.bool t63_0_1, Value.slice t63_0_2A t63_0_2n t63_0_2c, Value.slice t63_0_3A t63_0_3n t63_0_3c, Value.string t63_0_4, Value.slice t63_0_5A t63_0_5n t63_0_5c], Value.int .i64 t63_1]) h_6)
  (Br (t12.toList == (⟨#[109, 97, 120]⟩ : ByteArray).toList)
  (CallsU Tryz.prog 164 [Value.pointer (some p), Value.int .i64 9] h_1 fun v_5 h_7 =>
 ∃ t69_0_0 : Int, ∃ t69_0_1 : Bool, ∃ t69_0_2A : Option Addr, ∃ t69_0_2n t69_0_2c : Nat, ∃ t69_0_3A : Option Addr, ∃ t69_0_3n t69_0_3c : Nat, ∃ t69_0_4 : ByteArray, ∃ t69_0_5A : Option Addr, ∃ t69_0_5n t69_0_5c : Nat, ∃ t69_1 : Int, v_5 = Value.tuple #[Value.agg #[Value.int .i64 t69_0_0, Value.bool t69_0_1, Value.slice t69_0_2A t69_0_2n t69_0_2c, Value.slice t69_0_3A t69_0_3n t69_0_3c, Value.string t69_0_4, Value.slice t69_0_5A t69_0_5n t69_0_5c], Value.int .i64 t69_1] ∧
 R (Value.tuple #[Value.agg #[Value.int .i64 t69_0_0, Value.bool t69_0_1, Value.slice t69_0_2A t69_0_2n t69_0_2c, Value.slice t69_0_3A t69_0_3n t69_0_3c, Value.string t69_0_4, Value.slice t69_0_5A t69_0_5n t69_0_5c], Value.int .i64 t69_1]) h_7)
  (CallsU Tryz.prog 165 [Value.string t12] h_1 fun v_6 h_8 =>
 ∃ t16_0_0 : Bool, ∃ t16_0_1A : Option Addr, ∃ t16_0_1n t16_0_1c : Nat, ∃ t16_0_2A : Option Addr, ∃ t16_0_2n t16_0_2c : Nat, ∃ t16_1 : Bool, v_6 = Value.tuple #[Value.agg #[Value.bool t16_0_0, Value.slice t16_0_1A t16_0_1n t16_0_1c, Value.slice t16_0_2A t16_0_2n t16_0_2c], Value.bool t16_1] ∧
 Br (t16_1)
  (R (Value.tuple #[Value.agg #[Value.int .i64 1, Value.bool t16_0_0, Value.slice t16_0_1A t16_0_1n t16_0_1c, Value.slice t16_0_2A t16_0_2n t16_0_2c, Value.string ByteArray.empty, Value.slice none 0 0], Value.int .i64 0]) h_8)
  (CallsU Tryz.prog 105 [Value.string t12] h_8 fun v_7 h_9 =>
 ∃ t23 : Bool, v_7 = Value.bool t23 ∧
 Br (t23)
  (R (Value.tuple #[Value.agg #[Value.int .i64 2, Value.bool false, Value.slice none 0 0, Value.slice none 0 0, Value.string t12, Value.slice none 0 0], Value.int .i64 0]) h_9)
  (R (Value.tuple #[Value.agg #[Value.int .i64 0, Value.bool false, Value.slice none 0 0, Value.slice none 0 0, Value.string ByteArray.empty, Value.slice none 0 0], Value.int .i64 2]) h_9)))))))

set_option maxRecDepth 100000 in
theorem garment_formula_parser_factor_ok {p : Addr} {h : Heap} {R : Value → Heap → Prop} (hv : garment_formula_parser_factor_vc p h R) : CallsU Tryz.prog 120 [Value.pointer (some p)] h R :=
  fn_sound Tryz.func120 (by kernel_rfl) (by kernel_rfl) (by kernel_rfl) (fun _ => false) .nil [Value.pointer (some p)] h R (by kernel_rfl)
    (Eq.mp (show garment_formula_parser_factor_vc p h R = fnV Tryz.prog Tryz.f120 (fun _ => false) .nil [Value.pointer (some p)] h R by kernel_rfl) hv)

def formula_closeness_vc (kind : Int) (h : Heap) (R : Value → Heap → Prop) : Prop :=
 Br ((kind : Int) == 3)
  (Br ((kind : Int) == 3)
  (R (Value.int .i64 0) h)
  (Br ((kind : Int) == 5)
  (Br ((kind : Int) == 5)
  (R (Value.int .i64 1) h)
  (R (Value.int .i64 2) h))
  (Br ((kind : Int) == 6)
  (R (Value.int .i64 1) h)
  (R (Value.int .i64 2) h))))
  (Br ((kind : Int) == 4)
  (R (Value.int .i64 0) h)
  (Br ((kind : Int) == 5)
  (Br ((kind : Int) == 5)
  (R (Value.int .i64 1) h)
  (R (Value.int .i64 2) h))
  (Br ((kind : Int) == 6)
  (R (Value.int .i64 1) h)
  (R (Value.int .i64 2) h))))

set_option maxRecDepth 100000 in
theorem formula_closeness_ok {kind : Int} {h : Heap} {R : Value → Heap → Prop} (hv : formula_closeness_vc kind h R) : CallsU Tryz.prog 133 [Value.int .i64 kind] h R :=
  fn_sound Tryz.func133 (by kernel_rfl) (by kernel_rfl) (by kernel_rfl) (fun _ => false) .nil [Value.int .i64 kind] h R (by kernel_rfl)
    (Eq.mp (show formula_closeness_vc kind h R = fnV Tryz.prog Tryz.f133 (fun _ => false) .nil [Value.int .i64 kind] h R by kernel_rfl) hv)

def formula_isDigit_vc (c : Int) (h : Heap) (R : Value → Heap → Prop) : Prop :=
 Br (decide ((48 : Int) ≤ c))
  (R (Value.bool (decide (c ≤ 57))) h)
  (R (Value.bool false) h)

set_option maxRecDepth 100000 in
theorem formula_isDigit_ok {c : Int} {h : Heap} {R : Value → Heap → Prop} (hv : formula_isDigit_vc c h R) : CallsU Tryz.prog 153 [Value.int .u8 c] h R :=
  fn_sound Tryz.func153 (by kernel_rfl) (by kernel_rfl) (by kernel_rfl) (fun _ => false) .nil [Value.int .u8 c] h R (by kernel_rfl)
    (Eq.mp (show formula_isDigit_vc c h R = fnV Tryz.prog Tryz.f153 (fun _ => false) .nil [Value.int .u8 c] h R by kernel_rfl) hv)

def garment_formula_parser_expect_vc (p : Addr) (token : ByteArray) (h : Heap) (R : Value → Heap → Prop) : Prop :=
 CallsU Tryz.prog 70 [Value.pointer (some p)] h fun v h_1 =>
 ∃ t6 : ByteArray, v = Value.string t6 ∧
 Br (t6.toList == token.toList)
  (R (Value.int .i64 0) h_1)
  (Br (t6.toList == (⟨#[]⟩ : ByteArray).toList)
  (R (Value.int .i64 4) h_1)
  (R (Value.int .i64 2) h_1))

set_option maxRecDepth 100000 in
theorem garment_formula_parser_expect_ok {p : Addr} {token : ByteArray} {h : Heap} {R : Value → Heap → Prop} (hv : garment_formula_parser_expect_vc p token h R) : CallsU Tryz.prog 163 [Value.pointer (some p), Value.string token] h R :=
  fn_sound Tryz.func163 (by kernel_rfl) (by kernel_rfl) (by kernel_rfl) (fun _ => false) .nil [Value.pointer (some p), Value.string token] h R (by kernel_rfl)
    (Eq.mp (show garment_formula_parser_expect_vc p token h R = fnV Tryz.prog Tryz.f163 (fun _ => false) .nil [Value.pointer (some p), Value.string token] h R by kernel_rfl) hv)

def garment_formula_parser_call_vc (p : Addr) (kind : Int) (h : Heap) (R : Value → Heap → Prop) : Prop :=
 CallsU Tryz.prog 163 [Value.pointer (some p), Value.string (⟨#[40]⟩ : ByteArray)] h fun v h_1 =>
 ∃ t12 : Int, v = Value.int .i64 t12 ∧
 Br ((t12 : Int) != 0)
  (R (Value.tuple #[Value.agg #[Value.int .i64 0, Value.bool false, Value.slice none 0 0, Value.slice none 0 0, Value.string ByteArray.empty, Value.slice none 0 0], Value.int .i64 t12]) h_1)
  (∃ J : Nat → Option Addr → Nat → Nat → Int → Bool → Option Addr → Nat → Nat → Option Addr → Nat → Nat → ByteArray → Option Addr → Nat → Nat → Heap → Prop, (∃ m, J m none 0 0 0 false none 0 0 none 0 0 ByteArray.empty none 0 0 h_1) ∧
 ∀ (m : Nat) (kidsA : Option Addr) (kidsn kidsc : Nat) (t4_0 : Int) (t4_1 : Bool) (t4_2A : Option Addr) (t4_2n t4_2c : Nat) (t4_3A : Option Addr) (t4_3n t4_3c : Nat) (t4_4 : ByteArray) (t4_5A : Option Addr) (t4_5n t4_5c : Nat) (h_2 : Heap), J m kidsA kidsn kidsc t4_0 t4_1 t4_2A t4_2n t4_2c t4_3A t4_3n t4_3c t4_4 t4_5A t4_5n t4_5c h_2 →
 CallsU Tryz.prog 41 [Value.pointer (some p)] h_2 fun v_1 h_3 =>
 ∃ t19_0_0 : Int, ∃ t19_0_1 : Bool, ∃ t19_0_2A : Option Addr, ∃ t19_0_2n t19_0_2c : Nat, ∃ t19_0_3A : Option Addr, ∃ t19_0_3n t19_0_3c : Nat, ∃ t19_0_4 : ByteArray, ∃ t19_0_5A : Option Addr, ∃ t19_0_5n t19_0_5c : Nat, ∃ t19_1 : Int, v_1 = Value.tuple #[Value.agg #[Value.int .i64 t19_0_0, Value.bool t19_0_1, Value.slice t19_0_2A t19_0_2n t19_0_2c, Value.slice t19_0_3A t19_0_3n t19_0_3c, Value.string t19_0_4, Value.slice t19_0_5A t19_0_5n t19_0_5c], Value.int .i64 t19_1] ∧
 Br ((t19_1 : Int) != 0)
  (R (Value.tuple #[Value.agg #[Value.int .i64 0, Value.bool false, Value.slice none 0 0, Value.slice none 0 0, Value.string ByteArray.empty, Value.slice none 0 0], Value.int .i64 t19_1]) h_3)
  (∃ C : Option Addr → Nat → Nat → Heap → Prop, (∀ (kidsA_1 : Option Addr) (kidsn_1 kidsc_1 : Nat) (h_4 : Heap), C kidsA_1 kidsn_1 kidsc_1 h_4 →
 CallsU Tryz.prog 70 [Value.pointer (some p)] h_4 fun v_2 h_5 =>
 ∃ t31 : ByteArray, v_2 = Value.string t31 ∧
 Br (t31.toList == (⟨#[41]⟩ : ByteArray).toList)
  (R (Value.tuple #[Value.agg #[Value.int .i64 kind, Value.bool false, Value.slice none 0 0, Value.slice none 0 0, Value.string ByteArray.empty, Value.slice kidsA_1 kidsn_1 kidsc_1], Value.int .i64 0]) h_5)
  (Br (t31.toList == (⟨#[]⟩ : ByteArray).toList)
  (R (Value.tuple #[Value.agg #[Value.int .i64 0, Value.bool false, Value.slice none 0 0, Value.slice none 0 0, Value.string ByteArray.empty, Value.slice none 0 0], Value.int .i64 4]) h_5)
  (Br (!(t31.toList == (⟨#[44]⟩ : ByteArray).toList))
  (R (Value.tuple #[Value.agg #[Value.int .i64 0, Value.bool false, Value.slice none 0 0, Value.slice none 0 0, Value.string ByteArray.empty, Value.slice none 0 0], Value.int .i64 2]) h_5)
  (Br ((((kidsn_1 : Nat) : Int) : Int) == 8)
  (R (Value.tuple #[Value.agg #[Value.int .i64 0, Value.bool false, Value.slice none 0 0, Value.slice none 0 0, Value.string ByteArray.empty, Value.slice none 0 0], Value.int .i64 2]) h_5)
  (∃ m_1, m_1 < m ∧ J m_1 kidsA_1 kidsn_1 kidsc_1 t4_0 t4_1 t4_2A t4_2n t4_2c t4_3A t4_3n t4_3c t4_4 t4_5A t4_5n t4_5c h_5))))) ∧
 ∀ (g : Nat) (h_6 : Heap), h_3 g = none → h_6 = Heap.put h_3 g ⟨[Value.int .i64 t19_0_0, Value.bool t19_0_1, Value.slice t19_0_2A t19_0_2n t19_0_2c, Value.slice t19_0_3A t19_0_3n t19_0_3c, Value.string t19_0_4, Value.slice t19_0_5A t19_0_5n t19_0_5c], 30, (0, 0)⟩ →
 ∃ xs : List Value, RdS h_6 (some ⟨g, 0, none⟩) (1 * 6) xs ∧ (∀ x ∈ xs, Go.Vcg.one x = true) ∧
 (kidsn + 1 ≤ kidsc → ∃ (ad : Addr) (b : Blk), kidsA = some ad ∧ ad.spot = none ∧ h_6 ad.block = some b ∧ b.fz = (0, 0) ∧ ad.off + kidsn * 6 + 1 * 6 ≤ b.cells.length ∧
 ∀ h_8 : Heap, h_8 = Heap.put h_6 ad.block { b with cells := setSeg b.cells (ad.off + kidsn * 6) xs } →
 C kidsA (kidsn + 1) kidsc h_8) ∧
 (kidsc < kidsn + 1 → ∃ olds : List Value, RdS h_6 kidsA (kidsn * 6) olds ∧ (kidsn + 1) * 104 ≤ 140737488355328 ∧
 ∀ (g_1 cap : Nat) (h_9 : Heap), h_6 g_1 = none → kidsn + 1 ≤ cap → h_9 = Heap.put h_6 g_1 ⟨olds ++ xs ++ repV [Value.int .i64 0, Value.bool false, Value.slice none 0 0, Value.slice none 0 0, Value.string ByteArray.empty, Value.slice none 0 0] (cap - (kidsn + 1)), 30, (0, 0)⟩ →
 C (some ⟨g_1, 0, none⟩) (kidsn + 1) cap h_9)))

set_option maxRecDepth 100000 in
theorem garment_formula_parser_call_ok {p : Addr} {kind : Int} {h : Heap} {R : Value → Heap → Prop} (hv : garment_formula_parser_call_vc p kind h R) : CallsU Tryz.prog 164 [Value.pointer (some p), Value.int .i64 kind] h R :=
  fn_sound Tryz.func164 (by kernel_rfl) (by kernel_rfl) (by kernel_rfl) (fun _ => false) (.two .nil (.two .nil (.two .nil (.one (.loop ⟨[(7, Sh.slice)], [(0, [Sh.int .i64, Sh.bool, Sh.slice, Sh.slice, Sh.str, Sh.slice])]⟩ (.one (.two .nil (.two .nil (.cut ⟨[(7, Sh.slice)], []⟩ .nil .nil))))))))) [Value.pointer (some p), Value.int .i64 kind] h R (by kernel_rfl)
    (Eq.mp (show garment_formula_parser_call_vc p kind h R = fnV Tryz.prog Tryz.f164 (fun _ => false) (.two .nil (.two .nil (.two .nil (.one (.loop ⟨[(7, Sh.slice)], [(0, [Sh.int .i64, Sh.bool, Sh.slice, Sh.slice, Sh.str, Sh.slice])]⟩ (.one (.two .nil (.two .nil (.cut ⟨[(7, Sh.slice)], []⟩ .nil .nil))))))))) [Value.pointer (some p), Value.int .i64 kind] h R by kernel_rfl) hv)

def formula_number_vc (word : ByteArray) (h : Heap) (R : Value → Heap → Prop) : Prop :=
 CallsU Tryz.prog 189 [Value.string word, Value.string (⟨#[46]⟩ : ByteArray)] h fun v h_1 =>
 ∃ t12_0 : ByteArray, ∃ t12_1 : ByteArray, ∃ t12_2 : Bool, v = Value.tuple #[Value.string t12_0, Value.string t12_1, Value.bool t12_2] ∧
 ∃ C : Bool → Option Addr → Nat → Nat → Option Addr → Nat → Nat → Heap → Prop, (∀ (t2_0 : Bool) (t2_1A : Option Addr) (t2_1n t2_1c : Nat) (t2_2A : Option Addr) (t2_2n t2_2c : Nat) (h_2 : Heap), C t2_0 t2_1A t2_1n t2_1c t2_2A t2_2n t2_2c h_2 →
 ∃ C_1 : Bool → Option Addr → Nat → Nat → Option Addr → Nat → Nat → Heap → Prop, (∀ (t2_0_1 : Bool) (t2_1A_1 : Option Addr) (t2_1n_1 t2_1c_1 : Nat) (t2_2A_1 : Option Addr) (t2_2n_1 t2_2c_1 : Nat) (h_3 : Heap), C_1 t2_0_1 t2_1A_1 t2_1n_1 t2_1c_1 t2_2A_1 t2_2n_1 t2_2c_1 h_3 →
 ((t12_0.size + t12_1.size : Nat) : Int) ≤ 9223372036854775807 ∧
 CallsU Tryz.prog 191 [Value.string (t12_0 ++ t12_1)] h_3 fun v_1 h_4 =>
 ∃ t41_0 : Int, ∃ t41_1 : Value, v_1 = Value.tuple #[Value.int .i64 t41_0, t41_1] ∧
 isIf t41_1 = true ∧
 Br (!(isNilI t41_1))
  (R (Value.tuple #[Value.agg #[Value.bool false, Value.slice none 0 0, Value.slice none 0 0], Value.bool false]) h_4)
  (∃ J : Nat → Int → Int → Heap → Prop, (∃ m, J m 1 0 h_4) ∧
 ∀ (m : Nat) (den : Int) (t49 : Int) (h_5 : Heap), J m den t49 h_5 →
 Br (decide (t49 < ((t12_1.size : Nat) : Int)))
  (∀ t52 : Int, t52 = IntKind.i64.wrap (den * 10) →
 ∀ t53 : Int, t53 = IntKind.i64.wrap (t49 + 1) →
 ∃ m_1, m_1 < m ∧ J m_1 t52 t53 h_5)
  (CallsU Tryz.prog 154 [Value.int .i64 t41_0, Value.int .i64 den] h_5 fun v_2 h_6 =>
 ∃ t56_0_0 : Bool, ∃ t56_0_1A : Option Addr, ∃ t56_0_1n t56_0_1c : Nat, ∃ t56_0_2A : Option Addr, ∃ t56_0_2n t56_0_2c : Nat, ∃ t56_1 : Bool, v_2 = Value.tuple #[Value.agg #[Value.bool t56_0_0, Value.slice t56_0_1A t56_0_1n t56_0_1c, Value.slice t56_0_2A t56_0_2n t56_0_2c], Value.bool t56_1] ∧
 R (Value.tuple #[Value.agg #[Value.bool t56_0_0, Value.slice t56_0_1A t56_0_1n t56_0_1c, Value.slice t56_0_2A t56_0_2n t56_0_2c], Value.bool t56_1]) h_6))) ∧
 Br (t12_2)
  (CallsU Tryz.prog 190 [Value.string t12_1, Value.int .i64 4] h_2 fun v_3 h_7 =>
 ∃ t33 : Bool, v_3 = Value.bool t33 ∧
 Br (!t33)
  (R (Value.tuple #[Value.agg #[Value.bool false, Value.slice none 0 0, Value.slice none 0 0], Value.bool false]) h_7)
  (C_1 t2_0 t2_1A t2_1n t2_1c t2_2A t2_2n t2_2c h_7))
  (C_1 t2_0 t2_1A t2_1n t2_1c t2_2A t2_2n t2_2c h_2)) ∧
 CallsU Tryz.prog 190 [Value.string t12_0, Value.int .i64 9] h_1 fun v_4 h_8 =>
 ∃ t17 : Bool, v_4 = Value.bool t17 ∧
 Br (!t17)
  (R (Value.tuple #[Value.agg #[Value.bool false, Value.slice none 0 0, Value.slice none 0 0], Value.bool false]) h_8)
  (Br (decide (((t12_0.size : Nat) : Int) > 1))
  (∃ c : UInt8, 0 ≤ (0 : Int) ∧ t12_0[(0 : Nat)]? = some c ∧
 Br (((c.toNat : Int) : Int) == 48)
  (R (Value.tuple #[Value.agg #[Value.bool false, Value.slice none 0 0, Value.slice none 0 0], Value.bool false]) h_8)
  (C false none 0 0 none 0 0 h_8))
  (C false none 0 0 none 0 0 h_8))

set_option maxRecDepth 100000 in
theorem formula_number_ok {word : ByteArray} {h : Heap} {R : Value → Heap → Prop} (hv : formula_number_vc word h R) : CallsU Tryz.prog 165 [Value.string word] h R :=
  fn_sound Tryz.func165 (by kernel_rfl) (by kernel_rfl) (by kernel_rfl) (fun _ => false) (.two .nil (.two .nil (.cut ⟨[], [(0, [Sh.bool, Sh.slice, Sh.slice])]⟩ .nil (.cut ⟨[], [(0, [Sh.bool, Sh.slice, Sh.slice])]⟩ .nil (.two .nil (.two .nil (.two .nil (.two (.two .nil (.one (.loop ⟨[(9, Sh.int .i64), (49, Sh.int .i64)], []⟩ .nil))) .nil)))))))) [Value.string word] h R (by kernel_rfl)
    (Eq.mp (show formula_number_vc word h R = fnV Tryz.prog Tryz.f165 (fun _ => false) (.two .nil (.two .nil (.cut ⟨[], [(0, [Sh.bool, Sh.slice, Sh.slice])]⟩ .nil (.cut ⟨[], [(0, [Sh.bool, Sh.slice, Sh.slice])]⟩ .nil (.two .nil (.two .nil (.two .nil (.two (.two .nil (.one (.loop ⟨[(9, Sh.int .i64), (49, Sh.int .i64)], []⟩ .nil))) .nil)))))))) [Value.string word] h R by kernel_rfl) hv)

def formula_digits_vc (s : ByteArray) (most : Int) (h : Heap) (R : Value → Heap → Prop) : Prop :=
 ∃ J : Nat → Int → Heap → Prop, (∃ m, J m 0 h) ∧
 ∀ (m : Nat) (t8 : Int) (h_1 : Heap), J m t8 h_1 →
 Br (decide (t8 < ((s.size : Nat) : Int)))
  (∃ c : UInt8, 0 ≤ t8 ∧ s[(Int.toNat t8 : Nat)]? = some c ∧
 CallsU Tryz.prog 153 [Value.int .u8 (c.toNat : Int)] h_1 fun v h_2 =>
 ∃ t14 : Bool, v = Value.bool t14 ∧
 Br (!t14)
  (R (Value.bool false) h_2)
  (∀ t16 : Int, t16 = IntKind.i64.wrap (t8 + 1) →
 ∃ m_1, m_1 < m ∧ J m_1 t16 h_2))
  (Br (decide ((1 : Int) ≤ ((s.size : Nat) : Int)))
  (R (Value.bool (decide (((s.size : Nat) : Int) ≤ most))) h_1)
  (R (Value.bool false) h_1))

set_option maxRecDepth 100000 in
theorem formula_digits_ok {s : ByteArray} {most : Int} {h : Heap} {R : Value → Heap → Prop} (hv : formula_digits_vc s most h R) : CallsU Tryz.prog 190 [Value.string s, Value.int .i64 most] h R :=
  fn_sound Tryz.func190 (by kernel_rfl) (by kernel_rfl) (by kernel_rfl) (fun _ => false) (.two .nil (.two (.two .nil (.one (.loop ⟨[(8, Sh.int .i64)], []⟩ .nil))) .nil)) [Value.string s, Value.int .i64 most] h R (by kernel_rfl)
    (Eq.mp (show formula_digits_vc s most h R = fnV Tryz.prog Tryz.f190 (fun _ => false) (.two .nil (.two (.two .nil (.one (.loop ⟨[(8, Sh.int .i64)], []⟩ .nil))) .nil)) [Value.string s, Value.int .i64 most] h R by kernel_rfl) hv)

end Go.Proofs.YtdpdaphholileaaGreatDoor

/-
  Contracts: strings.Builder: copyCheck, String (with the world behind it).
-/
namespace Go.Proofs.YtdpdaphholileaaGreatDoor
open Go Go.Vcg Go.RowKit
attribute [local irreducible] Br

end Go.Proofs.YtdpdaphholileaaGreatDoor

/- Made by vcgen.py: verification conditions of functions, each held against the calculator by the kernel. -/
namespace Go.Proofs.YtdpdaphholileaaGreatDoor
open Go Go.Vcg

end Go.Proofs.YtdpdaphholileaaGreatDoor

/-
  Contracts: utf8.appendRuneNonASCII, AppendRune; strings.Builder: copyCheck, WriteByte, WriteRune, String.
-/
namespace Go.Proofs.YtdpdaphholileaaGreatDoor
open Go Go.Vcg
attribute [local irreducible] Br

end Go.Proofs.YtdpdaphholileaaGreatDoor

/-
  Contracts: strings.Builder: copyCheck, WriteByte, WriteRune, String, as a builder b whose bytes lie in the block q.
-/
namespace Go.Proofs.YtdpdaphholileaaGreatDoor
open Go Go.Vcg
attribute [local irreducible] Br

def adQ (q : Option Nat) : Option Addr := q.map fun g => ⟨g, 0, none⟩

def bdB (p : Option Addr) (q : Option Nat) (n c : Nat) : Blk := ⟨[.pointer p, .slice (adQ q) n c], 134, (0, 0)⟩

structure IsB (h : Heap) (b : Nat) (q : Option Nat) (gs : List UInt8) : Prop where
  blk : ∃ p c, h b = some (bdB p q gs.length c) ∧ (p = none ∨ p = some ⟨b, 0, none⟩) ∧ (q = none → gs = [] ∧ c = 0) ∧ ∀ g, q = some g → ∃ zs, h g = some ⟨(gs ++ zs).map bv, 5, (0, 0)⟩ ∧ c = (gs ++ zs).length

/-- What stays beside a builder. -/
def Rest (h h' : Heap) (b : Nat) (q q' : Option Nat) : Prop := (∀ k x, h k = some x → k ≠ b → q ≠ some k → h' k = some x) ∧ (∀ g, q' = some g → q = some g ∨ h g = none)

/-- All but the builder. -/
def baseB (h : Heap) (b : Nat) (q : Option Nat) : Heap := fun k => if k = b ∨ q = some k then none else h k

theorem IsB.own {h : Heap} {b c : Nat} {q : Option Nat} {gs : List UInt8} (h1 : q = none → gs = [] ∧ c = 0) (h2 : ∀ g, q = some g → ∃ zs, h g = some ⟨(gs ++ zs).map bv, 5, (0, 0)⟩ ∧ c = (gs ++ zs).length) :
    OwnE bv 5 (baseB h b q) h (adQ q) gs.length c gs := by
  refine ⟨rfl, ?_⟩
  cases q with
  | none =>
    obtain ⟨rfl, rfl⟩ := h1 rfl
    exact .inl ⟨rfl, rfl, rfl⟩
  | some g =>
    obtain ⟨zs, e1, e2⟩ := h2 g rfl
    exact .inr ⟨g, zs, rfl, by simp [baseB], e1, e2⟩

theorem not_bd {h : Heap} {b : Nat} {p : Option Addr} {q : Option Nat} {n c g : Nat} {zs : List UInt8} (hb : h b = some (bdB p q n c)) (hg : h g = some ⟨zs.map bv, 5, (0, 0)⟩) : g ≠ b := fun e => by
  subst e
  rw [hb] at hg
  simp only [Option.some.injEq, bdB, Blk.mk.injEq] at hg
  exact absurd hg.2.1 (by decide)

end Go.Proofs.YtdpdaphholileaaGreatDoor

/-
  Contracts: strings.Builder: WriteByte, WriteRune, String.
-/
namespace Go.Proofs.YtdpdaphholileaaGreatDoor
open Go Go.Vcg
attribute [local irreducible] Br

section
variable {h : Heap} {b : Nat} {q : Option Nat} {gs : List UInt8}

/-- Behind copyCheck. -/
theorem IsB.checked {p : Option Addr} {c : Nat} (hb : h b = some (bdB p q gs.length c)) (h2 : ∀ g, q = some g → ∃ zs, h g = some ⟨(gs ++ zs).map bv, 5, (0, 0)⟩ ∧ c = (gs ++ zs).length) :
    ∀ g, q = some g → ∃ zs, (h.put b (bdB (some ⟨b, 0, none⟩) q gs.length c)) g = some ⟨(gs ++ zs).map bv, 5, (0, 0)⟩ ∧ c = (gs ++ zs).length := fun g e => by
  obtain ⟨zs, e1, e2⟩ := h2 g e
  exact ⟨zs, by rw [Heap.put_ne _ _ (not_bd hb e1)]; exact e1, e2⟩

theorem Rest.checked {h3 : Heap} {x y : Blk} {q' : Option Nat} (hb : h b = some y) (r : Rest (h.put b x) h3 b q q') : Rest h h3 b q q' := by
  refine ⟨fun k z hk kb kq => r.1 k z (by rw [Heap.put_ne _ _ kb]; exact hk) kb kq, fun g e => ?_⟩
  rcases r.2 g e with e | e
  · exact .inl e
  · by_cases gb : g = b
    · subst gb; rw [Heap.put_same] at e; cases e
    · rw [Heap.put_ne _ _ gb] at e; exact .inr e

end
end Go.Proofs.YtdpdaphholileaaGreatDoor
