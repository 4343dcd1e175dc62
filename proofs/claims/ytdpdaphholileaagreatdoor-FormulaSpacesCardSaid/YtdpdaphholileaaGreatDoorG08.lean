/-
  Gathered texts of this proof: Fo8, Fo9, Fo4, Pn1, Pl1, Pl2, VcM, Cn13, Cn14.
-/
import Derived.Test.YtdpdaphholileaaGreatDoorG07
import Derived.Lib.SlicesCompact
import Derived.Test.YtdpdaphholileaaGreatDoorG04
import Derived.Test.YtdpdaphholileaaGreatDoorG02
import Derived.Test.YtdpdaphholileaaGreatDoorChecked
import Derived.Test.YtdpdaphholileaaGreatDoorG06

/-
  formula: the parser in plain words; its pointer; next, take, expect.
-/
namespace Go.Proofs.YtdpdaphholileaaGreatDoor
open Go Go.Vcg Go.RowKit Go.Sort
attribute [local irreducible] Br

/-- A heap without one block. -/
def hole (h : Heap) (g : Nat) : Heap := fun k => if k = g then none else h k

theorem hole_at (h : Heap) (g : Nat) : hole h g g = none := by unfold hole; rw [if_pos rfl]
theorem hole_ne (h : Heap) {g k : Nat} (hk : k ≠ g) : hole h g k = h k := by unfold hole; rw [if_neg hk]
theorem hole_put (h : Heap) (g : Nat) (b : Blk) : hole (h.put g b) g = hole h g := by
  funext k
  unfold hole
  by_cases e : k = g
  · rw [if_pos e, if_pos e]
  · rw [if_neg e, if_neg e, Heap.put_ne _ _ e]
theorem hole_put_ne (h : Heap) {g g' : Nat} (b : Blk) (hg : g' ≠ g) : hole (h.put g' b) g = (hole h g).put g' b := by
  funext k
  by_cases e : k = g
  · subst e
    rw [hole_at, Heap.put_ne _ _ (fun q => hg q.symm), hole_at]
  · rw [hole_ne _ e]
    by_cases e2 : k = g'
    · subst e2; rw [Heap.put_same, Heap.put_same]
    · rw [Heap.put_ne _ _ e2, Heap.put_ne _ _ e2, hole_ne _ e]
theorem put_hole {h : Heap} {g : Nat} {b : Blk} (hg : h g = some b) : (hole h g).put g b = h := by
  funext k
  by_cases e : k = g
  · subst e; rw [Heap.put_same, hg]
  · rw [Heap.put_ne _ _ e, hole_ne _ e]
theorem hole_none {h : Heap} {g : Nat} (hg : h g = none) : hole h g = h := by
  funext k
  by_cases e : k = g
  · subst e; rw [hole_at, hg]
  · rw [hole_ne _ e]
theorem hole_le (h : Heap) (g : Nat) : Le (hole h g) h := fun k b hk => by
  by_cases e : k = g
  · subst e; rw [hole_at] at hk; cases hk
  · rwa [hole_ne _ e] at hk
theorem Le.hole {h h' : Heap} (l : Le h h') (g : Nat) : Le (hole h g) (hole h' g) := fun k b hk => by
  by_cases e : k = g
  · subst e; rw [hole_at] at hk; cases hk
  · rw [hole_ne _ e] at hk ⊢; exact l k b hk
theorem hole_comm (h : Heap) (a b : Nat) : hole (hole h a) b = hole (hole h b) a := by
  funext k
  unfold Go.Proofs.YtdpdaphholileaaGreatDoor.hole
  split <;> split <;> rfl

/-- The state of a parser: what is before it, what is left. -/
def Ps (h : Heap) (g : Nat) (l r : List UInt8) : Prop := ∃ (pre : List UInt8) (ty : Nat), l = pre ++ r ∧ h g = some ⟨[sv l, .int .i64 (pre.length : Int)], ty, (0, 0)⟩

theorem Ps.ld0 {h : Heap} {g : Nat} {l pre : List UInt8} {ty : Nat} (hb : h g = some ⟨[sv l, .int .i64 (pre.length : Int)], ty, (0, 0)⟩) : LdN h (Addr.add ⟨g, 0, none⟩ 0) [.string ⟨l.toArray⟩] :=
  ld_of rfl hb rfl
theorem Ps.ld1 {h : Heap} {g : Nat} {l pre : List UInt8} {ty : Nat} (hb : h g = some ⟨[sv l, .int .i64 (pre.length : Int)], ty, (0, 0)⟩) : LdN h (Addr.add ⟨g, 0, none⟩ 1) [.int .i64 (pre.length : Int)] :=
  ld_of rfl hb rfl

def nd (x : UInt8) : Bool := !(([43, 45, 42, 47, 40, 41, 44, 32] : List UInt8).contains x)
def skipS (r : List UInt8) : List UInt8 := r.dropWhile (· == 32)
def tokOf (r : List UInt8) : List UInt8 := if r.takeWhile nd = [] then r.take 1 else r.takeWhile nd
/-- The next token, and what is left behind it. -/
def tk (r : List UInt8) : List UInt8 := tokOf (skipS r)
def aft (r : List UInt8) : List UInt8 := (skipS r).drop (tk r).length

theorem tokOf_pre (r : List UInt8) : r.take (tokOf r).length = tokOf r := by
  unfold tokOf
  split
  · cases r with
    | nil => rfl
    | cons x r => rfl
  · exact tw_take r nd
theorem tokOf_le (r : List UInt8) : (tokOf r).length ≤ r.length := by
  have := congrArg List.length (tokOf_pre r)
  rw [List.length_take] at this
  omega
theorem tk_split (r : List UInt8) : tk r ++ aft r = skipS r := by
  unfold aft tk
  conv => lhs; lhs; rw [← tokOf_pre]
  exact List.take_append_drop _ _
theorem skip_le (r : List UInt8) : (skipS r).length ≤ r.length := by
  have := congrArg List.length (List.takeWhile_append_dropWhile (p := (· == 32)) (l := r))
  rw [List.length_append] at this
  unfold skipS
  omega

theorem strIdx_c (l : List UInt8) (b : UInt8) (h : Heap) :
    CallsU Tryz.prog 71 [sv l, .int .u8 (b.toNat : Int)] h fun r h' => r = .int .i64 (Lib.indexByte l b) ∧ h = h' :=
  callsU_same ⟨_, Tryz.func71, by kernel_rfl, by kernel_rfl⟩ fun w _ => by
    have h1 := Tryz.strings_IndexByte ⟨l.toArray⟩ (b.toNat : Int) w
    rw [Int.toNat_natCast] at h1
    have h2 : b.toNat.toUInt8 = b := by simp
    rw [h2] at h1
    exact h1

theorem tw_at {l : List UInt8} {p : UInt8 → Bool} {k : Nat} (hk : k ≤ l.length) (h1 : (l.take k).all p = true) (h2 : ∀ x, l[k]? = some x → p x = false) : l.takeWhile p = l.take k := by
  induction l generalizing k with
  | nil => simp
  | cons x l ih =>
    cases k with
    | zero =>
      rw [List.takeWhile_cons, if_neg (by rw [h2 x rfl]; decide)]
      rfl
    | succ k =>
      rw [List.take_succ_cons, List.all_cons, Bool.and_eq_true] at h1
      rw [List.takeWhile_cons, if_pos h1.1, List.take_succ_cons, ih (by simpa using hk) h1.2 (fun y hy => h2 y (by simpa using hy))]

theorem foNext_c {h : Heap} {g : Nat} {l r : List UInt8} (u : Ps h g l r) (hl : l.length ≤ 1000000) :
    CallsU Tryz.prog 42 [.pointer (some ⟨g, 0, none⟩)] h fun v h' => v = sv (tk r) ∧ Ps h' g l (skipS r) ∧ hole h' g = hole h g := by
  apply garment_formula_parser_next_ok
  refine ⟨fun h' => Ps h' g l (skipS r) ∧ hole h' g = hole h g, ?_, fun m h' => ∃ r', Ps h' g l r' ∧ skipS r' = skipS r ∧ m = r'.length ∧ hole h' g = hole h g, ⟨_, r, u, rfl, rfl, rfl⟩, ?_⟩
  · rintro h1 ⟨⟨pre, ty, hlr, hb⟩, ho⟩
    unfold tk
    generalize skipS r = s at *
    have hlen : l.length = pre.length + s.length := by rw [hlr, List.length_append]
    refine ⟨_, Ps.ld1 hb, fun e h' => h1 = h' ∧ e = ((pre.length + (s.takeWhile nd).length : Nat) : Int), ?_, fun m e h' => ∃ k, k ≤ s.length ∧ m = s.length - k ∧ e = ((pre.length + k : Nat) : Int) ∧ h1 = h' ∧ (s.take k).all nd = true, ⟨_, 0, by omega, rfl, rfl, rfl, by simp⟩, ?_⟩
    · rintro _ _ ⟨rfl, rfl⟩
      have htw := tw_le s nd
      have htl := tokOf_le s
      refine ⟨fun e h' => h1 = h' ∧ e = ((pre.length + (tokOf s).length : Nat) : Int), ?_, _, Ps.ld1 hb, ?_⟩
      · rintro _ _ ⟨rfl, rfl⟩
        refine ⟨_, Ps.ld0 hb, _, Ps.ld1 hb, by omega, by rw [ba_size]; omega, by omega, by omega, ?_, ⟨pre, ty, hlr, hb⟩, ho⟩
        rw [Int.toNat_natCast, Int.toNat_natCast, ba_ext]
        have : (l.take (pre.length + (tokOf s).length)).drop pre.length = tokOf s := by
          rw [hlr, List.take_length_add_append, List.drop_left, tokOf_pre]
        rw [this]
      · refine Br.mk (fun q => ?_) (fun q => ⟨rfl, ?_⟩)
        · have h0 : (s.takeWhile nd).length = 0 := by have := beq_iff_eq.1 q; omega
          have h0' : s.takeWhile nd = [] := List.length_eq_zero_iff.1 h0
          refine ⟨_, Ps.ld0 hb, ?_⟩
          rw [ba_size, h0]
          refine Br.mk (fun q2 => ?_) (fun q2 => ⟨rfl, ?_⟩)
          · have h3 := of_decide_eq_true q2
            rintro _ rfl
            refine ⟨rfl, wi ?_ ?_⟩
            · unfold tokOf
              rw [if_pos h0', List.length_take]
              omega
            · omega
          · have h3 := of_decide_eq_false q2
            have : s.length = 0 := by omega
            have h4 : tokOf s = [] := List.length_eq_zero_iff.1 (by omega)
            rw [h4]; rfl
        · have h0 : (s.takeWhile nd).length ≠ 0 := by have := beq_eq_false_iff_ne.1 q; omega
          have h0' : s.takeWhile nd ≠ [] := fun e => h0 (by rw [e]; rfl)
          unfold tokOf
          rw [if_neg h0']
    · rintro m _ _ ⟨k, hk, rfl, rfl, rfl, hall⟩
      refine ⟨_, Ps.ld0 hb, ?_⟩
      rw [ba_size]
      refine Br.mk (fun q => ?_) (fun q => ⟨rfl, ?_⟩)
      · have hlt : k < s.length := by have := of_decide_eq_true q; omega
        obtain ⟨x, hx⟩ : ∃ x, s[k]? = some x := ⟨_, List.getElem?_eq_getElem hlt⟩
        refine ⟨_, Ps.ld0 hb, x, by omega, ?_, ?_⟩
        · rw [Int.toNat_natCast, ba_get, hlr, List.getElem?_append_right (by omega)]
          simpa using hx
        · refine (strIdx_c [43, 45, 42, 47, 40, 41, 44, 32] x h1).mono ?_
          rintro _ _ ⟨rfl, rfl⟩
          refine ⟨_, rfl, ?_⟩
          rw [idx_spec]
          have hnd : nd x = true ↔ x ∉ ([43, 45, 42, 47, 40, 41, 44, 32] : List UInt8) := by
            unfold nd
            rw [Bool.not_eq_true', List.contains_eq_mem, decide_eq_false_iff_not]
          refine Br.mk (fun q2 => ?_) (fun q2 => ⟨rfl, ?_⟩)
          · have hn : nd x = true := by
              rw [hnd]
              intro hm
              rw [if_pos hm] at q2
              have := of_decide_eq_true q2
              omega
            rintro _ rfl
            refine ⟨s.length - (k + 1), by omega, k + 1, by omega, rfl, wi (by omega) (by omega), rfl, ?_⟩
            rw [List.take_add_one, hx, List.all_append, hall]
            simp [hn]
          · have hn : nd x = false := by
              cases hh : nd x with
              | false => rfl
              | true =>
                rw [if_neg (hnd.1 hh)] at q2
                exact absurd q2 (by decide)
            rw [tw_at (by omega) hall (fun y hy => by rw [hx] at hy; cases hy; exact hn), List.length_take, Nat.min_eq_left (by omega)]
      · have hk' : k = s.length := by have := of_decide_eq_false q; omega
        subst hk'
        rw [tw_at (Nat.le_refl _) hall (fun y hy => by rw [List.getElem?_eq_none (Nat.le_refl _)] at hy; cases hy), List.take_length]
  · rintro m h1 ⟨r', ⟨pre, ty, hlr, hb⟩, hs, rfl, ho⟩
    have hlen : l.length = pre.length + r'.length := by rw [hlr, List.length_append]
    refine ⟨_, Ps.ld1 hb, _, Ps.ld0 hb, ?_⟩
    rw [ba_size]
    refine Br.mk (fun q => ?_) (fun q => ?_)
    · have hlt : pre.length < l.length := by have := of_decide_eq_true q; omega
      obtain ⟨x, t, rfl⟩ : ∃ x t, r' = x :: t := by
        cases r' with
        | nil => simp at hlen; omega
        | cons x t => exact ⟨x, t, rfl⟩
      refine ⟨_, Ps.ld0 hb, _, Ps.ld1 hb, x, by omega, ?_, Br.mk (fun q2 => ?_) (fun q2 => ?_)⟩
      · rw [Int.toNat_natCast, ba_get, hlr, List.getElem?_append_right (by omega)]
        simp
      · have hx : x = 32 := by
          apply UInt8.toNat_inj.1
          have := beq_iff_eq.1 q2
          have h2 : (32 : UInt8).toNat = 32 := rfl
          omega
        subst hx
        refine ⟨_, Ps.ld1 hb, ?_⟩
        rintro _ rfl
        have e1 : IntKind.i64.wrap ((pre.length : Int) + 1) = ((pre.length + 1 : Nat) : Int) := wi (by omega) (by omega)
        rw [e1, addr_block, addr_off]
        refine ⟨_, hb, rfl, addr_spot _ _ rfl, by simp, ?_⟩
        rintro _ rfl
        refine ⟨t.length, by simp, t, ⟨pre ++ [32], ty, by rw [hlr]; simp, ?_⟩, ?_, rfl, by rw [hole_put]; exact ho⟩
        · rw [Heap.put_same]
          simp [setSeg]
        · rw [← hs]
          unfold skipS
          rw [List.dropWhile_cons, if_pos (by decide)]
      · have hx : x ≠ 32 := fun e => by subst e; exact absurd q2 (by decide)
        refine ⟨⟨pre, ty, ?_, hb⟩, ho⟩
        rw [← hs]
        unfold skipS
        rw [List.dropWhile_cons, if_neg (by simpa using hx)]
        exact hlr
    · have h0 : r' = [] := List.length_eq_zero_iff.1 (by have := of_decide_eq_false q; omega)
      subst h0
      refine ⟨⟨pre, ty, ?_, hb⟩, ho⟩
      rw [← hs]
      exact hlr

theorem foTake_c {h : Heap} {g : Nat} {l r : List UInt8} (u : Ps h g l r) (hl : l.length ≤ 1000000) :
    CallsU Tryz.prog 70 [.pointer (some ⟨g, 0, none⟩)] h fun v h' => v = sv (tk r) ∧ Ps h' g l (aft r) ∧ hole h' g = hole h g := by
  apply garment_formula_parser_take_ok
  refine (foNext_c u hl).mono ?_
  rintro _ h1 ⟨rfl, ⟨pre, ty, hlr, hb⟩, ho⟩
  have hlen : l.length = pre.length + (skipS r).length := by rw [hlr, List.length_append]
  have hsp := congrArg List.length (tk_split r)
  rw [List.length_append] at hsp
  refine ⟨_, rfl, _, Ps.ld1 hb, ?_⟩
  rintro _ rfl
  rw [ba_size, addr_block, addr_off]
  have e1 : IntKind.i64.wrap ((pre.length : Int) + ((tk r).length : Nat)) = ((pre.length + (tk r).length : Nat) : Int) := wi (by omega) (by omega)
  rw [e1]
  refine ⟨_, hb, rfl, addr_spot _ _ rfl, by simp, ?_⟩
  rintro _ rfl
  refine ⟨rfl, ⟨pre ++ tk r, ty, by rw [List.append_assoc, tk_split]; exact hlr, ?_⟩, by rw [hole_put]; exact ho⟩
  rw [Heap.put_same]
  simp [setSeg]

def expV (t r : List UInt8) : Int := if tk r = t then 0 else if tk r = [] then 4 else 2

theorem foExpect_c {h : Heap} {g : Nat} {l r : List UInt8} (t : List UInt8) (u : Ps h g l r) (hl : l.length ≤ 1000000) :
    CallsU Tryz.prog 163 [.pointer (some ⟨g, 0, none⟩), sv t] h fun v h' => v = .int .i64 (expV t r) ∧ Ps h' g l (aft r) ∧ hole h' g = hole h g := by
  apply garment_formula_parser_expect_ok
  refine (foTake_c u hl).mono ?_
  rintro _ h1 ⟨rfl, hp, ho⟩
  have e0 : (⟨#[]⟩ : ByteArray).toList = [] := bytes_toList []
  refine ⟨_, rfl, ?_⟩
  rw [bytes_toList, bytes_toList, e0]
  unfold expV
  refine Br.mk (fun q => ?_) (fun q => Br.mk (fun q2 => ?_) (fun q2 => ?_))
  · rw [if_pos (beq_iff_eq.1 q)]; exact ⟨rfl, hp, ho⟩
  · rw [if_neg (beq_eq_false_iff_ne.1 q), if_pos (beq_iff_eq.1 q2)]; exact ⟨rfl, hp, ho⟩
  · rw [if_neg (beq_eq_false_iff_ne.1 q), if_neg (beq_eq_false_iff_ne.1 q2)]; exact ⟨rfl, hp, ho⟩

def op2 (k : Int) (x y : Ex) : Ex := .mk k 0 0 0 [] [x, y]

mutual
/-- The parser: an expression and what is left, or an error; 99: the fuel is used up. -/
def pSum : Nat → List UInt8 → Except Int (Ex × List UInt8)
  | 0, _ => .error 99
  | n + 1, r => match pProd n r with
    | .error e => .error e
    | .ok (x, r') => pSumL n x r'
def pSumL : Nat → Ex → List UInt8 → Except Int (Ex × List UInt8)
  | 0, _, _ => .error 99
  | n + 1, x, r => if tk r = [43] then (match pProd n (aft r) with
      | .error e => .error e
      | .ok (y, r') => pSumL n (op2 3 x y) r')
    else if tk r = [45] then (match pProd n (aft r) with
      | .error e => .error e
      | .ok (y, r') => pSumL n (op2 4 x y) r')
    else .ok (x, skipS r)
def pProd : Nat → List UInt8 → Except Int (Ex × List UInt8)
  | 0, _ => .error 99
  | n + 1, r => match pFac n r with
    | .error e => .error e
    | .ok (x, r') => pProdL n x r'
def pProdL : Nat → Ex → List UInt8 → Except Int (Ex × List UInt8)
  | 0, _, _ => .error 99
  | n + 1, x, r => if tk r = [42] then (match pFac n (aft r) with
      | .error e => .error e
      | .ok (y, r') => pProdL n (op2 5 x y) r')
    else if tk r = [47] then (match pFac n (aft r) with
      | .error e => .error e
      | .ok (y, r') => pProdL n (op2 6 x y) r')
    else .ok (x, skipS r)
def pFac : Nat → List UInt8 → Except Int (Ex × List UInt8)
  | 0, _ => .error 99
  | n + 1, r =>
    if tk r = [] then .error 4
    else if tk r = [45] then (match pFac n (aft r) with
      | .error e => .error e
      | .ok (x, r') => .ok (.mk 7 0 0 0 [] [x], r'))
    else if tk r = [40] then (match pSum n (aft r) with
      | .error e => .error e
      | .ok (x, r') => if expV [41] r' = 0 then .ok (x, aft r') else .error (expV [41] r'))
    else if tk r = [109, 105, 110] then pCall n 8 (aft r)
    else if tk r = [109, 97, 120] then pCall n 9 (aft r)
    else match numberV (tk r) with
      | some q => .ok (.mk 1 q (lmb q.num.natAbs) (lmb q.den) [] [], aft r)
      | none => if isNameV (tk r) then .ok (.mk 2 0 0 0 (tk r) [], aft r) else .error 2
def pCall : Nat → Int → List UInt8 → Except Int (Ex × List UInt8)
  | 0, _, _ => .error 99
  | n + 1, k, r => if expV [40] r = 0 then pCallL n k [] (aft r) else .error (expV [40] r)
def pCallL : Nat → Int → List Ex → List UInt8 → Except Int (Ex × List UInt8)
  | 0, _, _, _ => .error 99
  | n + 1, k, es, r => match pSum n r with
    | .error e => .error e
    | .ok (x, r') =>
      if tk r' = [41] then .ok (.mk k 0 0 0 [] (es ++ [x]), aft r')
      else if tk r' = [] then .error 4
      else if tk r' ≠ [44] then .error 2
      else if es.length + 1 = 8 then .error 2
      else pCallL n k (es ++ [x]) (aft r')
end

/-- The tree of a formula, or the first error. -/
def foParseV (s : List UInt8) : Except Int Ex :=
  if 400 < s.length then .error 5
  else match pSum 4000 s with
    | .error e => .error e
    | .ok (x, r) => if tk r = [] then (if chkV x 1 = 0 then .ok x else .error (chkV x 1)) else .error 2
end Go.Proofs.YtdpdaphholileaaGreatDoor

/-
  Contracts: formula: the parser's sum, product, factor, call; Parse.
-/
namespace Go.Proofs.YtdpdaphholileaaGreatDoor
open Go Go.Vcg Go.RowKit Go.Sort
attribute [local irreducible] Br

abbrev zE : List Value := [.int .i64 0, .bool false, .slice none 0 0, .slice none 0 0, .string ByteArray.empty, .slice none 0 0]

theorem IsQ.nul (h : Heap) : IsQ h false none 0 0 none 0 0 0 := ⟨0, 0, IsI.pos (NmN.nil h none 0).is, (NmN.nil h none 0).is, by simp⟩

/-- What a method of the parser answers. -/
def PaR (o : Except Int (Ex × List UInt8)) (g : Nat) (l : List UInt8) (h : Heap) (r : Value) (h' : Heap) : Prop :=
  Le (hole h g) (hole h' g) ∧ match o with
    | .error e => e ≠ 0 ∧ r = .tuple #[.agg zE.toArray, .int .i64 e]
    | .ok (x, rest) => ∃ vs : List Value, r = .tuple #[.agg vs.toArray, .int .i64 0] ∧ IsE (hole h' g) x vs ∧ Szs x ∧ Ps h' g l rest

theorem PaR.from {o : Except Int (Ex × List UInt8)} {g : Nat} {l : List UInt8} {h h1 : Heap} {r : Value} {h' : Heap} (u : PaR o g l h1 r h') (hl : Le (hole h g) (hole h1 g)) : PaR o g l h r h' := ⟨hl.trans u.1, u.2⟩

/-- A node of operators. -/
theorem IsE_op {h : Heap} {k : Int} {es : List Ex} {gk c ty : Nat} {cs : List Value} (hb : h gk = some ⟨cs, ty, (0, 0)⟩) (hc : es.length ≤ c) (hl : 6 * es.length ≤ cs.length) (hs : IsEs h es cs) :
    IsE h (.mk k 0 0 0 [] es) [.int .i64 k, .bool false, .slice none 0 0, .slice none 0 0, .string ByteArray.empty, .slice (some ⟨gk, 0, none⟩) es.length c] := by
  unfold IsE
  exact ⟨false, none, 0, none, 0, some ⟨gk, 0, none⟩, c, rfl, IsQ.nul h, hc, fun _ => ⟨⟨gk, 0, none⟩, _, rfl, rfl, hb, by simpa using hl, by simpa using hs⟩⟩

theorem IsEs.snoc {h : Heap} : ∀ {es : List Ex} {cs : List Value} {x : Ex} {vs rest : List Value}, IsEs h es cs → 6 * es.length ≤ cs.length → IsE h x vs → IsEs h (es ++ [x]) (cs.take (6 * es.length) ++ vs ++ rest)
  | [], cs, x, vs, rest, _, _, ux => by
    have hv := ux.len
    unfold IsEs
    refine ⟨?_, by unfold IsEs; trivial⟩
    simp only [List.length_nil, Nat.mul_zero, List.take_zero, List.nil_append]
    rw [List.take_append_of_le_length (by omega), List.take_of_length_le (by omega)]
    exact ux
  | e :: es, cs, x, vs, rest, u, hl, ux => by
    unfold IsEs at u
    rw [List.length_cons] at hl
    rw [List.cons_append]
    unfold IsEs
    rw [List.length_cons, show 6 * (es.length + 1) = 6 + 6 * es.length by omega]
    have e1 : cs.take (6 + 6 * es.length) = cs.take 6 ++ (cs.drop 6).take (6 * es.length) := List.take_add
    have h6 : (cs.take 6).length = 6 := by rw [List.length_take]; omega
    rw [e1]
    refine ⟨?_, ?_⟩
    · rw [List.append_assoc, List.append_assoc, List.take_append_of_le_length (by omega), List.take_take, Nat.min_self]
      exact u.1
    · rw [List.append_assoc, List.append_assoc, List.drop_append_of_le_length (by omega), List.drop_of_length_le (l := cs.take 6) (by omega), List.nil_append, ← List.append_assoc]
      exact IsEs.snoc u.2 (by rw [List.length_drop]; omega) ux

theorem SzsL.snoc : ∀ {es : List Ex} {x : Ex}, SzsL es → Szs x → SzsL (es ++ [x])
  | [], x, _, z => by unfold SzsL; exact ⟨z, by unfold SzsL; trivial⟩
  | e :: es, x, u, z => by
    unfold SzsL at u
    rw [List.cons_append]
    unfold SzsL
    exact ⟨u.1, SzsL.snoc u.2 z⟩

/-- Two trees in a new row. -/
theorem IsE_two {h : Heap} {k : Int} {x y : Ex} {vs ws : List Value} {gk ty : Nat} (hg : h gk = none) (ux : IsE h x vs) (uy : IsE h y ws) :
    IsE (h.put gk ⟨vs ++ ws, ty, (0, 0)⟩) (op2 k x y) [.int .i64 k, .bool false, .slice none 0 0, .slice none 0 0, .string ByteArray.empty, .slice (some ⟨gk, 0, none⟩) 2 2] := by
  have l := Le.new hg ⟨vs ++ ws, ty, (0, 0)⟩
  have h1 := ux.len
  have h2 := uy.len
  refine IsE_op (es := [x, y]) (cs := vs ++ ws) (Heap.put_same _ _ _) (by simp) (by simp; omega) ?_
  unfold IsEs
  refine ⟨by rw [List.take_append_of_le_length (by omega), List.take_of_length_le (by omega)]; exact IsE.mono l _ _ ux, ?_⟩
  unfold IsEs
  refine ⟨?_, by unfold IsEs; trivial⟩
  rw [List.drop_append_of_le_length (by omega), List.drop_of_length_le (by omega), List.nil_append, List.take_of_length_le (by omega)]
  exact IsE.mono l _ _ uy

theorem Szs_two {k : Int} {x y : Ex} (zx : Szs x) (zy : Szs y) : Szs (op2 k x y) := by
  unfold op2 Szs SzsL SzsL SzsL
  exact ⟨by omega, by omega, by simp, by simp, zx, zy, trivial⟩

/-- The contract of a method. -/
def MOk (f : FuncId) (args : Nat → List Value) (o : List UInt8 → Except Int (Ex × List UInt8)) : Prop :=
  ∀ {h : Heap} {g : Nat} {l r : List UInt8}, Ps h g l r → l.length ≤ 400 → o r ≠ .error 99 → CallsU Tryz.prog f (args g) h (PaR (o r) g l h)

abbrev ptr (g : Nat) : List Value := [.pointer (some ⟨g, 0, none⟩)]

theorem skip_skip (r : List UInt8) : skipS (skipS r) = skipS r := by
  unfold skipS
  induction r with
  | nil => rfl
  | cons x r ih =>
    rw [List.dropWhile_cons]
    split
    · exact ih
    · rename_i hx
      rw [List.dropWhile_cons, if_neg hx]

theorem foProd_step {n : Nat} (ih : ∀ k, k ≤ n → MOk 120 ptr (pFac k)) : MOk 69 ptr (pProd (n + 1)) := by
  intro h g l r u hl hne
  rw [pProd] at hne ⊢
  apply garment_formula_parser_product_ok
  have hsub := ih n (Nat.le_refl _) (r := r) u hl
  cases ho : pFac n r with
  | error e =>
    rw [ho] at hne
    rw [ho] at hsub
    refine (hsub hne).mono ?_
    rintro _ h1 ⟨hle, he, rfl⟩
    refine ⟨_, _, _, _, _, _, _, _, _, _, _, _, _, rfl, fun m err _ _ _ _ _ _ _ _ _ _ _ _ _ _ _ _ _ _ _ _ _ _ _ _ h' => err = e ∧ h' = h1, ⟨0, rfl, rfl⟩, ?_⟩
    rintro m _ _ _ _ _ _ _ _ _ _ _ _ _ _ _ _ _ _ _ _ _ _ _ _ _ _ ⟨rfl, rfl⟩
    refine Br.mk (fun q => absurd (beq_iff_eq.1 q) he) (fun _ => ⟨hle, he, rfl⟩)
  | ok p =>
    obtain ⟨x, r1⟩ := p
    rw [ho] at hne
    rw [ho] at hsub
    simp only at hne ⊢
    refine (hsub (by intro q; cases q)).mono ?_
    rintro _ h1 ⟨hle, vs, rfl, ux, zx, hp⟩
    have ux' := ux
    obtain ⟨s0, A0, c0, B0, d0, K0, kc0, rfl, _, _, _⟩ := ux'.open
    refine ⟨_, _, _, _, _, _, _, _, _, _, _, _, _, rfl, fun m err _ _ _ _ _ _ _ _ _ _ _ _ l0 l1 l2A l2n l2c l3A l3n l3c l4 l5A l5n l5c h' => Le (hole h g) (hole h' g) ∧ ((err ≠ 0 ∧ pProdL n x r1 = .error err) ∨ (err = 0 ∧ m ≤ n ∧ ∃ y r2, pProdL m y r2 = pProdL n x r1 ∧ IsE (hole h' g) y [.int .i64 l0, .bool l1, .slice l2A l2n l2c, .slice l3A l3n l3c, .string l4, .slice l5A l5n l5c] ∧ Szs y ∧ Ps h' g l r2)), ⟨n, hle, Or.inr ⟨rfl, Nat.le_refl _, x, r1, rfl, ux, zx, hp⟩⟩, ?_⟩
    rintro m err _ _ _ _ _ _ _ _ _ _ _ _ l0 l1 l2A l2n l2c l3A l3n l3c l4 l5A l5n l5c h2 ⟨hle2, hcase⟩
    refine Br.mk (fun q => ?_) (fun q => ?_)
    · rcases hcase with ⟨h0, _⟩ | ⟨_, hm, y, r2, hy, uy, zy, hp2⟩
      · exact absurd (beq_iff_eq.1 q) h0
      · cases m with
        | zero => rw [pProdL] at hy; exact absurd hy.symm hne
        | succ m =>
          rw [← hy] at hne
          rw [pProdL] at hy hne
          have go : ∀ (kd : Int) (h3 : Heap), Ps h3 g l (skipS r2) → hole h3 g = hole h2 g → tk r2 ≠ [] → (match pFac m (aft r2) with | .error e => .error e | .ok (z, r') => pProdL m (op2 kd y z) r') = pProdL n x r1 →
            CallsU Tryz.prog 70 (ptr g) h3 fun v_1 h_4 =>
              ∃ t23 : ByteArray, v_1 = Value.string t23 ∧
              CallsU Tryz.prog 120 (ptr g) h_4 fun v_2 h_5 =>
              ∃ t26_0_0 : Int, ∃ t26_0_1 : Bool, ∃ t26_0_2A : Option Addr, ∃ t26_0_2n t26_0_2c : Nat, ∃ t26_0_3A : Option Addr, ∃ t26_0_3n t26_0_3c : Nat, ∃ t26_0_4 : ByteArray, ∃ t26_0_5A : Option Addr, ∃ t26_0_5n t26_0_5c : Nat, ∃ t26_1 : Int, v_2 = Value.tuple #[Value.agg #[Value.int .i64 t26_0_0, Value.bool t26_0_1, Value.slice t26_0_2A t26_0_2n t26_0_2c, Value.slice t26_0_3A t26_0_3n t26_0_3c, Value.string t26_0_4, Value.slice t26_0_5A t26_0_5n t26_0_5c], Value.int .i64 t26_1] ∧
              ∀ (g_1 : Nat) (h_6 : Heap), h_5 g_1 = none → h_6 = Heap.put h_5 g_1 ⟨[Value.int .i64 l0, Value.bool l1, Value.slice l2A l2n l2c, Value.slice l3A l3n l3c, Value.string l4, Value.slice l5A l5n l5c, Value.int .i64 t26_0_0, Value.bool t26_0_1, Value.slice t26_0_2A t26_0_2n t26_0_2c, Value.slice t26_0_3A t26_0_3n t26_0_3c, Value.string t26_0_4, Value.slice t26_0_5A t26_0_5n t26_0_5c], 30, (0, 0)⟩ →
              ∃ m_1, m_1 < m + 1 ∧ Le (hole h g) (hole h_6 g) ∧ ((t26_1 ≠ 0 ∧ pProdL n x r1 = .error t26_1) ∨ (t26_1 = 0 ∧ m_1 ≤ n ∧ ∃ y r2, pProdL m_1 y r2 = pProdL n x r1 ∧ IsE (hole h_6 g) y [.int .i64 kd, .bool false, .slice none 0 0, .slice none 0 0, .string ByteArray.empty, .slice (some ⟨g_1, 0, none⟩) 2 2] ∧ Szs y ∧ Ps h_6 g l r2)) := by
            intro kd h3 hp3 ho3 htk heq
            refine (foTake_c hp3 (by omega)).mono ?_
            rintro _ h4 ⟨rfl, hp4, ho4⟩
            have ea : aft (skipS r2) = aft r2 := by unfold aft tk; rw [skip_skip]
            rw [ea] at hp4
            refine ⟨_, rfl, ?_⟩
            have hs2 := ih m (by omega) (r := aft r2) hp4 hl
            cases ho5 : pFac m (aft r2) with
            | error e =>
              rw [ho5] at heq hs2
              simp only at heq
              refine (hs2 (by intro q; rw [q] at heq; exact absurd heq.symm (by rw [hy] at hne; exact hne))).mono ?_
              rintro _ h5 ⟨hle5, he, rfl⟩
              refine ⟨_, _, _, _, _, _, _, _, _, _, _, _, _, rfl, ?_⟩
              rintro g1 _ hg1 rfl
              have hng : hole h5 g g1 = none := by
                unfold Go.Proofs.YtdpdaphholileaaGreatDoor.hole; split
                · rfl
                · exact hg1
              have hl5 : Le (hole h g) (hole h5 g) := (hle2.trans (by rw [← ho3, ← ho4]; exact hle5))
              refine ⟨m, by omega, ?_, Or.inl ⟨he, heq.symm⟩⟩
              by_cases e1 : g1 = g
              · subst e1; rw [hole_put]; exact hl5
              · rw [hole_put_ne _ _ e1]; exact hl5.trans (Le.new hng _)
            | ok p =>
              obtain ⟨z, r3⟩ := p
              rw [ho5] at heq hs2
              simp only at heq
              refine (hs2 (by intro q; cases q)).mono ?_
              rintro _ h5 ⟨hle5, vs5, rfl, uz, zz, hp5⟩
              have uz' := uz
              obtain ⟨s5, A5, c5, B5, d5, K5, kc5, rfl, _, _, _⟩ := uz'.open
              refine ⟨_, _, _, _, _, _, _, _, _, _, _, _, _, rfl, ?_⟩
              rintro g1 _ hg1 rfl
              have hgg : g1 ≠ g := fun e => by
                obtain ⟨_, _, _, hb⟩ := hp5
                rw [e, hb] at hg1; cases hg1
              have hng : hole h5 g g1 = none := by rw [hole_ne _ hgg]; exact hg1
              have hl25 : Le (hole h2 g) (hole h5 g) := by rw [← ho3, ← ho4]; exact hle5
              refine ⟨m, by omega, ?_, Or.inr ⟨rfl, by omega, op2 kd y z, r3, heq, ?_, Szs_two zy zz, ?_⟩⟩
              · rw [hole_put_ne _ _ hgg]
                exact (hle2.trans hl25).trans (Le.new hng _)
              · rw [hole_put_ne _ _ hgg]
                exact IsE_two hng (IsE.mono hl25 _ _ uy) uz
              · obtain ⟨pre, ty, hlr, hb⟩ := hp5
                exact ⟨pre, ty, hlr, by rw [Heap.put_ne _ _ (fun e => hgg e.symm)]; exact hb⟩
          refine ⟨fun kd _ _ _ _ _ _ _ _ _ _ _ _ h3 => Ps h3 g l (skipS r2) ∧ hole h3 g = hole h2 g ∧ tk r2 ≠ [] ∧ (match pFac m (aft r2) with | .error e => .error e | .ok (z, r') => pProdL m (op2 kd y z) r') = pProdL n x r1, ?_, ?_⟩
          · rintro kd _ _ _ _ _ _ _ _ _ _ _ _ h3 ⟨a1, a2, a3, a4⟩
            exact go kd h3 a1 a2 a3 a4
          · refine (foNext_c hp2 (by omega)).mono ?_
            rintro _ h3 ⟨rfl, hp3, ho3⟩
            have b1 : (⟨#[42]⟩ : ByteArray).toList = [42] := bytes_toList _
            have b2 : (⟨#[47]⟩ : ByteArray).toList = [47] := bytes_toList _
            refine ⟨_, rfl, ?_⟩
            rw [bytes_toList, b1, b2]
            refine Br.mk (fun q1 => ?_) (fun q1 => Br.mk (fun q2 => ?_) (fun q2 => ?_))
            · have e1 := beq_iff_eq.1 q1
              rw [if_pos e1] at hy
              exact ⟨hp3, ho3, by rw [e1]; simp, hy⟩
            · have e1 := beq_eq_false_iff_ne.1 q1
              have e2 := beq_iff_eq.1 q2
              rw [if_neg e1, if_pos e2] at hy
              exact ⟨hp3, ho3, by rw [e2]; simp, hy⟩
            · have e1 := beq_eq_false_iff_ne.1 q1
              have e2 := beq_eq_false_iff_ne.1 q2
              rw [if_neg e1, if_neg e2] at hy
              rw [← hy]
              exact ⟨by rw [ho3]; exact hle2, _, rfl, by rw [ho3]; exact uy, zy, hp3⟩
    · rcases hcase with ⟨h0, hy⟩ | ⟨h0, _⟩
      · rw [hy]
        exact ⟨hle2, h0, rfl⟩
      · rw [h0] at q; exact absurd q (by decide)

theorem foSum_step {n : Nat} (ih : ∀ k, k ≤ n → MOk 69 ptr (pProd k)) : MOk 41 ptr (pSum (n + 1)) := by
  intro h g l r u hl hne
  rw [pSum] at hne ⊢
  apply garment_formula_parser_sum_ok
  have hsub := ih n (Nat.le_refl _) (r := r) u hl
  cases ho : pProd n r with
  | error e =>
    rw [ho] at hne
    rw [ho] at hsub
    refine (hsub hne).mono ?_
    rintro _ h1 ⟨hle, he, rfl⟩
    refine ⟨_, _, _, _, _, _, _, _, _, _, _, _, _, rfl, fun m err _ _ _ _ _ _ _ _ _ _ _ _ _ _ _ _ _ _ _ _ _ _ _ _ h' => err = e ∧ h' = h1, ⟨0, rfl, rfl⟩, ?_⟩
    rintro m _ _ _ _ _ _ _ _ _ _ _ _ _ _ _ _ _ _ _ _ _ _ _ _ _ _ ⟨rfl, rfl⟩
    refine Br.mk (fun q => absurd (beq_iff_eq.1 q) he) (fun _ => ⟨hle, he, rfl⟩)
  | ok p =>
    obtain ⟨x, r1⟩ := p
    rw [ho] at hne
    rw [ho] at hsub
    simp only at hne ⊢
    refine (hsub (by intro q; cases q)).mono ?_
    rintro _ h1 ⟨hle, vs, rfl, ux, zx, hp⟩
    have ux' := ux
    obtain ⟨s0, A0, c0, B0, d0, K0, kc0, rfl, _, _, _⟩ := ux'.open
    refine ⟨_, _, _, _, _, _, _, _, _, _, _, _, _, rfl, fun m err _ _ _ _ _ _ _ _ _ _ _ _ l0 l1 l2A l2n l2c l3A l3n l3c l4 l5A l5n l5c h' => Le (hole h g) (hole h' g) ∧ ((err ≠ 0 ∧ pSumL n x r1 = .error err) ∨ (err = 0 ∧ m ≤ n ∧ ∃ y r2, pSumL m y r2 = pSumL n x r1 ∧ IsE (hole h' g) y [.int .i64 l0, .bool l1, .slice l2A l2n l2c, .slice l3A l3n l3c, .string l4, .slice l5A l5n l5c] ∧ Szs y ∧ Ps h' g l r2)), ⟨n, hle, Or.inr ⟨rfl, Nat.le_refl _, x, r1, rfl, ux, zx, hp⟩⟩, ?_⟩
    rintro m err _ _ _ _ _ _ _ _ _ _ _ _ l0 l1 l2A l2n l2c l3A l3n l3c l4 l5A l5n l5c h2 ⟨hle2, hcase⟩
    refine Br.mk (fun q => ?_) (fun q => ?_)
    · rcases hcase with ⟨h0, _⟩ | ⟨_, hm, y, r2, hy, uy, zy, hp2⟩
      · exact absurd (beq_iff_eq.1 q) h0
      · cases m with
        | zero => rw [pSumL] at hy; exact absurd hy.symm hne
        | succ m =>
          rw [← hy] at hne
          rw [pSumL] at hy hne
          have go : ∀ (kd : Int) (h3 : Heap), Ps h3 g l (skipS r2) → hole h3 g = hole h2 g → tk r2 ≠ [] → (match pProd m (aft r2) with | .error e => .error e | .ok (z, r') => pSumL m (op2 kd y z) r') = pSumL n x r1 →
            CallsU Tryz.prog 70 (ptr g) h3 fun v_1 h_4 =>
              ∃ t23 : ByteArray, v_1 = Value.string t23 ∧
              CallsU Tryz.prog 69 (ptr g) h_4 fun v_2 h_5 =>
              ∃ t26_0_0 : Int, ∃ t26_0_1 : Bool, ∃ t26_0_2A : Option Addr, ∃ t26_0_2n t26_0_2c : Nat, ∃ t26_0_3A : Option Addr, ∃ t26_0_3n t26_0_3c : Nat, ∃ t26_0_4 : ByteArray, ∃ t26_0_5A : Option Addr, ∃ t26_0_5n t26_0_5c : Nat, ∃ t26_1 : Int, v_2 = Value.tuple #[Value.agg #[Value.int .i64 t26_0_0, Value.bool t26_0_1, Value.slice t26_0_2A t26_0_2n t26_0_2c, Value.slice t26_0_3A t26_0_3n t26_0_3c, Value.string t26_0_4, Value.slice t26_0_5A t26_0_5n t26_0_5c], Value.int .i64 t26_1] ∧
              ∀ (g_1 : Nat) (h_6 : Heap), h_5 g_1 = none → h_6 = Heap.put h_5 g_1 ⟨[Value.int .i64 l0, Value.bool l1, Value.slice l2A l2n l2c, Value.slice l3A l3n l3c, Value.string l4, Value.slice l5A l5n l5c, Value.int .i64 t26_0_0, Value.bool t26_0_1, Value.slice t26_0_2A t26_0_2n t26_0_2c, Value.slice t26_0_3A t26_0_3n t26_0_3c, Value.string t26_0_4, Value.slice t26_0_5A t26_0_5n t26_0_5c], 30, (0, 0)⟩ →
              ∃ m_1, m_1 < m + 1 ∧ Le (hole h g) (hole h_6 g) ∧ ((t26_1 ≠ 0 ∧ pSumL n x r1 = .error t26_1) ∨ (t26_1 = 0 ∧ m_1 ≤ n ∧ ∃ y r2, pSumL m_1 y r2 = pSumL n x r1 ∧ IsE (hole h_6 g) y [.int .i64 kd, .bool false, .slice none 0 0, .slice none 0 0, .string ByteArray.empty, .slice (some ⟨g_1, 0, none⟩) 2 2] ∧ Szs y ∧ Ps h_6 g l r2)) := by
            intro kd h3 hp3 ho3 htk heq
            refine (foTake_c hp3 (by omega)).mono ?_
            rintro _ h4 ⟨rfl, hp4, ho4⟩
            have ea : aft (skipS r2) = aft r2 := by unfold aft tk; rw [skip_skip]
            rw [ea] at hp4
            refine ⟨_, rfl, ?_⟩
            have hs2 := ih m (by omega) (r := aft r2) hp4 hl
            cases ho5 : pProd m (aft r2) with
            | error e =>
              rw [ho5] at heq hs2
              simp only at heq
              refine (hs2 (by intro q; rw [q] at heq; exact absurd heq.symm (by rw [hy] at hne; exact hne))).mono ?_
              rintro _ h5 ⟨hle5, he, rfl⟩
              refine ⟨_, _, _, _, _, _, _, _, _, _, _, _, _, rfl, ?_⟩
              rintro g1 _ hg1 rfl
              have hng : hole h5 g g1 = none := by
                unfold Go.Proofs.YtdpdaphholileaaGreatDoor.hole; split
                · rfl
                · exact hg1
              have hl5 : Le (hole h g) (hole h5 g) := (hle2.trans (by rw [← ho3, ← ho4]; exact hle5))
              refine ⟨m, by omega, ?_, Or.inl ⟨he, heq.symm⟩⟩
              by_cases e1 : g1 = g
              · subst e1; rw [hole_put]; exact hl5
              · rw [hole_put_ne _ _ e1]; exact hl5.trans (Le.new hng _)
            | ok p =>
              obtain ⟨z, r3⟩ := p
              rw [ho5] at heq hs2
              simp only at heq
              refine (hs2 (by intro q; cases q)).mono ?_
              rintro _ h5 ⟨hle5, vs5, rfl, uz, zz, hp5⟩
              have uz' := uz
              obtain ⟨s5, A5, c5, B5, d5, K5, kc5, rfl, _, _, _⟩ := uz'.open
              refine ⟨_, _, _, _, _, _, _, _, _, _, _, _, _, rfl, ?_⟩
              rintro g1 _ hg1 rfl
              have hgg : g1 ≠ g := fun e => by
                obtain ⟨_, _, _, hb⟩ := hp5
                rw [e, hb] at hg1; cases hg1
              have hng : hole h5 g g1 = none := by rw [hole_ne _ hgg]; exact hg1
              have hl25 : Le (hole h2 g) (hole h5 g) := by rw [← ho3, ← ho4]; exact hle5
              refine ⟨m, by omega, ?_, Or.inr ⟨rfl, by omega, op2 kd y z, r3, heq, ?_, Szs_two zy zz, ?_⟩⟩
              · rw [hole_put_ne _ _ hgg]
                exact (hle2.trans hl25).trans (Le.new hng _)
              · rw [hole_put_ne _ _ hgg]
                exact IsE_two hng (IsE.mono hl25 _ _ uy) uz
              · obtain ⟨pre, ty, hlr, hb⟩ := hp5
                exact ⟨pre, ty, hlr, by rw [Heap.put_ne _ _ (fun e => hgg e.symm)]; exact hb⟩
          refine ⟨fun kd _ _ _ _ _ _ _ _ _ _ _ _ h3 => Ps h3 g l (skipS r2) ∧ hole h3 g = hole h2 g ∧ tk r2 ≠ [] ∧ (match pProd m (aft r2) with | .error e => .error e | .ok (z, r') => pSumL m (op2 kd y z) r') = pSumL n x r1, ?_, ?_⟩
          · rintro kd _ _ _ _ _ _ _ _ _ _ _ _ h3 ⟨a1, a2, a3, a4⟩
            exact go kd h3 a1 a2 a3 a4
          · refine (foNext_c hp2 (by omega)).mono ?_
            rintro _ h3 ⟨rfl, hp3, ho3⟩
            have b1 : (⟨#[43]⟩ : ByteArray).toList = [43] := bytes_toList _
            have b2 : (⟨#[45]⟩ : ByteArray).toList = [45] := bytes_toList _
            refine ⟨_, rfl, ?_⟩
            rw [bytes_toList, b1, b2]
            refine Br.mk (fun q1 => ?_) (fun q1 => Br.mk (fun q2 => ?_) (fun q2 => ?_))
            · have e1 := beq_iff_eq.1 q1
              rw [if_pos e1] at hy
              exact ⟨hp3, ho3, by rw [e1]; simp, hy⟩
            · have e1 := beq_eq_false_iff_ne.1 q1
              have e2 := beq_iff_eq.1 q2
              rw [if_neg e1, if_pos e2] at hy
              exact ⟨hp3, ho3, by rw [e2]; simp, hy⟩
            · have e1 := beq_eq_false_iff_ne.1 q1
              have e2 := beq_eq_false_iff_ne.1 q2
              rw [if_neg e1, if_neg e2] at hy
              rw [← hy]
              exact ⟨by rw [ho3]; exact hle2, _, rfl, by rw [ho3]; exact uy, zy, hp3⟩
    · rcases hcase with ⟨h0, hy⟩ | ⟨h0, _⟩
      · rw [hy]
        exact ⟨hle2, h0, rfl⟩
      · rw [h0] at q; exact absurd q (by decide)

/-- The kids of a call, while they grow. -/
def KO (h0 h : Heap) (g : Nat) (A : Option Addr) (n c : Nat) (es : List Ex) : Prop :=
  es.length = n ∧ SzsL es ∧ ((A = none ∧ n = 0 ∧ c = 0) ∨ ∃ gk cs, h0 gk = none ∧ gk ≠ g ∧ A = some ⟨gk, 0, none⟩ ∧ h gk = some ⟨cs, 30, (0, 0)⟩ ∧ cs.length = 6 * c ∧ n ≤ c ∧ IsEs (hole (hole h g) gk) es cs)

theorem IsEs.take {h : Heap} : ∀ {es : List Ex} {cs : List Value}, IsEs h es cs → IsEs h es (cs.take (6 * es.length))
  | [], cs, _ => by unfold IsEs; trivial
  | e :: es, cs, u => by
    unfold IsEs at u ⊢
    rw [List.length_cons, show 6 * (es.length + 1) = 6 + 6 * es.length by omega]
    refine ⟨by rw [List.take_take, Nat.min_eq_left (by omega)]; exact u.1, ?_⟩
    rw [List.drop_take, show 6 + 6 * es.length - 6 = 6 * es.length by omega]
    exact IsEs.take u.2

theorem repV_six (k : Nat) : (repV zE k).length = 6 * k := by
  induction k with
  | zero => rfl
  | succ k ih => rw [repV, List.length_append, ih]; simp; omega

theorem lmb_le (v : Nat) : lmb v ≤ 2 := by unfold lmb; split <;> (try split) <;> omega

def cutA (h : Heap) : Option Addr → Heap
  | none => h
  | some a => hole h a.block

theorem cutA_le (h : Heap) (A : Option Addr) : Le (cutA h A) h := by
  cases A with
  | none => exact Le.refl _
  | some a => exact hole_le _ _

/-- The next kid, apart from those that are there. -/
theorem foKid_c {n : Nat} (ih : MOk 41 ptr (pSum n)) {h : Heap} {g : Nat} {l r : List UInt8} (h0 : Heap) (A : Option Addr) (k c : Nat) (es : List Ex) (u : Ps h g l r) (hl : l.length ≤ 400) (hne : pSum n r ≠ .error 99) (ko : KO h0 h g A k c es) :
    CallsU Tryz.prog 41 (ptr g) h fun v h' => Le (hole h g) (hole h' g) ∧ match pSum n r with
      | .error e => e ≠ 0 ∧ v = .tuple #[.agg zE.toArray, .int .i64 e]
      | .ok (x, rest) => ∃ vs : List Value, v = .tuple #[.agg vs.toArray, .int .i64 0] ∧ IsE (cutA (hole h' g) A) x vs ∧ Szs x ∧ Ps h' g l rest ∧ KO h0 h' g A k c es := by
  obtain ⟨k1, k2, k3⟩ := ko
  rcases k3 with ⟨rfl, rfl, rfl⟩ | ⟨gk, cs, hg0, hgk, rfl, hb, hcl, hkc, hes⟩
  · refine (ih u hl hne).mono ?_
    rintro v h' ⟨hle, hm⟩
    refine ⟨hle, ?_⟩
    cases ho : pSum n r with
    | error e => rw [ho] at hm; exact hm
    | ok p =>
      obtain ⟨x, r'⟩ := p
      rw [ho] at hm
      obtain ⟨vs, hv, ux, zx, hp⟩ := hm
      exact ⟨vs, hv, ux, zx, hp, k1, k2, Or.inl ⟨rfl, rfl, rfl⟩⟩
  · have u0 : Ps (hole h gk) g l r := by
      obtain ⟨pre, ty, e1, e2⟩ := u
      exact ⟨pre, ty, e1, by rw [hole_ne _ (fun e => hgk e.symm)]; exact e2⟩
    have fr := (ih u0 hl hne).frame (g := gk) (b := ⟨cs, 30, (0, 0)⟩) (hole_at h gk)
    rw [put_hole hb] at fr
    refine fr.mono ?_
    rintro v _ ⟨h1, ⟨hle, hm⟩, h1k, rfl⟩
    have hx : hole (h1.put gk ⟨cs, 30, (0, 0)⟩) g = (hole h1 g).put gk ⟨cs, 30, (0, 0)⟩ := hole_put_ne _ _ hgk
    have h1n : hole h1 g gk = none := by rw [hole_ne _ hgk]; exact h1k
    have hcut : hole ((hole h1 g).put gk ⟨cs, 30, (0, 0)⟩) gk = hole h1 g := by rw [hole_put, hole_none h1n]
    refine ⟨?_, ?_⟩
    · rw [hx]
      intro j b hj
      by_cases e : j = gk
      · subst e
        rw [hole_ne _ hgk, hb] at hj
        cases hj
        rw [Heap.put_same]
      · rw [Heap.put_ne _ _ e]
        apply hle
        by_cases e2 : j = g
        · subst e2; rw [hole_at] at hj; cases hj
        · rw [hole_ne _ e2] at hj ⊢
          rw [hole_ne _ e]; exact hj
    · cases ho : pSum n r with
      | error e => rw [ho] at hm; exact hm
      | ok p =>
        obtain ⟨x, r'⟩ := p
        rw [ho] at hm
        obtain ⟨vs, hv, ux, zx, hp⟩ := hm
        refine ⟨vs, hv, ?_, zx, ?_, k1, k2, Or.inr ⟨gk, cs, hg0, hgk, rfl, Heap.put_same _ _ _, hcl, hkc, ?_⟩⟩
        · show IsE (hole (hole (h1.put gk _) g) gk) x vs
          rw [hx, hcut]; exact ux
        · obtain ⟨pre, ty, e1, e2⟩ := hp
          exact ⟨pre, ty, e1, by rw [Heap.put_ne _ _ (fun e => hgk e.symm)]; exact e2⟩
        · rw [hx, hcut]
          refine IsEs.mono ?_ _ _ hes
          rw [hole_comm]; exact hle

theorem foCall_step {n : Nat} (kd : Int) (ih : ∀ k, k ≤ n → MOk 41 ptr (pSum k)) : MOk 164 (fun g => [.pointer (some ⟨g, 0, none⟩), .int .i64 kd]) (pCall (n + 1) kd) := by
  intro h g l r u hl hne
  rw [pCall] at hne ⊢
  apply garment_formula_parser_call_ok
  refine (foExpect_c [40] u (by omega)).mono ?_
  rintro _ h1 ⟨rfl, hp, ho⟩
  refine ⟨_, rfl, Br.mk (fun q => ?_) (fun q => ?_)⟩
  · have h0 : expV [40] r ≠ 0 := by simpa using q
    rw [if_neg h0]
    exact ⟨by rw [ho]; exact Le.refl _, h0, rfl⟩
  · have h0 : expV [40] r = 0 := by simpa using q
    rw [if_pos h0] at hne ⊢
    generalize hr : aft r = r1 at *
    refine ⟨fun m A k c _ _ _ _ _ _ _ _ _ _ _ _ h' => ∃ es r2, m ≤ n ∧ pCallL m kd es r2 = pCallL n kd [] r1 ∧ KO h h' g A k c es ∧ k < 8 ∧ Ps h' g l r2 ∧ Le (hole h g) (hole h' g), ⟨n, [], r1, Nat.le_refl _, rfl, ⟨rfl, by unfold SzsL; trivial, Or.inl ⟨rfl, rfl, rfl⟩⟩, by omega, hp, by rw [ho]; exact Le.refl _⟩, ?_⟩
    rintro m A k c _ _ _ _ _ _ _ _ _ _ _ _ h2 ⟨es, r2, hm, heq, ko, hk8, hp2, hle2⟩
    cases m with
    | zero => rw [pCallL] at heq; exact absurd heq.symm hne
    | succ m =>
      rw [← heq] at hne
      rw [pCallL] at heq hne
      have kc := foKid_c (ih m (by omega)) (r := r2) h A k c es hp2 hl
      cases ho5 : pSum m r2 with
      | error e =>
        rw [ho5] at heq hne kc
        simp only at heq hne
        refine (kc hne ko).mono ?_
        rintro _ h3 ⟨hle3, he, rfl⟩
        refine ⟨_, _, _, _, _, _, _, _, _, _, _, _, _, rfl, Br.mk (fun _ => ?_) (fun q => by rw [bne_eq_false_iff_eq] at q; exact absurd q he)⟩
        rw [← heq]
        exact ⟨hle2.trans hle3, he, rfl⟩
      | ok p =>
        obtain ⟨x, r3⟩ := p
        rw [ho5] at heq hne kc
        simp only at heq hne
        refine (kc (by intro q; cases q) ko).mono ?_
        rintro _ h3 ⟨hle3, vs, rfl, ux, zx, hp3, ko3⟩
        have ux' := ux
        have hvl := ux.len
        obtain ⟨s3, A3, c3, B3, d3, K3, kc3, hvs, _, _, _⟩ := ux'.open
        subst hvs
        refine ⟨_, _, _, _, _, _, _, _, _, _, _, _, _, rfl, Br.mk (fun q => by exact absurd q (by decide)) (fun _ => ?_)⟩
        refine ⟨fun A' k' c' h' => KO h h' g A' k' c' (es ++ [x]) ∧ k' = k + 1 ∧ Ps h' g l r3 ∧ Le (hole h g) (hole h' g) ∧ A' ≠ none, ?_, ?_⟩
        · rintro A' k' c' h4 ⟨ko4, rfl, hp4, hle4, hA'⟩
          refine (foTake_c hp4 (by omega)).mono ?_
          rintro _ h5 ⟨rfl, hp5, ho5⟩
          have hle5 : Le (hole h g) (hole h5 g) := by rw [ho5]; exact hle4
          have b1 : (⟨#[41]⟩ : ByteArray).toList = [41] := bytes_toList _
          have b2 : (⟨#[44]⟩ : ByteArray).toList = [44] := bytes_toList _
          have b0 : (⟨#[]⟩ : ByteArray).toList = [] := bytes_toList []
          have hlen := ko4.1
          rw [List.length_append, List.length_singleton] at hlen
          have ko5 : KO h h5 g A' (k + 1) c' (es ++ [x]) := by
            obtain ⟨a1, a2, a3⟩ := ko4
            refine ⟨a1, a2, ?_⟩
            rcases a3 with a3 | ⟨gk, cs, b0', b1, b2, b3, b4, b5, b6⟩
            · exact Or.inl a3
            · refine Or.inr ⟨gk, cs, b0', b1, b2, ?_, b4, b5, by rw [ho5]; exact b6⟩
              have := congrFun ho5 gk
              rw [hole_ne _ b1, hole_ne _ b1] at this
              rw [this]; exact b3
          refine ⟨_, rfl, ?_⟩
          rw [bytes_toList, b1, b2, b0]
          refine Br.mk (fun q1 => ?_) (fun q1 => Br.mk (fun q2 => ?_) (fun q2 => Br.mk (fun q3 => ?_) (fun q3 => Br.mk (fun q4 => ?_) (fun q4 => ?_))))
          · rw [if_pos (beq_iff_eq.1 q1)] at heq
            rw [← heq]
            obtain ⟨a1, a2, a3⟩ := ko5
            rcases a3 with ⟨a3, _⟩ | ⟨gk, cs, b0', b1, b2, b3, b4, b5, b6⟩
            · exact absurd a3 hA'
            · subst b2
              refine ⟨hle5, _, rfl, ?_, ?_, hp5⟩
              · have e1 := IsE_op (h := hole h5 g) (k := kd) (es := es ++ [x]) (gk := gk) (c := c') (ty := 30) (cs := cs) (by rw [hole_ne _ b1]; exact b3) (by omega) (by omega) (IsEs.mono (hole_le _ _) _ _ b6)
                rw [a1] at e1
                exact e1
              · unfold Szs
                exact ⟨by omega, by omega, by simp, by omega, a2⟩
          · rw [if_neg (beq_eq_false_iff_ne.1 q1), if_pos (beq_iff_eq.1 q2)] at heq
            rw [← heq]
            exact ⟨hle5, by decide, rfl⟩
          · have h3 : tk r3 ≠ [44] := by simpa using q3
            rw [if_neg (beq_eq_false_iff_ne.1 q1), if_neg (beq_eq_false_iff_ne.1 q2), if_pos h3] at heq
            rw [← heq]
            exact ⟨hle5, by decide, rfl⟩
          · have h3 : tk r3 = [44] := by simpa using q3
            have h4 : es.length + 1 = 8 := by have := beq_iff_eq.1 q4; omega
            rw [if_neg (beq_eq_false_iff_ne.1 q1), if_neg (beq_eq_false_iff_ne.1 q2), if_neg (by simp [h3]), if_pos h4] at heq
            rw [← heq]
            exact ⟨hle5, by decide, rfl⟩
          · have h3 : tk r3 = [44] := by simpa using q3
            have h4 : es.length + 1 ≠ 8 := by have := beq_eq_false_iff_ne.1 q4; omega
            rw [if_neg (beq_eq_false_iff_ne.1 q1), if_neg (beq_eq_false_iff_ne.1 q2), if_neg (by simp [h3]), if_neg h4] at heq
            exact ⟨m, by omega, es ++ [x], aft r3, by omega, heq, ko5, by omega, hp5, hle5⟩
        · rintro g6 _ hg6 rfl
          obtain ⟨a1, a2, a3⟩ := ko3
          have hgg : g6 ≠ g := fun e => by
            obtain ⟨_, _, _, hb⟩ := hp3
            rw [e, hb] at hg6; cases hg6
          refine ⟨cellsE x.kind s3 A3 x.ln c3 B3 x.lm d3 x.name K3 x.kids.length kc3, ⟨rfl, fun _ => ⟨_, rfl, rfl, _, Heap.put_same _ _ _, rfl⟩⟩, ?_, ?_, ?_⟩
          · intro y hy
            simp only [cellsE, List.mem_cons, List.not_mem_nil, or_false] at hy
            rcases hy with rfl | rfl | rfl | rfl | rfl | rfl <;> rfl
          · intro hcap
            rcases a3 with ⟨_, _, rfl⟩ | ⟨gk, cs, b0', b1, rfl, b3, b4, b5, b6⟩
            · omega
            · have hg6k : g6 ≠ gk := fun e => by rw [e, b3] at hg6; cases hg6
              refine ⟨_, _, rfl, rfl, by rw [Heap.put_ne _ _ (fun e => hg6k e.symm)]; exact b3, rfl, by simp only; omega, ?_⟩
              rintro _ rfl
              have hx1 : ∀ B6 B7 : Blk, hole ((h3.put g6 B6).put gk B7) g = ((hole h3 g).put g6 B6).put gk B7 := fun B6 B7 => by
                rw [hole_put_ne _ _ b1, hole_put_ne _ _ hgg]
              have hn6 : hole h3 g g6 = none := by rw [hole_ne _ hgg]; exact hg6
              refine ⟨⟨by rw [List.length_append]; simp; omega, SzsL.snoc a2 zx, Or.inr ⟨gk, setSeg cs (0 + k * 6) (cellsE x.kind s3 A3 x.ln c3 B3 x.lm d3 x.name K3 x.kids.length kc3), b0', b1, rfl, Heap.put_same _ _ _, ?_, hcap, ?_⟩⟩, rfl, ?_, ?_, by simp⟩
              · unfold setSeg
                rw [List.length_append, List.length_append, List.length_take, List.length_drop, cellsE_len]
                omega
              · refine IsEs.mono (h := (hole (hole h3 g) gk).put g6 ⟨cellsE x.kind s3 A3 x.ln c3 B3 x.lm d3 x.name K3 x.kids.length kc3, 30, (0, 0)⟩) ?_ _ _ ?_
                · rw [hx1, hole_put, hole_put_ne _ _ hg6k]
                  exact Le.refl _
                · have hn7 : hole (hole h3 g) gk g6 = none := by rw [hole_ne _ hg6k]; exact hn6
                  have l7 := Le.new hn7 ⟨cellsE x.kind s3 A3 x.ln c3 B3 x.lm d3 x.name K3 x.kids.length kc3, 30, (0, 0)⟩
                  have := IsEs.snoc (rest := cs.drop (0 + k * 6 + (cellsE x.kind s3 A3 x.ln c3 B3 x.lm d3 x.name K3 x.kids.length kc3).length)) (IsEs.mono l7 _ _ b6) (by omega) (IsE.mono l7 _ _ ux)
                  unfold setSeg
                  rw [show 0 + k * 6 = 6 * es.length by omega] at this ⊢
                  exact this
              · obtain ⟨pre, ty, e1, e2⟩ := hp3
                exact ⟨pre, ty, e1, by rw [Heap.put_ne _ _ (fun e => b1 e.symm), Heap.put_ne _ _ (fun e => hgg e.symm)]; exact e2⟩
              · rw [hx1]
                refine Le.put ?_ (by rw [hole_ne _ b1]; exact b0') _
                exact (hle2.trans hle3).trans (Le.new hn6 _)
          · intro hcap
            have hn6 : hole h3 g g6 = none := by rw [hole_ne _ hgg]; exact hg6
            have hk6 : k * 6 = 6 * es.length := by omega
            have holds : ∃ olds : List Value, RdS (h3.put g6 ⟨cellsE x.kind s3 A3 x.ln c3 B3 x.lm d3 x.name K3 x.kids.length kc3, 30, (0, 0)⟩) A (k * 6) olds ∧ IsEs (hole h3 g) es olds ∧ olds.length = 6 * es.length := by
              rcases a3 with ⟨rfl, rfl, rfl⟩ | ⟨gk, cs, b0', b1, rfl, b3, b4, b5, b6⟩
              · have : es = [] := List.length_eq_zero_iff.1 a1
                subst this
                exact ⟨[], ⟨rfl, fun q => absurd q (by decide)⟩, by unfold IsEs; trivial, rfl⟩
              · have hg6k : g6 ≠ gk := fun e => by rw [e, b3] at hg6; cases hg6
                refine ⟨cs.take (6 * es.length), ⟨by rw [List.length_take]; omega, fun _ => ⟨_, rfl, rfl, _, by rw [Heap.put_ne _ _ (fun e => hg6k e.symm)]; exact b3, ?_⟩⟩, ?_, by rw [List.length_take]; omega⟩
                · simp only [List.drop_zero, List.length_take]
                  congr 1
                  omega
                · exact IsEs.take (IsEs.mono (hole_le _ _) _ _ b6)
            obtain ⟨olds, hrd, hes, hol⟩ := holds
            refine ⟨olds, hrd, by omega, ?_⟩
            rintro g7 cap _ hg7 hcap7 rfl
            have hg76 : g7 ≠ g6 := fun e => by rw [e, Heap.put_same] at hg7; cases hg7
            rw [Heap.put_ne _ _ hg76] at hg7
            have hgg7 : g7 ≠ g := fun e => by
              obtain ⟨_, _, _, hb⟩ := hp3
              rw [e, hb] at hg7; cases hg7
            have h07 : h g7 = none := by
              cases hh : h g7 with
              | none => rfl
              | some bb =>
                have := (hle2.trans hle3) g7 bb (by rw [hole_ne _ hgg7]; exact hh)
                rw [hole_ne _ hgg7, hg7] at this
                cases this
            have hx1 : ∀ B6 B7 : Blk, hole ((h3.put g6 B6).put g7 B7) g = ((hole h3 g).put g6 B6).put g7 B7 := fun B6 B7 => by
              rw [hole_put_ne _ _ hgg7, hole_put_ne _ _ hgg]
            refine ⟨⟨by rw [List.length_append]; simp; omega, SzsL.snoc a2 zx, Or.inr ⟨g7, _, h07, hgg7, rfl, Heap.put_same _ _ _, ?_, hcap7, ?_⟩⟩, rfl, ?_, ?_, by simp⟩
            · rw [List.length_append, List.length_append, hol, cellsE_len, repV_six]
              omega
            · rw [hx1, hole_put, hole_none (by rw [Heap.put_ne _ _ hg76, hole_ne _ hgg7]; exact hg7)]
              have l7 := Le.new hn6 ⟨cellsE x.kind s3 A3 x.ln c3 B3 x.lm d3 x.name K3 x.kids.length kc3, 30, (0, 0)⟩
              have := IsEs.snoc (rest := repV zE (cap - (k + 1))) (IsEs.mono l7 _ _ hes) (by omega) (IsE.mono (cutA_le _ _) _ _ ux |> IsE.mono l7 _ _)
              rw [List.take_of_length_le (by omega)] at this
              exact this
            · obtain ⟨pre, ty, e1, e2⟩ := hp3
              exact ⟨pre, ty, e1, by rw [Heap.put_ne _ _ (fun e => hgg7 e.symm), Heap.put_ne _ _ (fun e => hgg e.symm)]; exact e2⟩
            · rw [hx1]
              refine Le.put ?_ (by rw [hole_ne _ hgg7]; exact h07) _
              exact (hle2.trans hle3).trans (Le.new hn6 _)

/-- A factor. -/
theorem foFac_step {n : Nat} (ihF : MOk 120 ptr (pFac n)) (ihS : MOk 41 ptr (pSum n)) (ihC : ∀ kd : Int, MOk 164 (fun g => [.pointer (some ⟨g, 0, none⟩), .int .i64 kd]) (pCall n kd)) : MOk 120 ptr (pFac (n + 1)) := by
  intro h g l r u hl hne
  rw [pFac] at hne ⊢
  apply garment_formula_parser_factor_ok
  refine (foTake_c u (by omega)).mono ?_
  rintro _ h1 ⟨rfl, hp, ho⟩
  have hle1 : Le (hole h g) (hole h1 g) := by rw [ho]; exact Le.refl _
  have b0 : (⟨#[]⟩ : ByteArray).toList = [] := bytes_toList []
  have b1 : (⟨#[45]⟩ : ByteArray).toList = [45] := bytes_toList _
  have b2 : (⟨#[40]⟩ : ByteArray).toList = [40] := bytes_toList _
  have b3 : (⟨#[109, 105, 110]⟩ : ByteArray).toList = [109, 105, 110] := bytes_toList _
  have b4 : (⟨#[109, 97, 120]⟩ : ByteArray).toList = [109, 97, 120] := bytes_toList _
  refine ⟨_, rfl, ?_⟩
  rw [bytes_toList, b0, b1, b2, b3, b4]
  refine Br.mk (fun q0 => ?_) (fun q0 => ?_)
  · rw [if_pos (beq_iff_eq.1 q0)]
    exact ⟨hle1, by decide, rfl⟩
  rw [if_neg (beq_eq_false_iff_ne.1 q0)] at hne ⊢
  refine Br.mk (fun q1 => ?_) (fun q1 => ?_)
  · rw [if_pos (beq_iff_eq.1 q1)] at hne ⊢
    have hs := ihF hp hl
    cases hoo : pFac n (aft r) with
    | error e =>
      rw [hoo] at hne hs
      simp only at hne
      refine (hs hne).mono ?_
      rintro _ h2 ⟨hle2, he, rfl⟩
      refine ⟨_, _, _, _, _, _, _, _, _, _, _, _, _, rfl, Br.mk (fun _ => ⟨hle1.trans hle2, he, rfl⟩) (fun q => by rw [bne_eq_false_iff_eq] at q; exact absurd q he)⟩
    | ok p =>
      obtain ⟨x, r'⟩ := p
      rw [hoo] at hne hs
      simp only at hne
      refine (hs (by intro q; cases q)).mono ?_
      rintro _ h2 ⟨hle2, vs, rfl, ux, zx, hp2⟩
      have ux' := ux
      obtain ⟨s3, A3, c3, B3, d3, K3, kc3, rfl, _, _, _⟩ := ux'.open
      refine ⟨_, _, _, _, _, _, _, _, _, _, _, _, _, rfl, Br.mk (fun q => by exact absurd q (by decide)) (fun _ => ?_)⟩
      rintro g1 _ hg1 rfl
      have hgg : g1 ≠ g := fun e => by
        obtain ⟨_, _, _, hb⟩ := hp2
        rw [e, hb] at hg1; cases hg1
      have hng : hole h2 g g1 = none := by rw [hole_ne _ hgg]; exact hg1
      refine ⟨?_, _, rfl, ?_, ?_, ?_⟩
      · rw [hole_put_ne _ _ hgg]
        exact (hle1.trans hle2).trans (Le.new hng _)
      · rw [hole_put_ne _ _ hgg]
        refine IsE_op (es := [x]) (Heap.put_same _ _ _) (by simp) (by simp) ?_
        unfold IsEs
        exact ⟨IsE.mono (Le.new hng _) _ _ ux, by unfold IsEs; trivial⟩
      · unfold Szs SzsL SzsL
        exact ⟨by omega, by omega, by simp, by simp, zx, trivial⟩
      · obtain ⟨pre, ty, hlr, hb⟩ := hp2
        exact ⟨pre, ty, hlr, by rw [Heap.put_ne _ _ (fun e => hgg e.symm)]; exact hb⟩
  rw [if_neg (beq_eq_false_iff_ne.1 q1)] at hne ⊢
  refine Br.mk (fun q2 => ?_) (fun q2 => ?_)
  · rw [if_pos (beq_iff_eq.1 q2)] at hne ⊢
    have hs := ihS hp hl
    cases hoo : pSum n (aft r) with
    | error e =>
      rw [hoo] at hne hs
      simp only at hne
      refine (hs hne).mono ?_
      rintro _ h2 ⟨hle2, he, rfl⟩
      refine ⟨_, _, _, _, _, _, _, _, _, _, _, _, _, rfl, Br.mk (fun q => absurd (beq_iff_eq.1 q) he) (fun _ => Br.mk (fun _ => ⟨hle1.trans hle2, he, rfl⟩) (fun q => by rw [bne_eq_false_iff_eq] at q; exact absurd q he))⟩
    | ok p =>
      obtain ⟨x, r'⟩ := p
      rw [hoo] at hne hs
      simp only at hne
      refine (hs (by intro q; cases q)).mono ?_
      rintro _ h2 ⟨hle2, vs, rfl, ux, zx, hp2⟩
      have ux' := ux
      obtain ⟨s3, A3, c3, B3, d3, K3, kc3, rfl, _, _, _⟩ := ux'.open
      refine ⟨_, _, _, _, _, _, _, _, _, _, _, _, _, rfl, Br.mk (fun _ => ?_) (fun q => by exact absurd q (by decide))⟩
      refine (foExpect_c [41] hp2 (by omega)).mono ?_
      rintro _ h3 ⟨rfl, hp3, ho3⟩
      have hle3 : Le (hole h g) (hole h3 g) := by rw [ho3]; exact hle1.trans hle2
      simp only
      refine ⟨_, rfl, Br.mk (fun q => ?_) (fun q => ?_)⟩
      · have h0 : expV [41] r' ≠ 0 := by simpa using q
        rw [if_neg h0]
        exact ⟨hle3, h0, rfl⟩
      · have h0 : expV [41] r' = 0 := by simpa using q
        rw [if_pos h0]
        exact ⟨hle3, _, rfl, by rw [ho3]; exact ux, zx, hp3⟩
  rw [if_neg (beq_eq_false_iff_ne.1 q2)] at hne ⊢
  have call : ∀ kd : Int, pCall n kd (aft r) ≠ .error 99 → CallsU Tryz.prog 164 [.pointer (some ⟨g, 0, none⟩), .int .i64 kd] h1 fun v_4 h_6 =>
      ∃ t63_0_0 : Int, ∃ t63_0_1 : Bool, ∃ t63_0_2A : Option Addr, ∃ t63_0_2n t63_0_2c : Nat, ∃ t63_0_3A : Option Addr, ∃ t63_0_3n t63_0_3c : Nat, ∃ t63_0_4 : ByteArray, ∃ t63_0_5A : Option Addr, ∃ t63_0_5n t63_0_5c : Nat, ∃ t63_1 : Int, v_4 = Value.tuple #[Value.agg #[Value.int .i64 t63_0_0, Value.bool t63_0_1, Value.slice t63_0_2A t63_0_2n t63_0_2c, Value.slice t63_0_3A t63_0_3n t63_0_3c, Value.string t63_0_4, Value.slice t63_0_5A t63_0_5n t63_0_5c], Value.int .i64 t63_1] ∧
      PaR (pCall n kd (aft r)) g l h (Value.tuple #[Value.agg #[Value.int .i64 t63_0_0, Value.bool t63_0_1, Value.slice t63_0_2A t63_0_2n t63_0_2c, Value.slice t63_0_3A t63_0_3n t63_0_3c, Value.string t63_0_4, Value.slice t63_0_5A t63_0_5n t63_0_5c], Value.int .i64 t63_1]) h_6 := by
    intro kd hne2
    refine ((ihC kd) hp hl hne2).mono ?_
    intro v h2 hP
    cases hoo : pCall n kd (aft r) with
    | error e =>
      rw [hoo] at hP
      obtain ⟨hle2, he, rfl⟩ := hP
      exact ⟨_, _, _, _, _, _, _, _, _, _, _, _, _, rfl, hle1.trans hle2, he, rfl⟩
    | ok p =>
      obtain ⟨x, r'⟩ := p
      rw [hoo] at hP
      obtain ⟨hle2, vs, rfl, ux, zx, hp2⟩ := hP
      have ux' := ux
      obtain ⟨s3, A3, c3, B3, d3, K3, kc3, rfl, _, _, _⟩ := ux'.open
      exact ⟨_, _, _, _, _, _, _, _, _, _, _, _, _, rfl, hle1.trans hle2, _, rfl, ux, zx, hp2⟩
  refine Br.mk (fun q3 => ?_) (fun q3 => ?_)
  · rw [if_pos (beq_iff_eq.1 q3)] at hne ⊢
    exact call 8 hne
  rw [if_neg (beq_eq_false_iff_ne.1 q3)] at hne ⊢
  refine Br.mk (fun q4 => ?_) (fun q4 => ?_)
  · rw [if_pos (beq_iff_eq.1 q4)] at hne ⊢
    exact call 9 hne
  rw [if_neg (beq_eq_false_iff_ne.1 q4)] at hne ⊢
  obtain ⟨pre, ty, hlr, hb⟩ := hp
  have hsp := congrArg List.length (tk_split r)
  have hlen : l.length = pre.length + (aft r).length := by rw [hlr, List.length_append]
  have htl : (tk r).length ≤ 400 := by
    obtain ⟨pre0, ty0, hlr0, _⟩ := u
    have h0 := skip_le r
    have h1 := tokOf_le (skipS r)
    have h2 : l.length = pre0.length + r.length := by rw [hlr0, List.length_append]
    unfold tk
    omega
  have fr := (foNumber_c (w := tk r) (by omega) (hole h1 g)).frame (g := g) (b := ⟨[sv l, .int .i64 (pre.length : Int)], ty, (0, 0)⟩) (hole_at h1 g)
  rw [put_hole hb] at fr
  refine fr.mono ?_
  rintro v _ ⟨h2, ⟨hN, hle2⟩, h2g, rfl⟩
  have hx : hole (h2.put g ⟨[sv l, .int .i64 (pre.length : Int)], ty, (0, 0)⟩) g = h2 := by rw [hole_put, hole_none h2g]
  have hps : Ps (h2.put g ⟨[sv l, .int .i64 (pre.length : Int)], ty, (0, 0)⟩) g l (aft r) := ⟨pre, ty, hlr, Heap.put_same _ _ _⟩
  cases hoo : numberV (tk r) with
  | some q =>
    rw [hoo] at hN
    obtain ⟨s, A, c, B, d, rfl, hq⟩ := hN
    refine ⟨_, _, _, _, _, _, _, _, rfl, Br.mk (fun _ => ?_) (fun q => by cases q)⟩
    have hl1 := lmb_le q.num.natAbs
    have hl2 := lmb_le q.den
    refine ⟨by rw [hx]; exact hle1.trans hle2, _, rfl, ?_, ?_, hps⟩
    · rw [hx]
      unfold IsE
      exact ⟨s, A, c, B, d, none, 0, rfl, hq.is, Nat.le_refl _, fun q => absurd rfl q⟩
    · unfold Szs SzsL
      exact ⟨by omega, by omega, by simp, by simp, trivial⟩
  | none =>
    rw [hoo] at hN
    cases hN
    refine ⟨_, _, _, _, _, _, _, _, rfl, Br.mk (fun q => by cases q) (fun _ => ?_)⟩
    refine (foName_c (tk r) _).mono ?_
    rintro _ _ ⟨rfl, rfl⟩
    simp only
    refine ⟨_, rfl, Br.mk (fun q => ?_) (fun q => ?_)⟩
    · rw [if_pos q]
      refine ⟨by rw [hx]; exact hle1.trans hle2, _, rfl, ?_, ?_, hps⟩
      · unfold IsE
        exact ⟨false, none, 0, none, 0, none, 0, rfl, IsQ.nul _, Nat.le_refl _, fun q => absurd rfl q⟩
      · unfold Szs SzsL
        exact ⟨by omega, by omega, by omega, by simp, trivial⟩
    · rw [if_neg (by rw [q]; decide)]
      exact ⟨by rw [hx]; exact hle1.trans hle2, by decide, rfl⟩

/-- All methods. -/
theorem foAll : ∀ n : Nat, ∀ k, k ≤ n → MOk 41 ptr (pSum k) ∧ MOk 69 ptr (pProd k) ∧ MOk 120 ptr (pFac k) ∧ ∀ kd : Int, MOk 164 (fun g => [.pointer (some ⟨g, 0, none⟩), .int .i64 kd]) (pCall k kd)
  | 0, k, hk => by
    have : k = 0 := by omega
    subst this
    refine ⟨?_, ?_, ?_, fun kd => ?_⟩ <;> intro h g l r _ _ hne
    · rw [pSum] at hne; exact absurd rfl hne
    · rw [pProd] at hne; exact absurd rfl hne
    · rw [pFac] at hne; exact absurd rfl hne
    · rw [pCall] at hne; exact absurd rfl hne
  | n + 1, k, hk => by
    have ih := foAll n
    rcases Nat.lt_or_ge k (n + 1) with q | q
    · exact ih k (by omega)
    · have : k = n + 1 := by omega
      subst this
      exact ⟨foSum_step fun k hk => (ih k hk).2.1, foProd_step fun k hk => (ih k hk).2.2.1, foFac_step (ih n (Nat.le_refl _)).2.2.1 (ih n (Nat.le_refl _)).1 (ih n (Nat.le_refl _)).2.2.2, fun kd => foCall_step kd fun k hk => (ih k hk).1⟩

/-- What Parse answers. -/
def FpR (o : Except Int Ex) (h : Heap) (r : Value) (h' : Heap) : Prop :=
  Le h h' ∧ match o with
    | .error e => e ≠ 0 ∧ r = .tuple #[.agg zE.toArray, .int .i64 e]
    | .ok x => ∃ vs : List Value, r = .tuple #[.agg vs.toArray, .int .i64 0] ∧ IsE h' x vs ∧ Szs x ∧ chkV x 1 = 0

theorem foParse_c {s : List UInt8} (hfu : pSum 4000 s ≠ .error 99) (h : Heap) : CallsU Tryz.prog 18 [sv s] h (FpR (foParseV s) h) := by
  apply formula_Parse_ok
  unfold formula_Parse_vc foParseV
  rw [ba_size]
  refine Br.mk (fun q => ?_) (fun q => ?_)
  · rw [if_pos (by have := of_decide_eq_true q; omega)]
    exact ⟨Le.refl _, by decide, rfl⟩
  · have hl : s.length ≤ 400 := by have := of_decide_eq_false q; omega
    rw [if_neg (by omega)]
    rintro g _ hg rfl
    refine ⟨_, Heap.put_same _ _ _, rfl, rfl, by simp, ?_⟩
    rintro _ rfl
    have hps : Ps (Heap.put (Heap.put h g ⟨[Value.string ByteArray.empty, Value.int .i64 0], 63, (0, 0)⟩) g ⟨setSeg [Value.string ByteArray.empty, Value.int .i64 0] 0 [sv s, Value.int .i64 0], 63, (0, 0)⟩) g s s :=
      ⟨[], 63, rfl, by rw [Heap.put_same]; rfl⟩
    have hho : hole (Heap.put (Heap.put h g ⟨[Value.string ByteArray.empty, Value.int .i64 0], 63, (0, 0)⟩) g ⟨setSeg [Value.string ByteArray.empty, Value.int .i64 0] 0 [sv s, Value.int .i64 0], 63, (0, 0)⟩) g = h := by
      rw [hole_put, hole_put, hole_none hg]
    refine ((foAll 4000 4000 (Nat.le_refl _)).1 hps hl hfu).mono ?_
    intro v h1 hP
    have hle1 := hP.1
    rw [hho] at hle1
    have hle1' : Le h h1 := hle1.trans (hole_le _ _)
    cases hoo : pSum 4000 s with
    | error e =>
      rw [hoo] at hP
      obtain ⟨_, he, rfl⟩ := hP
      refine ⟨_, _, _, _, _, _, _, _, _, _, _, _, _, rfl, fun err h' => err = e ∧ h' = h1, ?_, Br.mk (fun q => absurd (beq_iff_eq.1 q) he) (fun _ => ⟨rfl, rfl⟩)⟩
      rintro _ _ ⟨rfl, rfl⟩
      exact Br.mk (fun q => absurd (beq_iff_eq.1 q) he) (fun _ => Br.mk (fun _ => ⟨hle1', he, rfl⟩) (fun q => by rw [bne_eq_false_iff_eq] at q; exact absurd q he))
    | ok p =>
      obtain ⟨x, r'⟩ := p
      rw [hoo] at hP
      obtain ⟨_, vs, rfl, ux, zx, hp2⟩ := hP
      have ux' := ux
      obtain ⟨s3, A3, c3, B3, d3, K3, kc3, rfl, _, _, _⟩ := ux'.open
      refine ⟨_, _, _, _, _, _, _, _, _, _, _, _, _, rfl, fun err h' => hole h' g = hole h1 g ∧ err = if tk r' = [] then 0 else 2, ?_, Br.mk (fun _ => ?_) (fun q => by exact absurd q (by decide))⟩
      · rintro _ h2 ⟨ho2, rfl⟩
        have hle2 : Le h h2 := by
          rw [← ho2] at hle1
          exact hle1.trans (hole_le _ _)
        have ux2 : IsE h2 x _ := IsE.mono (hole_le _ g) _ _ (by rw [ho2]; exact ux)
        simp only
        by_cases ht : tk r' = []
        · rw [if_pos ht, if_pos ht]
          refine Br.mk (fun _ => (foChk_c ux2 zx).mono ?_) (fun q => by exact absurd q (by decide))
          rintro _ h3 ⟨rfl, hle3⟩
          refine ⟨_, rfl, Br.mk (fun q => ?_) (fun q => ?_)⟩
          · have h0 : chkV x 1 ≠ 0 := by simpa using q
            rw [if_neg h0]
            exact ⟨hle2.trans hle3, h0, rfl⟩
          · have h0 : chkV x 1 = 0 := by simpa using q
            rw [if_pos h0]
            exact ⟨hle2.trans hle3, _, rfl, IsE.mono hle3 _ _ ux2, zx, h0⟩
        · rw [if_neg ht, if_neg ht]
          exact Br.mk (fun q => by exact absurd q (by decide)) (fun _ => Br.mk (fun _ => ⟨hle2, by decide, rfl⟩) (fun q => by exact absurd q (by decide)))
      · refine (foNext_c hp2 (by omega)).mono ?_
        rintro _ h2 ⟨rfl, _, ho2⟩
        have b0 : (⟨#[]⟩ : ByteArray).toList = [] := bytes_toList []
        refine ⟨_, rfl, ?_⟩
        rw [bytes_toList, b0]
        refine Br.mk (fun q => ⟨ho2, ?_⟩) (fun q => ⟨ho2, ?_⟩)
        · have : tk r' ≠ [] := by simpa using q
          rw [if_neg this]
        · have : tk r' = [] := by simpa using q
          rw [if_pos this]
end Go.Proofs.YtdpdaphholileaaGreatDoor

/-
  Contracts: formula: collect, Names.
-/
namespace Go.Proofs.YtdpdaphholileaaGreatDoor
open Go Go.Vcg Go.RowKit Go.Sort
attribute [local irreducible] Br

mutual
/-- The names of a tree, as they occur. -/
def namesE : Ex → List (List UInt8)
  | .mk k _ _ _ nm kids => (if k = 2 then [nm] else []) ++ namesL kids
def namesL : List Ex → List (List UInt8)
  | [] => []
  | e :: es => namesE e ++ namesL es
end

theorem namesL_take {es : List Ex} {j : Nat} {e : Ex} (he : es[j]? = some e) : namesL (es.take (j + 1)) = namesL (es.take j) ++ namesE e := by
  induction es generalizing j with
  | nil => simp at he
  | cons x es ih =>
    cases j with
    | zero => simp at he; subst he; simp [namesL]
    | succ j =>
      simp only [List.take_succ_cons, namesL]
      rw [ih (by simpa using he), List.append_assoc]

theorem namesL_le {es : List Ex} (j : Nat) : (namesL (es.take j)).length ≤ (namesL es).length := by
  induction es generalizing j with
  | nil => simp [namesL]
  | cons x es ih =>
    cases j with
    | zero => simp [namesL]
    | succ j =>
      simp only [List.take_succ_cons, namesL, List.length_append]
      have := ih j
      omega

/-- What is claimed of a tree. -/
def CoOk (e : Ex) : Prop := ∀ {h0 h : Heap} {vs : List Value} {A : Option Addr} {n c : Nat} {gs : List (List UInt8)}, IsE h0 e vs → Szs e → OwnE sv 9 h0 h A n c gs → Le h0 h → gs.length + (namesE e).length ≤ 1000000000 →
  CallsU Tryz.prog 37 [.slice A n c, .agg vs.toArray] h fun r h' => ∃ A' n' c', r = .slice A' n' c' ∧ OwnE sv 9 h0 h' A' n' c' (gs ++ namesE e) ∧ Le h0 h'

theorem foCollect_node {k : Int} {q : Rat} {n m : Nat} {nm : List UInt8} {kids : List Ex} (ih : evAll CoOk kids) : CoOk (.mk k q n m nm kids) := by
  intro h0 h vs lA ln lc gs u z own hle hcnt
  have uo := u.open
  obtain ⟨s, A, c, B, d, K, kc, rfl, uq, hc, hk⟩ := uo
  obtain ⟨z1, z2, z3, z4, z5⟩ := z.open
  simp only [Ex.kids, Ex.ln, Ex.lm, Ex.val, Ex.name] at uq hc hk z1 z2 z3 z4 z5
  have hnm : namesE (.mk k q n m nm kids) = (if k = 2 then [nm] else []) ++ namesL kids := by rw [namesE]
  rw [hnm] at hcnt ⊢
  rw [List.length_append] at hcnt
  have hln := own.1
  apply formula_collect_ok
  unfold formula_collect_vc
  have hlen : (Ex.mk k q n m nm kids).kids.length = kids.length := rfl
  rw [hlen]
  refine ⟨fun A' n' c' h' => OwnE sv 9 h0 h' A' n' c' (gs ++ if k = 2 then [nm] else []) ∧ Le h0 h', ?_, ?_⟩
  · rintro A1 n1 c1 h1 ⟨own1, hl1⟩
    generalize hG : gs ++ (if k = 2 then [nm] else []) = gs1 at own1
    have hcnt1 : gs1.length + (namesL kids).length ≤ 1000000000 := by
      rw [← hG, List.length_append]; omega
    refine ⟨fun mm A' n' c' i h' => ∃ j, j ≤ kids.length ∧ mm = kids.length - j ∧ i = (j : Int) ∧ OwnE sv 9 h0 h' A' n' c' (gs1 ++ namesL (kids.take j)) ∧ Le h0 h', ⟨kids.length, 0, by omega, by omega, rfl, by simpa [namesL] using own1, hl1⟩, ?_⟩
    rintro mm A2 n2 c2 _ h2 ⟨j, hj, rfl, rfl, own2, hl2⟩
    refine Br.mk (fun q1 => ?_) (fun q1 => ?_)
    · have hlt : j < kids.length := by have := of_decide_eq_true q1; omega
      obtain ⟨x, hx⟩ : ∃ x, kids[j]? = some x := ⟨_, List.getElem?_eq_getElem hlt⟩
      obtain ⟨ad, vs', eA', hld, ux⟩ := kid_ld (e := .mk k q n m nm kids) hk hx
      have ux' := ux
      obtain ⟨s', A', c', B', d', K', kc', rfl, _, _, _⟩ := ux'.open
      have e1 := namesL_take hx
      have hle2 := namesL_le (es := kids) (j + 1)
      rw [e1, List.length_append] at hle2
      refine ⟨ad, eA', by omega, by omega, _, _, _, _, _, _, _, _, _, _, _, _, by rw [Int.toNat_natCast]; exact LdN.mono hld hl2, ?_⟩
      refine ((ih.get hx) ux (SzsL.get z5 hx) own2 hl2 (by rw [List.length_append]; omega)).mono ?_
      rintro _ h3 ⟨A3, n3, c3, rfl, own3, hl3⟩
      refine ⟨_, _, _, rfl, ?_⟩
      rintro _ rfl
      refine ⟨kids.length - (j + 1), by omega, j + 1, by omega, rfl, wi (by omega) (by omega), ?_, hl3⟩
      rw [e1, ← List.append_assoc]
      exact own3
    · have hj' : j = kids.length := by have := of_decide_eq_false q1; omega
      subst hj'
      rw [List.take_length] at own2
      refine ⟨_, _, _, rfl, ?_, hl2⟩
      rw [← List.append_assoc, hG]
      exact own2
  · refine Br.mk (fun q1 => ?_) (fun q1 => ?_)
    · have e1 : k = 2 := beq_iff_eq.1 q1
      rw [if_pos e1] at hcnt ⊢
      rintro g _ hg rfl
      simp only [List.length_cons, List.length_nil] at hcnt
      exact OwnE.app (x := nm) (z := []) (K := fun A' c' h' => OwnE sv 9 h0 h' A' (ln + 1) c' (gs ++ [nm]) ∧ Le h0 h') own hle (fun _ => rfl) rfl rfl hg (by omega) (fun A' c' h' o l _ => ⟨o, l⟩)
    · have e1 : k ≠ 2 := beq_eq_false_iff_ne.1 q1
      rw [if_neg e1, List.append_nil]
      exact ⟨own, hle⟩

mutual
theorem foCollect_all : ∀ e : Ex, CoOk e
  | .mk _ _ _ _ _ kids => foCollect_node (foCollect_allL kids)
theorem foCollect_allL : ∀ es : List Ex, evAll CoOk es
  | [] => trivial
  | e :: es => ⟨foCollect_all e, foCollect_allL es⟩
end

/-- A row of one visible block is written anew; a value is returned. -/
theorem callsU_rowV {α : Type} [Inhabited α] {P : Program} {f : FuncId} {args : List Value} {h : Heap} {g off ty : Nat} {cells : List Value} {enc : α → Value} (v : Value) (d d' : List α) (hc : Callable P f) (hb : h g = some ⟨cells, ty, (0, 0)⟩)
    (hd : (cells.drop off).take d.length = d.map enc) (hl : d'.length = d.length) (hle : off + d.length ≤ cells.length)
    (hw : ∀ w, g < w.heap.size → Holds enc w g off d.toArray → Calls P f args.toArray w fun e w' => e = .returned v ∧ ∃ n os, w' = grow (putRow enc (Sort.ahead w n) g off d'.toArray) os) :
    CallsU P f args h fun r h' => r = v ∧ h' = h.put g ⟨setSeg cells off (d'.map enc), ty, (0, 0)⟩ := by
  refine ⟨hc, fun w s => ?_⟩
  have sg := (s g _ hb).cells (plain_fz rfl)
  have hlt : g < w.heap.size := (Array.getElem?_eq_some_iff.1 sg).1
  have hH : Holds enc w g off d.toArray := by
    intro j hj
    have hj' : j < d.length := by simpa using hj
    refine ⟨?_, ?_⟩
    · unfold World.cell?
      simp only [sg]
      have h1 : ((cells.drop off).take d.length)[j]? = (d.map enc)[j]? := by rw [hd]
      rw [List.getElem?_take_of_lt hj', List.getElem?_drop] at h1
      simp only [Option.isSome_none, Bool.false_eq_true, if_false, List.getElem?_toArray]
      rw [h1]
      simp [hj']
    · unfold World.frozen?
      simp [sg]
  refine (hw w hlt hH).mono ?_
  rintro e w' ⟨he, n, os, rfl⟩
  have hg : (w.heap.modify g (onCells (putCells enc off d'.toArray)))[g]? = some (.cells (setSeg cells off (d'.map enc)).toArray ty (0, 0)) := by
    rw [Array.getElem?_modify, if_pos rfl, sg]
    simp only [Option.map_some, onCells]
    rw [putCells_seg d' cells (by omega)]
  have hne : ∀ k, k ≠ g → (w.heap.modify g (onCells (putCells enc off d'.toArray)))[k]? = w.heap[k]? := fun k hk => by
    rw [Array.getElem?_modify, if_neg (fun e => hk e.symm)]
  have hgr : ∀ k, k < w.heap.size → (grow (putRow enc (Sort.ahead w n) g off d'.toArray) os).heap[k]? = (w.heap.modify g (onCells (putCells enc off d'.toArray)))[k]? := fun k hk => by
    show ((w.heap.modify g (onCells (putCells enc off d'.toArray))) ++ os)[k]? = _
    rw [Array.getElem?_append_left (by rw [Array.size_modify]; exact hk)]
  refine ⟨_, _, he, ⟨rfl, rfl⟩, ?_, ⟨?_, rfl, rfl, rfl, ?_⟩⟩
  · intro k b hk
    by_cases e : k = g
    · subst e
      rw [Heap.put_same] at hk
      cases hk
      exact .mk' (plain_fz rfl) (by rw [hgr _ hlt, hg])
    · rw [Heap.put_ne _ _ e] at hk
      have sk := s k b hk
      exact sk.same (by rw [hgr k sk.lt, hne k e])
  · show w.heap.size ≤ ((w.heap.modify g (onCells (putCells enc off d'.toArray))) ++ os).size
    rw [Array.size_append, Array.size_modify]; omega
  · intro k hk h0
    have e : k ≠ g := fun e => by rw [e, hb] at h0; cases h0
    exact ⟨by rw [Heap.put_ne _ _ e]; exact h0, by rw [hgr k hk, hne k e]⟩

def sortS (zs : List (List UInt8)) : List (List UInt8) := zs.mergeSort fun x y => decide (x ≤ y)

theorem sortS_c {h : Heap} {g c ty : Nat} {zs rest : List (List UInt8)} (hb : h g = some ⟨(zs ++ rest).map sv, ty, (0, 0)⟩) {n : Nat} (hn : n = zs.length) (hsz : n < 4611686018427387904) :
    CallsU Tryz.prog 38 [.slice (some ⟨g, 0, none⟩) n c] h fun r h' => r = .tuple #[] ∧ h' = h.put g ⟨(sortS zs ++ rest).map sv, ty, (0, 0)⟩ := by
  subst hn
  have hsl : (sortS zs).length = zs.length := List.length_mergeSort _
  refine (callsU_rowV (enc := sv) (off := 0) (.tuple #[]) zs (sortS zs) ⟨_, Tryz.func38, by kernel_rfl, by kernel_rfl⟩ hb (by rw [List.drop_zero, List.map_append, List.take_append_of_le_length (by simp), ← List.length_map (f := sv), List.take_length]) hsl (by simp) ?_).mono ?_
  · intro w hlt hH
    exact Tryz.slices_Sort_string g 0 c zs w hH hlt (by omega)
  · rintro _ _ ⟨rfl, rfl⟩
    refine ⟨rfl, ?_⟩
    congr 2
    unfold setSeg
    simp [hsl]

theorem compact_le (zs : List (List UInt8)) : (Lib.compact zs).length ≤ zs.length := by
  unfold Lib.compact Lib.compactUpTo
  rw [List.length_map]
  exact Nat.le_trans (List.length_filter_le _ _) (by simp)

theorem compactS_c {h : Heap} {g c ty : Nat} {zs rest : List (List UInt8)} (hb : h g = some ⟨(zs ++ rest).map sv, ty, (0, 0)⟩) {n : Nat} (hn : n = zs.length) (hc : n ≤ c) (hsz : n < 4611686018427387904) :
    CallsU Tryz.prog 39 [.slice (some ⟨g, 0, none⟩) n c] h fun r h' => r = .slice (some ⟨g, 0, none⟩) (Lib.compact zs).length c ∧ h' = h.put g ⟨(Lib.compact zs ++ (List.replicate (zs.length - (Lib.compact zs).length) [] ++ rest)).map sv, ty, (0, 0)⟩ := by
  subst hn
  have hcl := compact_le zs
  have hsl : (Lib.compact zs ++ List.replicate (zs.length - (Lib.compact zs).length) ([] : List UInt8)).length = zs.length := by simp; omega
  refine (callsU_rowV (enc := sv) (off := 0) (.slice (some ⟨g, 0, none⟩) (Lib.compact zs).length c) zs (Lib.compact zs ++ List.replicate (zs.length - (Lib.compact zs).length) []) ⟨_, Tryz.func39, by kernel_rfl, by kernel_rfl⟩ hb (by rw [List.drop_zero, List.map_append, List.take_append_of_le_length (by simp), ← List.length_map (f := sv), List.take_length]) hsl (by simp) ?_).mono ?_
  · intro w hlt hH
    refine (Tryz.slices_Compact_string g 0 c zs w hH (by omega) hc).mono ?_
    rintro _ _ ⟨a, n, b⟩
    refine ⟨a, n, #[], ?_⟩
    rw [b]
    show _ = ({ (putRow sv (Sort.ahead w n) g 0 _) with heap := (putRow sv (Sort.ahead w n) g 0 _).heap ++ #[] } : World)
    rw [Array.append_empty]
  · rintro _ _ ⟨rfl, rfl⟩
    refine ⟨rfl, ?_⟩
    congr 2
    unfold setSeg
    rw [List.take_zero, List.nil_append, List.length_map, hsl, Nat.zero_add, List.map_append (l₁ := zs), List.drop_append_of_le_length (by simp)]
    have : (zs.map sv).drop zs.length = [] := List.drop_eq_nil_of_le (by simp)
    rw [this, List.nil_append]
    simp

def namesV (e : Ex) : List (List UInt8) := Lib.compact (sortS (namesE e))

theorem foNames_c {e : Ex} {h : Heap} {vs : List Value} (u : IsE h e vs) (z : Szs e) (hcnt : (namesE e).length ≤ 1000000000) :
    CallsU Tryz.prog 16 [.agg vs.toArray] h fun r h' => ∃ A n c, r = .slice A n c ∧ Sl sv h' A n c (namesV e) ∧ Le h h' := by
  have u' := u
  obtain ⟨s, A0, c0, B, d, K, kc, rfl, _⟩ := u'.open
  apply formula_Names_ok
  refine ((foCollect_all e) u z OwnE.start (Le.refl h) (by simpa using hcnt)).mono ?_
  rintro _ h1 ⟨A1, n1, c1, rfl, own, hl1⟩
  rw [List.nil_append] at own
  unfold namesV
  obtain ⟨hn, hA⟩ := own
  refine ⟨_, _, _, rfl, ?_⟩
  rcases hA with ⟨rfl, rfl, rfl⟩ | ⟨g, zs, rfl, hg, hb, rfl⟩
  · have he : namesE e = [] := List.length_eq_zero_iff.1 hn.symm
    have e0 : Lib.compact (sortS []) = [] := by simp [sortS, Lib.compact, Lib.compactUpTo]
    rw [he, e0]
    have s0 : CallsU Tryz.prog 38 [.slice none 0 0] h1 fun r h' => r = .tuple #[] ∧ h1 = h' :=
      callsU_same ⟨_, Tryz.func38, by kernel_rfl, by kernel_rfl⟩ fun w _ => Tryz.slices_Sort_string_none none 0 w
    have k0 : CallsU Tryz.prog 39 [.slice none 0 0] h1 fun r h' => r = .slice none 0 0 ∧ h1 = h' :=
      callsU_same ⟨_, Tryz.func39, by kernel_rfl, by kernel_rfl⟩ fun w _ => Tryz.slices_Compact_string_empty none 0 w
    refine s0.mono ?_
    rintro _ _ ⟨rfl, rfl⟩
    refine ⟨rfl, k0.mono ?_⟩
    rintro _ _ ⟨rfl, rfl⟩
    exact ⟨_, _, _, rfl, _, _, _, rfl, Sl.nil _ _ _, hl1⟩
  · refine (sortS_c hb hn (by omega)).mono ?_
    rintro _ _ ⟨rfl, rfl⟩
    have hsl : (sortS (namesE e)).length = (namesE e).length := List.length_mergeSort _
    refine ⟨rfl, (compactS_c (zs := sortS (namesE e)) (rest := zs) (Heap.put_same _ _ _) (by omega) (by simp; omega) (by omega)).mono ?_⟩
    rintro _ _ ⟨rfl, rfl⟩
    have hcl := compact_le (sortS (namesE e))
    refine ⟨_, _, _, rfl, _, _, _, rfl, ?_, (hl1.put hg _).put hg _⟩
    have := Sl.of_blk (enc := sv) (h := Heap.put (Heap.put h1 g ⟨(sortS (namesE e) ++ zs).map sv, 9, (0, 0)⟩) g ⟨(Lib.compact (sortS (namesE e)) ++ (List.replicate ((sortS (namesE e)).length - (Lib.compact (sortS (namesE e))).length) [] ++ zs)).map sv, 9, (0, 0)⟩) (m := (Lib.compact (sortS (namesE e))).length) (k := (namesE e ++ zs).length) (Heap.put_same _ _ _) (by simp) (by simp; omega)
    rw [List.take_append_of_le_length (by omega), List.take_length] at this
    exact this
end Go.Proofs.YtdpdaphholileaaGreatDoor

/-
  Plain: sorting and compacting names.
-/
namespace Go.Proofs.YtdpdaphholileaaGreatDoor
open Go Go.Vcg Go.RowKit Go.Sort

theorem nm_trans {a b c : List UInt8} (h1 : a ≤ b) (h2 : b ≤ c) : a ≤ c := List.le_trans h1 h2
theorem nm_total (a b : List UInt8) : a ≤ b ∨ b ≤ a := List.le_total a b
theorem nm_anti {a b : List UInt8} (h1 : a ≤ b) (h2 : b ≤ a) : a = b := List.le_antisymm h1 h2
theorem sortS_pw (l : List (List UInt8)) : (sortS l).Pairwise (· ≤ ·) := by
  have := List.pairwise_mergeSort (le := fun x y : List UInt8 => decide (x ≤ y)) (fun a b c h1 h2 => by simp only [decide_eq_true_eq] at h1 h2 ⊢; exact nm_trans h1 h2) (fun a b => by simp only [Bool.or_eq_true, decide_eq_true_eq]; exact nm_total a b) l
  exact this.imp (fun h => by simpa using h)

theorem sortS_eq {l l' : List (List UInt8)} (hp : l'.Perm l) (hs : l'.Pairwise (· ≤ ·)) : sortS l = l' := by
  refine List.Perm.eq_of_pairwise (le := fun x y : List UInt8 => x ≤ y) (fun a b _ _ h1 h2 => nm_anti h1 h2) (sortS_pw l) hs ?_
  exact (List.mergeSort_perm _ _).trans hp.symm
end Go.Proofs.YtdpdaphholileaaGreatDoor

/-
  Plain laws on binomial coefficients: Vandermonde, acceptance, exchange, mean, sets as bits.
-/
namespace Go.Proofs.YtdpdaphholileaaGreatDoor
/-! ### sums -/
def sm (f : Nat → Nat) : Nat → Nat
  | 0 => 0
  | n + 1 => sm f n + f n

/-- The sets of n of lot things with exactly f of d marked ones. -/
def stf (d M n f : Nat) : Nat := chs d f * chs M (n - f)

/-- Acceptance: at most c marked ones. -/
def acc (n c d M : Nat) : Nat := sm (stf d M n) (c + 1)

/-! ### factorials -/
/-! ### the mean -/
/-! ### sets as bits -/
/-- How many numbers below k have property p. -/
def cnt (p : Nat → Bool) : Nat → Nat
  | 0 => 0
  | k + 1 => cnt p k + if p k then 1 else 0

end Go.Proofs.YtdpdaphholileaaGreatDoor

/-
  Plain laws on draws: shuffles, samples.
-/
namespace Go.Proofs.YtdpdaphholileaaGreatDoor
open Go
/-! ### draws -/
end Go.Proofs.YtdpdaphholileaaGreatDoor

/- Made by vcgen.py: verification conditions of functions, each held against the calculator by the kernel. -/
namespace Go.Proofs.YtdpdaphholileaaGreatDoor
open Go Go.Vcg

def ref17_Same_vc (a_0 : Int) (a_1 : Bool) (a_2A : Option Addr) (a_2n a_2c : Nat) (a_3A : Option Addr) (a_3n a_3c : Nat) (a_4 : ByteArray) (a_5A : Option Addr) (a_5n _a_5c : Nat) (b_0 : Int) (b_1 : Bool) (b_2A : Option Addr) (b_2n b_2c : Nat) (b_3A : Option Addr) (b_3n b_3c : Nat) (b_4 : ByteArray) (b_5A : Option Addr) (b_5n _b_5c : Nat) (h : Heap) (R : Value → Heap → Prop) : Prop :=
 ∃ C : Bool → Heap → Prop, (∀ (t34 : Bool) (h_1 : Heap), C t34 h_1 →
 Br (t34)
  (R (Value.bool false) h_1)
  (∃ J : Nat → Int → Heap → Prop, (∃ m, J m 0 h_1) ∧
 ∀ (m : Nat) (i : Int) (h_2 : Heap), J m i h_2 →
 Br (decide (i < ((a_5n : Nat) : Int)))
  (∃ ad : Addr, a_5A = some ad ∧ 0 ≤ i ∧ i < ((a_5n : Nat) : Int) ∧
 ∃ t46_0 : Int, ∃ t46_1 : Bool, ∃ t46_2A : Option Addr, ∃ t46_2n t46_2c : Nat, ∃ t46_3A : Option Addr, ∃ t46_3n t46_3c : Nat, ∃ t46_4 : ByteArray, ∃ t46_5A : Option Addr, ∃ t46_5n t46_5c : Nat, LdN h_2 (Addr.add ad (Int.toNat i * 6)) [Value.int .i64 t46_0, Value.bool t46_1, Value.slice t46_2A t46_2n t46_2c, Value.slice t46_3A t46_3n t46_3c, Value.string t46_4, Value.slice t46_5A t46_5n t46_5c] ∧
 ∃ ad_1 : Addr, b_5A = some ad_1 ∧ 0 ≤ i ∧ i < ((b_5n : Nat) : Int) ∧
 ∃ t51_0 : Int, ∃ t51_1 : Bool, ∃ t51_2A : Option Addr, ∃ t51_2n t51_2c : Nat, ∃ t51_3A : Option Addr, ∃ t51_3n t51_3c : Nat, ∃ t51_4 : ByteArray, ∃ t51_5A : Option Addr, ∃ t51_5n t51_5c : Nat, LdN h_2 (Addr.add ad_1 (Int.toNat i * 6)) [Value.int .i64 t51_0, Value.bool t51_1, Value.slice t51_2A t51_2n t51_2c, Value.slice t51_3A t51_3n t51_3c, Value.string t51_4, Value.slice t51_5A t51_5n t51_5c] ∧
 CallsU Tryz.prog 20 [Value.agg #[Value.int .i64 t46_0, Value.bool t46_1, Value.slice t46_2A t46_2n t46_2c, Value.slice t46_3A t46_3n t46_3c, Value.string t46_4, Value.slice t46_5A t46_5n t46_5c], Value.agg #[Value.int .i64 t51_0, Value.bool t51_1, Value.slice t51_2A t51_2n t51_2c, Value.slice t51_3A t51_3n t51_3c, Value.string t51_4, Value.slice t51_5A t51_5n t51_5c]] h_2 fun v h_3 =>
 ∃ t52 : Bool, v = Value.bool t52 ∧
 Br (!t52)
  (R (Value.bool false) h_3)
  (∀ t41 : Int, t41 = IntKind.i64.wrap (i + 1) →
 ∃ m_1, m_1 < m ∧ J m_1 t41 h_3))
  (R (Value.bool true) h_2))) ∧
 Br ((a_0 : Int) != b_0)
  (C true h)
  (Br (!(a_4.toList == b_4.toList))
  (C true h)
  (CallsU Tryz.prog 47 [Value.agg #[Value.bool a_1, Value.slice a_2A a_2n a_2c, Value.slice a_3A a_3n a_3c], Value.agg #[Value.bool b_1, Value.slice b_2A b_2n b_2c, Value.slice b_3A b_3n b_3c]] h fun v_1 h_4 =>
 ∃ t23 : Int, v_1 = Value.int .i64 t23 ∧
 Br ((t23 : Int) != 0)
  (C true h_4)
  (C ((((a_5n : Nat) : Int) : Int) != ((b_5n : Nat) : Int)) h_4)))

set_option maxRecDepth 100000 in
theorem ref17_Same_ok {a_0 : Int} {a_1 : Bool} {a_2A : Option Addr} {a_2n a_2c : Nat} {a_3A : Option Addr} {a_3n a_3c : Nat} {a_4 : ByteArray} {a_5A : Option Addr} {a_5n a_5c : Nat} {b_0 : Int} {b_1 : Bool} {b_2A : Option Addr} {b_2n b_2c : Nat} {b_3A : Option Addr} {b_3n b_3c : Nat} {b_4 : ByteArray} {b_5A : Option Addr} {b_5n b_5c : Nat} {h : Heap} {R : Value → Heap → Prop} (hv : ref17_Same_vc a_0 a_1 a_2A a_2n a_2c a_3A a_3n a_3c a_4 a_5A a_5n a_5c b_0 b_1 b_2A b_2n b_2c b_3A b_3n b_3c b_4 b_5A b_5n b_5c h R) : CallsU Tryz.prog 20 [Value.agg #[Value.int .i64 a_0, Value.bool a_1, Value.slice a_2A a_2n a_2c, Value.slice a_3A a_3n a_3c, Value.string a_4, Value.slice a_5A a_5n a_5c], Value.agg #[Value.int .i64 b_0, Value.bool b_1, Value.slice b_2A b_2n b_2c, Value.slice b_3A b_3n b_3c, Value.string b_4, Value.slice b_5A b_5n b_5c]] h R :=
  fn_sound Tryz.func20 (by kernel_rfl) (by kernel_rfl) (by kernel_rfl) (fun _ => false) (.two .nil (.two (.cut ⟨[(34, Sh.bool)], []⟩ .nil .nil) (.two (.two .nil (.one (.loop ⟨[(5, Sh.int .i64)], []⟩ (.two .nil (.two (.one (.two (.ord [0, 1, 2, 3, 4, 5, 6, 7, 8, 9, 10, 11]) .nil)) .nil))))) .nil))) [Value.agg #[Value.int .i64 a_0, Value.bool a_1, Value.slice a_2A a_2n a_2c, Value.slice a_3A a_3n a_3c, Value.string a_4, Value.slice a_5A a_5n a_5c], Value.agg #[Value.int .i64 b_0, Value.bool b_1, Value.slice b_2A b_2n b_2c, Value.slice b_3A b_3n b_3c, Value.string b_4, Value.slice b_5A b_5n b_5c]] h R (by kernel_rfl)
    (Eq.mp (show ref17_Same_vc a_0 a_1 a_2A a_2n a_2c a_3A a_3n a_3c a_4 a_5A a_5n a_5c b_0 b_1 b_2A b_2n b_2c b_3A b_3n b_3c b_4 b_5A b_5n b_5c h R = fnV Tryz.prog Tryz.f20 (fun _ => false) (.two .nil (.two (.cut ⟨[(34, Sh.bool)], []⟩ .nil .nil) (.two (.two .nil (.one (.loop ⟨[(5, Sh.int .i64)], []⟩ (.two .nil (.two (.one (.two (.ord [0, 1, 2, 3, 4, 5, 6, 7, 8, 9, 10, 11]) .nil)) .nil))))) .nil))) [Value.agg #[Value.int .i64 a_0, Value.bool a_1, Value.slice a_2A a_2n a_2c, Value.slice a_3A a_3n a_3c, Value.string a_4, Value.slice a_5A a_5n a_5c], Value.agg #[Value.int .i64 b_0, Value.bool b_1, Value.slice b_2A b_2n b_2c, Value.slice b_3A b_3n b_3c, Value.string b_4, Value.slice b_5A b_5n b_5c]] h R by kernel_rfl) hv)

def ref03_Cmp_vc (a_0 : Bool) (a_1A : Option Addr) (a_1n a_1c : Nat) (a_2A : Option Addr) (a_2n a_2c : Nat) (b_0 : Bool) (b_1A : Option Addr) (b_1n b_1c : Nat) (b_2A : Option Addr) (b_2n b_2c : Nat) (h : Heap) (R : Value → Heap → Prop) : Prop :=
 CallsU Tryz.prog 48 [Value.agg #[Value.bool a_0, Value.slice a_1A a_1n a_1c, Value.slice a_2A a_2n a_2c]] h fun v h_1 =>
 ∃ t8_0 : Bool, ∃ t8_1A : Option Addr, ∃ t8_1n t8_1c : Nat, ∃ t8_2A : Option Addr, ∃ t8_2n t8_2c : Nat, v = Value.agg #[Value.bool t8_0, Value.slice t8_1A t8_1n t8_1c, Value.slice t8_2A t8_2n t8_2c] ∧
 LeH h h_1 ∧
 CallsU Tryz.prog 48 [Value.agg #[Value.bool b_0, Value.slice b_1A b_1n b_1c, Value.slice b_2A b_2n b_2c]] h_1 fun v_1 h_2 =>
 ∃ t10_0 : Bool, ∃ t10_1A : Option Addr, ∃ t10_1n t10_1c : Nat, ∃ t10_2A : Option Addr, ∃ t10_2n t10_2c : Nat, v_1 = Value.agg #[Value.bool t10_0, Value.slice t10_1A t10_1n t10_1c, Value.slice t10_2A t10_2n t10_2c] ∧
 CallsU Tryz.prog 76 [Value.agg #[Value.bool t8_0, Value.slice t8_1A t8_1n t8_1c], Value.agg #[Value.bool false, Value.slice t10_2A t10_2n t10_2c]] h_2 fun v_2 h_3 =>
 ∃ t16_0 : Bool, ∃ t16_1A : Option Addr, ∃ t16_1n t16_1c : Nat, v_2 = Value.agg #[Value.bool t16_0, Value.slice t16_1A t16_1n t16_1c] ∧
 LeH h_2 h_3 ∧
 CallsU Tryz.prog 76 [Value.agg #[Value.bool t10_0, Value.slice t10_1A t10_1n t10_1c], Value.agg #[Value.bool false, Value.slice t8_2A t8_2n t8_2c]] h_3 fun v_3 h_4 =>
 ∃ t22_0 : Bool, ∃ t22_1A : Option Addr, ∃ t22_1n t22_1c : Nat, v_3 = Value.agg #[Value.bool t22_0, Value.slice t22_1A t22_1n t22_1c] ∧
 CallsU Tryz.prog 75 [Value.agg #[Value.bool t16_0, Value.slice t16_1A t16_1n t16_1c], Value.agg #[Value.bool t22_0, Value.slice t22_1A t22_1n t22_1c]] h_4 fun v_4 h_5 =>
 ∃ t23 : Int, v_4 = Value.int .i64 t23 ∧
 R (Value.int .i64 t23) h_5

set_option maxRecDepth 100000 in
theorem ref03_Cmp_ok {a_0 : Bool} {a_1A : Option Addr} {a_1n a_1c : Nat} {a_2A : Option Addr} {a_2n a_2c : Nat} {b_0 : Bool} {b_1A : Option Addr} {b_1n b_1c : Nat} {b_2A : Option Addr} {b_2n b_2c : Nat} {h : Heap} {R : Value → Heap → Prop} (hv : ref03_Cmp_vc a_0 a_1A a_1n a_1c a_2A a_2n a_2c b_0 b_1A b_1n b_1c b_2A b_2n b_2c h R) : CallsU Tryz.prog 47 [Value.agg #[Value.bool a_0, Value.slice a_1A a_1n a_1c, Value.slice a_2A a_2n a_2c], Value.agg #[Value.bool b_0, Value.slice b_1A b_1n b_1c, Value.slice b_2A b_2n b_2c]] h R :=
  fn_sound Tryz.func47 (by kernel_rfl) (by kernel_rfl) (by kernel_rfl) (fun _ => false) (.two .nil (.two (.ord [0, 2, 1, 3, 4, 5, 6, 7]) (.two (.ord [0, 1, 2, 3, 4, 6, 7, 8, 9, 10, 5, 11, 12, 13]) .nil))) [Value.agg #[Value.bool a_0, Value.slice a_1A a_1n a_1c, Value.slice a_2A a_2n a_2c], Value.agg #[Value.bool b_0, Value.slice b_1A b_1n b_1c, Value.slice b_2A b_2n b_2c]] h R (by kernel_rfl)
    (Eq.mp (show ref03_Cmp_vc a_0 a_1A a_1n a_1c a_2A a_2n a_2c b_0 b_1A b_1n b_1c b_2A b_2n b_2c h R = fnV Tryz.prog Tryz.f47 (fun _ => false) (.two .nil (.two (.ord [0, 2, 1, 3, 4, 5, 6, 7]) (.two (.ord [0, 1, 2, 3, 4, 6, 7, 8, 9, 10, 5, 11, 12, 13]) .nil))) [Value.agg #[Value.bool a_0, Value.slice a_1A a_1n a_1c, Value.slice a_2A a_2n a_2c], Value.agg #[Value.bool b_0, Value.slice b_1A b_1n b_1c, Value.slice b_2A b_2n b_2c]] h R by kernel_rfl) hv)

def ref03_Norm_vc (a_0 : Bool) (a_1A : Option Addr) (a_1n a_1c : Nat) (a_2A : Option Addr) (a_2n a_2c : Nat) (h : Heap) (R : Value → Heap → Prop) : Prop :=
 CallsU Tryz.prog 77 [Value.agg #[Value.bool a_0, Value.slice a_1A a_1n a_1c, Value.slice a_2A a_2n a_2c]] h fun v h_1 =>
 ∃ t4 : Bool, v = Value.bool t4 ∧
 Br (t4)
  (CallsU Tryz.prog 78 [Value.int .i64 0] h_1 fun v_1 h_2 =>
 ∃ t5_0 : Bool, ∃ t5_1A : Option Addr, ∃ t5_1n t5_1c : Nat, ∃ t5_2A : Option Addr, ∃ t5_2n t5_2c : Nat, v_1 = Value.agg #[Value.bool t5_0, Value.slice t5_1A t5_1n t5_1c, Value.slice t5_2A t5_2n t5_2c] ∧
 R (Value.agg #[Value.bool t5_0, Value.slice t5_1A t5_1n t5_1c, Value.slice t5_2A t5_2n t5_2c]) h_2)
  (CallsU Tryz.prog 79 [Value.bool a_0, Value.slice a_1A a_1n a_1c, Value.slice a_2A a_2n a_2c] h_1 fun v_2 h_3 =>
 ∃ t14_0 : Bool, ∃ t14_1A : Option Addr, ∃ t14_1n t14_1c : Nat, ∃ t14_2A : Option Addr, ∃ t14_2n t14_2c : Nat, v_2 = Value.agg #[Value.bool t14_0, Value.slice t14_1A t14_1n t14_1c, Value.slice t14_2A t14_2n t14_2c] ∧
 R (Value.agg #[Value.bool t14_0, Value.slice t14_1A t14_1n t14_1c, Value.slice t14_2A t14_2n t14_2c]) h_3)

set_option maxRecDepth 100000 in
theorem ref03_Norm_ok {a_0 : Bool} {a_1A : Option Addr} {a_1n a_1c : Nat} {a_2A : Option Addr} {a_2n a_2c : Nat} {h : Heap} {R : Value → Heap → Prop} (hv : ref03_Norm_vc a_0 a_1A a_1n a_1c a_2A a_2n a_2c h R) : CallsU Tryz.prog 48 [Value.agg #[Value.bool a_0, Value.slice a_1A a_1n a_1c, Value.slice a_2A a_2n a_2c]] h R :=
  fn_sound Tryz.func48 (by kernel_rfl) (by kernel_rfl) (by kernel_rfl) (fun _ => false) .nil [Value.agg #[Value.bool a_0, Value.slice a_1A a_1n a_1c, Value.slice a_2A a_2n a_2c]] h R (by kernel_rfl)
    (Eq.mp (show ref03_Norm_vc a_0 a_1A a_1n a_1c a_2A a_2n a_2c h R = fnV Tryz.prog Tryz.f48 (fun _ => false) .nil [Value.agg #[Value.bool a_0, Value.slice a_1A a_1n a_1c, Value.slice a_2A a_2n a_2c]] h R by kernel_rfl) hv)

def ref03_Of_vc (num : Int) (den : Int) (h : Heap) (R : Value → Heap → Prop) : Prop :=
 Br ((den : Int) == 0)
  (R (Value.tuple #[Value.agg #[Value.bool false, Value.slice none 0 0, Value.slice none 0 0], Value.bool false]) h)
  (CallsU Tryz.prog 103 [Value.int .i64 num] h fun v h_1 =>
 ∃ t12_0 : Bool, ∃ t12_1A : Option Addr, ∃ t12_1n t12_1c : Nat, v = Value.agg #[Value.bool t12_0, Value.slice t12_1A t12_1n t12_1c] ∧
 CallsU Tryz.prog 103 [Value.int .i64 den] h_1 fun v_1 h_2 =>
 ∃ t14_0 : Bool, ∃ t14_1A : Option Addr, ∃ t14_1n t14_1c : Nat, v_1 = Value.agg #[Value.bool t14_0, Value.slice t14_1A t14_1n t14_1c] ∧
 CallsU Tryz.prog 79 [Value.bool (!(t12_0 == t14_0)), Value.slice t12_1A t12_1n t12_1c, Value.slice t14_1A t14_1n t14_1c] h_2 fun v_2 h_3 =>
 ∃ t24_0 : Bool, ∃ t24_1A : Option Addr, ∃ t24_1n t24_1c : Nat, ∃ t24_2A : Option Addr, ∃ t24_2n t24_2c : Nat, v_2 = Value.agg #[Value.bool t24_0, Value.slice t24_1A t24_1n t24_1c, Value.slice t24_2A t24_2n t24_2c] ∧
 R (Value.tuple #[Value.agg #[Value.bool t24_0, Value.slice t24_1A t24_1n t24_1c, Value.slice t24_2A t24_2n t24_2c], Value.bool true]) h_3)

set_option maxRecDepth 100000 in
theorem ref03_Of_ok {num : Int} {den : Int} {h : Heap} {R : Value → Heap → Prop} (hv : ref03_Of_vc num den h R) : CallsU Tryz.prog 63 [Value.int .i64 num, Value.int .i64 den] h R :=
  fn_sound Tryz.func63 (by kernel_rfl) (by kernel_rfl) (by kernel_rfl) (fun _ => false) .nil [Value.int .i64 num, Value.int .i64 den] h R (by kernel_rfl)
    (Eq.mp (show ref03_Of_vc num den h R = fnV Tryz.prog Tryz.f63 (fun _ => false) .nil [Value.int .i64 num, Value.int .i64 den] h R by kernel_rfl) hv)

def ref02_Cmp_vc (a_0 : Bool) (a_1A : Option Addr) (a_1n a_1c : Nat) (b_0 : Bool) (b_1A : Option Addr) (b_1n b_1c : Nat) (h : Heap) (R : Value → Heap → Prop) : Prop :=
 CallsU Tryz.prog 123 [Value.agg #[Value.bool a_0, Value.slice a_1A a_1n a_1c]] h fun v h_1 =>
 ∃ t8_0 : Bool, ∃ t8_1A : Option Addr, ∃ t8_1n t8_1c : Nat, v = Value.agg #[Value.bool t8_0, Value.slice t8_1A t8_1n t8_1c] ∧
 LeH h h_1 ∧
 CallsU Tryz.prog 123 [Value.agg #[Value.bool b_0, Value.slice b_1A b_1n b_1c]] h_1 fun v_1 h_2 =>
 ∃ t10_0 : Bool, ∃ t10_1A : Option Addr, ∃ t10_1n t10_1c : Nat, v_1 = Value.agg #[Value.bool t10_0, Value.slice t10_1A t10_1n t10_1c] ∧
 ∃ C : Bool → Heap → Prop, (∀ (t11 : Bool) (h_3 : Heap), C t11 h_3 →
 Br (t11)
  (R (Value.int .i64 (-1)) h_3)
  (∃ C_1 : Bool → Heap → Prop, (∀ (t19 : Bool) (h_4 : Heap), C_1 t19 h_4 →
 Br (t19)
  (R (Value.int .i64 1) h_4)
  (Br (t8_0)
  (CallsU Tryz.prog 124 [Value.slice t10_1A t10_1n t10_1c, Value.slice t8_1A t8_1n t8_1c] h_4 fun v_2 h_5 =>
 ∃ t34 : Int, v_2 = Value.int .i64 t34 ∧
 R (Value.int .i64 t34) h_5)
  (CallsU Tryz.prog 124 [Value.slice t8_1A t8_1n t8_1c, Value.slice t10_1A t10_1n t10_1c] h_4 fun v_3 h_6 =>
 ∃ t39 : Int, v_3 = Value.int .i64 t39 ∧
 R (Value.int .i64 t39) h_6))) ∧
 Br (!t8_0)
  (C_1 t10_0 h_3)
  (C_1 false h_3))) ∧
 Br (t8_0)
  (C (!t10_0) h_2)
  (C false h_2)

set_option maxRecDepth 100000 in
theorem ref02_Cmp_ok {a_0 : Bool} {a_1A : Option Addr} {a_1n a_1c : Nat} {b_0 : Bool} {b_1A : Option Addr} {b_1n b_1c : Nat} {h : Heap} {R : Value → Heap → Prop} (hv : ref02_Cmp_vc a_0 a_1A a_1n a_1c b_0 b_1A b_1n b_1c h R) : CallsU Tryz.prog 75 [Value.agg #[Value.bool a_0, Value.slice a_1A a_1n a_1c], Value.agg #[Value.bool b_0, Value.slice b_1A b_1n b_1c]] h R :=
  fn_sound Tryz.func75 (by kernel_rfl) (by kernel_rfl) (by kernel_rfl) (fun _ => false) (.two .nil (.two (.ord [0, 2, 1, 3, 4, 5, 6, 7]) (.two (.one (.cut ⟨[(11, Sh.bool)], []⟩ .nil (.two .nil (.cut ⟨[(19, Sh.bool)], []⟩ .nil .nil)))) .nil))) [Value.agg #[Value.bool a_0, Value.slice a_1A a_1n a_1c], Value.agg #[Value.bool b_0, Value.slice b_1A b_1n b_1c]] h R (by kernel_rfl)
    (Eq.mp (show ref02_Cmp_vc a_0 a_1A a_1n a_1c b_0 b_1A b_1n b_1c h R = fnV Tryz.prog Tryz.f75 (fun _ => false) (.two .nil (.two (.ord [0, 2, 1, 3, 4, 5, 6, 7]) (.two (.one (.cut ⟨[(11, Sh.bool)], []⟩ .nil (.two .nil (.cut ⟨[(19, Sh.bool)], []⟩ .nil .nil)))) .nil))) [Value.agg #[Value.bool a_0, Value.slice a_1A a_1n a_1c], Value.agg #[Value.bool b_0, Value.slice b_1A b_1n b_1c]] h R by kernel_rfl) hv)

def ref02_Mul_vc (a_0 : Bool) (a_1A : Option Addr) (a_1n a_1c : Nat) (b_0 : Bool) (b_1A : Option Addr) (b_1n b_1c : Nat) (h : Heap) (R : Value → Heap → Prop) : Prop :=
 CallsU Tryz.prog 126 [Value.slice a_1A a_1n a_1c, Value.slice b_1A b_1n b_1c] h fun v h_1 =>
 ∃ t14A : Option Addr, ∃ t14n t14c : Nat, v = Value.slice t14A t14n t14c ∧
 LeH h h_1 ∧
 CallsU Tryz.prog 125 [Value.bool (!(a_0 == b_0)), Value.slice t14A t14n t14c] h_1 fun v_1 h_2 =>
 ∃ t15_0 : Bool, ∃ t15_1A : Option Addr, ∃ t15_1n t15_1c : Nat, v_1 = Value.agg #[Value.bool t15_0, Value.slice t15_1A t15_1n t15_1c] ∧
 R (Value.agg #[Value.bool t15_0, Value.slice t15_1A t15_1n t15_1c]) h_2

set_option maxRecDepth 100000 in
theorem ref02_Mul_ok {a_0 : Bool} {a_1A : Option Addr} {a_1n a_1c : Nat} {b_0 : Bool} {b_1A : Option Addr} {b_1n b_1c : Nat} {h : Heap} {R : Value → Heap → Prop} (hv : ref02_Mul_vc a_0 a_1A a_1n a_1c b_0 b_1A b_1n b_1c h R) : CallsU Tryz.prog 76 [Value.agg #[Value.bool a_0, Value.slice a_1A a_1n a_1c], Value.agg #[Value.bool b_0, Value.slice b_1A b_1n b_1c]] h R :=
  fn_sound Tryz.func76 (by kernel_rfl) (by kernel_rfl) (by kernel_rfl) (fun _ => false) (.two .nil (.two (.ord [0, 1, 2, 3, 4, 5, 6, 7, 8, 9, 10, 11]) .nil)) [Value.agg #[Value.bool a_0, Value.slice a_1A a_1n a_1c], Value.agg #[Value.bool b_0, Value.slice b_1A b_1n b_1c]] h R (by kernel_rfl)
    (Eq.mp (show ref02_Mul_vc a_0 a_1A a_1n a_1c b_0 b_1A b_1n b_1c h R = fnV Tryz.prog Tryz.f76 (fun _ => false) (.two .nil (.two (.ord [0, 1, 2, 3, 4, 5, 6, 7, 8, 9, 10, 11]) .nil)) [Value.agg #[Value.bool a_0, Value.slice a_1A a_1n a_1c], Value.agg #[Value.bool b_0, Value.slice b_1A b_1n b_1c]] h R by kernel_rfl) hv)

def ref03_Zero_vc (_a_0 : Bool) (a_1A : Option Addr) (a_1n a_1c : Nat) (a_2A : Option Addr) (a_2n a_2c : Nat) (h : Heap) (R : Value → Heap → Prop) : Prop :=
 CallsU Tryz.prog 127 [Value.slice a_1A a_1n a_1c] h fun v h_1 =>
 ∃ t6A : Option Addr, ∃ t6n t6c : Nat, v = Value.slice t6A t6n t6c ∧
 Br ((((t6n : Nat) : Int) : Int) == 0)
  (R (Value.bool true) h_1)
  (CallsU Tryz.prog 127 [Value.slice a_2A a_2n a_2c] h_1 fun v_1 h_2 =>
 ∃ t12A : Option Addr, ∃ t12n t12c : Nat, v_1 = Value.slice t12A t12n t12c ∧
 R (Value.bool ((((t12n : Nat) : Int) : Int) == 0)) h_2)

set_option maxRecDepth 100000 in
theorem ref03_Zero_ok {a_0 : Bool} {a_1A : Option Addr} {a_1n a_1c : Nat} {a_2A : Option Addr} {a_2n a_2c : Nat} {h : Heap} {R : Value → Heap → Prop} (hv : ref03_Zero_vc a_0 a_1A a_1n a_1c a_2A a_2n a_2c h R) : CallsU Tryz.prog 77 [Value.agg #[Value.bool a_0, Value.slice a_1A a_1n a_1c, Value.slice a_2A a_2n a_2c]] h R :=
  fn_sound Tryz.func77 (by kernel_rfl) (by kernel_rfl) (by kernel_rfl) (fun _ => false) .nil [Value.agg #[Value.bool a_0, Value.slice a_1A a_1n a_1c, Value.slice a_2A a_2n a_2c]] h R (by kernel_rfl)
    (Eq.mp (show ref03_Zero_vc a_0 a_1A a_1n a_1c a_2A a_2n a_2c h R = fnV Tryz.prog Tryz.f77 (fun _ => false) .nil [Value.agg #[Value.bool a_0, Value.slice a_1A a_1n a_1c, Value.slice a_2A a_2n a_2c]] h R by kernel_rfl) hv)

def ref03_Whole_vc (n : Int) (h : Heap) (R : Value → Heap → Prop) : Prop :=
 CallsU Tryz.prog 103 [Value.int .i64 n] h fun v h_1 =>
 ∃ t4_0 : Bool, ∃ t4_1A : Option Addr, ∃ t4_1n t4_1c : Nat, v = Value.agg #[Value.bool t4_0, Value.slice t4_1A t4_1n t4_1c] ∧
 CallsU Tryz.prog 128 [Value.int .u64 1] h_1 fun v_1 h_2 =>
 ∃ t5A : Option Addr, ∃ t5n t5c : Nat, v_1 = Value.slice t5A t5n t5c ∧
 R (Value.agg #[Value.bool t4_0, Value.slice t4_1A t4_1n t4_1c, Value.slice t5A t5n t5c]) h_2

set_option maxRecDepth 100000 in
theorem ref03_Whole_ok {n : Int} {h : Heap} {R : Value → Heap → Prop} (hv : ref03_Whole_vc n h R) : CallsU Tryz.prog 78 [Value.int .i64 n] h R :=
  fn_sound Tryz.func78 (by kernel_rfl) (by kernel_rfl) (by kernel_rfl) (fun _ => false) .nil [Value.int .i64 n] h R (by kernel_rfl)
    (Eq.mp (show ref03_Whole_vc n h R = fnV Tryz.prog Tryz.f78 (fun _ => false) .nil [Value.int .i64 n] h R by kernel_rfl) hv)

def ref03_reduce_vc (neg : Bool) (nA : Option Addr) (nn nc : Nat) (dA : Option Addr) (dn dc : Nat) (h : Heap) (R : Value → Heap → Prop) : Prop :=
 CallsU Tryz.prog 129 [Value.slice nA nn nc, Value.slice dA dn dc] h fun v h_1 =>
 ∃ t16A : Option Addr, ∃ t16n t16c : Nat, v = Value.slice t16A t16n t16c ∧
 CallsU Tryz.prog 130 [Value.slice nA nn nc, Value.slice t16A t16n t16c] h_1 fun v_1 h_2 =>
 ∃ t20_0A : Option Addr, ∃ t20_0n t20_0c : Nat, ∃ t20_1A : Option Addr, ∃ t20_1n t20_1c : Nat, ∃ t20_2 : Bool, v_1 = Value.tuple #[Value.slice t20_0A t20_0n t20_0c, Value.slice t20_1A t20_1n t20_1c, Value.bool t20_2] ∧
 CallsU Tryz.prog 130 [Value.slice dA dn dc, Value.slice t16A t16n t16c] h_2 fun v_2 h_3 =>
 ∃ t27_0A : Option Addr, ∃ t27_0n t27_0c : Nat, ∃ t27_1A : Option Addr, ∃ t27_1n t27_1c : Nat, ∃ t27_2 : Bool, v_2 = Value.tuple #[Value.slice t27_0A t27_0n t27_0c, Value.slice t27_1A t27_1n t27_1c, Value.bool t27_2] ∧
 CallsU Tryz.prog 123 [Value.agg #[Value.bool neg, Value.slice t20_0A t20_0n t20_0c]] h_3 fun v_3 h_4 =>
 ∃ t34_0 : Bool, ∃ t34_1A : Option Addr, ∃ t34_1n t34_1c : Nat, v_3 = Value.agg #[Value.bool t34_0, Value.slice t34_1A t34_1n t34_1c] ∧
 R (Value.agg #[Value.bool t34_0, Value.slice t34_1A t34_1n t34_1c, Value.slice t27_0A t27_0n t27_0c]) h_4

set_option maxRecDepth 100000 in
theorem ref03_reduce_ok {neg : Bool} {nA : Option Addr} {nn nc : Nat} {dA : Option Addr} {dn dc : Nat} {h : Heap} {R : Value → Heap → Prop} (hv : ref03_reduce_vc neg nA nn nc dA dn dc h R) : CallsU Tryz.prog 79 [Value.bool neg, Value.slice nA nn nc, Value.slice dA dn dc] h R :=
  fn_sound Tryz.func79 (by kernel_rfl) (by kernel_rfl) (by kernel_rfl) (fun _ => false) .nil [Value.bool neg, Value.slice nA nn nc, Value.slice dA dn dc] h R (by kernel_rfl)
    (Eq.mp (show ref03_reduce_vc neg nA nn nc dA dn dc h R = fnV Tryz.prog Tryz.f79 (fun _ => false) .nil [Value.bool neg, Value.slice nA nn nc, Value.slice dA dn dc] h R by kernel_rfl) hv)

def ref02_Of_vc (n : Int) (h : Heap) (R : Value → Heap → Prop) : Prop :=
 Br (decide (n < 0))
  (∀ t6 : Int, t6 = IntKind.i64.wrap (n + 1) →
 ∀ t7 : Int, t7 = IntKind.i64.wrap (0 - t6) →
 ∀ t9 : Int, t9 = IntKind.u64.wrap ((IntKind.u64.wrap t7) + 1) →
 CallsU Tryz.prog 128 [Value.int .u64 t9] h fun v h_1 =>
 ∃ t10A : Option Addr, ∃ t10n t10c : Nat, v = Value.slice t10A t10n t10c ∧
 R (Value.agg #[Value.bool true, Value.slice t10A t10n t10c]) h_1)
  (CallsU Tryz.prog 128 [Value.int .u64 (IntKind.u64.wrap n)] h fun v_1 h_2 =>
 ∃ t14A : Option Addr, ∃ t14n t14c : Nat, v_1 = Value.slice t14A t14n t14c ∧
 R (Value.agg #[Value.bool false, Value.slice t14A t14n t14c]) h_2)

set_option maxRecDepth 100000 in
theorem ref02_Of_ok {n : Int} {h : Heap} {R : Value → Heap → Prop} (hv : ref02_Of_vc n h R) : CallsU Tryz.prog 103 [Value.int .i64 n] h R :=
  fn_sound Tryz.func103 (by kernel_rfl) (by kernel_rfl) (by kernel_rfl) (fun _ => false) .nil [Value.int .i64 n] h R (by kernel_rfl)
    (Eq.mp (show ref02_Of_vc n h R = fnV Tryz.prog Tryz.f103 (fun _ => false) .nil [Value.int .i64 n] h R by kernel_rfl) hv)

def ref02_Norm_vc (a_0 : Bool) (a_1A : Option Addr) (a_1n a_1c : Nat) (h : Heap) (R : Value → Heap → Prop) : Prop :=
 CallsU Tryz.prog 125 [Value.bool a_0, Value.slice a_1A a_1n a_1c] h fun v h_1 =>
 ∃ t7_0 : Bool, ∃ t7_1A : Option Addr, ∃ t7_1n t7_1c : Nat, v = Value.agg #[Value.bool t7_0, Value.slice t7_1A t7_1n t7_1c] ∧
 R (Value.agg #[Value.bool t7_0, Value.slice t7_1A t7_1n t7_1c]) h_1

set_option maxRecDepth 100000 in
theorem ref02_Norm_ok {a_0 : Bool} {a_1A : Option Addr} {a_1n a_1c : Nat} {h : Heap} {R : Value → Heap → Prop} (hv : ref02_Norm_vc a_0 a_1A a_1n a_1c h R) : CallsU Tryz.prog 123 [Value.agg #[Value.bool a_0, Value.slice a_1A a_1n a_1c]] h R :=
  fn_sound Tryz.func123 (by kernel_rfl) (by kernel_rfl) (by kernel_rfl) (fun _ => false) .nil [Value.agg #[Value.bool a_0, Value.slice a_1A a_1n a_1c]] h R (by kernel_rfl)
    (Eq.mp (show ref02_Norm_vc a_0 a_1A a_1n a_1c h R = fnV Tryz.prog Tryz.f123 (fun _ => false) .nil [Value.agg #[Value.bool a_0, Value.slice a_1A a_1n a_1c]] h R by kernel_rfl) hv)

def ref01_Cmp_vc (aA : Option Addr) (an ac : Nat) (bA : Option Addr) (bn bc : Nat) (h : Heap) (R : Value → Heap → Prop) : Prop :=
 ∀ t11 : Int, t11 = IntKind.i64.wrap ((if decide (((bn : Nat) : Int) > ((an : Nat) : Int)) then ((bn : Nat) : Int) else ((an : Nat) : Int)) - 1) →
 ∃ J : Nat → Int → Heap → Prop, (∃ m, J m t11 h) ∧
 ∀ (m : Nat) (i : Int) (h_1 : Heap), J m i h_1 →
 Br (decide (i ≥ 0))
  (CallsU Tryz.prog 170 [Value.slice aA an ac, Value.int .i64 i] h_1 fun v h_2 =>
 ∃ t18 : Int, v = Value.int .u64 t18 ∧
 CallsU Tryz.prog 170 [Value.slice bA bn bc, Value.int .i64 i] h_2 fun v_1 h_3 =>
 ∃ t21 : Int, v_1 = Value.int .u64 t21 ∧
 Br (decide (t18 < t21))
  (R (Value.int .i64 (-1)) h_3)
  (CallsU Tryz.prog 170 [Value.slice aA an ac, Value.int .i64 i] h_3 fun v_2 h_4 =>
 ∃ t25 : Int, v_2 = Value.int .u64 t25 ∧
 CallsU Tryz.prog 170 [Value.slice bA bn bc, Value.int .i64 i] h_4 fun v_3 h_5 =>
 ∃ t28 : Int, v_3 = Value.int .u64 t28 ∧
 Br (decide (t25 > t28))
  (R (Value.int .i64 1) h_5)
  (∀ t15 : Int, t15 = IntKind.i64.wrap (i - 1) →
 ∃ m_1, m_1 < m ∧ J m_1 t15 h_5)))
  (R (Value.int .i64 0) h_1)

set_option maxRecDepth 100000 in
theorem ref01_Cmp_ok {aA : Option Addr} {an ac : Nat} {bA : Option Addr} {bn bc : Nat} {h : Heap} {R : Value → Heap → Prop} (hv : ref01_Cmp_vc aA an ac bA bn bc h R) : CallsU Tryz.prog 124 [Value.slice aA an ac, Value.slice bA bn bc] h R :=
  fn_sound Tryz.func124 (by kernel_rfl) (by kernel_rfl) (by kernel_rfl) (fun _ => false) (.two .nil (.two (.two .nil (.one (.loop ⟨[(5, Sh.int .i64)], []⟩ .nil))) .nil)) [Value.slice aA an ac, Value.slice bA bn bc] h R (by kernel_rfl)
    (Eq.mp (show ref01_Cmp_vc aA an ac bA bn bc h R = fnV Tryz.prog Tryz.f124 (fun _ => false) (.two .nil (.two (.two .nil (.one (.loop ⟨[(5, Sh.int .i64)], []⟩ .nil))) .nil)) [Value.slice aA an ac, Value.slice bA bn bc] h R by kernel_rfl) hv)

def ref02_make1_vc (neg : Bool) (mA : Option Addr) (mn mc : Nat) (h : Heap) (R : Value → Heap → Prop) : Prop :=
 CallsU Tryz.prog 127 [Value.slice mA mn mc] h fun v h_1 =>
 ∃ t6A : Option Addr, ∃ t6n t6c : Nat, v = Value.slice t6A t6n t6c ∧
 Br (neg)
  (R (Value.agg #[Value.bool (decide (((t6n : Nat) : Int) > 0)), Value.slice t6A t6n t6c]) h_1)
  (R (Value.agg #[Value.bool false, Value.slice t6A t6n t6c]) h_1)

set_option maxRecDepth 100000 in
theorem ref02_make1_ok {neg : Bool} {mA : Option Addr} {mn mc : Nat} {h : Heap} {R : Value → Heap → Prop} (hv : ref02_make1_vc neg mA mn mc h R) : CallsU Tryz.prog 125 [Value.bool neg, Value.slice mA mn mc] h R :=
  fn_sound Tryz.func125 (by kernel_rfl) (by kernel_rfl) (by kernel_rfl) (fun _ => false) .nil [Value.bool neg, Value.slice mA mn mc] h R (by kernel_rfl)
    (Eq.mp (show ref02_make1_vc neg mA mn mc h R = fnV Tryz.prog Tryz.f125 (fun _ => false) .nil [Value.bool neg, Value.slice mA mn mc] h R by kernel_rfl) hv)

def ref01_Mul_vc (aA : Option Addr) (an ac : Nat) (bA : Option Addr) (bn bc : Nat) (h : Heap) (R : Value → Heap → Prop) : Prop :=
 ∀ t14 : Int, t14 = IntKind.i64.wrap (((an : Nat) : Int) + ((bn : Nat) : Int)) →
 0 ≤ t14 ∧ t14 ≤ t14 ∧ t14 * 4 ≤ 140737488355328 ∧ t14 ≤ 9223372036854775807 ∧
 ∀ (g : Nat) (h_1 : Heap), h g = none → h_1 = Heap.put h g ⟨repV [Value.int .u32 0] (Int.toNat t14), 104, (0, 0)⟩ →
 ∃ J : Nat → Int → Heap → Prop, (∃ m, J m 0 h_1) ∧
 ∀ (m : Nat) (i : Int) (h_2 : Heap), J m i h_2 →
 Br (decide (i < ((an : Nat) : Int)))
  (∃ J_1 : Nat → Int → Int → Heap → Prop, (∃ m_2, J_1 m_2 0 0 h_2) ∧
 ∀ (m_2 : Nat) (carry : Int) (k : Int) (h_3 : Heap), J_1 m_2 carry k h_3 →
 Br (decide (k < ((bn : Nat) : Int)))
  (CallsU Tryz.prog 170 [Value.slice aA an ac, Value.int .i64 i] h_3 fun v h_4 =>
 ∃ t30 : Int, v = Value.int .u64 t30 ∧
 CallsU Tryz.prog 170 [Value.slice bA bn bc, Value.int .i64 k] h_4 fun v_1 h_5 =>
 ∃ t33 : Int, v_1 = Value.int .u64 t33 ∧
 ∀ t34 : Int, t34 = IntKind.u64.wrap (t30 * t33) →
 ∀ t38 : Int, t38 = IntKind.i64.wrap (i + k) →
 CallsU Tryz.prog 170 [Value.slice (some ⟨g, 0, none⟩) (Int.toNat t14) (Int.toNat t14), Value.int .i64 t38] h_5 fun v_2 h_6 =>
 ∃ t39 : Int, v_2 = Value.int .u64 t39 ∧
 ∀ t40 : Int, t40 = IntKind.u64.wrap (t34 + t39) →
 ∀ t42 : Int, t42 = IntKind.u64.wrap (t40 + carry) →
 ∀ t46 : Int, t46 = IntKind.i64.wrap (i + k) →
 ∀ t48 : Int, t48 = (Int.tmod t42 4294967296) →
 ∃ ad : Addr, some ⟨g, 0, none⟩ = some ad ∧ 0 ≤ t46 ∧ t46 < (((Int.toNat t14) : Nat) : Int) ∧
 ∃ b : Blk, h_6 (Addr.block (Addr.add ad (Int.toNat t46 * 1))) = some b ∧ b.fz = (0, 0) ∧ Addr.spot (Addr.add ad (Int.toNat t46 * 1)) = none ∧ Addr.off (Addr.add ad (Int.toNat t46 * 1)) + 1 ≤ b.cells.length ∧
 ∀ h_7 : Heap, h_7 = Heap.put h_6 (Addr.block (Addr.add ad (Int.toNat t46 * 1))) { b with cells := setSeg b.cells (Addr.off (Addr.add ad (Int.toNat t46 * 1))) [Value.int .u32 (IntKind.u32.wrap t48)] } →
 ∀ t52 : Int, t52 = IntKind.u64.wrap (Int.tdiv t42 4294967296) →
 ∀ t27 : Int, t27 = IntKind.i64.wrap (k + 1) →
 ∃ m_3, m_3 < m_2 ∧ J_1 m_3 t52 t27 h_7)
  (∀ t57 : Int, t57 = IntKind.i64.wrap (i + ((bn : Nat) : Int)) →
 ∃ ad_1 : Addr, some ⟨g, 0, none⟩ = some ad_1 ∧ 0 ≤ t57 ∧ t57 < (((Int.toNat t14) : Nat) : Int) ∧
 ∃ b_1 : Blk, h_3 (Addr.block (Addr.add ad_1 (Int.toNat t57 * 1))) = some b_1 ∧ b_1.fz = (0, 0) ∧ Addr.spot (Addr.add ad_1 (Int.toNat t57 * 1)) = none ∧ Addr.off (Addr.add ad_1 (Int.toNat t57 * 1)) + 1 ≤ b_1.cells.length ∧
 ∀ h_8 : Heap, h_8 = Heap.put h_3 (Addr.block (Addr.add ad_1 (Int.toNat t57 * 1))) { b_1 with cells := setSeg b_1.cells (Addr.off (Addr.add ad_1 (Int.toNat t57 * 1))) [Value.int .u32 (IntKind.u32.wrap carry)] } →
 ∀ t21 : Int, t21 = IntKind.i64.wrap (i + 1) →
 ∃ m_1, m_1 < m ∧ J m_1 t21 h_8))
  (CallsU Tryz.prog 127 [Value.slice (some ⟨g, 0, none⟩) (Int.toNat t14) (Int.toNat t14)] h_2 fun v_3 h_9 =>
 ∃ t62A : Option Addr, ∃ t62n t62c : Nat, v_3 = Value.slice t62A t62n t62c ∧
 R (Value.slice t62A t62n t62c) h_9)

set_option maxRecDepth 100000 in
theorem ref01_Mul_ok {aA : Option Addr} {an ac : Nat} {bA : Option Addr} {bn bc : Nat} {h : Heap} {R : Value → Heap → Prop} (hv : ref01_Mul_vc aA an ac bA bn bc h R) : CallsU Tryz.prog 126 [Value.slice aA an ac, Value.slice bA bn bc] h R :=
  fn_sound Tryz.func126 (by kernel_rfl) (by kernel_rfl) (by kernel_rfl) (fun _ => false) (.two .nil (.two .nil (.two (.two .nil (.one (.loop ⟨[(6, Sh.int .i64)], []⟩ (.two .nil (.two (.one (.two .nil (.two (.two .nil (.one (.loop ⟨[(7, Sh.int .u64), (8, Sh.int .i64)], []⟩ .nil))) .nil))) .nil))))) .nil))) [Value.slice aA an ac, Value.slice bA bn bc] h R (by kernel_rfl)
    (Eq.mp (show ref01_Mul_vc aA an ac bA bn bc h R = fnV Tryz.prog Tryz.f126 (fun _ => false) (.two .nil (.two .nil (.two (.two .nil (.one (.loop ⟨[(6, Sh.int .i64)], []⟩ (.two .nil (.two (.one (.two .nil (.two (.two .nil (.one (.loop ⟨[(7, Sh.int .u64), (8, Sh.int .i64)], []⟩ .nil))) .nil))) .nil))))) .nil))) [Value.slice aA an ac, Value.slice bA bn bc] h R by kernel_rfl) hv)

def ref01_Norm_vc (aA : Option Addr) (an ac : Nat) (h : Heap) (R : Value → Heap → Prop) : Prop :=
 ∃ J : Nat → Int → Heap → Prop, (∃ m, J m ((an : Nat) : Int) h) ∧
 ∀ (m : Nat) (n : Int) (h_1 : Heap), J m n h_1 →
 Br (decide (n > 0))
  (∀ t12 : Int, t12 = IntKind.i64.wrap (n - 1) →
 ∃ ad : Addr, aA = some ad ∧ 0 ≤ t12 ∧ t12 < ((an : Nat) : Int) ∧
 ∃ t14 : Int, LdN h_1 (Addr.add ad (Int.toNat t12 * 1)) [Value.int .u32 t14] ∧
 Br ((t14 : Int) == 0)
  (∀ t18 : Int, t18 = IntKind.i64.wrap (n - 1) →
 ∃ m_1, m_1 < m ∧ J m_1 t18 h_1)
  (((0 : Nat) : Int) ≤ n ∧ n ≤ ((ac : Nat) : Int) ∧
 ∃ xs : List Value, RdS h_1 aA ((Int.toNat n) * 1) xs ∧ (∀ x ∈ xs, Go.Vcg.one x = true) ∧
 (0 + (Int.toNat n) ≤ 0 → Br (decide ((Int.toNat n) * 1 = 0)) (R (Value.slice none (0 + (Int.toNat n)) 0) h_1)
 (∃ (ad_1 : Addr) (b : Blk), none = some ad_1 ∧ ad_1.spot = none ∧ h_1 ad_1.block = some b ∧ b.fz = (0, 0) ∧ ad_1.off + 0 * 1 + (Int.toNat n) * 1 ≤ b.cells.length ∧
 ∀ h_3 : Heap, h_3 = Heap.put h_1 ad_1.block { b with cells := setSeg b.cells (ad_1.off + 0 * 1) xs } →
 R (Value.slice none (0 + (Int.toNat n)) 0) h_3)) ∧
 (0 < 0 + (Int.toNat n) → ∃ olds : List Value, RdS h_1 none (0 * 1) olds ∧ (0 + (Int.toNat n)) * 4 ≤ 140737488355328 ∧
 ∀ (g cap : Nat) (h_4 : Heap), h_1 g = none → 0 + (Int.toNat n) ≤ cap → h_4 = Heap.put h_1 g ⟨olds ++ xs ++ repV [Value.int .u32 0] (cap - (0 + (Int.toNat n))), 104, (0, 0)⟩ →
 R (Value.slice (some ⟨g, 0, none⟩) (0 + (Int.toNat n)) cap) h_4)))
  (((0 : Nat) : Int) ≤ n ∧ n ≤ ((ac : Nat) : Int) ∧
 ∃ xs_1 : List Value, RdS h_1 aA ((Int.toNat n) * 1) xs_1 ∧ (∀ x ∈ xs_1, Go.Vcg.one x = true) ∧
 (0 + (Int.toNat n) ≤ 0 → Br (decide ((Int.toNat n) * 1 = 0)) (R (Value.slice none (0 + (Int.toNat n)) 0) h_1)
 (∃ (ad_2 : Addr) (b_1 : Blk), none = some ad_2 ∧ ad_2.spot = none ∧ h_1 ad_2.block = some b_1 ∧ b_1.fz = (0, 0) ∧ ad_2.off + 0 * 1 + (Int.toNat n) * 1 ≤ b_1.cells.length ∧
 ∀ h_6 : Heap, h_6 = Heap.put h_1 ad_2.block { b_1 with cells := setSeg b_1.cells (ad_2.off + 0 * 1) xs_1 } →
 R (Value.slice none (0 + (Int.toNat n)) 0) h_6)) ∧
 (0 < 0 + (Int.toNat n) → ∃ olds_1 : List Value, RdS h_1 none (0 * 1) olds_1 ∧ (0 + (Int.toNat n)) * 4 ≤ 140737488355328 ∧
 ∀ (g_1 cap_1 : Nat) (h_7 : Heap), h_1 g_1 = none → 0 + (Int.toNat n) ≤ cap_1 → h_7 = Heap.put h_1 g_1 ⟨olds_1 ++ xs_1 ++ repV [Value.int .u32 0] (cap_1 - (0 + (Int.toNat n))), 104, (0, 0)⟩ →
 R (Value.slice (some ⟨g_1, 0, none⟩) (0 + (Int.toNat n)) cap_1) h_7))

set_option maxRecDepth 100000 in
theorem ref01_Norm_ok {aA : Option Addr} {an ac : Nat} {h : Heap} {R : Value → Heap → Prop} (hv : ref01_Norm_vc aA an ac h R) : CallsU Tryz.prog 127 [Value.slice aA an ac] h R :=
  fn_sound Tryz.func127 (by kernel_rfl) (by kernel_rfl) (by kernel_rfl) (fun _ => false) (.two .nil (.two .nil (.two (.one (.loop ⟨[(3, Sh.int .i64)], []⟩ .nil)) .nil))) [Value.slice aA an ac] h R (by kernel_rfl)
    (Eq.mp (show ref01_Norm_vc aA an ac h R = fnV Tryz.prog Tryz.f127 (fun _ => false) (.two .nil (.two .nil (.two (.one (.loop ⟨[(3, Sh.int .i64)], []⟩ .nil)) .nil))) [Value.slice aA an ac] h R by kernel_rfl) hv)

def ref01_Of_vc (n : Int) (h : Heap) (R : Value → Heap → Prop) : Prop :=
 ∃ J : Nat → Int → Option Addr → Nat → Nat → Heap → Prop, (∃ m, J m n none 0 0 h) ∧
 ∀ (m : Nat) (n_1 : Int) (outA : Option Addr) (outn outc : Nat) (h_1 : Heap), J m n_1 outA outn outc h_1 →
 Br (decide (n_1 > 0))
  (∀ t8 : Int, t8 = (Int.tmod n_1 4294967296) →
 ∀ (g : Nat) (h_2 : Heap), h_1 g = none → h_2 = Heap.put h_1 g ⟨[Value.int .u32 (IntKind.u32.wrap t8)], 104, (0, 0)⟩ →
 ∃ xs : List Value, RdS h_2 (some ⟨g, 0, none⟩) (1 * 1) xs ∧ (∀ x ∈ xs, Go.Vcg.one x = true) ∧
 (outn + 1 ≤ outc → ∃ (ad : Addr) (b : Blk), outA = some ad ∧ ad.spot = none ∧ h_2 ad.block = some b ∧ b.fz = (0, 0) ∧ ad.off + outn * 1 + 1 * 1 ≤ b.cells.length ∧
 ∀ h_4 : Heap, h_4 = Heap.put h_2 ad.block { b with cells := setSeg b.cells (ad.off + outn * 1) xs } →
 ∀ t13 : Int, t13 = IntKind.u64.wrap (Int.tdiv n_1 4294967296) →
 ∃ m_1, m_1 < m ∧ J m_1 t13 outA (outn + 1) outc h_4) ∧
 (outc < outn + 1 → ∃ olds : List Value, RdS h_2 outA (outn * 1) olds ∧ (outn + 1) * 4 ≤ 140737488355328 ∧
 ∀ (g_1 cap : Nat) (h_5 : Heap), h_2 g_1 = none → outn + 1 ≤ cap → h_5 = Heap.put h_2 g_1 ⟨olds ++ xs ++ repV [Value.int .u32 0] (cap - (outn + 1)), 104, (0, 0)⟩ →
 ∀ t13_1 : Int, t13_1 = IntKind.u64.wrap (Int.tdiv n_1 4294967296) →
 ∃ m_1, m_1 < m ∧ J m_1 t13_1 (some ⟨g_1, 0, none⟩) (outn + 1) cap h_5))
  (R (Value.slice outA outn outc) h_1)

set_option maxRecDepth 100000 in
theorem ref01_Of_ok {n : Int} {h : Heap} {R : Value → Heap → Prop} (hv : ref01_Of_vc n h R) : CallsU Tryz.prog 128 [Value.int .u64 n] h R :=
  fn_sound Tryz.func128 (by kernel_rfl) (by kernel_rfl) (by kernel_rfl) (fun _ => false) (.two .nil (.two .nil (.two (.one (.loop ⟨[(0, Sh.int .u64), (3, Sh.slice)], []⟩ .nil)) .nil))) [Value.int .u64 n] h R (by kernel_rfl)
    (Eq.mp (show ref01_Of_vc n h R = fnV Tryz.prog Tryz.f128 (fun _ => false) (.two .nil (.two .nil (.two (.one (.loop ⟨[(0, Sh.int .u64), (3, Sh.slice)], []⟩ .nil)) .nil))) [Value.int .u64 n] h R by kernel_rfl) hv)

def ref01_Gcd_vc (aA : Option Addr) (an ac : Nat) (bA : Option Addr) (bn bc : Nat) (h : Heap) (R : Value → Heap → Prop) : Prop :=
 CallsU Tryz.prog 127 [Value.slice aA an ac] h fun v h_1 =>
 ∃ t11A : Option Addr, ∃ t11n t11c : Nat, v = Value.slice t11A t11n t11c ∧
 CallsU Tryz.prog 127 [Value.slice bA bn bc] h_1 fun v_1 h_2 =>
 ∃ t13A : Option Addr, ∃ t13n t13c : Nat, v_1 = Value.slice t13A t13n t13c ∧
 ∃ J : Nat → Option Addr → Nat → Nat → Option Addr → Nat → Nat → Heap → Prop, (∃ m, J m t11A t11n t11c t13A t13n t13c h_2) ∧
 ∀ (m : Nat) (xA : Option Addr) (xn xc : Nat) (yA : Option Addr) (yn yc : Nat) (h_3 : Heap), J m xA xn xc yA yn yc h_3 →
 Br (decide (((yn : Nat) : Int) > 0))
  (CallsU Tryz.prog 130 [Value.slice xA xn xc, Value.slice yA yn yc] h_3 fun v_2 h_4 =>
 ∃ t20_0A : Option Addr, ∃ t20_0n t20_0c : Nat, ∃ t20_1A : Option Addr, ∃ t20_1n t20_1c : Nat, ∃ t20_2 : Bool, v_2 = Value.tuple #[Value.slice t20_0A t20_0n t20_0c, Value.slice t20_1A t20_1n t20_1c, Value.bool t20_2] ∧
 ∃ m_1, m_1 < m ∧ J m_1 yA yn yc t20_1A t20_1n t20_1c h_4)
  (R (Value.slice xA xn xc) h_3)

set_option maxRecDepth 100000 in
theorem ref01_Gcd_ok {aA : Option Addr} {an ac : Nat} {bA : Option Addr} {bn bc : Nat} {h : Heap} {R : Value → Heap → Prop} (hv : ref01_Gcd_vc aA an ac bA bn bc h R) : CallsU Tryz.prog 129 [Value.slice aA an ac, Value.slice bA bn bc] h R :=
  fn_sound Tryz.func129 (by kernel_rfl) (by kernel_rfl) (by kernel_rfl) (fun _ => false) (.two .nil (.two .nil (.two (.one (.loop ⟨[(5, Sh.slice), (6, Sh.slice)], []⟩ .nil)) .nil))) [Value.slice aA an ac, Value.slice bA bn bc] h R (by kernel_rfl)
    (Eq.mp (show ref01_Gcd_vc aA an ac bA bn bc h R = fnV Tryz.prog Tryz.f129 (fun _ => false) (.two .nil (.two .nil (.two (.one (.loop ⟨[(5, Sh.slice), (6, Sh.slice)], []⟩ .nil)) .nil))) [Value.slice aA an ac, Value.slice bA bn bc] h R by kernel_rfl) hv)

def ref01_DivMod_vc (aA : Option Addr) (an ac : Nat) (bA : Option Addr) (bn bc : Nat) (h : Heap) (R : Value → Heap → Prop) : Prop :=
 CallsU Tryz.prog 171 [Value.slice bA bn bc] h fun v h_1 =>
 ∃ t15 : Int, v = Value.int .i64 t15 ∧
 Br ((t15 : Int) == 0)
  (R (Value.tuple #[Value.slice none 0 0, Value.slice none 0 0, Value.bool false]) h_1)
  (CallsU Tryz.prog 127 [Value.slice aA an ac] h_1 fun v_1 h_2 =>
 ∃ t18A : Option Addr, ∃ t18n t18c : Nat, v_1 = Value.slice t18A t18n t18c ∧
 CallsU Tryz.prog 171 [Value.slice t18A t18n t18c] h_2 fun v_2 h_3 =>
 ∃ t20 : Int, v_2 = Value.int .i64 t20 ∧
 CallsU Tryz.prog 171 [Value.slice bA bn bc] h_3 fun v_3 h_4 =>
 ∃ t22 : Int, v_3 = Value.int .i64 t22 ∧
 ∀ t23 : Int, t23 = IntKind.i64.wrap (t20 - t22) →
 Br (decide (t23 < 0))
  (R (Value.tuple #[Value.slice none 0 0, Value.slice t18A t18n t18c, Value.bool true]) h_4)
  (∀ t28 : Int, t28 = IntKind.i64.wrap (Int.tdiv t23 32) →
 ∀ t29 : Int, t29 = IntKind.i64.wrap (t28 + 1) →
 0 ≤ t29 ∧ t29 ≤ t29 ∧ t29 * 4 ≤ 140737488355328 ∧ t29 ≤ 9223372036854775807 ∧
 ∀ (g : Nat) (h_5 : Heap), h_4 g = none → h_5 = Heap.put h_4 g ⟨repV [Value.int .u32 0] (Int.toNat t29), 104, (0, 0)⟩ →
 CallsU Tryz.prog 172 [Value.slice bA bn bc, Value.int .i64 t23] h_5 fun v_4 h_6 =>
 ∃ t33A : Option Addr, ∃ t33n t33c : Nat, v_4 = Value.slice t33A t33n t33c ∧
 ∃ J : Nat → Option Addr → Nat → Nat → Option Addr → Nat → Nat → Int → Heap → Prop, (∃ m, J m t18A t18n t18c t33A t33n t33c t23 h_6) ∧
 ∀ (m : Nat) (restA : Option Addr) (restn restc : Nat) (partA : Option Addr) (partn partc : Nat) (k : Int) (h_7 : Heap), J m restA restn restc partA partn partc k h_7 →
 Br (decide (k ≥ 0))
  (CallsU Tryz.prog 173 [Value.slice restA restn restc, Value.slice partA partn partc] h_7 fun v_5 h_8 =>
 ∃ t42_0A : Option Addr, ∃ t42_0n t42_0c : Nat, ∃ t42_1 : Bool, v_5 = Value.tuple #[Value.slice t42_0A t42_0n t42_0c, Value.bool t42_1] ∧
 Br (t42_1)
  (∀ t49 : Int, t49 = IntKind.i64.wrap (Int.tdiv k 32) →
 ∀ t52 : Int, t52 = IntKind.i64.wrap (Int.tdiv k 32) →
 ∃ ad : Addr, some ⟨g, 0, none⟩ = some ad ∧ 0 ≤ t52 ∧ t52 < (((Int.toNat t29) : Nat) : Int) ∧
 ∃ t54 : Int, LdN h_8 (Addr.add ad (Int.toNat t52 * 1)) [Value.int .u32 t54] ∧
 ∀ t56 : Int, t56 = (Int.tmod k 32) →
 Br (decide (IntKind.u64.wrap t56 < 0)) False
  (∀ t58 : Int, t58 = IntKind.u32.wrap (1 * 2 ^ (min (Int.toNat (IntKind.u64.wrap t56)) 32 : Nat)) →
 ∀ t59 : Int, t59 = IntKind.u32.wrap (t54 + t58) →
 ∃ ad_1 : Addr, some ⟨g, 0, none⟩ = some ad_1 ∧ 0 ≤ t49 ∧ t49 < (((Int.toNat t29) : Nat) : Int) ∧
 ∃ b : Blk, h_8 (Addr.block (Addr.add ad_1 (Int.toNat t49 * 1))) = some b ∧ b.fz = (0, 0) ∧ Addr.spot (Addr.add ad_1 (Int.toNat t49 * 1)) = none ∧ Addr.off (Addr.add ad_1 (Int.toNat t49 * 1)) + 1 ≤ b.cells.length ∧
 ∀ h_9 : Heap, h_9 = Heap.put h_8 (Addr.block (Addr.add ad_1 (Int.toNat t49 * 1))) { b with cells := setSeg b.cells (Addr.off (Addr.add ad_1 (Int.toNat t49 * 1))) [Value.int .u32 t59] } →
 CallsU Tryz.prog 174 [Value.slice partA partn partc] h_9 fun v_6 h_10 =>
 ∃ t62A : Option Addr, ∃ t62n t62c : Nat, v_6 = Value.slice t62A t62n t62c ∧
 ∀ t38 : Int, t38 = IntKind.i64.wrap (k - 1) →
 ∃ m_1, m_1 < m ∧ J m_1 t42_0A t42_0n t42_0c t62A t62n t62c t38 h_10))
  (CallsU Tryz.prog 174 [Value.slice partA partn partc] h_8 fun v_7 h_11 =>
 ∃ t62A_1 : Option Addr, ∃ t62n_1 t62c_1 : Nat, v_7 = Value.slice t62A_1 t62n_1 t62c_1 ∧
 ∀ t38_1 : Int, t38_1 = IntKind.i64.wrap (k - 1) →
 ∃ m_1, m_1 < m ∧ J m_1 restA restn restc t62A_1 t62n_1 t62c_1 t38_1 h_11))
  (CallsU Tryz.prog 127 [Value.slice (some ⟨g, 0, none⟩) (Int.toNat t29) (Int.toNat t29)] h_7 fun v_8 h_12 =>
 ∃ t64A : Option Addr, ∃ t64n t64c : Nat, v_8 = Value.slice t64A t64n t64c ∧
 R (Value.tuple #[Value.slice t64A t64n t64c, Value.slice restA restn restc, Value.bool true]) h_12)))

set_option maxRecDepth 100000 in
theorem ref01_DivMod_ok {aA : Option Addr} {an ac : Nat} {bA : Option Addr} {bn bc : Nat} {h : Heap} {R : Value → Heap → Prop} (hv : ref01_DivMod_vc aA an ac bA bn bc h R) : CallsU Tryz.prog 130 [Value.slice aA an ac, Value.slice bA bn bc] h R :=
  fn_sound Tryz.func130 (by kernel_rfl) (by kernel_rfl) (by kernel_rfl) (fun _ => false) (.two .nil (.two .nil (.two .nil (.two .nil (.two .nil (.two .nil (.two .nil (.two (.two .nil (.one (.loop ⟨[(7, Sh.slice), (10, Sh.slice), (11, Sh.int .i64)], []⟩ .nil))) .nil)))))))) [Value.slice aA an ac, Value.slice bA bn bc] h R (by kernel_rfl)
    (Eq.mp (show ref01_DivMod_vc aA an ac bA bn bc h R = fnV Tryz.prog Tryz.f130 (fun _ => false) (.two .nil (.two .nil (.two .nil (.two .nil (.two .nil (.two .nil (.two .nil (.two (.two .nil (.one (.loop ⟨[(7, Sh.slice), (10, Sh.slice), (11, Sh.int .i64)], []⟩ .nil))) .nil)))))))) [Value.slice aA an ac, Value.slice bA bn bc] h R by kernel_rfl) hv)

def ref01_limb_vc (aA : Option Addr) (an _ac : Nat) (i : Int) (h : Heap) (R : Value → Heap → Prop) : Prop :=
 Br (decide (i < 0))
  (R (Value.int .u64 0) h)
  (Br (decide (i ≥ ((an : Nat) : Int)))
  (R (Value.int .u64 0) h)
  (∃ ad : Addr, aA = some ad ∧ 0 ≤ i ∧ i < ((an : Nat) : Int) ∧
 ∃ t16 : Int, LdN h (Addr.add ad (Int.toNat i * 1)) [Value.int .u32 t16] ∧
 R (Value.int .u64 (IntKind.u64.wrap t16)) h))

set_option maxRecDepth 100000 in
theorem ref01_limb_ok {aA : Option Addr} {an ac : Nat} {i : Int} {h : Heap} {R : Value → Heap → Prop} (hv : ref01_limb_vc aA an ac i h R) : CallsU Tryz.prog 170 [Value.slice aA an ac, Value.int .i64 i] h R :=
  fn_sound Tryz.func170 (by kernel_rfl) (by kernel_rfl) (by kernel_rfl) (fun _ => false) .nil [Value.slice aA an ac, Value.int .i64 i] h R (by kernel_rfl)
    (Eq.mp (show ref01_limb_vc aA an ac i h R = fnV Tryz.prog Tryz.f170 (fun _ => false) .nil [Value.slice aA an ac, Value.int .i64 i] h R by kernel_rfl) hv)

def ref01_Bits_vc (aA : Option Addr) (an ac : Nat) (h : Heap) (R : Value → Heap → Prop) : Prop :=
 CallsU Tryz.prog 127 [Value.slice aA an ac] h fun v h_1 =>
 ∃ t7A : Option Addr, ∃ t7n t7c : Nat, v = Value.slice t7A t7n t7c ∧
 Br ((((t7n : Nat) : Int) : Int) == 0)
  (R (Value.int .i64 0) h_1)
  (∀ t13 : Int, t13 = IntKind.i64.wrap (((t7n : Nat) : Int) - 1) →
 ∀ t14 : Int, t14 = IntKind.i64.wrap (32 * t13) →
 ∀ t18 : Int, t18 = IntKind.i64.wrap (((t7n : Nat) : Int) - 1) →
 ∃ ad : Addr, t7A = some ad ∧ 0 ≤ t18 ∧ t18 < ((t7n : Nat) : Int) ∧
 ∃ t20 : Int, LdN h_1 (Addr.add ad (Int.toNat t18 * 1)) [Value.int .u32 t20] ∧
 ∃ J : Nat → Int → Int → Heap → Prop, (∃ m, J m t14 t20 h_1) ∧
 ∀ (m : Nat) (n : Int) (t : Int) (h_2 : Heap), J m n t h_2 →
 Br (decide (t > 0))
  (∀ t26 : Int, t26 = IntKind.i64.wrap (n + 1) →
 ∀ t24 : Int, t24 = IntKind.u32.wrap (Int.tdiv t 2) →
 ∃ m_1, m_1 < m ∧ J m_1 t26 t24 h_2)
  (R (Value.int .i64 n) h_2))

set_option maxRecDepth 100000 in
theorem ref01_Bits_ok {aA : Option Addr} {an ac : Nat} {h : Heap} {R : Value → Heap → Prop} (hv : ref01_Bits_vc aA an ac h R) : CallsU Tryz.prog 171 [Value.slice aA an ac] h R :=
  fn_sound Tryz.func171 (by kernel_rfl) (by kernel_rfl) (by kernel_rfl) (fun _ => false) (.two .nil (.two .nil (.two .nil (.two .nil (.two (.two .nil (.one (.loop ⟨[(4, Sh.int .i64), (5, Sh.int .u32)], []⟩ .nil))) .nil))))) [Value.slice aA an ac] h R (by kernel_rfl)
    (Eq.mp (show ref01_Bits_vc aA an ac h R = fnV Tryz.prog Tryz.f171 (fun _ => false) (.two .nil (.two .nil (.two .nil (.two .nil (.two (.two .nil (.one (.loop ⟨[(4, Sh.int .i64), (5, Sh.int .u32)], []⟩ .nil))) .nil))))) [Value.slice aA an ac] h R by kernel_rfl) hv)

def ref01_Shift_vc (aA : Option Addr) (an ac : Nat) (n : Int) (h : Heap) (R : Value → Heap → Prop) : Prop :=
 ∀ t10 : Int, t10 = IntKind.i64.wrap (Int.tdiv n 32) →
 0 ≤ t10 ∧ t10 ≤ t10 ∧ t10 * 4 ≤ 140737488355328 ∧ t10 ≤ 9223372036854775807 ∧
 ∀ (g : Nat) (h_1 : Heap), h g = none → h_1 = Heap.put h g ⟨repV [Value.int .u32 0] (Int.toNat t10), 104, (0, 0)⟩ →
 ∃ J : Nat → Option Addr → Nat → Nat → Int → Int → Heap → Prop, (∃ m, J m (some ⟨g, 0, none⟩) (Int.toNat t10) (Int.toNat t10) 0 0 h_1) ∧
 ∀ (m : Nat) (outA : Option Addr) (outn outc : Nat) (carry : Int) (i : Int) (h_2 : Heap), J m outA outn outc carry i h_2 →
 Br (decide (i ≤ ((an : Nat) : Int)))
  (CallsU Tryz.prog 170 [Value.slice aA an ac, Value.int .i64 i] h_2 fun v h_3 =>
 ∃ t20 : Int, v = Value.int .u64 t20 ∧
 ∀ t22 : Int, t22 = (Int.tmod n 32) →
 Br (decide (IntKind.u64.wrap t22 < 0)) False
  (∀ t24 : Int, t24 = IntKind.u64.wrap (t20 * 2 ^ (min (Int.toNat (IntKind.u64.wrap t22)) 64 : Nat)) →
 ∀ t26 : Int, t26 = IntKind.u64.wrap (t24 + carry) →
 ∀ t29 : Int, t29 = (Int.tmod t26 4294967296) →
 ∀ (g_1 : Nat) (h_4 : Heap), h_3 g_1 = none → h_4 = Heap.put h_3 g_1 ⟨[Value.int .u32 (IntKind.u32.wrap t29)], 104, (0, 0)⟩ →
 ∃ xs : List Value, RdS h_4 (some ⟨g_1, 0, none⟩) (1 * 1) xs ∧ (∀ x ∈ xs, Go.Vcg.one x = true) ∧
 (outn + 1 ≤ outc → ∃ (ad : Addr) (b : Blk), outA = some ad ∧ ad.spot = none ∧ h_4 ad.block = some b ∧ b.fz = (0, 0) ∧ ad.off + outn * 1 + 1 * 1 ≤ b.cells.length ∧
 ∀ h_6 : Heap, h_6 = Heap.put h_4 ad.block { b with cells := setSeg b.cells (ad.off + outn * 1) xs } →
 ∀ t34 : Int, t34 = IntKind.u64.wrap (Int.tdiv t26 4294967296) →
 ∀ t17 : Int, t17 = IntKind.i64.wrap (i + 1) →
 ∃ m_1, m_1 < m ∧ J m_1 outA (outn + 1) outc t34 t17 h_6) ∧
 (outc < outn + 1 → ∃ olds : List Value, RdS h_4 outA (outn * 1) olds ∧ (outn + 1) * 4 ≤ 140737488355328 ∧
 ∀ (g_2 cap : Nat) (h_7 : Heap), h_4 g_2 = none → outn + 1 ≤ cap → h_7 = Heap.put h_4 g_2 ⟨olds ++ xs ++ repV [Value.int .u32 0] (cap - (outn + 1)), 104, (0, 0)⟩ →
 ∀ t34_1 : Int, t34_1 = IntKind.u64.wrap (Int.tdiv t26 4294967296) →
 ∀ t17_1 : Int, t17_1 = IntKind.i64.wrap (i + 1) →
 ∃ m_1, m_1 < m ∧ J m_1 (some ⟨g_2, 0, none⟩) (outn + 1) cap t34_1 t17_1 h_7)))
  (CallsU Tryz.prog 127 [Value.slice outA outn outc] h_2 fun v_2 h_8 =>
 ∃ t36A : Option Addr, ∃ t36n t36c : Nat, v_2 = Value.slice t36A t36n t36c ∧
 R (Value.slice t36A t36n t36c) h_8)

set_option maxRecDepth 100000 in
theorem ref01_Shift_ok {aA : Option Addr} {an ac : Nat} {n : Int} {h : Heap} {R : Value → Heap → Prop} (hv : ref01_Shift_vc aA an ac n h R) : CallsU Tryz.prog 172 [Value.slice aA an ac, Value.int .i64 n] h R :=
  fn_sound Tryz.func172 (by kernel_rfl) (by kernel_rfl) (by kernel_rfl) (fun _ => false) (.two .nil (.two .nil (.two .nil (.two (.two .nil (.one (.loop ⟨[(5, Sh.slice), (6, Sh.int .u64), (7, Sh.int .i64)], []⟩ .nil))) .nil)))) [Value.slice aA an ac, Value.int .i64 n] h R (by kernel_rfl)
    (Eq.mp (show ref01_Shift_vc aA an ac n h R = fnV Tryz.prog Tryz.f172 (fun _ => false) (.two .nil (.two .nil (.two .nil (.two (.two .nil (.one (.loop ⟨[(5, Sh.slice), (6, Sh.int .u64), (7, Sh.int .i64)], []⟩ .nil))) .nil)))) [Value.slice aA an ac, Value.int .i64 n] h R by kernel_rfl) hv)

def ref01_Sub_vc (aA : Option Addr) (an ac : Nat) (bA : Option Addr) (bn bc : Nat) (h : Heap) (R : Value → Heap → Prop) : Prop :=
 CallsU Tryz.prog 124 [Value.slice aA an ac, Value.slice bA bn bc] h fun v h_1 =>
 ∃ t12 : Int, v = Value.int .i64 t12 ∧
 Br (decide (t12 < 0))
  (R (Value.tuple #[Value.slice none 0 0, Value.bool false]) h_1)
  (∃ J : Nat → Option Addr → Nat → Nat → Int → Int → Heap → Prop, (∃ m, J m none 0 0 0 0 h_1) ∧
 ∀ (m : Nat) (outA : Option Addr) (outn outc : Nat) (borrow : Int) (i : Int) (h_2 : Heap), J m outA outn outc borrow i h_2 →
 Br (decide (i < (if decide (((bn : Nat) : Int) > ((an : Nat) : Int)) then ((bn : Nat) : Int) else ((an : Nat) : Int))))
  (CallsU Tryz.prog 170 [Value.slice aA an ac, Value.int .i64 i] h_2 fun v_1 h_3 =>
 ∃ t25 : Int, v_1 = Value.int .u64 t25 ∧
 ∀ t26 : Int, t26 = IntKind.u64.wrap (4294967296 + t25) →
 CallsU Tryz.prog 170 [Value.slice bA bn bc, Value.int .i64 i] h_3 fun v_2 h_4 =>
 ∃ t29 : Int, v_2 = Value.int .u64 t29 ∧
 ∀ t30 : Int, t30 = IntKind.u64.wrap (t26 - t29) →
 ∀ t32 : Int, t32 = IntKind.u64.wrap (t30 - borrow) →
 ∀ t35 : Int, t35 = (Int.tmod t32 4294967296) →
 ∀ (g : Nat) (h_5 : Heap), h_4 g = none → h_5 = Heap.put h_4 g ⟨[Value.int .u32 (IntKind.u32.wrap t35)], 104, (0, 0)⟩ →
 ∃ xs : List Value, RdS h_5 (some ⟨g, 0, none⟩) (1 * 1) xs ∧ (∀ x ∈ xs, Go.Vcg.one x = true) ∧
 (outn + 1 ≤ outc → ∃ (ad : Addr) (b : Blk), outA = some ad ∧ ad.spot = none ∧ h_5 ad.block = some b ∧ b.fz = (0, 0) ∧ ad.off + outn * 1 + 1 * 1 ≤ b.cells.length ∧
 ∀ h_7 : Heap, h_7 = Heap.put h_5 ad.block { b with cells := setSeg b.cells (ad.off + outn * 1) xs } →
 ∀ t40 : Int, t40 = IntKind.u64.wrap (Int.tdiv t32 4294967296) →
 ∀ t41 : Int, t41 = IntKind.u64.wrap (1 - t40) →
 ∀ t22 : Int, t22 = IntKind.i64.wrap (i + 1) →
 ∃ m_1, m_1 < m ∧ J m_1 outA (outn + 1) outc t41 t22 h_7) ∧
 (outc < outn + 1 → ∃ olds : List Value, RdS h_5 outA (outn * 1) olds ∧ (outn + 1) * 4 ≤ 140737488355328 ∧
 ∀ (g_1 cap : Nat) (h_8 : Heap), h_5 g_1 = none → outn + 1 ≤ cap → h_8 = Heap.put h_5 g_1 ⟨olds ++ xs ++ repV [Value.int .u32 0] (cap - (outn + 1)), 104, (0, 0)⟩ →
 ∀ t40_1 : Int, t40_1 = IntKind.u64.wrap (Int.tdiv t32 4294967296) →
 ∀ t41_1 : Int, t41_1 = IntKind.u64.wrap (1 - t40_1) →
 ∀ t22_1 : Int, t22_1 = IntKind.i64.wrap (i + 1) →
 ∃ m_1, m_1 < m ∧ J m_1 (some ⟨g_1, 0, none⟩) (outn + 1) cap t41_1 t22_1 h_8))
  (CallsU Tryz.prog 127 [Value.slice outA outn outc] h_2 fun v_4 h_9 =>
 ∃ t43A : Option Addr, ∃ t43n t43c : Nat, v_4 = Value.slice t43A t43n t43c ∧
 R (Value.tuple #[Value.slice t43A t43n t43c, Value.bool true]) h_9))

set_option maxRecDepth 100000 in
theorem ref01_Sub_ok {aA : Option Addr} {an ac : Nat} {bA : Option Addr} {bn bc : Nat} {h : Heap} {R : Value → Heap → Prop} (hv : ref01_Sub_vc aA an ac bA bn bc h R) : CallsU Tryz.prog 173 [Value.slice aA an ac, Value.slice bA bn bc] h R :=
  fn_sound Tryz.func173 (by kernel_rfl) (by kernel_rfl) (by kernel_rfl) (fun _ => false) (.two .nil (.two .nil (.two .nil (.two .nil (.two (.two .nil (.one (.loop ⟨[(6, Sh.slice), (7, Sh.int .u64), (8, Sh.int .i64)], []⟩ .nil))) .nil))))) [Value.slice aA an ac, Value.slice bA bn bc] h R (by kernel_rfl)
    (Eq.mp (show ref01_Sub_vc aA an ac bA bn bc h R = fnV Tryz.prog Tryz.f173 (fun _ => false) (.two .nil (.two .nil (.two .nil (.two .nil (.two (.two .nil (.one (.loop ⟨[(6, Sh.slice), (7, Sh.int .u64), (8, Sh.int .i64)], []⟩ .nil))) .nil))))) [Value.slice aA an ac, Value.slice bA bn bc] h R by kernel_rfl) hv)

def ref01_Half_vc (aA : Option Addr) (an ac : Nat) (h : Heap) (R : Value → Heap → Prop) : Prop :=
 ∃ J : Nat → Option Addr → Nat → Nat → Int → Heap → Prop, (∃ m, J m none 0 0 0 h) ∧
 ∀ (m : Nat) (outA : Option Addr) (outn outc : Nat) (i : Int) (h_1 : Heap), J m outA outn outc i h_1 →
 Br (decide (i < ((an : Nat) : Int)))
  (CallsU Tryz.prog 170 [Value.slice aA an ac, Value.int .i64 i] h_1 fun v h_2 =>
 ∃ t14 : Int, v = Value.int .u64 t14 ∧
 ∀ t15 : Int, t15 = IntKind.u64.wrap (Int.tdiv t14 2) →
 ∀ t18 : Int, t18 = IntKind.i64.wrap (i + 1) →
 CallsU Tryz.prog 170 [Value.slice aA an ac, Value.int .i64 t18] h_2 fun v_1 h_3 =>
 ∃ t19 : Int, v_1 = Value.int .u64 t19 ∧
 ∀ t20 : Int, t20 = (Int.tmod t19 2) →
 ∀ t21 : Int, t21 = IntKind.u64.wrap (t20 * 2147483648) →
 ∀ t22 : Int, t22 = IntKind.u64.wrap (t15 + t21) →
 ∀ (g : Nat) (h_4 : Heap), h_3 g = none → h_4 = Heap.put h_3 g ⟨[Value.int .u32 (IntKind.u32.wrap t22)], 104, (0, 0)⟩ →
 ∃ xs : List Value, RdS h_4 (some ⟨g, 0, none⟩) (1 * 1) xs ∧ (∀ x ∈ xs, Go.Vcg.one x = true) ∧
 (outn + 1 ≤ outc → ∃ (ad : Addr) (b : Blk), outA = some ad ∧ ad.spot = none ∧ h_4 ad.block = some b ∧ b.fz = (0, 0) ∧ ad.off + outn * 1 + 1 * 1 ≤ b.cells.length ∧
 ∀ h_6 : Heap, h_6 = Heap.put h_4 ad.block { b with cells := setSeg b.cells (ad.off + outn * 1) xs } →
 ∀ t10 : Int, t10 = IntKind.i64.wrap (i + 1) →
 ∃ m_1, m_1 < m ∧ J m_1 outA (outn + 1) outc t10 h_6) ∧
 (outc < outn + 1 → ∃ olds : List Value, RdS h_4 outA (outn * 1) olds ∧ (outn + 1) * 4 ≤ 140737488355328 ∧
 ∀ (g_1 cap : Nat) (h_7 : Heap), h_4 g_1 = none → outn + 1 ≤ cap → h_7 = Heap.put h_4 g_1 ⟨olds ++ xs ++ repV [Value.int .u32 0] (cap - (outn + 1)), 104, (0, 0)⟩ →
 ∀ t10_1 : Int, t10_1 = IntKind.i64.wrap (i + 1) →
 ∃ m_1, m_1 < m ∧ J m_1 (some ⟨g_1, 0, none⟩) (outn + 1) cap t10_1 h_7))
  (CallsU Tryz.prog 127 [Value.slice outA outn outc] h_1 fun v_3 h_8 =>
 ∃ t27A : Option Addr, ∃ t27n t27c : Nat, v_3 = Value.slice t27A t27n t27c ∧
 R (Value.slice t27A t27n t27c) h_8)

set_option maxRecDepth 100000 in
theorem ref01_Half_ok {aA : Option Addr} {an ac : Nat} {h : Heap} {R : Value → Heap → Prop} (hv : ref01_Half_vc aA an ac h R) : CallsU Tryz.prog 174 [Value.slice aA an ac] h R :=
  fn_sound Tryz.func174 (by kernel_rfl) (by kernel_rfl) (by kernel_rfl) (fun _ => false) (.two .nil (.two .nil (.two (.two .nil (.one (.loop ⟨[(3, Sh.slice), (4, Sh.int .i64)], []⟩ .nil))) .nil))) [Value.slice aA an ac] h R (by kernel_rfl)
    (Eq.mp (show ref01_Half_vc aA an ac h R = fnV Tryz.prog Tryz.f174 (fun _ => false) (.two .nil (.two .nil (.two (.two .nil (.one (.loop ⟨[(3, Sh.slice), (4, Sh.int .i64)], []⟩ .nil))) .nil))) [Value.slice aA an ac] h R by kernel_rfl) hv)

end Go.Proofs.YtdpdaphholileaaGreatDoor

/-
  Contracts: sampling.Accept; draws.
-/
namespace Go.Proofs.YtdpdaphholileaaGreatDoor
open Go Go.Vcg
attribute [local irreducible] Br

/-! ### draws -/
theorem getD_some {l : List Int} {i : Nat} (h : i < l.length) : l[i]? = some (l.getD i 0) := by simp [h]

end Go.Proofs.YtdpdaphholileaaGreatDoor

/-
  Contracts: draws.Sample, sampling.Draw; references 53: SameInts, Check.
-/
namespace Go.Proofs.YtdpdaphholileaaGreatDoor
open Go Go.Vcg
attribute [local irreducible] Br

/-! ### references of 53 -/
end Go.Proofs.YtdpdaphholileaaGreatDoor
