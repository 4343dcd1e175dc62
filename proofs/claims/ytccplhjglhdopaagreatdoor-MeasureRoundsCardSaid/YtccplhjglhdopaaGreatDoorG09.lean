/-
  Gathered texts of this proof: Me6, Pl4, Cn17, Me7, Pl5, Pl6, Fu1, Fu2, Me8, Rf5, Me9, Ml1, Ml2.
-/
import Derived.Test.YtccplhjglhdopaaGreatDoorG08
import Derived.Laws.Strings
import Derived.Lib.TrimByte
import Derived.Test.YtccplhjglhdopaaGreatDoorG07
import Derived.Lib.ItoaMem
import Derived.Lib.AppendIntMem
import Derived.Lib.LaidTab

/-
  Contracts: measure: decimal, unit, number.
-/
namespace Go.Proofs.YtccplhjglhdopaaGreatDoor
open Go Go.Vcg
attribute [local irreducible] Br

theorem bytes_toList (l : List UInt8) : (⟨l.toArray⟩ : ByteArray).toList = l := by
  rw [ByteArray.toList_eq]

def unitV (l : List UInt8) : Option Nat := if l = [109, 109] then some 100 else if l = [99, 109] then some 1000 else if l = [109] then some 100000 else if l = [105, 110] then some 2540 else none

theorem rat_one (x : Nat) : ((x : Int) : Rat) / ((1 : Int) : Rat) = (x : Rat) := by
  rw [Rat.intCast_natCast]
  grind

theorem rofN_c (x : Nat) (hx : x < 1000000000000) (h : Heap) : CallsU Tryz.prog 22 [.int .i64 (x : Int), .int .i64 1] h fun r h' => RatR (some (x : Rat)) r h' ∧ Le h h' := by
  refine (rof_c (x : Int) 1 (by omega) (by omega) (by omega) (by omega) (by omega) h).mono ?_
  rintro _ h3 ⟨s', A', n', c', B', m', d', rfl, hN, hn, hm, hl⟩
  refine ⟨⟨_, _, _, _, _, _, _, rfl, fun q e => ?_⟩, hl⟩
  cases e
  rw [rat_one] at hN
  exact ⟨hN, by omega, by omega⟩

theorem unit_c (l : List UInt8) (h : Heap) : CallsU Tryz.prog 33 [sv l] h fun r h' => RatR (Option.map (fun n : Nat => (n : Rat)) (unitV l)) r h' ∧ Le h h' := by
  apply measure_unit_ok
  have e1 : (⟨#[109, 109]⟩ : ByteArray).toList = [109, 109] := bytes_toList [109, 109]
  have e2 : (⟨#[99, 109]⟩ : ByteArray).toList = [99, 109] := bytes_toList [99, 109]
  have e3 : (⟨#[109]⟩ : ByteArray).toList = [109] := bytes_toList [109]
  have e4 : (⟨#[105, 110]⟩ : ByteArray).toList = [105, 110] := bytes_toList [105, 110]
  have fin : ∀ x : Nat, x < 1000000000000 → unitV l = some x → CallsU Tryz.prog 22 [.int .i64 (x : Int), .int .i64 1] h fun v h_1 => ∃ t7_0_0 : Bool, ∃ t7_0_1A : Option Addr, ∃ t7_0_1n t7_0_1c : Nat, ∃ t7_0_2A : Option Addr, ∃ t7_0_2n t7_0_2c : Nat, ∃ t7_1 : Bool, v = Value.tuple #[Value.agg #[Value.bool t7_0_0, Value.slice t7_0_1A t7_0_1n t7_0_1c, Value.slice t7_0_2A t7_0_2n t7_0_2c], Value.bool t7_1] ∧
      RatR (Option.map (fun n : Nat => (n : Rat)) (unitV l)) (Value.tuple #[Value.agg #[Value.bool t7_0_0, Value.slice t7_0_1A t7_0_1n t7_0_1c, Value.slice t7_0_2A t7_0_2n t7_0_2c], Value.bool t7_1]) h_1 ∧ Le h h_1 := fun x hx hu => by
    refine (rofN_c x hx h).mono ?_
    rintro _ h1 ⟨⟨s, A, n, c, B, m, d, rfl, hq⟩, hl⟩
    refine ⟨_, _, _, _, _, _, _, _, rfl, ?_, hl⟩
    rw [hu]
    exact ⟨_, _, _, _, _, _, _, rfl, hq⟩
  unfold measure_unit_vc
  rw [bytes_toList, e1, e2, e3, e4]
  refine Br.mk (fun q => fin 100 (by omega) ?_) (fun q => Br.mk (fun q2 => fin 1000 (by omega) ?_) (fun q2 => Br.mk (fun q3 => fin 100000 (by omega) ?_) (fun q3 => Br.mk (fun q4 => fin 2540 (by omega) ?_) (fun q4 => ?_))))
  · unfold unitV; rw [if_pos (beq_iff_eq.1 q)]
  · unfold unitV; rw [if_neg (beq_eq_false_iff_ne.1 q), if_pos (beq_iff_eq.1 q2)]
  · unfold unitV; rw [if_neg (beq_eq_false_iff_ne.1 q), if_neg (beq_eq_false_iff_ne.1 q2), if_pos (beq_iff_eq.1 q3)]
  · unfold unitV; rw [if_neg (beq_eq_false_iff_ne.1 q), if_neg (beq_eq_false_iff_ne.1 q2), if_neg (beq_eq_false_iff_ne.1 q3), if_pos (beq_iff_eq.1 q4)]
  · have : unitV l = none := by unfold unitV; rw [if_neg (beq_eq_false_iff_ne.1 q), if_neg (beq_eq_false_iff_ne.1 q2), if_neg (beq_eq_false_iff_ne.1 q3), if_neg (beq_eq_false_iff_ne.1 q4)]
    rw [this]
    exact ⟨RatR.none _, Le.refl _⟩

def decV (a b : List UInt8) : Option Rat :=
  match wholeV a with
  | some n => if b.length ≤ 4 then some (((n * 10 ^ b.length + dgV b : Nat) : Rat) / ((10 ^ b.length : Nat) : Rat)) else none
  | none => none

theorem dec_step {V : Nat} {c : UInt8} (hV : V < 1000000000000) (h1 : 48 ≤ c.toNat) (h2 : c.toNat ≤ 57) :
    IntKind.i64.wrap (IntKind.i64.wrap (10 * (V : Int)) + IntKind.i64.wrap (IntKind.u8.wrap ((c.toNat : Int) - 48))) = ((V * 10 + (c.toNat - 48) : Nat) : Int) := by
  have e1 : IntKind.u8.wrap ((c.toNat : Int) - 48) = ((c.toNat - 48 : Nat) : Int) := by rw [IntKind.wrap_u8]; omega
  have e2 : IntKind.i64.wrap (10 * (V : Int)) = ((10 * V : Nat) : Int) := wi (by omega) (by omega)
  rw [e1, wi (n := c.toNat - 48) rfl (by omega), e2]
  exact wi (n := V * 10 + (c.toNat - 48)) (by omega) (by omega)

theorem decimal_c {a b : List UInt8} (ha : Dgs a) (hb : Dgs b) (h : Heap) :
    CallsU Tryz.prog 78 [sv a, sv b] h fun r h' => RatR (decV a b) r h' ∧ Le h h' := by
  apply measure_decimal_ok
  refine (mwhole_c ha h).mono ?_
  rintro _ _ ⟨rfl, rfl⟩
  refine ⟨_, _, rfl, fun t h' => h = h' ∧ (t = true → decV a b = none) ∧ (t = false → ∃ n, wholeV a = some n ∧ b.length ≤ 4), ?_, ?_⟩
  · rintro t _ ⟨rfl, h1, h2⟩
    refine Br.mk (fun q => ?_) (fun q => ?_)
    · rw [h1 q]
      exact ⟨RatR.none _, Le.refl _⟩
    · obtain ⟨x, ex, hl⟩ := h2 q
      have hx := wholeV_lt ha ex
      rw [ex]
      simp only [Option.getD_some]
      have hp : ∀ k, k ≤ 4 → (10 : Nat) ^ k ≤ 10000 := fun k hk => Nat.le_trans (Nat.pow_le_pow_right (by decide) hk) (by decide)
      have hp1 : ∀ k, 1 ≤ (10 : Nat) ^ k := fun k => Nat.pow_pos (by decide)
      refine ⟨fun m n den t h' => ∃ k, k ≤ b.length ∧ m = b.length - k ∧ t = (k : Int) ∧ n = ((x * 10 ^ k + dgV (b.take k) : Nat) : Int) ∧ den = ((10 ^ k : Nat) : Int) ∧ h = h', ⟨b.length, 0, by omega, by omega, rfl, by simp [dgV], by simp, rfl⟩, ?_⟩
      rintro m n den t h' ⟨k, hk, rfl, rfl, rfl, rfl, rfl⟩
      have hv : dgV (b.take k) < 10 ^ k := by
        have := dgV_lt (b.take k) (fun y hy => hb.2 y (List.mem_of_mem_take hy))
        rwa [List.length_take, Nat.min_eq_left hk] at this
      have hpk := hp k (by omega)
      have hxp : x * 10 ^ k ≤ x * 10000 := Nat.mul_le_mul_left _ hpk
      have hxx : x * 10000 < 100000000000 := by omega
      rw [ba_size]
      refine Br.mk (fun q2 => ?_) (fun q2 => ?_)
      · have hlt : k < b.length := by have := of_decide_eq_true q2; omega
        obtain ⟨c, hc⟩ : ∃ c, b[k]? = some c := ⟨_, List.getElem?_eq_getElem hlt⟩
        have hd := isDg_iff.1 (hb.2 c (List.mem_of_getElem? hc))
        rintro _ rfl
        refine ⟨c, by omega, by rw [Int.toNat_natCast, ba_get]; exact hc, ?_⟩
        rintro _ rfl _ rfl _ rfl _ rfl
        have et : b.take (k + 1) = b.take k ++ [c] := by rw [List.take_add_one, hc]; rfl
        have ed : dgV (b.take (k + 1)) = dgV (b.take k) * 10 + (c.toNat - 48) := by
          rw [et, dgV_append]
          simp [dgV]
        have hs : (10 : Nat) ^ (k + 1) = 10 ^ k * 10 := Nat.pow_succ _ _
        refine ⟨b.length - (k + 1), by omega, k + 1, by omega, rfl, ?_, ?_, ?_, rfl⟩
        · exact wi (n := k + 1) (by omega) (by omega)
        · rw [ed, hs, dec_step (V := x * 10 ^ k + dgV (b.take k)) (by omega) hd.1 hd.2]
          congr 1
          rw [← Nat.mul_assoc, Nat.add_mul, Nat.add_assoc]
        · rw [hs]
          exact wi (n := 10 ^ k * 10) (by rw [Int.natCast_mul]; rfl) (by omega)
      · have ek : k = b.length := by have := of_decide_eq_false q2; omega
        subst ek
        rw [List.take_length] at *
        refine (rof_c _ _ (by omega) (by omega) (by omega) (by omega) (by have := hp1 b.length; omega) h).mono ?_
        rintro _ h3 ⟨s', A', n', c', B', m', d', rfl, hN, hn, hm, hl'⟩
        have ev : decV a b = some (((x * 10 ^ b.length + dgV b : Nat) : Rat) / ((10 ^ b.length : Nat) : Rat)) := by
          unfold decV
          rw [ex]
          simp only
          rw [if_pos hl]
        rw [ev]
        refine ⟨_, _, _, _, _, _, _, _, rfl, ⟨_, _, _, _, _, _, _, rfl, fun q e => ?_⟩, hl'⟩
        cases e
        rw [Rat.intCast_natCast, Rat.intCast_natCast] at hN
        exact ⟨hN, by omega, by omega⟩
  · cases ea : wholeV a with
    | none => exact Br.mk (fun _ => ⟨rfl, fun _ => by unfold decV; rw [ea], fun q => by cases q⟩) (fun q => by cases q)
    | some x =>
      refine Br.mk (fun q => by cases q) (fun _ => ⟨rfl, fun q => ?_, fun q => ⟨x, rfl, ?_⟩⟩)
      · have := of_decide_eq_true q
        rw [ba_size] at this
        unfold decV
        rw [ea]
        simp only
        rw [if_neg (by omega)]
      · have := of_decide_eq_false q
        rw [ba_size] at this
        omega
end Go.Proofs.YtccplhjglhdopaaGreatDoor

/-
  Plain laws: the texts of measures and what they denote.
-/
namespace Go.Proofs.YtccplhjglhdopaaGreatDoor
open Go Go.Vcg

/-! ### the value of a text -/
/-- The value of a form with its runs. -/
def numV (f : List UInt8) (rs : List (List UInt8)) : Option Rat :=
  if f = [48] then Option.map (fun n : Nat => (n : Rat)) (wholeV (rs.getD 0 []))
  else if f = [48, 46, 48] then decV (rs.getD 0 []) (rs.getD 1 [])
  else if f = [48, 47, 48] then fracV (rs.getD 0 []) (rs.getD 1 [])
  else if f = [48, 32, 48, 47, 48] then
    match wholeV (rs.getD 0 []), fracV (rs.getD 1 []) (rs.getD 2 []) with
    | some n, some q => some ((n : Rat) + q)
    | _, _ => none
  else none

/-- Where the number ends in a form. -/
def cutAt (f : List UInt8) : Nat := (Lib.lastIndexByte ⟨f.toArray⟩ 48 + 1).toNat

def sgn (m : Bool) (q : Rat) : Rat := if m then -q else q

def mParse (t : Sc) : Option Rat :=
  match numV ((Lib.trimPrefix t.form [45]).take (cutAt (Lib.trimPrefix t.form [45]))) t.runs, unitV ((Lib.trimPrefix t.form [45]).drop (cutAt (Lib.trimPrefix t.form [45]))) with
  | some v, some u => some (sgn (Lib.hasPrefix t.form [45]) (v * (u : Rat)))
  | _, _ => none

def parseV (l : List UInt8) : Option Rat := if l.all fun x => decide (x.toNat < 128) then mParse (scanL l) else none

/-- The numbers of a measure. -/
inductive Num : List UInt8 → Rat → Prop
  | whole {a : List UInt8} {n : Nat} : Dgs a → wholeV a = some n → Num a (n : Rat)
  | dec {a b : List UInt8} {q : Rat} : Dgs a → Dgs b → decV a b = some q → Num (a ++ 46 :: b) q
  | frac {a b : List UInt8} {q : Rat} : Dgs a → Dgs b → fracV a b = some q → Num (a ++ 47 :: b) q
  | mixed {a b c : List UInt8} {n : Nat} {q : Rat} : Dgs a → Dgs b → Dgs c → wholeV a = some n → fracV b c = some q → Num (a ++ 32 :: (b ++ 47 :: c)) ((n : Rat) + q)

def sgL (m : Bool) : List UInt8 := if m then [45] else []

/-- A text and the measure that it denotes. -/
def IsM (l : List UInt8) (q : Rat) : Prop := ∃ (m : Bool) (body u : List UInt8) (n : Nat) (v : Rat), l = sgL m ++ (body ++ u) ∧ unitV u = some n ∧ Num body v ∧ q = sgn m (v * (n : Rat))

theorem unitV_some {u : List UInt8} {n : Nat} (h : unitV u = some n) : (u = [109, 109] ∧ n = 100) ∨ (u = [99, 109] ∧ n = 1000) ∨ (u = [109] ∧ n = 100000) ∨ (u = [105, 110] ∧ n = 2540) := by
  unfold unitV at h
  split at h
  · rename_i e; cases h; exact Or.inl ⟨e, rfl⟩
  · split at h
    · rename_i e; cases h; exact Or.inr (Or.inl ⟨e, rfl⟩)
    · split at h
      · rename_i e; cases h; exact Or.inr (Or.inr (Or.inl ⟨e, rfl⟩))
      · split at h
        · rename_i e; cases h; exact Or.inr (Or.inr (Or.inr ⟨e, rfl⟩))
        · cases h

theorem unitV_nd {u : List UInt8} {n : Nat} (h : unitV u = some n) : u ≠ [] ∧ (∀ x ∈ u, isDg x = false) ∧ (∀ x ∈ u, x.toNat < 128) := by
  rcases unitV_some h with ⟨rfl, _⟩ | ⟨rfl, _⟩ | ⟨rfl, _⟩ | ⟨rfl, _⟩ <;> decide

theorem nd_48 {u : List UInt8} (h : ∀ x ∈ u, isDg x = false) : ∀ x ∈ u, x ≠ 48 := fun x hx e => by
  have := h x hx
  subst e
  revert this; decide

theorem addLast_snoc (rs : List (List UInt8)) (r : List UInt8) (x : UInt8) : addLast (rs ++ [r]) x = rs ++ [r ++ [x]] := by
  unfold addLast
  simp

theorem fold_dg1 : ∀ (a : List UInt8), (∀ y ∈ a, isDg y = true) → ∀ f rs r, a.foldl Sc.step ⟨f, rs ++ [r], true⟩ = ⟨f, rs ++ [r ++ a], true⟩
  | [], _, f, rs, r => by simp
  | x :: a, h, f, rs, r => by
    rw [List.foldl_cons]
    have e : Sc.step ⟨f, rs ++ [r], true⟩ x = ⟨f, rs ++ [r ++ [x]], true⟩ := by
      unfold Sc.step
      rw [if_pos (h x (by simp))]
      simp [addLast_snoc]
    rw [e, fold_dg1 a (fun y hy => h y (by simp [hy]))]
    simp

theorem fold_dg {a : List UInt8} (h : Dgs a) (f : List UInt8) (rs : List (List UInt8)) : a.foldl Sc.step ⟨f, rs, false⟩ = ⟨f ++ [48], rs ++ [a], true⟩ := by
  obtain ⟨x, r, rfl⟩ := List.exists_cons_of_ne_nil h.1
  rw [List.foldl_cons]
  have e : Sc.step ⟨f, rs, false⟩ x = ⟨f ++ [48], rs ++ [[x]], true⟩ := by
    unfold Sc.step
    rw [if_pos (h.2 x (by simp))]
    simp
  rw [e, fold_dg1 r (fun y hy => h.2 y (by simp [hy]))]
  simp

theorem step_nd {x : UInt8} (h : isDg x = false) (f : List UInt8) (rs : List (List UInt8)) (b : Bool) : Sc.step ⟨f, rs, b⟩ x = ⟨f ++ [x], rs, false⟩ := by
  unfold Sc.step
  rw [if_neg (by rw [h]; decide)]

theorem fold_nd : ∀ {u : List UInt8}, u ≠ [] → (∀ x ∈ u, isDg x = false) → ∀ f rs b, u.foldl Sc.step ⟨f, rs, b⟩ = ⟨f ++ u, rs, false⟩
  | [], h, _, _, _, _ => absurd rfl h
  | [x], _, h, f, rs, b => by simp [step_nd (h x (by simp))]
  | x :: y :: u, _, h, f, rs, b => by
    rw [List.foldl_cons, step_nd (h x (by simp)), fold_nd (by simp) (fun z hz => h z (by simp [hz]))]
    simp

theorem cutAt_eq {G u : List UInt8} (hu : ∀ x ∈ u, x ≠ 48) : cutAt (G ++ [48] ++ u) = G.length + 1 := by
  unfold cutAt
  have hget : ∀ j : Nat, ((⟨(G ++ [48] ++ u).toArray⟩ : ByteArray).data[j]!) = (G ++ [48] ++ u)[j]! := fun j => by simp
  have h48 : (G ++ [48] ++ u)[G.length]! = 48 := by simp
  have hup : ∀ j, G.length < j → j < (G ++ [48] ++ u).length → (G ++ [48] ++ u)[j]! ≠ 48 := fun j h1 h2 => by
    have e : (G ++ [48] ++ u)[j]? = u[j - (G.length + 1)]? := by
      rw [List.getElem?_append_right (by simp; omega)]
      simp
    rw [List.getElem!_eq_getElem?_getD, e]
    have h3 : j - (G.length + 1) < u.length := by simp at h2; omega
    rw [List.getElem?_eq_getElem h3]
    exact hu _ (List.getElem_mem h3)
  rcases Lib.lastIndexByte_spec ⟨(G ++ [48] ++ u).toArray⟩ 48 with ⟨_, hn⟩ | ⟨i, hi, e, hc, hn⟩
  · have := hn G.length (by rw [ba_size]; simp)
    rw [hget, h48] at this
    exact absurd rfl this
  · rw [e]
    rw [ba_size] at hi hn
    rw [hget] at hc
    have : i = G.length := by
      rcases Nat.lt_trichotomy i G.length with q | q | q
      · have := hn G.length q (by simp)
        rw [hget, h48] at this
        exact absurd rfl this
      · exact q
      · refine absurd (UInt8.toNat_inj.1 ?_) (hup i q hi)
        show _ = 48
        omega
    omega

theorem mParse_shape {m : Bool} {G u : List UInt8} {rs : List (List UInt8)} {n : Nat} {v : Rat} (hG : (G ++ [48]).head? = some 48) (hu : unitV u = some n) (hv : numV (G ++ [48]) rs = some v) (b : Bool) :
    mParse ⟨sgL m ++ (G ++ [48] ++ u), rs, b⟩ = some (sgn m (v * (n : Rat))) := by
  have h1 : Lib.hasPrefix (sgL m ++ (G ++ [48] ++ u)) [45] = m := by
    cases m
    · obtain ⟨r, hr⟩ : ∃ r, G ++ [48] = 48 :: r := by
        cases hh : G ++ [48] with
        | nil => rw [hh] at hG; cases hG
        | cons x r => rw [hh] at hG; simp at hG; subst hG; exact ⟨r, rfl⟩
      rw [hr]
      rfl
    · simp [sgL, Lib.hasPrefix]
  have h2 : Lib.trimPrefix (sgL m ++ (G ++ [48] ++ u)) [45] = G ++ [48] ++ u := by
    unfold Lib.trimPrefix
    rw [h1]
    cases m <;> rfl
  unfold mParse
  simp only
  rw [h1, h2, cutAt_eq (nd_48 (unitV_nd hu).2.1)]
  have e1 : (G ++ [48] ++ u).take (G.length + 1) = G ++ [48] := by
    rw [List.take_append_of_le_length (by simp)]
    exact List.take_of_length_le (by simp)
  have e2 : (G ++ [48] ++ u).drop (G.length + 1) = u := by
    rw [List.drop_append_of_le_length (by simp)]
    simp
  rw [e1, e2, hv, hu]

theorem fold_sgL (m : Bool) : (sgL m).foldl Sc.step ⟨[], [], false⟩ = ⟨sgL m, [], false⟩ := by cases m <;> rfl

theorem Dgs.low {a : List UInt8} (h : Dgs a) : ∀ x ∈ a, x.toNat < 128 := fun x hx => by have := isDg_iff.1 (h.2 x hx); omega

theorem Num.low {b : List UInt8} {v : Rat} (h : Num b v) : ∀ x ∈ b, x.toNat < 128 := by
  have l46 : (46 : UInt8).toNat < 128 := by decide
  have l47 : (47 : UInt8).toNat < 128 := by decide
  have l32 : (32 : UInt8).toNat < 128 := by decide
  cases h with
  | whole ha _ => exact ha.low
  | dec ha hb _ =>
    intro x hx
    rcases List.mem_append.1 hx with q | q
    · exact ha.low x q
    · rcases List.mem_cons.1 q with rfl | q
      · exact l46
      · exact hb.low x q
  | frac ha hb _ =>
    intro x hx
    rcases List.mem_append.1 hx with q | q
    · exact ha.low x q
    · rcases List.mem_cons.1 q with rfl | q
      · exact l47
      · exact hb.low x q
  | mixed ha hb hc _ _ =>
    intro x hx
    rcases List.mem_append.1 hx with q | q
    · exact ha.low x q
    · rcases List.mem_cons.1 q with rfl | q
      · exact l32
      · rcases List.mem_append.1 q with q | q
        · exact hb.low x q
        · rcases List.mem_cons.1 q with rfl | q
          · exact l47
          · exact hc.low x q

theorem IsM.parse {l : List UInt8} {q : Rat} (h : IsM l q) : parseV l = some q := by
  obtain ⟨m, body, u, n, v, rfl, hu, hb, rfl⟩ := h
  obtain ⟨u1, u2, u3⟩ := unitV_nd hu
  have hlow : ((sgL m ++ (body ++ u)).all fun x => decide (x.toNat < 128)) = true := by
    rw [List.all_eq_true]
    intro x hx
    rw [decide_eq_true_iff]
    rcases List.mem_append.1 hx with q | q
    · cases m
      · simp [sgL] at q
      · simp [sgL] at q; subst q; decide
    · rcases List.mem_append.1 q with q | q
      · exact hb.low x q
      · exact u3 x q
  unfold parseV
  rw [if_pos hlow]
  have hs : scanL (sgL m ++ (body ++ u)) = u.foldl Sc.step (body.foldl Sc.step ⟨sgL m, [], false⟩) := by
    unfold scanL
    rw [List.foldl_append, fold_sgL, List.foldl_append]
  rw [hs]
  have d46 : isDg 46 = false := by decide
  have d47 : isDg 47 = false := by decide
  have d32 : isDg 32 = false := by decide
  cases hb with
  | whole ha e =>
    rw [fold_dg ha, fold_nd u1 u2, List.append_assoc]
    exact mParse_shape (G := []) rfl hu (by rw [numV, if_pos (by decide)]; simp [e]) _
  | dec ha hb e =>
    rw [List.foldl_append, fold_dg ha, List.foldl_cons, step_nd d46, fold_dg hb, fold_nd u1 u2]
    have := mParse_shape (m := m) (G := [48, 46]) (u := u) rfl hu (rs := [] ++ [_] ++ [_]) (by rw [numV, if_neg (by decide), if_pos (by decide)]; exact e) false
    simpa using this
  | frac ha hb e =>
    rw [List.foldl_append, fold_dg ha, List.foldl_cons, step_nd d47, fold_dg hb, fold_nd u1 u2]
    have := mParse_shape (m := m) (G := [48, 47]) (u := u) rfl hu (rs := [] ++ [_] ++ [_]) (by rw [numV, if_neg (by decide), if_neg (by decide), if_pos (by decide)]; exact e) false
    simpa using this
  | mixed ha hb hc e1 e2 =>
    rw [List.foldl_append, fold_dg ha, List.foldl_cons, step_nd d32, List.foldl_append, fold_dg hb, List.foldl_cons, step_nd d47, fold_dg hc, fold_nd u1 u2]
    have := mParse_shape (m := m) (G := [48, 32, 48, 47]) (u := u) rfl hu (rs := [] ++ [_] ++ [_] ++ [_]) (by
      rw [numV, if_neg (by decide), if_neg (by decide), if_neg (by decide), if_pos (by decide)]
      simp only [List.nil_append, List.cons_append, List.getD_cons_zero, List.getD_cons_succ]
      rw [e1, e2]) false
    simpa using this

/-! ### back from the form to the text -/
def fill : List UInt8 → List (List UInt8) → List UInt8
  | [], _ => []
  | x :: f, rs => if x = 48 then rs.headD [] ++ fill f rs.tail else x :: fill f rs

theorem fill_append : ∀ (f : List UInt8) (rs : List (List UInt8)) (g : List UInt8) (ss : List (List UInt8)), f.count 48 = rs.length → fill (f ++ g) (rs ++ ss) = fill f rs ++ fill g ss
  | [], [], g, ss, _ => rfl
  | [], r :: rs, g, ss, h => by simp at h
  | x :: f, rs, g, ss, h => by
    by_cases e : x = 48
    · subst e
      cases rs with
      | nil => simp at h
      | cons r rs =>
        simp only [List.count_cons_self, List.length_cons, Nat.add_right_cancel_iff] at h
        simp [fill, fill_append f rs g ss h]
    · rw [List.count_cons_of_ne e] at h
      simp [fill, e, fill_append f rs g ss h]

theorem fill_nd : ∀ (u : List UInt8), (∀ x ∈ u, x ≠ 48) → ∀ ss, fill u ss = u
  | [], _, _ => rfl
  | x :: u, h, ss => by
    simp [fill, h x (by simp), fill_nd u (fun y hy => h y (by simp [hy]))]

structure ScOk (t : Sc) (p : List UInt8) : Prop where
  cnt : t.form.count 48 = t.runs.length
  fil : fill t.form t.runs = p
  last : t.inRun = true → ∃ f rs r, t.form = f ++ [48] ∧ t.runs = rs ++ [r] ∧ f.count 48 = rs.length
  dgs : ∀ r ∈ t.runs, Dgs r

theorem ScOk.step {t : Sc} {p : List UInt8} (h : ScOk t p) (x : UInt8) : ScOk (t.step x) (p ++ [x]) := by
  obtain ⟨f, rs, b⟩ := t
  obtain ⟨h1, h2, h3, h4⟩ := h
  simp only at h1 h2 h3 h4
  cases hd : isDg x with
  | false =>
    rw [step_nd hd]
    have hx : x ≠ 48 := nd_48 (u := [x]) (by simpa using hd) x (by simp)
    refine ⟨?_, ?_, (fun q => by cases q), h4⟩
    · simp only [List.count_append]
      rw [List.count_eq_zero_of_not_mem (l := [x]) (by simpa using fun e => hx e.symm)]
      simpa using h1
    · have := fill_append f rs [x] [] h1
      simp only [List.append_nil] at this
      show fill (f ++ [x]) rs = _
      rw [this, h2, fill_nd [x] (by simpa using hx)]
  | true =>
    cases b with
    | true =>
      obtain ⟨f0, rs0, r, e1, e2, e3⟩ := h3 rfl
      subst e1 e2
      have e : Sc.step ⟨f0 ++ [48], rs0 ++ [r], true⟩ x = ⟨f0 ++ [48], rs0 ++ [r ++ [x]], true⟩ := by
        unfold Sc.step
        rw [if_pos hd]
        simp [addLast_snoc]
      rw [e]
      refine ⟨by simpa using h1, ?_, fun _ => ⟨f0, rs0, _, rfl, rfl, e3⟩, fun y hy => ?_⟩
      · show fill (f0 ++ [48]) (rs0 ++ [r ++ [x]]) = _
        rw [fill_append _ _ _ _ e3] at h2 ⊢
        rw [← h2]
        simp [fill]
      · rcases List.mem_append.1 hy with q | q
        · exact h4 y (by simp [q])
        · rw [List.mem_singleton.1 q]
          refine ⟨by simp, fun z hz => ?_⟩
          rcases List.mem_append.1 hz with q | q
          · exact (h4 r (by simp)).2 z q
          · rw [List.mem_singleton.1 q]; exact hd
    | false =>
      have e : Sc.step ⟨f, rs, false⟩ x = ⟨f ++ [48], rs ++ [[x]], true⟩ := by
        unfold Sc.step
        rw [if_pos hd]
        simp
      rw [e]
      refine ⟨by simp [h1], ?_, fun _ => ⟨f, rs, _, rfl, rfl, h1⟩, fun y hy => ?_⟩
      · show fill (f ++ [48]) (rs ++ [[x]]) = _
        rw [fill_append _ _ _ _ h1, h2]
        simp [fill]
      · rcases List.mem_append.1 hy with q | q
        · exact h4 y q
        · rw [List.mem_singleton.1 q]
          exact ⟨by simp, fun z hz => by rw [List.mem_singleton.1 hz]; exact hd⟩

theorem ScOk.fold : ∀ (l : List UInt8) {t : Sc} {p : List UInt8}, ScOk t p → ScOk (l.foldl Sc.step t) (p ++ l)
  | [], t, p, h => by simpa using h
  | x :: l, t, p, h => by
    have := ScOk.fold l (h.step x)
    simpa using this

theorem ScOk.scan (l : List UInt8) : ScOk (scanL l) l := by
  have : ScOk ⟨[], [], false⟩ [] := ⟨rfl, rfl, (fun q => by cases q), (fun _ h => by cases h)⟩
  exact ScOk.fold l this

theorem sgn_cut (f : List UInt8) : f = sgL (Lib.hasPrefix f [45]) ++ Lib.trimPrefix f [45] := by
  unfold Lib.trimPrefix
  cases e : Lib.hasPrefix f [45] with
  | false => simp [sgL]
  | true =>
    have : [45] <+: f := List.isPrefixOf_iff_prefix.1 e
    obtain ⟨r, rfl⟩ := this
    simp [sgL]

/-- What numV accepts. -/
theorem numV_some {F : List UInt8} {rs : List (List UInt8)} {v : Rat} (hv : numV F rs = some v) (hc : F.count 48 = rs.length) (hd : ∀ r ∈ rs, Dgs r) : Num (fill F rs) v := by
  have h0 : 0 < rs.length → Dgs (rs.getD 0 []) := fun h => hd _ (by rw [List.getD_eq_getElem?_getD, List.getElem?_eq_getElem h]; exact List.getElem_mem h)
  have h1 : 1 < rs.length → Dgs (rs.getD 1 []) := fun h => hd _ (by rw [List.getD_eq_getElem?_getD, List.getElem?_eq_getElem h]; exact List.getElem_mem h)
  have h2 : 2 < rs.length → Dgs (rs.getD 2 []) := fun h => hd _ (by rw [List.getD_eq_getElem?_getD, List.getElem?_eq_getElem h]; exact List.getElem_mem h)
  unfold numV at hv
  split at hv
  · rename_i e
    subst e
    match rs, hc with
    | [a], _ =>
      simp only [List.getD_cons_zero, Option.map_eq_some_iff] at hv
      obtain ⟨n, e, rfl⟩ := hv
      simpa [fill] using Num.whole (h0 (by simp)) e
  · split at hv
    · rename_i e
      subst e
      match rs, hc with
      | [a, b], _ => simpa [fill] using Num.dec (h0 (by simp)) (h1 (by simp)) hv
    · split at hv
      · rename_i e
        subst e
        match rs, hc with
        | [a, b], _ => simpa [fill] using Num.frac (h0 (by simp)) (h1 (by simp)) hv
      · split at hv
        · rename_i e
          subst e
          match rs, hc with
          | [a, b, c], _ =>
            simp only [List.getD_cons_zero, List.getD_cons_succ] at hv
            split at hv
            · rename_i n q e1 e2
              cases hv
              simpa [fill] using Num.mixed (h0 (by simp)) (h1 (by simp)) (h2 (by simp)) e1 e2
            · cases hv
        · cases hv

theorem parseV_isM {l : List UInt8} {q : Rat} (h : parseV l = some q) : IsM l q := by
  unfold parseV at h
  split at h
  · have ok := ScOk.scan l
    generalize scanL l = t at *
    unfold mParse at h
    split at h
    · rename_i v n e1 e2
      cases h
      obtain ⟨h1, h2, h3, h4⟩ := ok
      have ef := sgn_cut t.form
      generalize Lib.trimPrefix t.form [45] = f at *
      generalize Lib.hasPrefix t.form [45] = m at *
      generalize cutAt f = k at *
      have hf := List.take_append_drop k f
      generalize f.take k = F at *
      generalize f.drop k = u at *
      subst hf
      obtain ⟨u1, u2, u3⟩ := unitV_nd e2
      have hu := nd_48 u2
      have c1 : (sgL m).count 48 = 0 := by cases m <;> rfl
      have cu : u.count 48 = 0 := List.count_eq_zero_of_not_mem fun q => hu 48 q rfl
      have hc : F.count 48 = t.runs.length := by
        rw [← h1, ef, List.count_append, List.count_append, c1, cu]
        omega
      refine ⟨m, fill F t.runs, u, n, v, ?_, e2, numV_some e1 hc h4, rfl⟩
      rw [← h2]
      rw [ef]
      have a1 := fill_append (sgL m) [] (F ++ u) t.runs (by rw [c1]; rfl)
      have a2 := fill_append F t.runs u [] hc
      rw [List.append_nil] at a2
      rw [List.nil_append] at a1
      rw [fill_nd u hu] at a2
      rw [a1, a2]
      congr 1
      cases m <;> rfl
    · cases h
  · cases h

theorem parseV_iff {l : List UInt8} {q : Rat} : parseV l = some q ↔ IsM l q := ⟨parseV_isM, IsM.parse⟩
end Go.Proofs.YtccplhjglhdopaaGreatDoor

/-
  Contracts: integer.Neg, Small; ratio.Neg, Sub.
-/
namespace Go.Proofs.YtccplhjglhdopaaGreatDoor
open Go Go.Vcg
attribute [local irreducible] Br

theorem ineg_c {h : Heap} {s : Bool} {A : Option Addr} {n c : Nat} {z : Int} (u : IsI h s A n c z) (hn : n ≤ 1099511627776) :
    CallsU Tryz.prog 65 [.agg #[.bool s, .slice A n c]] h fun r h' => ∃ s' A' k c', r = .agg #[.bool s', .slice A' k c'] ∧ NmI h' s' A' k c' (-z) ∧ k ≤ n ∧ Le h h' := by
  apply integer_Neg_ok
  have hI : IsI h (!s) A n c (-z) := by
    obtain ⟨v, a, e⟩ := u
    exact ⟨v, a, by subst e; cases s <;> simp⟩
  refine (signed_c hI hn).mono ?_
  rintro _ _ ⟨s', A', k, c', rfl, r⟩
  exact ⟨_, _, _, _, rfl, _, _, _, _, rfl, r⟩

theorem rneg_c {h : Heap} {s : Bool} {A B : Option Addr} {n c m d : Nat} {q : Rat} (u : IsQ h s A n c B m d q) (hn : n ≤ 1099511627776) (hm : m ≤ 1099511627776) :
    CallsU Tryz.prog 21 [.agg #[.bool s, .slice A n c, .slice B m d]] h fun r h' => ∃ s' A' n' c' B' m' d', r = .agg #[.bool s', .slice A' n' c', .slice B' m' d'] ∧ NmQ h' s' A' n' c' B' m' d' (-q) ∧ n' ≤ n ∧ m' ≤ max m 2 ∧ Le h h' := by
  apply ratio_Neg_ok
  refine (rvalue_c u hm).mono ?_
  rintro _ h1 ⟨s1, A1, n1, c1, B1, m1, d1, rfl, ⟨z, v, hv, uz, uv, e⟩, hn1, hm1, hl1⟩
  refine ⟨_, _, _, _, _, _, _, rfl, (ineg_c uz (by omega)).mono ?_⟩
  rintro _ h2 ⟨s2, A2, k2, c2, rfl, hN2, hk2, hl2⟩
  refine ⟨_, _, _, _, rfl, hl2, (reduce_c hN2.is (uv.mono hl2) hv (by omega) (by omega)).mono ?_⟩
  rintro _ h3 ⟨s3, A3, n3, c3, B3, m3, d3, rfl, hN3, a3, b3, hl3⟩
  rw [← Rat.neg_mkRat, e] at hN3
  exact ⟨_, _, _, _, _, _, _, rfl, _, _, _, _, _, _, _, rfl, hN3, by omega, by omega, (hl1.trans hl2).trans hl3⟩

theorem rsub_c {h : Heap} {s s2 : Bool} {A B C D : Option Addr} {n c m d n2 c2 m2 d2 : Nat} {q p : Rat} (u : IsQ h s A n c B m d q) (w : IsQ h s2 C n2 c2 D m2 d2 p) (hn : n ≤ 134217728) (hm : m ≤ 134217728) (hn2 : n2 ≤ 134217728) (hm2 : m2 ≤ 134217728) :
    CallsU Tryz.prog 26 [.agg #[.bool s, .slice A n c, .slice B m d], .agg #[.bool s2, .slice C n2 c2, .slice D m2 d2]] h fun r h' => ∃ s' A' n' c' B' m' d', r = .agg #[.bool s', .slice A' n' c', .slice B' m' d'] ∧ NmQ h' s' A' n' c' B' m' d' (q - p) ∧ n' ≤ max (n + max m2 2) (n2 + max m 2) + 1 ∧ m' ≤ max m 2 + max m2 2 ∧ Le h h' := by
  apply ratio_Sub_ok
  refine (rneg_c w (by omega) (by omega)).mono ?_
  rintro _ h1 ⟨s1, A1, n1, c1, B1, m1, d1, rfl, hN1, a1, b1, hl1⟩
  refine ⟨_, _, _, _, _, _, _, rfl, hl1, (radd_b (u.mono hl1) hN1.is (by omega) (by omega) (by omega) (by omega)).mono ?_⟩
  rintro _ h2 ⟨s2, A2, n2, c2, B2, m2, d2, rfl, hN2, a2, b2, hl2⟩
  rw [← Rat.sub_eq_add_neg] at hN2
  exact ⟨_, _, _, _, _, _, _, rfl, _, _, _, _, _, _, _, rfl, hN2, by omega, by omega, hl1.trans hl2⟩

/-- Whether an integer is an int. -/
def fitsZ (z : Int) : Bool := decide (-9223372036854775808 ≤ z ∧ z < 9223372036854775808)

theorem val_lim {xs : List Nat} (h2 : xs.length ≤ 2) {k : Nat} (hk : k < xs.length) : k = 0 ∨ k = 1 := by omega

theorem small_c {h : Heap} {s : Bool} {A : Option Addr} {n c : Nat} {z : Int} (u : IsI h s A n c z) (hn : n ≤ 1099511627776) :
    CallsU Tryz.prog 56 [.agg #[.bool s, .slice A n c]] h fun r h' => r = .tuple #[.int .i64 (if fitsZ z then z else 0), .bool (fitsZ z)] ∧ Le h h' := by
  apply integer_Small_ok
  refine (inorm_c u hn).mono ?_
  rintro _ h1 ⟨s1, A1, k1, c1, rfl, ⟨hN, hs⟩, hk1, hl1⟩
  have hB : B32 = 4294967296 := rfl
  have hsz := NmN.sz hN
  refine ⟨_, _, _, _, rfl, Br.mk (fun q => ?_) (fun q => ?_)⟩
  · have q' := of_decide_eq_true q
    have hbig : ¬ z.natAbs < B32 ^ 2 := fun hlt => by have := NmN.len_le hN hlt; omega
    have hf : fitsZ z = false := decide_eq_false (by rw [hB] at hbig; omega)
    rw [hf]
    exact ⟨rfl, hl1⟩
  · have q' := of_decide_eq_false q
    have hz64 : z.natAbs < 18446744073709551616 := by
      have := hsz.mono (show k1 ≤ 2 by omega)
      unfold Sz at this
      rw [hB] at this
      omega
    obtain ⟨xs, a, ez, _⟩ := hN
    have la := a.len
    refine ⟨fun m nn t h' => ∃ k, k ≤ k1 ∧ m = k1 - k ∧ t = (k : Int) ∧ nn = ((val (xs.take k) : Nat) : Int) ∧ h1 = h', ⟨k1, 0, by omega, by omega, rfl, by simp [val], rfl⟩, ?_⟩
    rintro m _ _ _ ⟨k, hk, rfl, rfl, rfl, rfl⟩
    refine Br.mk (fun q2 => ?_) (fun q2 => ?_)
    · have hlt : k < k1 := by have := of_decide_eq_true q2; omega
      obtain ⟨ad, hA, hld⟩ := a.get (i := k) hlt
      simp only [Int.toNat_natCast]
      have hx := a.getD_lt k
      refine ⟨ad, hA, by omega, by omega, _, hld, ?_⟩
      rintro _ rfl
      have hk01 : k = 0 ∨ k = 1 := by omega
      refine Br.mk (fun q3 => ?_) (fun _ => ?_)
      · have := of_decide_eq_true q3
        rw [IntKind.wrap_i64] at this
        omega
      · rintro _ rfl _ rfl _ rfl
        refine ⟨k1 - (k + 1), by omega, k + 1, by omega, rfl, by rw [IntKind.wrap_i64]; omega, ?_, by first | rfl | trivial⟩
        rw [val_take_succ (by omega)]
        rcases hk01 with rfl | rfl
        · have e : IntKind.u64.wrap (IntKind.u64.wrap ((xs.getD 0 0 : Nat) : Int) * 2 ^ (min (Int.toNat (IntKind.i64.wrap (32 * ((0 : Nat) : Int)))) 64 : Nat)) = ((xs.getD 0 0 : Nat) : Int) := by
            rw [wu (n := xs.getD 0 0) rfl (by omega)]
            have : IntKind.i64.wrap (32 * ((0 : Nat) : Int)) = 0 := by rw [IntKind.wrap_i64]; omega
            rw [this]
            simp only [Int.toNat_zero, Nat.zero_min, Int.pow_zero, Int.mul_one]
            exact wu rfl (by omega)
          rw [e]
          have := or64 (x := ((0 : Nat) : Int)) (hi := 0) (lo := xs.getD 0 0) (by simp) rfl hx (by decide)
          simpa [val] using this
        · have e : IntKind.u64.wrap (IntKind.u64.wrap ((xs.getD 1 0 : Nat) : Int) * 2 ^ (min (Int.toNat (IntKind.i64.wrap (32 * ((1 : Nat) : Int)))) 64 : Nat)) = ((xs.getD 1 0 * B32 : Nat) : Int) := by
            rw [wu (n := xs.getD 1 0) rfl (by omega)]
            have : IntKind.i64.wrap (32 * ((1 : Nat) : Int)) = 32 := by rw [IntKind.wrap_i64]; omega
            rw [this]
            exact shlB rfl hx
          rw [e]
          have hv : val (xs.take 1) < B32 := by
            have := U32.val_lt (a.take (m := 1) (by omega))
            simpa using this
          have := or64_zero (x := ((val (xs.take 1) : Nat) : Int)) (hi := xs.getD 1 0) (lo := val (xs.take 1)) rfl rfl hv hx
          rw [this]
          congr 1
          rw [Nat.pow_one, Nat.mul_comm B32]
          omega
    · have hkk : k = k1 := by have := of_decide_eq_false q2; omega
      subst hkk
      rw [List.take_of_length_le (by omega)]
      have hv : val xs = z.natAbs := ez
      refine ⟨fun t h' => h1 = h' ∧ t = (s1 && decide ((val xs : Int) ≤ 9223372036854775808)), ?_, ?_⟩
      · rintro t _ ⟨rfl, et⟩
        rw [hv] at et ⊢
        refine Br.mk (fun q3 => ?_) (fun q3 => ?_)
        · rintro _ rfl
          subst q3
          rw [eq_comm, Bool.and_eq_true, decide_eq_true_eq, hs, decide_eq_true_eq] at et
          have hf : fitsZ z = true := decide_eq_true (by omega)
          rw [hf]
          refine ⟨?_, hl1⟩
          have e : IntKind.i64.wrap (IntKind.u64.wrap (0 - (z.natAbs : Int))) = z := by rw [IntKind.wrap_u64, IntKind.wrap_i64]; omega
          rw [e, if_pos rfl]
        · refine Br.mk (fun q4 => Br.mk (fun q5 => ?_) (fun q5 => ?_)) (fun q4 => ?_)
          · have q5' := of_decide_eq_true q5
            have hz : 0 ≤ z := by rw [hs] at q4; simp at q4; exact q4
            have hf : fitsZ z = true := decide_eq_true (by omega)
            rw [hf]
            refine ⟨?_, hl1⟩
            have e : IntKind.i64.wrap (z.natAbs : Int) = z := by rw [IntKind.wrap_i64]; omega
            rw [e, if_pos rfl]
          · have q5' := of_decide_eq_false q5
            have hz : 0 ≤ z := by rw [hs] at q4; simp at q4; exact q4
            have hf : fitsZ z = false := decide_eq_false (by omega)
            rw [hf]
            exact ⟨rfl, hl1⟩
          · have hz : z < 0 := by rw [hs] at q4; simp at q4; exact q4
            rw [q3, hs, decide_eq_true hz, Bool.true_and, eq_comm] at et
            have := of_decide_eq_false et
            have hf : fitsZ z = false := decide_eq_false (by omega)
            rw [hf]
            exact ⟨rfl, hl1⟩
      · refine Br.mk (fun q3 => ⟨rfl, by rw [q3, Bool.true_and]⟩) (fun q3 => ⟨rfl, by rw [q3, Bool.false_and]⟩)
end Go.Proofs.YtccplhjglhdopaaGreatDoor

/-
  Contracts: measure: number, Parse.
-/
namespace Go.Proofs.YtccplhjglhdopaaGreatDoor
open Go Go.Vcg
attribute [local irreducible] Br

/-- A ratio and whether it is one. -/
def RatN (o : Option Rat) (v : Value) (h' : Heap) : Prop :=
  ∃ s A n c B m d, v = .tuple #[.agg #[.bool s, .slice A n c, .slice B m d], .bool o.isSome] ∧ ∀ q, o = some q → NmQ h' s A n c B m d q ∧ n ≤ 32 ∧ m ≤ 32

theorem RatN.none (h' : Heap) : RatN none (.tuple #[.agg #[.bool false, .slice Option.none 0 0, .slice Option.none 0 0], .bool false]) h' := ⟨_, _, _, _, _, _, _, rfl, fun _ e => by cases e⟩

theorem number_c {h : Heap} {f : List UInt8} {rs : List (List UInt8)} {A : Option Addr} {n c : Nat} (u : Sl sv h A n c rs) (hd : ∀ r ∈ rs, Dgs r) (hc : f.count 48 ≤ rs.length) :
    CallsU Tryz.prog 32 [sv f, .slice A n c] h fun r h' => RatN (numV f rs) r h' ∧ Le h h' := by
  apply measure_number_ok
  have e1 : (⟨#[48]⟩ : ByteArray).toList = [48] := bytes_toList [48]
  have e2 : (⟨#[48, 46, 48]⟩ : ByteArray).toList = [48, 46, 48] := bytes_toList [48, 46, 48]
  have e3 : (⟨#[48, 47, 48]⟩ : ByteArray).toList = [48, 47, 48] := bytes_toList [48, 47, 48]
  have e4 : (⟨#[48, 32, 48, 47, 48]⟩ : ByteArray).toList = [48, 32, 48, 47, 48] := bytes_toList [48, 32, 48, 47, 48]
  have hlen := u.len
  have hget : ∀ i, i < rs.length → ∃ a, rs[i]? = some a ∧ Dgs a ∧ rs.getD i [] = a := fun i hi =>
    ⟨rs[i], List.getElem?_eq_getElem hi, hd _ (List.getElem_mem hi), by rw [List.getD_eq_getElem?_getD, List.getElem?_eq_getElem hi]; rfl⟩
  unfold measure_number_vc
  rw [bytes_toList, e1, e2, e3, e4]
  refine Br.mk (fun q => ?_) (fun q => Br.mk (fun q2 => ?_) (fun q2 => Br.mk (fun q3 => ?_) (fun q3 => Br.mk (fun q4 => ?_) (fun q4 => ?_))))
  · have ef := beq_iff_eq.1 q
    subst ef
    have h1 : 1 ≤ rs.length := hc
    obtain ⟨a, ha, da, ga⟩ := hget 0 (by omega)
    obtain ⟨ad, hA, hld⟩ := u.get ha
    refine ⟨ad, hA, by omega, by omega, _, hld, (mwhole_c da h).mono ?_⟩
    rintro _ _ ⟨rfl, rfl⟩
    refine ⟨_, _, rfl, ?_⟩
    rw [numV, if_pos rfl, ga]
    cases ea : wholeV a with
    | none => exact Br.mk (fun _ => ⟨RatN.none _, Le.refl _⟩) (fun q => by cases q)
    | some x =>
      have hx := wholeV_lt da ea
      refine Br.mk (fun q => by cases q) (fun _ => (rofN_c x (by omega) h).mono ?_)
      rintro _ h1 ⟨⟨s, A, n, c, B, m, d, rfl, hq⟩, hl⟩
      exact ⟨_, _, _, _, _, _, _, _, rfl, ⟨_, _, _, _, _, _, _, rfl, fun q e => let ⟨a, b, c⟩ := hq q e; ⟨a, by omega, by omega⟩⟩, hl⟩
  · have ef := beq_iff_eq.1 q2
    subst ef
    have h1 : 2 ≤ rs.length := hc
    obtain ⟨a, ha, da, ga⟩ := hget 0 (by omega)
    obtain ⟨b, hb, db, gb⟩ := hget 1 (by omega)
    obtain ⟨ad, hA, hld⟩ := u.get ha
    obtain ⟨ad2, hA2, hld2⟩ := u.get hb
    refine ⟨ad, hA, by omega, by omega, _, hld, ad2, hA2, by omega, by omega, _, hld2, (decimal_c da db h).mono ?_⟩
    rw [numV, if_neg (by decide), if_pos rfl, ga, gb]
    rintro _ h1 ⟨⟨s, A, n, c, B, m, d, rfl, hq⟩, hl⟩
    exact ⟨_, _, _, _, _, _, _, _, rfl, ⟨_, _, _, _, _, _, _, rfl, fun q e => let ⟨a, b, c⟩ := hq q e; ⟨a, by omega, by omega⟩⟩, hl⟩
  · have ef := beq_iff_eq.1 q3
    subst ef
    have h1 : 2 ≤ rs.length := hc
    obtain ⟨a, ha, da, ga⟩ := hget 0 (by omega)
    obtain ⟨b, hb, db, gb⟩ := hget 1 (by omega)
    obtain ⟨ad, hA, hld⟩ := u.get ha
    obtain ⟨ad2, hA2, hld2⟩ := u.get hb
    refine ⟨ad, hA, by omega, by omega, _, hld, ad2, hA2, by omega, by omega, _, hld2, (fraction_c da db h).mono ?_⟩
    rw [numV, if_neg (by decide), if_neg (by decide), if_pos rfl, ga, gb]
    rintro _ h1 ⟨⟨s, A, n, c, B, m, d, rfl, hq⟩, hl⟩
    exact ⟨_, _, _, _, _, _, _, _, rfl, ⟨_, _, _, _, _, _, _, rfl, fun q e => let ⟨a, b, c⟩ := hq q e; ⟨a, by omega, by omega⟩⟩, hl⟩
  · have ef := beq_iff_eq.1 q4
    subst ef
    have h1 : 3 ≤ rs.length := hc
    obtain ⟨a, ha, da, ga⟩ := hget 0 (by omega)
    obtain ⟨b, hb, db, gb⟩ := hget 1 (by omega)
    obtain ⟨t, ht, dt, gt⟩ := hget 2 (by omega)
    obtain ⟨ad, hA, hld⟩ := u.get ha
    obtain ⟨ad2, hA2, hld2⟩ := u.get hb
    obtain ⟨ad3, hA3, hld3⟩ := u.get ht
    rw [numV, if_neg (by decide), if_neg (by decide), if_neg (by decide), if_pos rfl, ga, gb, gt]
    refine ⟨ad, hA, by omega, by omega, _, hld, (mwhole_c da h).mono ?_⟩
    rintro _ _ ⟨rfl, rfl⟩
    refine ⟨_, _, rfl, ad2, hA2, by omega, by omega, _, hld2, ad3, hA3, by omega, by omega, _, hld3, (fraction_c db dt h).mono ?_⟩
    rintro _ h1 ⟨⟨s, A, n, c, B, m, d, rfl, hq⟩, hl⟩
    refine ⟨_, _, _, _, _, _, _, _, rfl, fun t' h' => h1 = h' ∧ t' = !((wholeV a).isSome && (fracV b t).isSome), ?_, ?_⟩
    · rintro t' _ ⟨rfl, et⟩
      cases ea : wholeV a with
      | none =>
        rw [ea] at et
        exact Br.mk (fun _ => ⟨RatN.none _, hl⟩) (fun q => by rw [q] at et; simp at et)
      | some x =>
        cases ev : fracV b t with
        | none =>
          rw [ea, ev] at et
          exact Br.mk (fun _ => ⟨RatN.none _, hl⟩) (fun q => by rw [q] at et; simp at et)
        | some y =>
          rw [ea, ev] at et
          have hx := wholeV_lt da ea
          obtain ⟨hN, b1, b2⟩ := hq y ev
          refine Br.mk (fun q => by rw [q] at et; simp at et) (fun _ => (rofN_c x (by omega) h1).mono ?_)
          rintro _ h2 ⟨⟨s2, A2, n2, c2, B2, m2, d2, rfl, hq2⟩, hl2⟩
          obtain ⟨hN2, b3, b4⟩ := hq2 _ rfl
          refine ⟨_, _, _, _, _, _, _, _, rfl, (radd_b hN2.is (hN.mono hl2).is (by omega) (by omega) (by omega) (by omega)).mono ?_⟩
          rintro _ h3 ⟨s3, A3, n3, c3, B3, m3, d3, rfl, hN3, b5, b6, hl3⟩
          refine ⟨_, _, _, _, _, _, _, rfl, ⟨_, _, _, _, _, _, _, rfl, fun q e => ?_⟩, (hl.trans hl2).trans hl3⟩
          cases e
          exact ⟨hN3, by omega, by omega⟩
    · cases wholeV a with
      | none => exact Br.mk (fun _ => ⟨rfl, rfl⟩) (fun q => by cases q)
      | some x => exact Br.mk (fun q => by cases q) (fun _ => ⟨rfl, by cases fracV b t <;> rfl⟩)
  · have ev : numV f rs = none := by rw [numV, if_neg (beq_eq_false_iff_ne.1 q), if_neg (beq_eq_false_iff_ne.1 q2), if_neg (beq_eq_false_iff_ne.1 q3), if_neg (beq_eq_false_iff_ne.1 q4)]
    rw [ev]
    exact ⟨RatN.none _, Le.refl _⟩

/-- A measure or the error of a text that is none. -/
def ParR (o : Option Rat) (v : Value) (h' : Heap) : Prop :=
  match o with
  | some q => ∃ s A n c B m d, v = .tuple #[.agg #[.bool s, .slice A n c, .slice B m d], .int .i64 0] ∧ NmQ h' s A n c B m d q ∧ n ≤ 64 ∧ m ≤ 64
  | none => v = .tuple #[.agg #[.bool false, .slice none 0 0, .slice none 0 0], .int .i64 2]

theorem numV_low {f : List UInt8} {rs : List (List UInt8)} {v : Rat} (h : numV f rs = some v) : ∀ x ∈ f, x.toNat < 128 := by
  unfold numV at h
  split at h
  · rename_i e; subst e; decide
  · split at h
    · rename_i e; subst e; decide
    · split at h
      · rename_i e; subst e; decide
      · split at h
        · rename_i e; subst e; decide
        · cases h

theorem mParse_low {t : Sc} {q : Rat} (h : mParse t = some q) : ∀ x ∈ t.form, x.toNat < 128 := by
  have ef := sgn_cut t.form
  unfold mParse at h
  split at h
  · rename_i v n e1 e2
    have h1 := numV_low e1
    have h2 := (unitV_nd e2).2.2
    intro x hx
    rw [ef] at hx
    rcases List.mem_append.1 hx with q | q
    · revert q
      cases Lib.hasPrefix t.form [45]
      · intro q; simp [sgL] at q
      · intro q; simp [sgL] at q; subst q; decide
    · rw [← List.take_append_drop (cutAt (Lib.trimPrefix t.form [45])) (Lib.trimPrefix t.form [45])] at q
      rcases List.mem_append.1 q with q | q
      · exact h1 x q
      · exact h2 x q
  · cases h

theorem mParse_eq {l : List UInt8} {t : Sc} (h : ScC l l.length t) : mParse t = parseV l := by
  obtain ⟨_, h2, h3, _⟩ := h
  rw [List.take_length] at h2 h3
  unfold parseV
  split
  · rename_i q
    rw [h2 (fun x hx => by simpa using List.all_eq_true.1 q x hx)]
  · rename_i q
    obtain ⟨y, hy, h128⟩ := h3 (fun hlow => q (List.all_eq_true.2 fun x hx => decide_eq_true (hlow x hx)))
    cases hm : mParse t with
    | none => rfl
    | some v => have := mParse_low hm y hy; omega

theorem lastIdx_range (f : List UInt8) : -1 ≤ Lib.lastIndexByte ⟨f.toArray⟩ 48 ∧ Lib.lastIndexByte ⟨f.toArray⟩ 48 < f.length := by
  rcases Lib.lastIndexByte_spec ⟨f.toArray⟩ 48 with ⟨e, _⟩ | ⟨i, hi, e, _⟩
  · rw [e]; omega
  · rw [ba_size] at hi
    rw [e]; omega

theorem ba_take (l : List UInt8) (k : Nat) : (⟨l.toArray⟩ : ByteArray).extract 0 k = ⟨(l.take k).toArray⟩ := by rw [Lib.extract_upto]
theorem ba_drop (l : List UInt8) (k : Nat) : (⟨l.toArray⟩ : ByteArray).extract k (⟨l.toArray⟩ : ByteArray).size = ⟨(l.drop k).toArray⟩ := by rw [Lib.extract_from]

theorem parse_c (l : List UInt8) (hl : l.length ≤ 24) (h : Heap) :
    CallsU Tryz.prog 12 [sv l] h fun r h' => ParR (parseV l) r h' ∧ Le h h' := by
  apply measure_Parse_ok
  unfold measure_Parse_vc
  rw [ba_size]
  refine Br.mk (fun q => by have := of_decide_eq_true q; omega) (fun _ => ?_)
  refine (scan_c l (by omega) h).mono ?_
  rintro _ h1 ⟨t, A, n, c, rfl, sc, sl, hl1⟩
  rw [← mParse_eq sc]
  obtain ⟨_, _, _, hcnt, _, hfl, _, _, hrd⟩ := sc
  refine ⟨_, _, _, _, rfl, (cutPrefix_c t.form [45] h1).mono ?_⟩
  rintro _ _ ⟨rfl, rfl⟩
  have hcut := sgn_cut t.form
  have hlenf : (Lib.trimPrefix t.form [45]).length ≤ 4 * l.length := by
    have := congrArg List.length hcut
    rw [List.length_append] at this
    omega
  have hcf : (Lib.trimPrefix t.form [45]).count 48 ≤ t.runs.length := by
    have := congrArg (List.count 48) hcut
    rw [List.count_append] at this
    omega
  unfold mParse
  generalize Lib.hasPrefix t.form [45] = mi
  generalize Lib.trimPrefix t.form [45] = f at *
  refine ⟨_, _, rfl, (lastByte_c f (by omega) 48 h1).mono ?_⟩
  rintro _ _ ⟨rfl, rfl⟩
  refine ⟨_, rfl, ?_⟩
  rintro _ rfl
  obtain ⟨r1, r2⟩ := lastIdx_range f
  have ew : IntKind.i64.wrap (Lib.lastIndexByte ⟨f.toArray⟩ 48 + 1) = ((cutAt f : Nat) : Int) := by
    rw [wrap_i64 (by omega) (by omega)]
    unfold cutAt
    omega
  have hcl : cutAt f ≤ f.length := by unfold cutAt; omega
  rw [ew, ba_size]
  simp only [Int.toNat_natCast]
  have hs1 := ba_take f (cutAt f)
  have hs2 := ba_drop f (cutAt f)
  rw [ba_size] at hs2
  rw [hs1, hs2]
  have hct : (f.take (cutAt f)).count 48 ≤ t.runs.length := Nat.le_trans (List.Sublist.count_le 48 (List.take_sublist _ _)) hcf
  refine ⟨by omega, by omega, (number_c sl hrd hct).mono ?_⟩
  rintro _ h4 ⟨⟨s, A4, n4, c4, B4, m4, d4, rfl, hq⟩, hl4⟩
  refine ⟨_, _, _, _, _, _, _, _, rfl, ?_⟩
  cases ev : numV (f.take (cutAt f)) t.runs with
  | none => exact Br.mk (fun _ => ⟨rfl, hl1.trans hl4⟩) (fun q => by cases q)
  | some v =>
    obtain ⟨hN, b1, b2⟩ := hq v ev
    refine Br.mk (fun q => by cases q) (fun _ => ⟨by omega, by omega, (unit_c (f.drop (cutAt f)) h4).mono ?_⟩)
    rintro _ h5 ⟨⟨s5, A5, n5, c5, B5, m5, d5, rfl, hq5⟩, hl5⟩
    refine ⟨_, _, _, _, _, _, _, _, rfl, ?_⟩
    cases eu : unitV (f.drop (cutAt f)) with
    | none => exact Br.mk (fun _ => ⟨rfl, (hl1.trans hl4).trans hl5⟩) (fun q => by cases q)
    | some x =>
      obtain ⟨hN5, b3, b4⟩ := hq5 (x : Rat) (by rw [eu]; rfl)
      refine Br.mk (fun q => by cases q) (fun _ => (rmul_c (hN.mono hl5).is hN5.is (by omega) (by omega) (by omega) (by omega)).mono ?_)
      rintro _ h6 ⟨s6, A6, n6, c6, B6, m6, d6, rfl, hN6, b5, b6, hl6⟩
      have hle := ((hl1.trans hl4).trans hl5).trans hl6
      refine ⟨_, _, _, _, _, _, _, rfl, Br.mk (fun q => ?_) (fun q => ?_)⟩
      · refine (rneg_c hN6.is (by omega) (by omega)).mono ?_
        rintro _ h7 ⟨s7, A7, n7, c7, B7, m7, d7, rfl, hN7, b7, b8, hl7⟩
        rw [q]
        exact ⟨_, _, _, _, _, _, _, rfl, ⟨_, _, _, _, _, _, _, rfl, hN7, by omega, by omega⟩, hle.trans hl7⟩
      · rw [q]
        exact ⟨⟨_, _, _, _, _, _, _, rfl, hN6, by omega, by omega⟩, hle⟩
end Go.Proofs.YtccplhjglhdopaaGreatDoor

/-
  Plain laws: decimals; the text of a number and what it denotes.
-/
namespace Go.Proofs.YtccplhjglhdopaaGreatDoor
open Go Go.Vcg

/-! ### decimals -/
theorem dg_ofNat {k : Nat} (h : k < 10) : isDg (UInt8.ofNat (48 + k)) = true ∧ (UInt8.ofNat (48 + k)).toNat = 48 + k := by
  have e : (UInt8.ofNat (48 + k)).toNat = 48 + k := by simp; omega
  exact ⟨isDg_iff.2 (by omega), e⟩

theorem dgV_snoc (l : List UInt8) (x : UInt8) : dgV (l ++ [x]) = dgV l * 10 + (x.toNat - 48) := by
  rw [dgV_append]
  simp [dgV]

theorem dec_ok (n : Nat) : Dgs (Lib.decDigits n) ∧ dgV (Lib.decDigits n) = n ∧ (0 < n → (Lib.decDigits n)[0]? ≠ some 48) := by
  induction n using Nat.strongRecOn with
  | _ n ih =>
    by_cases h : n < 10
    · rw [dec_lt h]
      obtain ⟨a, b⟩ := dg_ofNat h
      refine ⟨⟨by simp, fun y hy => by rw [List.mem_singleton.1 hy]; exact a⟩, ?_, fun h0 e => ?_⟩
      · simp [dgV]; omega
      · simp only [List.getElem?_cons_zero, Option.some.injEq] at e
        rw [e] at b
        have : (48 : UInt8).toNat = 48 := rfl
        omega
    · rw [dec_ge h]
      obtain ⟨⟨a1, a2⟩, b, c⟩ := ih (n / 10) (by omega)
      obtain ⟨d, e⟩ := dg_ofNat (Nat.mod_lt n (show 0 < 10 by decide))
      refine ⟨⟨by simp, fun y hy => ?_⟩, ?_, fun _ e => ?_⟩
      · rcases List.mem_append.1 hy with q | q
        · exact a2 y q
        · rw [List.mem_singleton.1 q]; exact d
      · rw [dgV_snoc, b, e]; omega
      · refine c (by omega) ?_
        rwa [List.getElem?_append_left (by cases hh : Lib.decDigits (n / 10) with | nil => exact absurd hh a1 | cons => simp)] at e

theorem dec_len {n k : Nat} (h : n < 10 ^ k) (hk : 1 ≤ k) : (Lib.decDigits n).length ≤ k := by rw [dec_length]; exact (padK_dec k n h hk).2

theorem dec_whole {n : Nat} (h : n ≤ 9999999) : wholeV (Lib.decDigits n) = some n := by
  obtain ⟨a, b, c⟩ := dec_ok n
  unfold wholeV
  rw [if_pos, b]
  refine ⟨dec_len (by omega) (by decide), fun q => ?_⟩
  rcases Nat.eq_zero_or_pos n with e | e
  · subst e
    rw [dec_lt (by decide)] at q
    simp at q
  · exact c e q.2

theorem padK_ok : ∀ (k r : Nat), r < 10 ^ k → (padK k r).length = k ∧ (∀ y ∈ padK k r, isDg y = true) ∧ dgV (padK k r) = r
  | 0, r, h => by simp at h; subst h; simp [padK, dgV]
  | k + 1, r, h => by
    obtain ⟨a, b, c⟩ := padK_ok k (r / 10) (by rw [Nat.pow_succ] at h; omega)
    obtain ⟨d, e⟩ := dg_ofNat (Nat.mod_lt r (show 0 < 10 by decide))
    refine ⟨by simp [padK, a], fun y hy => ?_, ?_⟩
    · rcases List.mem_append.1 hy with q | q
      · exact b y q
      · rw [List.mem_singleton.1 q]; exact d
    · rw [padK, dgV_snoc, c, e]; omega

theorem trimR_split (l : List UInt8) : ∃ k, l = Lib.trimRightB l 48 ++ List.replicate k 48 := by
  unfold Lib.trimRightB
  have h := (List.takeWhile_append_dropWhile (p := (· == (48 : UInt8))) (l := l.reverse)).symm
  have hr : l = ((l.reverse.dropWhile (· == 48)).reverse) ++ ((l.reverse.takeWhile (· == 48)).reverse) := by
    rw [← List.reverse_append, ← h, List.reverse_reverse]
  refine ⟨(l.reverse.takeWhile (· == (48 : UInt8))).length, ?_⟩
  have e : (l.reverse.takeWhile (· == (48 : UInt8))).reverse = List.replicate (l.reverse.takeWhile (· == (48 : UInt8))).length 48 := by
    rw [List.eq_replicate_iff]
    refine ⟨by simp, fun b hb => ?_⟩
    have := List.all_takeWhile (p := (· == (48 : UInt8))) (l := l.reverse)
    rw [List.all_eq_true] at this
    simpa using this b (by simpa using hb)
  rw [← e]
  exact hr

theorem dgV_zeros (k : Nat) : dgV (List.replicate k 48) = 0 := by
  induction k with
  | zero => rfl
  | succ k ih => rw [List.replicate_succ', dgV_snoc, ih]; rfl

/-! ### the text of a number -/
def bodyF (N D : Nat) : Option (List UInt8) :=
  if 9999999 < N / D then none
  else if N % D = 0 then some (Lib.decDigits (N / D))
  else if N % D * 10000 % D = 0 then some (Lib.decDigits (N / D) ++ 46 :: Lib.trimRightB ((Lib.decDigits (10000 + N % D * 10000 / D)).drop 1) 48)
  else if 999 < D then none
  else some (if N / D = 0 then Lib.decDigits (N % D) ++ 47 :: Lib.decDigits D else Lib.decDigits (N / D) ++ 32 :: (Lib.decDigits (N % D) ++ 47 :: Lib.decDigits D))

def formatV (x : Rat) : Option (List UInt8) :=
  (bodyF (x * ((1 : Rat) / 100)).num.natAbs (x * ((1 : Rat) / 100)).den).map fun t => sgL (decide ((x * ((1 : Rat) / 100)).num < 0)) ++ (t ++ [109, 109])

theorem rat_cross {a b c d : Nat} (hb : b ≠ 0) (hd : d ≠ 0) (h : a * d = c * b) : (a : Rat) / (b : Rat) = (c : Rat) / (d : Rat) := by
  have hb' : (b : Rat) ≠ 0 := fun e => hb (Rat.natCast_eq_zero_iff.1 e)
  have hd' : (d : Rat) ≠ 0 := fun e => hd (Rat.natCast_eq_zero_iff.1 e)
  have h' : (a : Rat) * (d : Rat) = (c : Rat) * (b : Rat) := by rw [← Rat.natCast_mul, ← Rat.natCast_mul, h]
  grind

theorem rat_div_one (a : Nat) : (a : Rat) = (a : Rat) / ((1 : Nat) : Rat) := by
  rw [show ((1 : Nat) : Rat) = 1 from rfl]; grind

theorem rat_add_div {n r D : Nat} (hD : D ≠ 0) : (n : Rat) + (r : Rat) / (D : Rat) = ((n * D + r : Nat) : Rat) / (D : Rat) := by
  have hD' : (D : Rat) ≠ 0 := fun e => hD (Rat.natCast_eq_zero_iff.1 e)
  rw [Rat.natCast_add, Rat.natCast_mul]
  grind

theorem drop_one (d : Nat) (hd : d < 10000) : (Lib.decDigits (10000 + d)).drop 1 = padK 4 d := by
  rw [dec_split 4 (10000 + d) (by omega)]
  have e1 : (10000 + d) / 10 ^ 4 = 1 := by omega
  have e2 : (10000 + d) % 10 ^ 4 = d := by omega
  rw [e1, e2, dec_lt (by decide)]
  rfl

theorem bodyF_num {N D : Nat} {t : List UInt8} (hD : D ≠ 0) (h : bodyF N D = some t) : Num t ((N : Rat) / (D : Rat)) ∧ t.length ≤ 15 := by
  have hdm := Nat.div_add_mod N D
  have hlt : N % D < D := Nat.mod_lt _ (by omega)
  unfold bodyF at h
  split at h
  · cases h
  · rename_i h1
    have hn : N / D ≤ 9999999 := by omega
    have ln := dec_len (n := N / D) (k := 7) (by omega) (by decide)
    split at h
    · rename_i h2
      cases h
      have e : (N : Rat) / (D : Rat) = ((N / D : Nat) : Rat) := by
        rw [rat_div_one (N / D)]
        refine rat_cross hD (by decide) ?_
        rw [h2] at hdm
        rw [Nat.mul_one, Nat.mul_comm]; omega
      rw [e]
      exact ⟨Num.whole (dec_ok _).1 (dec_whole hn), by omega⟩
    · rename_i h2
      split at h
      · rename_i h3
        cases h
        have hd0 := Nat.div_add_mod (N % D * 10000) D
        rw [h3] at hd0
        have hdlt : N % D * 10000 / D < 10000 := by
          rw [Nat.div_lt_iff_lt_mul (by omega)]
          rw [Nat.mul_comm]
          exact Nat.mul_lt_mul_of_pos_left hlt (by decide)
        generalize hd : N % D * 10000 / D = d at *
        rw [drop_one d hdlt]
        obtain ⟨p1, p2, p3⟩ := padK_ok 4 d (by omega)
        obtain ⟨k, hk⟩ := trimR_split (padK 4 d)
        generalize hb : Lib.trimRightB (padK 4 d) 48 = b at *
        have hlen : b.length + k = 4 := by rw [← p1, hk]; simp
        have hdb : d = dgV b * 10 ^ k := by rw [← p3, hk, dgV_append, dgV_zeros]; simp
        have hbne : b ≠ [] := by
          rintro rfl
          simp [dgV] at hdb
          subst hdb
          simp at hd0
          omega
        have hbd : Dgs b := ⟨hbne, fun y hy => p2 y (by rw [hk]; simp [hy])⟩
        have hp : (10 : Nat) ^ b.length * 10 ^ k = 10000 := by rw [← Nat.pow_add, hlen]
        have hB : (10 : Nat) ^ b.length ≠ 0 := Nat.ne_of_gt (Nat.pow_pos (by decide))
        have hK : 0 < (10 : Nat) ^ k := Nat.pow_pos (by decide)
        have e : (N : Rat) / (D : Rat) = (((N / D) * 10 ^ b.length + dgV b : Nat) : Rat) / ((10 ^ b.length : Nat) : Rat) := by
          refine rat_cross hD hB ?_
          have key : dgV b * D = N % D * 10 ^ b.length := by
            refine Nat.eq_of_mul_eq_mul_right hK ?_
            rw [Nat.mul_assoc (N % D), hp, Nat.mul_assoc, Nat.mul_comm D, ← Nat.mul_assoc, ← hdb, Nat.mul_comm d]
            omega
          rw [Nat.add_mul, key]
          generalize (10 : Nat) ^ b.length = B at *
          rw [← hdm]
          have e1 : (D * (N / D) + N % D) / D = N / D := by rw [hdm]
          have e2 : (D * (N / D) + N % D) % D = N % D := by rw [hdm]
          rw [e1, e2]
          grind
        rw [e]
        refine ⟨Num.dec (dec_ok _).1 hbd ?_, by simp; omega⟩
        unfold decV
        rw [dec_whole hn]
        simp only
        rw [if_pos (by omega)]
      · split at h
        · cases h
        · rename_i h4
          have hw : fracV (Lib.decDigits (N % D)) (Lib.decDigits D) = some (((N % D : Nat) : Rat) / (D : Rat)) := by
            unfold fracV
            rw [dec_whole (by omega), dec_whole (by omega)]
            simp only
            rw [if_pos (by omega)]
          have lr := dec_len (n := N % D) (k := 3) (by omega) (by decide)
          have lD := dec_len (n := D) (k := 3) (by omega) (by decide)
          split at h
          · rename_i h5
            cases h
            have e : N % D = N := by rw [h5] at hdm; omega
            have := Num.frac (dec_ok _).1 (dec_ok _).1 hw
            rw [e] at this lr ⊢
            exact ⟨this, by simp; omega⟩
          · cases h
            have e : (N : Rat) / (D : Rat) = ((N / D : Nat) : Rat) + ((N % D : Nat) : Rat) / (D : Rat) := by
              rw [rat_add_div hD, Nat.mul_comm, hdm]
            rw [e]
            exact ⟨Num.mixed (dec_ok _).1 (dec_ok _).1 (dec_ok _).1 (dec_whole hn) hw, by simp; omega⟩

theorem rat_parts (v : Rat) : v = sgn (decide (v.num < 0)) ((v.num.natAbs : Rat) / (v.den : Rat)) := by
  have h : v = ((v.num : Int) : Rat) / (v.den : Rat) := by rw [← Rat.mkRat_eq_div, Rat.mkRat_self]
  unfold sgn
  by_cases hn : v.num < 0
  · have e : ((v.num.natAbs : Nat) : Rat) = -((v.num : Int) : Rat) := by
      rw [← Rat.intCast_natCast, ← Rat.intCast_neg]; congr 1; omega
    rw [decide_eq_true hn, if_pos rfl, e]
    grind
  · have e : ((v.num.natAbs : Nat) : Rat) = ((v.num : Int) : Rat) := by
      rw [← Rat.intCast_natCast]; congr 1; omega
    rw [decide_eq_false hn, if_neg (by decide), e]
    exact h

theorem format_isM {x : Rat} {t : List UInt8} (h : formatV x = some t) : IsM t x ∧ t.length ≤ 18 := by
  unfold formatV at h
  have hx : x = x * ((1 : Rat) / 100) * 100 := by grind
  generalize x * ((1 : Rat) / 100) = v at *
  rw [Option.map_eq_some_iff] at h
  obtain ⟨b, hb, rfl⟩ := h
  obtain ⟨h1, h2⟩ := bodyF_num v.den_nz hb
  refine ⟨⟨_, _, _, 100, _, rfl, rfl, h1, ?_⟩, ?_⟩
  · rw [hx]
    have hp := rat_parts v
    generalize (v.num.natAbs : Rat) / (v.den : Rat) = y at *
    generalize decide (v.num < 0) = b at *
    rw [hp]
    unfold sgn
    have : ((100 : Nat) : Rat) = 100 := rfl
    rw [this]
    split <;> grind
  · have : (sgL (decide (v.num < 0))).length ≤ 1 := by unfold sgL; split <;> simp
    simp; omega

theorem format_zero : formatV 0 = some [48, 109, 109] := by decide +kernel

theorem format_neg (x : Rat) (hx : x ≠ 0) : (formatV x = none ∧ formatV (-x) = none) ∨ ∃ t, (0 < x ∧ formatV x = some t ∧ formatV (-x) = some (45 :: t)) ∨ (x < 0 ∧ formatV x = some (45 :: t) ∧ formatV (-x) = some t) := by
  unfold formatV
  have e : -x * ((1 : Rat) / 100) = -(x * ((1 : Rat) / 100)) := by grind
  have hs : x * ((1 : Rat) / 100) < 0 ↔ x < 0 := by grind
  have hs2 : 0 < x * ((1 : Rat) / 100) ↔ 0 < x := by grind
  rw [e]
  generalize x * ((1 : Rat) / 100) = v at *
  rw [Rat.neg_num, Rat.neg_den, Int.natAbs_neg]
  have n1 : v.num < 0 ↔ v < 0 := by have := Rat.num_nonneg (q := v); grind
  have n2 : 0 < v.num ↔ 0 < v := by have h1 := Rat.num_nonneg (q := v); have h2 := Rat.num_eq_zero (q := v); grind
  cases bodyF v.num.natAbs v.den with
  | none => exact Or.inl ⟨rfl, rfl⟩
  | some b =>
    refine Or.inr ⟨b ++ [109, 109], ?_⟩
    have hne : x < 0 ∨ 0 < x := by grind
    rcases hne with q | q
    · refine Or.inr ⟨q, ?_, ?_⟩
      · have : v.num < 0 := n1.2 (hs.2 q)
        rw [decide_eq_true this]; rfl
      · have : v.num < 0 := n1.2 (hs.2 q)
        rw [decide_eq_false (by omega)]; rfl
    · refine Or.inl ⟨q, ?_, ?_⟩
      · have : 0 < v.num := n2.2 (hs2.2 q)
        rw [decide_eq_false (by omega)]; rfl
      · have : 0 < v.num := n2.2 (hs2.2 q)
        rw [decide_eq_true (by omega)]; rfl
end Go.Proofs.YtccplhjglhdopaaGreatDoor

/-
  Plain laws: rounding; units, signs and sums in texts.
-/
namespace Go.Proofs.YtccplhjglhdopaaGreatDoor
open Go Go.Vcg

/-! ### rounding -/
def rndN (N D : Nat) : Nat := (2 * N + D) / (2 * D)
def rndV (x : Rat) : Int := if x.num < 0 then -(rndN x.num.natAbs x.den : Int) else (rndN x.num.natAbs x.den : Int)
def unitsV (x : Rat) : Option Int := if (rndV x).natAbs ≤ 1048576 then some (rndV x) else none

theorem rndN_raw {z : Int} {v : Nat} (hv : v ≠ 0) : rndN z.natAbs v = rndN (mkRat z v).num.natAbs (mkRat z v).den := by
  obtain ⟨e1, e2⟩ := mkRat_num (z := z) hv
  rw [e1, e2]
  obtain ⟨a, ha⟩ := Nat.gcd_dvd_left z.natAbs v
  obtain ⟨b, hb⟩ := Nat.gcd_dvd_right z.natAbs v
  have hg : 0 < Nat.gcd z.natAbs v := Nat.gcd_pos_of_pos_right _ (by omega)
  generalize Nat.gcd z.natAbs v = g at *
  rw [ha, hb, Nat.mul_div_cancel_left _ hg, Nat.mul_div_cancel_left _ hg]
  unfold rndN
  have h1 : 2 * (g * a) + g * b = g * (2 * a + b) := by grind
  have h2 : 2 * (g * b) = g * (2 * b) := by grind
  rw [h1, h2, Nat.mul_div_mul_left _ _ hg]

theorem rnd_neg (x : Rat) : rndV (-x) = -rndV x := by
  unfold rndV
  rw [Rat.neg_num, Rat.neg_den, Int.natAbs_neg]
  rcases Int.lt_trichotomy x.num 0 with h | h | h
  · rw [if_neg (by omega), if_pos h]; omega
  · have hN : rndN x.num.natAbs x.den = 0 := by
      rw [h]
      unfold rndN
      rw [Nat.div_eq_zero_iff]
      have := x.den_pos
      simp
      omega
    rw [hN]; simp
  · rw [if_pos (by omega), if_neg (by omega)]

theorem units_neg (x : Rat) : unitsV (-x) = (unitsV x).map fun n => -n := by
  unfold unitsV
  rw [rnd_neg, Int.natAbs_neg]
  split <;> rfl

theorem rndN_spec {N D : Nat} (hD : D ≠ 0) : 2 * D * rndN N D ≤ 2 * N + D ∧ 2 * N + D < 2 * D * rndN N D + 2 * D := by
  unfold rndN
  have h1 := Nat.div_add_mod (2 * N + D) (2 * D)
  have h2 := Nat.mod_lt (2 * N + D) (show 0 < 2 * D by omega)
  omega

theorem rat_of_mk (x : Rat) : x = mkRat x.num x.den := (Rat.mkRat_self x).symm

theorem rndV_z (x : Rat) : ∃ k : Int, k = rndV x ∧ 2 * (x.den : Int) * k ≤ 2 * x.num + x.den ∧ 2 * x.num - x.den ≤ 2 * (x.den : Int) * k := by
  refine ⟨_, rfl, ?_⟩
  obtain ⟨h1, h2⟩ := rndN_spec (N := x.num.natAbs) x.den_nz
  have h1' : 2 * (x.den : Int) * (rndN x.num.natAbs x.den : Int) ≤ 2 * (x.num.natAbs : Int) + x.den := by exact_mod_cast h1
  have h2' : 2 * (x.num.natAbs : Int) + x.den < 2 * (x.den : Int) * (rndN x.num.natAbs x.den : Int) + 2 * x.den := by exact_mod_cast h2
  unfold rndV
  split
  · rw [Int.mul_neg]
    generalize 2 * (x.den : Int) * (rndN x.num.natAbs x.den : Int) = M at *
    omega
  · generalize 2 * (x.den : Int) * (rndN x.num.natAbs x.den : Int) = M at *
    omega

theorem half_eq : (1 : Rat) / 2 = mkRat 1 2 := by rw [Rat.mkRat_eq_div]; rfl

theorem sub_mk (x : Rat) (k : Int) : x - (k : Rat) = mkRat (x.num - k * x.den) x.den := by
  rw [Rat.mkRat_eq_div]
  have h := rat_of_mk x
  rw [Rat.mkRat_eq_div] at h
  have hD : ((x.den : Nat) : Rat) ≠ 0 := fun e => x.den_nz (Rat.natCast_eq_zero_iff.1 e)
  rw [Rat.intCast_sub, Rat.intCast_mul, Rat.intCast_natCast]
  generalize (x.num : Rat) = a at *
  generalize ((x.den : Nat) : Rat) = d at *
  grind

theorem rnd_near (x : Rat) : x - (rndV x : Rat) ≤ 1 / 2 ∧ -(x - (rndV x : Rat)) ≤ 1 / 2 := by
  obtain ⟨k, e, h1, h2⟩ := rndV_z x
  rw [← e, sub_mk, half_eq]
  have hD := x.den_nz
  refine ⟨?_, ?_⟩
  · rw [← Rat.not_lt, mkRat_lt (by decide) hD]
    have : (x.num - k * x.den) * ((2 : Nat) : Int) = 2 * x.num - 2 * (x.den : Int) * k := by grind
    rw [this]
    omega
  · rw [Rat.neg_mkRat, ← Rat.not_lt, mkRat_lt (by decide) hD]
    have : (-(x.num - k * x.den)) * ((2 : Nat) : Int) = 2 * (x.den : Int) * k - 2 * x.num := by grind
    rw [this]
    omega

def absQ (x : Rat) : Rat := if x < 0 then -x else x

theorem num_neg_iff (x : Rat) : x.num < 0 ↔ x < 0 := by have := Rat.num_nonneg (q := x); grind

theorem abs_mk (x : Rat) : absQ x = mkRat (x.num.natAbs : Int) x.den := by
  unfold absQ
  have h := num_neg_iff x
  split
  · rename_i q
    have : (x.num.natAbs : Int) = -x.num := by have := h.2 q; omega
    rw [this, ← Rat.neg_mkRat, Rat.mkRat_self]
  · rename_i q
    have : (x.num.natAbs : Int) = x.num := by have := mt h.1 q; omega
    rw [this, Rat.mkRat_self]

theorem rnd_natAbs (x : Rat) : (rndV x).natAbs = rndN x.num.natAbs x.den := by unfold rndV; split <;> omega

theorem units_lim (x : Rat) : (rndV x).natAbs ≤ 1048576 ↔ absQ x < mkRat 2097153 2 := by
  rw [abs_mk, mkRat_lt x.den_nz (by decide), rnd_natAbs]
  obtain ⟨h1, h2⟩ := rndN_spec (N := x.num.natAbs) x.den_nz
  have hD := x.den_pos
  generalize x.num.natAbs = N at *
  generalize x.den = D at *
  generalize rndN N D = k at *
  constructor
  · intro hk
    have : 2 * D * k ≤ 2 * D * 1048576 := Nat.mul_le_mul_left _ hk
    omega
  · intro hlt
    rcases Nat.lt_or_ge 1048576 k with q | q
    · have : 2 * D * 1048577 ≤ 2 * D * k := Nat.mul_le_mul_left _ q
      omega
    · exact q

/-! ### laws of texts -/
theorem Num.ends {b : List UInt8} {v : Rat} (h : Num b v) : (∃ x r, b = x :: r ∧ isDg x = true) ∧ ∃ r x, b = r ++ [x] ∧ isDg x = true := by
  have first : ∀ {a : List UInt8}, Dgs a → ∀ s, ∃ x r, a ++ s = x :: r ∧ isDg x = true := fun {a} ha s => by
    obtain ⟨x, r, rfl⟩ := List.exists_cons_of_ne_nil ha.1
    exact ⟨x, r ++ s, rfl, ha.2 x (by simp)⟩
  have last : ∀ {a : List UInt8}, Dgs a → ∀ s, ∃ r x, s ++ a = r ++ [x] ∧ isDg x = true := fun {a} ha s => by
    have e := List.dropLast_concat_getLast ha.1
    refine ⟨s ++ a.dropLast, a.getLast ha.1, by rw [List.append_assoc, e], ha.2 _ (List.getLast_mem ha.1)⟩
  cases h with
  | whole ha _ =>
    have h1 := first ha []
    have h2 := last ha []
    rw [List.append_nil] at h1
    exact ⟨h1, h2⟩
  | dec ha hb _ =>
    refine ⟨first ha _, ?_⟩
    rename_i a b _
    have := last hb (a ++ [46])
    simpa using this
  | frac ha hb _ =>
    refine ⟨first ha _, ?_⟩
    rename_i a b _
    have := last hb (a ++ [47])
    simpa using this
  | mixed ha hb hc _ _ =>
    refine ⟨first ha _, ?_⟩
    rename_i a b c n q _ _
    have := last hc (a ++ 32 :: (b ++ [47]))
    simpa using this

theorem isM_mm {s : List UInt8} {q : Rat} (h : IsM (s ++ [109, 109]) q) : ∃ m body v, s = sgL m ++ body ∧ Num body v ∧ q = sgn m (v * ((100 : Nat) : Rat)) := by
  obtain ⟨m, body, u, n, v, e, hu, hb, rfl⟩ := h
  rw [← List.append_assoc] at e
  rcases unitV_some hu with ⟨rfl, rfl⟩ | ⟨rfl, rfl⟩ | ⟨rfl, rfl⟩ | ⟨rfl, rfl⟩
  · exact ⟨m, body, v, (List.append_inj' e rfl).1, hb, rfl⟩
  · have := (List.append_inj' e rfl).2
    simp at this
  · exfalso
    obtain ⟨r, x, rfl, hx⟩ := hb.ends.2
    have e1 : (s ++ [109]) ++ [109] = (sgL m ++ r ++ [x]) ++ [109] := by simpa using e
    have e2 := (List.append_inj' e1 rfl).1
    have e3 := (List.append_inj' e2 rfl).2
    simp at e3
    subst e3
    revert hx; decide
  · have := (List.append_inj' e rfl).2
    simp at this

theorem isM_scale {s : List UInt8} {q : Rat} (h : IsM (s ++ [109, 109]) q) : IsM (s ++ [99, 109]) (q * 10) ∧ IsM (s ++ [109]) (q * 1000) ∧ IsM (s ++ [105, 110]) (q * (127 / 5)) := by
  obtain ⟨m, body, v, rfl, hb, rfl⟩ := isM_mm h
  have k1 : ((100 : Nat) : Rat) = 100 := rfl
  have k2 : ((1000 : Nat) : Rat) = 1000 := rfl
  have k3 : ((100000 : Nat) : Rat) = 100000 := rfl
  have k4 : ((2540 : Nat) : Rat) = 2540 := rfl
  refine ⟨⟨m, body, [99, 109], 1000, v, by simp, rfl, hb, ?_⟩, ⟨m, body, [109], 100000, v, by simp, rfl, hb, ?_⟩, ⟨m, body, [105, 110], 2540, v, by simp, rfl, hb, ?_⟩⟩
  · unfold sgn; rw [k1, k2]; cases m <;> simp <;> grind
  · unfold sgn; rw [k1, k3]; cases m <;> simp <;> grind
  · unfold sgn; rw [k1, k4]; cases m <;> simp <;> grind

theorem isM_minus {s : List UInt8} (hs : s.head? ≠ some 45) {q : Rat} (h : IsM s q) : IsM (45 :: s) (-q) := by
  obtain ⟨m, body, u, n, v, rfl, hu, hb, rfl⟩ := h
  cases m
  · exact ⟨true, body, u, n, v, rfl, hu, hb, rfl⟩
  · exact absurd rfl hs

theorem isM_plus {s : List UInt8} {q : Rat} (h : IsM (45 :: s) q) : ∃ p, IsM s p := by
  obtain ⟨m, body, u, n, v, e, hu, hb, rfl⟩ := h
  cases m
  · exfalso
    obtain ⟨x, r, rfl, hx⟩ := hb.ends.1
    simp [sgL] at e
    obtain ⟨rfl, _⟩ := e
    revert hx; decide
  · simp [sgL] at e
    exact ⟨_, false, body, u, n, v, by simp [sgL, e], hu, hb, rfl⟩

theorem parse_signs {s : List UInt8} (hs : s.head? ≠ some 45) : parseV (45 :: s) = (parseV s).map fun q => -q := by
  cases h : parseV s with
  | some q => exact (isM_minus hs (parseV_isM h)).parse
  | none =>
    cases h2 : parseV (45 :: s) with
    | none => rfl
    | some q =>
      obtain ⟨p, hp⟩ := isM_plus (parseV_isM h2)
      rw [hp.parse] at h
      cases h

theorem parse_whole {x : Nat} (hx : x ≤ 9999999) : parseV (Lib.decDigits x ++ [109, 109]) = some ((x : Rat) * 100) :=
  IsM.parse ⟨false, _, _, 100, _, rfl, rfl, Num.whole (dec_ok x).1 (dec_whole hx), rfl⟩

theorem frac_dec {y z : Nat} (hy : y ≤ 9999999) (h1 : 1 ≤ z) (h2 : z ≤ 999) : fracV (Lib.decDigits y) (Lib.decDigits z) = some ((y : Rat) / (z : Rat)) := by
  unfold fracV
  rw [dec_whole hy, dec_whole (by omega)]
  simp only
  rw [if_pos ⟨h1, h2⟩]

theorem parse_frac {y z : Nat} (hy : y ≤ 9999999) (h1 : 1 ≤ z) (h2 : z ≤ 999) : parseV (Lib.decDigits y ++ 47 :: Lib.decDigits z ++ [109, 109]) = some ((y : Rat) / (z : Rat) * 100) :=
  IsM.parse ⟨false, _, _, 100, _, rfl, rfl, Num.frac (dec_ok y).1 (dec_ok z).1 (frac_dec hy h1 h2), rfl⟩

theorem parse_mixed {x y z : Nat} (hx : x ≤ 9999999) (hy : y ≤ 9999999) (h1 : 1 ≤ z) (h2 : z ≤ 999) : parseV (Lib.decDigits x ++ 32 :: (Lib.decDigits y ++ 47 :: Lib.decDigits z) ++ [109, 109]) = some (((x : Rat) + (y : Rat) / (z : Rat)) * 100) :=
  IsM.parse ⟨false, _, _, 100, _, rfl, rfl, Num.mixed (dec_ok x).1 (dec_ok y).1 (dec_ok z).1 (dec_whole hx) (frac_dec hy h1 h2), rfl⟩
end Go.Proofs.YtccplhjglhdopaaGreatDoor

/-
  internal/strconv.FormatUint at base 10, from 100 on, in a world whose table of powers of ten is laid.
-/
namespace Go.Proofs
open Go.RowKit Go.Lib Go.Sort

set_option maxHeartbeats 6400000 in
set_option maxRecDepth 100000 in
theorem Tryz.isFormatUint_big (u : Nat) (hu : 100 ≤ u) (hu64 : u < 18446744073709551616) (w : World) (htab : Lib.TabIs Tryz.prog w "internal/strconv.uint64pow10" .u64 Lib.pow10Tab) :
    Calls Tryz.prog 127 #[.int .u64 u, .int .i64 10] w fun e w' => e = .returned (.string ⟨(Lib.decDigits u).toArray⟩) ∧ ∃ k os, w' = grow (w.drewN k) os := by
  have hu1 : 1 ≤ u := by omega
  have hnd20 : Lib.nDigits u ≤ 20 := by have := Lib.numDigits_eq u hu1 hu64; split at this <;> omega
  have hal : Tryz.prog.arrayLen 151 = 24 := by kernel_rfl
  have hsl : ∀ W, (Instr.sliceAt 151 (.pointer (some ⟨w.heap.size, 0, none⟩)) none (some (.int .i64 (Lib.nDigits u : Int))) none).run Tryz.prog W = .ok (.slice (some ⟨w.heap.size, 0, none⟩) (Lib.nDigits u) 24) W := fun W => by
    rw [run_sliceAt_array_h W 151 ⟨w.heap.size, 0, none⟩ (by kernel_rfl) .i64 (Lib.nDigits u : Int) (by omega) (by rw [hal]; omega)]
    go_simp
  have hH0 := Lib.holds_zero0 w 151 (Lib.nDigits u) (by omega)
  have hfmt := Tryz.internal_strconv_formatBase10 w.heap.size 0 24 u (Array.replicate (Lib.nDigits u) 0) (w.alloc (.cells Lib.zeros24 151)) hH0 (by rw [Array.size_replicate]; exact Lib.lt_pow_nDigits u) hu64 (by rw [Array.size_replicate]; omega)
  rw [Array.size_replicate] at hfmt
  have HH0 := Lib.hid hH0
  have iu : (100 : Int) ≤ (u : Int) := by omega
  clear hH0 hal
  go_enter Tryz.func127, Tryz.ntmps127
  go_wp2_with (go_at_call 148; refine (Tryz.internal_strconv_numDigits u hu1 hu64 _ (Lib.tabIs_alloc htab _)).mono ?_; rintro e w' ⟨rfl, rfl⟩)
  go_at_call 149
  refine hfmt.mono ?_
  rintro e w' ⟨rfl, k, v', dk, rfl, hF⟩
  have hcv : (convert 87 9 (.slice (some ⟨w.heap.size, 0, none⟩) (Lib.nDigits u) 24)).run Tryz.prog ((putRow (fun (b : UInt8) => Value.int .u8 (b.toNat : Int)) (w.alloc (.cells Lib.zeros24 151)) w.heap.size 0 dk).drewN k) = .ok (.string ⟨(Lib.decDigits u).toArray⟩) ((putRow (fun (b : UInt8) => Value.int .u8 (b.toNat : Int)) (w.alloc (.cells Lib.zeros24 151)) w.heap.size 0 dk).drewN k) := by
    have h := run_convert_bytes_back (P := Tryz.prog) ((putRow (fun (b : UInt8) => Value.int .u8 (b.toNat : Int)) (w.alloc (.cells Lib.zeros24 151)) w.heap.size 0 dk).drewN k) 87 9 5 ⟨w.heap.size, 0, none⟩ 24 (Lib.decDigits u) (by kernel_rfl) (by kernel_rfl) (by kernel_rfl) (fun j hj => by
      rw [Lib.row_is_numeral hF j hj, Lib.add_plain, World.cell?_drewN]
      exact cell?_putRow (fun (b : UInt8) => Value.int .u8 (b.toNat : Int)) _ w.heap.size 0 _ dk HH0.out (by rw [hF.size, Array.size_replicate]) j (by rw [hF.size]; rw [Lib.decDigits_length] at hj; exact hj))
    rw [Lib.decDigits_length] at h
    exact h
  go_wp2
  go_ret
  obtain ⟨os, eo⟩ := Lib.fin_at w (.cells Lib.zeros24 151) dk k 0
  exact ⟨rfl, k, os, eo⟩
end Go.Proofs

/-
  Contracts: strconv.FormatUint and natural.Text where the table of powers of ten is laid; strings.TrimRight.
-/
namespace Go.Proofs.YtccplhjglhdopaaGreatDoor
open Go Go.Vcg Go.RowKit Go.Sort
attribute [local irreducible] Br

/-- The table of the powers of ten is laid. -/
def Tab (h : Heap) : Prop := ∃ b : Blk, h 1 = some b ∧ b.cells = Lib.pow10Tab.map fun z => Value.int .u64 z

theorem Tab.mono {h h' : Heap} (t : Tab h) (l : Le h h') : Tab h' := let ⟨b, a, c⟩ := t; ⟨b, l _ _ a, c⟩

theorem Tab.is {h : Heap} {w : World} (t : Tab h) (s : Sat h w) : Lib.TabIs Tryz.prog w "internal/strconv.uint64pow10" .u64 Lib.pow10Tab := by
  obtain ⟨b, hb, hc⟩ := t
  have hp : plainB b = true := by unfold plainB; rw [hc]; rfl
  have h1 := (s _ _ hb).cells hp
  unfold Lib.TabIs World.var?
  have hg : Tryz.prog.globalNamed "internal/strconv.uint64pow10" = some 1 := by kernel_rfl
  rw [hg, Option.bind_some]
  simp only [h1, hc]

theorem fmt_c {h : Heap} (t : Tab h) (r : Nat) (hr : r < 18446744073709551616) : CallsU Tryz.prog 93 [.int .u64 r, .int .i64 10] h fun s h' => s = sv (Lib.decDigits r) ∧ h = h' := by
  rcases Nat.lt_or_ge r 100 with q | q
  · exact fmt_small_c r q h
  · apply strconv_FormatUint_ok
    have : CallsU Tryz.prog 127 [.int .u64 r, .int .i64 10] h fun s h' => s = sv (Lib.decDigits r) ∧ h = h' := by
      refine callsU_below ⟨_, Tryz.func127, by kernel_rfl, by kernel_rfl⟩ fun w s => ?_
      refine (Tryz.isFormatUint_big r q hr w (t.is s)).mono ?_
      rintro _ _ ⟨rfl, k, os, rfl⟩
      exact ⟨rfl, Lib.below_grow _ w (Nat.le_refl _) k os⟩
    refine this.mono ?_
    rintro _ _ ⟨rfl, rfl⟩
    exact ⟨_, rfl, rfl, rfl⟩

theorem textT_c {h : Heap} {A : Option Addr} {n c v : Nat} (u : IsN h A n c v) (hn : n ≤ 4294967296) (t : Tab h) :
    CallsU Tryz.prog 41 [.slice A n c] h fun r h' => r = sv (Lib.decDigits v) ∧ Le h h' :=
  text_c u hn fun r _ _ hr l => fmt_c (t.mono l) r (by omega)

theorem trimRight_c (l : List UInt8) (hl : l.length ≤ 1000000) (h : Heap) :
    CallsU Tryz.prog 44 [sv l, sv [48]] h fun r h' => r = sv (Lib.trimRightB l 48) ∧ h = h' :=
  callsU_same ⟨_, Tryz.func44, by kernel_rfl, by kernel_rfl⟩ fun w _ => by simpa using Tryz.strings_TrimRight_one ⟨l.toArray⟩ 48 (by decide) w (by rw [ba_size]; omega)
end Go.Proofs.YtccplhjglhdopaaGreatDoor

/-
  Contracts: ratio.Round; measure: Units, Format.
-/
namespace Go.Proofs.YtccplhjglhdopaaGreatDoor
open Go Go.Vcg
attribute [local irreducible] Br

theorem rnd_sign {h : Heap} {s : Bool} {A : Option Addr} {n c : Nat} {z : Int} {v : Nat} (u : IsI h s A n c z) (hv : v ≠ 0) : (if s then -(rndN z.natAbs v : Int) else (rndN z.natAbs v : Int)) = rndV (mkRat z v) := by
  obtain ⟨x, _, e⟩ := u
  unfold rndV
  rw [← rndN_raw hv]
  have hs := mkRat_sign (z := z) hv
  by_cases hz : z < 0
  · rw [if_pos (hs.2 hz)]
    cases s
    · simp at e; omega
    · rfl
  · rw [if_neg (fun q => hz (hs.1 q))]
    cases s
    · rfl
    · simp at e
      have : z.natAbs = 0 := by omega
      rw [this]
      have h0 : rndN 0 v = 0 := by unfold rndN; rw [Nat.div_eq_zero_iff]; omega
      rw [h0]; rfl

theorem round_c {h : Heap} {s : Bool} {A B : Option Addr} {n c m d : Nat} {q : Rat} (u : IsQ h s A n c B m d q) (hn : n ≤ 134217728) (hm : m ≤ 134217728) :
    CallsU Tryz.prog 57 [.agg #[.bool s, .slice A n c, .slice B m d]] h fun r h' => ∃ s' A' k c', r = .agg #[.bool s', .slice A' k c'] ∧ NmI h' s' A' k c' (rndV q) ∧ k ≤ n + m + 4 ∧ Le h h' := by
  apply ratio_Round_ok
  refine (rvalue_c u (by omega)).mono ?_
  rintro _ h1 ⟨s1, A1, n1, c1, B1, m1, d1, rfl, ⟨z, v, hv, uz, uv, rfl⟩, hn1, hm1, hl1⟩
  refine ⟨_, _, _, _, _, _, _, rfl, (add_c uz.natAbs uz.natAbs (by omega) (by omega)).mono ?_⟩
  rintro _ h2 ⟨A2, k2, c2, rfl, hN2, hl2⟩
  have hk2 := NmN.le_of hN2 (uz.sz.add uz.sz)
  refine ⟨_, _, _, rfl, (add_c hN2.is (uv.mono hl2) (by omega) (by omega)).mono ?_⟩
  rintro _ h3 ⟨A3, k3, c3, rfl, hN3, hl3⟩
  have hs3 : Sz (z.natAbs + z.natAbs + v) (max k2 m1 + 1) := (hN2.sz.mono (by omega)).add (uv.sz.mono (by omega))
  have hk3 := NmN.le_of hN3 hs3
  refine ⟨_, _, _, rfl, hl3, (add_c (uv.mono (hl2.trans hl3)) (uv.mono (hl2.trans hl3)) (by omega) (by omega)).mono ?_⟩
  rintro _ h4 ⟨A4, k4, c4, rfl, hN4, hl4⟩
  have hk4 := NmN.le_of hN4 (uv.sz.add uv.sz)
  refine ⟨_, _, _, rfl, (divmod_c (hN3.mono hl4).is hN4.is (by omega) (by omega) (by omega)).mono ?_⟩
  rintro _ h5 ⟨A5, k5, c5, A6, k6, c6, rfl, hN5, _, hl5⟩
  have hk5 := NmN.le_of hN5 (hs3.le (Nat.div_le_self _ _))
  have e : (z.natAbs + z.natAbs + v) / (v + v) = rndN z.natAbs v := by
    unfold rndN
    rw [← Nat.two_mul, ← Nat.two_mul]
  rw [e] at hN5
  refine ⟨_, _, _, _, _, _, _, rfl, (inorm_c (s := s1) (z := rndV (mkRat z v)) ⟨_, hN5.is, (rnd_sign uz hv).symm⟩ (by omega)).mono ?_⟩
  rintro _ h6 ⟨s6, A7, k7, c7, rfl, hN7, hk7, hl7⟩
  exact ⟨_, _, _, _, rfl, _, _, _, _, rfl, hN7, by omega, ((((hl1.trans hl2).trans hl3).trans hl4).trans hl5).trans hl7⟩

/-- A length in units, and the error of one that is too long. -/
def unitsR (x : Rat) : Value :=
  match unitsV x with
  | some n => .tuple #[.int .i64 n, .int .i64 0]
  | none => .tuple #[.int .i64 0, .int .i64 3]

theorem units_c {h : Heap} {s : Bool} {A B : Option Addr} {n c m d : Nat} {q : Rat} (u : IsQ h s A n c B m d q) (hn : n ≤ 134217728) (hm : m ≤ 134217728) :
    CallsU Tryz.prog 18 [.agg #[.bool s, .slice A n c, .slice B m d]] h fun r h' => r = unitsR q ∧ Le h h' := by
  apply measure_Units_ok
  refine (round_c u hn hm).mono ?_
  rintro _ h1 ⟨s1, A1, k1, c1, rfl, hN1, hk1, hl1⟩
  refine ⟨_, _, _, _, rfl, (small_c hN1.is (by omega)).mono ?_⟩
  rintro _ h2 ⟨rfl, hl2⟩
  have hle := hl1.trans hl2
  have none' : ¬ (rndV q).natAbs ≤ 1048576 → Value.tuple #[.int .i64 0, .int .i64 3] = unitsR q := fun hx => by unfold unitsR unitsV; rw [if_neg hx]
  refine ⟨_, _, rfl, ?_⟩
  cases hf : fitsZ (rndV q) with
  | false =>
    have : ¬ (rndV q).natAbs ≤ 1048576 := fun q => by have := of_decide_eq_false hf; omega
    exact Br.mk (fun _ => ⟨none' this, hle⟩) (fun q => by cases q)
  | true =>
    refine Br.mk (fun q => by cases q) (fun _ => Br.mk (fun q1 => ⟨none' ?_, hle⟩) (fun q1 => Br.mk (fun q2 => ⟨none' ?_, hle⟩) (fun q2 => ?_)))
    · have := of_decide_eq_true q1
      simp only [if_true] at this
      omega
    · have := of_decide_eq_true q2
      simp only [if_true] at this
      omega
    · have a := of_decide_eq_false q1
      have b := of_decide_eq_false q2
      simp only [if_true] at a b ⊢
      refine ⟨?_, hle⟩
      unfold unitsR unitsV
      rw [if_pos (by omega)]

/-- A text, and the error of a number that has none. -/
def fmtR (x : Rat) : Value :=
  match formatV x with
  | some t => .tuple #[sv t, .int .i64 0]
  | none => .tuple #[sv [], .int .i64 3]

theorem cmp_gt {x y : Nat} : (decide (cmpI (x : Int) (y : Int) > 0)) = decide (y < x) := by
  unfold cmpI
  by_cases h : y < x
  · rw [if_neg (by omega), if_pos (by omega)]; simp [h]
  · rw [decide_eq_false h]
    by_cases h2 : x < y
    · rw [if_pos (by omega)]; rfl
    · rw [if_neg (by omega), if_neg (by omega)]; rfl

theorem len0 {h : Heap} {A : Option Addr} {n c v : Nat} (u : NmN h A n c v) : ((((n : Nat) : Int) : Int) == 0) = decide (v = 0) := by
  have := NmN.zero_iff u
  by_cases hv : v = 0
  · have hn := this.2 hv
    rw [decide_eq_true hv]
    subst hn
    rfl
  · rw [decide_eq_false hv, beq_eq_false_iff_ne]
    intro e
    exact hv (this.1 (by omega))
end Go.Proofs.YtccplhjglhdopaaGreatDoor

/-
  Contracts of the references 02 and 03: Neg, Small; Of, Mul, Div, Neg, Sign, Sub, Floor, Round, Light.
-/
namespace Go.Proofs.YtccplhjglhdopaaGreatDoor
open Go Go.Vcg
attribute [local irreducible] Br

theorem r2neg_c {h : Heap} {s : Bool} {A : Option Addr} {n c : Nat} {z : Int} (u : IsI h s A n c z) (hn : n ≤ 1099511627776) :
    CallsU Tryz.prog 104 [.agg #[.bool s, .slice A n c]] h fun r h' => ∃ s' A' k c', r = .agg #[.bool s', .slice A' k c'] ∧ NmI h' s' A' k c' (-z) ∧ k ≤ n ∧ Le h h' := by
  apply ref02_Neg_ok
  have hI : IsI h (!s) A n c (-z) := by
    obtain ⟨v, a, e⟩ := u
    exact ⟨v, a, by subst e; cases s <;> simp⟩
  refine (make1_c hI hn).mono ?_
  rintro _ _ ⟨s', A', k, c', rfl, r⟩
  exact ⟨_, _, _, _, rfl, _, _, _, _, rfl, r⟩

theorem r2small_c {h : Heap} {s : Bool} {A : Option Addr} {n c : Nat} {z : Int} (u : IsI h s A n c z) (hn : n ≤ 1099511627776) :
    CallsU Tryz.prog 58 [.agg #[.bool s, .slice A n c]] h fun r h' => r = .tuple #[.int .i64 (if fitsZ z then z else 0), .bool (fitsZ z)] ∧ Le h h' := by
  apply ref02_Small_ok
  refine (r2norm_c u hn).mono ?_
  rintro _ h1 ⟨s1, A1, k1, c1, rfl, ⟨hN, hs⟩, hk1, hl1⟩
  have hB : B32 = 4294967296 := rfl
  have hsz := NmN.sz hN
  refine ⟨_, _, _, _, rfl, Br.mk (fun q => ?_) (fun q => ?_)⟩
  · have q' := of_decide_eq_true q
    have hbig : ¬ z.natAbs < B32 ^ 2 := fun hlt => by have := NmN.len_le hN hlt; omega
    have hf : fitsZ z = false := decide_eq_false (by rw [hB] at hbig; omega)
    rw [hf]
    exact ⟨rfl, hl1⟩
  · have q' := of_decide_eq_false q
    have hz64 : z.natAbs < 18446744073709551616 := by
      have := hsz.mono (show k1 ≤ 2 by omega)
      unfold Sz at this
      rw [hB] at this
      omega
    obtain ⟨xs, a, ez, _⟩ := hN
    have la := a.len
    rintro _ rfl
    rw [wrap_i64 (by omega) (by omega)]
    refine ⟨fun m nn i h' => m ≤ k1 ∧ i = (m : Int) - 1 ∧ nn = ((val (xs.drop m) : Nat) : Int) ∧ h1 = h', ⟨k1, by omega, rfl, by rw [List.drop_of_length_le (by omega)]; rfl, rfl⟩, ?_⟩
    rintro m _ _ _ ⟨hm, rfl, rfl, rfl⟩
    have hval : val xs = z.natAbs := ez
    have hdl : val (xs.drop m) * B32 ^ m ≤ val xs := by
      have := val_split (xs := xs) (k := m) (by omega)
      rw [Nat.mul_comm]
      omega
    refine Br.mk (fun q2 => ?_) (fun q2 => ?_)
    · have hm1 : 1 ≤ m := by have := of_decide_eq_true q2; omega
      obtain ⟨k, rfl⟩ : ∃ k, m = k + 1 := ⟨m - 1, by omega⟩
      have e1 : ((k + 1 : Nat) : Int) - 1 = (k : Int) := by omega
      rw [e1]
      simp only [Int.toNat_natCast]
      obtain ⟨ad, hA, hld⟩ := a.get (i := k) (by omega)
      have hx := a.getD_lt k
      have hvd := val_drop_cons (xs := xs) (k := k) (by omega)
      have hb : val (xs.drop k) < 18446744073709551616 := by
        have := val_split (xs := xs) (k := k) (by omega)
        have hp : 1 ≤ B32 ^ k := Nat.pow_pos (by decide)
        have : val (xs.drop k) ≤ B32 ^ k * val (xs.drop k) := Nat.le_mul_of_pos_left _ hp
        omega
      rintro _ rfl
      refine ⟨ad, hA, by omega, by omega, _, hld, ?_⟩
      rintro _ rfl _ rfl
      refine ⟨k, by omega, by omega, wrap_i64 (by omega) (by omega), ?_, by first | rfl | trivial⟩
      have hvd' : val (xs.drop k) = xs.getD k 0 + 4294967296 * val (xs.drop (k + 1)) := hvd
      have w1 : IntKind.u64.wrap (((val (xs.drop (k + 1)) : Nat) : Int) * 4294967296) = ((val (xs.drop (k + 1)) * 4294967296 : Nat) : Int) := wu (by omega) (by omega)
      rw [wu (n := xs.getD k 0) rfl (by omega), w1]
      exact wu (n := val (xs.drop k)) (by omega) hb
    · have hm0 : m = 0 := by have := of_decide_eq_false q2; omega
      subst hm0
      rw [List.drop_zero, hval]
      have key : ∀ C : Heap → Prop, (¬ (s1 = true ∧ (z.natAbs : Int) ≤ 9223372036854775808) → C h1) → (∀ t : Int, t = z → s1 = true → (z.natAbs : Int) ≤ 9223372036854775808 → (Value.tuple #[Value.int .i64 t, Value.bool true] = .tuple #[.int .i64 (if fitsZ z then z else 0), .bool (fitsZ z)] ∧ Le h h1)) := by
        intro C _ t et hs1 hle
        subst et
        have hz : t < 0 := by rw [hs] at hs1; simpa using hs1
        have hf : fitsZ t = true := decide_eq_true (by omega)
        rw [hf]
        exact ⟨by simp, hl1⟩
      refine ⟨fun h' => h1 = h' ∧ ¬ (s1 = true ∧ (z.natAbs : Int) ≤ 9223372036854775808), ?_, Br.mk (fun q3 => Br.mk (fun q4 => ?_) (fun q4 => ⟨rfl, fun q5 => of_decide_eq_false q4 q5.2⟩)) (fun q3 => ⟨rfl, fun q5 => by rw [q3] at q5; exact Bool.noConfusion q5.1⟩)⟩
      · rintro _ ⟨rfl, hno⟩
        refine Br.mk (fun q3 => Br.mk (fun q4 => ?_) (fun q4 => ?_)) (fun q3 => ?_)
        · have hz : 0 ≤ z := by rw [hs] at q3; simp at q3; exact q3
          have q4' := of_decide_eq_true q4
          have hf : fitsZ z = true := decide_eq_true (by omega)
          have e : IntKind.i64.wrap (z.natAbs : Int) = z := by rw [IntKind.wrap_i64]; omega
          rw [hf, e, if_pos rfl]
          exact ⟨rfl, hl1⟩
        · have hz : 0 ≤ z := by rw [hs] at q3; simp at q3; exact q3
          have q4' := of_decide_eq_false q4
          have hf : fitsZ z = false := decide_eq_false (by omega)
          rw [hf]
          exact ⟨rfl, hl1⟩
        · have hs1 : s1 = true := by simpa using q3
          have hz : z < 0 := by rw [hs] at hs1; simpa using hs1
          have hf : fitsZ z = false := decide_eq_false (fun q => hno ⟨hs1, by omega⟩)
          rw [hf]
          exact ⟨rfl, hl1⟩
      · have q4' := of_decide_eq_true q4
        have hz : z < 0 := by rw [hs] at q3; simpa using q3
        rintro _ rfl _ rfl _ rfl
        refine key (fun _ => True) (fun _ => trivial) _ ?_ q3 q4'
        rw [IntKind.wrap_u64, IntKind.wrap_i64, IntKind.wrap_i64, IntKind.wrap_i64]
        omega

theorem light_c (s : Bool) (A B : Option Addr) (n c m d k : Nat) (h : Heap) :
    CallsU Tryz.prog 15 [.agg #[.bool s, .slice A n c, .slice B m d], .int .i64 k] h fun r h' => r = .bool (decide (n ≤ k ∧ m ≤ k)) ∧ h = h' := by
  apply ref03_Light_ok
  refine Br.mk (fun q => ⟨?_, rfl⟩) (fun q => ⟨?_, rfl⟩)
  · have := of_decide_eq_true q
    congr 1
    rw [Bool.eq_iff_iff, decide_eq_true_eq, decide_eq_true_eq]
    omega
  · have := of_decide_eq_false q
    rw [decide_eq_false (by omega)]

theorem r3of_c (z w : Int) (hz1 : -9223372036854775808 ≤ z) (hz2 : z < 9223372036854775808) (hw1 : -9223372036854775808 ≤ w) (hw2 : w < 9223372036854775808) (hw : w ≠ 0) (h : Heap) :
    CallsU Tryz.prog 28 [.int .i64 z, .int .i64 w] h fun r h' => ∃ s' A' n' c' B' m' d', r = .tuple #[.agg #[.bool s', .slice A' n' c', .slice B' m' d'], .bool true] ∧ NmQ h' s' A' n' c' B' m' d' ((z : Rat) / (w : Rat)) ∧ n' ≤ 2 ∧ m' ≤ 2 ∧ Le h h' := by
  apply ref03_Of_ok
  refine Br.mk (fun q => by simp at q; omega) (fun _ => ?_)
  refine (r2of_c z hz1 hz2 h).mono ?_
  rintro _ h1 ⟨s1, A1, k1, c1, rfl, n1, hk1, hl1⟩
  refine ⟨_, _, _, _, rfl, (r2of_c w hw1 hw2 h1).mono ?_⟩
  rintro _ h2 ⟨s2, A2, k2, c2, rfl, n2, hk2, hl2⟩
  have e1 := n1.2
  have e2 := n2.2
  have hI : IsI h2 (!(s1 == s2)) A1 k1 c1 (if w < 0 then -z else z) := by
    refine ⟨_, (n1.mono hl2).1.is, ?_⟩
    rw [e1, e2]
    by_cases a : z < 0 <;> by_cases b : w < 0 <;> simp [a, b] <;> omega
  refine ⟨_, _, _, _, rfl, (r3reduce_c hI n2.1.is (by omega) (by omega) (by omega)).mono ?_⟩
  rintro _ h3 ⟨s3, A3, n3, c3, B3, m3, d3, rfl, hN, hn3, hm3, hl3⟩
  have e : mkRat (if w < 0 then -z else z) w.natAbs = (z : Rat) / (w : Rat) := by
    rw [Rat.mkRat_eq_div]
    by_cases b : w < 0
    · simp only [b, if_true]
      have : ((w.natAbs : Nat) : Rat) = -(w : Rat) := by rw [← Rat.intCast_natCast, ← Rat.intCast_neg]; congr 1; omega
      rw [this, Rat.intCast_neg]
      grind
    · simp only [b, if_false]
      have : ((w.natAbs : Nat) : Rat) = (w : Rat) := by rw [← Rat.intCast_natCast]; congr 1; omega
      rw [this]
  rw [e] at hN
  exact ⟨_, _, _, _, _, _, _, rfl, _, _, _, _, _, _, _, rfl, hN, by omega, by omega, (hl1.trans hl2).trans hl3⟩

theorem r3neg_c {h : Heap} {s : Bool} {A B : Option Addr} {n c m d : Nat} {q : Rat} (u : IsQ h s A n c B m d q) (hn : n ≤ 1073741824) (hm : m ≤ 1073741824) :
    CallsU Tryz.prog 47 [.agg #[.bool s, .slice A n c, .slice B m d]] h fun r h' => ∃ s' A' n' c' B' m' d', r = .agg #[.bool s', .slice A' n' c', .slice B' m' d'] ∧ NmQ h' s' A' n' c' B' m' d' (-q) ∧ n' ≤ max n 2 ∧ m' ≤ max m 2 ∧ Le h h' := by
  apply ref03_Neg_ok
  refine (r3norm_c u hn hm).mono ?_
  rintro _ h1 ⟨s1, A1, n1, c1, B1, m1, d1, rfl, nq, hn1, hm1, hl1⟩
  refine ⟨_, _, _, _, _, _, _, rfl, (r2neg_c nq.1.is (by omega)).mono ?_⟩
  rintro _ h2 ⟨s2, A2, k2, c2, rfl, hN2, hk2, hl2⟩
  refine ⟨_, _, _, _, rfl, hl2, _, _, _, _, _, _, _, rfl, ⟨?_, ?_⟩, by omega, by omega, hl1.trans hl2⟩
  · rw [Rat.neg_num]; exact hN2
  · rw [Rat.neg_den]; exact nq.2.mono hl2

theorem r3sub_c {h : Heap} {s s2 : Bool} {A B C D : Option Addr} {n c m d n2 c2 m2 d2 : Nat} {q p : Rat} (u : IsQ h s A n c B m d q) (w : IsQ h s2 C n2 c2 D m2 d2 p) (hn : n ≤ 134217728) (hm : m ≤ 134217728) (hn2 : n2 ≤ 134217728) (hm2 : m2 ≤ 134217728) :
    CallsU Tryz.prog 50 [.agg #[.bool s, .slice A n c, .slice B m d], .agg #[.bool s2, .slice C n2 c2, .slice D m2 d2]] h fun r h' => ∃ s' A' n' c' B' m' d', r = .agg #[.bool s', .slice A' n' c', .slice B' m' d'] ∧ NmQ h' s' A' n' c' B' m' d' (q - p) ∧ n' ≤ max (max n 2 + max m2 2) (max n2 2 + max m 2) + 1 ∧ m' ≤ max m 2 + max m2 2 ∧ Le h h' := by
  apply ref03_Sub_ok
  refine (r3neg_c w (by omega) (by omega)).mono ?_
  rintro _ h1 ⟨s1, A1, n1, c1, B1, m1, d1, rfl, hN1, a1, b1, hl1⟩
  refine ⟨_, _, _, _, _, _, _, rfl, hl1, (r3add_b (u.mono hl1) hN1.is (by omega) (by omega) (by omega) (by omega)).mono ?_⟩
  rintro _ h2 ⟨s2, A2, n2, c2, B2, m2, d2, rfl, hN2, a2, b2, hl2⟩
  rw [← Rat.sub_eq_add_neg] at hN2
  exact ⟨_, _, _, _, _, _, _, rfl, _, _, _, _, _, _, _, rfl, hN2, by omega, by omega, hl1.trans hl2⟩

theorem r3mul_c {h : Heap} {s s2 : Bool} {A B C D : Option Addr} {n c m d n2 c2 m2 d2 : Nat} {q p : Rat} (u : IsQ h s A n c B m d q) (w : IsQ h s2 C n2 c2 D m2 d2 p) (hn : n ≤ 134217728) (hm : m ≤ 134217728) (hn2 : n2 ≤ 134217728) (hm2 : m2 ≤ 134217728) :
    CallsU Tryz.prog 51 [.agg #[.bool s, .slice A n c, .slice B m d], .agg #[.bool s2, .slice C n2 c2, .slice D m2 d2]] h fun r h' => ∃ s' A' n' c' B' m' d', r = .agg #[.bool s', .slice A' n' c', .slice B' m' d'] ∧ NmQ h' s' A' n' c' B' m' d' (q * p) ∧ n' ≤ max n 2 + max n2 2 ∧ m' ≤ max m 2 + max m2 2 ∧ Le h h' := by
  apply ref03_Mul_ok
  refine (r3norm_c u (by omega) (by omega)).mono ?_
  rintro _ h1 ⟨s1, A1, n1, c1, B1, m1, d1, rfl, nq, hn1, hm1, hl1⟩
  refine ⟨_, _, _, _, _, _, _, rfl, hl1, (r3norm_c (w.mono hl1) (by omega) (by omega)).mono ?_⟩
  rintro _ h2 ⟨s3, A3, n3, c3, B3, m3, d3, rfl, np, hn3, hm3, hl2⟩
  have nq2 := nq.mono hl2
  refine ⟨_, _, _, _, _, _, _, rfl, (r1mul_c nq2.1.1.is np.1.1.is (by omega) (by omega)).mono ?_⟩
  rintro _ h3 ⟨A4, k4, c4, rfl, hN4, hl3⟩
  have hk4 := NmN.le_of hN4 (nq2.1.1.sz.mul np.1.1.sz)
  refine ⟨_, _, _, rfl, hl3, (r1mul_c (nq2.2.mono hl3).is (np.2.mono hl3).is (by omega) (by omega)).mono ?_⟩
  rintro _ h4 ⟨A5, k5, c5, rfl, hN5, hl4⟩
  have hk5 := NmN.le_of hN5 (nq2.2.sz.mul np.2.sz)
  have hI : IsI h4 (!(s1 == s3)) A4 k4 c4 (q.num * p.num) := by
    refine ⟨_, (hN4.mono hl4).is, ?_⟩
    rw [← mul_sign]
    have e1 := nq.1.2
    have e2 := np.1.2
    have a1 : (if s1 then -(q.num.natAbs : Int) else (q.num.natAbs : Int)) = q.num := by rw [e1]; by_cases hz : q.num < 0 <;> simp [hz] <;> omega
    have a2 : (if s3 then -(p.num.natAbs : Int) else (p.num.natAbs : Int)) = p.num := by rw [e2]; by_cases hz : p.num < 0 <;> simp [hz] <;> omega
    rw [a1, a2]
  refine ⟨_, _, _, rfl, hl4, (r3reduce_c hI hN5.is (Nat.mul_ne_zero q.den_nz p.den_nz) (by omega) (by omega)).mono ?_⟩
  rintro _ h5 ⟨s8, A8, n8, c8, B8, m8, d8, rfl, hN8, b1, b2, hl5⟩
  rw [← Rat.mkRat_mul_mkRat, Rat.mkRat_self, Rat.mkRat_self] at hN8
  exact ⟨_, _, _, _, _, _, _, rfl, _, _, _, _, _, _, _, rfl, hN8, by omega, by omega, (((hl1.trans hl2).trans hl3).trans hl4).trans hl5⟩

theorem div_mk {q p : Rat} (hp : 0 < p.num) : mkRat (q.num * p.den) (q.den * p.num.natAbs) = q / p := by
  have hq := rat_of_mk q
  have hpp := rat_of_mk p
  rw [Rat.mkRat_eq_div] at hq hpp ⊢
  rw [Rat.intCast_mul, Rat.natCast_mul, Rat.intCast_natCast]
  have e : ((p.num.natAbs : Nat) : Rat) = (p.num : Rat) := by rw [← Rat.intCast_natCast]; congr 1; omega
  rw [e]
  have h1 : ((q.den : Nat) : Rat) ≠ 0 := fun e => q.den_nz (Rat.natCast_eq_zero_iff.1 e)
  have h2 : ((p.den : Nat) : Rat) ≠ 0 := fun e => p.den_nz (Rat.natCast_eq_zero_iff.1 e)
  have h3 : ((p.num : Int) : Rat) ≠ 0 := fun e => by
    have := Rat.intCast_inj.1 (e.trans (Rat.intCast_zero).symm)
    omega
  generalize (q.num : Rat) = a at *
  generalize ((q.den : Nat) : Rat) = b at *
  generalize (p.num : Rat) = x at *
  generalize ((p.den : Nat) : Rat) = y at *
  rw [hq, hpp]
  grind

theorem r3div_c {h : Heap} {s s2 : Bool} {A B C D : Option Addr} {n c m d n2 c2 m2 d2 : Nat} {q p : Rat} (u : IsQ h s A n c B m d q) (w : IsQ h s2 C n2 c2 D m2 d2 p) (hp : 0 < p.num) (hn : n ≤ 134217728) (hm : m ≤ 134217728) (hn2 : n2 ≤ 134217728) (hm2 : m2 ≤ 134217728) :
    CallsU Tryz.prog 45 [.agg #[.bool s, .slice A n c, .slice B m d], .agg #[.bool s2, .slice C n2 c2, .slice D m2 d2]] h fun r h' => ∃ s' A' n' c' B' m' d', r = .tuple #[.agg #[.bool s', .slice A' n' c', .slice B' m' d'], .bool true] ∧ NmQ h' s' A' n' c' B' m' d' (q / p) ∧ n' ≤ max n 2 + max m2 2 ∧ m' ≤ max m 2 + max n2 2 ∧ Le h h' := by
  apply ref03_Div_ok
  obtain ⟨z, v, uz, uv, ep⟩ := w
  refine (r3zero_c uz uv (by omega) (by omega)).mono ?_
  rintro _ h0 ⟨rfl, hl0⟩
  have hz : ¬ (z = 0 ∨ v = 0) := by
    rintro (e | e)
    · rw [e] at ep; simp at ep; rw [← ep] at hp; revert hp; decide
    · rw [e] at ep; simp at ep; rw [← ep] at hp; revert hp; decide
  refine ⟨_, rfl, Br.mk (fun q => absurd (of_decide_eq_true q) hz) (fun _ => ?_)⟩
  refine (r3norm_c (u.mono hl0) (by omega) (by omega)).mono ?_
  rintro _ h1 ⟨s1, A1, n1, c1, B1, m1, d1, rfl, nq, hn1, hm1, hl1⟩
  have w' : IsQ h1 s2 C n2 c2 D m2 d2 p := ⟨z, v, (uz.mono hl0).mono hl1, (uv.mono hl0).mono hl1, ep⟩
  refine ⟨_, _, _, _, _, _, _, rfl, hl1, (r3norm_c w' (by omega) (by omega)).mono ?_⟩
  rintro _ h2 ⟨s3, A3, n3, c3, B3, m3, d3, rfl, np, hn3, hm3, hl2⟩
  have nq2 := nq.mono hl2
  refine ⟨_, _, _, _, _, _, _, rfl, (r1mul_c nq2.1.1.is np.2.is (by omega) (by omega)).mono ?_⟩
  rintro _ h3 ⟨A4, k4, c4, rfl, hN4, hl3⟩
  have hk4 := NmN.le_of hN4 (nq2.1.1.sz.mul np.2.sz)
  refine ⟨_, _, _, rfl, hl3, (r1mul_c (nq2.2.mono hl3).is (np.1.1.mono hl3).is (by omega) (by omega)).mono ?_⟩
  rintro _ h4 ⟨A5, k5, c5, rfl, hN5, hl4⟩
  have hk5 := NmN.le_of hN5 (nq2.2.sz.mul np.1.1.sz)
  have es3 : s3 = false := by rw [np.1.2]; exact decide_eq_false (by omega)
  have hI : IsI h4 (!(s1 == s3)) A4 k4 c4 (q.num * p.den) := by
    refine ⟨_, (hN4.mono hl4).is, ?_⟩
    have e1 := nq.1.2
    rw [es3, e1]
    cases hd : decide (q.num < 0) with
    | false =>
      have := of_decide_eq_false hd
      show q.num * p.den = ((q.num.natAbs * p.den : Nat) : Int)
      rw [Int.natCast_mul]
      congr 1
      omega
    | true =>
      have := of_decide_eq_true hd
      show q.num * p.den = -((q.num.natAbs * p.den : Nat) : Int)
      rw [Int.natCast_mul, ← Int.neg_mul]
      congr 1
      omega
  refine ⟨_, _, _, rfl, hl4, (r3reduce_c hI hN5.is (Nat.mul_ne_zero q.den_nz (by omega)) (by omega) (by omega)).mono ?_⟩
  rintro _ h5 ⟨s8, A8, n8, c8, B8, m8, d8, rfl, hN8, b1, b2, hl5⟩
  rw [div_mk hp] at hN8
  exact ⟨_, _, _, _, _, _, _, rfl, _, _, _, _, _, _, _, rfl, hN8, by omega, by omega, ((((hl0.trans hl1).trans hl2).trans hl3).trans hl4).trans hl5⟩

theorem r3sign_c {h : Heap} {s : Bool} {A B : Option Addr} {n c m d : Nat} {q : Rat} (u : IsQ h s A n c B m d q) (hn : n ≤ 1073741824) (hm : m ≤ 1073741824) :
    CallsU Tryz.prog 46 [.agg #[.bool s, .slice A n c, .slice B m d]] h fun r h' => ∃ k : Int, r = .int .i64 k ∧ (k < 0 ↔ q.num < 0) ∧ Le h h' := by
  apply ref03_Sign_ok
  obtain ⟨z, v, uz, uv, rfl⟩ := u
  refine (r3zero_c uz uv (by omega) (by omega)).mono ?_
  rintro _ h0 ⟨rfl, hl0⟩
  refine ⟨_, rfl, Br.mk (fun q => ?_) (fun q => ?_)⟩
  · have q' := of_decide_eq_true q
    refine ⟨_, rfl, ?_, hl0⟩
    rcases q' with e | e
    · rw [e]; simp
    · rw [e]; simp
  · have q' := of_decide_eq_false q
    have hs := mkRat_sign (z := z) (v := v) (fun e => q' (Or.inr e))
    obtain ⟨x, _, ez⟩ := uz
    refine Br.mk (fun q2 => ⟨_, rfl, ?_, hl0⟩) (fun q2 => ⟨_, rfl, ?_, hl0⟩)
    · rw [hs]
      rw [q2] at ez
      simp at ez
      omega
    · rw [hs]
      rw [q2] at ez
      simp at ez
      omega

theorem r2divmod_c {h : Heap} {A B : Option Addr} {n c m d x y : Nat} (u : NmN h A n c x) (w : NmN h B m d y) (hn : n ≤ 1073741824) (hm : m ≤ 1073741824) (hy : y ≠ 0) :
    CallsU Tryz.prog 105 [.agg #[.bool false, .slice A n c], .agg #[.bool false, .slice B m d]] h fun r h' => ∃ s1 A1 n1 c1 s2 A2 n2 c2, r = .tuple #[.agg #[.bool s1, .slice A1 n1 c1], .agg #[.bool s2, .slice A2 n2 c2], .bool true] ∧ NmI h' s1 A1 n1 c1 ((x / y : Nat) : Int) ∧ n1 ≤ n ∧ Le h h' := by
  apply ref02_DivMod_ok
  refine (r2norm_c (IsI.pos u.is) (by omega)).mono ?_
  rintro _ h1 ⟨s1, A1, k1, c1, rfl, hN1, hk1, hl1⟩
  refine ⟨_, _, _, _, rfl, hl1, (r2norm_c (IsI.pos (w.mono hl1).is) (by omega)).mono ?_⟩
  rintro _ h2 ⟨s2, A2, k2, c2, rfl, hN2, hk2, hl2⟩
  have e1 : s1 = false := by rw [hN1.2]; exact decide_eq_false (by omega)
  have e2 : s2 = false := by rw [hN2.2]; exact decide_eq_false (by omega)
  subst e1 e2
  have d1 := (hN1.mono hl2).1
  have d2 := hN2.1
  rw [Int.natAbs_natCast] at d1 d2
  refine ⟨_, _, _, _, rfl, (r1divmod_c d1.is d2.is (by omega) (by omega) hy).mono ?_⟩
  rintro _ h3 ⟨A3, k3, c3, A4, k4, c4, rfl, hQ, hR, hl3⟩
  have hk3 := NmN.le_of hQ (d1.sz.le (Nat.div_le_self _ _))
  have hk4 := NmN.le_of hR (d1.sz.le (Nat.mod_le _ _))
  refine ⟨_, _, _, _, _, _, _, rfl, Br.mk (fun q => by cases q) (fun _ => ?_)⟩
  refine ⟨fun qA qn qc rA rn rc h' => qA = A3 ∧ qn = k3 ∧ qc = c3 ∧ rA = A4 ∧ rn = k4 ∧ rc = c4 ∧ h3 = h', ?_, fun t h' => t = false ∧ h3 = h', ?_, Br.mk (fun q => by cases q) (fun _ => ⟨rfl, rfl⟩)⟩
  · rintro _ _ _ _ _ _ _ ⟨rfl, rfl, rfl, rfl, rfl, rfl, rfl⟩
    refine (make1_c (s := !(false == false)) (z := ((x / y : Nat) : Int)) ⟨_, hQ.is, by simp⟩ (by omega)).mono ?_
    rintro _ h4 ⟨s5, A5, k5, c5, rfl, hN5, hk5, hl5⟩
    refine ⟨_, _, _, _, rfl, (make1_c (s := false) (z := ((x % y : Nat) : Int)) ⟨_, (hR.mono hl5).is, by simp⟩ (by omega)).mono ?_⟩
    rintro _ h5 ⟨s6, A6, k6, c6, rfl, hN6, hk6, hl6⟩
    exact ⟨_, _, _, _, rfl, _, _, _, _, _, _, _, _, rfl, hN5.mono hl6, by omega, (((hl1.trans hl2).trans hl3).trans hl5).trans hl6⟩
  · rintro _ _ ⟨rfl, rfl⟩
    exact Br.mk (fun q => by cases q) (fun _ => ⟨rfl, rfl, rfl, rfl, rfl, rfl, rfl⟩)

theorem r3floor_c {h : Heap} {s : Bool} {A B : Option Addr} {n c m d : Nat} {q : Rat} (u : IsQ h s A n c B m d q) (hq : 0 ≤ q.num) (hn : n ≤ 134217728) (hm : m ≤ 134217728) :
    CallsU Tryz.prog 49 [.agg #[.bool s, .slice A n c, .slice B m d]] h fun r h' => ∃ s' A' k c', r = .agg #[.bool s', .slice A' k c'] ∧ NmI h' s' A' k c' ((q.num.natAbs / q.den : Nat) : Int) ∧ k ≤ max n 2 ∧ Le h h' := by
  apply ref03_Floor_ok
  refine (r3norm_c u (by omega) (by omega)).mono ?_
  rintro _ h1 ⟨s1, A1, n1, c1, B1, m1, d1, rfl, nq, hn1, hm1, hl1⟩
  have e : s1 = false := by rw [nq.1.2]; exact decide_eq_false (by omega)
  subst e
  refine ⟨_, _, _, _, _, _, _, rfl, (r2divmod_c nq.1.1 nq.2 (by omega) (by omega) q.den_nz).mono ?_⟩
  rintro _ h2 ⟨s2, A2, n2, c2, s3, A3, n3, c3, rfl, hN, hk, hl2⟩
  exact ⟨_, _, _, _, _, _, _, _, _, rfl, _, _, _, _, rfl, hN, by omega, hl1.trans hl2⟩

theorem r3round_c {h : Heap} {s : Bool} {A B : Option Addr} {n c m d : Nat} {q : Rat} (u : IsQ h s A n c B m d q) (hn : n ≤ 134217728) (hm : m ≤ 134217728) :
    CallsU Tryz.prog 59 [.agg #[.bool s, .slice A n c, .slice B m d]] h fun r h' => ∃ s' A' k c', r = .agg #[.bool s', .slice A' k c'] ∧ NmI h' s' A' k c' (rndV q) ∧ k ≤ n + m + 16 ∧ Le h h' := by
  apply ref03_Round_ok
  refine (r3norm_c u (by omega) (by omega)).mono ?_
  rintro _ h1 ⟨s1, A1, n1, c1, B1, m1, d1, rfl, nq, hn1, hm1, hl1⟩
  refine ⟨_, _, _, _, _, _, _, rfl, (r1of_c 2 (by omega) h1).mono ?_⟩
  rintro _ h2 ⟨A2, k2, c2, rfl, hk2, hN2, hl2⟩
  refine ⟨_, _, _, rfl, (r1mul_c hN2.is (nq.1.1.mono hl2).is (by omega) (by omega)).mono ?_⟩
  rintro _ h3 ⟨A3, k3, c3, rfl, hN3, hl3⟩
  have hk3 := NmN.le_of hN3 (hN2.sz.mul nq.1.1.sz)
  refine ⟨_, _, _, rfl, hl3, (r1add_c hN3.is ((nq.2.mono hl2).mono hl3).is (by omega) (by omega)).mono ?_⟩
  rintro _ h4 ⟨A4, k4, c4, rfl, hN4, hl4⟩
  have hs4 : Sz (2 * q.num.natAbs + q.den) (max k3 m1 + 1) := (hN3.sz.mono (by omega)).add (nq.2.sz.mono (by omega))
  have hk4 := NmN.le_of hN4 hs4
  have hl24 := (hl2.trans hl3).trans hl4
  refine ⟨_, _, _, rfl, hl4, (r1mul_c ((hN2.mono hl3).mono hl4).is (nq.2.mono hl24).is (by omega) (by omega)).mono ?_⟩
  rintro _ h5 ⟨A5, k5, c5, rfl, hN5, hl5⟩
  have hk5 := NmN.le_of hN5 (hN2.sz.mul nq.2.sz)
  have hD := q.den_nz
  refine ⟨_, _, _, rfl, (r1divmod_c (hN4.mono hl5).is hN5.is (by omega) (by omega) (by omega)).mono ?_⟩
  rintro _ h6 ⟨A6, k6, c6, A7, k7, c7, rfl, hN6, _, hl6⟩
  have hk6 := NmN.le_of hN6 (hs4.le (Nat.div_le_self _ _))
  have er := rnd_sign nq.1.is q.den_nz
  rw [Rat.mkRat_self] at er
  refine ⟨_, _, _, _, _, _, _, rfl, (r2norm_c (s := s1) (z := rndV q) ⟨_, hN6.is, er.symm⟩ (by omega)).mono ?_⟩
  rintro _ h7 ⟨s8, A8, k8, c8, rfl, hN8, hk8, hl7⟩
  exact ⟨_, _, _, _, rfl, _, _, _, _, rfl, hN8, by omega, ((hl1.trans hl24).trans (hl5.trans hl6)).trans hl7⟩
end Go.Proofs.YtccplhjglhdopaaGreatDoor

/-
  Contract: measure.Format.
-/
namespace Go.Proofs.YtccplhjglhdopaaGreatDoor
open Go Go.Vcg
attribute [local irreducible] Br

theorem c45 : (⟨#[45]⟩ : ByteArray) = ⟨([45] : List UInt8).toArray⟩ := rfl
theorem c46 : (⟨#[46]⟩ : ByteArray) = ⟨([46] : List UInt8).toArray⟩ := rfl
theorem c47 : (⟨#[47]⟩ : ByteArray) = ⟨([47] : List UInt8).toArray⟩ := rfl
theorem c32 : (⟨#[32]⟩ : ByteArray) = ⟨([32] : List UInt8).toArray⟩ := rfl
theorem cmm : (⟨#[109, 109]⟩ : ByteArray) = ⟨([109, 109] : List UInt8).toArray⟩ := rfl

theorem fin_text {T : List UInt8} {s2 : Bool} {R : Value → Prop} (hT : T.length ≤ 1000) (hR : R (.tuple #[sv (sgL s2 ++ (T ++ [109, 109])), .int .i64 0])) :
    Br s2 ((((⟨#[45]⟩ : ByteArray).size + (⟨T.toArray⟩ : ByteArray).size : Nat) : Int) ≤ 9223372036854775807 ∧ ((((⟨#[45]⟩ : ByteArray) ++ ⟨T.toArray⟩).size + (⟨#[109, 109]⟩ : ByteArray).size : Nat) : Int) ≤ 9223372036854775807 ∧ R (Value.tuple #[Value.string (((⟨#[45]⟩ : ByteArray) ++ ⟨T.toArray⟩) ++ (⟨#[109, 109]⟩ : ByteArray)), Value.int .i64 0]))
      ((((⟨T.toArray⟩ : ByteArray).size + (⟨#[109, 109]⟩ : ByteArray).size : Nat) : Int) ≤ 9223372036854775807 ∧ R (Value.tuple #[Value.string ((⟨T.toArray⟩ : ByteArray) ++ (⟨#[109, 109]⟩ : ByteArray)), Value.int .i64 0])) := by
  rw [c45, cmm, ba_append, ba_append, ba_append, ba_size, ba_size, ba_size, ba_size]
  refine Br.mk (fun q => ⟨by simp; omega, by simp; omega, ?_⟩) (fun q => ⟨by simp; omega, ?_⟩)
  · subst q
    simpa [sgL] using hR
  · subst q
    simpa [sgL] using hR

theorem q100 : (((1 : Int) : Rat) / ((100 : Int) : Rat)) = (1 : Rat) / 100 := rfl

theorem format_c {h : Heap} {s : Bool} {A B : Option Addr} {n c m d : Nat} {q : Rat} (u : IsQ h s A n c B m d q) (hn : n ≤ 1000000) (hm : m ≤ 1000000) (tb : Tab h) :
    CallsU Tryz.prog 16 [.agg #[.bool s, .slice A n c, .slice B m d]] h fun r h' => r = fmtR q ∧ Le h h' := by
  apply measure_Format_ok
  refine (rof_c 1 100 (by omega) (by omega) (by omega) (by omega) (by omega) h).mono ?_
  rintro _ h1 ⟨s1, A1, n1, c1, B1, m1, d1, rfl, hN1, a1, b1, hl1⟩
  rw [q100] at hN1
  refine ⟨_, _, _, _, _, _, _, _, rfl, (rmul_c (u.mono hl1) hN1.is (by omega) (by omega) (by omega) (by omega)).mono ?_⟩
  rintro _ h2 ⟨s2, A2, n2, c2, B2, m2, d2, rfl, hN2, a2, b2, hl2⟩
  have hf : fmtR q = match (bodyF (q * ((1 : Rat) / 100)).num.natAbs (q * ((1 : Rat) / 100)).den).map fun t => sgL (decide ((q * ((1 : Rat) / 100)).num < 0)) ++ (t ++ [109, 109]) with
    | some t => .tuple #[sv t, .int .i64 0]
    | none => .tuple #[sv [], .int .i64 3] := rfl
  rw [hf]
  generalize q * ((1 : Rat) / 100) = v at *
  obtain ⟨⟨hNn, hs⟩, hDn⟩ := hN2
  have hD0 : v.den ≠ 0 := v.den_nz
  generalize v.num.natAbs = N at *
  generalize v.den = D at *
  rw [← hs]
  have hl12 := hl1.trans hl2
  have tb2 := tb.mono hl12
  refine ⟨_, _, _, _, _, _, _, rfl, (divmod_c hNn.is hDn.is (by omega) (by omega) hD0).mono ?_⟩
  rintro _ h3 ⟨A3, n3, c3, A4, n4, c4, rfl, hQ, hR, hl3⟩
  have hk3 := NmN.le_of hQ (hNn.sz.le (Nat.div_le_self _ _))
  have hk4 := NmN.le_of hR (hNn.sz.le (Nat.mod_le _ _))
  refine ⟨_, _, _, _, _, _, _, rfl, (of_c 9999999 (by omega) h3).mono ?_⟩
  rintro _ h4 ⟨A5, n5, c5, rfl, a5, hM, hl4⟩
  refine ⟨_, _, _, rfl, (cmp_c (hQ.mono hl4).is hM.is (by omega) (by omega)).mono ?_⟩
  rintro _ _ ⟨rfl, rfl⟩
  have hl04 := (hl12.trans hl3).trans hl4
  refine ⟨_, rfl, ?_⟩
  rw [cmp_gt]
  refine Br.mk (fun q1 => ?_) (fun q1 => ?_)
  · have q1' := of_decide_eq_true q1
    have : bodyF N D = none := by rw [bodyF, if_pos q1']
    rw [this]
    exact ⟨rfl, hl04⟩
  · have q1' := of_decide_eq_false q1
    have lq := dec_len (n := N / D) (k := 7) (by omega) (by decide)
    have hdm := Nat.div_add_mod N D
    have hrlt : N % D < D := Nat.mod_lt _ (by omega)
    refine (textT_c (hQ.mono hl4).is (by omega) ((tb2.mono hl3).mono hl4)).mono ?_
    rintro _ h5 ⟨rfl, hl5⟩
    refine ⟨_, rfl, (of_c 10000 (by omega) h5).mono ?_⟩
    rintro _ h6 ⟨A6, n6, c6, rfl, a6, hS, hl6⟩
    have hl36 := (hl4.trans hl5).trans hl6
    refine ⟨_, _, _, rfl, (mul_c (hR.mono hl36).is hS.is (by omega) (by omega)).mono ?_⟩
    rintro _ h7 ⟨A7, n7, c7, rfl, hP, hl7⟩
    have hl37 := hl36.trans hl7
    have hk7 := NmN.le_of hP (hR.sz.mul hS.sz)
    refine ⟨_, _, _, rfl, hl7, (divmod_c hP.is ((hDn.mono hl3).mono hl37).is (by omega) (by omega) hD0).mono ?_⟩
    rintro _ h8 ⟨A8, n8, c8, A9, n9, c9, rfl, hG, hE, hl8⟩
    have hl38 := hl37.trans hl8
    have hl08 := (hl12.trans hl3).trans hl38
    have hk8 := NmN.le_of hG (hP.sz.le (Nat.div_le_self _ _))
    refine ⟨_, _, _, _, _, _, _, rfl, ?_⟩
    rw [len0 hR, len0 hE, len0 hQ]
    refine Br.mk (fun q2 => ?_) (fun q2 => Br.mk (fun q3 => ?_) (fun q3 => ?_))
    · have q2' := of_decide_eq_true q2
      have e : bodyF N D = some (Lib.decDigits (N / D)) := by rw [bodyF, if_neg q1', if_pos q2']
      rw [e]
      exact fin_text (R := fun x => x = _ ∧ Le h h8) (by omega) ⟨rfl, hl08⟩
    · have q2' := of_decide_eq_false q2
      have q3' := of_decide_eq_true q3
      have hdlt : N % D * 10000 / D < 10000 := by
        rw [Nat.div_lt_iff_lt_mul (by omega), Nat.mul_comm]
        exact Nat.mul_lt_mul_of_pos_left hrlt (by decide)
      have e : bodyF N D = some (Lib.decDigits (N / D) ++ 46 :: Lib.trimRightB ((Lib.decDigits (10000 + N % D * 10000 / D)).drop 1) 48) := by rw [bodyF, if_neg q1', if_neg q2', if_pos q3']
      rw [e]
      refine (add_c ((hS.mono hl7).mono hl8).is hG.is (by omega) (by omega)).mono ?_
      rintro _ h9 ⟨A10, n10, c10, rfl, hT, hl9⟩
      have ltx := dec_len (n := 10000 + N % D * 10000 / D) (k := 5) (by omega) (by decide)
      have hk10 := NmN.le_of hT (k := 2) (Sz.u64 (by omega))
      refine ⟨_, _, _, rfl, (textT_c hT.is (by omega) (((tb2.mono hl3).mono hl38).mono hl9)).mono ?_⟩
      rintro _ h10 ⟨rfl, hl10⟩
      have hpos : 1 ≤ (Lib.decDigits (10000 + N % D * 10000 / D)).length := by
        have := dec_ne (10000 + N % D * 10000 / D)
        cases hh : Lib.decDigits (10000 + N % D * 10000 / D) with
        | nil => exact absurd hh this
        | cons => simp
      refine ⟨_, rfl, by omega, by rw [ba_size]; omega, ?_⟩
      rw [ba_drop]
      refine (trimRight_c _ (by simp; omega) h10).mono ?_
      rintro _ _ ⟨rfl, rfl⟩
      have htl : (Lib.trimRightB ((Lib.decDigits (10000 + N % D * 10000 / D)).drop 1) 48).length ≤ 4 := by
        obtain ⟨k, hk⟩ := trimR_split ((Lib.decDigits (10000 + N % D * 10000 / D)).drop 1)
        have := congrArg List.length hk
        rw [List.length_append, List.length_drop] at this
        omega
      generalize Lib.trimRightB ((Lib.decDigits (10000 + N % D * 10000 / D)).drop 1) 48 = b at *
      refine ⟨_, rfl, ?_⟩
      rw [c46, ba_append, ba_append, ba_size, ba_size, ba_size, ba_size]
      refine ⟨by simp; omega, by simp; omega, ?_⟩
      exact fin_text (R := fun x => x = _ ∧ Le h h10) (by simp; omega) ⟨rfl, (hl08.trans hl9).trans hl10⟩
    · have q2' := of_decide_eq_false q2
      have q3' := of_decide_eq_false q3
      refine (of_c 999 (by omega) h8).mono ?_
      rintro _ h9 ⟨A10, n10, c10, rfl, a10, hX, hl9⟩
      have hl39 := hl38.trans hl9
      refine ⟨_, _, _, rfl, hl9, (cmp_c ((hDn.mono hl3).mono hl39).is hX.is (by omega) (by omega)).mono ?_⟩
      rintro _ _ ⟨rfl, rfl⟩
      refine ⟨_, rfl, ?_⟩
      rw [cmp_gt]
      refine Br.mk (fun q4 => ?_) (fun q4 => ?_)
      · have q4' := of_decide_eq_true q4
        have e : bodyF N D = none := by rw [bodyF, if_neg q1', if_neg q2', if_neg q3', if_pos q4']
        rw [e]
        exact ⟨rfl, hl08.trans hl9⟩
      · have q4' := of_decide_eq_false q4
        have e : bodyF N D = some (if N / D = 0 then Lib.decDigits (N % D) ++ 47 :: Lib.decDigits D else Lib.decDigits (N / D) ++ 32 :: (Lib.decDigits (N % D) ++ 47 :: Lib.decDigits D)) := by rw [bodyF, if_neg q1', if_neg q2', if_neg q3', if_neg q4']
        rw [e]
        have lr := dec_len (n := N % D) (k := 3) (by omega) (by decide)
        have lD := dec_len (n := D) (k := 3) (by omega) (by decide)
        refine (textT_c (hR.mono hl39).is (by omega) ((tb2.mono hl3).mono hl39)).mono ?_
        rintro _ h10 ⟨rfl, hl10⟩
        refine ⟨_, rfl, hl10, by rw [ba_size, c47, ba_size]; simp; omega, ?_⟩
        refine (textT_c ((hDn.mono hl3).mono (hl39.trans hl10)).is (by omega) ((tb2.mono hl3).mono (hl39.trans hl10))).mono ?_
        rintro _ h11 ⟨rfl, hl11⟩
        have hle := ((hl08.trans hl9).trans hl10).trans hl11
        refine ⟨_, rfl, ?_⟩
        rw [c47, c32, ba_append, ba_append, ba_append, ba_append, ba_size, ba_size, ba_size, ba_size, ba_size, ba_size]
        refine ⟨by simp; omega, Br.mk (fun q5 => ?_) (fun q5 => ⟨by simp [ByteArray.size]; omega, by simp [ByteArray.size]; omega, ?_⟩)⟩
        · have q5' := of_decide_eq_true q5
          rw [if_pos q5']
          refine fin_text (R := fun x => x = _ ∧ Le h h11) (by simp; omega) ⟨?_, hle⟩
          simp
        · have q5' := of_decide_eq_false q5
          rw [if_neg q5']
          refine fin_text (R := fun x => x = _ ∧ Le h h11) (by simp; omega) ⟨?_, hle⟩
          simp
end Go.Proofs.YtccplhjglhdopaaGreatDoor

/-
  The law's examples: garmentlaw04.alive.
-/
namespace Go.Proofs.YtccplhjglhdopaaGreatDoor
open Go Go.Vcg
attribute [local irreducible] Br

theorem parse_some {l : List UInt8} {q : Rat} (hl : l.length ≤ 24) (hp : parseV l = some q) (h : Heap) :
    CallsU Tryz.prog 12 [sv l] h fun r h' => ∃ s A n c B m d, r = .tuple #[.agg #[.bool s, .slice A n c, .slice B m d], .int .i64 0] ∧ NmQ h' s A n c B m d q ∧ n ≤ 64 ∧ m ≤ 64 ∧ Le h h' := by
  refine (parse_c l hl h).mono ?_
  rintro _ h1 ⟨hr, hl1⟩
  rw [hp] at hr
  obtain ⟨s, A, n, c, B, m, d, rfl, a, b, e⟩ := hr
  exact ⟨_, _, _, _, _, _, _, rfl, a, b, e, hl1⟩

theorem parse_none {l : List UInt8} (hl : l.length ≤ 24) (hp : parseV l = none) (h : Heap) :
    CallsU Tryz.prog 12 [sv l] h fun r h' => r = .tuple #[.agg #[.bool false, .slice none 0 0, .slice none 0 0], .int .i64 2] ∧ Le h h' := by
  refine (parse_c l hl h).mono ?_
  rintro _ h1 ⟨hr, hl1⟩
  rw [hp] at hr
  exact ⟨hr, hl1⟩

theorem fmtR_some {q : Rat} {t : List UInt8} (h : formatV q = some t) : fmtR q = .tuple #[sv t, .int .i64 0] := by unfold fmtR; rw [h]
theorem fmtR_none {q : Rat} (h : formatV q = none) : fmtR q = .tuple #[sv [], .int .i64 3] := by unfold fmtR; rw [h]
theorem unitsR_some {q : Rat} {n : Int} (h : unitsV q = some n) : unitsR q = .tuple #[.int .i64 n, .int .i64 0] := by unfold unitsR; rw [h]
theorem unitsR_none {q : Rat} (h : unitsV q = none) : unitsR q = .tuple #[.int .i64 0, .int .i64 3] := by unfold unitsR; rw [h]

theorem al1 : parseV [49, 32, 49, 47, 50, 105, 110] = some ((3810 : Int) : Rat) := by decide +kernel
theorem al2 : parseV [45, 50, 46, 53, 99, 109] = some ((-2500 : Int) : Rat) := by decide +kernel
theorem al3 : parseV [48, 53, 109, 109] = none := by decide +kernel
theorem al4 : formatV ((3810 : Int) : Rat) = some [51, 56, 46, 49, 109, 109] := by decide +kernel
theorem al5 : formatV (((-700 : Int) : Rat) / ((3 : Int) : Rat)) = some [45, 50, 32, 49, 47, 51, 109, 109] := by decide +kernel
theorem al6 : unitsV (((-5 : Int) : Rat) / ((2 : Int) : Rat)) = some (-3) := by decide +kernel

theorem alive_c {h : Heap} (tb : Tab h) : CallsU Tryz.prog 11 [] h fun r h' => r = .bool true ∧ Le h h' := by
  apply law04_alive_ok
  refine (parse_some (by decide) al1 h).mono ?_
  rintro _ h1 ⟨s1, A1, n1, c1, B1, m1, d1, rfl, hN1, a1, b1, hl1⟩
  refine ⟨_, _, _, _, _, _, _, _, rfl, (parse_some (by decide) al2 h1).mono ?_⟩
  rintro _ h2 ⟨s2, A2, n2, c2, B2, m2, d2, rfl, hN2, a2, b2, hl2⟩
  refine ⟨_, _, _, _, _, _, _, _, rfl, (parse_none (by decide) al3 h2).mono ?_⟩
  rintro _ h3 ⟨rfl, hl3⟩
  refine ⟨_, _, _, _, _, _, _, _, rfl, (whole_c 3810 (by omega) (by omega) h3).mono ?_⟩
  rintro _ h4 ⟨s4, A4, n4, c4, B4, m4, d4, rfl, hN4, a4, b4, hl4⟩
  have l4 := ((hl1.trans hl2).trans hl3).trans hl4
  refine ⟨_, _, _, _, _, _, _, rfl, (format_c hN4.is (by omega) (by omega) (tb.mono l4)).mono ?_⟩
  rintro _ h5 ⟨rfl, hl5⟩
  rw [fmtR_some al4]
  refine ⟨_, _, rfl, (r3of_c (-700) 3 (by omega) (by omega) (by omega) (by omega) (by omega) h5).mono ?_⟩
  rintro _ h6 ⟨s6, A6, n6, c6, B6, m6, d6, rfl, hN6, a6, b6, hl6⟩
  refine ⟨_, _, _, _, _, _, _, _, rfl, (format_c hN6.is (by omega) (by omega) (((tb.mono l4).mono hl5).mono hl6)).mono ?_⟩
  rintro _ h7 ⟨rfl, hl7⟩
  rw [fmtR_some al5]
  refine ⟨_, _, rfl, (r3of_c (-5) 2 (by omega) (by omega) (by omega) (by omega) (by omega) h7).mono ?_⟩
  rintro _ h8 ⟨s8, A8, n8, c8, B8, m8, d8, rfl, hN8, a8, b8, hl8⟩
  refine ⟨_, _, _, _, _, _, _, _, rfl, (units_c hN8.is (by omega) (by omega)).mono ?_⟩
  rintro _ h9 ⟨rfl, hl9⟩
  rw [unitsR_some al6]
  have l59 := (((hl5.trans hl6).trans hl7).trans hl8).trans hl9
  have l19 := ((hl2.trans hl3).trans hl4).trans l59
  refine ⟨_, _, rfl, fun t h' => t = false ∧ h9 = h', ?_, ?_⟩
  · rintro _ _ ⟨rfl, rfl⟩
    refine Br.mk (fun q => by cases q) (fun _ => (whole_c 3810 (by omega) (by omega) h9).mono ?_)
    rintro _ h10 ⟨s10, A10, n10, c10, B10, m10, d10, rfl, hN10, a10, b10, hl10⟩
    refine ⟨_, _, _, _, _, _, _, rfl, hl10, (same_c ((hN1.mono l19).mono hl10) hN10 (by omega) (by omega)).mono ?_⟩
    rintro _ _ ⟨rfl, rfl⟩
    refine ⟨_, rfl, Br.mk (fun _ => ?_) (fun q => by cases q)⟩
    refine (whole_c (-2500) (by omega) (by omega) h10).mono ?_
    rintro _ h11 ⟨s11, A11, n11, c11, B11, m11, d11, rfl, hN11, a11, b11, hl11⟩
    have l29 := (hl3.trans hl4).trans l59
    refine ⟨_, _, _, _, _, _, _, rfl, hl11, (same_c (((hN2.mono l29).mono hl10).mono hl11) hN11 (by omega) (by omega)).mono ?_⟩
    rintro _ _ ⟨rfl, rfl⟩
    refine ⟨_, rfl, Br.mk (fun _ => Br.mk (fun _ => Br.mk (fun _ => ⟨rfl, ((hl1.trans l19).trans hl10).trans hl11⟩) (fun q => ?_)) (fun q => ?_)) (fun q => by cases q)⟩
    · simp at q
    · simp at q
  · exact Br.mk (fun q => by cases q) (fun _ => Br.mk (fun q => by cases q) (fun _ => Br.mk (fun q => by cases q) (fun _ => Br.mk (fun q => by cases q) (fun _ => Br.mk (fun q => by cases q) (fun _ => ⟨rfl, rfl⟩)))))
end Go.Proofs.YtccplhjglhdopaaGreatDoor

/-
  The laws of chapter 04 that need no reference: Scales, RoundTrip, Signs, Rounds.
-/
namespace Go.Proofs.YtccplhjglhdopaaGreatDoor
open Go Go.Vcg
attribute [local irreducible] Br

theorem aliveF {h h0 : Heap} (tb : Tab h) (l : Le h h0) : CallsU Tryz.prog 11 [] h0 fun v h_1 => ∃ t : Bool, v = Value.bool t ∧ (Value.bool t = .bool true ∧ Le h h_1) :=
  (alive_c (tb.mono l)).mono fun _ _ ⟨a, b⟩ => ⟨true, a, rfl, l.trans b⟩

theorem cmpQ_self (q : Rat) : cmpQ q q = 0 := by unfold cmpQ; rw [if_neg Rat.lt_irrefl, if_neg Rat.lt_irrefl]

theorem cmp_eq_c {h : Heap} {s s2 : Bool} {A B C D : Option Addr} {n c m d n2 c2 m2 d2 : Nat} {q p : Rat} (e : q = p) (u : IsQ h s A n c B m d q) (w : IsQ h s2 C n2 c2 D m2 d2 p) (hn : n ≤ 274877906944) (hm : m ≤ 274877906944) (hn2 : n2 ≤ 274877906944) (hm2 : m2 ≤ 274877906944) :
    CallsU Tryz.prog 20 [.agg #[.bool s, .slice A n c, .slice B m d], .agg #[.bool s2, .slice C n2 c2, .slice D m2 d2]] h fun r h' => r = .int .i64 0 ∧ Le h h' := by
  subst e
  refine (rcmp_c u w hn hm hn2 hm2).mono ?_
  rintro _ _ ⟨rfl, hl⟩
  rw [cmpQ_self]
  exact ⟨rfl, hl⟩

theorem IsQ.zero (h : Heap) : IsQ h false none 0 0 none 0 0 0 := ⟨0, 0, IsI.pos (NmN.nil h none 0).is, (NmN.nil h none 0).is, by simp⟩

/-- The error of a text that is no measure. -/
def errP (l : List UInt8) : Int := if l.length ≤ 24 then 2 else 5
def parseL (l : List UInt8) : Option Rat := if l.length ≤ 24 then parseV l else none

theorem parse_any (l : List UInt8) (h : Heap) :
    CallsU Tryz.prog 12 [sv l] h fun r h' => ((∃ q s A n c B m d, parseL l = some q ∧ r = .tuple #[.agg #[.bool s, .slice A n c, .slice B m d], .int .i64 0] ∧ NmQ h' s A n c B m d q ∧ n ≤ 64 ∧ m ≤ 64) ∨ (parseL l = none ∧ r = .tuple #[.agg #[.bool false, .slice none 0 0, .slice none 0 0], .int .i64 (errP l)])) ∧ Le h h' := by
  unfold parseL errP
  by_cases hl : l.length ≤ 24
  · rw [if_pos hl, if_pos hl]
    cases hp : parseV l with
    | some q =>
      refine (parse_some hl hp h).mono ?_
      rintro _ h1 ⟨s1, A1, n1, c1, B1, m1, d1, rfl, hN1, a1, b1, hl1⟩
      exact ⟨Or.inl ⟨_, _, _, _, _, _, _, _, rfl, rfl, hN1, a1, b1⟩, hl1⟩
    | none =>
      refine (parse_none hl hp h).mono ?_
      rintro _ h1 ⟨rfl, hl1⟩
      exact ⟨Or.inr ⟨rfl, rfl⟩, hl1⟩
  · rw [if_neg hl, if_neg hl]
    apply measure_Parse_ok
    unfold measure_Parse_vc
    rw [ba_size]
    exact Br.mk (fun _ => ⟨Or.inr ⟨rfl, rfl⟩, Le.refl _⟩) (fun q => by have := of_decide_eq_false q; omega)

theorem scales_law (l : List UInt8) {h : Heap} (tb : Tab h) : CallsU Tryz.prog 8 [sv l] h fun v h' => v = .bool true ∧ Le h h' := by
  apply law04_MeasureScales_ok
  unfold law04_MeasureScales_vc
  have cc : (⟨#[99, 109]⟩ : ByteArray) = ⟨([99, 109] : List UInt8).toArray⟩ := rfl
  have cm : (⟨#[109]⟩ : ByteArray) = ⟨([109] : List UInt8).toArray⟩ := rfl
  have ci : (⟨#[105, 110]⟩ : ByteArray) = ⟨([105, 110] : List UInt8).toArray⟩ := rfl
  rw [cmm, cc, cm, ci, ba_append, ba_append, ba_append, ba_append, ba_size, ba_size, ba_size, ba_size, ba_size]
  refine Br.mk (fun _ => aliveF tb (Le.refl _)) (fun q => ?_)
  have q' := of_decide_eq_false q
  refine ⟨by simp; omega, ?_⟩
  cases hp : parseV (l ++ [109, 109]) with
  | none =>
    refine (parse_none (by simp; omega) hp h).mono ?_
    rintro _ h1 ⟨rfl, hl1⟩
    exact ⟨_, _, _, _, _, _, _, _, rfl, Br.mk (fun _ => aliveF tb hl1) (fun q => by cases q)⟩
  | some x =>
    obtain ⟨m1, m2, m3⟩ := isM_scale (parseV_isM hp)
    refine (parse_some (by simp; omega) hp h).mono ?_
    rintro _ h1 ⟨s1, A1, n1, c1, B1, m1, d1, rfl, hN1, a1, b1, hl1⟩
    refine ⟨_, _, _, _, _, _, _, _, rfl, Br.mk (fun q => by cases q) (fun _ => ⟨by simp; omega, ?_⟩)⟩
    refine (parse_some (by simp; omega) (IsM.parse ‹IsM (l ++ [99, 109]) _›) h1).mono ?_
    rintro _ h2 ⟨s2, A2, n2, c2, B2, m2, d2, rfl, hN2, a2, b2, hl2⟩
    refine ⟨_, _, _, _, _, _, _, _, rfl, by simp; omega, ?_⟩
    refine (parse_some (by simp; omega) (IsM.parse ‹IsM (l ++ [109]) _›) h2).mono ?_
    rintro _ h3 ⟨s3, A3, n3, c3, B3, m3, d3, rfl, hN3, a3, b3, hl3⟩
    refine ⟨_, _, _, _, _, _, _, _, rfl, by simp; omega, ?_⟩
    refine (parse_some (by simp; omega) (IsM.parse ‹IsM (l ++ [105, 110]) _›) h3).mono ?_
    rintro _ h4 ⟨s4, A4, n4, c4, B4, m4, d4, rfl, hN4, a4, b4, hl4⟩
    refine ⟨_, _, _, _, _, _, _, _, rfl, fun t h' => t = false ∧ h4 = h', ?_, Br.mk (fun q => by cases q) (fun _ => Br.mk (fun q => by cases q) (fun _ => ⟨rfl, rfl⟩))⟩
    rintro _ _ ⟨rfl, rfl⟩
    refine Br.mk (fun q => by cases q) (fun _ => ?_)
    refine (rof_c 10 1 (by omega) (by omega) (by omega) (by omega) (by omega) h4).mono ?_
    rintro _ h5 ⟨s5, A5, n5, c5, B5, m5, d5, rfl, hN5, a5, b5, hl5⟩
    refine ⟨_, _, _, _, _, _, _, _, rfl, (rof_c 1000 1 (by omega) (by omega) (by omega) (by omega) (by omega) h5).mono ?_⟩
    rintro _ h6 ⟨s6, A6, n6, c6, B6, m6, d6, rfl, hN6, a6, b6, hl6⟩
    refine ⟨_, _, _, _, _, _, _, _, rfl, (rof_c 127 5 (by omega) (by omega) (by omega) (by omega) (by omega) h6).mono ?_⟩
    rintro _ h7 ⟨s7, A7, n7, c7, B7, m7, d7, rfl, hN7, a7, b7, hl7⟩
    have l17 := ((((hl2.trans hl3).trans hl4).trans hl5).trans hl6).trans hl7
    have l27 := (((hl3.trans hl4).trans hl5).trans hl6).trans hl7
    have l37 := ((hl4.trans hl5).trans hl6).trans hl7
    have l47 := (hl5.trans hl6).trans hl7
    have e1 : (((10 : Int) : Rat) / ((1 : Int) : Rat)) = 10 := by decide +kernel
    have e2 : (((1000 : Int) : Rat) / ((1 : Int) : Rat)) = 1000 := by decide +kernel
    have e3 : (((127 : Int) : Rat) / ((5 : Int) : Rat)) = 127 / 5 := rfl
    rw [e1] at hN5
    rw [e2] at hN6
    rw [e3] at hN7
    refine ⟨_, _, _, _, _, _, _, _, rfl, (rmul_c (hN1.mono l17).is (hN5.mono (hl6.trans hl7)).is (by omega) (by omega) (by omega) (by omega)).mono ?_⟩
    rintro _ h8 ⟨s8, A8, n8, c8, B8, m8, d8, rfl, hN8, a8, b8, hl8⟩
    refine ⟨_, _, _, _, _, _, _, rfl, hl8, (cmp_eq_c rfl ((hN2.mono l27).mono hl8).is hN8.is (by omega) (by omega) (by omega) (by omega)).mono ?_⟩
    rintro _ h9 ⟨rfl, hl9⟩
    refine ⟨_, rfl, Br.mk (fun _ => ?_) (fun q => by cases q)⟩
    have l79 := hl8.trans hl9
    refine (rmul_c ((hN1.mono l17).mono l79).is ((hN6.mono hl7).mono l79).is (by omega) (by omega) (by omega) (by omega)).mono ?_
    rintro _ h10 ⟨s10, A10, n10, c10, B10, m10, d10, rfl, hN10, a10, b10, hl10⟩
    refine ⟨_, _, _, _, _, _, _, rfl, hl10, (cmp_eq_c rfl (((hN3.mono l37).mono l79).mono hl10).is hN10.is (by omega) (by omega) (by omega) (by omega)).mono ?_⟩
    rintro _ h11 ⟨rfl, hl11⟩
    refine ⟨_, rfl, Br.mk (fun _ => ?_) (fun q => by cases q)⟩
    have l711 := (l79.trans hl10).trans hl11
    refine (rmul_c ((hN1.mono l17).mono l711).is (hN7.mono l711).is (by omega) (by omega) (by omega) (by omega)).mono ?_
    rintro _ h12 ⟨s12, A12, n12, c12, B12, m12, d12, rfl, hN12, a12, b12, hl12⟩
    refine ⟨_, _, _, _, _, _, _, rfl, hl12, (cmp_eq_c rfl (((hN4.mono l47).mono l711).mono hl12).is hN12.is (by omega) (by omega) (by omega) (by omega)).mono ?_⟩
    rintro _ h13 ⟨rfl, hl13⟩
    exact ⟨_, rfl, Br.mk (fun _ => aliveF tb (((hl1.trans l17).trans l711).trans (hl12.trans hl13))) (fun q => by cases q)⟩

theorem parse_nil : parseV [] = none := by decide +kernel

theorem roundtrip_law {h : Heap} {s : Bool} {A B : Option Addr} {n c m d : Nat} {q : Rat} (u : IsQ h s A n c B m d q) (l : List UInt8) (tb : Tab h) :
    CallsU Tryz.prog 6 [.agg #[.bool s, .slice A n c, .slice B m d], sv l] h fun v h' => v = .bool true ∧ Le h h' := by
  apply law04_MeasureRoundTrip_ok
  unfold law04_MeasureRoundTrip_vc
  rw [ba_size]
  refine ⟨fun t h' => h = h' ∧ (t = false → n ≤ 24 ∧ m ≤ 24), ?_, ?_⟩
  · rintro t _ ⟨rfl, ht⟩
    refine Br.mk (fun _ => aliveF tb (Le.refl _)) (fun q0 => ?_)
    obtain ⟨hn, hm⟩ := ht q0
    refine (format_c u (by omega) (by omega) tb).mono ?_
    rintro _ h1 ⟨rfl, hl1⟩
    have rest : ∀ h5, Le h h5 → CallsU Tryz.prog 12 [sv l] h5 fun v_3 h_6 => ∃ t48_0_0 : Bool, ∃ t48_0_1A : Option Addr, ∃ t48_0_1n t48_0_1c : Nat, ∃ t48_0_2A : Option Addr, ∃ t48_0_2n t48_0_2c : Nat, ∃ t48_1 : Int, v_3 = Value.tuple #[Value.agg #[Value.bool t48_0_0, Value.slice t48_0_1A t48_0_1n t48_0_1c, Value.slice t48_0_2A t48_0_2n t48_0_2c], Value.int .i64 t48_1] ∧
        Br ((t48_1 : Int) != 0)
          (CallsU Tryz.prog 11 [] h_6 fun v_4 h_7 => ∃ t53 : Bool, v_4 = Value.bool t53 ∧ (Value.bool t53 = Value.bool true ∧ Le h h_7))
          (CallsU Tryz.prog 16 [Value.agg #[Value.bool t48_0_0, Value.slice t48_0_1A t48_0_1n t48_0_1c, Value.slice t48_0_2A t48_0_2n t48_0_2c]] h_6 fun v_5 h_8 =>
            ∃ t56_0 : ByteArray, ∃ t56_1 : Int, v_5 = Value.tuple #[Value.string t56_0, Value.int .i64 t56_1] ∧
            CallsU Tryz.prog 12 [Value.string t56_0] h_8 fun v_6 h_9 =>
            ∃ t61_0_0 : Bool, ∃ t61_0_1A : Option Addr, ∃ t61_0_1n t61_0_1c : Nat, ∃ t61_0_2A : Option Addr, ∃ t61_0_2n t61_0_2c : Nat, ∃ t61_1 : Int, v_6 = Value.tuple #[Value.agg #[Value.bool t61_0_0, Value.slice t61_0_1A t61_0_1n t61_0_1c, Value.slice t61_0_2A t61_0_2n t61_0_2c], Value.int .i64 t61_1] ∧
            Br ((t56_1 : Int) == 3)
              (CallsU Tryz.prog 11 [] h_9 fun v_7 h_10 => ∃ t81 : Bool, v_7 = Value.bool t81 ∧ (Value.bool t81 = Value.bool true ∧ Le h h_10))
              (Br ((t56_1 : Int) == 0)
                (Br ((t61_1 : Int) == 0)
                  (CallsU Tryz.prog 20 [Value.agg #[Value.bool t48_0_0, Value.slice t48_0_1A t48_0_1n t48_0_1c, Value.slice t48_0_2A t48_0_2n t48_0_2c], Value.agg #[Value.bool t61_0_0, Value.slice t61_0_1A t61_0_1n t61_0_1c, Value.slice t61_0_2A t61_0_2n t61_0_2c]] h_9 fun v_8 h_11 =>
                    ∃ t76 : Int, v_8 = Value.int .i64 t76 ∧
                    Br ((t76 : Int) == 0)
                      (CallsU Tryz.prog 11 [] h_11 fun v_9 h_12 => ∃ t81_1 : Bool, v_9 = Value.bool t81_1 ∧ (Value.bool t81_1 = Value.bool true ∧ Le h h_12))
                      (Value.bool false = Value.bool true ∧ Le h h_11))
                  (Value.bool false = Value.bool true ∧ Le h h_9))
                (Value.bool false = Value.bool true ∧ Le h h_9))) := by
      intro h5 hl5
      refine (parse_any l h5).mono ?_
      rintro _ h6 ⟨⟨p, s6, A6, n6, c6, B6, m6, d6, hp, rfl, hN6, a6, b6⟩ | ⟨hp, rfl⟩, hl6⟩
      · refine ⟨_, _, _, _, _, _, _, _, rfl, Br.mk (fun q => by cases q) (fun _ => ?_)⟩
        refine (format_c hN6.is (by omega) (by omega) (tb.mono (hl5.trans hl6))).mono ?_
        rintro _ h7 ⟨rfl, hl7⟩
        cases hf : formatV p with
        | none =>
          rw [fmtR_none hf]
          refine ⟨_, _, rfl, (parse_none (by decide) parse_nil h7).mono ?_⟩
          rintro _ h8 ⟨rfl, hl8⟩
          exact ⟨_, _, _, _, _, _, _, _, rfl, Br.mk (fun _ => aliveF tb (((hl5.trans hl6).trans hl7).trans hl8)) (fun q => by cases q)⟩
        | some t =>
          obtain ⟨hM, hlen⟩ := format_isM hf
          rw [fmtR_some hf]
          refine ⟨_, _, rfl, (parse_some (by omega) hM.parse h7).mono ?_⟩
          rintro _ h8 ⟨s8, A8, n8, c8, B8, m8, d8, rfl, hN8, a8, b8, hl8⟩
          refine ⟨_, _, _, _, _, _, _, _, rfl, Br.mk (fun q => by cases q) (fun _ => Br.mk (fun _ => Br.mk (fun _ => ?_) (fun q => by cases q)) (fun q => by cases q))⟩
          refine (cmp_eq_c rfl ((hN6.mono hl7).mono hl8).is hN8.is (by omega) (by omega) (by omega) (by omega)).mono ?_
          rintro _ h9 ⟨rfl, hl9⟩
          exact ⟨_, rfl, Br.mk (fun _ => aliveF tb ((((hl5.trans hl6).trans hl7).trans hl8).trans hl9)) (fun q => by cases q)⟩
      · refine ⟨_, _, _, _, _, _, _, _, rfl, Br.mk (fun _ => aliveF tb (hl5.trans hl6)) (fun q => ?_)⟩
        unfold errP at q
        split at q <;> cases q
    cases hf : formatV q with
    | none =>
      rw [fmtR_none hf]
      refine ⟨_, _, rfl, (parse_none (by decide) parse_nil h1).mono ?_⟩
      rintro _ h2 ⟨rfl, hl2⟩
      exact ⟨_, _, _, _, _, _, _, _, rfl, fun h' => Le h h', fun h' hle => rest h' hle, Br.mk (fun q => by cases q) (fun _ => hl1.trans hl2)⟩
    | some t =>
      obtain ⟨hM, hlen⟩ := format_isM hf
      rw [fmtR_some hf]
      refine ⟨_, _, rfl, (parse_some (by omega) hM.parse h1).mono ?_⟩
      rintro _ h2 ⟨s2, A2, n2, c2, B2, m2, d2, rfl, hN2, a2, b2, hl2⟩
      refine ⟨_, _, _, _, _, _, _, _, rfl, fun h' => Le h h', fun h' hle => rest h' hle, Br.mk (fun _ => Br.mk (fun q => by cases q) (fun _ => ?_)) (fun q => by cases q)⟩
      refine (cmp_eq_c rfl hN2.is (u.mono (hl1.trans hl2)) (by omega) (by omega) (by omega) (by omega)).mono ?_
      rintro _ h3 ⟨rfl, hl3⟩
      exact ⟨_, rfl, Br.mk (fun q => by cases q) (fun _ => (hl1.trans hl2).trans hl3)⟩
  · refine (light_c s A B n c m d 24 h).mono ?_
    rintro _ _ ⟨rfl, rfl⟩
    refine ⟨_, rfl, Br.mk (fun q => ⟨rfl, fun q => by cases q⟩) (fun q => ⟨rfl, fun _ => ?_⟩)⟩
    have : decide (n ≤ 24 ∧ m ≤ 24) = true := by simpa using q
    exact of_decide_eq_true this

theorem parse_gen (l : List UInt8) (h : Heap) :
    CallsU Tryz.prog 12 [sv l] h fun r h' => ∃ s A n c B m d e, r = .tuple #[.agg #[.bool s, .slice A n c, .slice B m d], .int .i64 e] ∧ ((∃ q, parseL l = some q ∧ e = 0 ∧ NmQ h' s A n c B m d q ∧ n ≤ 64 ∧ m ≤ 64) ∨ (parseL l = none ∧ e = errP l)) ∧ Le h h' := by
  refine (parse_any l h).mono ?_
  rintro _ h6 ⟨⟨p, s6, A6, n6, c6, B6, m6, d6, hp, rfl, hN6, a6, b6⟩ | ⟨hp, rfl⟩, hl6⟩
  · exact ⟨_, _, _, _, _, _, _, _, rfl, Or.inl ⟨p, hp, rfl, hN6, a6, b6⟩, hl6⟩
  · exact ⟨_, _, _, _, _, _, _, _, rfl, Or.inr ⟨hp, rfl⟩, hl6⟩

theorem format_gen {h : Heap} {s : Bool} {A B : Option Addr} {n c m d : Nat} {q : Rat} (u : IsQ h s A n c B m d q) (hn : n ≤ 1000000) (hm : m ≤ 1000000) (tb : Tab h) :
    CallsU Tryz.prog 16 [.agg #[.bool s, .slice A n c, .slice B m d]] h fun r h' => ∃ t e, r = .tuple #[sv t, .int .i64 e] ∧ ((formatV q = some t ∧ e = 0 ∧ t.length ≤ 18) ∨ (formatV q = none ∧ t = [] ∧ e = 3)) ∧ Le h h' := by
  refine (format_c u hn hm tb).mono ?_
  rintro _ h1 ⟨rfl, hl1⟩
  cases hf : formatV q with
  | none => rw [fmtR_none hf]; exact ⟨_, _, rfl, Or.inr ⟨rfl, rfl, rfl⟩, hl1⟩
  | some t => rw [fmtR_some hf]; exact ⟨_, _, rfl, Or.inl ⟨rfl, rfl, (format_isM hf).2⟩, hl1⟩

theorem signs_law {h : Heap} {s : Bool} {A B : Option Addr} {n c m d : Nat} {x : Rat} (u : IsQ h s A n c B m d x) (l : List UInt8) (tb : Tab h) :
    CallsU Tryz.prog 7 [.agg #[.bool s, .slice A n c, .slice B m d], sv l] h fun v h' => v = .bool true ∧ Le h h' := by
  apply law04_MeasureSigns_ok
  unfold law04_MeasureSigns_vc
  have c0 : (⟨#[48, 109, 109]⟩ : ByteArray) = ⟨([48, 109, 109] : List UInt8).toArray⟩ := rfl
  rw [ba_size, c45, c0, ba_append, ba_size]
  refine ⟨fun h' => h = h' ∧ n ≤ 24 ∧ m ≤ 24 ∧ l.length ≤ 23 ∧ l.head? ≠ some 45, ?_, ?_⟩
  · rintro _ ⟨rfl, hn, hm, hlen, hh⟩
    have hpl : parseL l = parseV l := if_pos (by omega)
    have hpm : parseL (45 :: l) = (parseV l).map fun q => -q := by
      unfold parseL
      rw [if_pos (by simp; omega)]
      exact parse_signs hh
    have ee : errP l = 2 := if_pos (by omega)
    have ee' : errP (45 :: l) = 2 := if_pos (by simp; omega)
    refine (parse_gen l h).mono ?_
    rintro _ h1 ⟨s1, A1, n1, c1, B1, m1, d1, e1, rfl, hr1, hl1⟩
    refine ⟨_, _, _, _, _, _, _, _, rfl, by simp; omega, (parse_gen (45 :: l) h1).mono ?_⟩
    rintro _ h2 ⟨s2, A2, n2, c2, B2, m2, d2, e2, rfl, hr2, hl2⟩
    have hl12 := hl1.trans hl2
    refine ⟨_, _, _, _, _, _, _, _, rfl, fun h' => Le h h', ?_, ?_⟩
    · intro h4 hl4
      refine (format_gen (u.mono hl4) (by omega) (by omega) (tb.mono hl4)).mono ?_
      rintro _ h5 ⟨t5, e5, rfl, hf5, hl5⟩
      refine ⟨_, _, rfl, (rneg_c (u.mono (hl4.trans hl5)) (by omega) (by omega)).mono ?_⟩
      rintro _ h6 ⟨s6, A6, n6, c6, B6, m6, d6, rfl, hN6, a6, b6, hl6⟩
      have hl46 := (hl4.trans hl5).trans hl6
      refine ⟨_, _, _, _, _, _, _, rfl, (format_gen hN6.is (by omega) (by omega) (tb.mono hl46)).mono ?_⟩
      rintro _ h7 ⟨t7, e7, rfl, hf7, hl7⟩
      have hl47 := hl46.trans hl7
      have cmp : ∀ {K : Value → Heap → Prop}, (∀ h8, Le h h8 → K (.int .i64 (cmpQ x 0)) h8) → CallsU Tryz.prog 20 [.agg #[.bool s, .slice A n c, .slice B m d], .agg #[.bool false, .slice none 0 0, .slice none 0 0]] h7 K := fun hK => by
        refine (rcmp_c (u.mono hl47) (IsQ.zero h7) (by omega) (by omega) (by omega) (by omega)).mono ?_
        rintro _ h8 ⟨rfl, hl8⟩
        exact hK h8 (hl47.trans hl8)
      refine ⟨_, _, rfl, ?_⟩
      simp only [ba_append, bytes_toList, ba_size]
      by_cases hx : x = 0
      · subst hx
        rw [format_zero] at hf5
        rw [show (-0 : Rat) = 0 from rfl, format_zero] at hf7
        rcases hf5 with ⟨e, rfl, _⟩ | ⟨e, _⟩
        · cases e
          rcases hf7 with ⟨e, rfl, _⟩ | ⟨e, _⟩
          · cases e
            refine Br.mk (fun q => by cases q) (fun _ => cmp fun h8 hl8 => ?_)
            rw [cmpQ_self]
            refine ⟨_, rfl, Br.mk (fun q => by cases q) (fun _ => Br.mk (fun _ => Br.mk (fun _ => Br.mk (fun _ => aliveF tb hl8) (fun q => by simp at q)) (fun q => by simp at q)) (fun q => by cases q))⟩
          · cases e
        · cases e
      · rcases format_neg x hx with ⟨f1, f2⟩ | ⟨t, ⟨hpos, f1, f2⟩ | ⟨hneg, f1, f2⟩⟩
        · rw [f1] at hf5
          rw [f2] at hf7
          rcases hf5 with ⟨e, _⟩ | ⟨_, rfl, rfl⟩
          · cases e
          · rcases hf7 with ⟨e, _⟩ | ⟨_, rfl, rfl⟩
            · cases e
            · refine Br.mk (fun q => by cases q) (fun _ => cmp fun h8 hl8 => ⟨_, rfl, Br.mk (fun _ => aliveF tb hl8) (fun q => by cases q)⟩)
        · rw [f1] at hf5
          rw [f2] at hf7
          rcases hf5 with ⟨e, rfl, lt⟩ | ⟨e, _⟩
          · cases e
            rcases hf7 with ⟨e, rfl, _⟩ | ⟨e, _⟩
            · cases e
              have ec : cmpQ x 0 = 1 := by
                unfold cmpQ
                rw [if_neg (by grind), if_pos hpos]
              refine Br.mk (fun q => by cases q) (fun _ => cmp fun h8 hl8 => ?_)
              rw [ec]
              refine ⟨_, rfl, Br.mk (fun q => by cases q) (fun _ => Br.mk (fun q => by cases q) (fun _ => Br.mk (fun _ => ⟨by simp; omega, Br.mk (fun _ => aliveF tb hl8) (fun q => by simp at q)⟩) (fun q => by cases q)))⟩
            · cases e
          · cases e
        · rw [f1] at hf5
          rw [f2] at hf7
          rcases hf5 with ⟨e, rfl, _⟩ | ⟨e, _⟩
          · cases e
            rcases hf7 with ⟨e, rfl, lt⟩ | ⟨e, _⟩
            · cases e
              have ec : cmpQ x 0 = -1 := by
                unfold cmpQ
                rw [if_pos hneg]
              refine Br.mk (fun q => by cases q) (fun _ => cmp fun h8 hl8 => ?_)
              rw [ec]
              refine ⟨_, rfl, Br.mk (fun q => by cases q) (fun _ => Br.mk (fun q => by cases q) (fun _ => Br.mk (fun q => by cases q) (fun _ => Br.mk (fun _ => ⟨by simp; omega, Br.mk (fun _ => aliveF tb hl8) (fun q => by simp at q)⟩) (fun q => by cases q))))⟩
            · cases e
          · cases e
    · rw [hpl] at hr1
      rw [hpm] at hr2
      rcases hr1 with ⟨p, hp, rfl, hN1, a1, b1⟩ | ⟨hp, rfl⟩
      · rw [hp] at hr2
        rcases hr2 with ⟨p', hp', rfl, hN2, a2, b2⟩ | ⟨hp', _⟩
        · cases hp'
          refine Br.mk (fun q => by cases q) (fun _ => Br.mk (fun _ => ?_) (fun q => by cases q))
          refine (rneg_c (hN1.mono hl2).is (by omega) (by omega)).mono ?_
          rintro _ h3 ⟨s3, A3, n3, c3, B3, m3, d3, rfl, hN3, a3, b3, hl3⟩
          refine ⟨_, _, _, _, _, _, _, rfl, hl3, (cmp_eq_c rfl hN3.is (hN2.mono hl3).is (by omega) (by omega) (by omega) (by omega)).mono ?_⟩
          rintro _ h4 ⟨rfl, hl4⟩
          exact ⟨_, rfl, Br.mk (fun q => by cases q) (fun _ => (hl12.trans hl3).trans hl4)⟩
        · cases hp'
      · rw [hp] at hr2
        rcases hr2 with ⟨p', hp', _⟩ | ⟨_, rfl⟩
        · cases hp'
        · rw [ee, ee']
          exact Br.mk (fun q => by cases q) (fun _ => Br.mk (fun q => by cases q) (fun _ => ⟨Le.refl _, hl12⟩))
  · refine (light_c s A B n c m d 24 h).mono ?_
    rintro _ _ ⟨rfl, rfl⟩
    refine ⟨_, rfl, Br.mk (fun _ => aliveF tb (Le.refl _)) (fun q => Br.mk (fun _ => aliveF tb (Le.refl _)) (fun q2 => Br.mk (fun q3 => ?_) (fun q3 => ?_)))⟩
    · have hnm : n ≤ 24 ∧ m ≤ 24 := of_decide_eq_true (by simpa using q)
      have q2' := of_decide_eq_false q2
      have q3' := of_decide_eq_true q3
      cases l with
      | nil => simp at q3'
      | cons y r =>
        refine ⟨y, by omega, by rw [ba_get]; rfl, Br.mk (fun _ => aliveF tb (Le.refl _)) (fun q4 => ⟨rfl, hnm.1, hnm.2, by omega, ?_⟩)⟩
        simp only [List.head?_cons, ne_eq, Option.some.injEq]
        rintro rfl
        cases q4
    · have hnm : n ≤ 24 ∧ m ≤ 24 := of_decide_eq_true (by simpa using q)
      have q3' := of_decide_eq_false q3
      cases l with
      | nil => exact ⟨rfl, hnm.1, hnm.2, by simp, by simp⟩
      | cons y r => simp at q3'

theorem cmpQ_lt {x y : Rat} : (decide (cmpQ x y < 0)) = decide (x < y) := by
  unfold cmpQ
  by_cases h : x < y
  · rw [if_pos h, decide_eq_true h]; rfl
  · rw [if_neg h, decide_eq_false h]
    split <;> rfl

theorem cmpQ_ge {x y : Rat} : (decide (cmpQ x y ≥ 0)) = decide (¬ x < y) := by
  unfold cmpQ
  by_cases h : x < y
  · rw [if_pos h, decide_eq_false (p := ¬ x < y) (fun q => q h)]; rfl
  · rw [if_neg h, decide_eq_true h]
    split <;> rfl

theorem cmpQ_le {x y : Rat} : (decide (cmpQ x y ≤ 0)) = decide (x ≤ y) := by
  unfold cmpQ
  by_cases h : y < x
  · rw [if_neg (by grind), if_pos h, decide_eq_false (p := x ≤ y) (Rat.not_le.2 h)]; rfl
  · rw [decide_eq_true (Rat.not_lt.1 h)]
    split
    · rfl
    · rfl

theorem rounds_law {h : Heap} {s : Bool} {A B : Option Addr} {n c m d : Nat} {x : Rat} (u : IsQ h s A n c B m d x) (tb : Tab h) :
    CallsU Tryz.prog 10 [.agg #[.bool s, .slice A n c, .slice B m d]] h fun v h' => v = .bool true ∧ Le h h' := by
  apply law04_MeasureRounds_ok
  refine (light_c s A B n c m d 24 h).mono ?_
  rintro _ _ ⟨rfl, rfl⟩
  refine ⟨_, rfl, Br.mk (fun _ => aliveF tb (Le.refl _)) (fun q => ?_)⟩
  have hnm : n ≤ 24 ∧ m ≤ 24 := of_decide_eq_true (by simpa using q)
  obtain ⟨hn, hm⟩ := hnm
  refine (units_c u (by omega) (by omega)).mono ?_
  rintro _ h1 ⟨rfl, hl1⟩
  have hun := units_neg x
  obtain ⟨near1, near2⟩ := rnd_near x
  have hlim := units_lim x
  have eu : unitsR x = .tuple #[.int .i64 ((unitsV x).getD 0), .int .i64 (if (unitsV x).isSome then 0 else 3)] := by unfold unitsR; cases unitsV x <;> rfl
  have eun : unitsR (-x) = .tuple #[.int .i64 (-(unitsV x).getD 0), .int .i64 (if (unitsV x).isSome then 0 else 3)] := by unfold unitsR; rw [hun]; cases unitsV x <;> rfl
  rw [eu]
  refine ⟨_, _, rfl, (rneg_c (u.mono hl1) (by omega) (by omega)).mono ?_⟩
  rintro _ h2 ⟨s2, A2, n2, c2, B2, m2, d2, rfl, hN2, a2, b2, hl2⟩
  refine ⟨_, _, _, _, _, _, _, rfl, (units_c hN2.is (by omega) (by omega)).mono ?_⟩
  rintro _ h3 ⟨rfl, hl3⟩
  rw [eun]
  have hl03 := (hl1.trans hl2).trans hl3
  have hb : -1048576 ≤ (unitsV x).getD 0 ∧ (unitsV x).getD 0 ≤ 1048576 := by
    unfold unitsV
    split
    · simp only [Option.getD_some]; omega
    · simp
  refine ⟨_, _, rfl, fun t h' => t = false ∧ h3 = h', ?_, ?_⟩
  · rintro _ _ ⟨rfl, rfl⟩
    refine Br.mk (fun q => by cases q) (fun _ => ?_)
    refine ⟨fun s' A' n' c' B' m' d' h' => IsQ h' s' A' n' c' B' m' d' (absQ x) ∧ n' ≤ 24 ∧ m' ≤ 24 ∧ Le h h', ?_, ?_⟩
    · rintro s4 A4 n4 c4 B4 m4 d4 h4 ⟨hQ4, a4, b4, hl4⟩
      refine (rof_c 2097153 2 (by omega) (by omega) (by omega) (by omega) (by omega) h4).mono ?_
      rintro _ h5 ⟨s5, A5, n5, c5, B5, m5, d5, rfl, hN5, a5, b5, hl5⟩
      have e5 : (((2097153 : Int) : Rat) / ((2 : Int) : Rat)) = mkRat 2097153 2 := by rw [Rat.mkRat_eq_div]; rfl
      rw [e5] at hN5
      refine ⟨_, _, _, _, _, _, _, _, rfl, ?_⟩
      cases hu : unitsV x with
      | none =>
        have hbig : ¬ absQ x < mkRat 2097153 2 := fun q => by
          have := hlim.2 q
          unfold unitsV at hu
          rw [if_pos this] at hu
          cases hu
        refine Br.mk (fun _ => ⟨fun t h' => t = true ∧ Le h h', ?_, Br.mk (fun _ => Br.mk (fun _ => ?_) (fun q => by cases q)) (fun q => by cases q)⟩) (fun q => by cases q)
        · rintro _ _ ⟨rfl, hle⟩
          exact ⟨rfl, hle⟩
        · refine (rcmp_c (hQ4.mono hl5) hN5.is (by omega) (by omega) (by omega) (by omega)).mono ?_
          rintro _ h6 ⟨rfl, hl6⟩
          refine ⟨_, rfl, ?_⟩
          rw [cmpQ_ge, decide_eq_true hbig]
          refine Br.mk (fun _ => ?_) (fun q => by cases q)
          refine (alive_c (tb.mono ((hl4.trans hl5).trans hl6))).mono ?_
          rintro _ h7 ⟨rfl, hl7⟩
          exact ⟨_, rfl, rfl, ((hl4.trans hl5).trans hl6).trans hl7⟩
      | some k =>
        have hk : k = rndV x ∧ absQ x < mkRat 2097153 2 := by
          unfold unitsV at hu
          split at hu
          · rename_i hq
            cases hu
            exact ⟨rfl, hlim.1 hq⟩
          · cases hu
        rw [hu] at hb
        simp only [Option.getD_some] at hb
        refine Br.mk (fun q => by cases q) (fun _ => ?_)
        simp only [Option.getD_some]
        refine (rof_c k 1 (by omega) (by omega) (by omega) (by omega) (by omega) h5).mono ?_
        rintro _ h6 ⟨s6, A6, n6, c6, B6, m6, d6, rfl, hN6, a6, b6, hl6⟩
        have e6 : ((k : Rat) / ((1 : Int) : Rat)) = (rndV x : Rat) := by rw [hk.1, Rat.intCast_one]; grind
        rw [e6] at hN6
        refine ⟨_, _, _, _, _, _, _, _, rfl, (rof_c 1 2 (by omega) (by omega) (by omega) (by omega) (by omega) h6).mono ?_⟩
        rintro _ h7 ⟨s7, A7, n7, c7, B7, m7, d7, rfl, hN7, a7, b7, hl7⟩
        have e7 : (((1 : Int) : Rat) / ((2 : Int) : Rat)) = 1 / 2 := rfl
        rw [e7] at hN7
        have l47 := (hl5.trans hl6).trans hl7
        have l57 := hl6.trans hl7
        refine ⟨_, _, _, _, _, _, _, _, rfl, (rsub_c (u.mono (hl4.trans l47)) (hN6.mono hl7).is (by omega) (by omega) (by omega) (by omega)).mono ?_⟩
        rintro _ h8 ⟨s8, A8, n8, c8, B8, m8, d8, rfl, hN8, a8, b8, hl8⟩
        refine ⟨_, _, _, _, _, _, _, rfl, (rcmp_c ((hQ4.mono l47).mono hl8) ((hN5.mono l57).mono hl8).is (by omega) (by omega) (by omega) (by omega)).mono ?_⟩
        rintro _ h9 ⟨rfl, hl9⟩
        refine ⟨_, rfl, ?_⟩
        rw [cmpQ_lt, decide_eq_true hk.2]
        refine Br.mk (fun _ => ?_) (fun q => by cases q)
        refine (rcmp_c (hN8.mono hl9).is ((hN7.mono hl8).mono hl9).is (by omega) (by omega) (by omega) (by omega)).mono ?_
        rintro _ h10 ⟨rfl, hl10⟩
        refine ⟨_, rfl, ?_⟩
        rw [cmpQ_le, decide_eq_true near1]
        refine Br.mk (fun _ => ?_) (fun q => by cases q)
        refine (rneg_c ((hN8.mono hl9).mono hl10).is (by omega) (by omega)).mono ?_
        rintro _ h11 ⟨s11, A11, n11, c11, B11, m11, d11, rfl, hN11, a11, b11, hl11⟩
        refine ⟨_, _, _, _, _, _, _, rfl, hl11, (rcmp_c hN11.is ((((hN7.mono hl8).mono hl9).mono hl10).mono hl11).is (by omega) (by omega) (by omega) (by omega)).mono ?_⟩
        rintro _ h12 ⟨rfl, hl12⟩
        refine ⟨_, rfl, ?_⟩
        rw [cmpQ_le, decide_eq_true near2]
        exact Br.mk (fun _ => aliveF tb (((((hl4.trans l47).trans hl8).trans hl9).trans hl10).trans (hl11.trans hl12))) (fun q => by cases q)
    · refine (rcmp_c (u.mono hl03) (IsQ.zero h3) (by omega) (by omega) (by omega) (by omega)).mono ?_
      rintro _ h4 ⟨rfl, hl4⟩
      refine ⟨_, rfl, ?_⟩
      rw [cmpQ_lt]
      refine Br.mk (fun q1 => ?_) (fun q1 => ?_)
      · have hx := of_decide_eq_true q1
        refine (rneg_c (u.mono (hl03.trans hl4)) (by omega) (by omega)).mono ?_
        rintro _ h5 ⟨s5, A5, n5, c5, B5, m5, d5, rfl, hN5, a5, b5, hl5⟩
        have e : absQ x = -x := if_pos hx
        rw [e]
        exact ⟨_, _, _, _, _, _, _, rfl, hN5.is, by omega, by omega, (hl03.trans hl4).trans hl5⟩
      · have hx := of_decide_eq_false q1
        have e : absQ x = x := if_neg hx
        rw [e]
        exact ⟨u.mono (hl03.trans hl4), by omega, by omega, hl03.trans hl4⟩
  · refine Br.mk (fun q => ?_) (fun _ => ?_)
    · simp at q
    · rintro _ rfl
      refine ⟨?_, rfl⟩
      have : IntKind.i64.wrap (0 - -(unitsV x).getD 0) = (unitsV x).getD 0 := by rw [IntKind.wrap_i64]; omega
      rw [this]
      simp
end Go.Proofs.YtccplhjglhdopaaGreatDoor
