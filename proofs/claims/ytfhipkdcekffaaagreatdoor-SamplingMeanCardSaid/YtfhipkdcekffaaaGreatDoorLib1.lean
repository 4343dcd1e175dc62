/-
  Words for heaps, slices of uint32, numbers that wrap; the numbers that limbs denote.
-/
import Derived.Test.YtfhipkdcekffaaaGreatDoorVcg4
namespace Go.Vcg
open Go

/-! ### heaps -/
def Le (h h' : Heap) : Prop := ∀ k b, h k = some b → h' k = some b
theorem Le.refl (h : Heap) : Le h h := fun _ _ e => e
theorem Le.trans {a b c : Heap} (h : Le a b) (k : Le b c) : Le a c := fun i x e => k i x (h i x e)
theorem Le.put {h0 h : Heap} (l : Le h0 h) {g : Nat} (hg : h0 g = none) (b : Blk) : Le h0 (h.put g b) := fun k x e => by
  have : k ≠ g := fun q => by subst q; rw [hg] at e; cases e
  rw [Heap.put_ne _ _ this]; exact l k x e
theorem Le.free {h h' : Heap} (l : Le h h') {g : Nat} (hg : h' g = none) : h g = none := by
  cases e : h g with
  | none => rfl
  | some b => rw [l g b e] at hg; cases hg
theorem Le.new {h : Heap} {g : Nat} (hg : h g = none) (b : Blk) : Le h (h.put g b) := (Le.refl h).put hg b

/-! ### numbers that wrap -/
theorem wrap_u64 {x : Int} (h0 : 0 ≤ x) (h1 : x < 18446744073709551616) : IntKind.u64.wrap x = x := by rw [IntKind.wrap_u64]; omega
theorem wrap_u32 {x : Int} (h0 : 0 ≤ x) (h1 : x < 4294967296) : IntKind.u32.wrap x = x := by rw [IntKind.wrap_u32]; omega
theorem wrap_i64 {x : Int} (h0 : -9223372036854775808 ≤ x) (h1 : x < 9223372036854775808) : IntKind.i64.wrap x = x := by rw [IntKind.wrap_i64]; omega
theorem wrap_u32_mod (x : Int) : IntKind.u32.wrap x = x % 4294967296 := by rw [IntKind.wrap_u32]
theorem wrap_u64_mod (x : Int) : IntKind.u64.wrap x = x % 18446744073709551616 := by rw [IntKind.wrap_u64]

/-! ### slices of uint32 -/
abbrev lv (x : Nat) : Value := .int .u32 (x : Int)

structure U32 (h : Heap) (A : Option Addr) (n c : Nat) (xs : List Nat) : Prop where
  len : xs.length = n
  cap : n ≤ c
  lt : ∀ x ∈ xs, x < 4294967296
  mem : 0 < n → ∃ ad b, A = some ad ∧ ad.spot = none ∧ h ad.block = some b ∧ (b.cells.drop ad.off).take n = xs.map lv

section
variable {h h' : Heap} {A : Option Addr} {n c : Nat} {xs : List Nat}

theorem U32.mono (u : U32 h A n c xs) (l : Le h h') : U32 h' A n c xs :=
  ⟨u.len, u.cap, u.lt, fun hn => let ⟨ad, b, e, sp, hb, hc⟩ := u.mem hn; ⟨ad, b, e, sp, l _ _ hb, hc⟩⟩

theorem U32.nil (h : Heap) (A : Option Addr) (c : Nat) : U32 h A 0 c [] := ⟨rfl, Nat.zero_le _, fun _ e => (by cases e), fun e => absurd e (Nat.lt_irrefl 0)⟩

theorem addr_off (ad : Addr) (i : Nat) : (ad.add i).off = ad.off + i := by unfold Addr.add; split <;> simp_all
theorem addr_block (ad : Addr) (i : Nat) : (ad.add i).block = ad.block := by unfold Addr.add; split <;> rfl
theorem addr_spot (ad : Addr) (i : Nat) (h : ad.spot = none) : (ad.add i).spot = none := by unfold Addr.add; split <;> simp_all

theorem ld_of {h : Heap} {ad : Addr} {b : Blk} {v : Value} {i : Nat} (sp : ad.spot = none) (hb : h ad.block = some b) (hv : b.cells[ad.off + i]? = some v) : LdN h (ad.add i) [v] := by
  refine ⟨addr_spot _ _ sp, b, by rw [addr_block]; exact hb, ?_⟩
  rw [addr_off]
  obtain ⟨hl, e⟩ := List.getElem?_eq_some_iff.1 hv
  rw [List.drop_eq_getElem_cons hl, e]
  simp

theorem U32.get (u : U32 h A n c xs) {i : Nat} (hi : i < n) : ∃ ad, A = some ad ∧ LdN h (ad.add (i * 1)) [lv (xs.getD i 0)] := by
  obtain ⟨ad, b, e, sp, hb, hc⟩ := u.mem (by omega)
  refine ⟨ad, e, ?_⟩
  rw [Nat.mul_one]
  refine ld_of sp hb ?_
  have h1 : ((b.cells.drop ad.off).take n)[i]? = (xs.map lv)[i]? := by rw [hc]
  rw [List.getElem?_take_of_lt hi, List.getElem?_drop] at h1
  rw [h1]
  have : i < xs.length := by rw [u.len]; exact hi
  simp [this]

theorem U32.take (u : U32 h A n c xs) {m : Nat} (hm : m ≤ n) : U32 h A m c (xs.take m) where
  len := by rw [List.length_take, u.len]; omega
  cap := Nat.le_trans hm u.cap
  lt x hx := u.lt x (List.mem_of_mem_take hx)
  mem h0 := by
    obtain ⟨ad, b, e, sp, hb, hc⟩ := u.mem (by omega)
    refine ⟨ad, b, e, sp, hb, ?_⟩
    rw [List.map_take, ← hc, List.take_take, Nat.min_eq_left hm]

theorem U32.getD_lt (u : U32 h A n c xs) (i : Nat) : xs.getD i 0 < 4294967296 := by
  rcases Nat.lt_or_ge i xs.length with hl | hg
  · simp [hl]; exact u.lt _ (List.getElem_mem _)
  · simp [hg]

theorem U32.rds (u : U32 h A n c xs) : RdS h A (n * 1) (xs.map lv) := by
  refine ⟨by simp [u.len], fun hn => ?_⟩
  obtain ⟨ad, b, e, sp, hb, hc⟩ := u.mem (by omega)
  exact ⟨ad, e, sp, b, hb, by rw [List.length_map, u.len]; exact hc⟩

/-- A whole block of limbs. -/
theorem U32.of_blk {g ty : Nat} {fz : Nat × Nat} {ys : List Nat} {m k : Nat} (hb : h g = some ⟨ys.map lv, ty, fz⟩) (hlt : ∀ x ∈ ys, x < 4294967296) (hm : m ≤ ys.length) (hk : m ≤ k) : U32 h (some ⟨g, 0, none⟩) m k (ys.take m) where
  len := by rw [List.length_take]; omega
  cap := hk
  lt x hx := hlt x (List.mem_of_mem_take hx)
  mem _ := ⟨_, _, rfl, rfl, hb, by simp [List.map_take]⟩
end

theorem lv_one (l : List Nat) : ∀ x ∈ l.map lv, one x = true := by
  intro x hx
  obtain ⟨y, _, rfl⟩ := List.mem_map.1 hx
  rfl

theorem setSeg_one (ys : List Nat) (i y : Nat) (hi : i < ys.length) : setSeg (ys.map lv) i [lv y] = (ys.set i y).map lv := by
  unfold setSeg
  simp only [List.length_singleton]
  rw [List.set_eq_take_append_cons_drop, if_pos hi]
  simp

theorem repV_lv (n : Nat) : repV [Value.int .u32 0] n = (List.replicate n 0).map lv := by
  induction n with
  | zero => rfl
  | succ n ih => simp only [repV, ih, List.replicate_succ]; rfl

theorem repV_length' (n : Nat) : (repV [Value.int .u32 0] n).length = n := by rw [repV_lv]; simp

/-! ### what limbs denote -/
def B32 : Nat := 4294967296

def val : List Nat → Nat
  | [] => 0
  | x :: r => x + B32 * val r

theorem val_append (a b : List Nat) : val (a ++ b) = val a + B32 ^ a.length * val b := by
  induction a with
  | nil => simp [val]
  | cons x r ih =>
    simp only [List.cons_append, val, ih, List.length_cons, Nat.pow_succ]
    rw [Nat.mul_add, Nat.add_assoc, Nat.mul_assoc, Nat.mul_left_comm (B32 ^ r.length)]

theorem val_lt {l : List Nat} (h : ∀ x ∈ l, x < B32) : val l < B32 ^ l.length := by
  induction l with
  | nil => simp [val]
  | cons x r ih =>
    have h1 := h x (by simp)
    have h2 := ih fun y hy => h y (by simp [hy])
    simp only [val, List.length_cons, Nat.pow_succ]
    have : B32 * (val r + 1) ≤ B32 * B32 ^ r.length := Nat.mul_le_mul_left _ h2
    rw [Nat.mul_add] at this
    rw [Nat.mul_comm (B32 ^ r.length)]
    omega

/-- No high zero limb. -/
def Nrm (l : List Nat) : Prop := l.getLast? ≠ some 0

theorem nrm_nil : Nrm [] := by simp [Nrm]

theorem nrm_val_pos {l : List Nat} (h : Nrm l) (hne : l ≠ []) : B32 ^ (l.length - 1) ≤ val l := by
  obtain ⟨r, x, rfl⟩ : ∃ r x, l = r ++ [x] := ⟨l.dropLast, l.getLast hne, (List.dropLast_concat_getLast hne).symm⟩
  have hx : x ≠ 0 := fun e => h (by simp [e])
  rw [val_append]
  simp only [val, List.length_append, List.length_singleton, Nat.add_sub_cancel, Nat.mul_zero, Nat.add_zero]
  have : B32 ^ r.length * 1 ≤ B32 ^ r.length * x := Nat.mul_le_mul_left _ (Nat.one_le_iff_ne_zero.2 hx)
  omega

theorem nrm_zero {l : List Nat} (h : Nrm l) (hv : val l = 0) : l = [] := by
  cases hl : l with
  | nil => rfl
  | cons x r =>
    have := nrm_val_pos h (by simp [hl])
    have hp : 0 < B32 ^ (l.length - 1) := Nat.pow_pos (by decide)
    omega

/-- A value below B32 ^ k has at most k limbs. -/
theorem nrm_len {l : List Nat} (h : Nrm l) {k : Nat} (hv : val l < B32 ^ k) : l.length ≤ k := by
  rcases Nat.lt_or_ge k l.length with hk | hk
  · have hne : l ≠ [] := fun e => by rw [e] at hk; simp at hk
    have h1 := nrm_val_pos h hne
    have h2 : B32 ^ k ≤ B32 ^ (l.length - 1) := Nat.pow_le_pow_right (by decide) (by omega)
    omega
  · exact hk

theorem val_inj_len : ∀ {a b : List Nat}, (∀ x ∈ a, x < B32) → (∀ x ∈ b, x < B32) → a.length = b.length → val a = val b → a = b
  | [], [], _, _, _, _ => rfl
  | x :: r, y :: q, ha, hb, hl, hv => by
    simp only [val] at hv
    have h1 := ha x (by simp)
    have h2 := hb y (by simp)
    have hm : (x + B32 * val r) % B32 = (y + B32 * val q) % B32 := by rw [hv]
    rw [Nat.add_mul_mod_self_left, Nat.add_mul_mod_self_left, Nat.mod_eq_of_lt h1, Nat.mod_eq_of_lt h2] at hm
    subst hm
    have hv2 : val r = val q := by
      have : B32 * val r = B32 * val q := by omega
      exact Nat.eq_of_mul_eq_mul_left (by decide) this
    rw [val_inj_len (fun z hz => ha z (by simp [hz])) (fun z hz => hb z (by simp [hz])) (by simpa using hl) hv2]

/-- Two normal forms of one value are the same limbs. -/
theorem nrm_inj {a b : List Nat} (ha : ∀ x ∈ a, x < B32) (hb : ∀ x ∈ b, x < B32) (na : Nrm a) (nb : Nrm b) (hv : val a = val b) : a = b := by
  refine val_inj_len ha hb ?_ hv
  have h1 := nrm_len na (k := b.length) (by rw [hv]; exact val_lt hb)
  have h2 := nrm_len nb (k := a.length) (by rw [← hv]; exact val_lt ha)
  omega

theorem val_zeros (n : Nat) : val (List.replicate n 0) = 0 := by
  induction n with
  | zero => rfl
  | succ n ih => simp [List.replicate_succ, val, ih]

/-- The limbs without the high zeros. -/
def trimL : List Nat → List Nat
  | [] => []
  | x :: r =>
    match trimL r with
    | [] => if x = 0 then [] else [x]
    | y :: t => x :: y :: t

theorem trimL_spec : ∀ l : List Nat, ∃ n, l = trimL l ++ List.replicate n 0
  | [] => ⟨0, rfl⟩
  | x :: r => by
    obtain ⟨n, h⟩ := trimL_spec r
    simp only [trimL]
    split
    · rename_i e
      rw [e] at h
      split
      · rename_i h0; subst h0; exact ⟨n + 1, by rw [h]; rfl⟩
      · exact ⟨n, by rw [h]; rfl⟩
    · rename_i y t e
      rw [e] at h
      exact ⟨n, by rw [h]; rfl⟩

theorem trimL_nrm : ∀ l : List Nat, Nrm (trimL l)
  | [] => nrm_nil
  | x :: r => by
    have ih := trimL_nrm r
    simp only [trimL]
    split
    · split
      · exact nrm_nil
      · rename_i h0; simpa [Nrm] using h0
    · rename_i y t e
      rw [e] at ih
      simpa [Nrm, List.getLast?_cons_cons] using ih

theorem trimL_val (l : List Nat) : val (trimL l) = val l := by
  obtain ⟨n, h⟩ := trimL_spec l
  have h1 : val l = val (trimL l ++ List.replicate n 0) := congrArg val h
  rw [h1, val_append, val_zeros, Nat.mul_zero, Nat.add_zero]

theorem trimL_le (l : List Nat) : (trimL l).length ≤ l.length := by
  obtain ⟨n, h⟩ := trimL_spec l
  have := congrArg List.length h
  simp at this
  omega

theorem trimL_take (l : List Nat) : trimL l = l.take (trimL l).length := by
  obtain ⟨n, h⟩ := trimL_spec l
  have h1 : l.take (trimL l).length = (trimL l ++ List.replicate n 0).take (trimL l).length := congrArg (List.take _) h
  rw [h1, List.take_left']
  rfl

theorem trimL_mem {l : List Nat} {x : Nat} (h : x ∈ trimL l) : x ∈ l := by rw [trimL_take] at h; exact List.mem_of_mem_take h

end Go.Vcg
