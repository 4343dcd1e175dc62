/-
  Contracts: cmp, natural: trim, Of, Norm, Cmp.
-/
import Derived.Test.YtfhipkdcekffaaaGreatDoorVcN
import Derived.Test.YtfhipkdcekffaaaGreatDoorLib1
namespace Go.Proofs.YtfhipkdcekffaaaGreatDoor
open Go Go.Vcg

theorem trimL_snoc_zero : ∀ l : List Nat, trimL (l ++ [0]) = trimL l
  | [] => rfl
  | x :: r => by simp only [List.cons_append, trimL, trimL_snoc_zero r]

theorem trimL_of_nrm {l : List Nat} (h : Nrm l) : trimL l = l := by
  obtain ⟨n, e⟩ := trimL_spec l
  cases n with
  | zero => simpa using e.symm
  | succ n =>
    exfalso
    apply h
    rw [e, List.replicate_succ', ← List.append_assoc, List.getLast?_append]
    simp

theorem isNaN_int (x : Int) (h : Heap) : CallsU Tryz.prog 89 [.int .i64 x] h fun v h' => v = .bool false ∧ h = h' := by
  apply cmp_isNaN_int_ok
  simp [cmp_isNaN_int_vc]

theorem isNaN_u32 (x : Int) (h : Heap) : CallsU Tryz.prog 90 [.int .u32 x] h fun v h' => v = .bool false ∧ h = h' := by
  apply cmp_isNaN_uint32_ok
  simp [cmp_isNaN_uint32_vc]

def cmpI (x y : Int) : Int := if x < y then -1 else if y < x then 1 else 0

theorem compare_int (x y : Int) (h : Heap) : CallsU Tryz.prog 66 [.int .i64 x, .int .i64 y] h fun v h' => v = .int .i64 (cmpI x y) ∧ h = h' := by
  apply cmp_Compare_int_ok
  refine (isNaN_int x h).mono ?_
  rintro _ _ ⟨rfl, rfl⟩
  refine ⟨_, rfl, (isNaN_int y _).mono ?_⟩
  rintro _ _ ⟨rfl, rfl⟩
  refine ⟨_, rfl, Br.mk (fun h => (by cases h)) fun _ => Br.mk (fun h => (by cases h)) fun _ => Br.mk (fun h1 => ?_) fun h1 => Br.mk (fun h2 => ?_) fun h2 => ?_⟩ <;> simp at h1 <;> refine ⟨?_, rfl⟩ <;> unfold cmpI
  · rw [if_pos h1]
  · simp at h2; rw [if_neg (by omega), if_pos h2]
  · simp at h2; rw [if_neg (by omega), if_neg (by omega)]

theorem compare_u32 (x y : Int) (h : Heap) : CallsU Tryz.prog 67 [.int .u32 x, .int .u32 y] h fun v h' => v = .int .i64 (cmpI x y) ∧ h = h' := by
  apply cmp_Compare_uint32_ok
  refine (isNaN_u32 x h).mono ?_
  rintro _ _ ⟨rfl, rfl⟩
  refine ⟨_, rfl, (isNaN_u32 y _).mono ?_⟩
  rintro _ _ ⟨rfl, rfl⟩
  refine ⟨_, rfl, Br.mk (fun h => (by cases h)) fun _ => Br.mk (fun h => (by cases h)) fun _ => Br.mk (fun h1 => ?_) fun h1 => Br.mk (fun h2 => ?_) fun h2 => ?_⟩ <;> simp at h1 <;> refine ⟨?_, rfl⟩ <;> unfold cmpI
  · rw [if_pos h1]
  · simp at h2; rw [if_neg (by omega), if_pos h2]
  · simp at h2; rw [if_neg (by omega), if_neg (by omega)]

theorem take_last {xs : List Nat} {m : Nat} (h : m < xs.length) : xs.take (m + 1) = xs.take m ++ [xs.getD m 0] := by
  rw [List.take_succ_eq_append_getElem h]
  simp [h]

theorem trim_c {h : Heap} {A : Option Addr} {n c : Nat} {xs : List Nat} (u : U32 h A n c xs) (hn : n ≤ 4611686018427387904) :
    CallsU Tryz.prog 56 [.slice A n c] h fun v h' => v = .slice A (trimL xs).length c ∧ h = h' := by
  apply natural_trim_ok
  refine ⟨fun m k h' => h' = h ∧ k = (m : Int) ∧ m ≤ n ∧ trimL xs = trimL (xs.take m), ⟨n, rfl, rfl, Nat.le_refl _, by rw [List.take_of_length_le (Nat.le_of_eq u.len)]⟩, ?_⟩
  rintro m k h' ⟨rfl, rfl, hm, ht⟩
  have hc := u.cap
  refine Br.mk (fun hp => ?_) (fun hp => ?_)
  · simp at hp
    obtain ⟨m, rfl⟩ : ∃ q, m = q + 1 := ⟨m - 1, by omega⟩
    rintro _ rfl
    rw [wrap_i64 (by omega) (by omega)]
    have e1 : ((m + 1 : Nat) : Int) - 1 = (m : Int) := by omega
    rw [e1]
    obtain ⟨ad, hA, hl⟩ := u.get (i := m) (by omega)
    refine ⟨ad, hA, by omega, by omega, _, hl, Br.mk (fun h0 => ?_) (fun h0 => ?_)⟩
    · rintro _ rfl
      refine ⟨m, by omega, rfl, rfl, by omega, ?_⟩
      rw [ht, take_last (by rw [u.len]; omega)]
      have : xs.getD m 0 = 0 := by simp at h0; exact_mod_cast h0
      rw [this, trimL_snoc_zero]
    · refine ⟨by omega, by omega, ?_, rfl⟩
      have hnz : xs.getD m 0 ≠ 0 := by
        intro e
        rw [e] at h0
        simp at h0
      have : trimL xs = xs.take (m + 1) := by
        rw [ht, trimL_of_nrm]
        rw [take_last (by rw [u.len]; omega)]
        simpa [Nrm] using hnz
      rw [this, List.length_take, u.len, Nat.min_eq_left (by omega)]
      simp
  · simp at hp
    subst hp
    refine ⟨by omega, by omega, ?_, rfl⟩
    rw [ht]
    rfl

/-- A slice that denotes v. -/
def IsN (h : Heap) (A : Option Addr) (n c v : Nat) : Prop := ∃ xs, U32 h A n c xs ∧ val xs = v
/-- .. in normal form. -/
def NmN (h : Heap) (A : Option Addr) (n c v : Nat) : Prop := ∃ xs, U32 h A n c xs ∧ val xs = v ∧ Nrm xs

theorem NmN.is {h : Heap} {A : Option Addr} {n c v : Nat} (u : NmN h A n c v) : IsN h A n c v := let ⟨xs, a, b, _⟩ := u; ⟨xs, a, b⟩
theorem IsN.mono {h h' : Heap} {A : Option Addr} {n c v : Nat} (u : IsN h A n c v) (l : Le h h') : IsN h' A n c v := let ⟨xs, a, b⟩ := u; ⟨xs, a.mono l, b⟩
theorem NmN.mono {h h' : Heap} {A : Option Addr} {n c v : Nat} (u : NmN h A n c v) (l : Le h h') : NmN h' A n c v := let ⟨xs, a, b, d⟩ := u; ⟨xs, a.mono l, b, d⟩

theorem NmN.len_le {h : Heap} {A : Option Addr} {n c v k : Nat} (u : NmN h A n c v) (hv : v < B32 ^ k) : n ≤ k := by
  obtain ⟨xs, a, rfl, d⟩ := u
  rw [← a.len]
  exact nrm_len d hv

theorem NmN.zero_iff {h : Heap} {A : Option Addr} {n c v : Nat} (u : NmN h A n c v) : n = 0 ↔ v = 0 := by
  obtain ⟨xs, a, rfl, d⟩ := u
  constructor
  · intro e
    have : xs = [] := List.eq_nil_of_length_eq_zero (by rw [a.len, e])
    rw [this]
    rfl
  · intro e
    rw [← a.len, nrm_zero d e]
    rfl

theorem U32.val_lt {h : Heap} {A : Option Addr} {n c : Nat} {xs : List Nat} (u : U32 h A n c xs) : val xs < B32 ^ n := by
  rw [← u.len]; exact Vcg.val_lt u.lt

theorem IsN.lt {h : Heap} {A : Option Addr} {n c v : Nat} (u : IsN h A n c v) : v < B32 ^ n := by
  obtain ⟨xs, a, rfl⟩ := u
  exact U32.val_lt a

/-- trim, by value. -/
theorem trim_n {h : Heap} {A : Option Addr} {n c v : Nat} (u : IsN h A n c v) (hn : n ≤ 4611686018427387904) :
    CallsU Tryz.prog 56 [.slice A n c] h fun r h' => ∃ m, r = .slice A m c ∧ m ≤ n ∧ NmN h A m c v ∧ h = h' := by
  obtain ⟨xs, a, rfl⟩ := u
  refine (trim_c a hn).mono ?_
  rintro _ _ ⟨rfl, rfl⟩
  have hle := trimL_le xs
  refine ⟨_, rfl, by rw [← a.len]; exact hle, ⟨trimL xs, ?_, trimL_val xs, trimL_nrm xs⟩, rfl⟩
  have := a.take (m := (trimL xs).length) (by rw [← a.len]; exact hle)
  rwa [← trimL_take] at this

theorem of_c (n : Nat) (hn : n < 18446744073709551616) (h : Heap) :
    CallsU Tryz.prog 30 [.int .u64 n] h fun r h' => ∃ A m c, r = .slice A m c ∧ m ≤ 2 ∧ NmN h' A m c n ∧ Le h h' := by
  apply natural_Of_ok
  rintro _ rfl g h1 hg rfl
  have e1 : IntKind.u32.wrap (n : Int) = ((n % B32 : Nat) : Int) := by rw [wrap_u32_mod]; unfold B32; omega
  have e2 : IntKind.u32.wrap (Int.fdiv (n : Int) (2 ^ (32 : Nat))) = ((n / B32 : Nat) : Int) := by
    rw [Int.fdiv_eq_ediv_of_nonneg _ (by decide)]
    have : ((2 : Int) ^ (32 : Nat)) = 4294967296 := by decide
    rw [this, wrap_u32 (by omega) (by omega)]
    unfold B32
    omega
  rw [e1, e2]
  have hb : (h.put g ⟨[lv (n % B32), lv (n / B32)], 76, (0, 0)⟩) g = some ⟨[n % B32, n / B32].map lv, 76, (0, 0)⟩ := by rw [Heap.put_same]; rfl
  have hlt : ∀ x ∈ [n % B32, n / B32], x < 4294967296 := by
    intro x hx
    simp only [List.mem_cons, List.not_mem_nil, or_false] at hx
    unfold B32 at hx
    rcases hx with rfl | rfl <;> omega
  have u := U32.of_blk (m := 2) (k := 2) hb hlt (by simp) (by omega)
  have hv : val ([n % B32, n / B32].take 2) = n := by
    simp only [List.take_succ_cons, List.take_zero, val, Nat.mul_zero, Nat.add_zero]
    exact Nat.mod_add_div n B32
  refine (trim_n ⟨_, u, hv⟩ (by omega)).mono ?_
  rintro _ _ ⟨m, rfl, hm, hN, rfl⟩
  exact ⟨_, _, _, rfl, _, _, _, rfl, hm, hN, Le.new hg _⟩

theorem setSeg_all (a b : List Value) (hl : a.length = b.length) : setSeg a 0 b = b := by
  unfold setSeg
  simp [← hl]

theorem norm_c {h : Heap} {A : Option Addr} {n c v : Nat} (u : IsN h A n c v) (hn : n ≤ 35184372088832) :
    CallsU Tryz.prog 73 [.slice A n c] h fun r h' => ∃ A' m c', r = .slice A' m c' ∧ m ≤ n ∧ NmN h' A' m c' v ∧ Le h h' := by
  apply natural_Norm_ok
  refine (trim_n u (by omega)).mono ?_
  rintro _ _ ⟨m, rfl, hm, ⟨xs, a, hv, hN⟩, rfl⟩
  refine ⟨_, _, _, rfl, by omega, by omega, by omega, by omega, ?_⟩
  rintro g h2 hg rfl
  simp only [Int.toNat_natCast, Nat.min_self, Nat.mul_one]
  have l1 := Le.new hg ⟨repV [Value.int .u32 0] m, 76, (0, 0)⟩
  have a' := a.mono l1
  have hr := a'.rds
  rw [Nat.mul_one] at hr
  refine ⟨_, hr, lv_one _, fun h0 => ?_, fun hp => ?_⟩
  · subst h0
    have hx : xs = [] := List.eq_nil_of_length_eq_zero a.len
    subst hx
    exact ⟨_, _, _, rfl, Nat.zero_le _, ⟨[], U32.nil _ _ _, hv, hN⟩, l1⟩
  · refine ⟨_, _, rfl, rfl, Heap.put_same _ _ _, rfl, by simp [repV_length'], ?_⟩
    rintro h3 rfl
    refine ⟨_, _, _, rfl, hm, ⟨xs, ?_, hv, hN⟩, l1.put hg _⟩
    have hs : setSeg (repV [Value.int .u32 0] m) 0 (xs.map lv) = xs.map lv := setSeg_all _ _ (by rw [repV_length', List.length_map, a.len])
    have hb : (((h.put g ⟨repV [Value.int .u32 0] m, 76, (0, 0)⟩).put g ⟨setSeg (repV [Value.int .u32 0] m) 0 (xs.map lv), 76, (0, 0)⟩) : Heap) g = some ⟨xs.map lv, 76, (0, 0)⟩ := by
      rw [Heap.put_same, hs]
    have := U32.of_blk (m := m) (k := m) hb a.lt (by rw [a.len]; exact Nat.le_refl _) (Nat.le_refl _)
    rwa [List.take_of_length_le (by rw [a.len]; exact Nat.le_refl _)] at this
end Go.Proofs.YtfhipkdcekffaaaGreatDoor
