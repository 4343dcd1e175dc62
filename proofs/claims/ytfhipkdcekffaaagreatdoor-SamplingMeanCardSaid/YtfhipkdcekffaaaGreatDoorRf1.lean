/-
  Contracts: reference 01: limb, Norm, Cmp, Add, Sub, Mul, Half, Shift, Bits.
-/
import Derived.Test.YtfhipkdcekffaaaGreatDoorCn15
namespace Go.Proofs.YtfhipkdcekffaaaGreatDoor
open Go Go.Vcg
attribute [local irreducible] Br

theorem limb_c {h : Heap} {A : Option Addr} {n c : Nat} {xs : List Nat} (u : U32 h A n c xs) (i : Nat) :
    CallsU Tryz.prog 51 [.slice A n c, .int .i64 i] h fun r h' => r = .int .u64 (xs.getD i 0) ∧ h = h' := by
  apply ref01_limb_ok
  refine Br.mk (fun q => by simp at q; omega) (fun _ => Br.mk (fun q => ?_) (fun q => ?_))
  · have q' : n ≤ i := by have := of_decide_eq_true q; omega
    rw [getD_ge (by rw [u.len]; exact q')]
    exact ⟨rfl, rfl⟩
  · have q' : i < n := by have := of_decide_eq_false q; omega
    obtain ⟨ad, hA, hl⟩ := u.get q'
    have hlt := u.getD_lt i
    rw [Int.toNat_natCast]
    refine ⟨ad, hA, by omega, by omega, _, hl, ?_⟩
    rw [wu (n := xs.getD i 0) rfl (by omega)]
    exact ⟨rfl, rfl⟩

/-- append of limbs to an empty slice. -/
theorem app_none {h : Heap} {A : Option Addr} {c : Nat} {xs : List Nat} {m : Nat} (u : U32 h A m c xs) (hm : m ≤ 35184372088832) {K : Option Addr → Nat → Nat → Heap → Prop}
    (k0 : m = 0 → K none 0 0 h) (k1 : ∀ (g cap : Nat), h g = none → m ≤ cap → 0 < m → K (some ⟨g, 0, none⟩) m cap (h.put g ⟨(xs ++ List.replicate (cap - m) 0).map lv, 76, (0, 0)⟩)) :
    ∃ ys : List Value, RdS h A (m * 1) ys ∧ (∀ x ∈ ys, Go.Vcg.one x = true) ∧
      (0 + m ≤ 0 → Br (decide (m * 1 = 0)) (K none (0 + m) 0 h) (∃ (ad : Addr) (b : Blk), none = some ad ∧ ad.spot = none ∧ h ad.block = some b ∧ b.fz = (0, 0) ∧ ad.off + 0 * 1 + m * 1 ≤ b.cells.length ∧
        ∀ h' : Heap, h' = Heap.put h ad.block { b with cells := setSeg b.cells (ad.off + 0 * 1) ys } → K none (0 + m) 0 h')) ∧
      (0 < 0 + m → ∃ olds : List Value, RdS h none (0 * 1) olds ∧ (0 + m) * 4 ≤ 140737488355328 ∧
        ∀ (g cap : Nat) (h' : Heap), h g = none → 0 + m ≤ cap → h' = Heap.put h g ⟨olds ++ ys ++ repV [Value.int .u32 0] (cap - (0 + m)), 76, (0, 0)⟩ → K (some ⟨g, 0, none⟩) (0 + m) cap h') := by
  rw [Nat.zero_add]
  refine ⟨xs.map lv, u.rds, lv_one _, fun h0 => Br.mk (fun _ => ?_) (fun q => ?_), fun hp => ?_⟩
  · have : m = 0 := by omega
    subst this
    exact k0 rfl
  · exfalso
    have : m = 0 := by omega
    subst this
    simp at q
  · refine ⟨[], ⟨rfl, fun q => absurd q (Nat.lt_irrefl 0)⟩, by omega, ?_⟩
    rintro g cap h' hg hc rfl
    rw [repV_lv, List.nil_append, ← List.map_append]
    exact k1 g cap hg hc hp

theorem r1norm_c {h : Heap} {A : Option Addr} {n c v : Nat} (u : IsN h A n c v) (hn : n ≤ 35184372088832) :
    CallsU Tryz.prog 52 [.slice A n c] h fun r h' => ∃ A' m c', r = .slice A' m c' ∧ m ≤ n ∧ NmN h' A' m c' v ∧ Le h h' := by
  apply ref01_Norm_ok
  obtain ⟨xs, u, rfl⟩ := u
  have hc := u.cap
  refine ⟨fun m k h' => h = h' ∧ k = (m : Int) ∧ m ≤ n ∧ trimL xs = trimL (xs.take m), ⟨n, rfl, rfl, Nat.le_refl _, by rw [List.take_of_length_le (Nat.le_of_eq u.len)]⟩, ?_⟩
  rintro m k h' ⟨rfl, rfl, hm, ht⟩
  have fin : Nrm (xs.take m) → ∃ ys : List Value, RdS h A (m * 1) ys ∧ (∀ x ∈ ys, Go.Vcg.one x = true) ∧
      (0 + m ≤ 0 → Br (decide (m * 1 = 0)) ((fun r h' => ∃ A' m c', r = .slice A' m c' ∧ m ≤ n ∧ NmN h' A' m c' (val xs) ∧ Le h h') (Value.slice none (0 + m) 0) h) (∃ (ad : Addr) (b : Blk), none = some ad ∧ ad.spot = none ∧ h ad.block = some b ∧ b.fz = (0, 0) ∧ ad.off + 0 * 1 + m * 1 ≤ b.cells.length ∧
        ∀ h_3 : Heap, h_3 = Heap.put h ad.block { b with cells := setSeg b.cells (ad.off + 0 * 1) ys } → (fun r h' => ∃ A' m c', r = .slice A' m c' ∧ m ≤ n ∧ NmN h' A' m c' (val xs) ∧ Le h h') (Value.slice none (0 + m) 0) h_3)) ∧
      (0 < 0 + m → ∃ olds : List Value, RdS h none (0 * 1) olds ∧ (0 + m) * 4 ≤ 140737488355328 ∧
        ∀ (g cap : Nat) (h_4 : Heap), h g = none → 0 + m ≤ cap → h_4 = Heap.put h g ⟨olds ++ ys ++ repV [Value.int .u32 0] (cap - (0 + m)), 76, (0, 0)⟩ → (fun r h' => ∃ A' m c', r = .slice A' m c' ∧ m ≤ n ∧ NmN h' A' m c' (val xs) ∧ Le h h') (Value.slice (some ⟨g, 0, none⟩) (0 + m) cap) h_4) := by
    intro hN
    have hval : val (xs.take m) = val xs := by rw [← trimL_val xs, ht, trimL_of_nrm hN]
    refine app_none (K := fun A m c h' => (fun r h' => ∃ A' m c', r = .slice A' m c' ∧ m ≤ n ∧ NmN h' A' m c' (val xs) ∧ Le h h') (Value.slice A m c) h') (u.take hm) (by omega) (fun e => ?_) (fun g cap hg hcap hp => ?_)
    · subst e
      exact ⟨_, _, _, rfl, Nat.zero_le _, ⟨[], U32.nil _ _ _, by rw [← hval]; rfl, nrm_nil⟩, Le.refl _⟩
    · refine ⟨_, _, _, rfl, hm, ⟨xs.take m, ?_, hval, hN⟩, Le.new hg _⟩
      have := U32.of_blk (m := m) (k := cap) (h := h.put g ⟨(xs.take m ++ List.replicate (cap - m) 0).map lv, 76, (0, 0)⟩) (Heap.put_same _ _ _) (fun x hx => ?_) (by simp [u.len]; omega) hcap
      · rwa [List.take_left' (by simp [u.len]; omega)] at this
      · rcases List.mem_append.1 hx with a | a
        · exact u.lt x (List.mem_of_mem_take a)
        · rw [(List.mem_replicate.1 a).2]; decide
  refine Br.mk (fun hp => ?_) (fun hp => ?_)
  · have hp' : 0 < m := by simp at hp; omega
    obtain ⟨m, rfl⟩ : ∃ q, m = q + 1 := ⟨m - 1, by omega⟩
    rintro _ rfl
    rw [wi (n := m) (by omega) (by omega)]
    obtain ⟨ad, hA, hl⟩ := u.get (i := m) (by omega)
    rw [Int.toNat_natCast, Int.toNat_natCast]
    refine ⟨ad, hA, by omega, by omega, _, hl, Br.mk (fun h0 => ?_) (fun h0 => ?_)⟩
    · rintro _ rfl
      refine ⟨m, by omega, rfl, rfl, by omega, ?_⟩
      rw [ht, take_last (by rw [u.len]; omega)]
      have : xs.getD m 0 = 0 := by have := beq_iff_eq.1 h0; omega
      rw [this, trimL_snoc_zero]
    · have hnz : xs.getD m 0 ≠ 0 := by
        have := beq_eq_false_iff_ne.1 h0
        omega
      refine ⟨by omega, by omega, fin ?_⟩
      rw [take_last (by rw [u.len]; omega)]
      simpa [Nrm] using hnz
  · have hp' : m = 0 := by simp at hp; omega
    subst hp'
    rw [Int.toNat_natCast]
    exact ⟨by omega, by omega, fin (by simp [Nrm])⟩

theorem max_ite (n m : Nat) : (if decide (((m : Nat) : Int) > ((n : Nat) : Int)) then ((m : Nat) : Int) else ((n : Nat) : Int)) = ((max n m : Nat) : Int) := by
  simp only [decide_eq_true_eq]
  split <;> omega

theorem val_take_le (xs : List Nat) {k : Nat} (h : xs.length ≤ k) : val (xs.take k) = val xs := by rw [List.take_of_length_le h]

theorem val_take_lt' {xs : List Nat} (h : ∀ x ∈ xs, x < B32) (k : Nat) : val (xs.take k) < B32 ^ k := by
  rcases Nat.lt_or_ge k xs.length with q | q
  · exact val_take_lt h (by omega)
  · rw [val_take_le _ q]
    exact Nat.lt_of_lt_of_le (val_lt h) (Nat.pow_le_pow_right (by decide) q)

/-! ### Cmp -/
theorem cmp_step {X Y H a b M : Nat} (hX : X < M) (hab : a < b) : X + M * a + H < Y + M * b + H := by
  have : M * (a + 1) ≤ M * b := Nat.mul_le_mul_left _ hab
  rw [Nat.mul_add] at this
  omega

theorem r1cmp_c {h : Heap} {A B : Option Addr} {n c m d x y : Nat} (ux : IsN h A n c x) (uy : IsN h B m d y) (hn : n ≤ 1099511627776) (hm : m ≤ 1099511627776) :
    CallsU Tryz.prog 99 [.slice A n c, .slice B m d] h fun v h' => v = .int .i64 (cmpI x y) ∧ h = h' := by
  apply ref01_Cmp_ok
  obtain ⟨xs, u, rfl⟩ := ux
  obtain ⟨ys, w, rfl⟩ := uy
  unfold ref01_Cmp_vc
  rw [max_ite]
  rintro _ rfl
  rw [wrap_i64 (by omega) (by omega)]
  refine ⟨fun q i h' => ∃ H : Nat, i = (q : Int) - 1 ∧ q ≤ max n m ∧ h = h' ∧ val xs = val (xs.take q) + H ∧ val ys = val (ys.take q) + H, ⟨max n m, 0, rfl, Nat.le_refl _, rfl, ?_, ?_⟩, ?_⟩
  · rw [val_take_le _ (by rw [u.len]; omega)]; rfl
  · rw [val_take_le _ (by rw [w.len]; omega)]; rfl
  rintro q _ _ ⟨H, rfl, hq, rfl, hx, hy⟩
  refine Br.mk (fun b => ?_) (fun b => ?_)
  · have b' : 0 < q := by have := of_decide_eq_true b; omega
    obtain ⟨q, rfl⟩ : ∃ t, q = t + 1 := ⟨q - 1, by omega⟩
    rw [show ((q + 1 : Nat) : Int) - 1 = (q : Int) from by omega]
    have lx := val_take_lt' (xs := xs) u.lt q
    have ly := val_take_lt' (xs := ys) w.lt q
    rw [val_take_succ'] at hx hy
    refine (limb_c u q).mono ?_
    rintro _ _ ⟨rfl, rfl⟩
    refine ⟨_, rfl, (limb_c w q).mono ?_⟩
    rintro _ _ ⟨rfl, rfl⟩
    refine ⟨_, rfl, Br.mk (fun b1 => ?_) (fun b1 => ?_)⟩
    · have b2 : xs.getD q 0 < ys.getD q 0 := by have := of_decide_eq_true b1; omega
      rw [cmpI_lt]
      · exact ⟨rfl, rfl⟩
      · rw [hx, hy]; exact cmp_step lx b2
    · have b2 : ys.getD q 0 ≤ xs.getD q 0 := by have := of_decide_eq_false b1; omega
      refine (limb_c u q).mono ?_
      rintro _ _ ⟨rfl, rfl⟩
      refine ⟨_, rfl, (limb_c w q).mono ?_⟩
      rintro _ _ ⟨rfl, rfl⟩
      refine ⟨_, rfl, Br.mk (fun b3 => ?_) (fun b3 => ?_)⟩
      · have b4 : ys.getD q 0 < xs.getD q 0 := by have := of_decide_eq_true b3; omega
        rw [cmpI_gt]
        · exact ⟨rfl, rfl⟩
        · rw [hx, hy]; exact cmp_step ly b4
      · have b4 : xs.getD q 0 = ys.getD q 0 := by have := of_decide_eq_false b3; omega
        rintro _ rfl
        rw [wrap_i64 (by omega) (by omega)]
        refine ⟨q, by omega, H + B32 ^ q * xs.getD q 0, rfl, by omega, rfl, by omega, by rw [b4]; omega⟩
  · have b' : q = 0 := by have := of_decide_eq_false b; omega
    subst b'
    have : val xs = val ys := by simp [val] at hx hy; omega
    rw [this, cmpI_eq]
    exact ⟨rfl, rfl⟩

theorem own_is {h h' : Heap} {A : Option Addr} {n c : Nat} {gs : List Nat} (o : OwnE lv 76 h h' A n c gs) (hlt : ∀ x ∈ gs, x < 4294967296) : IsN h' A n c (val gs) := ⟨gs, o.sl.u32 hlt, rfl⟩

theorem mem_snoc32 {gs : List Nat} {y : Nat} (h : ∀ x ∈ gs, x < 4294967296) (hy : y < 4294967296) : ∀ x ∈ gs ++ [y], x < 4294967296 := fun x hx => by
  rcases List.mem_append.1 hx with a | a
  · exact h x a
  · rw [List.mem_singleton.1 a]; exact hy

theorem val_snoc32 (gs : List Nat) (y : Nat) : val (gs ++ [y]) = val gs + B32 ^ gs.length * y := by
  rw [val_append]
  simp [val]

theorem w32t {a : Int} {n : Nat} (h : a = n) : IntKind.u32.wrap (Int.tmod a 4294967296) = ((n % B32 : Nat) : Int) := by
  subst h
  rw [Int.tmod_eq_emod_of_nonneg (by omega), wrap_u32_mod]
  unfold B32
  omega

theorem wdiv {a : Int} {n : Nat} (h : a = n) (hn : n < 18446744073709551616) : IntKind.u64.wrap (Int.tdiv a 4294967296) = ((n / B32 : Nat) : Int) := by
  subst h
  rw [Int.tdiv_eq_ediv_of_nonneg (by omega), wrap_u64_mod]
  unfold B32
  omega

theorem modB (t : Nat) : t % B32 < 4294967296 := Nat.mod_lt _ (by decide)

/-! ### Add -/
def AddI (h : Heap) (xs ys : List Nat) (M : Nat) (m : Nat) (oA : Option Addr) (on oc : Nat) (carry i : Int) (h' : Heap) : Prop :=
  ∃ (k cN : Nat) (gs : List Nat), m = (M - k) * 2 + cN ∧ i = (k : Int) ∧ carry = (cN : Int) ∧ cN ≤ 1 ∧ (k ≤ M ∨ (k = M + 1 ∧ cN = 0)) ∧ gs.length = k ∧ (∀ x ∈ gs, x < 4294967296) ∧
    val gs + B32 ^ k * cN = val (xs.take k) + val (ys.take k) ∧ OwnE lv 76 h h' oA on oc gs ∧ Le h h'

theorem radd_step {G X Y c p q x y t : Nat} (h : G + p * c = X + Y) (ht : x + y + c = t) (hq : q = p * B32) : (G + p * (t % B32)) + q * (t / B32) = (X + p * x) + (Y + p * y) := by
  have := Nat.mod_add_div t B32
  subst hq
  grind

theorem r1add_c {h : Heap} {A B : Option Addr} {n c m d x y : Nat} (ux : IsN h A n c x) (uy : IsN h B m d y) (hn : n ≤ 1099511627776) (hm : m ≤ 1099511627776) :
    CallsU Tryz.prog 85 [.slice A n c, .slice B m d] h fun r h' => ∃ A' k c', r = .slice A' k c' ∧ NmN h' A' k c' (x + y) ∧ Le h h' := by
  apply ref01_Add_ok
  obtain ⟨xs, u, rfl⟩ := ux
  obtain ⟨ys, w, rfl⟩ := uy
  have hB : B32 = 4294967296 := rfl
  unfold ref01_Add_vc
  refine ⟨AddI h xs ys (max n m), ⟨_, 0, 0, [], rfl, rfl, rfl, by omega, Or.inl (by omega), rfl, by simp, by simp [val], OwnE.nil h, Le.refl h⟩, ?_⟩
  rintro _ oA on oc _ _ h1 ⟨k, cN, gs, rfl, rfl, rfl, hc, hk, hgl, hlt, hv, own, hle⟩
  have hon := own.1
  refine ⟨fun h2 => h1 = h2 ∧ (k < max n m ∨ 0 < cN), ?_, ?_⟩
  · rintro _ ⟨rfl, hgo⟩
    have lx := u.getD_lt k
    have ly := w.getD_lt k
    refine (limb_c (u.mono hle) k).mono ?_
    rintro _ _ ⟨rfl, rfl⟩
    refine ⟨_, rfl, (limb_c (w.mono hle) k).mono ?_⟩
    rintro _ _ ⟨rfl, rfl⟩
    refine ⟨_, rfl, ?_⟩
    rintro _ rfl _ rfl _ rfl g0 _ hg0 rfl
    rw [wu (a := ((xs.getD k 0 : Nat) : Int) + ((ys.getD k 0 : Nat) : Int)) (n := xs.getD k 0 + ys.getD k 0) (by omega) (by omega), wu (a := ((xs.getD k 0 + ys.getD k 0 : Nat) : Int) + (cN : Int)) (n := xs.getD k 0 + ys.getD k 0 + cN) (by omega) (by omega), w32t rfl]
    generalize ht : xs.getD k 0 + ys.getD k 0 + cN = t
    refine own.app (x := t % B32) (z := 0) (bs := 4) (K := fun A c hh => ∀ t38 : Int, t38 = IntKind.u64.wrap (Int.tdiv (t : Int) 4294967296) → ∀ t21 : Int, t21 = IntKind.i64.wrap ((k : Int) + 1) → ∃ m', m' < (max n m - k) * 2 + cN ∧ AddI h xs ys (max n m) m' A (on + 1) c t38 t21 hh) hle lv_one1 rfl rfl hg0 (by omega) ?_
    intro A' c' h' o l _
    rintro _ rfl _ rfl
    rw [wdiv rfl (by omega), wi (n := k + 1) (by omega) (by omega)]
    have hk1 : k ≤ max n m := by omega
    have hend : k = max n m → t ≤ 1 := fun e => by
      have e1 := getD_ge (xs := xs) (k := k) (by rw [u.len]; omega)
      have e2 := getD_ge (xs := ys) (k := k) (by rw [w.len]; omega)
      omega
    refine ⟨_, ?_, k + 1, t / B32, gs ++ [t % B32], rfl, rfl, rfl, ?_, ?_, by simp [hgl], mem_snoc32 hlt (modB t), ?_, o, l⟩
    · rw [hB]; omega
    · rw [hB]; omega
    · rw [hB]; omega
    · rw [val_snoc32, hgl, val_take_succ', val_take_succ']
      exact radd_step hv ht (Nat.pow_succ _ _)
  · rw [max_ite]
    refine Br.mk (fun b => ⟨rfl, Or.inl (by have := of_decide_eq_true b; omega)⟩) (fun b => Br.mk (fun b2 => ⟨rfl, Or.inr (by have := of_decide_eq_true b2; omega)⟩) (fun b2 => ?_))
    have b' : max n m ≤ k := by have := of_decide_eq_false b; omega
    have c0 : cN = 0 := by have := of_decide_eq_false b2; omega
    subst c0
    rw [val_take_le xs (by rw [u.len]; omega), val_take_le ys (by rw [w.len]; omega), Nat.mul_zero, Nat.add_zero] at hv
    refine (r1norm_c (own_is own hlt) (by omega)).mono ?_
    rintro _ h2 ⟨A', k', c', rfl, _, hN, hl⟩
    rw [hv] at hN
    exact ⟨_, _, _, rfl, _, _, _, rfl, hN, hle.trans hl⟩

/-! ### Sub -/
def SubI (h : Heap) (xs ys : List Nat) (M : Nat) (m : Nat) (oA : Option Addr) (on oc : Nat) (borrow i : Int) (h' : Heap) : Prop :=
  ∃ (k bN : Nat) (gs : List Nat), m = M - k ∧ i = (k : Int) ∧ borrow = (bN : Int) ∧ bN ≤ 1 ∧ k ≤ M ∧ gs.length = k ∧ (∀ x ∈ gs, x < 4294967296) ∧
    val gs + val (ys.take k) = val (xs.take k) + B32 ^ k * bN ∧ OwnE lv 76 h h' oA on oc gs ∧ Le h h'

theorem rsub_step {G X Y b p q x y t : Nat} (h : G + Y = X + p * b) (ht : B32 + x = t + y + b) (hb : t / B32 ≤ 1) (hq : q = p * B32) : (G + p * (t % B32)) + (Y + p * y) = (X + p * x) + q * (1 - t / B32) := by
  have h1 := Nat.mod_add_div t B32
  subst hq
  rcases Nat.le_one_iff_eq_zero_or_eq_one.1 hb with e0 | e0
  · rw [e0] at h1 ⊢
    simp only [Nat.sub_zero, Nat.mul_one, Nat.mul_zero, Nat.add_zero] at *
    generalize t % B32 = r at *
    subst h1
    have : p * B32 + p * x = p * r + p * y + p * b := by rw [← Nat.mul_add, ht]; rw [Nat.mul_add, Nat.mul_add]
    omega
  · rw [e0] at h1 ⊢
    simp only [Nat.sub_self, Nat.mul_one, Nat.mul_zero, Nat.add_zero] at *
    generalize t % B32 = r at *
    have hr : x = r + y + b := by omega
    subst hr
    rw [Nat.mul_add, Nat.mul_add]
    omega

theorem r1sub_c {h : Heap} {A B : Option Addr} {n c m d x y : Nat} (ux : IsN h A n c x) (uy : IsN h B m d y) (hn : n ≤ 1099511627776) (hm : m ≤ 1099511627776) :
    CallsU Tryz.prog 80 [.slice A n c, .slice B m d] h fun r h' => (x < y ∧ r = .tuple #[.slice none 0 0, .bool false] ∧ h = h') ∨ (y ≤ x ∧ ∃ A' k c', r = .tuple #[.slice A' k c', .bool true] ∧ NmN h' A' k c' (x - y) ∧ Le h h') := by
  apply ref01_Sub_ok
  refine (r1cmp_c ux uy hn hm).mono ?_
  rintro _ _ ⟨rfl, rfl⟩
  refine ⟨_, rfl, Br.mk (fun b => ?_) (fun b => ?_)⟩
  · have b' := of_decide_eq_true b
    refine Or.inl ⟨?_, rfl, rfl⟩
    unfold cmpI at b'
    split at b'
    · omega
    · split at b' <;> omega
  · have b' := of_decide_eq_false b
    have hyx : y ≤ x := by
      unfold cmpI at b'
      split at b'
      · omega
      · omega
    obtain ⟨xs, u, rfl⟩ := ux
    obtain ⟨ys, w, rfl⟩ := uy
    have hB : B32 = 4294967296 := rfl
    refine ⟨SubI h xs ys (max n m), ⟨_, 0, 0, [], rfl, rfl, rfl, by omega, by omega, rfl, by simp, by simp [val], OwnE.nil h, Le.refl h⟩, ?_⟩
    rintro _ oA on oc _ _ h1 ⟨k, bN, gs, rfl, rfl, rfl, hb, hk, hgl, hlt, hv, own, hle⟩
    have hon := own.1
    rw [max_ite]
    refine Br.mk (fun q => ?_) (fun q => ?_)
    · have q' : k < max n m := by have := of_decide_eq_true q; omega
      have lx := u.getD_lt k
      have ly := w.getD_lt k
      refine (limb_c (u.mono hle) k).mono ?_
      rintro _ _ ⟨rfl, rfl⟩
      refine ⟨_, rfl, ?_⟩
      rintro _ rfl
      rw [wu (n := 4294967296 + xs.getD k 0) (by omega) (by omega)]
      refine (limb_c (w.mono hle) k).mono ?_
      rintro _ _ ⟨rfl, rfl⟩
      refine ⟨_, rfl, ?_⟩
      rintro _ rfl _ rfl _ rfl g0 _ hg0 rfl
      rw [wu (a := ((4294967296 + xs.getD k 0 : Nat) : Int) - ((ys.getD k 0 : Nat) : Int)) (n := 4294967296 + xs.getD k 0 - ys.getD k 0) (by omega) (by omega), wu (a := ((4294967296 + xs.getD k 0 - ys.getD k 0 : Nat) : Int) - (bN : Int)) (n := 4294967296 + xs.getD k 0 - ys.getD k 0 - bN) (by omega) (by omega), w32t rfl]
      have ht : B32 + xs.getD k 0 = (4294967296 + xs.getD k 0 - ys.getD k 0 - bN) + ys.getD k 0 + bN := by rw [hB]; omega
      have htl : 4294967296 + xs.getD k 0 - ys.getD k 0 - bN < 2 * 4294967296 := by omega
      generalize 4294967296 + xs.getD k 0 - ys.getD k 0 - bN = t at ht htl ⊢
      refine own.app (x := t % B32) (z := 0) (bs := 4) (K := fun A c hh => ∀ t40 : Int, t40 = IntKind.u64.wrap (Int.tdiv (t : Int) 4294967296) → ∀ t41 : Int, t41 = IntKind.u64.wrap (1 - t40) → ∀ t22 : Int, t22 = IntKind.i64.wrap ((k : Int) + 1) → ∃ m', m' < max n m - k ∧ SubI h xs ys (max n m) m' A (on + 1) c t41 t22 hh) hle lv_one1 rfl rfl hg0 (by omega) ?_
      intro A' c' h' o l _
      rintro _ rfl _ rfl _ rfl
      have hd : t / B32 ≤ 1 := by rw [hB]; omega
      rw [wdiv rfl (by omega), wi (n := k + 1) (by omega) (by omega), wu (a := 1 - ((t / B32 : Nat) : Int)) (n := 1 - t / B32) (by omega) (Nat.lt_of_le_of_lt (Nat.sub_le 1 _) (by decide))]
      refine ⟨_, by omega, k + 1, 1 - t / B32, gs ++ [t % B32], rfl, rfl, rfl, Nat.sub_le 1 _, by omega, by simp [hgl], mem_snoc32 hlt (modB t), ?_, o, l⟩
      rw [val_snoc32, hgl, val_take_succ', val_take_succ']
      exact rsub_step hv ht hd (Nat.pow_succ _ _)
    · have q' : k = max n m := by have := of_decide_eq_false q; omega
      have hg := val_lt (l := gs) hlt
      rw [hgl] at hg
      rw [val_take_le ys (by rw [w.len]; omega), val_take_le xs (by rw [u.len]; omega)] at hv
      have b0 : bN = 0 := by
        rcases Nat.eq_zero_or_pos bN with e | e
        · exact e
        · exfalso
          have : bN = 1 := by omega
          subst this
          omega
      subst b0
      refine (r1norm_c (own_is own hlt) (by omega)).mono ?_
      rintro _ h2 ⟨A', k', c', rfl, _, hN, hl⟩
      rw [show val gs = val xs - val ys from by omega] at hN
      exact ⟨_, _, _, rfl, Or.inr ⟨hyx, _, _, _, rfl, hN, hle.trans hl⟩⟩
end Go.Proofs.YtfhipkdcekffaaaGreatDoor
