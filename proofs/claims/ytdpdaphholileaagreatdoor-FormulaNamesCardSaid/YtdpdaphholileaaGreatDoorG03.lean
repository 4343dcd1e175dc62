/-
  Gathered texts of this proof: VcN, Lib1, Cn1, Cn2, Cn3, Cn4, Cn5, Cn6.
-/
import Derived.Test.YtdpdaphholileaaGreatDoorG02
import Derived.Test.YtdpdaphholileaaGreatDoorChecked

/- Made by vcgen.py: verification conditions of functions, each held against the calculator by the kernel. -/
namespace Go.Proofs.YtdpdaphholileaaGreatDoor
open Go Go.Vcg

def natural_trim_vc (aA : Option Addr) (an ac : Nat) (h : Heap) (R : Value → Heap → Prop) : Prop :=
 ∃ J : Nat → Int → Heap → Prop, (∃ m, J m ((an : Nat) : Int) h) ∧
 ∀ (m : Nat) (n : Int) (h_1 : Heap), J m n h_1 →
 Br (decide (n > 0))
  (∀ t11 : Int, t11 = IntKind.i64.wrap (n - 1) →
 ∃ ad : Addr, aA = some ad ∧ 0 ≤ t11 ∧ t11 < ((an : Nat) : Int) ∧
 ∃ t13 : Int, LdN h_1 (Addr.add ad (Int.toNat t11 * 1)) [Value.int .u32 t13] ∧
 Br ((t13 : Int) == 0)
  (∀ t17 : Int, t17 = IntKind.i64.wrap (n - 1) →
 ∃ m_1, m_1 < m ∧ J m_1 t17 h_1)
  (((0 : Nat) : Int) ≤ n ∧ n ≤ ((ac : Nat) : Int) ∧
 R (Value.slice aA (Int.toNat n) ac) h_1))
  (((0 : Nat) : Int) ≤ n ∧ n ≤ ((ac : Nat) : Int) ∧
 R (Value.slice aA (Int.toNat n) ac) h_1)

set_option maxRecDepth 100000 in
theorem natural_trim_ok {aA : Option Addr} {an ac : Nat} {h : Heap} {R : Value → Heap → Prop} (hv : natural_trim_vc aA an ac h R) : CallsU Tryz.prog 101 [Value.slice aA an ac] h R :=
  fn_sound Tryz.func101 (by kernel_rfl) (by kernel_rfl) (by kernel_rfl) (fun _ => false) (.two .nil (.two .nil (.two (.one (.loop ⟨[(3, Sh.int .i64)], []⟩ .nil)) .nil))) [Value.slice aA an ac] h R (by kernel_rfl)
    (Eq.mp (show natural_trim_vc aA an ac h R = fnV Tryz.prog Tryz.f101 (fun _ => false) (.two .nil (.two .nil (.two (.one (.loop ⟨[(3, Sh.int .i64)], []⟩ .nil)) .nil))) [Value.slice aA an ac] h R by kernel_rfl) hv)

def natural_Of_vc (n : Int) (h : Heap) (R : Value → Heap → Prop) : Prop :=
 ∀ t6 : Int, t6 = (Int.fdiv n (2 ^ (32 : Nat))) →
 ∀ (g : Nat) (h_1 : Heap), h g = none → h_1 = Heap.put h g ⟨[Value.int .u32 (IntKind.u32.wrap n), Value.int .u32 (IntKind.u32.wrap t6)], 104, (0, 0)⟩ →
 CallsU Tryz.prog 101 [Value.slice (some ⟨g, 0, none⟩) 2 2] h_1 fun v h_2 =>
 ∃ t9A : Option Addr, ∃ t9n t9c : Nat, v = Value.slice t9A t9n t9c ∧
 R (Value.slice t9A t9n t9c) h_2

set_option maxRecDepth 100000 in
theorem natural_Of_ok {n : Int} {h : Heap} {R : Value → Heap → Prop} (hv : natural_Of_vc n h R) : CallsU Tryz.prog 93 [Value.int .u64 n] h R :=
  fn_sound Tryz.func93 (by kernel_rfl) (by kernel_rfl) (by kernel_rfl) (fun _ => false) .nil [Value.int .u64 n] h R (by kernel_rfl)
    (Eq.mp (show natural_Of_vc n h R = fnV Tryz.prog Tryz.f93 (fun _ => false) .nil [Value.int .u64 n] h R by kernel_rfl) hv)

def natural_Norm_vc (aA : Option Addr) (an ac : Nat) (h : Heap) (R : Value → Heap → Prop) : Prop :=
 CallsU Tryz.prog 101 [Value.slice aA an ac] h fun v h_1 =>
 ∃ t5A : Option Addr, ∃ t5n t5c : Nat, v = Value.slice t5A t5n t5c ∧
 0 ≤ ((t5n : Nat) : Int) ∧ ((t5n : Nat) : Int) ≤ ((t5n : Nat) : Int) ∧ ((t5n : Nat) : Int) * 4 ≤ 140737488355328 ∧ ((t5n : Nat) : Int) ≤ 9223372036854775807 ∧
 ∀ (g : Nat) (h_2 : Heap), h_1 g = none → h_2 = Heap.put h_1 g ⟨repV [Value.int .u32 0] (Int.toNat ((t5n : Nat) : Int)), 104, (0, 0)⟩ →
 ∃ xs : List Value, RdS h_2 t5A (min t5n (Int.toNat ((t5n : Nat) : Int)) * 1) xs ∧ (∀ x ∈ xs, Go.Vcg.one x = true) ∧
 (min t5n (Int.toNat ((t5n : Nat) : Int)) * 1 = 0 → R (Value.slice (some ⟨g, 0, none⟩) (Int.toNat ((t5n : Nat) : Int)) (Int.toNat ((t5n : Nat) : Int))) h_2) ∧
 (0 < min t5n (Int.toNat ((t5n : Nat) : Int)) * 1 → ∃ (ad : Addr) (b : Blk), some ⟨g, 0, none⟩ = some ad ∧ ad.spot = none ∧ h_2 ad.block = some b ∧ b.fz = (0, 0) ∧ ad.off + min t5n (Int.toNat ((t5n : Nat) : Int)) * 1 ≤ b.cells.length ∧
 ∀ h_3 : Heap, h_3 = Heap.put h_2 ad.block { b with cells := setSeg b.cells ad.off xs } →
 R (Value.slice (some ⟨g, 0, none⟩) (Int.toNat ((t5n : Nat) : Int)) (Int.toNat ((t5n : Nat) : Int))) h_3)

set_option maxRecDepth 100000 in
theorem natural_Norm_ok {aA : Option Addr} {an ac : Nat} {h : Heap} {R : Value → Heap → Prop} (hv : natural_Norm_vc aA an ac h R) : CallsU Tryz.prog 147 [Value.slice aA an ac] h R :=
  fn_sound Tryz.func147 (by kernel_rfl) (by kernel_rfl) (by kernel_rfl) (fun _ => false) .nil [Value.slice aA an ac] h R (by kernel_rfl)
    (Eq.mp (show natural_Norm_vc aA an ac h R = fnV Tryz.prog Tryz.f147 (fun _ => false) .nil [Value.slice aA an ac] h R by kernel_rfl) hv)

def natural_Cmp_vc (aA : Option Addr) (an ac : Nat) (bA : Option Addr) (bn bc : Nat) (h : Heap) (R : Value → Heap → Prop) : Prop :=
 CallsU Tryz.prog 101 [Value.slice aA an ac] h fun v h_1 =>
 ∃ t9A : Option Addr, ∃ t9n t9c : Nat, v = Value.slice t9A t9n t9c ∧
 CallsU Tryz.prog 101 [Value.slice bA bn bc] h_1 fun v_1 h_2 =>
 ∃ t11A : Option Addr, ∃ t11n t11c : Nat, v_1 = Value.slice t11A t11n t11c ∧
 CallsU Tryz.prog 145 [Value.int .i64 ((t9n : Nat) : Int), Value.int .i64 ((t11n : Nat) : Int)] h_2 fun v_2 h_3 =>
 ∃ t16 : Int, v_2 = Value.int .i64 t16 ∧
 Br ((t16 : Int) != 0)
  (R (Value.int .i64 t16) h_3)
  (∀ t22 : Int, t22 = IntKind.i64.wrap (((t9n : Nat) : Int) - 1) →
 ∃ J : Nat → Int → Heap → Prop, (∃ m, J m t22 h_3) ∧
 ∀ (m : Nat) (i : Int) (h_4 : Heap), J m i h_4 →
 Br (decide (i ≥ 0))
  (∃ ad : Addr, t9A = some ad ∧ 0 ≤ i ∧ i < ((t9n : Nat) : Int) ∧
 ∃ t30 : Int, LdN h_4 (Addr.add ad (Int.toNat i * 1)) [Value.int .u32 t30] ∧
 ∃ ad_1 : Addr, t11A = some ad_1 ∧ 0 ≤ i ∧ i < ((t11n : Nat) : Int) ∧
 ∃ t34 : Int, LdN h_4 (Addr.add ad_1 (Int.toNat i * 1)) [Value.int .u32 t34] ∧
 CallsU Tryz.prog 146 [Value.int .u32 t30, Value.int .u32 t34] h_4 fun v_3 h_5 =>
 ∃ t35 : Int, v_3 = Value.int .i64 t35 ∧
 Br ((t35 : Int) != 0)
  (R (Value.int .i64 t35) h_5)
  (∀ t26 : Int, t26 = IntKind.i64.wrap (i - 1) →
 ∃ m_1, m_1 < m ∧ J m_1 t26 h_5))
  (R (Value.int .i64 0) h_4))

set_option maxRecDepth 100000 in
theorem natural_Cmp_ok {aA : Option Addr} {an ac : Nat} {bA : Option Addr} {bn bc : Nat} {h : Heap} {R : Value → Heap → Prop} (hv : natural_Cmp_vc aA an ac bA bn bc h R) : CallsU Tryz.prog 95 [Value.slice aA an ac, Value.slice bA bn bc] h R :=
  fn_sound Tryz.func95 (by kernel_rfl) (by kernel_rfl) (by kernel_rfl) (fun _ => false) (.two .nil (.two .nil (.two .nil (.two (.two .nil (.one (.loop ⟨[(6, Sh.int .i64)], []⟩ (.two .nil (.two (.one (.two (.ord [0, 1, 2, 3, 4, 5, 6, 7, 8, 9]) .nil)) .nil))))) .nil)))) [Value.slice aA an ac, Value.slice bA bn bc] h R (by kernel_rfl)
    (Eq.mp (show natural_Cmp_vc aA an ac bA bn bc h R = fnV Tryz.prog Tryz.f95 (fun _ => false) (.two .nil (.two .nil (.two .nil (.two (.two .nil (.one (.loop ⟨[(6, Sh.int .i64)], []⟩ (.two .nil (.two (.one (.two (.ord [0, 1, 2, 3, 4, 5, 6, 7, 8, 9]) .nil)) .nil))))) .nil)))) [Value.slice aA an ac, Value.slice bA bn bc] h R by kernel_rfl) hv)

def natural_Add_vc (aA : Option Addr) (an ac : Nat) (bA : Option Addr) (bn bc : Nat) (h : Heap) (R : Value → Heap → Prop) : Prop :=
 CallsU Tryz.prog 101 [Value.slice aA an ac] h fun v h_1 =>
 ∃ t10A : Option Addr, ∃ t10n t10c : Nat, v = Value.slice t10A t10n t10c ∧
 CallsU Tryz.prog 101 [Value.slice bA bn bc] h_1 fun v_1 h_2 =>
 ∃ t12A : Option Addr, ∃ t12n t12c : Nat, v_1 = Value.slice t12A t12n t12c ∧
 ∃ C : Option Addr → Nat → Nat → Option Addr → Nat → Nat → Heap → Prop, (∀ (aA_1 : Option Addr) (an_1 ac_1 : Nat) (bA_1 : Option Addr) (bn_1 bc_1 : Nat) (h_3 : Heap), C aA_1 an_1 ac_1 bA_1 bn_1 bc_1 h_3 →
 ∀ t22 : Int, t22 = IntKind.i64.wrap (((an_1 : Nat) : Int) + 1) →
 0 ≤ (0 : Int) ∧ (0 : Int) ≤ t22 ∧ t22 * 4 ≤ 140737488355328 ∧ t22 ≤ 9223372036854775807 ∧
 ∀ (g : Nat) (h_4 : Heap), h_3 g = none → h_4 = Heap.put h_3 g ⟨repV [Value.int .u32 0] (Int.toNat t22), 104, (0, 0)⟩ →
 ∃ J : Nat → Option Addr → Nat → Nat → Int → Int → Heap → Prop, (∃ m, J m (some ⟨g, 0, none⟩) 0 (Int.toNat t22) 0 0 h_4) ∧
 ∀ (m : Nat) (rA : Option Addr) (rn rc : Nat) (carry : Int) (t26 : Int) (h_5 : Heap), J m rA rn rc carry t26 h_5 →
 Br (decide (t26 < ((an_1 : Nat) : Int)))
  (∃ ad : Addr, aA_1 = some ad ∧ 0 ≤ t26 ∧ t26 < ((an_1 : Nat) : Int) ∧
 ∃ t30 : Int, LdN h_5 (Addr.add ad (Int.toNat t26 * 1)) [Value.int .u32 t30] ∧
 ∀ t34 : Int, t34 = IntKind.u64.wrap (carry + (IntKind.u64.wrap t30)) →
 ∃ C_1 : Int → Heap → Prop, (∀ (carry_1 : Int) (h_6 : Heap), C_1 carry_1 h_6 →
 ∀ (g_1 : Nat) (h_7 : Heap), h_6 g_1 = none → h_7 = Heap.put h_6 g_1 ⟨[Value.int .u32 (IntKind.u32.wrap carry_1)], 104, (0, 0)⟩ →
 ∃ xs : List Value, RdS h_7 (some ⟨g_1, 0, none⟩) (1 * 1) xs ∧ (∀ x ∈ xs, Go.Vcg.one x = true) ∧
 (rn + 1 ≤ rc → ∃ (ad_1 : Addr) (b : Blk), rA = some ad_1 ∧ ad_1.spot = none ∧ h_7 ad_1.block = some b ∧ b.fz = (0, 0) ∧ ad_1.off + rn * 1 + 1 * 1 ≤ b.cells.length ∧
 ∀ h_9 : Heap, h_9 = Heap.put h_7 ad_1.block { b with cells := setSeg b.cells (ad_1.off + rn * 1) xs } →
 ∀ t52 : Int, t52 = (Int.fdiv carry_1 (2 ^ (32 : Nat))) →
 ∀ t53 : Int, t53 = IntKind.i64.wrap (t26 + 1) →
 ∃ m_1, m_1 < m ∧ J m_1 rA (rn + 1) rc t52 t53 h_9) ∧
 (rc < rn + 1 → ∃ olds : List Value, RdS h_7 rA (rn * 1) olds ∧ (rn + 1) * 4 ≤ 140737488355328 ∧
 ∀ (g_2 cap : Nat) (h_10 : Heap), h_7 g_2 = none → rn + 1 ≤ cap → h_10 = Heap.put h_7 g_2 ⟨olds ++ xs ++ repV [Value.int .u32 0] (cap - (rn + 1)), 104, (0, 0)⟩ →
 ∀ t52_1 : Int, t52_1 = (Int.fdiv carry_1 (2 ^ (32 : Nat))) →
 ∀ t53_1 : Int, t53_1 = IntKind.i64.wrap (t26 + 1) →
 ∃ m_1, m_1 < m ∧ J m_1 (some ⟨g_2, 0, none⟩) (rn + 1) cap t52_1 t53_1 h_10)) ∧
 Br (decide (t26 < ((bn_1 : Nat) : Int)))
  (∃ ad_2 : Addr, bA_1 = some ad_2 ∧ 0 ≤ t26 ∧ t26 < ((bn_1 : Nat) : Int) ∧
 ∃ t43 : Int, LdN h_5 (Addr.add ad_2 (Int.toNat t26 * 1)) [Value.int .u32 t43] ∧
 ∀ t45 : Int, t45 = IntKind.u64.wrap (t34 + (IntKind.u64.wrap t43)) →
 C_1 t45 h_5)
  (C_1 t34 h_5))
  (∀ (g_3 : Nat) (h_11 : Heap), h_5 g_3 = none → h_11 = Heap.put h_5 g_3 ⟨[Value.int .u32 (IntKind.u32.wrap carry)], 104, (0, 0)⟩ →
 ∃ xs_1 : List Value, RdS h_11 (some ⟨g_3, 0, none⟩) (1 * 1) xs_1 ∧ (∀ x ∈ xs_1, Go.Vcg.one x = true) ∧
 (rn + 1 ≤ rc → ∃ (ad_3 : Addr) (b_1 : Blk), rA = some ad_3 ∧ ad_3.spot = none ∧ h_11 ad_3.block = some b_1 ∧ b_1.fz = (0, 0) ∧ ad_3.off + rn * 1 + 1 * 1 ≤ b_1.cells.length ∧
 ∀ h_13 : Heap, h_13 = Heap.put h_11 ad_3.block { b_1 with cells := setSeg b_1.cells (ad_3.off + rn * 1) xs_1 } →
 CallsU Tryz.prog 101 [Value.slice rA (rn + 1) rc] h_13 fun v_4 h_15 =>
 ∃ t59A : Option Addr, ∃ t59n t59c : Nat, v_4 = Value.slice t59A t59n t59c ∧
 R (Value.slice t59A t59n t59c) h_15) ∧
 (rc < rn + 1 → ∃ olds_1 : List Value, RdS h_11 rA (rn * 1) olds_1 ∧ (rn + 1) * 4 ≤ 140737488355328 ∧
 ∀ (g_4 cap_1 : Nat) (h_14 : Heap), h_11 g_4 = none → rn + 1 ≤ cap_1 → h_14 = Heap.put h_11 g_4 ⟨olds_1 ++ xs_1 ++ repV [Value.int .u32 0] (cap_1 - (rn + 1)), 104, (0, 0)⟩ →
 CallsU Tryz.prog 101 [Value.slice (some ⟨g_4, 0, none⟩) (rn + 1) cap_1] h_14 fun v_5 h_16 =>
 ∃ t59A_1 : Option Addr, ∃ t59n_1 t59c_1 : Nat, v_5 = Value.slice t59A_1 t59n_1 t59c_1 ∧
 R (Value.slice t59A_1 t59n_1 t59c_1) h_16))) ∧
 Br (decide (((t10n : Nat) : Int) < ((t12n : Nat) : Int)))
  (C t12A t12n t12c t10A t10n t10c h_2)
  (C t10A t10n t10c t12A t12n t12c h_2)

set_option maxRecDepth 100000 in
theorem natural_Add_ok {aA : Option Addr} {an ac : Nat} {bA : Option Addr} {bn bc : Nat} {h : Heap} {R : Value → Heap → Prop} (hv : natural_Add_vc aA an ac bA bn bc h R) : CallsU Tryz.prog 97 [Value.slice aA an ac, Value.slice bA bn bc] h R :=
  fn_sound Tryz.func97 (by kernel_rfl) (by kernel_rfl) (by kernel_rfl) (fun _ => false) (.two .nil (.two .nil (.cut ⟨[(0, Sh.slice), (1, Sh.slice)], []⟩ .nil (.two .nil (.two .nil (.two (.two .nil (.one (.loop ⟨[(5, Sh.slice), (6, Sh.int .u64), (26, Sh.int .i64)], []⟩ (.two .nil (.two .nil (.two (.one (.two .nil (.two .nil (.cut ⟨[(6, Sh.int .u64)], []⟩ .nil .nil)))) .nil)))))) .nil)))))) [Value.slice aA an ac, Value.slice bA bn bc] h R (by kernel_rfl)
    (Eq.mp (show natural_Add_vc aA an ac bA bn bc h R = fnV Tryz.prog Tryz.f97 (fun _ => false) (.two .nil (.two .nil (.cut ⟨[(0, Sh.slice), (1, Sh.slice)], []⟩ .nil (.two .nil (.two .nil (.two (.two .nil (.one (.loop ⟨[(5, Sh.slice), (6, Sh.int .u64), (26, Sh.int .i64)], []⟩ (.two .nil (.two .nil (.two (.one (.two .nil (.two .nil (.cut ⟨[(6, Sh.int .u64)], []⟩ .nil .nil)))) .nil)))))) .nil)))))) [Value.slice aA an ac, Value.slice bA bn bc] h R by kernel_rfl) hv)

def natural_Sub_vc (aA : Option Addr) (an ac : Nat) (bA : Option Addr) (bn bc : Nat) (h : Heap) (R : Value → Heap → Prop) : Prop :=
 CallsU Tryz.prog 101 [Value.slice aA an ac] h fun v h_1 =>
 ∃ t12A : Option Addr, ∃ t12n t12c : Nat, v = Value.slice t12A t12n t12c ∧
 CallsU Tryz.prog 101 [Value.slice bA bn bc] h_1 fun v_1 h_2 =>
 ∃ t14A : Option Addr, ∃ t14n t14c : Nat, v_1 = Value.slice t14A t14n t14c ∧
 CallsU Tryz.prog 95 [Value.slice t12A t12n t12c, Value.slice t14A t14n t14c] h_2 fun v_2 h_3 =>
 ∃ t17 : Int, v_2 = Value.int .i64 t17 ∧
 Br (decide (t17 < 0))
  (R (Value.tuple #[Value.slice none 0 0, Value.bool false]) h_3)
  (0 ≤ ((t12n : Nat) : Int) ∧ ((t12n : Nat) : Int) ≤ ((t12n : Nat) : Int) ∧ ((t12n : Nat) : Int) * 4 ≤ 140737488355328 ∧ ((t12n : Nat) : Int) ≤ 9223372036854775807 ∧
 ∀ (g : Nat) (h_4 : Heap), h_3 g = none → h_4 = Heap.put h_3 g ⟨repV [Value.int .u32 0] (Int.toNat ((t12n : Nat) : Int)), 104, (0, 0)⟩ →
 ∃ J : Nat → Int → Int → Heap → Prop, (∃ m, J m 0 0 h_4) ∧
 ∀ (m : Nat) (borrow : Int) (t24 : Int) (h_5 : Heap), J m borrow t24 h_5 →
 Br (decide (t24 < ((t12n : Nat) : Int)))
  (∃ ad : Addr, t12A = some ad ∧ 0 ≤ t24 ∧ t24 < ((t12n : Nat) : Int) ∧
 ∃ t28 : Int, LdN h_5 (Addr.add ad (Int.toNat t24 * 1)) [Value.int .u32 t28] ∧
 ∀ t32 : Int, t32 = IntKind.u64.wrap ((IntKind.u64.wrap t28) - borrow) →
 ∃ C : Int → Heap → Prop, (∀ (d : Int) (h_6 : Heap), C d h_6 →
 ∃ ad_1 : Addr, some ⟨g, 0, none⟩ = some ad_1 ∧ 0 ≤ t24 ∧ t24 < (((Int.toNat ((t12n : Nat) : Int)) : Nat) : Int) ∧
 ∃ b : Blk, h_6 (Addr.block (Addr.add ad_1 (Int.toNat t24 * 1))) = some b ∧ b.fz = (0, 0) ∧ Addr.spot (Addr.add ad_1 (Int.toNat t24 * 1)) = none ∧ Addr.off (Addr.add ad_1 (Int.toNat t24 * 1)) + 1 ≤ b.cells.length ∧
 ∀ h_7 : Heap, h_7 = Heap.put h_6 (Addr.block (Addr.add ad_1 (Int.toNat t24 * 1))) { b with cells := setSeg b.cells (Addr.off (Addr.add ad_1 (Int.toNat t24 * 1))) [Value.int .u32 (IntKind.u32.wrap d)] } →
 ∀ t50 : Int, t50 = (Int.fdiv d (2 ^ (63 : Nat))) →
 ∀ t51 : Int, t51 = IntKind.i64.wrap (t24 + 1) →
 ∃ m_1, m_1 < m ∧ J m_1 t50 t51 h_7) ∧
 Br (decide (t24 < ((t14n : Nat) : Int)))
  (∃ ad_2 : Addr, t14A = some ad_2 ∧ 0 ≤ t24 ∧ t24 < ((t14n : Nat) : Int) ∧
 ∃ t41 : Int, LdN h_5 (Addr.add ad_2 (Int.toNat t24 * 1)) [Value.int .u32 t41] ∧
 ∀ t43 : Int, t43 = IntKind.u64.wrap (t32 - (IntKind.u64.wrap t41)) →
 C t43 h_5)
  (C t32 h_5))
  (CallsU Tryz.prog 101 [Value.slice (some ⟨g, 0, none⟩) (Int.toNat ((t12n : Nat) : Int)) (Int.toNat ((t12n : Nat) : Int))] h_5 fun v_3 h_8 =>
 ∃ t53A : Option Addr, ∃ t53n t53c : Nat, v_3 = Value.slice t53A t53n t53c ∧
 R (Value.tuple #[Value.slice t53A t53n t53c, Value.bool true]) h_8))

set_option maxRecDepth 100000 in
theorem natural_Sub_ok {aA : Option Addr} {an ac : Nat} {bA : Option Addr} {bn bc : Nat} {h : Heap} {R : Value → Heap → Prop} (hv : natural_Sub_vc aA an ac bA bn bc h R) : CallsU Tryz.prog 98 [Value.slice aA an ac, Value.slice bA bn bc] h R :=
  fn_sound Tryz.func98 (by kernel_rfl) (by kernel_rfl) (by kernel_rfl) (fun _ => false) (.two .nil (.two .nil (.two .nil (.two .nil (.two .nil (.two (.two .nil (.one (.loop ⟨[(7, Sh.int .u64), (24, Sh.int .i64)], []⟩ (.two .nil (.two .nil (.two (.one (.two .nil (.two .nil (.cut ⟨[(10, Sh.int .u64)], []⟩ .nil .nil)))) .nil)))))) .nil)))))) [Value.slice aA an ac, Value.slice bA bn bc] h R (by kernel_rfl)
    (Eq.mp (show natural_Sub_vc aA an ac bA bn bc h R = fnV Tryz.prog Tryz.f98 (fun _ => false) (.two .nil (.two .nil (.two .nil (.two .nil (.two .nil (.two (.two .nil (.one (.loop ⟨[(7, Sh.int .u64), (24, Sh.int .i64)], []⟩ (.two .nil (.two .nil (.two (.one (.two .nil (.two .nil (.cut ⟨[(10, Sh.int .u64)], []⟩ .nil .nil)))) .nil)))))) .nil)))))) [Value.slice aA an ac, Value.slice bA bn bc] h R by kernel_rfl) hv)

def natural_Mul_vc (aA : Option Addr) (an ac : Nat) (bA : Option Addr) (bn bc : Nat) (h : Heap) (R : Value → Heap → Prop) : Prop :=
 CallsU Tryz.prog 101 [Value.slice aA an ac] h fun v h_1 =>
 ∃ t12A : Option Addr, ∃ t12n t12c : Nat, v = Value.slice t12A t12n t12c ∧
 CallsU Tryz.prog 101 [Value.slice bA bn bc] h_1 fun v_1 h_2 =>
 ∃ t14A : Option Addr, ∃ t14n t14c : Nat, v_1 = Value.slice t14A t14n t14c ∧
 ∀ t19 : Int, t19 = IntKind.i64.wrap (((t12n : Nat) : Int) + ((t14n : Nat) : Int)) →
 0 ≤ t19 ∧ t19 ≤ t19 ∧ t19 * 4 ≤ 140737488355328 ∧ t19 ≤ 9223372036854775807 ∧
 ∀ (g : Nat) (h_3 : Heap), h_2 g = none → h_3 = Heap.put h_2 g ⟨repV [Value.int .u32 0] (Int.toNat t19), 104, (0, 0)⟩ →
 ∃ J : Nat → Int → Heap → Prop, (∃ m, J m 0 h_3) ∧
 ∀ (m : Nat) (t23 : Int) (h_4 : Heap), J m t23 h_4 →
 Br (decide (t23 < ((t12n : Nat) : Int)))
  (∃ ad : Addr, t12A = some ad ∧ 0 ≤ t23 ∧ t23 < ((t12n : Nat) : Int) ∧
 ∃ t27 : Int, LdN h_4 (Addr.add ad (Int.toNat t23 * 1)) [Value.int .u32 t27] ∧
 ∃ J_1 : Nat → Int → Int → Heap → Prop, (∃ m_2, J_1 m_2 0 0 h_4) ∧
 ∀ (m_2 : Nat) (carry : Int) (t30 : Int) (h_5 : Heap), J_1 m_2 carry t30 h_5 →
 Br (decide (t30 < ((t14n : Nat) : Int)))
  (∃ ad_1 : Addr, t14A = some ad_1 ∧ 0 ≤ t30 ∧ t30 < ((t14n : Nat) : Int) ∧
 ∃ t34 : Int, LdN h_5 (Addr.add ad_1 (Int.toNat t30 * 1)) [Value.int .u32 t34] ∧
 ∀ t40 : Int, t40 = IntKind.u64.wrap ((IntKind.u64.wrap t27) * (IntKind.u64.wrap t34)) →
 ∀ t44 : Int, t44 = IntKind.i64.wrap (t23 + t30) →
 ∃ ad_2 : Addr, some ⟨g, 0, none⟩ = some ad_2 ∧ 0 ≤ t44 ∧ t44 < (((Int.toNat t19) : Nat) : Int) ∧
 ∃ t46 : Int, LdN h_5 (Addr.add ad_2 (Int.toNat t44 * 1)) [Value.int .u32 t46] ∧
 ∀ t48 : Int, t48 = IntKind.u64.wrap (t40 + (IntKind.u64.wrap t46)) →
 ∀ t49 : Int, t49 = IntKind.u64.wrap (carry + t48) →
 ∀ t53 : Int, t53 = IntKind.i64.wrap (t23 + t30) →
 ∃ ad_3 : Addr, some ⟨g, 0, none⟩ = some ad_3 ∧ 0 ≤ t53 ∧ t53 < (((Int.toNat t19) : Nat) : Int) ∧
 ∃ b : Blk, h_5 (Addr.block (Addr.add ad_3 (Int.toNat t53 * 1))) = some b ∧ b.fz = (0, 0) ∧ Addr.spot (Addr.add ad_3 (Int.toNat t53 * 1)) = none ∧ Addr.off (Addr.add ad_3 (Int.toNat t53 * 1)) + 1 ≤ b.cells.length ∧
 ∀ h_6 : Heap, h_6 = Heap.put h_5 (Addr.block (Addr.add ad_3 (Int.toNat t53 * 1))) { b with cells := setSeg b.cells (Addr.off (Addr.add ad_3 (Int.toNat t53 * 1))) [Value.int .u32 (IntKind.u32.wrap t49)] } →
 ∀ t58 : Int, t58 = (Int.fdiv t49 (2 ^ (32 : Nat))) →
 ∀ t59 : Int, t59 = IntKind.i64.wrap (t30 + 1) →
 ∃ m_3, m_3 < m_2 ∧ J_1 m_3 t58 t59 h_6)
  (∀ t64 : Int, t64 = IntKind.i64.wrap (t23 + ((t14n : Nat) : Int)) →
 ∃ ad_4 : Addr, some ⟨g, 0, none⟩ = some ad_4 ∧ 0 ≤ t64 ∧ t64 < (((Int.toNat t19) : Nat) : Int) ∧
 ∃ b_1 : Blk, h_5 (Addr.block (Addr.add ad_4 (Int.toNat t64 * 1))) = some b_1 ∧ b_1.fz = (0, 0) ∧ Addr.spot (Addr.add ad_4 (Int.toNat t64 * 1)) = none ∧ Addr.off (Addr.add ad_4 (Int.toNat t64 * 1)) + 1 ≤ b_1.cells.length ∧
 ∀ h_7 : Heap, h_7 = Heap.put h_5 (Addr.block (Addr.add ad_4 (Int.toNat t64 * 1))) { b_1 with cells := setSeg b_1.cells (Addr.off (Addr.add ad_4 (Int.toNat t64 * 1))) [Value.int .u32 (IntKind.u32.wrap carry)] } →
 ∀ t68 : Int, t68 = IntKind.i64.wrap (t23 + 1) →
 ∃ m_1, m_1 < m ∧ J m_1 t68 h_7))
  (CallsU Tryz.prog 101 [Value.slice (some ⟨g, 0, none⟩) (Int.toNat t19) (Int.toNat t19)] h_4 fun v_2 h_8 =>
 ∃ t70A : Option Addr, ∃ t70n t70c : Nat, v_2 = Value.slice t70A t70n t70c ∧
 R (Value.slice t70A t70n t70c) h_8)

set_option maxRecDepth 100000 in
theorem natural_Mul_ok {aA : Option Addr} {an ac : Nat} {bA : Option Addr} {bn bc : Nat} {h : Heap} {R : Value → Heap → Prop} (hv : natural_Mul_vc aA an ac bA bn bc h R) : CallsU Tryz.prog 61 [Value.slice aA an ac, Value.slice bA bn bc] h R :=
  fn_sound Tryz.func61 (by kernel_rfl) (by kernel_rfl) (by kernel_rfl) (fun _ => false) (.two .nil (.two .nil (.two .nil (.two (.two .nil (.one (.loop ⟨[(23, Sh.int .i64)], []⟩ (.two .nil (.two .nil (.two (.one (.two .nil (.two .nil (.two (.two .nil (.one (.loop ⟨[(8, Sh.int .u64), (30, Sh.int .i64)], []⟩ .nil))) .nil)))) .nil)))))) .nil)))) [Value.slice aA an ac, Value.slice bA bn bc] h R (by kernel_rfl)
    (Eq.mp (show natural_Mul_vc aA an ac bA bn bc h R = fnV Tryz.prog Tryz.f61 (fun _ => false) (.two .nil (.two .nil (.two .nil (.two (.two .nil (.one (.loop ⟨[(23, Sh.int .i64)], []⟩ (.two .nil (.two .nil (.two (.one (.two .nil (.two .nil (.two (.two .nil (.one (.loop ⟨[(8, Sh.int .u64), (30, Sh.int .i64)], []⟩ .nil))) .nil)))) .nil)))))) .nil)))) [Value.slice aA an ac, Value.slice bA bn bc] h R by kernel_rfl) hv)

def natural_short_vc (aA : Option Addr) (an _ac : Nat) (d : Int) (h : Heap) (R : Value → Heap → Prop) : Prop :=
 0 ≤ ((an : Nat) : Int) ∧ ((an : Nat) : Int) ≤ ((an : Nat) : Int) ∧ ((an : Nat) : Int) * 4 ≤ 140737488355328 ∧ ((an : Nat) : Int) ≤ 9223372036854775807 ∧
 ∀ (g : Nat) (h_1 : Heap), h g = none → h_1 = Heap.put h g ⟨repV [Value.int .u32 0] (Int.toNat ((an : Nat) : Int)), 104, (0, 0)⟩ →
 ∀ t14 : Int, t14 = IntKind.i64.wrap (((an : Nat) : Int) - 1) →
 ∃ J : Nat → Int → Int → Heap → Prop, (∃ m, J m 0 t14 h_1) ∧
 ∀ (m : Nat) (r : Int) (i : Int) (h_2 : Heap), J m r i h_2 →
 Br (decide (i ≥ 0))
  (∀ t20 : Int, t20 = IntKind.u64.wrap (r * 2 ^ (32 : Nat)) →
 ∃ ad : Addr, aA = some ad ∧ 0 ≤ i ∧ i < ((an : Nat) : Int) ∧
 ∃ t24 : Int, LdN h_2 (Addr.add ad (Int.toNat i * 1)) [Value.int .u32 t24] ∧
 ∀ t26 : Int, t26 = bitsOf .or .u64 t20 (IntKind.u64.wrap t24) →
 Br (decide (IntKind.u64.wrap d = 0)) False
  (∀ t32 : Int, t32 = IntKind.u64.wrap (Int.tdiv t26 (IntKind.u64.wrap d)) →
 ∃ ad_1 : Addr, some ⟨g, 0, none⟩ = some ad_1 ∧ 0 ≤ i ∧ i < (((Int.toNat ((an : Nat) : Int)) : Nat) : Int) ∧
 ∃ b : Blk, h_2 (Addr.block (Addr.add ad_1 (Int.toNat i * 1))) = some b ∧ b.fz = (0, 0) ∧ Addr.spot (Addr.add ad_1 (Int.toNat i * 1)) = none ∧ Addr.off (Addr.add ad_1 (Int.toNat i * 1)) + 1 ≤ b.cells.length ∧
 ∀ h_3 : Heap, h_3 = Heap.put h_2 (Addr.block (Addr.add ad_1 (Int.toNat i * 1))) { b with cells := setSeg b.cells (Addr.off (Addr.add ad_1 (Int.toNat i * 1))) [Value.int .u32 (IntKind.u32.wrap t32)] } →
 Br (decide (IntKind.u64.wrap d = 0)) False
  (∀ t38 : Int, t38 = (Int.tmod t26 (IntKind.u64.wrap d)) →
 ∀ t18 : Int, t18 = IntKind.i64.wrap (i - 1) →
 ∃ m_1, m_1 < m ∧ J m_1 t38 t18 h_3)))
  (CallsU Tryz.prog 101 [Value.slice (some ⟨g, 0, none⟩) (Int.toNat ((an : Nat) : Int)) (Int.toNat ((an : Nat) : Int))] h_2 fun v h_4 =>
 ∃ t40A : Option Addr, ∃ t40n t40c : Nat, v = Value.slice t40A t40n t40c ∧
 R (Value.tuple #[Value.slice t40A t40n t40c, Value.int .u32 (IntKind.u32.wrap r)]) h_4)

set_option maxRecDepth 100000 in
theorem natural_short_ok {aA : Option Addr} {an ac : Nat} {d : Int} {h : Heap} {R : Value → Heap → Prop} (hv : natural_short_vc aA an ac d h R) : CallsU Tryz.prog 148 [Value.slice aA an ac, Value.int .u32 d] h R :=
  fn_sound Tryz.func148 (by kernel_rfl) (by kernel_rfl) (by kernel_rfl) (fun _ => false) (.two .nil (.two .nil (.two .nil (.two (.two .nil (.one (.loop ⟨[(7, Sh.int .u64), (8, Sh.int .i64)], []⟩ .nil))) .nil)))) [Value.slice aA an ac, Value.int .u32 d] h R (by kernel_rfl)
    (Eq.mp (show natural_short_vc aA an ac d h R = fnV Tryz.prog Tryz.f148 (fun _ => false) (.two .nil (.two .nil (.two .nil (.two (.two .nil (.one (.loop ⟨[(7, Sh.int .u64), (8, Sh.int .i64)], []⟩ .nil))) .nil)))) [Value.slice aA an ac, Value.int .u32 d] h R by kernel_rfl) hv)

def natural_left_vc (aA : Option Addr) (an _ac : Nat) (s : Int) (h : Heap) (R : Value → Heap → Prop) : Prop :=
 ∀ t11 : Int, t11 = IntKind.i64.wrap (((an : Nat) : Int) + 1) →
 0 ≤ t11 ∧ t11 ≤ t11 ∧ t11 * 4 ≤ 140737488355328 ∧ t11 ≤ 9223372036854775807 ∧
 ∀ (g : Nat) (h_1 : Heap), h g = none → h_1 = Heap.put h g ⟨repV [Value.int .u32 0] (Int.toNat t11), 104, (0, 0)⟩ →
 ∃ J : Nat → Int → Heap → Prop, (∃ m, J m 0 h_1) ∧
 ∀ (m : Nat) (t15 : Int) (h_2 : Heap), J m t15 h_2 →
 Br (decide (t15 < ((an : Nat) : Int)))
  (∃ ad : Addr, aA = some ad ∧ 0 ≤ t15 ∧ t15 < ((an : Nat) : Int) ∧
 ∃ t19 : Int, LdN h_2 (Addr.add ad (Int.toNat t15 * 1)) [Value.int .u32 t19] ∧
 Br (decide (s < 0)) False
  (∀ t23 : Int, t23 = IntKind.u64.wrap ((IntKind.u64.wrap t19) * 2 ^ (min (Int.toNat s) 64 : Nat)) →
 ∃ ad_1 : Addr, some ⟨g, 0, none⟩ = some ad_1 ∧ 0 ≤ t15 ∧ t15 < (((Int.toNat t11) : Nat) : Int) ∧
 ∃ t27 : Int, LdN h_2 (Addr.add ad_1 (Int.toNat t15 * 1)) [Value.int .u32 t27] ∧
 ∀ t30 : Int, t30 = bitsOf .or .u32 t27 (IntKind.u32.wrap t23) →
 ∃ ad_2 : Addr, some ⟨g, 0, none⟩ = some ad_2 ∧ 0 ≤ t15 ∧ t15 < (((Int.toNat t11) : Nat) : Int) ∧
 ∃ b : Blk, h_2 (Addr.block (Addr.add ad_2 (Int.toNat t15 * 1))) = some b ∧ b.fz = (0, 0) ∧ Addr.spot (Addr.add ad_2 (Int.toNat t15 * 1)) = none ∧ Addr.off (Addr.add ad_2 (Int.toNat t15 * 1)) + 1 ≤ b.cells.length ∧
 ∀ h_3 : Heap, h_3 = Heap.put h_2 (Addr.block (Addr.add ad_2 (Int.toNat t15 * 1))) { b with cells := setSeg b.cells (Addr.off (Addr.add ad_2 (Int.toNat t15 * 1))) [Value.int .u32 t30] } →
 ∀ t34 : Int, t34 = IntKind.i64.wrap (t15 + 1) →
 ∀ t36 : Int, t36 = (Int.fdiv t23 (2 ^ (32 : Nat))) →
 ∃ ad_3 : Addr, some ⟨g, 0, none⟩ = some ad_3 ∧ 0 ≤ t34 ∧ t34 < (((Int.toNat t11) : Nat) : Int) ∧
 ∃ b_1 : Blk, h_3 (Addr.block (Addr.add ad_3 (Int.toNat t34 * 1))) = some b_1 ∧ b_1.fz = (0, 0) ∧ Addr.spot (Addr.add ad_3 (Int.toNat t34 * 1)) = none ∧ Addr.off (Addr.add ad_3 (Int.toNat t34 * 1)) + 1 ≤ b_1.cells.length ∧
 ∀ h_4 : Heap, h_4 = Heap.put h_3 (Addr.block (Addr.add ad_3 (Int.toNat t34 * 1))) { b_1 with cells := setSeg b_1.cells (Addr.off (Addr.add ad_3 (Int.toNat t34 * 1))) [Value.int .u32 (IntKind.u32.wrap t36)] } →
 ∀ t39 : Int, t39 = IntKind.i64.wrap (t15 + 1) →
 ∃ m_1, m_1 < m ∧ J m_1 t39 h_4))
  (R (Value.slice (some ⟨g, 0, none⟩) (Int.toNat t11) (Int.toNat t11)) h_2)

set_option maxRecDepth 100000 in
theorem natural_left_ok {aA : Option Addr} {an ac : Nat} {s : Int} {h : Heap} {R : Value → Heap → Prop} (hv : natural_left_vc aA an ac s h R) : CallsU Tryz.prog 150 [Value.slice aA an ac, Value.int .i64 s] h R :=
  fn_sound Tryz.func150 (by kernel_rfl) (by kernel_rfl) (by kernel_rfl) (fun _ => false) (.two .nil (.two .nil (.two (.two .nil (.one (.loop ⟨[(15, Sh.int .i64)], []⟩ .nil))) .nil))) [Value.slice aA an ac, Value.int .i64 s] h R (by kernel_rfl)
    (Eq.mp (show natural_left_vc aA an ac s h R = fnV Tryz.prog Tryz.f150 (fun _ => false) (.two .nil (.two .nil (.two (.two .nil (.one (.loop ⟨[(15, Sh.int .i64)], []⟩ .nil))) .nil))) [Value.slice aA an ac, Value.int .i64 s] h R by kernel_rfl) hv)

def natural_right_vc (aA : Option Addr) (an _ac : Nat) (s : Int) (h : Heap) (R : Value → Heap → Prop) : Prop :=
 0 ≤ ((an : Nat) : Int) ∧ ((an : Nat) : Int) ≤ ((an : Nat) : Int) ∧ ((an : Nat) : Int) * 4 ≤ 140737488355328 ∧ ((an : Nat) : Int) ≤ 9223372036854775807 ∧
 ∀ (g : Nat) (h_1 : Heap), h g = none → h_1 = Heap.put h g ⟨repV [Value.int .u32 0] (Int.toNat ((an : Nat) : Int)), 104, (0, 0)⟩ →
 ∃ J : Nat → Int → Heap → Prop, (∃ m, J m 0 h_1) ∧
 ∀ (m : Nat) (t14 : Int) (h_2 : Heap), J m t14 h_2 →
 Br (decide (t14 < ((an : Nat) : Int)))
  (∃ ad : Addr, aA = some ad ∧ 0 ≤ t14 ∧ t14 < ((an : Nat) : Int) ∧
 ∃ t18 : Int, LdN h_2 (Addr.add ad (Int.toNat t14 * 1)) [Value.int .u32 t18] ∧
 ∀ t22 : Int, t22 = IntKind.i64.wrap (t14 + 1) →
 Br (decide (t22 < ((an : Nat) : Int)))
  (∀ t29 : Int, t29 = IntKind.i64.wrap (t14 + 1) →
 ∃ ad_1 : Addr, aA = some ad_1 ∧ 0 ≤ t29 ∧ t29 < ((an : Nat) : Int) ∧
 ∃ t31 : Int, LdN h_2 (Addr.add ad_1 (Int.toNat t29 * 1)) [Value.int .u32 t31] ∧
 ∀ t33 : Int, t33 = IntKind.u64.wrap ((IntKind.u64.wrap t31) * 2 ^ (32 : Nat)) →
 ∀ t34 : Int, t34 = bitsOf .or .u64 (IntKind.u64.wrap t18) t33 →
 Br (decide (s < 0)) False
  (∀ t39 : Int, t39 = (Int.fdiv t34 (2 ^ (min (Int.toNat s) 64 : Nat))) →
 ∃ ad_2 : Addr, some ⟨g, 0, none⟩ = some ad_2 ∧ 0 ≤ t14 ∧ t14 < (((Int.toNat ((an : Nat) : Int)) : Nat) : Int) ∧
 ∃ b : Blk, h_2 (Addr.block (Addr.add ad_2 (Int.toNat t14 * 1))) = some b ∧ b.fz = (0, 0) ∧ Addr.spot (Addr.add ad_2 (Int.toNat t14 * 1)) = none ∧ Addr.off (Addr.add ad_2 (Int.toNat t14 * 1)) + 1 ≤ b.cells.length ∧
 ∀ h_3 : Heap, h_3 = Heap.put h_2 (Addr.block (Addr.add ad_2 (Int.toNat t14 * 1))) { b with cells := setSeg b.cells (Addr.off (Addr.add ad_2 (Int.toNat t14 * 1))) [Value.int .u32 (IntKind.u32.wrap t39)] } →
 ∀ t42 : Int, t42 = IntKind.i64.wrap (t14 + 1) →
 ∃ m_1, m_1 < m ∧ J m_1 t42 h_3))
  (Br (decide (s < 0)) False
  (∀ t39_1 : Int, t39_1 = (Int.fdiv (IntKind.u64.wrap t18) (2 ^ (min (Int.toNat s) 64 : Nat))) →
 ∃ ad_3 : Addr, some ⟨g, 0, none⟩ = some ad_3 ∧ 0 ≤ t14 ∧ t14 < (((Int.toNat ((an : Nat) : Int)) : Nat) : Int) ∧
 ∃ b_1 : Blk, h_2 (Addr.block (Addr.add ad_3 (Int.toNat t14 * 1))) = some b_1 ∧ b_1.fz = (0, 0) ∧ Addr.spot (Addr.add ad_3 (Int.toNat t14 * 1)) = none ∧ Addr.off (Addr.add ad_3 (Int.toNat t14 * 1)) + 1 ≤ b_1.cells.length ∧
 ∀ h_4 : Heap, h_4 = Heap.put h_2 (Addr.block (Addr.add ad_3 (Int.toNat t14 * 1))) { b_1 with cells := setSeg b_1.cells (Addr.off (Addr.add ad_3 (Int.toNat t14 * 1))) [Value.int .u32 (IntKind.u32.wrap t39_1)] } →
 ∀ t42_1 : Int, t42_1 = IntKind.i64.wrap (t14 + 1) →
 ∃ m_1, m_1 < m ∧ J m_1 t42_1 h_4)))
  (CallsU Tryz.prog 101 [Value.slice (some ⟨g, 0, none⟩) (Int.toNat ((an : Nat) : Int)) (Int.toNat ((an : Nat) : Int))] h_2 fun v h_5 =>
 ∃ t44A : Option Addr, ∃ t44n t44c : Nat, v = Value.slice t44A t44n t44c ∧
 R (Value.slice t44A t44n t44c) h_5)

set_option maxRecDepth 100000 in
theorem natural_right_ok {aA : Option Addr} {an ac : Nat} {s : Int} {h : Heap} {R : Value → Heap → Prop} (hv : natural_right_vc aA an ac s h R) : CallsU Tryz.prog 152 [Value.slice aA an ac, Value.int .i64 s] h R :=
  fn_sound Tryz.func152 (by kernel_rfl) (by kernel_rfl) (by kernel_rfl) (fun _ => false) (.two .nil (.two .nil (.two (.two .nil (.one (.loop ⟨[(14, Sh.int .i64)], []⟩ .nil))) .nil))) [Value.slice aA an ac, Value.int .i64 s] h R (by kernel_rfl)
    (Eq.mp (show natural_right_vc aA an ac s h R = fnV Tryz.prog Tryz.f152 (fun _ => false) (.two .nil (.two .nil (.two (.two .nil (.one (.loop ⟨[(14, Sh.int .i64)], []⟩ .nil))) .nil))) [Value.slice aA an ac, Value.int .i64 s] h R by kernel_rfl) hv)

def natural_digit_vc (uA : Option Addr) (un _uc : Nat) (vA : Option Addr) (vn _vc : Nat) (h : Heap) (R : Value → Heap → Prop) : Prop :=
 ∃ ad : Addr, uA = some ad ∧ 0 ≤ ((vn : Nat) : Int) ∧ ((vn : Nat) : Int) < ((un : Nat) : Int) ∧
 ∃ t23 : Int, LdN h (Addr.add ad (Int.toNat ((vn : Nat) : Int) * 1)) [Value.int .u32 t23] ∧
 ∀ t25 : Int, t25 = IntKind.u64.wrap ((IntKind.u64.wrap t23) * 2 ^ (32 : Nat)) →
 ∀ t28 : Int, t28 = IntKind.i64.wrap (((vn : Nat) : Int) - 1) →
 ∃ ad_1 : Addr, uA = some ad_1 ∧ 0 ≤ t28 ∧ t28 < ((un : Nat) : Int) ∧
 ∃ t30 : Int, LdN h (Addr.add ad_1 (Int.toNat t28 * 1)) [Value.int .u32 t30] ∧
 ∀ t32 : Int, t32 = bitsOf .or .u64 t25 (IntKind.u64.wrap t30) →
 ∀ t35 : Int, t35 = IntKind.i64.wrap (((vn : Nat) : Int) - 1) →
 ∃ ad_2 : Addr, vA = some ad_2 ∧ 0 ≤ t35 ∧ t35 < ((vn : Nat) : Int) ∧
 ∃ t37 : Int, LdN h (Addr.add ad_2 (Int.toNat t35 * 1)) [Value.int .u32 t37] ∧
 Br (decide (IntKind.u64.wrap t37 = 0)) False
  (∀ t41 : Int, t41 = IntKind.u64.wrap (Int.tdiv t32 (IntKind.u64.wrap t37)) →
 Br (decide (IntKind.u64.wrap t37 = 0)) False
  (∀ t44 : Int, t44 = (Int.tmod t32 (IntKind.u64.wrap t37)) →
 ∃ C : Int → Heap → Prop, (∀ (q : Int) (h_1 : Heap), C q h_1 →
 ∃ J : Nat → Int → Int → Int → Heap → Prop, (∃ m, J m 0 0 0 h_1) ∧
 ∀ (m : Nat) (carry : Int) (borrow : Int) (t78 : Int) (h_2 : Heap), J m carry borrow t78 h_2 →
 Br (decide (t78 < ((vn : Nat) : Int)))
  (∃ ad_3 : Addr, vA = some ad_3 ∧ 0 ≤ t78 ∧ t78 < ((vn : Nat) : Int) ∧
 ∃ t82 : Int, LdN h_2 (Addr.add ad_3 (Int.toNat t78 * 1)) [Value.int .u32 t82] ∧
 ∀ t87 : Int, t87 = IntKind.u64.wrap (q * (IntKind.u64.wrap t82)) →
 ∀ t88 : Int, t88 = IntKind.u64.wrap (carry + t87) →
 ∃ ad_4 : Addr, uA = some ad_4 ∧ 0 ≤ t78 ∧ t78 < ((un : Nat) : Int) ∧
 ∃ t92 : Int, LdN h_2 (Addr.add ad_4 (Int.toNat t78 * 1)) [Value.int .u32 t92] ∧
 ∀ t97 : Int, t97 = IntKind.u64.wrap ((IntKind.u64.wrap t92) - (IntKind.u64.wrap (IntKind.u32.wrap t88))) →
 ∀ t99 : Int, t99 = IntKind.u64.wrap (t97 - borrow) →
 ∃ ad_5 : Addr, uA = some ad_5 ∧ 0 ≤ t78 ∧ t78 < ((un : Nat) : Int) ∧
 ∃ b : Blk, h_2 (Addr.block (Addr.add ad_5 (Int.toNat t78 * 1))) = some b ∧ b.fz = (0, 0) ∧ Addr.spot (Addr.add ad_5 (Int.toNat t78 * 1)) = none ∧ Addr.off (Addr.add ad_5 (Int.toNat t78 * 1)) + 1 ≤ b.cells.length ∧
 ∀ h_3 : Heap, h_3 = Heap.put h_2 (Addr.block (Addr.add ad_5 (Int.toNat t78 * 1))) { b with cells := setSeg b.cells (Addr.off (Addr.add ad_5 (Int.toNat t78 * 1))) [Value.int .u32 (IntKind.u32.wrap t99)] } →
 ∀ t106 : Int, t106 = (Int.fdiv t99 (2 ^ (63 : Nat))) →
 ∀ t108 : Int, t108 = (Int.fdiv t88 (2 ^ (32 : Nat))) →
 ∀ t109 : Int, t109 = IntKind.i64.wrap (t78 + 1) →
 ∃ m_1, m_1 < m ∧ J m_1 t108 t106 t109 h_3)
  (∃ ad_6 : Addr, uA = some ad_6 ∧ 0 ≤ ((vn : Nat) : Int) ∧ ((vn : Nat) : Int) < ((un : Nat) : Int) ∧
 ∃ t113 : Int, LdN h_2 (Addr.add ad_6 (Int.toNat ((vn : Nat) : Int) * 1)) [Value.int .u32 t113] ∧
 ∀ t116 : Int, t116 = IntKind.u64.wrap ((IntKind.u64.wrap t113) - carry) →
 ∀ t118 : Int, t118 = IntKind.u64.wrap (t116 - borrow) →
 ∃ ad_7 : Addr, uA = some ad_7 ∧ 0 ≤ ((vn : Nat) : Int) ∧ ((vn : Nat) : Int) < ((un : Nat) : Int) ∧
 ∃ b_1 : Blk, h_2 (Addr.block (Addr.add ad_7 (Int.toNat ((vn : Nat) : Int) * 1))) = some b_1 ∧ b_1.fz = (0, 0) ∧ Addr.spot (Addr.add ad_7 (Int.toNat ((vn : Nat) : Int) * 1)) = none ∧ Addr.off (Addr.add ad_7 (Int.toNat ((vn : Nat) : Int) * 1)) + 1 ≤ b_1.cells.length ∧
 ∀ h_4 : Heap, h_4 = Heap.put h_2 (Addr.block (Addr.add ad_7 (Int.toNat ((vn : Nat) : Int) * 1))) { b_1 with cells := setSeg b_1.cells (Addr.off (Addr.add ad_7 (Int.toNat ((vn : Nat) : Int) * 1))) [Value.int .u32 (IntKind.u32.wrap t118)] } →
 ∀ t125 : Int, t125 = (Int.fdiv t118 (2 ^ (63 : Nat))) →
 Br ((t125 : Int) == 0)
  (R (Value.int .u32 (IntKind.u32.wrap q)) h_4)
  (∃ J_1 : Nat → Int → Int → Heap → Prop, (∃ m_2, J_1 m_2 0 0 h_4) ∧
 ∀ (m_2 : Nat) (carry_1 : Int) (t131 : Int) (h_5 : Heap), J_1 m_2 carry_1 t131 h_5 →
 Br (decide (t131 < ((vn : Nat) : Int)))
  (∃ ad_8 : Addr, vA = some ad_8 ∧ 0 ≤ t131 ∧ t131 < ((vn : Nat) : Int) ∧
 ∃ t135 : Int, LdN h_5 (Addr.add ad_8 (Int.toNat t131 * 1)) [Value.int .u32 t135] ∧
 ∃ ad_9 : Addr, uA = some ad_9 ∧ 0 ≤ t131 ∧ t131 < ((un : Nat) : Int) ∧
 ∃ t140 : Int, LdN h_5 (Addr.add ad_9 (Int.toNat t131 * 1)) [Value.int .u32 t140] ∧
 ∀ t144 : Int, t144 = IntKind.u64.wrap ((IntKind.u64.wrap t140) + (IntKind.u64.wrap t135)) →
 ∀ t145 : Int, t145 = IntKind.u64.wrap (carry_1 + t144) →
 ∃ ad_10 : Addr, uA = some ad_10 ∧ 0 ≤ t131 ∧ t131 < ((un : Nat) : Int) ∧
 ∃ b_2 : Blk, h_5 (Addr.block (Addr.add ad_10 (Int.toNat t131 * 1))) = some b_2 ∧ b_2.fz = (0, 0) ∧ Addr.spot (Addr.add ad_10 (Int.toNat t131 * 1)) = none ∧ Addr.off (Addr.add ad_10 (Int.toNat t131 * 1)) + 1 ≤ b_2.cells.length ∧
 ∀ h_6 : Heap, h_6 = Heap.put h_5 (Addr.block (Addr.add ad_10 (Int.toNat t131 * 1))) { b_2 with cells := setSeg b_2.cells (Addr.off (Addr.add ad_10 (Int.toNat t131 * 1))) [Value.int .u32 (IntKind.u32.wrap t145)] } →
 ∀ t152 : Int, t152 = (Int.fdiv t145 (2 ^ (32 : Nat))) →
 ∀ t153 : Int, t153 = IntKind.i64.wrap (t131 + 1) →
 ∃ m_3, m_3 < m_2 ∧ J_1 m_3 t152 t153 h_6)
  (∃ ad_11 : Addr, uA = some ad_11 ∧ 0 ≤ ((vn : Nat) : Int) ∧ ((vn : Nat) : Int) < ((un : Nat) : Int) ∧
 ∃ t157 : Int, LdN h_5 (Addr.add ad_11 (Int.toNat ((vn : Nat) : Int) * 1)) [Value.int .u32 t157] ∧
 ∀ t160 : Int, t160 = IntKind.u32.wrap (t157 + (IntKind.u32.wrap carry_1)) →
 ∃ ad_12 : Addr, uA = some ad_12 ∧ 0 ≤ ((vn : Nat) : Int) ∧ ((vn : Nat) : Int) < ((un : Nat) : Int) ∧
 ∃ b_3 : Blk, h_5 (Addr.block (Addr.add ad_12 (Int.toNat ((vn : Nat) : Int) * 1))) = some b_3 ∧ b_3.fz = (0, 0) ∧ Addr.spot (Addr.add ad_12 (Int.toNat ((vn : Nat) : Int) * 1)) = none ∧ Addr.off (Addr.add ad_12 (Int.toNat ((vn : Nat) : Int) * 1)) + 1 ≤ b_3.cells.length ∧
 ∀ h_7 : Heap, h_7 = Heap.put h_5 (Addr.block (Addr.add ad_12 (Int.toNat ((vn : Nat) : Int) * 1))) { b_3 with cells := setSeg b_3.cells (Addr.off (Addr.add ad_12 (Int.toNat ((vn : Nat) : Int) * 1))) [Value.int .u32 t160] } →
 ∀ t163 : Int, t163 = IntKind.u64.wrap (q - 1) →
 R (Value.int .u32 (IntKind.u32.wrap t163)) h_7)))) ∧
 ∃ J_2 : Nat → Int → Int → Heap → Prop, (∃ m_4, J_2 m_4 t41 t44 h) ∧
 ∀ (m_4 : Nat) (q_1 : Int) (r : Int) (h_8 : Heap), J_2 m_4 q_1 r h_8 →
 Br (decide (r < 4294967296))
  (Br (decide (q_1 ≥ 4294967296))
  (∀ t72 : Int, t72 = IntKind.u64.wrap (q_1 - 1) →
 ∀ t75 : Int, t75 = IntKind.u64.wrap (r + (IntKind.u64.wrap t37)) →
 ∃ m_5, m_5 < m_4 ∧ J_2 m_5 t72 t75 h_8)
  (∀ t54 : Int, t54 = IntKind.i64.wrap (((vn : Nat) : Int) - 2) →
 ∃ ad_13 : Addr, vA = some ad_13 ∧ 0 ≤ t54 ∧ t54 < ((vn : Nat) : Int) ∧
 ∃ t56 : Int, LdN h_8 (Addr.add ad_13 (Int.toNat t54 * 1)) [Value.int .u32 t56] ∧
 ∀ t58 : Int, t58 = IntKind.u64.wrap (q_1 * (IntKind.u64.wrap t56)) →
 ∀ t60 : Int, t60 = IntKind.u64.wrap (r * 2 ^ (32 : Nat)) →
 ∀ t63 : Int, t63 = IntKind.i64.wrap (((vn : Nat) : Int) - 2) →
 ∃ ad_14 : Addr, uA = some ad_14 ∧ 0 ≤ t63 ∧ t63 < ((un : Nat) : Int) ∧
 ∃ t65 : Int, LdN h_8 (Addr.add ad_14 (Int.toNat t63 * 1)) [Value.int .u32 t65] ∧
 ∀ t67 : Int, t67 = bitsOf .or .u64 t60 (IntKind.u64.wrap t65) →
 Br (decide (t58 > t67))
  (∀ t72_1 : Int, t72_1 = IntKind.u64.wrap (q_1 - 1) →
 ∀ t75_1 : Int, t75_1 = IntKind.u64.wrap (r + (IntKind.u64.wrap t37)) →
 ∃ m_5, m_5 < m_4 ∧ J_2 m_5 t72_1 t75_1 h_8)
  (C q_1 h_8)))
  (C q_1 h_8)))

set_option maxRecDepth 100000 in
theorem natural_digit_ok {uA : Option Addr} {un uc : Nat} {vA : Option Addr} {vn vc : Nat} {h : Heap} {R : Value → Heap → Prop} (hv : natural_digit_vc uA un uc vA vn vc h R) : CallsU Tryz.prog 151 [Value.slice uA un uc, Value.slice vA vn vc] h R :=
  fn_sound Tryz.func151 (by kernel_rfl) (by kernel_rfl) (by kernel_rfl) (fun _ => false) (.two .nil (.two .nil (.two (.ord [0, 1, 2, 3, 4, 5, 6, 7, 8, 9, 10, 11, 12, 13, 14, 15, 16, 17, 18, 19, 20]) (.two (.ord [0, 1, 2, 3, 4, 5, 6, 7]) (.cut ⟨[(8, Sh.int .u64)], []⟩ (.one (.loop ⟨[(8, Sh.int .u64), (9, Sh.int .u64)], []⟩ (.two (.two (.ord [0, 1, 2, 3, 4, 5, 6, 7, 8, 9, 10, 11, 12, 13, 14, 15, 16, 17, 18, 19, 20, 21, 22, 23, 24, 25]) .nil) .nil))) (.two .nil (.two (.two .nil (.one (.loop ⟨[(10, Sh.int .u64), (11, Sh.int .u64), (78, Sh.int .i64)], []⟩ .nil))) (.two .nil (.two .nil (.two .nil (.two .nil (.two (.two .nil (.one (.loop ⟨[(10, Sh.int .u64), (131, Sh.int .i64)], []⟩ .nil))) .nil)))))))))))) [Value.slice uA un uc, Value.slice vA vn vc] h R (by kernel_rfl)
    (Eq.mp (show natural_digit_vc uA un uc vA vn vc h R = fnV Tryz.prog Tryz.f151 (fun _ => false) (.two .nil (.two .nil (.two (.ord [0, 1, 2, 3, 4, 5, 6, 7, 8, 9, 10, 11, 12, 13, 14, 15, 16, 17, 18, 19, 20]) (.two (.ord [0, 1, 2, 3, 4, 5, 6, 7]) (.cut ⟨[(8, Sh.int .u64)], []⟩ (.one (.loop ⟨[(8, Sh.int .u64), (9, Sh.int .u64)], []⟩ (.two (.two (.ord [0, 1, 2, 3, 4, 5, 6, 7, 8, 9, 10, 11, 12, 13, 14, 15, 16, 17, 18, 19, 20, 21, 22, 23, 24, 25]) .nil) .nil))) (.two .nil (.two (.two .nil (.one (.loop ⟨[(10, Sh.int .u64), (11, Sh.int .u64), (78, Sh.int .i64)], []⟩ .nil))) (.two .nil (.two .nil (.two .nil (.two .nil (.two (.two .nil (.one (.loop ⟨[(10, Sh.int .u64), (131, Sh.int .i64)], []⟩ .nil))) .nil)))))))))))) [Value.slice uA un uc, Value.slice vA vn vc] h R by kernel_rfl) hv)

def natural_DivMod_vc (aA : Option Addr) (an ac : Nat) (bA : Option Addr) (bn bc : Nat) (h : Heap) (R : Value → Heap → Prop) : Prop :=
 CallsU Tryz.prog 101 [Value.slice aA an ac] h fun v h_1 =>
 ∃ t16A : Option Addr, ∃ t16n t16c : Nat, v = Value.slice t16A t16n t16c ∧
 CallsU Tryz.prog 101 [Value.slice bA bn bc] h_1 fun v_1 h_2 =>
 ∃ t18A : Option Addr, ∃ t18n t18c : Nat, v_1 = Value.slice t18A t18n t18c ∧
 Br ((((t18n : Nat) : Int) : Int) == 0)
  (R (Value.tuple #[Value.slice none 0 0, Value.slice none 0 0, Value.bool false]) h_2)
  (CallsU Tryz.prog 95 [Value.slice t16A t16n t16c, Value.slice t18A t18n t18c] h_2 fun v_2 h_3 =>
 ∃ t26 : Int, v_2 = Value.int .i64 t26 ∧
 Br (decide (t26 < 0))
  (CallsU Tryz.prog 147 [Value.slice t16A t16n t16c] h_3 fun v_3 h_4 =>
 ∃ t29A : Option Addr, ∃ t29n t29c : Nat, v_3 = Value.slice t29A t29n t29c ∧
 R (Value.tuple #[Value.slice none 0 0, Value.slice t29A t29n t29c, Value.bool true]) h_4)
  (Br ((((t18n : Nat) : Int) : Int) == 1)
  (∃ ad : Addr, t18A = some ad ∧ 0 ≤ (0 : Int) ∧ (0 : Int) < ((t18n : Nat) : Int) ∧
 ∃ t38 : Int, LdN h_3 (Addr.add ad (0 * 1)) [Value.int .u32 t38] ∧
 CallsU Tryz.prog 148 [Value.slice t16A t16n t16c, Value.int .u32 t38] h_3 fun v_4 h_5 =>
 ∃ t39_0A : Option Addr, ∃ t39_0n t39_0c : Nat, ∃ t39_1 : Int, v_4 = Value.tuple #[Value.slice t39_0A t39_0n t39_0c, Value.int .u32 t39_1] ∧
 CallsU Tryz.prog 93 [Value.int .u64 (IntKind.u64.wrap t39_1)] h_5 fun v_5 h_6 =>
 ∃ t45A : Option Addr, ∃ t45n t45c : Nat, v_5 = Value.slice t45A t45n t45c ∧
 R (Value.tuple #[Value.slice t39_0A t39_0n t39_0c, Value.slice t45A t45n t45c, Value.bool true]) h_6)
  (∀ t50 : Int, t50 = IntKind.i64.wrap (((t18n : Nat) : Int) - 1) →
 ∃ ad_1 : Addr, t18A = some ad_1 ∧ 0 ≤ t50 ∧ t50 < ((t18n : Nat) : Int) ∧
 ∃ t52 : Int, LdN h_3 (Addr.add ad_1 (Int.toNat t50 * 1)) [Value.int .u32 t52] ∧
 CallsU Tryz.prog 149 [Value.int .u32 t52] h_3 fun v_6 h_7 =>
 ∃ t53 : Int, v_6 = Value.int .i64 t53 ∧
 CallsU Tryz.prog 150 [Value.slice t16A t16n t16c, Value.int .i64 t53] h_7 fun v_7 h_8 =>
 ∃ t56A : Option Addr, ∃ t56n t56c : Nat, v_7 = Value.slice t56A t56n t56c ∧
 CallsU Tryz.prog 150 [Value.slice t18A t18n t18c, Value.int .i64 t53] h_8 fun v_8 h_9 =>
 ∃ t59A : Option Addr, ∃ t59n t59c : Nat, v_8 = Value.slice t59A t59n t59c ∧
 ((0 : Nat) : Int) ≤ ((t18n : Nat) : Int) ∧ ((t18n : Nat) : Int) ≤ ((t59c : Nat) : Int) ∧
 ∀ t65 : Int, t65 = IntKind.i64.wrap (((t56n : Nat) : Int) - ((t18n : Nat) : Int)) →
 0 ≤ t65 ∧ t65 ≤ t65 ∧ t65 * 4 ≤ 140737488355328 ∧ t65 ≤ 9223372036854775807 ∧
 ∀ (g : Nat) (h_10 : Heap), h_9 g = none → h_10 = Heap.put h_9 g ⟨repV [Value.int .u32 0] (Int.toNat t65), 104, (0, 0)⟩ →
 ∀ t69 : Int, t69 = IntKind.i64.wrap ((((Int.toNat t65) : Nat) : Int) - 1) →
 ∃ J : Nat → Int → Heap → Prop, (∃ m, J m t69 h_10) ∧
 ∀ (m : Nat) (i : Int) (h_11 : Heap), J m i h_11 →
 Br (decide (i ≥ 0))
  (∀ t80 : Int, t80 = IntKind.i64.wrap (i + ((t18n : Nat) : Int)) →
 ∀ t81 : Int, t81 = IntKind.i64.wrap (t80 + 1) →
 ((0 : Nat) : Int) ≤ t81 ∧ t81 ≤ ((t56c : Nat) : Int) ∧
 ((0 : Nat) : Int) ≤ i ∧ i ≤ (((Int.toNat t81) : Nat) : Int) ∧
 CallsU Tryz.prog 151 [Value.slice (if t56c = (Int.toNat i) then t56A else Option.map (fun x => Addr.add x ((Int.toNat i) * 1)) t56A) ((Int.toNat t81) - (Int.toNat i)) (t56c - (Int.toNat i)), Value.slice t59A (Int.toNat ((t18n : Nat) : Int)) t59c] h_11 fun v_9 h_12 =>
 ∃ t84 : Int, v_9 = Value.int .u32 t84 ∧
 ∃ ad_2 : Addr, some ⟨g, 0, none⟩ = some ad_2 ∧ 0 ≤ i ∧ i < (((Int.toNat t65) : Nat) : Int) ∧
 ∃ b : Blk, h_12 (Addr.block (Addr.add ad_2 (Int.toNat i * 1))) = some b ∧ b.fz = (0, 0) ∧ Addr.spot (Addr.add ad_2 (Int.toNat i * 1)) = none ∧ Addr.off (Addr.add ad_2 (Int.toNat i * 1)) + 1 ≤ b.cells.length ∧
 ∀ h_13 : Heap, h_13 = Heap.put h_12 (Addr.block (Addr.add ad_2 (Int.toNat i * 1))) { b with cells := setSeg b.cells (Addr.off (Addr.add ad_2 (Int.toNat i * 1))) [Value.int .u32 t84] } →
 ∀ t73 : Int, t73 = IntKind.i64.wrap (i - 1) →
 ∃ m_1, m_1 < m ∧ J m_1 t73 h_13)
  (((0 : Nat) : Int) ≤ ((t18n : Nat) : Int) ∧ ((t18n : Nat) : Int) ≤ ((t56c : Nat) : Int) ∧
 CallsU Tryz.prog 101 [Value.slice (some ⟨g, 0, none⟩) (Int.toNat t65) (Int.toNat t65)] h_11 fun v_10 h_14 =>
 ∃ t87A : Option Addr, ∃ t87n t87c : Nat, v_10 = Value.slice t87A t87n t87c ∧
 CallsU Tryz.prog 152 [Value.slice t56A (Int.toNat ((t18n : Nat) : Int)) t56c, Value.int .i64 t53] h_14 fun v_11 h_15 =>
 ∃ t92A : Option Addr, ∃ t92n t92c : Nat, v_11 = Value.slice t92A t92n t92c ∧
 R (Value.tuple #[Value.slice t87A t87n t87c, Value.slice t92A t92n t92c, Value.bool true]) h_15))))

set_option maxRecDepth 100000 in
theorem natural_DivMod_ok {aA : Option Addr} {an ac : Nat} {bA : Option Addr} {bn bc : Nat} {h : Heap} {R : Value → Heap → Prop} (hv : natural_DivMod_vc aA an ac bA bn bc h R) : CallsU Tryz.prog 100 [Value.slice aA an ac, Value.slice bA bn bc] h R :=
  fn_sound Tryz.func100 (by kernel_rfl) (by kernel_rfl) (by kernel_rfl) (fun _ => false) (.two .nil (.two .nil (.two .nil (.two .nil (.two .nil (.two (.ord [0, 1, 3, 4, 6, 2, 5, 7, 8, 9]) (.two .nil (.two (.two .nil (.one (.loop ⟨[(14, Sh.int .i64)], []⟩ .nil))) (.two (.ord [0, 2, 3, 4, 5, 1, 6, 7, 8, 9]) .nil))))))))) [Value.slice aA an ac, Value.slice bA bn bc] h R (by kernel_rfl)
    (Eq.mp (show natural_DivMod_vc aA an ac bA bn bc h R = fnV Tryz.prog Tryz.f100 (fun _ => false) (.two .nil (.two .nil (.two .nil (.two .nil (.two .nil (.two (.ord [0, 1, 3, 4, 6, 2, 5, 7, 8, 9]) (.two .nil (.two (.two .nil (.one (.loop ⟨[(14, Sh.int .i64)], []⟩ .nil))) (.two (.ord [0, 2, 3, 4, 5, 1, 6, 7, 8, 9]) .nil))))))))) [Value.slice aA an ac, Value.slice bA bn bc] h R by kernel_rfl) hv)

def natural_Gcd_vc (aA : Option Addr) (an ac : Nat) (bA : Option Addr) (bn bc : Nat) (h : Heap) (R : Value → Heap → Prop) : Prop :=
 CallsU Tryz.prog 147 [Value.slice aA an ac] h fun v h_1 =>
 ∃ t9A : Option Addr, ∃ t9n t9c : Nat, v = Value.slice t9A t9n t9c ∧
 CallsU Tryz.prog 147 [Value.slice bA bn bc] h_1 fun v_1 h_2 =>
 ∃ t11A : Option Addr, ∃ t11n t11c : Nat, v_1 = Value.slice t11A t11n t11c ∧
 ∃ J : Nat → Option Addr → Nat → Nat → Option Addr → Nat → Nat → Heap → Prop, (∃ m, J m t9A t9n t9c t11A t11n t11c h_2) ∧
 ∀ (m : Nat) (aA_1 : Option Addr) (an_1 ac_1 : Nat) (bA_1 : Option Addr) (bn_1 bc_1 : Nat) (h_3 : Heap), J m aA_1 an_1 ac_1 bA_1 bn_1 bc_1 h_3 →
 Br (decide (((bn_1 : Nat) : Int) > 0))
  (CallsU Tryz.prog 100 [Value.slice aA_1 an_1 ac_1, Value.slice bA_1 bn_1 bc_1] h_3 fun v_2 h_4 =>
 ∃ t18_0A : Option Addr, ∃ t18_0n t18_0c : Nat, ∃ t18_1A : Option Addr, ∃ t18_1n t18_1c : Nat, ∃ t18_2 : Bool, v_2 = Value.tuple #[Value.slice t18_0A t18_0n t18_0c, Value.slice t18_1A t18_1n t18_1c, Value.bool t18_2] ∧
 ∃ m_1, m_1 < m ∧ J m_1 bA_1 bn_1 bc_1 t18_1A t18_1n t18_1c h_4)
  (R (Value.slice aA_1 an_1 ac_1) h_3)

set_option maxRecDepth 100000 in
theorem natural_Gcd_ok {aA : Option Addr} {an ac : Nat} {bA : Option Addr} {bn bc : Nat} {h : Heap} {R : Value → Heap → Prop} (hv : natural_Gcd_vc aA an ac bA bn bc h R) : CallsU Tryz.prog 99 [Value.slice aA an ac, Value.slice bA bn bc] h R :=
  fn_sound Tryz.func99 (by kernel_rfl) (by kernel_rfl) (by kernel_rfl) (fun _ => false) (.two .nil (.two .nil (.two (.one (.loop ⟨[(0, Sh.slice), (1, Sh.slice)], []⟩ .nil)) .nil))) [Value.slice aA an ac, Value.slice bA bn bc] h R (by kernel_rfl)
    (Eq.mp (show natural_Gcd_vc aA an ac bA bn bc h R = fnV Tryz.prog Tryz.f99 (fun _ => false) (.two .nil (.two .nil (.two (.one (.loop ⟨[(0, Sh.slice), (1, Sh.slice)], []⟩ .nil)) .nil))) [Value.slice aA an ac, Value.slice bA bn bc] h R by kernel_rfl) hv)

def cmp_Compare_int_vc (x_1 : Int) (y : Int) (h : Heap) (R : Value → Heap → Prop) : Prop :=
 CallsU Tryz.prog 185 [Value.int .i64 x_1] h fun v h_1 =>
 ∃ t8 : Bool, v = Value.bool t8 ∧
 CallsU Tryz.prog 185 [Value.int .i64 y] h_1 fun v_1 h_2 =>
 ∃ t10 : Bool, v_1 = Value.bool t10 ∧
 Br (t8)
  (Br (t10)
  (R (Value.int .i64 0) h_2)
  (R (Value.int .i64 (-1)) h_2))
  (Br (t10)
  (R (Value.int .i64 1) h_2)
  (Br (decide (x_1 < y))
  (R (Value.int .i64 (-1)) h_2)
  (Br (decide (x_1 > y))
  (R (Value.int .i64 1) h_2)
  (R (Value.int .i64 0) h_2))))

set_option maxRecDepth 100000 in
theorem cmp_Compare_int_ok {x_1 : Int} {y : Int} {h : Heap} {R : Value → Heap → Prop} (hv : cmp_Compare_int_vc x_1 y h R) : CallsU Tryz.prog 145 [Value.int .i64 x_1, Value.int .i64 y] h R :=
  fn_sound Tryz.func145 (by kernel_rfl) (by kernel_rfl) (by kernel_rfl) (fun _ => false) .nil [Value.int .i64 x_1, Value.int .i64 y] h R (by kernel_rfl)
    (Eq.mp (show cmp_Compare_int_vc x_1 y h R = fnV Tryz.prog Tryz.f145 (fun _ => false) .nil [Value.int .i64 x_1, Value.int .i64 y] h R by kernel_rfl) hv)

def cmp_Compare_uint32_vc (x_1 : Int) (y : Int) (h : Heap) (R : Value → Heap → Prop) : Prop :=
 CallsU Tryz.prog 186 [Value.int .u32 x_1] h fun v h_1 =>
 ∃ t8 : Bool, v = Value.bool t8 ∧
 CallsU Tryz.prog 186 [Value.int .u32 y] h_1 fun v_1 h_2 =>
 ∃ t10 : Bool, v_1 = Value.bool t10 ∧
 Br (t8)
  (Br (t10)
  (R (Value.int .i64 0) h_2)
  (R (Value.int .i64 (-1)) h_2))
  (Br (t10)
  (R (Value.int .i64 1) h_2)
  (Br (decide (x_1 < y))
  (R (Value.int .i64 (-1)) h_2)
  (Br (decide (x_1 > y))
  (R (Value.int .i64 1) h_2)
  (R (Value.int .i64 0) h_2))))

set_option maxRecDepth 100000 in
theorem cmp_Compare_uint32_ok {x_1 : Int} {y : Int} {h : Heap} {R : Value → Heap → Prop} (hv : cmp_Compare_uint32_vc x_1 y h R) : CallsU Tryz.prog 146 [Value.int .u32 x_1, Value.int .u32 y] h R :=
  fn_sound Tryz.func146 (by kernel_rfl) (by kernel_rfl) (by kernel_rfl) (fun _ => false) .nil [Value.int .u32 x_1, Value.int .u32 y] h R (by kernel_rfl)
    (Eq.mp (show cmp_Compare_uint32_vc x_1 y h R = fnV Tryz.prog Tryz.f146 (fun _ => false) .nil [Value.int .u32 x_1, Value.int .u32 y] h R by kernel_rfl) hv)

def cmp_isNaN_int_vc (x_1 : Int) (h : Heap) (R : Value → Heap → Prop) : Prop :=
 R (Value.bool ((x_1 : Int) != x_1)) h

set_option maxRecDepth 100000 in
theorem cmp_isNaN_int_ok {x_1 : Int} {h : Heap} {R : Value → Heap → Prop} (hv : cmp_isNaN_int_vc x_1 h R) : CallsU Tryz.prog 185 [Value.int .i64 x_1] h R :=
  fn_sound Tryz.func185 (by kernel_rfl) (by kernel_rfl) (by kernel_rfl) (fun _ => false) .nil [Value.int .i64 x_1] h R (by kernel_rfl)
    (Eq.mp (show cmp_isNaN_int_vc x_1 h R = fnV Tryz.prog Tryz.f185 (fun _ => false) .nil [Value.int .i64 x_1] h R by kernel_rfl) hv)

def cmp_isNaN_uint32_vc (x_1 : Int) (h : Heap) (R : Value → Heap → Prop) : Prop :=
 R (Value.bool ((x_1 : Int) != x_1)) h

set_option maxRecDepth 100000 in
theorem cmp_isNaN_uint32_ok {x_1 : Int} {h : Heap} {R : Value → Heap → Prop} (hv : cmp_isNaN_uint32_vc x_1 h R) : CallsU Tryz.prog 186 [Value.int .u32 x_1] h R :=
  fn_sound Tryz.func186 (by kernel_rfl) (by kernel_rfl) (by kernel_rfl) (fun _ => false) .nil [Value.int .u32 x_1] h R (by kernel_rfl)
    (Eq.mp (show cmp_isNaN_uint32_vc x_1 h R = fnV Tryz.prog Tryz.f186 (fun _ => false) .nil [Value.int .u32 x_1] h R by kernel_rfl) hv)

def math_bits_LeadingZeros32_vc (x_1 : Int) (h : Heap) (R : Value → Heap → Prop) : Prop :=
 CallsU Tryz.prog 118 [Value.int .u32 x_1] h fun v h_1 =>
 ∃ t4 : Int, v = Value.int .i64 t4 ∧
 ∀ t5 : Int, t5 = IntKind.i64.wrap (32 - t4) →
 R (Value.int .i64 t5) h_1

set_option maxRecDepth 100000 in
theorem math_bits_LeadingZeros32_ok {x_1 : Int} {h : Heap} {R : Value → Heap → Prop} (hv : math_bits_LeadingZeros32_vc x_1 h R) : CallsU Tryz.prog 149 [Value.int .u32 x_1] h R :=
  fn_sound Tryz.func149 (by kernel_rfl) (by kernel_rfl) (by kernel_rfl) (fun _ => false) .nil [Value.int .u32 x_1] h R (by kernel_rfl)
    (Eq.mp (show math_bits_LeadingZeros32_vc x_1 h R = fnV Tryz.prog Tryz.f149 (fun _ => false) .nil [Value.int .u32 x_1] h R by kernel_rfl) hv)

def math_bits_Len32_vc (x_1 : Int) (h : Heap) (R : Value → Heap → Prop) : Prop :=
 ∃ C : Int → Int → Heap → Prop, (∀ (x_2 : Int) (n : Int) (h_1 : Heap), C x_2 n h_1 →
 Br (decide (x_2 ≥ 256))
  (∀ t10 : Int, t10 = (Int.fdiv x_2 (2 ^ (8 : Nat))) →
 ∀ t12 : Int, t12 = IntKind.i64.wrap (n + 8) →
 ∃ c : UInt8, 0 ≤ IntKind.u8.wrap t10 ∧ (⟨#[0, 1, 2, 2, 3, 3, 3, 3, 4, 4, 4, 4, 4, 4, 4, 4, 5, 5, 5, 5, 5, 5, 5, 5, 5, 5, 5, 5, 5, 5, 5, 5, 6, 6, 6, 6, 6, 6, 6, 6, 6, 6, 6, 6, 6, 6, 6, 6, 6, 6, 6, 6, 6, 6, 6, 6, 6, 6, 6, 6, 6, 6, 6, 6, 7, 7, 7, 7, 7, 7, 7, 7, 7, 7, 7, 7, 7, 7, 7, 7, 7, 7, 7, 7, 7, 7, 7, 7, 7, 7, 7, 7, 7, 7, 7, 7, 7, 7, 7, 7, 7, 7, 7, 7, 7, 7, 7, 7, 7, 7, 7, 7, 7, 7, 7, 7, 7, 7, 7, 7, 7, 7, 7, 7, 7, 7, 7, 7, 8, 8, 8, 8, 8, 8, 8, 8, 8, 8, 8, 8, 8, 8, 8, 8, 8, 8, 8, 8, 8, 8, 8, 8, 8, 8, 8, 8, 8, 8, 8, 8, 8, 8, 8, 8, 8, 8, 8, 8, 8, 8, 8, 8, 8, 8, 8, 8, 8, 8, 8, 8, 8, 8, 8, 8, 8, 8, 8, 8, 8, 8, 8, 8, 8, 8, 8, 8, 8, 8, 8, 8, 8, 8, 8, 8, 8, 8, 8, 8, 8, 8, 8, 8, 8, 8, 8, 8, 8, 8, 8, 8, 8, 8, 8, 8, 8, 8, 8, 8, 8, 8, 8, 8, 8, 8, 8, 8, 8, 8, 8, 8, 8, 8, 8, 8, 8, 8, 8, 8, 8, 8, 8, 8, 8, 8, 8, 8]⟩ : ByteArray)[(Int.toNat (IntKind.u8.wrap t10) : Nat)]? = some c ∧
 ∀ t18 : Int, t18 = IntKind.i64.wrap (t12 + (IntKind.i64.wrap (c.toNat : Int))) →
 R (Value.int .i64 t18) h_1)
  (∃ c_1 : UInt8, 0 ≤ IntKind.u8.wrap x_2 ∧ (⟨#[0, 1, 2, 2, 3, 3, 3, 3, 4, 4, 4, 4, 4, 4, 4, 4, 5, 5, 5, 5, 5, 5, 5, 5, 5, 5, 5, 5, 5, 5, 5, 5, 6, 6, 6, 6, 6, 6, 6, 6, 6, 6, 6, 6, 6, 6, 6, 6, 6, 6, 6, 6, 6, 6, 6, 6, 6, 6, 6, 6, 6, 6, 6, 6, 7, 7, 7, 7, 7, 7, 7, 7, 7, 7, 7, 7, 7, 7, 7, 7, 7, 7, 7, 7, 7, 7, 7, 7, 7, 7, 7, 7, 7, 7, 7, 7, 7, 7, 7, 7, 7, 7, 7, 7, 7, 7, 7, 7, 7, 7, 7, 7, 7, 7, 7, 7, 7, 7, 7, 7, 7, 7, 7, 7, 7, 7, 7, 7, 8, 8, 8, 8, 8, 8, 8, 8, 8, 8, 8, 8, 8, 8, 8, 8, 8, 8, 8, 8, 8, 8, 8, 8, 8, 8, 8, 8, 8, 8, 8, 8, 8, 8, 8, 8, 8, 8, 8, 8, 8, 8, 8, 8, 8, 8, 8, 8, 8, 8, 8, 8, 8, 8, 8, 8, 8, 8, 8, 8, 8, 8, 8, 8, 8, 8, 8, 8, 8, 8, 8, 8, 8, 8, 8, 8, 8, 8, 8, 8, 8, 8, 8, 8, 8, 8, 8, 8, 8, 8, 8, 8, 8, 8, 8, 8, 8, 8, 8, 8, 8, 8, 8, 8, 8, 8, 8, 8, 8, 8, 8, 8, 8, 8, 8, 8, 8, 8, 8, 8, 8, 8, 8, 8, 8, 8, 8, 8]⟩ : ByteArray)[(Int.toNat (IntKind.u8.wrap x_2) : Nat)]? = some c_1 ∧
 ∀ t18_1 : Int, t18_1 = IntKind.i64.wrap (n + (IntKind.i64.wrap (c_1.toNat : Int))) →
 R (Value.int .i64 t18_1) h_1)) ∧
 Br (decide (x_1 ≥ 65536))
  (∀ t6 : Int, t6 = (Int.fdiv x_1 (2 ^ (16 : Nat))) →
 C t6 16 h)
  (C x_1 0 h)

set_option maxRecDepth 100000 in
theorem math_bits_Len32_ok {x_1 : Int} {h : Heap} {R : Value → Heap → Prop} (hv : math_bits_Len32_vc x_1 h R) : CallsU Tryz.prog 118 [Value.int .u32 x_1] h R :=
  fn_sound Tryz.func118 (by kernel_rfl) (by kernel_rfl) (by kernel_rfl) (fun _ => false) (.two .nil (.cut ⟨[(0, Sh.int .u32), (2, Sh.int .i64)], []⟩ .nil .nil)) [Value.int .u32 x_1] h R (by kernel_rfl)
    (Eq.mp (show math_bits_Len32_vc x_1 h R = fnV Tryz.prog Tryz.f118 (fun _ => false) (.two .nil (.cut ⟨[(0, Sh.int .u32), (2, Sh.int .i64)], []⟩ .nil .nil)) [Value.int .u32 x_1] h R by kernel_rfl) hv)

end Go.Proofs.YtdpdaphholileaaGreatDoor

/-
  Words for heaps, slices of uint32, numbers that wrap; the numbers that limbs denote.
-/
namespace Go.Vcg
open Go

/-! ### heaps -/
def Le (h h' : Heap) : Prop := ∀ k b, h k = some b → h' k = some b
theorem Le.refl (h : Heap) : Le h h := fun _ _ e => e
theorem Le.trans {a b c : Heap} (h : Le a b) (k : Le b c) : Le a c := fun i x e => k i x (h i x e)
theorem Le.put {h0 h : Heap} (l : Le h0 h) {g : Nat} (hg : h0 g = none) (b : Blk) : Le h0 (h.put g b) := fun k x e => by
  have : k ≠ g := fun q => by subst q; rw [hg] at e; cases e
  rw [Heap.put_ne _ _ this]; exact l k x e
theorem Le.free {h h' : Heap} (l : Le h h') {g : Nat} (hg : h' g = none) : h g = none := by
  cases e : h g with
  | none => rfl
  | some b => rw [l g b e] at hg; cases hg
theorem Le.new {h : Heap} {g : Nat} (hg : h g = none) (b : Blk) : Le h (h.put g b) := (Le.refl h).put hg b

/-! ### numbers that wrap -/
theorem wrap_u64 {x : Int} (h0 : 0 ≤ x) (h1 : x < 18446744073709551616) : IntKind.u64.wrap x = x := by rw [IntKind.wrap_u64]; omega
theorem wrap_u32 {x : Int} (h0 : 0 ≤ x) (h1 : x < 4294967296) : IntKind.u32.wrap x = x := by rw [IntKind.wrap_u32]; omega
theorem wrap_i64 {x : Int} (h0 : -9223372036854775808 ≤ x) (h1 : x < 9223372036854775808) : IntKind.i64.wrap x = x := by rw [IntKind.wrap_i64]; omega
theorem wrap_u32_mod (x : Int) : IntKind.u32.wrap x = x % 4294967296 := by rw [IntKind.wrap_u32]
theorem wrap_u64_mod (x : Int) : IntKind.u64.wrap x = x % 18446744073709551616 := by rw [IntKind.wrap_u64]

/-! ### slices of uint32 -/
abbrev lv (x : Nat) : Value := .int .u32 (x : Int)

structure U32 (h : Heap) (A : Option Addr) (n c : Nat) (xs : List Nat) : Prop where
  len : xs.length = n
  cap : n ≤ c
  lt : ∀ x ∈ xs, x < 4294967296
  mem : 0 < n → ∃ ad b, A = some ad ∧ ad.spot = none ∧ h ad.block = some b ∧ (b.cells.drop ad.off).take n = xs.map lv

section
variable {h h' : Heap} {A : Option Addr} {n c : Nat} {xs : List Nat}

theorem U32.mono (u : U32 h A n c xs) (l : Le h h') : U32 h' A n c xs :=
  ⟨u.len, u.cap, u.lt, fun hn => let ⟨ad, b, e, sp, hb, hc⟩ := u.mem hn; ⟨ad, b, e, sp, l _ _ hb, hc⟩⟩

theorem U32.nil (h : Heap) (A : Option Addr) (c : Nat) : U32 h A 0 c [] := ⟨rfl, Nat.zero_le _, fun _ e => (by cases e), fun e => absurd e (Nat.lt_irrefl 0)⟩

theorem addr_off (ad : Addr) (i : Nat) : (ad.add i).off = ad.off + i := by unfold Addr.add; split <;> simp_all
theorem addr_block (ad : Addr) (i : Nat) : (ad.add i).block = ad.block := by unfold Addr.add; split <;> rfl
theorem addr_spot (ad : Addr) (i : Nat) (h : ad.spot = none) : (ad.add i).spot = none := by unfold Addr.add; split <;> simp_all

theorem ld_of {h : Heap} {ad : Addr} {b : Blk} {v : Value} {i : Nat} (sp : ad.spot = none) (hb : h ad.block = some b) (hv : b.cells[ad.off + i]? = some v) : LdN h (ad.add i) [v] := by
  refine ⟨addr_spot _ _ sp, b, by rw [addr_block]; exact hb, ?_⟩
  rw [addr_off]
  obtain ⟨hl, e⟩ := List.getElem?_eq_some_iff.1 hv
  rw [List.drop_eq_getElem_cons hl, e]
  simp

theorem U32.get (u : U32 h A n c xs) {i : Nat} (hi : i < n) : ∃ ad, A = some ad ∧ LdN h (ad.add (i * 1)) [lv (xs.getD i 0)] := by
  obtain ⟨ad, b, e, sp, hb, hc⟩ := u.mem (by omega)
  refine ⟨ad, e, ?_⟩
  rw [Nat.mul_one]
  refine ld_of sp hb ?_
  have h1 : ((b.cells.drop ad.off).take n)[i]? = (xs.map lv)[i]? := by rw [hc]
  rw [List.getElem?_take_of_lt hi, List.getElem?_drop] at h1
  rw [h1]
  have : i < xs.length := by rw [u.len]; exact hi
  simp [this]

theorem U32.take (u : U32 h A n c xs) {m : Nat} (hm : m ≤ n) : U32 h A m c (xs.take m) where
  len := by rw [List.length_take, u.len]; omega
  cap := Nat.le_trans hm u.cap
  lt x hx := u.lt x (List.mem_of_mem_take hx)
  mem h0 := by
    obtain ⟨ad, b, e, sp, hb, hc⟩ := u.mem (by omega)
    refine ⟨ad, b, e, sp, hb, ?_⟩
    rw [List.map_take, ← hc, List.take_take, Nat.min_eq_left hm]

theorem U32.getD_lt (u : U32 h A n c xs) (i : Nat) : xs.getD i 0 < 4294967296 := by
  rcases Nat.lt_or_ge i xs.length with hl | hg
  · simp [hl]; exact u.lt _ (List.getElem_mem _)
  · simp [hg]

theorem U32.rds (u : U32 h A n c xs) : RdS h A (n * 1) (xs.map lv) := by
  refine ⟨by simp [u.len], fun hn => ?_⟩
  obtain ⟨ad, b, e, sp, hb, hc⟩ := u.mem (by omega)
  exact ⟨ad, e, sp, b, hb, by rw [List.length_map, u.len]; exact hc⟩

/-- A whole block of limbs. -/
theorem U32.of_blk {g ty : Nat} {fz : Nat × Nat} {ys : List Nat} {m k : Nat} (hb : h g = some ⟨ys.map lv, ty, fz⟩) (hlt : ∀ x ∈ ys, x < 4294967296) (hm : m ≤ ys.length) (hk : m ≤ k) : U32 h (some ⟨g, 0, none⟩) m k (ys.take m) where
  len := by rw [List.length_take]; omega
  cap := hk
  lt x hx := hlt x (List.mem_of_mem_take hx)
  mem _ := ⟨_, _, rfl, rfl, hb, by simp [List.map_take]⟩
end

theorem lv_one (l : List Nat) : ∀ x ∈ l.map lv, one x = true := by
  intro x hx
  obtain ⟨y, _, rfl⟩ := List.mem_map.1 hx
  rfl

theorem setSeg_one (ys : List Nat) (i y : Nat) (hi : i < ys.length) : setSeg (ys.map lv) i [lv y] = (ys.set i y).map lv := by
  unfold setSeg
  simp only [List.length_singleton]
  rw [List.set_eq_take_append_cons_drop, if_pos hi]
  simp

theorem repV_lv (n : Nat) : repV [Value.int .u32 0] n = (List.replicate n 0).map lv := by
  induction n with
  | zero => rfl
  | succ n ih => simp only [repV, ih, List.replicate_succ]; rfl

theorem repV_length' (n : Nat) : (repV [Value.int .u32 0] n).length = n := by rw [repV_lv]; simp

/-! ### what limbs denote -/
def B32 : Nat := 4294967296

def val : List Nat → Nat
  | [] => 0
  | x :: r => x + B32 * val r

theorem val_append (a b : List Nat) : val (a ++ b) = val a + B32 ^ a.length * val b := by
  induction a with
  | nil => simp [val]
  | cons x r ih =>
    simp only [List.cons_append, val, ih, List.length_cons, Nat.pow_succ]
    rw [Nat.mul_add, Nat.add_assoc, Nat.mul_assoc, Nat.mul_left_comm (B32 ^ r.length)]

theorem val_lt {l : List Nat} (h : ∀ x ∈ l, x < B32) : val l < B32 ^ l.length := by
  induction l with
  | nil => simp [val]
  | cons x r ih =>
    have h1 := h x (by simp)
    have h2 := ih fun y hy => h y (by simp [hy])
    simp only [val, List.length_cons, Nat.pow_succ]
    have : B32 * (val r + 1) ≤ B32 * B32 ^ r.length := Nat.mul_le_mul_left _ h2
    rw [Nat.mul_add] at this
    rw [Nat.mul_comm (B32 ^ r.length)]
    omega

/-- No high zero limb. -/
def Nrm (l : List Nat) : Prop := l.getLast? ≠ some 0

theorem nrm_nil : Nrm [] := by simp [Nrm]

theorem nrm_val_pos {l : List Nat} (h : Nrm l) (hne : l ≠ []) : B32 ^ (l.length - 1) ≤ val l := by
  obtain ⟨r, x, rfl⟩ : ∃ r x, l = r ++ [x] := ⟨l.dropLast, l.getLast hne, (List.dropLast_concat_getLast hne).symm⟩
  have hx : x ≠ 0 := fun e => h (by simp [e])
  rw [val_append]
  simp only [val, List.length_append, List.length_singleton, Nat.add_sub_cancel, Nat.mul_zero, Nat.add_zero]
  have : B32 ^ r.length * 1 ≤ B32 ^ r.length * x := Nat.mul_le_mul_left _ (Nat.one_le_iff_ne_zero.2 hx)
  omega

theorem nrm_zero {l : List Nat} (h : Nrm l) (hv : val l = 0) : l = [] := by
  cases hl : l with
  | nil => rfl
  | cons x r =>
    have := nrm_val_pos h (by simp [hl])
    have hp : 0 < B32 ^ (l.length - 1) := Nat.pow_pos (by decide)
    omega

/-- A value below B32 ^ k has at most k limbs. -/
theorem nrm_len {l : List Nat} (h : Nrm l) {k : Nat} (hv : val l < B32 ^ k) : l.length ≤ k := by
  rcases Nat.lt_or_ge k l.length with hk | hk
  · have hne : l ≠ [] := fun e => by rw [e] at hk; simp at hk
    have h1 := nrm_val_pos h hne
    have h2 : B32 ^ k ≤ B32 ^ (l.length - 1) := Nat.pow_le_pow_right (by decide) (by omega)
    omega
  · exact hk

theorem val_inj_len : ∀ {a b : List Nat}, (∀ x ∈ a, x < B32) → (∀ x ∈ b, x < B32) → a.length = b.length → val a = val b → a = b
  | [], [], _, _, _, _ => rfl
  | x :: r, y :: q, ha, hb, hl, hv => by
    simp only [val] at hv
    have h1 := ha x (by simp)
    have h2 := hb y (by simp)
    have hm : (x + B32 * val r) % B32 = (y + B32 * val q) % B32 := by rw [hv]
    rw [Nat.add_mul_mod_self_left, Nat.add_mul_mod_self_left, Nat.mod_eq_of_lt h1, Nat.mod_eq_of_lt h2] at hm
    subst hm
    have hv2 : val r = val q := by
      have : B32 * val r = B32 * val q := by omega
      exact Nat.eq_of_mul_eq_mul_left (by decide) this
    rw [val_inj_len (fun z hz => ha z (by simp [hz])) (fun z hz => hb z (by simp [hz])) (by simpa using hl) hv2]

/-- Two normal forms of one value are the same limbs. -/
theorem nrm_inj {a b : List Nat} (ha : ∀ x ∈ a, x < B32) (hb : ∀ x ∈ b, x < B32) (na : Nrm a) (nb : Nrm b) (hv : val a = val b) : a = b := by
  refine val_inj_len ha hb ?_ hv
  have h1 := nrm_len na (k := b.length) (by rw [hv]; exact val_lt hb)
  have h2 := nrm_len nb (k := a.length) (by rw [← hv]; exact val_lt ha)
  omega

theorem val_zeros (n : Nat) : val (List.replicate n 0) = 0 := by
  induction n with
  | zero => rfl
  | succ n ih => simp [List.replicate_succ, val, ih]

/-- The limbs without the high zeros. -/
def trimL : List Nat → List Nat
  | [] => []
  | x :: r =>
    match trimL r with
    | [] => if x = 0 then [] else [x]
    | y :: t => x :: y :: t

theorem trimL_spec : ∀ l : List Nat, ∃ n, l = trimL l ++ List.replicate n 0
  | [] => ⟨0, rfl⟩
  | x :: r => by
    obtain ⟨n, h⟩ := trimL_spec r
    simp only [trimL]
    split
    · rename_i e
      rw [e] at h
      split
      · rename_i h0; subst h0; exact ⟨n + 1, by rw [h]; rfl⟩
      · exact ⟨n, by rw [h]; rfl⟩
    · rename_i y t e
      rw [e] at h
      exact ⟨n, by rw [h]; rfl⟩

theorem trimL_nrm : ∀ l : List Nat, Nrm (trimL l)
  | [] => nrm_nil
  | x :: r => by
    have ih := trimL_nrm r
    simp only [trimL]
    split
    · split
      · exact nrm_nil
      · rename_i h0; simpa [Nrm] using h0
    · rename_i y t e
      rw [e] at ih
      simpa [Nrm, List.getLast?_cons_cons] using ih

theorem trimL_val (l : List Nat) : val (trimL l) = val l := by
  obtain ⟨n, h⟩ := trimL_spec l
  have h1 : val l = val (trimL l ++ List.replicate n 0) := congrArg val h
  rw [h1, val_append, val_zeros, Nat.mul_zero, Nat.add_zero]

theorem trimL_le (l : List Nat) : (trimL l).length ≤ l.length := by
  obtain ⟨n, h⟩ := trimL_spec l
  have := congrArg List.length h
  simp at this
  omega

theorem trimL_take (l : List Nat) : trimL l = l.take (trimL l).length := by
  obtain ⟨n, h⟩ := trimL_spec l
  have h1 : l.take (trimL l).length = (trimL l ++ List.replicate n 0).take (trimL l).length := congrArg (List.take _) h
  rw [h1, List.take_left']
  rfl

end Go.Vcg

/-
  Contracts: cmp, natural: trim, Of, Norm, Cmp.
-/
namespace Go.Proofs.YtdpdaphholileaaGreatDoor
open Go Go.Vcg

theorem trimL_snoc_zero : ∀ l : List Nat, trimL (l ++ [0]) = trimL l
  | [] => rfl
  | x :: r => by simp only [List.cons_append, trimL, trimL_snoc_zero r]

theorem trimL_of_nrm {l : List Nat} (h : Nrm l) : trimL l = l := by
  obtain ⟨n, e⟩ := trimL_spec l
  cases n with
  | zero => simpa using e.symm
  | succ n =>
    exfalso
    apply h
    rw [e, List.replicate_succ', ← List.append_assoc, List.getLast?_append]
    simp

theorem isNaN_int (x : Int) (h : Heap) : CallsU Tryz.prog 185 [.int .i64 x] h fun v h' => v = .bool false ∧ h = h' := by
  apply cmp_isNaN_int_ok
  simp [cmp_isNaN_int_vc]

theorem isNaN_u32 (x : Int) (h : Heap) : CallsU Tryz.prog 186 [.int .u32 x] h fun v h' => v = .bool false ∧ h = h' := by
  apply cmp_isNaN_uint32_ok
  simp [cmp_isNaN_uint32_vc]

def cmpI (x y : Int) : Int := if x < y then -1 else if y < x then 1 else 0

theorem compare_int (x y : Int) (h : Heap) : CallsU Tryz.prog 145 [.int .i64 x, .int .i64 y] h fun v h' => v = .int .i64 (cmpI x y) ∧ h = h' := by
  apply cmp_Compare_int_ok
  refine (isNaN_int x h).mono ?_
  rintro _ _ ⟨rfl, rfl⟩
  refine ⟨_, rfl, (isNaN_int y _).mono ?_⟩
  rintro _ _ ⟨rfl, rfl⟩
  refine ⟨_, rfl, Br.mk (fun h => (by cases h)) fun _ => Br.mk (fun h => (by cases h)) fun _ => Br.mk (fun h1 => ?_) fun h1 => Br.mk (fun h2 => ?_) fun h2 => ?_⟩ <;> simp at h1 <;> refine ⟨?_, rfl⟩ <;> unfold cmpI
  · rw [if_pos h1]
  · simp at h2; rw [if_neg (by omega), if_pos h2]
  · simp at h2; rw [if_neg (by omega), if_neg (by omega)]

theorem compare_u32 (x y : Int) (h : Heap) : CallsU Tryz.prog 146 [.int .u32 x, .int .u32 y] h fun v h' => v = .int .i64 (cmpI x y) ∧ h = h' := by
  apply cmp_Compare_uint32_ok
  refine (isNaN_u32 x h).mono ?_
  rintro _ _ ⟨rfl, rfl⟩
  refine ⟨_, rfl, (isNaN_u32 y _).mono ?_⟩
  rintro _ _ ⟨rfl, rfl⟩
  refine ⟨_, rfl, Br.mk (fun h => (by cases h)) fun _ => Br.mk (fun h => (by cases h)) fun _ => Br.mk (fun h1 => ?_) fun h1 => Br.mk (fun h2 => ?_) fun h2 => ?_⟩ <;> simp at h1 <;> refine ⟨?_, rfl⟩ <;> unfold cmpI
  · rw [if_pos h1]
  · simp at h2; rw [if_neg (by omega), if_pos h2]
  · simp at h2; rw [if_neg (by omega), if_neg (by omega)]

theorem take_last {xs : List Nat} {m : Nat} (h : m < xs.length) : xs.take (m + 1) = xs.take m ++ [xs.getD m 0] := by
  rw [List.take_succ_eq_append_getElem h]
  simp [h]

theorem trim_c {h : Heap} {A : Option Addr} {n c : Nat} {xs : List Nat} (u : U32 h A n c xs) (hn : n ≤ 4611686018427387904) :
    CallsU Tryz.prog 101 [.slice A n c] h fun v h' => v = .slice A (trimL xs).length c ∧ h = h' := by
  apply natural_trim_ok
  refine ⟨fun m k h' => h' = h ∧ k = (m : Int) ∧ m ≤ n ∧ trimL xs = trimL (xs.take m), ⟨n, rfl, rfl, Nat.le_refl _, by rw [List.take_of_length_le (Nat.le_of_eq u.len)]⟩, ?_⟩
  rintro m k h' ⟨rfl, rfl, hm, ht⟩
  have hc := u.cap
  refine Br.mk (fun hp => ?_) (fun hp => ?_)
  · simp at hp
    obtain ⟨m, rfl⟩ : ∃ q, m = q + 1 := ⟨m - 1, by omega⟩
    rintro _ rfl
    rw [wrap_i64 (by omega) (by omega)]
    have e1 : ((m + 1 : Nat) : Int) - 1 = (m : Int) := by omega
    rw [e1]
    obtain ⟨ad, hA, hl⟩ := u.get (i := m) (by omega)
    refine ⟨ad, hA, by omega, by omega, _, hl, Br.mk (fun h0 => ?_) (fun h0 => ?_)⟩
    · rintro _ rfl
      refine ⟨m, by omega, rfl, rfl, by omega, ?_⟩
      rw [ht, take_last (by rw [u.len]; omega)]
      have : xs.getD m 0 = 0 := by simp at h0; exact_mod_cast h0
      rw [this, trimL_snoc_zero]
    · refine ⟨by omega, by omega, ?_, rfl⟩
      have hnz : xs.getD m 0 ≠ 0 := by
        intro e
        rw [e] at h0
        simp at h0
      have : trimL xs = xs.take (m + 1) := by
        rw [ht, trimL_of_nrm]
        rw [take_last (by rw [u.len]; omega)]
        simpa [Nrm] using hnz
      rw [this, List.length_take, u.len, Nat.min_eq_left (by omega)]
      simp
  · simp at hp
    subst hp
    refine ⟨by omega, by omega, ?_, rfl⟩
    rw [ht]
    rfl

/-- A slice that denotes v. -/
def IsN (h : Heap) (A : Option Addr) (n c v : Nat) : Prop := ∃ xs, U32 h A n c xs ∧ val xs = v
/-- .. in normal form. -/
def NmN (h : Heap) (A : Option Addr) (n c v : Nat) : Prop := ∃ xs, U32 h A n c xs ∧ val xs = v ∧ Nrm xs

theorem NmN.is {h : Heap} {A : Option Addr} {n c v : Nat} (u : NmN h A n c v) : IsN h A n c v := let ⟨xs, a, b, _⟩ := u; ⟨xs, a, b⟩
theorem IsN.mono {h h' : Heap} {A : Option Addr} {n c v : Nat} (u : IsN h A n c v) (l : Le h h') : IsN h' A n c v := let ⟨xs, a, b⟩ := u; ⟨xs, a.mono l, b⟩
theorem NmN.mono {h h' : Heap} {A : Option Addr} {n c v : Nat} (u : NmN h A n c v) (l : Le h h') : NmN h' A n c v := let ⟨xs, a, b, d⟩ := u; ⟨xs, a.mono l, b, d⟩

theorem NmN.len_le {h : Heap} {A : Option Addr} {n c v k : Nat} (u : NmN h A n c v) (hv : v < B32 ^ k) : n ≤ k := by
  obtain ⟨xs, a, rfl, d⟩ := u
  rw [← a.len]
  exact nrm_len d hv

theorem NmN.zero_iff {h : Heap} {A : Option Addr} {n c v : Nat} (u : NmN h A n c v) : n = 0 ↔ v = 0 := by
  obtain ⟨xs, a, rfl, d⟩ := u
  constructor
  · intro e
    have : xs = [] := List.eq_nil_of_length_eq_zero (by rw [a.len, e])
    rw [this]
    rfl
  · intro e
    rw [← a.len, nrm_zero d e]
    rfl

theorem U32.val_lt {h : Heap} {A : Option Addr} {n c : Nat} {xs : List Nat} (u : U32 h A n c xs) : val xs < B32 ^ n := by
  rw [← u.len]; exact Vcg.val_lt u.lt

theorem IsN.lt {h : Heap} {A : Option Addr} {n c v : Nat} (u : IsN h A n c v) : v < B32 ^ n := by
  obtain ⟨xs, a, rfl⟩ := u
  exact U32.val_lt a

/-- trim, by value. -/
theorem trim_n {h : Heap} {A : Option Addr} {n c v : Nat} (u : IsN h A n c v) (hn : n ≤ 4611686018427387904) :
    CallsU Tryz.prog 101 [.slice A n c] h fun r h' => ∃ m, r = .slice A m c ∧ m ≤ n ∧ NmN h A m c v ∧ h = h' := by
  obtain ⟨xs, a, rfl⟩ := u
  refine (trim_c a hn).mono ?_
  rintro _ _ ⟨rfl, rfl⟩
  have hle := trimL_le xs
  refine ⟨_, rfl, by rw [← a.len]; exact hle, ⟨trimL xs, ?_, trimL_val xs, trimL_nrm xs⟩, rfl⟩
  have := a.take (m := (trimL xs).length) (by rw [← a.len]; exact hle)
  rwa [← trimL_take] at this

theorem of_c (n : Nat) (hn : n < 18446744073709551616) (h : Heap) :
    CallsU Tryz.prog 93 [.int .u64 n] h fun r h' => ∃ A m c, r = .slice A m c ∧ m ≤ 2 ∧ NmN h' A m c n ∧ Le h h' := by
  apply natural_Of_ok
  rintro _ rfl g h1 hg rfl
  have e1 : IntKind.u32.wrap (n : Int) = ((n % B32 : Nat) : Int) := by rw [wrap_u32_mod]; unfold B32; omega
  have e2 : IntKind.u32.wrap (Int.fdiv (n : Int) (2 ^ (32 : Nat))) = ((n / B32 : Nat) : Int) := by
    rw [Int.fdiv_eq_ediv_of_nonneg _ (by decide)]
    have : ((2 : Int) ^ (32 : Nat)) = 4294967296 := by decide
    rw [this, wrap_u32 (by omega) (by omega)]
    unfold B32
    omega
  rw [e1, e2]
  have hb : (h.put g ⟨[lv (n % B32), lv (n / B32)], 104, (0, 0)⟩) g = some ⟨[n % B32, n / B32].map lv, 104, (0, 0)⟩ := by rw [Heap.put_same]; rfl
  have hlt : ∀ x ∈ [n % B32, n / B32], x < 4294967296 := by
    intro x hx
    simp only [List.mem_cons, List.not_mem_nil, or_false] at hx
    unfold B32 at hx
    rcases hx with rfl | rfl <;> omega
  have u := U32.of_blk (m := 2) (k := 2) hb hlt (by simp) (by omega)
  have hv : val ([n % B32, n / B32].take 2) = n := by
    simp only [List.take_succ_cons, List.take_zero, val, Nat.mul_zero, Nat.add_zero]
    exact Nat.mod_add_div n B32
  refine (trim_n ⟨_, u, hv⟩ (by omega)).mono ?_
  rintro _ _ ⟨m, rfl, hm, hN, rfl⟩
  exact ⟨_, _, _, rfl, _, _, _, rfl, hm, hN, Le.new hg _⟩

theorem setSeg_all (a b : List Value) (hl : a.length = b.length) : setSeg a 0 b = b := by
  unfold setSeg
  simp [← hl]

theorem norm_c {h : Heap} {A : Option Addr} {n c v : Nat} (u : IsN h A n c v) (hn : n ≤ 35184372088832) :
    CallsU Tryz.prog 147 [.slice A n c] h fun r h' => ∃ A' m c', r = .slice A' m c' ∧ m ≤ n ∧ NmN h' A' m c' v ∧ Le h h' := by
  apply natural_Norm_ok
  refine (trim_n u (by omega)).mono ?_
  rintro _ _ ⟨m, rfl, hm, ⟨xs, a, hv, hN⟩, rfl⟩
  refine ⟨_, _, _, rfl, by omega, by omega, by omega, by omega, ?_⟩
  rintro g h2 hg rfl
  simp only [Int.toNat_natCast, Nat.min_self, Nat.mul_one]
  have l1 := Le.new hg ⟨repV [Value.int .u32 0] m, 104, (0, 0)⟩
  have a' := a.mono l1
  have hr := a'.rds
  rw [Nat.mul_one] at hr
  refine ⟨_, hr, lv_one _, fun h0 => ?_, fun hp => ?_⟩
  · subst h0
    have hx : xs = [] := List.eq_nil_of_length_eq_zero a.len
    subst hx
    exact ⟨_, _, _, rfl, Nat.zero_le _, ⟨[], U32.nil _ _ _, hv, hN⟩, l1⟩
  · refine ⟨_, _, rfl, rfl, Heap.put_same _ _ _, rfl, by simp [repV_length'], ?_⟩
    rintro h3 rfl
    refine ⟨_, _, _, rfl, hm, ⟨xs, ?_, hv, hN⟩, l1.put hg _⟩
    have hs : setSeg (repV [Value.int .u32 0] m) 0 (xs.map lv) = xs.map lv := setSeg_all _ _ (by rw [repV_length', List.length_map, a.len])
    have hb : (((h.put g ⟨repV [Value.int .u32 0] m, 104, (0, 0)⟩).put g ⟨setSeg (repV [Value.int .u32 0] m) 0 (xs.map lv), 104, (0, 0)⟩) : Heap) g = some ⟨xs.map lv, 104, (0, 0)⟩ := by
      rw [Heap.put_same, hs]
    have := U32.of_blk (m := m) (k := m) hb a.lt (by rw [a.len]; exact Nat.le_refl _) (Nat.le_refl _)
    rwa [List.take_of_length_le (by rw [a.len]; exact Nat.le_refl _)] at this
end Go.Proofs.YtdpdaphholileaaGreatDoor

/-
  Contracts: natural: Cmp, Add, Mul.
-/
namespace Go.Proofs.YtdpdaphholileaaGreatDoor
open Go Go.Vcg

/-! ### helpers -/
theorem wi {a : Int} {n : Nat} (h : a = n) (hn : n < 9223372036854775808) : IntKind.i64.wrap a = n := by rw [h]; exact wrap_i64 (by omega) (by omega)
theorem wu {a : Int} {n : Nat} (h : a = n) (hn : n < 18446744073709551616) : IntKind.u64.wrap a = n := by rw [h]; exact wrap_u64 (by omega) (by omega)
theorem w32 {a : Int} {n : Nat} (h : a = n) : IntKind.u32.wrap a = ((n % B32 : Nat) : Int) := by rw [h, wrap_u32_mod]; unfold B32; omega
theorem fdivB {a : Int} {n : Nat} (h : a = n) : Int.fdiv a (2 ^ (32 : Nat)) = ((n / B32 : Nat) : Int) := by
  rw [h, Int.fdiv_eq_ediv_of_nonneg _ (by decide)]
  have : ((2 : Int) ^ (32 : Nat)) = 4294967296 := by decide
  rw [this]
  unfold B32
  omega

theorem ld_own {h : Heap} {g ty i : Nat} {fz : Nat × Nat} {rs : List Nat} (hb : h g = some ⟨rs.map lv, ty, fz⟩) (hi : i < rs.length) : LdN h (Addr.add ⟨g, 0, none⟩ (i * 1)) [lv (rs.getD i 0)] := by
  rw [Nat.mul_one]
  refine ld_of (ad := ⟨g, 0, none⟩) rfl hb ?_
  simp [hi]

theorem st_own {h : Heap} {g ty i : Nat} {rs : List Nat} {v : Value} (y : Nat) {K : Heap → Prop} (hb : h g = some ⟨rs.map lv, ty, (0, 0)⟩) (hi : i < rs.length) (hv : v = lv y)
    (hk : K (h.put g ⟨(rs.set i y).map lv, ty, (0, 0)⟩)) :
    ∃ b : Blk, h (Addr.block (Addr.add ⟨g, 0, none⟩ (i * 1))) = some b ∧ b.fz = (0, 0) ∧ Addr.spot (Addr.add ⟨g, 0, none⟩ (i * 1)) = none ∧ Addr.off (Addr.add ⟨g, 0, none⟩ (i * 1)) + 1 ≤ b.cells.length ∧
      ∀ h' : Heap, h' = Heap.put h (Addr.block (Addr.add ⟨g, 0, none⟩ (i * 1))) { b with cells := setSeg b.cells (Addr.off (Addr.add ⟨g, 0, none⟩ (i * 1))) [v] } → K h' := by
  rw [Nat.mul_one, addr_block, addr_off, addr_spot _ _ rfl]
  refine ⟨_, hb, rfl, rfl, by simp; omega, ?_⟩
  rintro h' rfl
  subst hv
  simp only [Nat.zero_add]
  rw [setSeg_one rs i y hi]
  exact hk

theorem take_set_ge {rs : List Nat} {i j y : Nat} (h : i ≤ j) : (rs.set j y).take i = rs.take i := List.take_set_of_le h

/-- The value up to one more limb. -/
theorem val_take_succ {xs : List Nat} {k : Nat} (h : k < xs.length) : val (xs.take (k + 1)) = val (xs.take k) + B32 ^ k * xs.getD k 0 := by
  rw [take_last h, val_append, List.length_take, Nat.min_eq_left (by omega)]
  simp [val]

theorem val_split {xs : List Nat} {k : Nat} (h : k ≤ xs.length) : val xs = val (xs.take k) + B32 ^ k * val (xs.drop k) := by
  have := val_append (xs.take k) (xs.drop k)
  rw [List.take_append_drop, List.length_take, Nat.min_eq_left h] at this
  exact this

/-! ### Cmp -/
theorem lt_of_len {xs ys : List Nat} (hx : ∀ x ∈ xs, x < B32) (ny : Nrm ys) (hl : xs.length < ys.length) : val xs < val ys := by
  have h1 := val_lt hx
  have h2 := nrm_val_pos ny (fun e => by rw [e] at hl; simp at hl)
  have h3 : B32 ^ xs.length ≤ B32 ^ (ys.length - 1) := Nat.pow_le_pow_right (by decide) (by omega)
  omega

theorem lt_at {xs ys : List Nat} {k : Nat} (hx : ∀ x ∈ xs, x < B32) (hkx : k < xs.length) (hky : k < ys.length) (hd : xs.drop (k + 1) = ys.drop (k + 1)) (hlt : xs.getD k 0 < ys.getD k 0) : val xs < val ys := by
  rw [val_split (k := k + 1) hkx, val_split (xs := ys) (k := k + 1) hky, val_take_succ hkx, val_take_succ hky, hd]
  have h1 : val (xs.take k) < B32 ^ k := by
    have := val_lt (l := xs.take k) fun x h => hx x (List.mem_of_mem_take h)
    rwa [List.length_take, Nat.min_eq_left (by omega)] at this
  have h2 : B32 ^ k * (xs.getD k 0 + 1) ≤ B32 ^ k * ys.getD k 0 := Nat.mul_le_mul_left _ hlt
  rw [Nat.mul_add] at h2
  omega

theorem cmpI_lt {x y : Nat} (h : x < y) : cmpI x y = -1 := by unfold cmpI; rw [if_pos (by omega)]
theorem cmpI_gt {x y : Nat} (h : y < x) : cmpI x y = 1 := by unfold cmpI; rw [if_neg (by omega), if_pos (by omega)]
theorem cmpI_eq (x : Nat) : cmpI x x = 0 := by unfold cmpI; rw [if_neg (by omega), if_neg (by omega)]

theorem cmpI_zero {x y : Nat} (h : cmpI x y = 0) : x = y := by
  rcases Nat.lt_trichotomy x y with q | q | q
  · rw [cmpI_lt q] at h; cases h
  · exact q
  · rw [cmpI_gt q] at h; cases h

theorem drop_succ_eq {xs ys : List Nat} {k : Nat} (hkx : k < xs.length) (hky : k < ys.length) (he : xs.getD k 0 = ys.getD k 0) (hd : xs.drop (k + 1) = ys.drop (k + 1)) : xs.drop k = ys.drop k := by
  rw [List.drop_eq_getElem_cons hkx, List.drop_eq_getElem_cons hky, hd]
  simp [hkx, hky] at he
  rw [he]

theorem cmp_c {h : Heap} {A B : Option Addr} {n c m d x y : Nat} (ux : IsN h A n c x) (uy : IsN h B m d y) (hn : n ≤ 1099511627776) (hm : m ≤ 1099511627776) :
    CallsU Tryz.prog 95 [.slice A n c, .slice B m d] h fun v h' => v = .int .i64 (cmpI x y) ∧ h = h' := by
  apply natural_Cmp_ok
  refine (trim_n ux (by omega)).mono ?_
  rintro _ _ ⟨n', rfl, hn', ⟨xs, a, hx, nx⟩, rfl⟩
  refine ⟨_, _, _, rfl, (trim_n uy (by omega)).mono ?_⟩
  rintro _ _ ⟨m', rfl, hm', ⟨ys, b, hy, ny⟩, rfl⟩
  refine ⟨_, _, _, rfl, (compare_int _ _ _).mono ?_⟩
  rintro _ _ ⟨rfl, rfl⟩
  have la := a.len
  have lb := b.len
  subst hx hy
  refine ⟨_, rfl, Br.mk (fun hne => ⟨?_, rfl⟩) (fun heq => ?_)⟩
  · rcases Nat.lt_trichotomy n' m' with q | q | q
    · rw [cmpI_lt q, cmpI_lt (lt_of_len a.lt ny (by omega))]
    · subst q; rw [cmpI_eq] at hne; simp at hne
    · rw [cmpI_gt q, cmpI_gt (lt_of_len b.lt nx (by omega))]
  · have hnm : n' = m' := cmpI_zero (by simpa using heq)
    subst hnm
    rintro _ rfl
    rw [wrap_i64 (by omega) (by omega)]
    refine ⟨fun k i h' => h' = h ∧ i = (k : Int) - 1 ∧ k ≤ n' ∧ xs.drop k = ys.drop k, ⟨n', rfl, rfl, Nat.le_refl _, by rw [List.drop_of_length_le (by omega), List.drop_of_length_le (by omega)]⟩, ?_⟩
    rintro k i h' ⟨rfl, rfl, hk, hd⟩
    refine Br.mk (fun hp => ?_) (fun hp => ⟨?_, rfl⟩)
    · simp at hp
      obtain ⟨k, rfl⟩ : ∃ q, k = q + 1 := ⟨k - 1, by omega⟩
      have e1 : ((k + 1 : Nat) : Int) - 1 = (k : Int) := by omega
      rw [e1]
      obtain ⟨ad, hA, hl⟩ := a.get (i := k) (by omega)
      obtain ⟨ad', hB, hl'⟩ := b.get (i := k) (by omega)
      refine ⟨ad, hA, by omega, by omega, _, hl, ad', hB, by omega, by omega, _, hl', (compare_u32 _ _ _).mono ?_⟩
      rintro _ _ ⟨rfl, rfl⟩
      refine ⟨_, rfl, Br.mk (fun hne => ⟨?_, rfl⟩) (fun heq => ?_)⟩
      · rcases Nat.lt_trichotomy (xs.getD k 0) (ys.getD k 0) with q | q | q
        · rw [cmpI_lt q, cmpI_lt (lt_at a.lt (by omega) (by omega) hd q)]
        · rw [q, cmpI_eq] at hne; simp at hne
        · rw [cmpI_gt q, cmpI_gt (lt_at b.lt (by omega) (by omega) hd.symm q)]
      · rintro _ rfl
        rw [wrap_i64 (by omega) (by omega)]
        exact ⟨k, by omega, rfl, rfl, by omega, drop_succ_eq (by omega) (by omega) (cmpI_zero (by simpa using heq)) hd⟩
    · simp at hp
      have hk0 : k = 0 := by omega
      subst hk0
      simp only [List.drop_zero] at hd
      rw [hd, cmpI_eq]

/-! ### Add -/
theorem set_append_mid (rs zs : List Nat) (y z : Nat) : (rs ++ z :: zs).set rs.length y = rs ++ y :: zs := by
  rw [List.set_append_right _ _ (Nat.le_refl _)]
  simp

theorem val_snoc (rs : List Nat) (y : Nat) : val (rs ++ [y]) = val rs + B32 ^ rs.length * y := by rw [val_append]; simp [val]

theorem getD_ge {xs : List Nat} {k : Nat} (h : xs.length ≤ k) : xs.getD k 0 = 0 := by simp [h]

theorem val_take_succ' (xs : List Nat) (k : Nat) : val (xs.take (k + 1)) = val (xs.take k) + B32 ^ k * xs.getD k 0 := by
  rcases Nat.lt_or_ge k xs.length with h | h
  · exact val_take_succ h
  · rw [getD_ge h, List.take_of_length_le h, List.take_of_length_le (by omega)]; simp

theorem step_add (X Y r p x y c q t : Nat) (h : r + p * c = X + Y) (ht : c + x + y = t) (hq : q = p * B32) : (r + p * (t % B32)) + q * (t / B32) = (X + p * x) + (Y + p * y) := by
  have := Nat.mod_add_div t B32
  subst hq
  grind

/-- append of one limb onto the call's own row, within its capacity. -/
theorem app_own {h : Heap} {g ty k cap : Nat} {rs zs : List Nat} {z y : Nat} {v : Value} {K1 : Heap → Prop} {g1 : Nat} (hg1 : h g1 = none) (hb : h g = some ⟨(rs ++ z :: zs).map lv, ty, (0, 0)⟩) (hk : rs.length = k)
    (hcap : k + 1 ≤ cap) (hv : v = lv y) {P2 : List Value → Prop} (hk1 : K1 ((h.put g1 ⟨[v], ty, (0, 0)⟩).put g ⟨(rs ++ y :: zs).map lv, ty, (0, 0)⟩)) :
    ∃ xs : List Value, RdS (h.put g1 ⟨[v], ty, (0, 0)⟩) (some ⟨g1, 0, none⟩) (1 * 1) xs ∧ (∀ x ∈ xs, one x = true) ∧
      (k + 1 ≤ cap → ∃ (ad : Addr) (b : Blk), some (⟨g, 0, none⟩ : Addr) = some ad ∧ ad.spot = none ∧ (h.put g1 ⟨[v], ty, (0, 0)⟩) ad.block = some b ∧ b.fz = (0, 0) ∧ ad.off + k * 1 + 1 * 1 ≤ b.cells.length ∧
        ∀ h' : Heap, h' = Heap.put (h.put g1 ⟨[v], ty, (0, 0)⟩) ad.block { b with cells := setSeg b.cells (ad.off + k * 1) xs } → K1 h') ∧
      (cap < k + 1 → P2 xs) := by
  subst hv
  have hne : g ≠ g1 := fun e => by rw [e, hg1] at hb; cases hb
  refine ⟨[lv y], ⟨rfl, fun _ => ⟨_, rfl, rfl, _, Heap.put_same _ _ _, rfl⟩⟩, fun x hx => by simp at hx; subst hx; rfl, fun _ => ⟨_, _, rfl, rfl, (Heap.put_ne _ _ hne).trans hb, rfl, by simp; omega, ?_⟩, fun hc => by omega⟩
  rintro h' rfl
  simp only [Nat.zero_add, Nat.mul_one]
  rw [setSeg_one _ _ _ (by simp; omega), ← hk, set_append_mid]
  exact hk1

theorem rep_cons {n : Nat} (h : 0 < n) : List.replicate n 0 = 0 :: List.replicate (n - 1) (0 : Nat) := by
  obtain ⟨m, rfl⟩ : ∃ q, n = q + 1 := ⟨n - 1, by omega⟩
  rfl

theorem mem_snoc {rs : List Nat} {y b : Nat} (h : ∀ x ∈ rs, x < b) (hy : y < b) : ∀ x ∈ rs ++ [y], x < b := by
  intro x hx
  rcases List.mem_append.1 hx with q | q
  · exact h x q
  · simp at q; omega

theorem add_c {h : Heap} {A B : Option Addr} {n c m d x y : Nat} (ux : IsN h A n c x) (uy : IsN h B m d y) (hn : n ≤ 1099511627776) (hm : m ≤ 1099511627776) :
    CallsU Tryz.prog 97 [.slice A n c, .slice B m d] h fun r h' => ∃ A' k c', r = .slice A' k c' ∧ NmN h' A' k c' (x + y) ∧ Le h h' := by
  apply natural_Add_ok
  refine (trim_n ux (by omega)).mono ?_
  rintro _ _ ⟨n', rfl, hn', ⟨xs, a, hx, nx⟩, rfl⟩
  refine ⟨_, _, _, rfl, (trim_n uy (by omega)).mono ?_⟩
  rintro _ _ ⟨m', rfl, hm', ⟨ys, b, hy, ny⟩, rfl⟩
  refine ⟨_, _, _, rfl, fun aA an ac bA bn bc h' => h = h' ∧ ∃ xs ys, U32 h aA an ac xs ∧ U32 h bA bn bc ys ∧ val xs + val ys = x + y ∧ bn ≤ an ∧ an ≤ 1099511627776, ?_,
    Br.mk (fun q => ⟨rfl, ys, xs, b, a, by omega, by simp at q; omega, by omega⟩) (fun q => ⟨rfl, xs, ys, a, b, by omega, by simp at q; omega, by omega⟩)⟩
  clear a b nx ny hx hy xs ys
  rintro aA an ac bA bn bc h3 ⟨rfl, xs, ys, a, b, hv, hle, hb40⟩
  rintro _ rfl
  rw [wi (n := an + 1) (by omega) (by omega)]
  refine ⟨by omega, by omega, by omega, by omega, ?_⟩
  rintro g h4 hg rfl
  simp only [Int.toNat_natCast]
  have la := a.len
  have lb := b.len
  refine ⟨fun m rA rn rc carry i h' => ∃ (k cN : Nat) (rs : List Nat), m = an - k ∧ k ≤ an ∧ rA = some ⟨g, 0, none⟩ ∧ k = rn ∧ rc = an + 1 ∧ carry = (cN : Int) ∧ i = (k : Int) ∧ rs.length = k ∧ (∀ x ∈ rs, x < B32) ∧ cN < B32 ∧
      h' g = some ⟨(rs ++ List.replicate (an + 1 - k) 0).map lv, 104, (0, 0)⟩ ∧ Le h h' ∧ val rs + B32 ^ k * cN = val (xs.take k) + val (ys.take k),
    ⟨an, 0, 0, [], rfl, by omega, rfl, rfl, rfl, rfl, rfl, rfl, fun _ q => (by cases q), by decide, by rw [Heap.put_same, repV_lv]; rfl, Le.new hg _, by simp [val]⟩, ?_⟩
  rintro _ _ _ _ _ _ h5 ⟨k, cN, rs, rfl, hk, rfl, rfl, rfl, rfl, rfl, hrl, hrs, hc, hb, hl, hval⟩
  refine Br.mk (fun q => ?_) (fun q => ?_)
  · have q' : k < an := by simpa using q
    have hbx := (a.mono hl).getD_lt k
    have hby := (b.mono hl).getD_lt k
    obtain ⟨ad, hA, hld⟩ := (a.mono hl).get (i := k) q'
    refine ⟨ad, hA, by omega, by omega, _, hld, ?_⟩
    rintro _ rfl
    rw [wu (a := ((xs.getD k 0 : Nat) : Int)) rfl (by omega), wu (n := cN + xs.getD k 0) (by omega) (by unfold B32 at hc; omega)]
    -- behind the join the carry is the sum of the three
    refine ⟨fun carry h' => h5 = h' ∧ carry = ((cN + xs.getD k 0 + ys.getD k 0 : Nat) : Int), ?_, Br.mk (fun q2 => ?_) (fun q2 => ?_)⟩
    · rintro _ h6 ⟨rfl, rfl⟩
      rintro g1 h7 hg1 rfl
      have hrep := rep_cons (n := an + 1 - k) (by omega)
      rw [hrep] at hb
      refine app_own (y := (cN + xs.getD k 0 + ys.getD k 0) % B32) hg1 hb hrl (by omega) (by rw [w32 rfl]) ?_
      rintro _ rfl _ rfl
      rw [fdivB rfl, wi (n := k + 1) (by omega) (by omega)]
      have hg0 : h g = none := hg
      refine ⟨an - (k + 1), by omega, k + 1, (cN + xs.getD k 0 + ys.getD k 0) / B32, rs ++ [(cN + xs.getD k 0 + ys.getD k 0) % B32], rfl, by omega, rfl, rfl, rfl, rfl, rfl, by simp [hrl],
        mem_snoc hrs (Nat.mod_lt _ (by decide)), ?_, ?_, (hl.trans (Le.new hg1 _)).put hg0 _, ?_⟩
      · unfold B32 at hc ⊢; omega
      · rw [Heap.put_same]
        have : an + 1 - (k + 1) = an + 1 - k - 1 := by omega
        rw [this]
        simp
      · rw [val_snoc, hrl, val_take_succ', val_take_succ']
        exact step_add _ _ _ _ _ _ _ _ _ hval rfl (by rw [Nat.pow_succ])
    · have q2' : k < bn := by simpa using q2
      obtain ⟨ad', hB, hld'⟩ := (b.mono hl).get (i := k) q2'
      refine ⟨ad', hB, by omega, by omega, _, hld', ?_⟩
      rintro _ rfl
      rw [wu (a := ((ys.getD k 0 : Nat) : Int)) rfl (by omega), wu (n := cN + xs.getD k 0 + ys.getD k 0) (by omega) (by unfold B32 at hc; omega)]
      exact ⟨rfl, rfl⟩
    · have q2' : bn ≤ k := by simpa using q2
      exact ⟨rfl, by rw [getD_ge (xs := ys) (by omega)]; simp⟩
  · have hka : k = an := by have : an ≤ k := by simpa using q
                            omega
    subst hka
    rintro g1 h7 hg1 rfl
    have hrep := rep_cons (n := k + 1 - k) (by omega)
    rw [hrep] at hb
    refine app_own (y := cN) hg1 hb hrl (by omega) (by rw [w32 rfl, Nat.mod_eq_of_lt hc]) ?_
    have hg0 : h g = none := hg
    have hz : k + 1 - k - 1 = 0 := by omega
    have l2 : Le h ((h5.put g1 ⟨[Value.int .u32 (IntKind.u32.wrap (cN : Int))], 104, (0, 0)⟩).put g ⟨(rs ++ cN :: List.replicate (k + 1 - k - 1) 0).map lv, 104, (0, 0)⟩) := (hl.trans (Le.new hg1 _)).put hg0 _
    have hblk : ((h5.put g1 ⟨[Value.int .u32 (IntKind.u32.wrap (cN : Int))], 104, (0, 0)⟩).put g ⟨(rs ++ cN :: List.replicate (k + 1 - k - 1) 0).map lv, 104, (0, 0)⟩) g = some ⟨(rs ++ [cN]).map lv, 104, (0, 0)⟩ := by
      rw [Heap.put_same, hz]; rfl
    have u := U32.of_blk (m := k + 1) (k := k + 1) hblk (mem_snoc hrs hc) (by simp [hrl]) (Nat.le_refl _)
    rw [List.take_of_length_le (by simp [hrl])] at u
    have hv2 : val (rs ++ [cN]) = x + y := by
      rw [val_snoc, hrl, hval, List.take_of_length_le (by omega), List.take_of_length_le (by omega)]
      exact hv
    refine (trim_n ⟨_, u, hv2⟩ (by omega)).mono ?_
    rintro _ _ ⟨m2, rfl, hm2, hN, rfl⟩
    exact ⟨_, _, _, rfl, _, _, _, rfl, hN, l2⟩
end Go.Proofs.YtdpdaphholileaaGreatDoor

/-
  Contracts: natural: Mul, short, left, right.
-/
namespace Go.Proofs.YtdpdaphholileaaGreatDoor
open Go Go.Vcg

theorem mul_le_lt {a b c d : Nat} (h1 : a ≤ c) (h2 : b ≤ d) : a * b ≤ c * d := Nat.mul_le_mul h1 h2

theorem limb_bound {x y r c : Nat} (hx : x < B32) (hy : y < B32) (hr : r < B32) (hc : c < B32) : c + (x * y + r) < B32 * B32 := by
  have h1 : x * y ≤ (B32 - 1) * (B32 - 1) := mul_le_lt (by omega) (by omega)
  have h2 : (B32 - 1) * (B32 - 1) = 18446744065119617025 := by decide
  unfold B32 at *
  omega

theorem mul_step (X r p x y q rk c t Y pi : Nat) (h : r + p * c = X + pi * x * Y) (ht : c + (x * y + rk) = t) (hq : q = p * B32) (pk : Nat) (hp : p = pi * pk) :
    (r + p * (t % B32)) + q * (t / B32) = (X + p * rk) + pi * x * (Y + pk * y) := by
  have := Nat.mod_add_div t B32
  subst hq hp
  grind

theorem getD_set_ne {rs : List Nat} {i j y : Nat} (h : i ≠ j) : (rs.set i y).getD j 0 = rs.getD j 0 := by
  simp [List.getElem?_set_ne h]

theorem getD_set_eq {rs : List Nat} {i y : Nat} (h : i < rs.length) : (rs.set i y).getD i 0 = y := by
  simp [h]

theorem mem_set {rs : List Nat} {i y b : Nat} (h : ∀ x ∈ rs, x < b) (hy : y < b) : ∀ x ∈ rs.set i y, x < b := by
  intro x hx
  rcases List.mem_or_eq_of_mem_set hx with q | q
  · exact h x q
  · omega

theorem getD_lt {rs : List Nat} {b : Nat} (h : ∀ x ∈ rs, x < b) (hb : 0 < b) (i : Nat) : rs.getD i 0 < b := by
  rcases Nat.lt_or_ge i rs.length with q | q
  · simp [q]; exact h _ (List.getElem_mem _)
  · simp [q]; exact hb

theorem getD_drop {rs rs' : List Nat} {k j : Nat} (h : rs.drop k = rs'.drop k) (hj : k ≤ j) : rs.getD j 0 = rs'.getD j 0 := by
  have : rs[j]? = rs'[j]? := by
    have := congrArg (fun l => l[j - k]?) h
    simp only [List.getElem?_drop] at this
    rwa [show k + (j - k) = j from by omega] at this
  simp [List.getD_eq_getElem?_getD, this]

theorem drop_set {rs : List Nat} {i y k : Nat} (h : i < k) : (rs.set i y).drop k = rs.drop k := List.drop_set_of_lt h

theorem mul_c {h : Heap} {A B : Option Addr} {n c m d x y : Nat} (ux : IsN h A n c x) (uy : IsN h B m d y) (hn : n ≤ 1099511627776) (hm : m ≤ 1099511627776) :
    CallsU Tryz.prog 61 [.slice A n c, .slice B m d] h fun r h' => ∃ A' k c', r = .slice A' k c' ∧ NmN h' A' k c' (x * y) ∧ Le h h' := by
  apply natural_Mul_ok
  refine (trim_n ux (by omega)).mono ?_
  rintro _ _ ⟨n', rfl, hn', ⟨xs, a, hx, nx⟩, rfl⟩
  refine ⟨_, _, _, rfl, (trim_n uy (by omega)).mono ?_⟩
  rintro _ _ ⟨m', rfl, hm', ⟨ys, b, hy, ny⟩, rfl⟩
  refine ⟨_, _, _, rfl, ?_⟩
  subst hx hy
  have la := a.len
  have lb := b.len
  rintro _ rfl
  rw [wi (n := n' + m') (by omega) (by omega)]
  refine ⟨by omega, by omega, by omega, by omega, ?_⟩
  rintro g h4 hg rfl
  simp only [Int.toNat_natCast]
  refine ⟨fun m i h' => ∃ (k : Nat) (rs : List Nat), m = n' - k ∧ k ≤ n' ∧ i = (k : Int) ∧ rs.length = n' + m' ∧ (∀ x ∈ rs, x < B32) ∧ (∀ j, k + m' ≤ j → rs.getD j 0 = 0) ∧
      h' g = some ⟨rs.map lv, 104, (0, 0)⟩ ∧ Le h h' ∧ val (rs.take (k + m')) = val (xs.take k) * val ys,
    ⟨n', 0, List.replicate (n' + m') 0, rfl, by omega, rfl, by simp, fun x hx => by rw [List.mem_replicate] at hx; rw [hx.2]; decide, fun j _ => by simp [List.getElem?_replicate]; split <;> rfl,
      by rw [Heap.put_same, repV_lv], Le.new hg _, by rw [List.take_replicate, val_zeros]; simp [val]⟩, ?_⟩
  rintro _ _ h5 ⟨k, rs, rfl, hk, rfl, hrl, hrs, hz, hb, hl, hval⟩
  refine Br.mk (fun q => ?_) (fun q => ?_)
  · have q' : k < n' := by simpa using q
    obtain ⟨ad, hA, hld⟩ := (a.mono hl).get (i := k) q'
    refine ⟨ad, hA, by omega, by omega, _, hld, ?_⟩
    have hxk := a.getD_lt k
    -- the inner loop
    refine ⟨fun m2 carry i2 h' => ∃ (j cN : Nat) (ss : List Nat), m2 = m' - j ∧ j ≤ m' ∧ i2 = (j : Int) ∧ carry = (cN : Int) ∧ cN < B32 ∧ ss.length = n' + m' ∧ (∀ x ∈ ss, x < B32) ∧ ss.drop (k + j) = rs.drop (k + j) ∧
        h' g = some ⟨ss.map lv, 104, (0, 0)⟩ ∧ Le h h' ∧ val (ss.take (k + j)) + B32 ^ (k + j) * cN = val (rs.take (k + j)) + B32 ^ k * xs.getD k 0 * val (ys.take j),
      ⟨m', 0, 0, rs, rfl, by omega, rfl, rfl, by decide, hrl, hrs, rfl, hb, hl, by simp [val]⟩, ?_⟩
    rintro _ _ _ h6 ⟨j, cN, ss, rfl, hj, rfl, rfl, hc, hsl, hss, hdrop, hb6, hl6, hv6⟩
    refine Br.mk (fun q2 => ?_) (fun q2 => ?_)
    · have q2' : j < m' := by simpa using q2
      obtain ⟨ad', hB, hld'⟩ := (b.mono hl6).get (i := j) q2'
      refine ⟨ad', hB, by omega, by omega, _, hld', ?_⟩
      have hyj := b.getD_lt j
      have hsk : ss.getD (k + j) 0 < B32 := getD_lt hss (by decide) _
      have hbd := limb_bound (x := xs.getD k 0) (y := ys.getD j 0) hxk hyj hsk hc
      have hbd2 : B32 * B32 = 18446744073709551616 := by decide
      rintro _ rfl _ rfl
      rw [wu (a := ((xs.getD k 0 : Nat) : Int)) rfl (by omega), wu (a := ((ys.getD j 0 : Nat) : Int)) rfl (by omega), wu (n := xs.getD k 0 * ys.getD j 0) (by rw [Int.natCast_mul]) (by omega), wi (n := k + j) (by omega) (by omega)]
      simp only [Int.toNat_natCast]
      refine ⟨_, rfl, by omega, by omega, _, ld_own hb6 (by omega), ?_⟩
      rintro _ rfl _ rfl _ rfl
      rw [wu (a := ((ss.getD (k + j) 0 : Nat) : Int)) rfl (by unfold B32 at hsk; omega), wu (a := ((xs.getD k 0 * ys.getD j 0 : Nat) : Int) + ((ss.getD (k + j) 0 : Nat) : Int)) (n := xs.getD k 0 * ys.getD j 0 + ss.getD (k + j) 0) (Int.natCast_add _ _).symm (by omega),
        wu (n := cN + (xs.getD k 0 * ys.getD j 0 + ss.getD (k + j) 0)) (Int.natCast_add _ _).symm (by omega)]
      generalize ht : cN + (xs.getD k 0 * ys.getD j 0 + ss.getD (k + j) 0) = t at hbd ⊢
      refine ⟨_, rfl, by omega, by omega, st_own (t % B32) hb6 (by omega) (by rw [w32 rfl]) ?_⟩
      rintro _ rfl _ rfl
      rw [fdivB rfl, wi (n := j + 1) (by omega) (by omega)]
      refine ⟨m' - (j + 1), by omega, j + 1, t / B32, ss.set (k + j) (t % B32), rfl, by omega, rfl, rfl, Nat.div_lt_of_lt_mul hbd, by simp [hsl], mem_set hss (Nat.mod_lt _ (by decide)), ?_, Heap.put_same _ _ _, hl6.put hg _, ?_⟩
      · rw [drop_set (by omega)]
        have := congrArg (List.drop 1) hdrop
        simpa [List.drop_drop, Nat.add_assoc] using this
      · rw [← Nat.add_assoc, val_take_succ (by simp; omega), take_set_ge (Nat.le_refl _), getD_set_eq (by omega), val_take_succ (xs := rs) (by omega), val_take_succ (xs := ys) (by omega), ← getD_drop hdrop (Nat.le_refl _)]
        exact mul_step _ _ _ _ _ _ _ _ _ _ _ hv6 ht (by rw [Nat.pow_succ]) (B32 ^ j) (by rw [Nat.pow_add])
    · have hjm : j = m' := by have : m' ≤ j := by simpa using q2
                              omega
      subst hjm
      rintro _ rfl
      rw [wi (n := k + j) (by omega) (by omega)]
      simp only [Int.toNat_natCast]
      refine ⟨_, rfl, by omega, by omega, st_own cN hb6 (by omega) (by rw [w32 rfl, Nat.mod_eq_of_lt hc]) ?_⟩
      rintro _ rfl
      rw [wi (n := k + 1) (by omega) (by omega)]
      refine ⟨n' - (k + 1), by omega, k + 1, ss.set (k + j) cN, rfl, by omega, rfl, by simp [hsl], mem_set hss hc, fun i hi => ?_, Heap.put_same _ _ _, hl6.put hg _, ?_⟩
      · rw [getD_set_ne (by omega), getD_drop hdrop (by omega)]
        exact hz i (by omega)
      · have e : k + 1 + j = k + j + 1 := by omega
        rw [e, val_take_succ (by simp; omega), take_set_ge (Nat.le_refl _), getD_set_eq (by omega), hv6, hval, val_take_succ (xs := xs) (by omega), List.take_of_length_le (l := ys) (by omega)]
        grind
  · have hka : k = n' := by have : n' ≤ k := by simpa using q
                            omega
    subst hka
    have u := U32.of_blk (m := k + m') (k := k + m') hb hrs (by omega) (Nat.le_refl _)
    have hv2 : val (rs.take (k + m')) = val xs * val ys := by rw [hval, List.take_of_length_le (by omega)]
    refine (trim_n ⟨_, u, hv2⟩ (by omega)).mono ?_
    rintro _ _ ⟨m2, rfl, hm2, hN, rfl⟩
    exact ⟨_, _, _, rfl, _, _, _, rfl, hN, hl⟩
end Go.Proofs.YtdpdaphholileaaGreatDoor

/-
  Contracts: natural: short, left, right.
-/
namespace Go.Proofs.YtdpdaphholileaaGreatDoor
open Go Go.Vcg

theorem or64 {x y : Int} {hi lo : Nat} (hx : x = ((hi * B32 : Nat) : Int)) (hy : y = (lo : Int)) (hlo : lo < B32) (hhi : hi < B32) : bitsOf .or .u64 x y = ((hi * B32 + lo : Nat) : Int) := by
  subst hx hy
  have hb : hi * B32 + lo < 18446744073709551616 := by unfold B32 at *; omega
  have e : hi * B32 ||| lo = hi * B32 + lo := by
    have := Nat.two_pow_add_eq_or_of_lt (i := 32) (b := lo) (by simpa [B32] using hlo) hi
    rw [Nat.mul_comm] at this
    exact this.symm
  show IntKind.u64.wrap ((BitVec.ofInt 64 ((hi * B32 : Nat) : Int) ||| BitVec.ofInt 64 (lo : Int)).toNat : Int) = _
  rw [BitVec.toNat_or, BitVec.ofInt_natCast, BitVec.ofInt_natCast, BitVec.toNat_ofNat, BitVec.toNat_ofNat, Nat.mod_eq_of_lt (by omega), Nat.mod_eq_of_lt (by omega), e]
  exact wu rfl hb

theorem shlB {a : Int} {n : Nat} (h : a = n) (hn : n < B32) : IntKind.u64.wrap (a * 2 ^ (32 : Nat)) = ((n * B32 : Nat) : Int) := by
  have e : ((2 : Int) ^ (32 : Nat)) = ((B32 : Nat) : Int) := by decide
  rw [h, e, ← Int.natCast_mul]
  exact wu rfl (by unfold B32 at *; omega)

theorem or64_zero {x y : Int} {hi lo : Nat} (hx : x = (lo : Int)) (hy : y = ((hi * B32 : Nat) : Int)) (hlo : lo < B32) (hhi : hi < B32) : bitsOf .or .u64 x y = ((hi * B32 + lo : Nat) : Int) := by
  subst hx hy
  have := or64 (hi := hi) (lo := lo) rfl rfl hlo hhi
  rw [← this]
  show IntKind.u64.wrap ((BitVec.ofInt 64 (lo : Int) ||| BitVec.ofInt 64 ((hi * B32 : Nat) : Int)).toNat : Int) = IntKind.u64.wrap ((BitVec.ofInt 64 ((hi * B32 : Nat) : Int) ||| BitVec.ofInt 64 (lo : Int)).toNat : Int)
  rw [BitVec.or_comm]

theorem tdivN {a b : Int} {x y : Nat} (ha : a = x) (hb : b = y) : Int.tdiv a b = ((x / y : Nat) : Int) := by subst ha hb; exact (Int.ofNat_tdiv x y).symm
theorem tmodN {a b : Int} {x y : Nat} (ha : a = x) (hb : b = y) : Int.tmod a b = ((x % y : Nat) : Int) := by subst ha hb; exact (Int.ofNat_tmod x y).symm

theorem val_drop_cons {xs : List Nat} {k : Nat} (h : k < xs.length) : val (xs.drop k) = xs.getD k 0 + B32 * val (xs.drop (k + 1)) := by
  rw [List.drop_eq_getElem_cons h]
  simp [val, h]

theorem div_step (q x d r t : Nat) (X : Nat) (h : q * d + r = X) (ht : r * B32 + x = t) : (t / d + B32 * q) * d + t % d = x + B32 * X := by
  have := Nat.div_add_mod t d
  grind

theorem short_c {h : Heap} {A : Option Addr} {n c x : Nat} (ux : IsN h A n c x) (hn : n ≤ 1099511627776) {d : Nat} (hd0 : 0 < d) (hd : d < B32) :
    CallsU Tryz.prog 148 [.slice A n c, .int .u32 d] h fun r h' => ∃ A' k c', r = .tuple #[.slice A' k c', .int .u32 ((x % d : Nat) : Int)] ∧ NmN h' A' k c' (x / d) ∧ Le h h' := by
  apply natural_short_ok
  obtain ⟨xs, a, rfl⟩ := ux
  have la := a.len
  refine ⟨by omega, by omega, by omega, by omega, ?_⟩
  rintro g h1 hg rfl _ rfl
  simp only [Int.toNat_natCast]
  rw [wrap_i64 (by omega) (by omega)]
  refine ⟨fun m r i h' => ∃ (rN : Nat) (qs : List Nat), i = (m : Int) - 1 ∧ m ≤ n ∧ r = (rN : Int) ∧ rN < d ∧ qs.length = n ∧ (∀ x ∈ qs, x < B32) ∧ h' g = some ⟨qs.map lv, 104, (0, 0)⟩ ∧ Le h h' ∧ val (qs.drop m) * d + rN = val (xs.drop m),
    ⟨n, 0, List.replicate n 0, rfl, by omega, rfl, hd0, by simp, fun x hx => by rw [List.mem_replicate] at hx; rw [hx.2]; decide, by rw [Heap.put_same, repV_lv], Le.new hg _, by rw [List.drop_of_length_le (by simp), List.drop_of_length_le (by omega)]; simp [val]⟩, ?_⟩
  rintro m _ _ h2 ⟨rN, qs, rfl, hm, rfl, hr, hql, hqs, hb, hl, hval⟩
  refine Br.mk (fun q => ?_) (fun q => ?_)
  · have q' : 1 ≤ m := by simp at q; omega
    obtain ⟨k, rfl⟩ : ∃ k, m = k + 1 := ⟨m - 1, by omega⟩
    have e1 : ((k + 1 : Nat) : Int) - 1 = (k : Int) := by omega
    rw [e1]
    simp only [Int.toNat_natCast]
    have hxk := a.getD_lt k
    have hdw : IntKind.u64.wrap (d : Int) = (d : Int) := wu rfl (by unfold B32 at hd; omega)
    rintro _ rfl
    rw [shlB rfl (by omega)]
    obtain ⟨ad, hA, hld⟩ := (a.mono hl).get (i := k) (by omega)
    refine ⟨ad, hA, by omega, by omega, _, hld, ?_⟩
    rintro _ rfl
    rw [or64 rfl (wu rfl (by omega)) hxk (by omega), hdw]
    generalize ht : rN * B32 + xs.getD k 0 = t
    have htb : t < d * B32 := by
      have : (rN + 1) * B32 ≤ d * B32 := Nat.mul_le_mul_right _ hr
      unfold B32 at *
      omega
    refine Br.mk (fun q2 => by simp at q2; omega) (fun _ => ?_)
    rintro _ rfl
    rw [tdivN rfl rfl]
    have hq : t / d < B32 := Nat.div_lt_of_lt_mul htb
    rw [wu (n := t / d) rfl (by unfold B32 at hq; omega)]
    refine ⟨_, rfl, by omega, by omega, st_own (t / d) hb (by omega) (by rw [w32 rfl, Nat.mod_eq_of_lt hq]) ?_⟩
    refine Br.mk (fun q2 => by simp at q2; omega) (fun _ => ?_)
    rintro _ rfl _ rfl
    rw [tmodN rfl rfl, wrap_i64 (by omega) (by omega)]
    refine ⟨k, by omega, t % d, qs.set k (t / d), rfl, by omega, rfl, Nat.mod_lt _ hd0, by simp [hql], mem_set hqs hq, Heap.put_same _ _ _, hl.put hg _, ?_⟩
    rw [val_drop_cons (by simp; omega), getD_set_eq (by omega), drop_set (by omega), val_drop_cons (xs := xs) (by omega)]
    exact div_step _ _ _ _ _ _ hval ht
  · have hm0 : m = 0 := by simp at q; omega
    subst hm0
    simp only [List.drop_zero] at hval
    have hq : val qs = val xs / d := by rw [← hval, Nat.mul_comm, Nat.mul_add_div hd0, Nat.div_eq_of_lt hr, Nat.add_zero]
    have hrm : rN = val xs % d := by rw [← hval, Nat.mul_comm, Nat.mul_add_mod, Nat.mod_eq_of_lt hr]
    have u := U32.of_blk (m := n) (k := n) hb hqs (by omega) (Nat.le_refl _)
    rw [List.take_of_length_le (by omega)] at u
    refine (trim_n ⟨_, u, hq⟩ (by omega)).mono ?_
    rintro _ _ ⟨m2, rfl, hm2, hN, rfl⟩
    refine ⟨_, _, _, rfl, _, _, _, ?_, hN, hl⟩
    rw [w32 rfl, Nat.mod_eq_of_lt (by omega), hrm]

/-! ### shifts -/
theorem shl_s {a : Int} {x sN : Nat} (ha : a = x) (hx : x < B32) (hs' : sN < 32) : IntKind.u64.wrap (a * 2 ^ (min sN 64 : Nat)) = ((x * 2 ^ sN : Nat) : Int) := by
  subst ha
  rw [Nat.min_eq_left (by omega)]
  have e : ((2 : Int) ^ sN) = ((2 ^ sN : Nat) : Int) := by simp
  rw [e, ← Int.natCast_mul]
  refine wu rfl ?_
  have h1 : 2 ^ sN ≤ 2 ^ 31 := Nat.pow_le_pow_right (by decide) (by omega)
  have h2 : x * 2 ^ sN ≤ (B32 - 1) * 2 ^ 31 := Nat.mul_le_mul (by omega) h1
  have h3 : (B32 - 1) * 2 ^ 31 = 9223372034707292160 := by decide
  omega

theorem or32_disj {x y : Int} {a b k : Nat} (hx : x = (a : Int)) (hy : y = ((b * 2 ^ k : Nat) : Int)) (ha : a < 2 ^ k) (hb : b * 2 ^ k < B32) (hk : a < B32) : bitsOf .or .u32 x y = ((b * 2 ^ k + a : Nat) : Int) := by
  subst hx hy
  have e : b * 2 ^ k ||| a = b * 2 ^ k + a := by
    have := Nat.two_pow_add_eq_or_of_lt (i := k) (b := a) ha b
    rw [Nat.mul_comm] at this
    exact this.symm
  have hsum : b * 2 ^ k + a < B32 := by
    rw [← e]
    exact Nat.or_lt_two_pow (n := 32) (by simpa [B32] using hb) (by simpa [B32] using hk)
  show IntKind.u32.wrap ((BitVec.ofInt 32 (a : Int) ||| BitVec.ofInt 32 ((b * 2 ^ k : Nat) : Int)).toNat : Int) = _
  unfold B32 at *
  rw [BitVec.toNat_or, BitVec.ofInt_natCast, BitVec.ofInt_natCast, BitVec.toNat_ofNat, BitVec.toNat_ofNat, Nat.mod_eq_of_lt (by omega), Nat.mod_eq_of_lt (by omega), Nat.or_comm, e]
  exact wrap_u32 (by omega) (by omega)

theorem left_step (L X p P x t q : Nat) (h : L = X * P) (ht : x * P = t) (r c2 : Nat) (hr : L = r + p * c2) (hq : q = p * B32) : (r + p * (t % B32 + c2)) + q * (t / B32) = (X + p * x) * P := by
  have := Nat.mod_add_div t B32
  subst hq
  grind

theorem getD_of_drop (ls : List Nat) (k j : Nat) : (ls.drop k).getD j 0 = ls.getD (k + j) 0 := by
  rw [List.getD_eq_getElem?_getD, List.getD_eq_getElem?_getD, List.getElem?_drop]

theorem mod_pow_mul (x sN : Nat) (h : sN ≤ 32) : (x * 2 ^ sN) % B32 = (x % 2 ^ (32 - sN)) * 2 ^ sN := by
  have e : B32 = 2 ^ (32 - sN) * 2 ^ sN := by rw [← Nat.pow_add, show 32 - sN + sN = 32 from by omega]; rfl
  rw [e, Nat.mul_mod_mul_right]

theorem div_pow_lt {x sN : Nat} (hx : x < B32) : x * 2 ^ sN / B32 < 2 ^ sN := by
  apply Nat.div_lt_of_lt_mul
  exact Nat.mul_lt_mul_of_pos_right hx (Nat.pow_pos (by decide))

theorem left_c {h : Heap} {A : Option Addr} {n c : Nat} {xs : List Nat} (a : U32 h A n c xs) (hn : n ≤ 1099511627776) {sN : Nat} (hs : sN < 32) :
    CallsU Tryz.prog 150 [.slice A n c, .int .i64 sN] h fun r h' => ∃ (g : Nat) (ls : List Nat), r = .slice (some ⟨g, 0, none⟩) (n + 1) (n + 1) ∧ h g = none ∧
      h' = h.put g ⟨ls.map lv, 104, (0, 0)⟩ ∧ ls.length = n + 1 ∧ (∀ x ∈ ls, x < B32) ∧ val ls = val xs * 2 ^ sN := by
  apply natural_left_ok
  have la := a.len
  have hp : 2 ^ sN ≤ 2147483648 := Nat.pow_le_pow_right (n := 2) (by decide) (by omega : sN ≤ 31)
  have hp0 : 0 < 2 ^ sN := Nat.pow_pos (by decide)
  rintro _ rfl
  rw [wi (n := n + 1) (by omega) (by omega)]
  refine ⟨by omega, by omega, by omega, by omega, ?_⟩
  rintro g h1 hg rfl
  simp only [Int.toNat_natCast]
  refine ⟨fun m i h' => ∃ (k : Nat) (rs : List Nat), m = n - k ∧ k ≤ n ∧ i = (k : Int) ∧ rs.length = n + 1 ∧ (∀ x ∈ rs, x < B32) ∧ (∀ j, k + 1 ≤ j → rs.getD j 0 = 0) ∧ rs.getD k 0 < 2 ^ sN ∧
      h' = h.put g ⟨rs.map lv, 104, (0, 0)⟩ ∧ val (rs.take (k + 1)) = val (xs.take k) * 2 ^ sN,
    ⟨n, 0, List.replicate (n + 1) 0, rfl, by omega, rfl, by simp, fun x hx => by rw [List.mem_replicate] at hx; rw [hx.2]; decide, fun j _ => by simp [List.getElem?_replicate]; split <;> rfl, by simp; exact hp0,
      by rw [repV_lv], by rw [List.take_replicate, val_zeros]; simp [val]⟩, ?_⟩
  rintro _ _ _ ⟨k, rs, rfl, hk, rfl, hrl, hrs, hz, hck, rfl, hval⟩
  have hb : (h.put g ⟨rs.map lv, 104, (0, 0)⟩) g = some ⟨rs.map lv, 104, (0, 0)⟩ := Heap.put_same _ _ _
  have hl : Le h (h.put g ⟨rs.map lv, 104, (0, 0)⟩) := Le.new hg _
  refine Br.mk (fun q => ?_) (fun q => ?_)
  · have q' : k < n := by simpa using q
    obtain ⟨ad, hA, hld⟩ := (a.mono hl).get (i := k) q'
    have hxk := a.getD_lt k
    refine ⟨ad, hA, by omega, by omega, _, hld, Br.mk (fun q2 => by simp at q2; omega) (fun _ => ?_)⟩
    rintro _ rfl
    rw [shl_s (x := xs.getD k 0) (wu rfl (by omega)) hxk hs]
    simp only [Int.toNat_natCast]
    refine ⟨_, rfl, by omega, by omega, _, ld_own hb (by omega), ?_⟩
    rintro _ rfl
    generalize ht : xs.getD k 0 * 2 ^ sN = t
    have hmod : t % B32 = (xs.getD k 0 % 2 ^ (32 - sN)) * 2 ^ sN := by rw [← ht]; exact mod_pow_mul _ _ (by omega)
    have hlt := Nat.mod_lt t (show 0 < B32 by decide)
    rw [or32_disj (a := rs.getD k 0) (b := xs.getD k 0 % 2 ^ (32 - sN)) (k := sN) rfl (by rw [w32 rfl, hmod]) hck (by rw [← hmod]; exact hlt) (by unfold B32; omega), ← hmod]
    have hsum : t % B32 + rs.getD k 0 < B32 := by
      rw [hmod]
      have e : B32 = 2 ^ (32 - sN) * 2 ^ sN := by rw [← Nat.pow_add, show 32 - sN + sN = 32 from by omega]; rfl
      have h1 : xs.getD k 0 % 2 ^ (32 - sN) < 2 ^ (32 - sN) := Nat.mod_lt _ (Nat.pow_pos (by decide))
      have h2 : (xs.getD k 0 % 2 ^ (32 - sN) + 1) * 2 ^ sN ≤ 2 ^ (32 - sN) * 2 ^ sN := Nat.mul_le_mul_right _ h1
      rw [← e, Nat.add_mul] at h2
      omega
    refine ⟨_, rfl, by omega, by omega, st_own (t % B32 + rs.getD k 0) hb (by omega) rfl ?_⟩
    rintro _ rfl _ rfl
    rw [wi (n := k + 1) (by omega) (by omega), fdivB rfl]
    simp only [Int.toNat_natCast]
    have hdl : t / B32 < 2 ^ sN := by rw [← ht]; exact div_pow_lt hxk
    have hdB : t / B32 < B32 := Nat.lt_of_lt_of_le hdl (Nat.le_trans hp (by decide))
    have hb2 : ((h.put g ⟨rs.map lv, 104, (0, 0)⟩).put g ⟨(rs.set k (t % B32 + rs.getD k 0)).map lv, 104, (0, 0)⟩) g = some ⟨(rs.set k (t % B32 + rs.getD k 0)).map lv, 104, (0, 0)⟩ := Heap.put_same _ _ _
    refine ⟨_, rfl, by omega, by omega, st_own (t / B32) hb2 (by simp; omega) (by rw [w32 rfl, Nat.mod_eq_of_lt hdB]) ?_⟩
    rintro _ rfl
    refine ⟨n - (k + 1), by omega, k + 1, (rs.set k (t % B32 + rs.getD k 0)).set (k + 1) (t / B32), rfl, by omega, rfl, by simp [hrl], mem_set (mem_set hrs hsum) hdB, fun j hj => ?_, ?_, ?_, ?_⟩
    · rw [getD_set_ne (by omega), getD_set_ne (by omega)]; exact hz j (by omega)
    · rw [getD_set_eq (by simp; omega)]; exact hdl
    · funext j
      simp only [Heap.put]
      split <;> rfl
    · rw [val_take_succ (by simp; omega), take_set_ge (Nat.le_refl _), getD_set_eq (by simp; omega), val_take_succ (by simp; omega), take_set_ge (Nat.le_refl _), getD_set_eq (by omega), val_take_succ (xs := xs) (by omega)]
      rw [val_take_succ (by omega)] at hval
      exact left_step _ _ _ _ _ _ _ hval ht _ _ rfl (by rw [Nat.pow_succ])
  · have hkn : k = n := by have : n ≤ k := by simpa using q
                           omega
    subst hkn
    refine ⟨g, rs, rfl, hg, rfl, hrl, hrs, ?_⟩
    rw [List.take_of_length_le (by omega), List.take_of_length_le (by omega)] at hval
    exact hval
end Go.Proofs.YtdpdaphholileaaGreatDoor

/-
  Contracts: natural: right; math/bits: Len32, LeadingZeros32.
-/
namespace Go.Proofs.YtdpdaphholileaaGreatDoor
open Go Go.Vcg

theorem shr_s {a : Int} {x sN : Nat} (ha : a = x) (hs' : sN < 64) : Int.fdiv a (2 ^ (min sN 64 : Nat)) = ((x / 2 ^ sN : Nat) : Int) := by
  subst ha
  rw [Nat.min_eq_left (by omega)]
  have e : ((2 : Int) ^ sN) = ((2 ^ sN : Nat) : Int) := by simp
  rw [e, Int.fdiv_eq_ediv_of_nonneg _ (Int.natCast_nonneg _)]
  rfl

/-- The limbs of a number shifted right. -/
theorem right_limb (x y D s : Nat) (hx : x < B32) (hs : s ≤ 32) : (x + B32 * (y + B32 * D)) / 2 ^ s = ((x + B32 * y) / 2 ^ s) % B32 + B32 * ((y + B32 * D) / 2 ^ s) := by
  have hp : 0 < 2 ^ s := Nat.pow_pos (by decide)
  have e : B32 = 2 ^ (32 - s) * 2 ^ s := by rw [← Nat.pow_add, show 32 - s + s = 32 from by omega]; rfl
  have h1 : (x + B32 * (y + B32 * D)) / 2 ^ s / B32 = (y + B32 * D) / 2 ^ s := by
    rw [Nat.div_div_eq_div_mul, Nat.mul_comm (2 ^ s) B32, ← Nat.div_div_eq_div_mul, Nat.add_mul_div_left x (y + B32 * D) (show 0 < B32 by decide), Nat.div_eq_of_lt hx, Nat.zero_add]
  have h2 : (x + B32 * (y + B32 * D)) / 2 ^ s % B32 = ((x + B32 * y) / 2 ^ s) % B32 := by
    have : x + B32 * (y + B32 * D) = (x + B32 * y) + 2 ^ s * (B32 * (2 ^ (32 - s) * D)) := by
      have : B32 * (B32 * D) = 2 ^ s * (B32 * (2 ^ (32 - s) * D)) := by
        conv => lhs; rw [e]
        conv => rhs; rw [e]
        grind
      rw [Nat.mul_add, this]; omega
    rw [this, Nat.add_mul_div_left _ _ hp, Nat.add_mul_mod_self_left]
  have := Nat.mod_add_div ((x + B32 * (y + B32 * D)) / 2 ^ s) B32
  rw [h1, h2] at this
  omega

theorem right_step (r p l T T0 q : Nat) (h : r + p * (l + B32 * T) = T0) (hq : q = p * B32) : (r + p * l) + q * T = T0 := by subst hq; grind

theorem right_c {h : Heap} {A : Option Addr} {n c x : Nat} (ux : IsN h A n c x) (hn : n ≤ 1099511627776) {sN : Nat} (hs : sN < 32) :
    CallsU Tryz.prog 152 [.slice A n c, .int .i64 sN] h fun r h' => ∃ A' k c', r = .slice A' k c' ∧ NmN h' A' k c' (x / 2 ^ sN) ∧ Le h h' := by
  apply natural_right_ok
  obtain ⟨xs, a, rfl⟩ := ux
  have la := a.len
  refine ⟨by omega, by omega, by omega, by omega, ?_⟩
  rintro g h1 hg rfl
  simp only [Int.toNat_natCast]
  refine ⟨fun m i h' => ∃ (k : Nat) (rs : List Nat), m = n - k ∧ k ≤ n ∧ i = (k : Int) ∧ rs.length = n ∧ (∀ x ∈ rs, x < B32) ∧ h' g = some ⟨rs.map lv, 104, (0, 0)⟩ ∧ Le h h' ∧
      val (rs.take k) + B32 ^ k * (val (xs.drop k) / 2 ^ sN) = val xs / 2 ^ sN,
    ⟨n, 0, List.replicate n 0, rfl, by omega, rfl, by simp, fun x hx => by rw [List.mem_replicate] at hx; rw [hx.2]; decide, by rw [Heap.put_same, repV_lv], Le.new hg _, by simp [val]⟩, ?_⟩
  rintro _ _ h2 ⟨k, rs, rfl, hk, rfl, hrl, hrs, hb, hl, hval⟩
  refine Br.mk (fun q => ?_) (fun q => ?_)
  · have q' : k < n := by simpa using q
    obtain ⟨ad, hA, hld⟩ := (a.mono hl).get (i := k) q'
    have hxk := a.getD_lt k
    have hxk1 := a.getD_lt (k + 1)
    refine ⟨ad, hA, by omega, by omega, _, hld, ?_⟩
    rintro _ rfl
    rw [wi (n := k + 1) (by omega) (by omega)]
    -- what both ways end in
    have fin : ∀ t : Nat, t = (xs.getD k 0 + B32 * xs.getD (k + 1) 0) / 2 ^ sN → (∃ ad_2 : Addr, some (⟨g, 0, none⟩ : Addr) = some ad_2 ∧ 0 ≤ (k : Int) ∧ (k : Int) < (n : Int) ∧
        ∃ b : Blk, h2 (Addr.block (Addr.add ad_2 (k * 1))) = some b ∧ b.fz = (0, 0) ∧ Addr.spot (Addr.add ad_2 (k * 1)) = none ∧ Addr.off (Addr.add ad_2 (k * 1)) + 1 ≤ b.cells.length ∧
        ∀ h_3 : Heap, h_3 = Heap.put h2 (Addr.block (Addr.add ad_2 (k * 1))) { b with cells := setSeg b.cells (Addr.off (Addr.add ad_2 (k * 1))) [Value.int .u32 (IntKind.u32.wrap (t : Int))] } →
        ∀ t42 : Int, t42 = ((k + 1 : Nat) : Int) → ∃ m_1, m_1 < n - k ∧ ∃ (k : Nat) (rs : List Nat), m_1 = n - k ∧ k ≤ n ∧ t42 = (k : Int) ∧ rs.length = n ∧ (∀ x ∈ rs, x < B32) ∧ h_3 g = some ⟨rs.map lv, 104, (0, 0)⟩ ∧ Le h h_3 ∧
          val (rs.take k) + B32 ^ k * (val (xs.drop k) / 2 ^ sN) = val xs / 2 ^ sN) := by
      intro t ht
      refine ⟨_, rfl, by omega, by omega, st_own (t % B32) hb (by omega) (by rw [w32 rfl]) ?_⟩
      rintro _ rfl
      refine ⟨n - (k + 1), by omega, k + 1, rs.set k (t % B32), rfl, by omega, rfl, by simp [hrl], mem_set hrs (Nat.mod_lt _ (by decide)), Heap.put_same _ _ _, hl.put hg _, ?_⟩
      rw [val_take_succ (by simp; omega), take_set_ge (Nat.le_refl _), getD_set_eq (by omega)]
      rw [val_drop_cons (xs := xs) (by omega)] at hval
      have hlimb : (xs.getD k 0 + B32 * val (xs.drop (k + 1))) / 2 ^ sN = t % B32 + B32 * (val (xs.drop (k + 1)) / 2 ^ sN) := by
        rcases Nat.lt_or_ge (k + 1) n with hk1 | hk1
        · rw [val_drop_cons (xs := xs) (k := k + 1) (by omega), ht]
          exact right_limb _ _ _ _ hxk (by omega)
        · have h0 : xs.drop (k + 1) = [] := List.drop_of_length_le (by omega)
          have hg0 : xs.getD (k + 1) 0 = 0 := getD_ge (by omega)
          have := right_limb (xs.getD k 0) 0 0 sN hxk (by omega)
          rw [h0, ht, hg0]
          simpa [val] using this
      rw [hlimb] at hval
      exact right_step _ _ _ _ _ _ hval (by rw [Nat.pow_succ])
    refine Br.mk (fun q2 => ?_) (fun q2 => ?_)
    · have q2' : k + 1 < n := by simp at q2; omega
      rintro _ rfl
      simp only [Int.toNat_natCast]
      obtain ⟨ad', hA', hld'⟩ := (a.mono hl).get (i := k + 1) q2'
      refine ⟨ad', hA', by omega, by omega, _, hld', ?_⟩
      rintro _ rfl _ rfl
      rw [shlB (n := xs.getD (k + 1) 0) (wu rfl (by omega)) hxk1, or64_zero (hi := xs.getD (k + 1) 0) (lo := xs.getD k 0) (wu rfl (by omega)) rfl hxk hxk1]
      refine Br.mk (fun q3 => by simp at q3; omega) (fun _ => ?_)
      rintro _ rfl
      rw [shr_s rfl (by omega)]
      exact fin _ (by rw [Nat.mul_comm B32, Nat.add_comm])
    · have q2' : n ≤ k + 1 := by simp at q2; omega
      refine Br.mk (fun q3 => by simp at q3; omega) (fun _ => ?_)
      rintro _ rfl
      rw [wu (n := xs.getD k 0) rfl (by omega), shr_s rfl (by omega)]
      simp only [Int.toNat_natCast]
      exact fin _ (by rw [getD_ge (k := k + 1) (by omega)]; simp)
  · have hkn : k = n := by have : n ≤ k := by simpa using q
                           omega
    subst hkn
    have u := U32.of_blk (m := k) (k := k) hb hrs (by omega) (Nat.le_refl _)
    rw [List.drop_of_length_le (by omega)] at hval
    have hv2 : val (rs.take k) = val xs / 2 ^ sN := by simpa [val] using hval
    refine (trim_n ⟨_, u, hv2⟩ (by omega)).mono ?_
    rintro _ _ ⟨m2, rfl, hm2, hN, rfl⟩
    exact ⟨_, _, _, rfl, _, _, _, rfl, hN, hl⟩

/-! ### leading zeros -/
end Go.Proofs.YtdpdaphholileaaGreatDoor

/-
  Contracts: natural: digit (Knuth's division step).
-/
namespace Go.Proofs.YtdpdaphholileaaGreatDoor
open Go Go.Vcg
attribute [local irreducible] Br

/-! ### a window of a block -/
abbrev blkW (p w s : List Nat) : Blk := ⟨(p ++ w ++ s).map lv, 104, (0, 0)⟩

theorem Heap.put_id {h : Heap} {g : Nat} {b : Blk} (hb : h g = some b) : h = h.put g b := by
  funext k
  unfold Heap.put
  split
  · rename_i e; rw [e, hb]
  · rfl

theorem Heap.put_put (h : Heap) (g : Nat) (b b' : Blk) : (h.put g b).put g b' = h.put g b' := by
  funext k
  unfold Heap.put
  split <;> rfl

theorem U32.put_ne {h : Heap} {A : Option Addr} {n c g : Nat} {xs : List Nat} (u : U32 h A n c xs) (hd : ∀ ad, A = some ad → ad.block ≠ g) (b : Blk) : U32 (h.put g b) A n c xs :=
  ⟨u.len, u.cap, u.lt, fun hn => let ⟨ad, b', e, sp, hb, hc⟩ := u.mem hn; ⟨ad, b', e, sp, (Heap.put_ne _ _ (hd _ e)).trans hb, hc⟩⟩

theorem win_get {p w s : List Nat} {k : Nat} (hk : k < w.length) : ((p ++ w ++ s).map lv)[p.length + k]? = some (lv (w.getD k 0)) := by
  rw [List.append_assoc, List.map_append, List.getElem?_append_right (by simp), List.map_append, List.getElem?_append_left (by simp; omega)]
  simp [hk]

theorem win_set {p w s : List Nat} {k y : Nat} (hk : k < w.length) : (p ++ w ++ s).set (p.length + k) y = p ++ w.set k y ++ s := by
  rw [List.append_assoc, List.set_append_right _ _ (by omega), Nat.add_sub_cancel_left, List.set_append_left _ _ hk, List.append_assoc]

theorem ld_win {h : Heap} {g k : Nat} {p w s : List Nat} (hb : h g = some (blkW p w s)) (hk : k < w.length) : LdN h (Addr.add ⟨g, p.length, none⟩ (k * 1)) [lv (w.getD k 0)] := by
  rw [Nat.mul_one]
  exact ld_of (ad := ⟨g, p.length, none⟩) rfl hb (win_get hk)

theorem st_win {h : Heap} {g k : Nat} {p w s : List Nat} {v : Value} (y : Nat) {K : Heap → Prop} (hb : h g = some (blkW p w s)) (hk : k < w.length) (hv : v = lv y)
    (hK : K (h.put g (blkW p (w.set k y) s))) :
    ∃ b : Blk, h (Addr.block (Addr.add ⟨g, p.length, none⟩ (k * 1))) = some b ∧ b.fz = (0, 0) ∧ Addr.spot (Addr.add ⟨g, p.length, none⟩ (k * 1)) = none ∧ Addr.off (Addr.add ⟨g, p.length, none⟩ (k * 1)) + 1 ≤ b.cells.length ∧
      ∀ h' : Heap, h' = Heap.put h (Addr.block (Addr.add ⟨g, p.length, none⟩ (k * 1))) { b with cells := setSeg b.cells (Addr.off (Addr.add ⟨g, p.length, none⟩ (k * 1))) [v] } → K h' := by
  rw [Nat.mul_one, addr_block, addr_off, addr_spot _ _ rfl]
  refine ⟨_, hb, rfl, rfl, by simp; omega, ?_⟩
  rintro h' rfl
  subst hv
  show K (h.put g ⟨setSeg ((p ++ w ++ s).map lv) (p.length + k) [lv y], _, _⟩)
  rw [setSeg_one _ _ y (by simp; omega), win_set hk]
  exact hK

/-! ### the arithmetic of one digit -/
section
variable {P U' V' top u2 v1 v2 B q r U V : Nat}

theorem kn_init (hU' : U' < P) (hu2 : u2 < B) (hq : top + 1 ≤ (q + 1) * v1) : (top * B + u2) * P + U' < (q + 1) * ((v1 * B + v2) * P + V') := by
  have h1 : (top * B + u2) * P + U' < (top * B + u2 + 1) * P := by rw [Nat.add_mul _ 1]; omega
  have h2 : (top * B + u2 + 1) * P ≤ ((top + 1) * B) * P := Nat.mul_le_mul_right _ (by rw [Nat.add_mul]; omega)
  have h3 : ((top + 1) * B) * P ≤ (((q + 1) * v1) * B) * P := Nat.mul_le_mul_right _ (Nat.mul_le_mul_right _ hq)
  have h4 : (((q + 1) * v1) * B) * P ≤ (q + 1) * ((v1 * B + v2) * P + V') := by
    have : (((q + 1) * v1) * B) * P = (q + 1) * ((v1 * B) * P) := by grind
    rw [this]
    exact Nat.mul_le_mul_left _ (by rw [Nat.add_mul]; omega)
  omega

theorem kn_step (hU' : U' < P) (hqr : q * v1 + r = top) (hs : r * B + u2 < q * v2) : (top * B + u2) * P + U' < q * ((v1 * B + v2) * P + V') := by
  have h1 : (top * B + u2) * P + U' < (top * B + u2 + 1) * P := by rw [Nat.add_mul _ 1]; omega
  have h2 : (top * B + u2 + 1) * P ≤ (q * (v1 * B + v2)) * P := by
    apply Nat.mul_le_mul_right
    subst hqr
    have : q * (v1 * B + v2) = q * v1 * B + q * v2 := by grind
    rw [this, Nat.add_mul]
    omega
  have h3 : (q * (v1 * B + v2)) * P ≤ q * ((v1 * B + v2) * P + V') := by
    rw [Nat.mul_assoc]
    exact Nat.mul_le_mul_left _ (by omega)
  omega

theorem kn_q (hv2 : v2 < B) (hV' : V' < P) (hU : (top * B + u2) * P + U' < B * ((v1 * B + v2) * P + V')) (hqr : q * v1 + r = top) (hr : B ≤ r) : q < B := by
  rcases Nat.lt_or_ge q B with h | h
  · exact h
  · exfalso
    have h1 : B * v1 + B ≤ top := by have := Nat.mul_le_mul_right v1 h; omega
    have h2 : (v1 * B + v2) * P + V' ≤ ((v1 + 1) * B) * P := by
      have : (v1 * B + v2 + 1) * P ≤ ((v1 + 1) * B) * P := Nat.mul_le_mul_right _ (by rw [Nat.add_mul]; omega)
      rw [Nat.add_mul _ 1] at this
      omega
    have h3 : B * (((v1 + 1) * B) * P) ≤ (top * B) * P := by
      have e : B * (((v1 + 1) * B) * P) = ((B * v1 + B) * B) * P := by grind
      rw [e]
      exact Nat.mul_le_mul_right _ (Nat.mul_le_mul_right _ h1)
    have h4 := Nat.mul_le_mul_left B h2
    rw [Nat.add_mul] at hU
    omega

theorem kn_end1 (hv2 : v2 < B) (hV' : V' < P) (hqr : q * v1 + r = top) (hr : B ≤ r) (hq : q < B) : q * ((v1 * B + v2) * P + V') ≤ (top * B + u2) * P + U' := by
  have h2 : (v1 * B + v2) * P + V' ≤ ((v1 + 1) * B) * P := by
    have : (v1 * B + v2 + 1) * P ≤ ((v1 + 1) * B) * P := Nat.mul_le_mul_right _ (by rw [Nat.add_mul]; omega)
    rw [Nat.add_mul _ 1] at this
    omega
  have h3 : q * (((v1 + 1) * B) * P) ≤ (top * B) * P := by
    have e : q * (((v1 + 1) * B) * P) = ((q * v1 + q) * B) * P := by grind
    rw [e]
    exact Nat.mul_le_mul_right _ (Nat.mul_le_mul_right _ (by omega))
  have h4 := Nat.mul_le_mul_left q h2
  have h5 : (top * B + u2) * P = top * B * P + u2 * P := Nat.add_mul _ _ _
  omega

theorem kn_end2 (hV' : V' < P) (hqr : q * v1 + r = top) (hs : q * v2 ≤ r * B + u2) (hq : q < B) (hv1 : 1 ≤ v1) : q * ((v1 * B + v2) * P + V') < (top * B + u2) * P + U' + ((v1 * B + v2) * P + V') := by
  have e : q * ((v1 * B + v2) * P + V') = (q * v1 * B + q * v2) * P + q * V' := by grind
  have h1 : (q * v1 * B + q * v2) * P ≤ (top * B + u2) * P := by
    apply Nat.mul_le_mul_right
    subst hqr
    rw [Nat.add_mul]
    omega
  have h2 : q * V' < B * P := by
    rcases Nat.eq_zero_or_pos q with h0 | h0
    · subst h0; rw [Nat.zero_mul]; exact Nat.mul_pos (by omega) (by omega)
    · exact Nat.mul_lt_mul'' hq hV'
  have h3 : B * P ≤ (v1 * B + v2) * P := by
    apply Nat.mul_le_mul_right
    have := Nat.mul_le_mul_right B hv1
    omega
  omega

theorem dig_fin0 {W : Nat} (h : W + q * V = U) (hU : U < (q + 1) * V) : U / V = q ∧ U % V = W := by
  rw [Nat.add_mul] at hU
  have hW : W < V := by omega
  subst h
  refine ⟨?_, ?_⟩
  · rw [Nat.add_mul_div_right _ _ (by omega), Nat.div_eq_of_lt hW, Nat.zero_add]
  · rw [Nat.add_mul_mod_self_right, Nat.mod_eq_of_lt hW]

theorem dig_fin1 {W W2 M x : Nat} (h : W + q * V = U + M) (hW : W < M) (h2 : W2 + M * x = W + V) (hW2 : W2 < M) (hqV : q * V < U + V) (hV : V ≤ M) : 1 ≤ q ∧ U / V = q - 1 ∧ U % V = W2 := by
  rcases q with _ | p
  · omega
  · rw [Nat.add_mul] at h hqV
    have hx : x = 1 := by
      rcases x with _ | _ | x
      · omega
      · rfl
      · rw [show M * (x + 1 + 1) = M * x + M + M from by grind] at h2
        omega
    subst hx
    have e : W2 + p * V = U := by omega
    have := dig_fin0 e (by rw [Nat.add_mul]; omega)
    exact ⟨by omega, by simpa using this.1, this.2⟩

theorem sub_step {w y q c b t w' c' b' X Y Z p : Nat} (ht : c + q * y = t) (hw : t % B32 + b + w' = w + B32 * b') (hc : c' = t / B32) (hI : X + q * Y = Z + p * (c + b)) :
    (X + p * w') + q * (Y + p * y) = (Z + p * w) + (p * B32) * (c' + b') := by
  have := Nat.mod_add_div t B32
  subst hc
  grind

theorem add_step {u y c t X Y Z p : Nat} (ht : c + (u + y) = t) (hI : X + p * c = Y + Z) : (X + p * (t % B32)) + (p * B32) * (t / B32) = (Y + p * u) + (Z + p * y) := by
  have := Nat.mod_add_div t B32
  grind

theorem sub_last {u c b x b' X V Z M : Nat} (hw : c + b + x = u + B32 * b') (hI : X + q * V = Z + M * (c + b)) : (X + M * x) + q * V = (Z + M * u) + (M * B32) * b' := by
  grind

theorem add_last {u c t X V Z M : Nat} (ht : u + c = t) (hI : X + M * c = Z + V) : (X + M * (t % B32)) + (M * B32) * (t / B32) = (Z + M * u) + V := by
  have := Nat.mod_add_div t B32
  grind
end

/-- One subtraction of limbs with borrow. -/
theorem borrow_step {a l b : Nat} (ha : a < B32) (hl : l < B32) (hb : b ≤ 1) :
    ∃ w' b', IntKind.u32.wrap (IntKind.u64.wrap (IntKind.u64.wrap ((a : Int) - (l : Int)) - (b : Int))) = ((w' : Nat) : Int) ∧ w' < B32 ∧ b' ≤ 1 ∧ Int.fdiv (IntKind.u64.wrap (IntKind.u64.wrap ((a : Int) - (l : Int)) - (b : Int))) (2 ^ (63 : Nat)) = ((b' : Nat) : Int) ∧ l + b + w' = a + B32 * b' := by
  have e : ((2 : Int) ^ (63 : Nat)) = 9223372036854775808 := by decide
  rw [e, wrap_u32_mod, Int.fdiv_eq_ediv_of_nonneg _ (by decide)]
  simp only [wrap_u64_mod]
  unfold B32 at *
  rcases Nat.lt_or_ge a (l + b) with h | h
  · refine ⟨a + 4294967296 - (l + b), 1, by omega, by omega, by omega, by omega, by omega⟩
  · refine ⟨a - (l + b), 0, by omega, by omega, by omega, by omega, by omega⟩

theorem getD_ltB {l : List Nat} (h : ∀ x ∈ l, x < B32) (i : Nat) : l.getD i 0 < B32 := by
  rcases Nat.lt_or_ge i l.length with hl | hg
  · simp [hl]; exact h _ (List.getElem_mem _)
  · simp [hg]; decide

theorem drop_two {l : List Nat} {m : Nat} (h : l.length = m + 2) : val l = (l.getD (m + 1) 0 * B32 + l.getD m 0) * B32 ^ m + val (l.take m) := by
  rw [val_split (xs := l) (k := m) (by omega), val_drop_cons (by omega), val_drop_cons (by omega), List.drop_of_length_le (by omega)]
  simp only [val]
  grind

theorem drop_three {l : List Nat} {m : Nat} (h : l.length = m + 3) : val l = ((l.getD (m + 2) 0 * B32 + l.getD (m + 1) 0) * B32 + l.getD m 0) * B32 ^ m + val (l.take m) := by
  rw [val_split (xs := l) (k := m) (by omega), val_drop_cons (by omega), val_drop_cons (by omega), val_drop_cons (by omega), List.drop_of_length_le (by omega)]
  simp only [val]
  grind

theorem val_take_lt {l : List Nat} (h : ∀ x ∈ l, x < B32) {m : Nat} (hm : m ≤ l.length) : val (l.take m) < B32 ^ m := by
  have := val_lt (l := l.take m) fun x hx => h x (List.mem_of_mem_take hx)
  rwa [List.length_take, Nat.min_eq_left hm] at this

theorem getD_of_drop_eq {a b : List Nat} {k : Nat} (h : a.drop k = b.drop k) : a.getD k 0 = b.getD k 0 := by
  have := congrArg (fun l : List Nat => l.getD 0 0) h
  simpa [getD_of_drop] using this

theorem drop_succ_of {a b : List Nat} {k : Nat} (h : a.drop k = b.drop k) : a.drop (k + 1) = b.drop (k + 1) := by
  have := congrArg (fun l : List Nat => l.drop 1) h
  simpa using this

theorem digit_c {h : Heap} {gu : Nat} {p w s vs : List Nat} {n c cv : Nat} {vA : Option Addr} (hb : h gu = some (blkW p w s)) (hw : ∀ x ∈ w, x < B32) (hwl : w.length = n + 1)
    (uv : U32 h vA n cv vs) (hd : ∀ ad, vA = some ad → ad.block ≠ gu) (hn : 2 ≤ n) (hn' : n ≤ 1099511627776) (hv1 : 1 ≤ vs.getD (n - 1) 0) (hU : val w < B32 * val vs) :
    CallsU Tryz.prog 151 [.slice (some ⟨gu, p.length, none⟩) (n + 1) c, .slice vA n cv] h fun r h' => r = .int .u32 ((val w / val vs : Nat) : Int) ∧ val w / val vs < B32 ∧
      ∃ w', w'.length = n + 1 ∧ (∀ x ∈ w', x < B32) ∧ h' = h.put gu (blkW p w' s) ∧ val w' = val w % val vs := by
  apply natural_digit_ok
  obtain ⟨m, rfl⟩ : ∃ m, n = m + 2 := ⟨n - 2, by omega⟩
  have lv' := uv.len
  have hvs : ∀ x ∈ vs, x < B32 := uv.lt
  obtain ⟨ad, hA, hld1⟩ := uv.get (i := m + 1) (by omega)
  have hB : B32 = 4294967296 := rfl
  have eV := drop_two (l := vs) (m := m) lv'
  have eU := drop_three (l := w) (m := m) hwl
  have hV' := val_take_lt hvs (m := m) (by omega)
  have hU' := val_take_lt hw (m := m) (by omega)
  have g0 := getD_ltB hw (m + 2)
  have g1 := getD_ltB hw (m + 1)
  have g2 := getD_ltB hw m
  have k1 := getD_ltB hvs (m + 1)
  have k2 := getD_ltB hvs m
  rw [show m + 2 - 1 = m + 1 from by omega] at hv1
  generalize hu0 : w.getD (m + 2) 0 = u0 at *
  generalize hu1 : w.getD (m + 1) 0 = u1 at *
  generalize hu2 : w.getD m 0 = u2 at *
  generalize hv1' : vs.getD (m + 1) 0 = v1 at *
  generalize hv2' : vs.getD m 0 = v2 at *
  generalize hV'' : val (vs.take m) = V' at *
  generalize hU'' : val (w.take m) = U' at *
  unfold natural_digit_vc
  simp only [Int.toNat_natCast]
  have ld0 := ld_win hb (k := m + 2) (by omega)
  have ld1 := ld_win hb (k := m + 1) (by omega)
  have ld2 := ld_win hb (k := m) (by omega)
  rw [hu0] at ld0
  rw [hu1] at ld1
  rw [hu2] at ld2
  refine ⟨_, rfl, by omega, by omega, _, ld0, ?_⟩
  rintro _ rfl _ rfl
  rw [wi (n := m + 1) (by omega) (by omega)]
  simp only [Int.toNat_natCast]
  refine ⟨_, rfl, by omega, by omega, _, ld1, ?_⟩
  rintro _ rfl _ rfl
  rw [shlB (n := u0) (wu rfl (by omega)) g0, or64 (hi := u0) (lo := u1) rfl (wu rfl (by omega)) g1 g0]
  simp only [Int.toNat_natCast]
  generalize htop : u0 * B32 + u1 = top at *
  have htop64 : top < 18446744073709551616 := by rw [← htop, hB]; omega
  refine ⟨ad, hA, by omega, by omega, _, hld1, ?_⟩
  rw [wu (n := v1) rfl (by omega)]
  refine Br.mk (fun q => by simp at q; omega) (fun _ => ?_)
  rintro _ rfl
  refine Br.mk (fun q => by simp at q; omega) (fun _ => ?_)
  rintro _ rfl
  have hq0 : top / v1 ≤ top := Nat.div_le_self _ _
  rw [tdivN rfl rfl, tmodN rfl rfl, wu (n := top / v1) rfl (by omega)]
  have hU2 := hU
  rw [eU, eV] at hU2
  refine ⟨fun q h1 => ∃ qN : Nat, q = (qN : Int) ∧ h = h1 ∧ qN < B32 ∧ val w < (qN + 1) * val vs ∧ qN * val vs < val w + val vs, ?_,
    fun mm q r h1 => ∃ rN : Nat, q = (mm : Int) ∧ r = (rN : Int) ∧ h = h1 ∧ mm * v1 + rN = top ∧ rN < 2 * B32 ∧ mm ≤ top ∧ val w < (mm + 1) * val vs, ⟨top / v1, top % v1, rfl, rfl, rfl, by rw [Nat.mul_comm]; exact Nat.div_add_mod _ _, ?_, hq0, ?_⟩, ?_⟩
  · -- after the trial digit
    rintro _ _ ⟨q, rfl, rfl, hq, hq1, hq2⟩
    refine ⟨fun mm c b i h' => ∃ (k cN bN : Nat) (w' : List Nat), mm = m + 2 - k ∧ k ≤ m + 2 ∧ i = (k : Int) ∧ c = (cN : Int) ∧ b = (bN : Int) ∧ cN < B32 ∧ bN ≤ 1 ∧ w'.length = m + 3 ∧ (∀ x ∈ w', x < B32) ∧ h' = h.put gu (blkW p w' s) ∧
        w'.drop k = w.drop k ∧ val (w'.take k) + q * val (vs.take k) = val (w.take k) + B32 ^ k * (cN + bN),
      ⟨m + 2, 0, 0, 0, w, rfl, by omega, rfl, rfl, rfl, by decide, by omega, hwl, hw, Heap.put_id hb, rfl, by simp [val]⟩, ?_⟩
    rintro _ _ _ _ _ ⟨k, cN, bN, w', rfl, hk, rfl, rfl, rfl, hcN, hbN, hw'l, hw', rfl, hdrop, hval⟩
    have hb' : (h.put gu (blkW p w' s)) gu = some (blkW p w' s) := Heap.put_same _ _ _
    refine Br.mk (fun z => ?_) (fun z => ?_)
    · have z' : k < m + 2 := by simp at z; omega
      obtain ⟨ad', hA', hld'⟩ := (U32.put_ne uv hd (blkW p w' s)).get (i := k) z'
      simp only [Int.toNat_natCast]
      refine ⟨ad', hA', by omega, by omega, _, hld', ?_⟩
      have hy := getD_ltB hvs k
      have hww := getD_ltB hw' k
      have hwe := getD_of_drop_eq hdrop
      have hvt := val_take_succ (xs := vs) (k := k) (by omega)
      generalize vs.getD k 0 = y at *
      rintro _ rfl _ rfl
      have hqy : q * y ≤ 4294967295 * 4294967295 := Nat.mul_le_mul (by omega) (by omega)
      rw [wu (n := y) rfl (by omega), wu (n := q * y) (Int.natCast_mul q y).symm (by omega), wu (n := cN + q * y) (Int.natCast_add _ _).symm (by omega), w32 rfl]
      generalize ht : cN + q * y = t at *
      have htl := Nat.mod_lt t (show 0 < B32 by decide)
      have htd : t / B32 < B32 := by apply Nat.div_lt_of_lt_mul; rw [hB]; omega
      refine ⟨_, rfl, by omega, by omega, _, ld_win hb' (by omega), ?_⟩
      rw [wu (n := w'.getD k 0) rfl (by omega), wu (n := t % B32) rfl (by omega)]
      rintro _ rfl _ rfl
      obtain ⟨x, b', e1, hx, hb1, e2, e3⟩ := borrow_step hww htl hbN
      rw [e1, e2, fdivB rfl, wi (n := k + 1) (by omega) (by omega)]
      refine ⟨_, rfl, by omega, by omega, st_win x hb' (by omega) rfl ?_⟩
      rintro _ rfl _ rfl _ rfl
      refine ⟨m + 2 - (k + 1), by omega, k + 1, t / B32, b', w'.set k x, rfl, by omega, rfl, rfl, rfl, htd, hb1, by simp [hw'l], mem_set hw' hx, Heap.put_put _ _ _ _, ?_, ?_⟩
      · rw [drop_set (by omega)]; exact drop_succ_of hdrop
      · rw [val_take_succ (xs := w'.set k x) (by simp; omega), take_set_ge (Nat.le_refl _), getD_set_eq (by omega), hvt, val_take_succ (xs := w) (by omega), Nat.pow_succ]
        rw [hwe] at e3
        exact sub_step ht e3 rfl hval
    · have hkn : k = m + 2 := by simp at z; omega
      subst hkn
      have hww := getD_ltB hw' (m + 2)
      have hwe := getD_of_drop_eq hdrop
      have eV2 : val (vs.take (m + 2)) = val vs := by rw [List.take_of_length_le (by omega)]
      -- (powers stay hidden from omega: it would unfold them)
      obtain ⟨M, hM, hVM, hlt3⟩ : ∃ M, (∀ z, B32 ^ (m + 2) * z = M * z) ∧ val vs < M ∧ (∀ l : List Nat, (∀ x ∈ l, x < B32) → l.length = m + 3 → val l < M * B32) :=
        ⟨_, fun _ => rfl, by have := val_lt hvs; rwa [lv'] at this, fun l h1 h2 => by have := val_lt h1; rwa [h2, Nat.pow_succ] at this⟩
      rw [hM] at hval
      have eU2 : val w = val (w.take (m + 2)) + M * u0 := by
        have := val_take_succ (xs := w) (k := m + 2) (by omega)
        rwa [List.take_of_length_le (by omega), hu0, hM] at this
      refine ⟨_, rfl, by omega, by omega, _, ld_win hb' (by omega), ?_⟩
      rw [wu (n := w'.getD (m + 2) 0) rfl (by omega)]
      rintro _ rfl _ rfl
      obtain ⟨x, b', e1, hx, hb1, e2, e3⟩ := borrow_step hww hcN hbN
      rw [e1, e2]
      refine ⟨_, rfl, by omega, by omega, st_win x hb' (by omega) rfl ?_⟩
      rw [Heap.put_put]
      rintro _ rfl
      have hw2 : ∀ y ∈ w'.set (m + 2) x, y < B32 := mem_set hw' hx
      have hw2l : (w'.set (m + 2) x).length = m + 3 := by simp [hw'l]
      have ew2 : val (w'.set (m + 2) x) = val (w'.take (m + 2)) + M * x := by
        have := val_take_succ (xs := w'.set (m + 2) x) (k := m + 2) (by omega)
        rwa [List.take_of_length_le (by omega), take_set_ge (Nat.le_refl _), getD_set_eq (by omega), hM] at this
      have hW : val (w'.set (m + 2) x) + q * val vs = val w + (M * B32) * b' := by
        rw [hwe, hu0] at e3
        rw [eV2] at hval
        rw [ew2, eU2]
        exact sub_last e3 hval
      generalize w'.set (m + 2) x = w2 at *
      refine Br.mk (fun z2 => ?_) (fun z2 => ?_)
      · have z3 : b' = 0 := by simp at z2; omega
        subst z3
        have := dig_fin0 (W := val w2) (by rw [hW, Nat.mul_zero, Nat.add_zero]) hq1
        rw [w32 rfl, Nat.mod_eq_of_lt hq]
        exact ⟨by rw [this.1], by rw [this.1]; exact hq, w2, hw2l, hw2, rfl, this.2.symm⟩
      · have z3 : b' = 1 := by simp at z2; omega
        subst z3
        refine ⟨fun mm c i h' => ∃ (k cN : Nat) (w' : List Nat), mm = m + 2 - k ∧ k ≤ m + 2 ∧ i = (k : Int) ∧ c = (cN : Int) ∧ cN ≤ 1 ∧ w'.length = m + 3 ∧ (∀ x ∈ w', x < B32) ∧ h' = h.put gu (blkW p w' s) ∧
            w'.drop k = w2.drop k ∧ val (w'.take k) + B32 ^ k * cN = val (w2.take k) + val (vs.take k),
          ⟨m + 2, 0, 0, w2, rfl, by omega, rfl, rfl, by omega, hw2l, hw2, rfl, rfl, by simp [val]⟩, ?_⟩
        rintro _ _ _ _ ⟨k, cN, w', rfl, hk, rfl, rfl, hcN, hw'l, hw', rfl, hdrop, hval⟩
        have hb' : (h.put gu (blkW p w' s)) gu = some (blkW p w' s) := Heap.put_same _ _ _
        have hwe := getD_of_drop_eq hdrop
        refine Br.mk (fun z => ?_) (fun z => ?_)
        · have z' : k < m + 2 := by simp at z; omega
          obtain ⟨ad', hA', hld'⟩ := (U32.put_ne uv hd (blkW p w' s)).get (i := k) z'
          simp only [Int.toNat_natCast]
          refine ⟨ad', hA', by omega, by omega, _, hld', ?_⟩
          refine ⟨_, rfl, by omega, by omega, _, ld_win hb' (by omega), ?_⟩
          have hy := getD_ltB hvs k
          have hww := getD_ltB hw' k
          have hvt := val_take_succ (xs := vs) (k := k) (by omega)
          generalize vs.getD k 0 = y at *
          rw [wu (n := w'.getD k 0) rfl (by omega), wu (n := y) rfl (by omega)]
          rintro _ rfl _ rfl
          rw [wu (n := w'.getD k 0 + y) (Int.natCast_add _ _).symm (by omega), wu (n := cN + (w'.getD k 0 + y)) (Int.natCast_add _ _).symm (by omega), w32 rfl, fdivB rfl, wi (n := k + 1) (by omega) (by omega)]
          generalize ht : cN + (w'.getD k 0 + y) = t at *
          have htl := Nat.mod_lt t (show 0 < B32 by decide)
          have htd : t / B32 ≤ 1 := by rw [hB]; omega
          refine ⟨_, rfl, by omega, by omega, st_win (t % B32) hb' (by omega) rfl ?_⟩
          rintro _ rfl _ rfl
          refine ⟨m + 2 - (k + 1), by omega, k + 1, t / B32, w'.set k (t % B32), rfl, by omega, rfl, rfl, htd, by simp [hw'l], mem_set hw' htl, Heap.put_put _ _ _ _, ?_, ?_⟩
          · rw [drop_set (by omega)]; exact drop_succ_of hdrop
          · rw [val_take_succ (xs := w'.set k (t % B32)) (by simp; omega), take_set_ge (Nat.le_refl _), getD_set_eq (by omega), hvt, val_take_succ (xs := w2) (by omega), Nat.pow_succ, ← hwe]
            exact add_step ht hval
        · have hkn : k = m + 2 := by simp at z; omega
          subst hkn
          rw [hM] at hval
          have hww := getD_ltB hw' (m + 2)
          refine ⟨_, rfl, by omega, by omega, _, ld_win hb' (by omega), ?_⟩
          rw [w32 (n := cN) rfl, Nat.mod_eq_of_lt (by omega)]
          rintro _ rfl
          rw [w32 (n := w'.getD (m + 2) 0 + cN) (Int.natCast_add _ _).symm]
          generalize ht : w'.getD (m + 2) 0 + cN = t at *
          have htl := Nat.mod_lt t (show 0 < B32 by decide)
          refine ⟨_, rfl, by omega, by omega, st_win (t % B32) hb' (by omega) rfl ?_⟩
          rintro _ rfl
          have ew3 : val (w'.set (m + 2) (t % B32)) = val (w'.take (m + 2)) + M * (t % B32) := by
            have := val_take_succ (xs := w'.set (m + 2) (t % B32)) (k := m + 2) (by simp; omega)
            rwa [List.take_of_length_le (by simp; omega), take_set_ge (Nat.le_refl _), getD_set_eq (by omega), hM] at this
          have ew2' : val w2 = val (w2.take (m + 2)) + M * w2.getD (m + 2) 0 := by
            have := val_take_succ (xs := w2) (k := m + 2) (by omega)
            rwa [List.take_of_length_le (by omega), hM] at this
          have hW3 : val (w'.set (m + 2) (t % B32)) + (M * B32) * (t / B32) = val w2 + val vs := by
            rw [ew3, ew2', ← hwe]
            rw [eV2] at hval
            exact add_last ht hval
          have hw3 := mem_set (i := m + 2) hw' htl
          have hw3l : (w'.set (m + 2) (t % B32)).length = m + 3 := by simp [hw'l]
          have l2 := hlt3 _ hw2 hw2l
          have l3 := hlt3 _ hw3 hw3l
          have hMM : M * 1 ≤ M * B32 := Nat.mul_le_mul_left _ (by decide)
          obtain ⟨r1, r2, r3⟩ := dig_fin1 (by rw [hW, Nat.mul_one]) l2 hW3 l3 hq2 (by omega)
          rw [wu (n := q - 1) (by omega) (by omega), w32 rfl, Nat.mod_eq_of_lt (by omega)]
          exact ⟨by rw [r2], by rw [r2]; omega, _, hw3l, hw3, Heap.put_put _ _ _ _, r3.symm⟩
  · have := Nat.mod_lt top (show 0 < v1 by omega)
    omega
  · rw [eU, eV]
    exact kn_init hU' g2 (by have := Nat.lt_mul_div_succ top (show 0 < v1 by omega); rw [Nat.mul_comm]; omega)
  · rintro mm q0 r0 h0 ⟨rN, hq0', hr0, hh0, hqr, hr, hmt, hI⟩
    subst hh0
    subst hr0
    subst hq0'
    refine Br.mk (fun z => ?_) (fun z => ?_)
    · have z1 : rN < B32 := by simp at z; omega
      have next : ∀ (hx : val w < mm * val vs), ∀ t72 : Int, t72 = IntKind.u64.wrap ((mm : Int) - 1) → ∀ t75 : Int, t75 = IntKind.u64.wrap ((rN : Int) + (v1 : Int)) →
          ∃ m_5, m_5 < mm ∧ ∃ rN : Nat, t72 = (m_5 : Int) ∧ t75 = (rN : Int) ∧ h = h ∧ m_5 * v1 + rN = top ∧ rN < 2 * B32 ∧ m_5 ≤ top ∧ val w < (m_5 + 1) * val vs := by
        rintro hx _ rfl _ rfl
        have h1 : 1 ≤ mm := by
          rcases mm with _ | k
          · simp at hx
          · omega
        obtain ⟨k, rfl⟩ : ∃ k, mm = k + 1 := ⟨mm - 1, by omega⟩
        refine ⟨k, by omega, rN + v1, by rw [wu (n := k) (by omega) (by omega)], by rw [wu (n := rN + v1) (by omega) (by omega)], rfl, ?_, by omega, by omega, hx⟩
        rw [Nat.add_mul] at hqr
        omega
      refine Br.mk (fun z2 => ?_) (fun z2 => ?_)
      · have z3 : B32 ≤ mm := by simp at z2; omega
        exact next (Nat.lt_of_lt_of_le hU (Nat.mul_le_mul_right _ z3))
      · have z3 : mm < B32 := by simp at z2; omega
        rintro _ rfl
        rw [wi (n := m) (by omega) (by omega), Int.toNat_natCast]
        obtain ⟨ad', hA', hld'⟩ := uv.get (i := m) (by omega)
        rw [hv2'] at hld'
        refine ⟨ad', hA', by omega, by omega, _, hld', ?_⟩
        rintro _ rfl _ rfl _ rfl
        refine ⟨_, rfl, by omega, by omega, _, ld2, ?_⟩
        rintro _ rfl
        have hqv : mm * v2 ≤ 4294967295 * 4294967295 := Nat.mul_le_mul (by omega) (by omega)
        rw [wu (n := v2) rfl (by omega), wu (n := mm * v2) (Int.natCast_mul mm v2).symm (by omega), shlB rfl z1, or64 (hi := rN) (lo := u2) rfl (wu rfl (by omega)) g2 z1]
        refine Br.mk (fun z4 => ?_) (fun z4 => ?_)
        · have z5 : rN * B32 + u2 < mm * v2 := by simp at z4; omega
          exact next (by rw [eU, eV]; exact kn_step hU' hqr z5)
        · have z5 : mm * v2 ≤ rN * B32 + u2 := by simp at z4; omega
          exact ⟨mm, rfl, rfl, z3, hI, by rw [eU, eV]; exact kn_end2 hV' hqr z5 z3 hv1⟩
    · have z1 : B32 ≤ rN := by simp at z; omega
      have hq := kn_q k2 hV' hU2 hqr z1
      refine ⟨mm, rfl, rfl, hq, hI, ?_⟩
      have := kn_end1 (u2 := u2) (U' := U') k2 hV' hqr z1 hq
      rw [← eU, ← eV] at this
      have hpos : 0 < val vs := by
        rcases Nat.eq_zero_or_pos (val vs) with h0 | h0
        · rw [h0] at hI; omega
        · exact h0
      omega
end Go.Proofs.YtdpdaphholileaaGreatDoor
