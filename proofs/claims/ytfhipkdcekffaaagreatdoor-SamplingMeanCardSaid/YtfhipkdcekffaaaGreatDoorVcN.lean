/- Made by vcgen.py: verification conditions of functions, each held against the calculator by the kernel. -/
import Derived.Test.YtfhipkdcekffaaaGreatDoorVcg4
import Derived.Test.YtfhipkdcekffaaaGreatDoorChecked
namespace Go.Proofs.YtfhipkdcekffaaaGreatDoor
open Go Go.Vcg

def natural_trim_vc (aA : Option Addr) (an ac : Nat) (h : Heap) (R : Value → Heap → Prop) : Prop :=
 ∃ J : Nat → Int → Heap → Prop, (∃ m, J m ((an : Nat) : Int) h) ∧
 ∀ (m : Nat) (n : Int) (h_1 : Heap), J m n h_1 →
 Br (decide (n > 0))
  (∀ t11 : Int, t11 = IntKind.i64.wrap (n - 1) →
 ∃ ad : Addr, aA = some ad ∧ 0 ≤ t11 ∧ t11 < ((an : Nat) : Int) ∧
 ∃ t13 : Int, LdN h_1 (Addr.add ad (Int.toNat t11 * 1)) [Value.int .u32 t13] ∧
 Br ((t13 : Int) == 0)
  (∀ t17 : Int, t17 = IntKind.i64.wrap (n - 1) →
 ∃ m_1, m_1 < m ∧ J m_1 t17 h_1)
  (((0 : Nat) : Int) ≤ n ∧ n ≤ ((ac : Nat) : Int) ∧
 R (Value.slice aA (Int.toNat n) ac) h_1))
  (((0 : Nat) : Int) ≤ n ∧ n ≤ ((ac : Nat) : Int) ∧
 R (Value.slice aA (Int.toNat n) ac) h_1)

set_option maxRecDepth 100000 in
theorem natural_trim_ok {aA : Option Addr} {an ac : Nat} {h : Heap} {R : Value → Heap → Prop} (hv : natural_trim_vc aA an ac h R) : CallsU Tryz.prog 56 [Value.slice aA an ac] h R :=
  fn_sound Tryz.func56 (by kernel_rfl) (by kernel_rfl) (by kernel_rfl) (fun _ => false) (.two .nil (.two .nil (.two (.one (.loop ⟨[(3, Sh.int .i64)], []⟩ .nil)) .nil))) [Value.slice aA an ac] h R (by kernel_rfl)
    (Eq.mp (show natural_trim_vc aA an ac h R = fnV Tryz.prog Tryz.f56 (fun _ => false) (.two .nil (.two .nil (.two (.one (.loop ⟨[(3, Sh.int .i64)], []⟩ .nil)) .nil))) [Value.slice aA an ac] h R by kernel_rfl) hv)

def natural_Of_vc (n : Int) (h : Heap) (R : Value → Heap → Prop) : Prop :=
 ∀ t6 : Int, t6 = (Int.fdiv n (2 ^ (32 : Nat))) →
 ∀ (g : Nat) (h_1 : Heap), h g = none → h_1 = Heap.put h g ⟨[Value.int .u32 (IntKind.u32.wrap n), Value.int .u32 (IntKind.u32.wrap t6)], 76, (0, 0)⟩ →
 CallsU Tryz.prog 56 [Value.slice (some ⟨g, 0, none⟩) 2 2] h_1 fun v h_2 =>
 ∃ t9A : Option Addr, ∃ t9n t9c : Nat, v = Value.slice t9A t9n t9c ∧
 R (Value.slice t9A t9n t9c) h_2

set_option maxRecDepth 100000 in
theorem natural_Of_ok {n : Int} {h : Heap} {R : Value → Heap → Prop} (hv : natural_Of_vc n h R) : CallsU Tryz.prog 30 [Value.int .u64 n] h R :=
  fn_sound Tryz.func30 (by kernel_rfl) (by kernel_rfl) (by kernel_rfl) (fun _ => false) .nil [Value.int .u64 n] h R (by kernel_rfl)
    (Eq.mp (show natural_Of_vc n h R = fnV Tryz.prog Tryz.f30 (fun _ => false) .nil [Value.int .u64 n] h R by kernel_rfl) hv)

def natural_Norm_vc (aA : Option Addr) (an ac : Nat) (h : Heap) (R : Value → Heap → Prop) : Prop :=
 CallsU Tryz.prog 56 [Value.slice aA an ac] h fun v h_1 =>
 ∃ t5A : Option Addr, ∃ t5n t5c : Nat, v = Value.slice t5A t5n t5c ∧
 0 ≤ ((t5n : Nat) : Int) ∧ ((t5n : Nat) : Int) ≤ ((t5n : Nat) : Int) ∧ ((t5n : Nat) : Int) * 4 ≤ 140737488355328 ∧ ((t5n : Nat) : Int) ≤ 9223372036854775807 ∧
 ∀ (g : Nat) (h_2 : Heap), h_1 g = none → h_2 = Heap.put h_1 g ⟨repV [Value.int .u32 0] (Int.toNat ((t5n : Nat) : Int)), 76, (0, 0)⟩ →
 ∃ xs : List Value, RdS h_2 t5A (min t5n (Int.toNat ((t5n : Nat) : Int)) * 1) xs ∧ (∀ x ∈ xs, one x = true) ∧
 (min t5n (Int.toNat ((t5n : Nat) : Int)) * 1 = 0 → R (Value.slice (some ⟨g, 0, none⟩) (Int.toNat ((t5n : Nat) : Int)) (Int.toNat ((t5n : Nat) : Int))) h_2) ∧
 (0 < min t5n (Int.toNat ((t5n : Nat) : Int)) * 1 → ∃ (ad : Addr) (b : Blk), some ⟨g, 0, none⟩ = some ad ∧ ad.spot = none ∧ h_2 ad.block = some b ∧ b.fz = (0, 0) ∧ ad.off + min t5n (Int.toNat ((t5n : Nat) : Int)) * 1 ≤ b.cells.length ∧
 ∀ h_3 : Heap, h_3 = Heap.put h_2 ad.block { b with cells := setSeg b.cells ad.off xs } →
 R (Value.slice (some ⟨g, 0, none⟩) (Int.toNat ((t5n : Nat) : Int)) (Int.toNat ((t5n : Nat) : Int))) h_3)

set_option maxRecDepth 100000 in
theorem natural_Norm_ok {aA : Option Addr} {an ac : Nat} {h : Heap} {R : Value → Heap → Prop} (hv : natural_Norm_vc aA an ac h R) : CallsU Tryz.prog 73 [Value.slice aA an ac] h R :=
  fn_sound Tryz.func73 (by kernel_rfl) (by kernel_rfl) (by kernel_rfl) (fun _ => false) .nil [Value.slice aA an ac] h R (by kernel_rfl)
    (Eq.mp (show natural_Norm_vc aA an ac h R = fnV Tryz.prog Tryz.f73 (fun _ => false) .nil [Value.slice aA an ac] h R by kernel_rfl) hv)

def natural_Cmp_vc (aA : Option Addr) (an ac : Nat) (bA : Option Addr) (bn bc : Nat) (h : Heap) (R : Value → Heap → Prop) : Prop :=
 CallsU Tryz.prog 56 [Value.slice aA an ac] h fun v h_1 =>
 ∃ t9A : Option Addr, ∃ t9n t9c : Nat, v = Value.slice t9A t9n t9c ∧
 CallsU Tryz.prog 56 [Value.slice bA bn bc] h_1 fun v_1 h_2 =>
 ∃ t11A : Option Addr, ∃ t11n t11c : Nat, v_1 = Value.slice t11A t11n t11c ∧
 CallsU Tryz.prog 66 [Value.int .i64 ((t9n : Nat) : Int), Value.int .i64 ((t11n : Nat) : Int)] h_2 fun v_2 h_3 =>
 ∃ t16 : Int, v_2 = Value.int .i64 t16 ∧
 Br ((t16 : Int) != 0)
  (R (Value.int .i64 t16) h_3)
  (∀ t22 : Int, t22 = IntKind.i64.wrap (((t9n : Nat) : Int) - 1) →
 ∃ J : Nat → Int → Heap → Prop, (∃ m, J m t22 h_3) ∧
 ∀ (m : Nat) (i : Int) (h_4 : Heap), J m i h_4 →
 Br (decide (i ≥ 0))
  (∃ ad : Addr, t9A = some ad ∧ 0 ≤ i ∧ i < ((t9n : Nat) : Int) ∧
 ∃ t30 : Int, LdN h_4 (Addr.add ad (Int.toNat i * 1)) [Value.int .u32 t30] ∧
 ∃ ad_1 : Addr, t11A = some ad_1 ∧ 0 ≤ i ∧ i < ((t11n : Nat) : Int) ∧
 ∃ t34 : Int, LdN h_4 (Addr.add ad_1 (Int.toNat i * 1)) [Value.int .u32 t34] ∧
 CallsU Tryz.prog 67 [Value.int .u32 t30, Value.int .u32 t34] h_4 fun v_3 h_5 =>
 ∃ t35 : Int, v_3 = Value.int .i64 t35 ∧
 Br ((t35 : Int) != 0)
  (R (Value.int .i64 t35) h_5)
  (∀ t26 : Int, t26 = IntKind.i64.wrap (i - 1) →
 ∃ m_1, m_1 < m ∧ J m_1 t26 h_5))
  (R (Value.int .i64 0) h_4))

set_option maxRecDepth 100000 in
theorem natural_Cmp_ok {aA : Option Addr} {an ac : Nat} {bA : Option Addr} {bn bc : Nat} {h : Heap} {R : Value → Heap → Prop} (hv : natural_Cmp_vc aA an ac bA bn bc h R) : CallsU Tryz.prog 47 [Value.slice aA an ac, Value.slice bA bn bc] h R :=
  fn_sound Tryz.func47 (by kernel_rfl) (by kernel_rfl) (by kernel_rfl) (fun _ => false) (.two .nil (.two .nil (.two .nil (.two (.two .nil (.one (.loop ⟨[(6, Sh.int .i64)], []⟩ (.two .nil (.two (.one (.two (.ord [0, 1, 2, 3, 4, 5, 6, 7, 8, 9]) .nil)) .nil))))) .nil)))) [Value.slice aA an ac, Value.slice bA bn bc] h R (by kernel_rfl)
    (Eq.mp (show natural_Cmp_vc aA an ac bA bn bc h R = fnV Tryz.prog Tryz.f47 (fun _ => false) (.two .nil (.two .nil (.two .nil (.two (.two .nil (.one (.loop ⟨[(6, Sh.int .i64)], []⟩ (.two .nil (.two (.one (.two (.ord [0, 1, 2, 3, 4, 5, 6, 7, 8, 9]) .nil)) .nil))))) .nil)))) [Value.slice aA an ac, Value.slice bA bn bc] h R by kernel_rfl) hv)

def natural_Add_vc (aA : Option Addr) (an ac : Nat) (bA : Option Addr) (bn bc : Nat) (h : Heap) (R : Value → Heap → Prop) : Prop :=
 CallsU Tryz.prog 56 [Value.slice aA an ac] h fun v h_1 =>
 ∃ t10A : Option Addr, ∃ t10n t10c : Nat, v = Value.slice t10A t10n t10c ∧
 CallsU Tryz.prog 56 [Value.slice bA bn bc] h_1 fun v_1 h_2 =>
 ∃ t12A : Option Addr, ∃ t12n t12c : Nat, v_1 = Value.slice t12A t12n t12c ∧
 ∃ C : Option Addr → Nat → Nat → Option Addr → Nat → Nat → Heap → Prop, (∀ (aA_1 : Option Addr) (an_1 ac_1 : Nat) (bA_1 : Option Addr) (bn_1 bc_1 : Nat) (h_3 : Heap), C aA_1 an_1 ac_1 bA_1 bn_1 bc_1 h_3 →
 ∀ t22 : Int, t22 = IntKind.i64.wrap (((an_1 : Nat) : Int) + 1) →
 0 ≤ (0 : Int) ∧ (0 : Int) ≤ t22 ∧ t22 * 4 ≤ 140737488355328 ∧ t22 ≤ 9223372036854775807 ∧
 ∀ (g : Nat) (h_4 : Heap), h_3 g = none → h_4 = Heap.put h_3 g ⟨repV [Value.int .u32 0] (Int.toNat t22), 76, (0, 0)⟩ →
 ∃ J : Nat → Option Addr → Nat → Nat → Int → Int → Heap → Prop, (∃ m, J m (some ⟨g, 0, none⟩) 0 (Int.toNat t22) 0 0 h_4) ∧
 ∀ (m : Nat) (rA : Option Addr) (rn rc : Nat) (carry : Int) (t26 : Int) (h_5 : Heap), J m rA rn rc carry t26 h_5 →
 Br (decide (t26 < ((an_1 : Nat) : Int)))
  (∃ ad : Addr, aA_1 = some ad ∧ 0 ≤ t26 ∧ t26 < ((an_1 : Nat) : Int) ∧
 ∃ t30 : Int, LdN h_5 (Addr.add ad (Int.toNat t26 * 1)) [Value.int .u32 t30] ∧
 ∀ t34 : Int, t34 = IntKind.u64.wrap (carry + (IntKind.u64.wrap t30)) →
 ∃ C_1 : Int → Heap → Prop, (∀ (carry_1 : Int) (h_6 : Heap), C_1 carry_1 h_6 →
 ∀ (g_1 : Nat) (h_7 : Heap), h_6 g_1 = none → h_7 = Heap.put h_6 g_1 ⟨[Value.int .u32 (IntKind.u32.wrap carry_1)], 76, (0, 0)⟩ →
 ∃ xs : List Value, RdS h_7 (some ⟨g_1, 0, none⟩) (1 * 1) xs ∧ (∀ x ∈ xs, one x = true) ∧
 (rn + 1 ≤ rc → ∃ (ad_1 : Addr) (b : Blk), rA = some ad_1 ∧ ad_1.spot = none ∧ h_7 ad_1.block = some b ∧ b.fz = (0, 0) ∧ ad_1.off + rn * 1 + 1 * 1 ≤ b.cells.length ∧
 ∀ h_9 : Heap, h_9 = Heap.put h_7 ad_1.block { b with cells := setSeg b.cells (ad_1.off + rn * 1) xs } →
 ∀ t52 : Int, t52 = (Int.fdiv carry_1 (2 ^ (32 : Nat))) →
 ∀ t53 : Int, t53 = IntKind.i64.wrap (t26 + 1) →
 ∃ m_1, m_1 < m ∧ J m_1 rA (rn + 1) rc t52 t53 h_9) ∧
 (rc < rn + 1 → ∃ olds : List Value, RdS h_7 rA (rn * 1) olds ∧ (rn + 1) * 4 ≤ 140737488355328 ∧
 ∀ (g_2 cap : Nat) (h_10 : Heap), h_7 g_2 = none → rn + 1 ≤ cap → h_10 = Heap.put h_7 g_2 ⟨olds ++ xs ++ repV [Value.int .u32 0] (cap - (rn + 1)), 76, (0, 0)⟩ →
 ∀ t52_1 : Int, t52_1 = (Int.fdiv carry_1 (2 ^ (32 : Nat))) →
 ∀ t53_1 : Int, t53_1 = IntKind.i64.wrap (t26 + 1) →
 ∃ m_1, m_1 < m ∧ J m_1 (some ⟨g_2, 0, none⟩) (rn + 1) cap t52_1 t53_1 h_10)) ∧
 Br (decide (t26 < ((bn_1 : Nat) : Int)))
  (∃ ad_2 : Addr, bA_1 = some ad_2 ∧ 0 ≤ t26 ∧ t26 < ((bn_1 : Nat) : Int) ∧
 ∃ t43 : Int, LdN h_5 (Addr.add ad_2 (Int.toNat t26 * 1)) [Value.int .u32 t43] ∧
 ∀ t45 : Int, t45 = IntKind.u64.wrap (t34 + (IntKind.u64.wrap t43)) →
 C_1 t45 h_5)
  (C_1 t34 h_5))
  (∀ (g_3 : Nat) (h_11 : Heap), h_5 g_3 = none → h_11 = Heap.put h_5 g_3 ⟨[Value.int .u32 (IntKind.u32.wrap carry)], 76, (0, 0)⟩ →
 ∃ xs_1 : List Value, RdS h_11 (some ⟨g_3, 0, none⟩) (1 * 1) xs_1 ∧ (∀ x ∈ xs_1, one x = true) ∧
 (rn + 1 ≤ rc → ∃ (ad_3 : Addr) (b_1 : Blk), rA = some ad_3 ∧ ad_3.spot = none ∧ h_11 ad_3.block = some b_1 ∧ b_1.fz = (0, 0) ∧ ad_3.off + rn * 1 + 1 * 1 ≤ b_1.cells.length ∧
 ∀ h_13 : Heap, h_13 = Heap.put h_11 ad_3.block { b_1 with cells := setSeg b_1.cells (ad_3.off + rn * 1) xs_1 } →
 CallsU Tryz.prog 56 [Value.slice rA (rn + 1) rc] h_13 fun v_4 h_15 =>
 ∃ t59A : Option Addr, ∃ t59n t59c : Nat, v_4 = Value.slice t59A t59n t59c ∧
 R (Value.slice t59A t59n t59c) h_15) ∧
 (rc < rn + 1 → ∃ olds_1 : List Value, RdS h_11 rA (rn * 1) olds_1 ∧ (rn + 1) * 4 ≤ 140737488355328 ∧
 ∀ (g_4 cap_1 : Nat) (h_14 : Heap), h_11 g_4 = none → rn + 1 ≤ cap_1 → h_14 = Heap.put h_11 g_4 ⟨olds_1 ++ xs_1 ++ repV [Value.int .u32 0] (cap_1 - (rn + 1)), 76, (0, 0)⟩ →
 CallsU Tryz.prog 56 [Value.slice (some ⟨g_4, 0, none⟩) (rn + 1) cap_1] h_14 fun v_5 h_16 =>
 ∃ t59A_1 : Option Addr, ∃ t59n_1 t59c_1 : Nat, v_5 = Value.slice t59A_1 t59n_1 t59c_1 ∧
 R (Value.slice t59A_1 t59n_1 t59c_1) h_16))) ∧
 Br (decide (((t10n : Nat) : Int) < ((t12n : Nat) : Int)))
  (C t12A t12n t12c t10A t10n t10c h_2)
  (C t10A t10n t10c t12A t12n t12c h_2)

set_option maxRecDepth 100000 in
theorem natural_Add_ok {aA : Option Addr} {an ac : Nat} {bA : Option Addr} {bn bc : Nat} {h : Heap} {R : Value → Heap → Prop} (hv : natural_Add_vc aA an ac bA bn bc h R) : CallsU Tryz.prog 31 [Value.slice aA an ac, Value.slice bA bn bc] h R :=
  fn_sound Tryz.func31 (by kernel_rfl) (by kernel_rfl) (by kernel_rfl) (fun _ => false) (.two .nil (.two .nil (.cut ⟨[(0, Sh.slice), (1, Sh.slice)], []⟩ .nil (.two .nil (.two .nil (.two (.two .nil (.one (.loop ⟨[(5, Sh.slice), (6, Sh.int .u64), (26, Sh.int .i64)], []⟩ (.two .nil (.two .nil (.two (.one (.two .nil (.two .nil (.cut ⟨[(6, Sh.int .u64)], []⟩ .nil .nil)))) .nil)))))) .nil)))))) [Value.slice aA an ac, Value.slice bA bn bc] h R (by kernel_rfl)
    (Eq.mp (show natural_Add_vc aA an ac bA bn bc h R = fnV Tryz.prog Tryz.f31 (fun _ => false) (.two .nil (.two .nil (.cut ⟨[(0, Sh.slice), (1, Sh.slice)], []⟩ .nil (.two .nil (.two .nil (.two (.two .nil (.one (.loop ⟨[(5, Sh.slice), (6, Sh.int .u64), (26, Sh.int .i64)], []⟩ (.two .nil (.two .nil (.two (.one (.two .nil (.two .nil (.cut ⟨[(6, Sh.int .u64)], []⟩ .nil .nil)))) .nil)))))) .nil)))))) [Value.slice aA an ac, Value.slice bA bn bc] h R by kernel_rfl) hv)

def natural_Sub_vc (aA : Option Addr) (an ac : Nat) (bA : Option Addr) (bn bc : Nat) (h : Heap) (R : Value → Heap → Prop) : Prop :=
 CallsU Tryz.prog 56 [Value.slice aA an ac] h fun v h_1 =>
 ∃ t12A : Option Addr, ∃ t12n t12c : Nat, v = Value.slice t12A t12n t12c ∧
 CallsU Tryz.prog 56 [Value.slice bA bn bc] h_1 fun v_1 h_2 =>
 ∃ t14A : Option Addr, ∃ t14n t14c : Nat, v_1 = Value.slice t14A t14n t14c ∧
 CallsU Tryz.prog 47 [Value.slice t12A t12n t12c, Value.slice t14A t14n t14c] h_2 fun v_2 h_3 =>
 ∃ t17 : Int, v_2 = Value.int .i64 t17 ∧
 Br (decide (t17 < 0))
  (R (Value.tuple #[Value.slice none 0 0, Value.bool false]) h_3)
  (0 ≤ ((t12n : Nat) : Int) ∧ ((t12n : Nat) : Int) ≤ ((t12n : Nat) : Int) ∧ ((t12n : Nat) : Int) * 4 ≤ 140737488355328 ∧ ((t12n : Nat) : Int) ≤ 9223372036854775807 ∧
 ∀ (g : Nat) (h_4 : Heap), h_3 g = none → h_4 = Heap.put h_3 g ⟨repV [Value.int .u32 0] (Int.toNat ((t12n : Nat) : Int)), 76, (0, 0)⟩ →
 ∃ J : Nat → Int → Int → Heap → Prop, (∃ m, J m 0 0 h_4) ∧
 ∀ (m : Nat) (borrow : Int) (t24 : Int) (h_5 : Heap), J m borrow t24 h_5 →
 Br (decide (t24 < ((t12n : Nat) : Int)))
  (∃ ad : Addr, t12A = some ad ∧ 0 ≤ t24 ∧ t24 < ((t12n : Nat) : Int) ∧
 ∃ t28 : Int, LdN h_5 (Addr.add ad (Int.toNat t24 * 1)) [Value.int .u32 t28] ∧
 ∀ t32 : Int, t32 = IntKind.u64.wrap ((IntKind.u64.wrap t28) - borrow) →
 ∃ C : Int → Heap → Prop, (∀ (d : Int) (h_6 : Heap), C d h_6 →
 ∃ ad_1 : Addr, some ⟨g, 0, none⟩ = some ad_1 ∧ 0 ≤ t24 ∧ t24 < (((Int.toNat ((t12n : Nat) : Int)) : Nat) : Int) ∧
 ∃ b : Blk, h_6 (Addr.block (Addr.add ad_1 (Int.toNat t24 * 1))) = some b ∧ b.fz = (0, 0) ∧ Addr.spot (Addr.add ad_1 (Int.toNat t24 * 1)) = none ∧ Addr.off (Addr.add ad_1 (Int.toNat t24 * 1)) + 1 ≤ b.cells.length ∧
 ∀ h_7 : Heap, h_7 = Heap.put h_6 (Addr.block (Addr.add ad_1 (Int.toNat t24 * 1))) { b with cells := setSeg b.cells (Addr.off (Addr.add ad_1 (Int.toNat t24 * 1))) [Value.int .u32 (IntKind.u32.wrap d)] } →
 ∀ t50 : Int, t50 = (Int.fdiv d (2 ^ (63 : Nat))) →
 ∀ t51 : Int, t51 = IntKind.i64.wrap (t24 + 1) →
 ∃ m_1, m_1 < m ∧ J m_1 t50 t51 h_7) ∧
 Br (decide (t24 < ((t14n : Nat) : Int)))
  (∃ ad_2 : Addr, t14A = some ad_2 ∧ 0 ≤ t24 ∧ t24 < ((t14n : Nat) : Int) ∧
 ∃ t41 : Int, LdN h_5 (Addr.add ad_2 (Int.toNat t24 * 1)) [Value.int .u32 t41] ∧
 ∀ t43 : Int, t43 = IntKind.u64.wrap (t32 - (IntKind.u64.wrap t41)) →
 C t43 h_5)
  (C t32 h_5))
  (CallsU Tryz.prog 56 [Value.slice (some ⟨g, 0, none⟩) (Int.toNat ((t12n : Nat) : Int)) (Int.toNat ((t12n : Nat) : Int))] h_5 fun v_3 h_8 =>
 ∃ t53A : Option Addr, ∃ t53n t53c : Nat, v_3 = Value.slice t53A t53n t53c ∧
 R (Value.tuple #[Value.slice t53A t53n t53c, Value.bool true]) h_8))

set_option maxRecDepth 100000 in
theorem natural_Sub_ok {aA : Option Addr} {an ac : Nat} {bA : Option Addr} {bn bc : Nat} {h : Heap} {R : Value → Heap → Prop} (hv : natural_Sub_vc aA an ac bA bn bc h R) : CallsU Tryz.prog 62 [Value.slice aA an ac, Value.slice bA bn bc] h R :=
  fn_sound Tryz.func62 (by kernel_rfl) (by kernel_rfl) (by kernel_rfl) (fun _ => false) (.two .nil (.two .nil (.two .nil (.two .nil (.two .nil (.two (.two .nil (.one (.loop ⟨[(7, Sh.int .u64), (24, Sh.int .i64)], []⟩ (.two .nil (.two .nil (.two (.one (.two .nil (.two .nil (.cut ⟨[(10, Sh.int .u64)], []⟩ .nil .nil)))) .nil)))))) .nil)))))) [Value.slice aA an ac, Value.slice bA bn bc] h R (by kernel_rfl)
    (Eq.mp (show natural_Sub_vc aA an ac bA bn bc h R = fnV Tryz.prog Tryz.f62 (fun _ => false) (.two .nil (.two .nil (.two .nil (.two .nil (.two .nil (.two (.two .nil (.one (.loop ⟨[(7, Sh.int .u64), (24, Sh.int .i64)], []⟩ (.two .nil (.two .nil (.two (.one (.two .nil (.two .nil (.cut ⟨[(10, Sh.int .u64)], []⟩ .nil .nil)))) .nil)))))) .nil)))))) [Value.slice aA an ac, Value.slice bA bn bc] h R by kernel_rfl) hv)

def natural_Mul_vc (aA : Option Addr) (an ac : Nat) (bA : Option Addr) (bn bc : Nat) (h : Heap) (R : Value → Heap → Prop) : Prop :=
 CallsU Tryz.prog 56 [Value.slice aA an ac] h fun v h_1 =>
 ∃ t12A : Option Addr, ∃ t12n t12c : Nat, v = Value.slice t12A t12n t12c ∧
 CallsU Tryz.prog 56 [Value.slice bA bn bc] h_1 fun v_1 h_2 =>
 ∃ t14A : Option Addr, ∃ t14n t14c : Nat, v_1 = Value.slice t14A t14n t14c ∧
 ∀ t19 : Int, t19 = IntKind.i64.wrap (((t12n : Nat) : Int) + ((t14n : Nat) : Int)) →
 0 ≤ t19 ∧ t19 ≤ t19 ∧ t19 * 4 ≤ 140737488355328 ∧ t19 ≤ 9223372036854775807 ∧
 ∀ (g : Nat) (h_3 : Heap), h_2 g = none → h_3 = Heap.put h_2 g ⟨repV [Value.int .u32 0] (Int.toNat t19), 76, (0, 0)⟩ →
 ∃ J : Nat → Int → Heap → Prop, (∃ m, J m 0 h_3) ∧
 ∀ (m : Nat) (t23 : Int) (h_4 : Heap), J m t23 h_4 →
 Br (decide (t23 < ((t12n : Nat) : Int)))
  (∃ ad : Addr, t12A = some ad ∧ 0 ≤ t23 ∧ t23 < ((t12n : Nat) : Int) ∧
 ∃ t27 : Int, LdN h_4 (Addr.add ad (Int.toNat t23 * 1)) [Value.int .u32 t27] ∧
 ∃ J_1 : Nat → Int → Int → Heap → Prop, (∃ m_2, J_1 m_2 0 0 h_4) ∧
 ∀ (m_2 : Nat) (carry : Int) (t30 : Int) (h_5 : Heap), J_1 m_2 carry t30 h_5 →
 Br (decide (t30 < ((t14n : Nat) : Int)))
  (∃ ad_1 : Addr, t14A = some ad_1 ∧ 0 ≤ t30 ∧ t30 < ((t14n : Nat) : Int) ∧
 ∃ t34 : Int, LdN h_5 (Addr.add ad_1 (Int.toNat t30 * 1)) [Value.int .u32 t34] ∧
 ∀ t40 : Int, t40 = IntKind.u64.wrap ((IntKind.u64.wrap t27) * (IntKind.u64.wrap t34)) →
 ∀ t44 : Int, t44 = IntKind.i64.wrap (t23 + t30) →
 ∃ ad_2 : Addr, some ⟨g, 0, none⟩ = some ad_2 ∧ 0 ≤ t44 ∧ t44 < (((Int.toNat t19) : Nat) : Int) ∧
 ∃ t46 : Int, LdN h_5 (Addr.add ad_2 (Int.toNat t44 * 1)) [Value.int .u32 t46] ∧
 ∀ t48 : Int, t48 = IntKind.u64.wrap (t40 + (IntKind.u64.wrap t46)) →
 ∀ t49 : Int, t49 = IntKind.u64.wrap (carry + t48) →
 ∀ t53 : Int, t53 = IntKind.i64.wrap (t23 + t30) →
 ∃ ad_3 : Addr, some ⟨g, 0, none⟩ = some ad_3 ∧ 0 ≤ t53 ∧ t53 < (((Int.toNat t19) : Nat) : Int) ∧
 ∃ b : Blk, h_5 (Addr.block (Addr.add ad_3 (Int.toNat t53 * 1))) = some b ∧ b.fz = (0, 0) ∧ Addr.spot (Addr.add ad_3 (Int.toNat t53 * 1)) = none ∧ Addr.off (Addr.add ad_3 (Int.toNat t53 * 1)) + 1 ≤ b.cells.length ∧
 ∀ h_6 : Heap, h_6 = Heap.put h_5 (Addr.block (Addr.add ad_3 (Int.toNat t53 * 1))) { b with cells := setSeg b.cells (Addr.off (Addr.add ad_3 (Int.toNat t53 * 1))) [Value.int .u32 (IntKind.u32.wrap t49)] } →
 ∀ t58 : Int, t58 = (Int.fdiv t49 (2 ^ (32 : Nat))) →
 ∀ t59 : Int, t59 = IntKind.i64.wrap (t30 + 1) →
 ∃ m_3, m_3 < m_2 ∧ J_1 m_3 t58 t59 h_6)
  (∀ t64 : Int, t64 = IntKind.i64.wrap (t23 + ((t14n : Nat) : Int)) →
 ∃ ad_4 : Addr, some ⟨g, 0, none⟩ = some ad_4 ∧ 0 ≤ t64 ∧ t64 < (((Int.toNat t19) : Nat) : Int) ∧
 ∃ b_1 : Blk, h_5 (Addr.block (Addr.add ad_4 (Int.toNat t64 * 1))) = some b_1 ∧ b_1.fz = (0, 0) ∧ Addr.spot (Addr.add ad_4 (Int.toNat t64 * 1)) = none ∧ Addr.off (Addr.add ad_4 (Int.toNat t64 * 1)) + 1 ≤ b_1.cells.length ∧
 ∀ h_7 : Heap, h_7 = Heap.put h_5 (Addr.block (Addr.add ad_4 (Int.toNat t64 * 1))) { b_1 with cells := setSeg b_1.cells (Addr.off (Addr.add ad_4 (Int.toNat t64 * 1))) [Value.int .u32 (IntKind.u32.wrap carry)] } →
 ∀ t68 : Int, t68 = IntKind.i64.wrap (t23 + 1) →
 ∃ m_1, m_1 < m ∧ J m_1 t68 h_7))
  (CallsU Tryz.prog 56 [Value.slice (some ⟨g, 0, none⟩) (Int.toNat t19) (Int.toNat t19)] h_4 fun v_2 h_8 =>
 ∃ t70A : Option Addr, ∃ t70n t70c : Nat, v_2 = Value.slice t70A t70n t70c ∧
 R (Value.slice t70A t70n t70c) h_8)

set_option maxRecDepth 100000 in
theorem natural_Mul_ok {aA : Option Addr} {an ac : Nat} {bA : Option Addr} {bn bc : Nat} {h : Heap} {R : Value → Heap → Prop} (hv : natural_Mul_vc aA an ac bA bn bc h R) : CallsU Tryz.prog 43 [Value.slice aA an ac, Value.slice bA bn bc] h R :=
  fn_sound Tryz.func43 (by kernel_rfl) (by kernel_rfl) (by kernel_rfl) (fun _ => false) (.two .nil (.two .nil (.two .nil (.two (.two .nil (.one (.loop ⟨[(23, Sh.int .i64)], []⟩ (.two .nil (.two .nil (.two (.one (.two .nil (.two .nil (.two (.two .nil (.one (.loop ⟨[(8, Sh.int .u64), (30, Sh.int .i64)], []⟩ .nil))) .nil)))) .nil)))))) .nil)))) [Value.slice aA an ac, Value.slice bA bn bc] h R (by kernel_rfl)
    (Eq.mp (show natural_Mul_vc aA an ac bA bn bc h R = fnV Tryz.prog Tryz.f43 (fun _ => false) (.two .nil (.two .nil (.two .nil (.two (.two .nil (.one (.loop ⟨[(23, Sh.int .i64)], []⟩ (.two .nil (.two .nil (.two (.one (.two .nil (.two .nil (.two (.two .nil (.one (.loop ⟨[(8, Sh.int .u64), (30, Sh.int .i64)], []⟩ .nil))) .nil)))) .nil)))))) .nil)))) [Value.slice aA an ac, Value.slice bA bn bc] h R by kernel_rfl) hv)

def natural_short_vc (aA : Option Addr) (an _ac : Nat) (d : Int) (h : Heap) (R : Value → Heap → Prop) : Prop :=
 0 ≤ ((an : Nat) : Int) ∧ ((an : Nat) : Int) ≤ ((an : Nat) : Int) ∧ ((an : Nat) : Int) * 4 ≤ 140737488355328 ∧ ((an : Nat) : Int) ≤ 9223372036854775807 ∧
 ∀ (g : Nat) (h_1 : Heap), h g = none → h_1 = Heap.put h g ⟨repV [Value.int .u32 0] (Int.toNat ((an : Nat) : Int)), 76, (0, 0)⟩ →
 ∀ t14 : Int, t14 = IntKind.i64.wrap (((an : Nat) : Int) - 1) →
 ∃ J : Nat → Int → Int → Heap → Prop, (∃ m, J m 0 t14 h_1) ∧
 ∀ (m : Nat) (r : Int) (i : Int) (h_2 : Heap), J m r i h_2 →
 Br (decide (i ≥ 0))
  (∀ t20 : Int, t20 = IntKind.u64.wrap (r * 2 ^ (32 : Nat)) →
 ∃ ad : Addr, aA = some ad ∧ 0 ≤ i ∧ i < ((an : Nat) : Int) ∧
 ∃ t24 : Int, LdN h_2 (Addr.add ad (Int.toNat i * 1)) [Value.int .u32 t24] ∧
 ∀ t26 : Int, t26 = bitsOf .or .u64 t20 (IntKind.u64.wrap t24) →
 Br (decide (IntKind.u64.wrap d = 0)) False
  (∀ t32 : Int, t32 = IntKind.u64.wrap (Int.tdiv t26 (IntKind.u64.wrap d)) →
 ∃ ad_1 : Addr, some ⟨g, 0, none⟩ = some ad_1 ∧ 0 ≤ i ∧ i < (((Int.toNat ((an : Nat) : Int)) : Nat) : Int) ∧
 ∃ b : Blk, h_2 (Addr.block (Addr.add ad_1 (Int.toNat i * 1))) = some b ∧ b.fz = (0, 0) ∧ Addr.spot (Addr.add ad_1 (Int.toNat i * 1)) = none ∧ Addr.off (Addr.add ad_1 (Int.toNat i * 1)) + 1 ≤ b.cells.length ∧
 ∀ h_3 : Heap, h_3 = Heap.put h_2 (Addr.block (Addr.add ad_1 (Int.toNat i * 1))) { b with cells := setSeg b.cells (Addr.off (Addr.add ad_1 (Int.toNat i * 1))) [Value.int .u32 (IntKind.u32.wrap t32)] } →
 Br (decide (IntKind.u64.wrap d = 0)) False
  (∀ t38 : Int, t38 = (Int.tmod t26 (IntKind.u64.wrap d)) →
 ∀ t18 : Int, t18 = IntKind.i64.wrap (i - 1) →
 ∃ m_1, m_1 < m ∧ J m_1 t38 t18 h_3)))
  (CallsU Tryz.prog 56 [Value.slice (some ⟨g, 0, none⟩) (Int.toNat ((an : Nat) : Int)) (Int.toNat ((an : Nat) : Int))] h_2 fun v h_4 =>
 ∃ t40A : Option Addr, ∃ t40n t40c : Nat, v = Value.slice t40A t40n t40c ∧
 R (Value.tuple #[Value.slice t40A t40n t40c, Value.int .u32 (IntKind.u32.wrap r)]) h_4)

set_option maxRecDepth 100000 in
theorem natural_short_ok {aA : Option Addr} {an ac : Nat} {d : Int} {h : Heap} {R : Value → Heap → Prop} (hv : natural_short_vc aA an ac d h R) : CallsU Tryz.prog 68 [Value.slice aA an ac, Value.int .u32 d] h R :=
  fn_sound Tryz.func68 (by kernel_rfl) (by kernel_rfl) (by kernel_rfl) (fun _ => false) (.two .nil (.two .nil (.two .nil (.two (.two .nil (.one (.loop ⟨[(7, Sh.int .u64), (8, Sh.int .i64)], []⟩ .nil))) .nil)))) [Value.slice aA an ac, Value.int .u32 d] h R (by kernel_rfl)
    (Eq.mp (show natural_short_vc aA an ac d h R = fnV Tryz.prog Tryz.f68 (fun _ => false) (.two .nil (.two .nil (.two .nil (.two (.two .nil (.one (.loop ⟨[(7, Sh.int .u64), (8, Sh.int .i64)], []⟩ .nil))) .nil)))) [Value.slice aA an ac, Value.int .u32 d] h R by kernel_rfl) hv)

def natural_left_vc (aA : Option Addr) (an _ac : Nat) (s : Int) (h : Heap) (R : Value → Heap → Prop) : Prop :=
 ∀ t11 : Int, t11 = IntKind.i64.wrap (((an : Nat) : Int) + 1) →
 0 ≤ t11 ∧ t11 ≤ t11 ∧ t11 * 4 ≤ 140737488355328 ∧ t11 ≤ 9223372036854775807 ∧
 ∀ (g : Nat) (h_1 : Heap), h g = none → h_1 = Heap.put h g ⟨repV [Value.int .u32 0] (Int.toNat t11), 76, (0, 0)⟩ →
 ∃ J : Nat → Int → Heap → Prop, (∃ m, J m 0 h_1) ∧
 ∀ (m : Nat) (t15 : Int) (h_2 : Heap), J m t15 h_2 →
 Br (decide (t15 < ((an : Nat) : Int)))
  (∃ ad : Addr, aA = some ad ∧ 0 ≤ t15 ∧ t15 < ((an : Nat) : Int) ∧
 ∃ t19 : Int, LdN h_2 (Addr.add ad (Int.toNat t15 * 1)) [Value.int .u32 t19] ∧
 Br (decide (s < 0)) False
  (∀ t23 : Int, t23 = IntKind.u64.wrap ((IntKind.u64.wrap t19) * 2 ^ (min (Int.toNat s) 64 : Nat)) →
 ∃ ad_1 : Addr, some ⟨g, 0, none⟩ = some ad_1 ∧ 0 ≤ t15 ∧ t15 < (((Int.toNat t11) : Nat) : Int) ∧
 ∃ t27 : Int, LdN h_2 (Addr.add ad_1 (Int.toNat t15 * 1)) [Value.int .u32 t27] ∧
 ∀ t30 : Int, t30 = bitsOf .or .u32 t27 (IntKind.u32.wrap t23) →
 ∃ ad_2 : Addr, some ⟨g, 0, none⟩ = some ad_2 ∧ 0 ≤ t15 ∧ t15 < (((Int.toNat t11) : Nat) : Int) ∧
 ∃ b : Blk, h_2 (Addr.block (Addr.add ad_2 (Int.toNat t15 * 1))) = some b ∧ b.fz = (0, 0) ∧ Addr.spot (Addr.add ad_2 (Int.toNat t15 * 1)) = none ∧ Addr.off (Addr.add ad_2 (Int.toNat t15 * 1)) + 1 ≤ b.cells.length ∧
 ∀ h_3 : Heap, h_3 = Heap.put h_2 (Addr.block (Addr.add ad_2 (Int.toNat t15 * 1))) { b with cells := setSeg b.cells (Addr.off (Addr.add ad_2 (Int.toNat t15 * 1))) [Value.int .u32 t30] } →
 ∀ t34 : Int, t34 = IntKind.i64.wrap (t15 + 1) →
 ∀ t36 : Int, t36 = (Int.fdiv t23 (2 ^ (32 : Nat))) →
 ∃ ad_3 : Addr, some ⟨g, 0, none⟩ = some ad_3 ∧ 0 ≤ t34 ∧ t34 < (((Int.toNat t11) : Nat) : Int) ∧
 ∃ b_1 : Blk, h_3 (Addr.block (Addr.add ad_3 (Int.toNat t34 * 1))) = some b_1 ∧ b_1.fz = (0, 0) ∧ Addr.spot (Addr.add ad_3 (Int.toNat t34 * 1)) = none ∧ Addr.off (Addr.add ad_3 (Int.toNat t34 * 1)) + 1 ≤ b_1.cells.length ∧
 ∀ h_4 : Heap, h_4 = Heap.put h_3 (Addr.block (Addr.add ad_3 (Int.toNat t34 * 1))) { b_1 with cells := setSeg b_1.cells (Addr.off (Addr.add ad_3 (Int.toNat t34 * 1))) [Value.int .u32 (IntKind.u32.wrap t36)] } →
 ∀ t39 : Int, t39 = IntKind.i64.wrap (t15 + 1) →
 ∃ m_1, m_1 < m ∧ J m_1 t39 h_4))
  (R (Value.slice (some ⟨g, 0, none⟩) (Int.toNat t11) (Int.toNat t11)) h_2)

set_option maxRecDepth 100000 in
theorem natural_left_ok {aA : Option Addr} {an ac : Nat} {s : Int} {h : Heap} {R : Value → Heap → Prop} (hv : natural_left_vc aA an ac s h R) : CallsU Tryz.prog 75 [Value.slice aA an ac, Value.int .i64 s] h R :=
  fn_sound Tryz.func75 (by kernel_rfl) (by kernel_rfl) (by kernel_rfl) (fun _ => false) (.two .nil (.two .nil (.two (.two .nil (.one (.loop ⟨[(15, Sh.int .i64)], []⟩ .nil))) .nil))) [Value.slice aA an ac, Value.int .i64 s] h R (by kernel_rfl)
    (Eq.mp (show natural_left_vc aA an ac s h R = fnV Tryz.prog Tryz.f75 (fun _ => false) (.two .nil (.two .nil (.two (.two .nil (.one (.loop ⟨[(15, Sh.int .i64)], []⟩ .nil))) .nil))) [Value.slice aA an ac, Value.int .i64 s] h R by kernel_rfl) hv)

def natural_right_vc (aA : Option Addr) (an _ac : Nat) (s : Int) (h : Heap) (R : Value → Heap → Prop) : Prop :=
 0 ≤ ((an : Nat) : Int) ∧ ((an : Nat) : Int) ≤ ((an : Nat) : Int) ∧ ((an : Nat) : Int) * 4 ≤ 140737488355328 ∧ ((an : Nat) : Int) ≤ 9223372036854775807 ∧
 ∀ (g : Nat) (h_1 : Heap), h g = none → h_1 = Heap.put h g ⟨repV [Value.int .u32 0] (Int.toNat ((an : Nat) : Int)), 76, (0, 0)⟩ →
 ∃ J : Nat → Int → Heap → Prop, (∃ m, J m 0 h_1) ∧
 ∀ (m : Nat) (t14 : Int) (h_2 : Heap), J m t14 h_2 →
 Br (decide (t14 < ((an : Nat) : Int)))
  (∃ ad : Addr, aA = some ad ∧ 0 ≤ t14 ∧ t14 < ((an : Nat) : Int) ∧
 ∃ t18 : Int, LdN h_2 (Addr.add ad (Int.toNat t14 * 1)) [Value.int .u32 t18] ∧
 ∀ t22 : Int, t22 = IntKind.i64.wrap (t14 + 1) →
 Br (decide (t22 < ((an : Nat) : Int)))
  (∀ t29 : Int, t29 = IntKind.i64.wrap (t14 + 1) →
 ∃ ad_1 : Addr, aA = some ad_1 ∧ 0 ≤ t29 ∧ t29 < ((an : Nat) : Int) ∧
 ∃ t31 : Int, LdN h_2 (Addr.add ad_1 (Int.toNat t29 * 1)) [Value.int .u32 t31] ∧
 ∀ t33 : Int, t33 = IntKind.u64.wrap ((IntKind.u64.wrap t31) * 2 ^ (32 : Nat)) →
 ∀ t34 : Int, t34 = bitsOf .or .u64 (IntKind.u64.wrap t18) t33 →
 Br (decide (s < 0)) False
  (∀ t39 : Int, t39 = (Int.fdiv t34 (2 ^ (min (Int.toNat s) 64 : Nat))) →
 ∃ ad_2 : Addr, some ⟨g, 0, none⟩ = some ad_2 ∧ 0 ≤ t14 ∧ t14 < (((Int.toNat ((an : Nat) : Int)) : Nat) : Int) ∧
 ∃ b : Blk, h_2 (Addr.block (Addr.add ad_2 (Int.toNat t14 * 1))) = some b ∧ b.fz = (0, 0) ∧ Addr.spot (Addr.add ad_2 (Int.toNat t14 * 1)) = none ∧ Addr.off (Addr.add ad_2 (Int.toNat t14 * 1)) + 1 ≤ b.cells.length ∧
 ∀ h_3 : Heap, h_3 = Heap.put h_2 (Addr.block (Addr.add ad_2 (Int.toNat t14 * 1))) { b with cells := setSeg b.cells (Addr.off (Addr.add ad_2 (Int.toNat t14 * 1))) [Value.int .u32 (IntKind.u32.wrap t39)] } →
 ∀ t42 : Int, t42 = IntKind.i64.wrap (t14 + 1) →
 ∃ m_1, m_1 < m ∧ J m_1 t42 h_3))
  (Br (decide (s < 0)) False
  (∀ t39_1 : Int, t39_1 = (Int.fdiv (IntKind.u64.wrap t18) (2 ^ (min (Int.toNat s) 64 : Nat))) →
 ∃ ad_3 : Addr, some ⟨g, 0, none⟩ = some ad_3 ∧ 0 ≤ t14 ∧ t14 < (((Int.toNat ((an : Nat) : Int)) : Nat) : Int) ∧
 ∃ b_1 : Blk, h_2 (Addr.block (Addr.add ad_3 (Int.toNat t14 * 1))) = some b_1 ∧ b_1.fz = (0, 0) ∧ Addr.spot (Addr.add ad_3 (Int.toNat t14 * 1)) = none ∧ Addr.off (Addr.add ad_3 (Int.toNat t14 * 1)) + 1 ≤ b_1.cells.length ∧
 ∀ h_4 : Heap, h_4 = Heap.put h_2 (Addr.block (Addr.add ad_3 (Int.toNat t14 * 1))) { b_1 with cells := setSeg b_1.cells (Addr.off (Addr.add ad_3 (Int.toNat t14 * 1))) [Value.int .u32 (IntKind.u32.wrap t39_1)] } →
 ∀ t42_1 : Int, t42_1 = IntKind.i64.wrap (t14 + 1) →
 ∃ m_1, m_1 < m ∧ J m_1 t42_1 h_4)))
  (CallsU Tryz.prog 56 [Value.slice (some ⟨g, 0, none⟩) (Int.toNat ((an : Nat) : Int)) (Int.toNat ((an : Nat) : Int))] h_2 fun v h_5 =>
 ∃ t44A : Option Addr, ∃ t44n t44c : Nat, v = Value.slice t44A t44n t44c ∧
 R (Value.slice t44A t44n t44c) h_5)

set_option maxRecDepth 100000 in
theorem natural_right_ok {aA : Option Addr} {an ac : Nat} {s : Int} {h : Heap} {R : Value → Heap → Prop} (hv : natural_right_vc aA an ac s h R) : CallsU Tryz.prog 77 [Value.slice aA an ac, Value.int .i64 s] h R :=
  fn_sound Tryz.func77 (by kernel_rfl) (by kernel_rfl) (by kernel_rfl) (fun _ => false) (.two .nil (.two .nil (.two (.two .nil (.one (.loop ⟨[(14, Sh.int .i64)], []⟩ .nil))) .nil))) [Value.slice aA an ac, Value.int .i64 s] h R (by kernel_rfl)
    (Eq.mp (show natural_right_vc aA an ac s h R = fnV Tryz.prog Tryz.f77 (fun _ => false) (.two .nil (.two .nil (.two (.two .nil (.one (.loop ⟨[(14, Sh.int .i64)], []⟩ .nil))) .nil))) [Value.slice aA an ac, Value.int .i64 s] h R by kernel_rfl) hv)

def natural_digit_vc (uA : Option Addr) (un _uc : Nat) (vA : Option Addr) (vn _vc : Nat) (h : Heap) (R : Value → Heap → Prop) : Prop :=
 ∃ ad : Addr, uA = some ad ∧ 0 ≤ ((vn : Nat) : Int) ∧ ((vn : Nat) : Int) < ((un : Nat) : Int) ∧
 ∃ t23 : Int, LdN h (Addr.add ad (Int.toNat ((vn : Nat) : Int) * 1)) [Value.int .u32 t23] ∧
 ∀ t25 : Int, t25 = IntKind.u64.wrap ((IntKind.u64.wrap t23) * 2 ^ (32 : Nat)) →
 ∀ t28 : Int, t28 = IntKind.i64.wrap (((vn : Nat) : Int) - 1) →
 ∃ ad_1 : Addr, uA = some ad_1 ∧ 0 ≤ t28 ∧ t28 < ((un : Nat) : Int) ∧
 ∃ t30 : Int, LdN h (Addr.add ad_1 (Int.toNat t28 * 1)) [Value.int .u32 t30] ∧
 ∀ t32 : Int, t32 = bitsOf .or .u64 t25 (IntKind.u64.wrap t30) →
 ∀ t35 : Int, t35 = IntKind.i64.wrap (((vn : Nat) : Int) - 1) →
 ∃ ad_2 : Addr, vA = some ad_2 ∧ 0 ≤ t35 ∧ t35 < ((vn : Nat) : Int) ∧
 ∃ t37 : Int, LdN h (Addr.add ad_2 (Int.toNat t35 * 1)) [Value.int .u32 t37] ∧
 Br (decide (IntKind.u64.wrap t37 = 0)) False
  (∀ t41 : Int, t41 = IntKind.u64.wrap (Int.tdiv t32 (IntKind.u64.wrap t37)) →
 Br (decide (IntKind.u64.wrap t37 = 0)) False
  (∀ t44 : Int, t44 = (Int.tmod t32 (IntKind.u64.wrap t37)) →
 ∃ C : Int → Heap → Prop, (∀ (q : Int) (h_1 : Heap), C q h_1 →
 ∃ J : Nat → Int → Int → Int → Heap → Prop, (∃ m, J m 0 0 0 h_1) ∧
 ∀ (m : Nat) (carry : Int) (borrow : Int) (t78 : Int) (h_2 : Heap), J m carry borrow t78 h_2 →
 Br (decide (t78 < ((vn : Nat) : Int)))
  (∃ ad_3 : Addr, vA = some ad_3 ∧ 0 ≤ t78 ∧ t78 < ((vn : Nat) : Int) ∧
 ∃ t82 : Int, LdN h_2 (Addr.add ad_3 (Int.toNat t78 * 1)) [Value.int .u32 t82] ∧
 ∀ t87 : Int, t87 = IntKind.u64.wrap (q * (IntKind.u64.wrap t82)) →
 ∀ t88 : Int, t88 = IntKind.u64.wrap (carry + t87) →
 ∃ ad_4 : Addr, uA = some ad_4 ∧ 0 ≤ t78 ∧ t78 < ((un : Nat) : Int) ∧
 ∃ t92 : Int, LdN h_2 (Addr.add ad_4 (Int.toNat t78 * 1)) [Value.int .u32 t92] ∧
 ∀ t97 : Int, t97 = IntKind.u64.wrap ((IntKind.u64.wrap t92) - (IntKind.u64.wrap (IntKind.u32.wrap t88))) →
 ∀ t99 : Int, t99 = IntKind.u64.wrap (t97 - borrow) →
 ∃ ad_5 : Addr, uA = some ad_5 ∧ 0 ≤ t78 ∧ t78 < ((un : Nat) : Int) ∧
 ∃ b : Blk, h_2 (Addr.block (Addr.add ad_5 (Int.toNat t78 * 1))) = some b ∧ b.fz = (0, 0) ∧ Addr.spot (Addr.add ad_5 (Int.toNat t78 * 1)) = none ∧ Addr.off (Addr.add ad_5 (Int.toNat t78 * 1)) + 1 ≤ b.cells.length ∧
 ∀ h_3 : Heap, h_3 = Heap.put h_2 (Addr.block (Addr.add ad_5 (Int.toNat t78 * 1))) { b with cells := setSeg b.cells (Addr.off (Addr.add ad_5 (Int.toNat t78 * 1))) [Value.int .u32 (IntKind.u32.wrap t99)] } →
 ∀ t106 : Int, t106 = (Int.fdiv t99 (2 ^ (63 : Nat))) →
 ∀ t108 : Int, t108 = (Int.fdiv t88 (2 ^ (32 : Nat))) →
 ∀ t109 : Int, t109 = IntKind.i64.wrap (t78 + 1) →
 ∃ m_1, m_1 < m ∧ J m_1 t108 t106 t109 h_3)
  (∃ ad_6 : Addr, uA = some ad_6 ∧ 0 ≤ ((vn : Nat) : Int) ∧ ((vn : Nat) : Int) < ((un : Nat) : Int) ∧
 ∃ t113 : Int, LdN h_2 (Addr.add ad_6 (Int.toNat ((vn : Nat) : Int) * 1)) [Value.int .u32 t113] ∧
 ∀ t116 : Int, t116 = IntKind.u64.wrap ((IntKind.u64.wrap t113) - carry) →
 ∀ t118 : Int, t118 = IntKind.u64.wrap (t116 - borrow) →
 ∃ ad_7 : Addr, uA = some ad_7 ∧ 0 ≤ ((vn : Nat) : Int) ∧ ((vn : Nat) : Int) < ((un : Nat) : Int) ∧
 ∃ b_1 : Blk, h_2 (Addr.block (Addr.add ad_7 (Int.toNat ((vn : Nat) : Int) * 1))) = some b_1 ∧ b_1.fz = (0, 0) ∧ Addr.spot (Addr.add ad_7 (Int.toNat ((vn : Nat) : Int) * 1)) = none ∧ Addr.off (Addr.add ad_7 (Int.toNat ((vn : Nat) : Int) * 1)) + 1 ≤ b_1.cells.length ∧
 ∀ h_4 : Heap, h_4 = Heap.put h_2 (Addr.block (Addr.add ad_7 (Int.toNat ((vn : Nat) : Int) * 1))) { b_1 with cells := setSeg b_1.cells (Addr.off (Addr.add ad_7 (Int.toNat ((vn : Nat) : Int) * 1))) [Value.int .u32 (IntKind.u32.wrap t118)] } →
 ∀ t125 : Int, t125 = (Int.fdiv t118 (2 ^ (63 : Nat))) →
 Br ((t125 : Int) == 0)
  (R (Value.int .u32 (IntKind.u32.wrap q)) h_4)
  (∃ J_1 : Nat → Int → Int → Heap → Prop, (∃ m_2, J_1 m_2 0 0 h_4) ∧
 ∀ (m_2 : Nat) (carry_1 : Int) (t131 : Int) (h_5 : Heap), J_1 m_2 carry_1 t131 h_5 →
 Br (decide (t131 < ((vn : Nat) : Int)))
  (∃ ad_8 : Addr, vA = some ad_8 ∧ 0 ≤ t131 ∧ t131 < ((vn : Nat) : Int) ∧
 ∃ t135 : Int, LdN h_5 (Addr.add ad_8 (Int.toNat t131 * 1)) [Value.int .u32 t135] ∧
 ∃ ad_9 : Addr, uA = some ad_9 ∧ 0 ≤ t131 ∧ t131 < ((un : Nat) : Int) ∧
 ∃ t140 : Int, LdN h_5 (Addr.add ad_9 (Int.toNat t131 * 1)) [Value.int .u32 t140] ∧
 ∀ t144 : Int, t144 = IntKind.u64.wrap ((IntKind.u64.wrap t140) + (IntKind.u64.wrap t135)) →
 ∀ t145 : Int, t145 = IntKind.u64.wrap (carry_1 + t144) →
 ∃ ad_10 : Addr, uA = some ad_10 ∧ 0 ≤ t131 ∧ t131 < ((un : Nat) : Int) ∧
 ∃ b_2 : Blk, h_5 (Addr.block (Addr.add ad_10 (Int.toNat t131 * 1))) = some b_2 ∧ b_2.fz = (0, 0) ∧ Addr.spot (Addr.add ad_10 (Int.toNat t131 * 1)) = none ∧ Addr.off (Addr.add ad_10 (Int.toNat t131 * 1)) + 1 ≤ b_2.cells.length ∧
 ∀ h_6 : Heap, h_6 = Heap.put h_5 (Addr.block (Addr.add ad_10 (Int.toNat t131 * 1))) { b_2 with cells := setSeg b_2.cells (Addr.off (Addr.add ad_10 (Int.toNat t131 * 1))) [Value.int .u32 (IntKind.u32.wrap t145)] } →
 ∀ t152 : Int, t152 = (Int.fdiv t145 (2 ^ (32 : Nat))) →
 ∀ t153 : Int, t153 = IntKind.i64.wrap (t131 + 1) →
 ∃ m_3, m_3 < m_2 ∧ J_1 m_3 t152 t153 h_6)
  (∃ ad_11 : Addr, uA = some ad_11 ∧ 0 ≤ ((vn : Nat) : Int) ∧ ((vn : Nat) : Int) < ((un : Nat) : Int) ∧
 ∃ t157 : Int, LdN h_5 (Addr.add ad_11 (Int.toNat ((vn : Nat) : Int) * 1)) [Value.int .u32 t157] ∧
 ∀ t160 : Int, t160 = IntKind.u32.wrap (t157 + (IntKind.u32.wrap carry_1)) →
 ∃ ad_12 : Addr, uA = some ad_12 ∧ 0 ≤ ((vn : Nat) : Int) ∧ ((vn : Nat) : Int) < ((un : Nat) : Int) ∧
 ∃ b_3 : Blk, h_5 (Addr.block (Addr.add ad_12 (Int.toNat ((vn : Nat) : Int) * 1))) = some b_3 ∧ b_3.fz = (0, 0) ∧ Addr.spot (Addr.add ad_12 (Int.toNat ((vn : Nat) : Int) * 1)) = none ∧ Addr.off (Addr.add ad_12 (Int.toNat ((vn : Nat) : Int) * 1)) + 1 ≤ b_3.cells.length ∧
 ∀ h_7 : Heap, h_7 = Heap.put h_5 (Addr.block (Addr.add ad_12 (Int.toNat ((vn : Nat) : Int) * 1))) { b_3 with cells := setSeg b_3.cells (Addr.off (Addr.add ad_12 (Int.toNat ((vn : Nat) : Int) * 1))) [Value.int .u32 t160] } →
 ∀ t163 : Int, t163 = IntKind.u64.wrap (q - 1) →
 R (Value.int .u32 (IntKind.u32.wrap t163)) h_7)))) ∧
 ∃ J_2 : Nat → Int → Int → Heap → Prop, (∃ m_4, J_2 m_4 t41 t44 h) ∧
 ∀ (m_4 : Nat) (q_1 : Int) (r : Int) (h_8 : Heap), J_2 m_4 q_1 r h_8 →
 Br (decide (r < 4294967296))
  (Br (decide (q_1 ≥ 4294967296))
  (∀ t72 : Int, t72 = IntKind.u64.wrap (q_1 - 1) →
 ∀ t75 : Int, t75 = IntKind.u64.wrap (r + (IntKind.u64.wrap t37)) →
 ∃ m_5, m_5 < m_4 ∧ J_2 m_5 t72 t75 h_8)
  (∀ t54 : Int, t54 = IntKind.i64.wrap (((vn : Nat) : Int) - 2) →
 ∃ ad_13 : Addr, vA = some ad_13 ∧ 0 ≤ t54 ∧ t54 < ((vn : Nat) : Int) ∧
 ∃ t56 : Int, LdN h_8 (Addr.add ad_13 (Int.toNat t54 * 1)) [Value.int .u32 t56] ∧
 ∀ t58 : Int, t58 = IntKind.u64.wrap (q_1 * (IntKind.u64.wrap t56)) →
 ∀ t60 : Int, t60 = IntKind.u64.wrap (r * 2 ^ (32 : Nat)) →
 ∀ t63 : Int, t63 = IntKind.i64.wrap (((vn : Nat) : Int) - 2) →
 ∃ ad_14 : Addr, uA = some ad_14 ∧ 0 ≤ t63 ∧ t63 < ((un : Nat) : Int) ∧
 ∃ t65 : Int, LdN h_8 (Addr.add ad_14 (Int.toNat t63 * 1)) [Value.int .u32 t65] ∧
 ∀ t67 : Int, t67 = bitsOf .or .u64 t60 (IntKind.u64.wrap t65) →
 Br (decide (t58 > t67))
  (∀ t72_1 : Int, t72_1 = IntKind.u64.wrap (q_1 - 1) →
 ∀ t75_1 : Int, t75_1 = IntKind.u64.wrap (r + (IntKind.u64.wrap t37)) →
 ∃ m_5, m_5 < m_4 ∧ J_2 m_5 t72_1 t75_1 h_8)
  (C q_1 h_8)))
  (C q_1 h_8)))

set_option maxRecDepth 100000 in
theorem natural_digit_ok {uA : Option Addr} {un uc : Nat} {vA : Option Addr} {vn vc : Nat} {h : Heap} {R : Value → Heap → Prop} (hv : natural_digit_vc uA un uc vA vn vc h R) : CallsU Tryz.prog 76 [Value.slice uA un uc, Value.slice vA vn vc] h R :=
  fn_sound Tryz.func76 (by kernel_rfl) (by kernel_rfl) (by kernel_rfl) (fun _ => false) (.two .nil (.two .nil (.two (.ord [0, 1, 2, 3, 4, 5, 6, 7, 8, 9, 10, 11, 12, 13, 14, 15, 16, 17, 18, 19, 20]) (.two (.ord [0, 1, 2, 3, 4, 5, 6, 7]) (.cut ⟨[(8, Sh.int .u64)], []⟩ (.one (.loop ⟨[(8, Sh.int .u64), (9, Sh.int .u64)], []⟩ (.two (.two (.ord [0, 1, 2, 3, 4, 5, 6, 7, 8, 9, 10, 11, 12, 13, 14, 15, 16, 17, 18, 19, 20, 21, 22, 23, 24, 25]) .nil) .nil))) (.two .nil (.two (.two .nil (.one (.loop ⟨[(10, Sh.int .u64), (11, Sh.int .u64), (78, Sh.int .i64)], []⟩ .nil))) (.two .nil (.two .nil (.two .nil (.two .nil (.two (.two .nil (.one (.loop ⟨[(10, Sh.int .u64), (131, Sh.int .i64)], []⟩ .nil))) .nil)))))))))))) [Value.slice uA un uc, Value.slice vA vn vc] h R (by kernel_rfl)
    (Eq.mp (show natural_digit_vc uA un uc vA vn vc h R = fnV Tryz.prog Tryz.f76 (fun _ => false) (.two .nil (.two .nil (.two (.ord [0, 1, 2, 3, 4, 5, 6, 7, 8, 9, 10, 11, 12, 13, 14, 15, 16, 17, 18, 19, 20]) (.two (.ord [0, 1, 2, 3, 4, 5, 6, 7]) (.cut ⟨[(8, Sh.int .u64)], []⟩ (.one (.loop ⟨[(8, Sh.int .u64), (9, Sh.int .u64)], []⟩ (.two (.two (.ord [0, 1, 2, 3, 4, 5, 6, 7, 8, 9, 10, 11, 12, 13, 14, 15, 16, 17, 18, 19, 20, 21, 22, 23, 24, 25]) .nil) .nil))) (.two .nil (.two (.two .nil (.one (.loop ⟨[(10, Sh.int .u64), (11, Sh.int .u64), (78, Sh.int .i64)], []⟩ .nil))) (.two .nil (.two .nil (.two .nil (.two .nil (.two (.two .nil (.one (.loop ⟨[(10, Sh.int .u64), (131, Sh.int .i64)], []⟩ .nil))) .nil)))))))))))) [Value.slice uA un uc, Value.slice vA vn vc] h R by kernel_rfl) hv)

def natural_DivMod_vc (aA : Option Addr) (an ac : Nat) (bA : Option Addr) (bn bc : Nat) (h : Heap) (R : Value → Heap → Prop) : Prop :=
 CallsU Tryz.prog 56 [Value.slice aA an ac] h fun v h_1 =>
 ∃ t16A : Option Addr, ∃ t16n t16c : Nat, v = Value.slice t16A t16n t16c ∧
 CallsU Tryz.prog 56 [Value.slice bA bn bc] h_1 fun v_1 h_2 =>
 ∃ t18A : Option Addr, ∃ t18n t18c : Nat, v_1 = Value.slice t18A t18n t18c ∧
 Br ((((t18n : Nat) : Int) : Int) == 0)
  (R (Value.tuple #[Value.slice none 0 0, Value.slice none 0 0, Value.bool false]) h_2)
  (CallsU Tryz.prog 47 [Value.slice t16A t16n t16c, Value.slice t18A t18n t18c] h_2 fun v_2 h_3 =>
 ∃ t26 : Int, v_2 = Value.int .i64 t26 ∧
 Br (decide (t26 < 0))
  (CallsU Tryz.prog 73 [Value.slice t16A t16n t16c] h_3 fun v_3 h_4 =>
 ∃ t29A : Option Addr, ∃ t29n t29c : Nat, v_3 = Value.slice t29A t29n t29c ∧
 R (Value.tuple #[Value.slice none 0 0, Value.slice t29A t29n t29c, Value.bool true]) h_4)
  (Br ((((t18n : Nat) : Int) : Int) == 1)
  (∃ ad : Addr, t18A = some ad ∧ 0 ≤ (0 : Int) ∧ (0 : Int) < ((t18n : Nat) : Int) ∧
 ∃ t38 : Int, LdN h_3 (Addr.add ad (0 * 1)) [Value.int .u32 t38] ∧
 CallsU Tryz.prog 68 [Value.slice t16A t16n t16c, Value.int .u32 t38] h_3 fun v_4 h_5 =>
 ∃ t39_0A : Option Addr, ∃ t39_0n t39_0c : Nat, ∃ t39_1 : Int, v_4 = Value.tuple #[Value.slice t39_0A t39_0n t39_0c, Value.int .u32 t39_1] ∧
 CallsU Tryz.prog 30 [Value.int .u64 (IntKind.u64.wrap t39_1)] h_5 fun v_5 h_6 =>
 ∃ t45A : Option Addr, ∃ t45n t45c : Nat, v_5 = Value.slice t45A t45n t45c ∧
 R (Value.tuple #[Value.slice t39_0A t39_0n t39_0c, Value.slice t45A t45n t45c, Value.bool true]) h_6)
  (∀ t50 : Int, t50 = IntKind.i64.wrap (((t18n : Nat) : Int) - 1) →
 ∃ ad_1 : Addr, t18A = some ad_1 ∧ 0 ≤ t50 ∧ t50 < ((t18n : Nat) : Int) ∧
 ∃ t52 : Int, LdN h_3 (Addr.add ad_1 (Int.toNat t50 * 1)) [Value.int .u32 t52] ∧
 CallsU Tryz.prog 74 [Value.int .u32 t52] h_3 fun v_6 h_7 =>
 ∃ t53 : Int, v_6 = Value.int .i64 t53 ∧
 CallsU Tryz.prog 75 [Value.slice t16A t16n t16c, Value.int .i64 t53] h_7 fun v_7 h_8 =>
 ∃ t56A : Option Addr, ∃ t56n t56c : Nat, v_7 = Value.slice t56A t56n t56c ∧
 CallsU Tryz.prog 75 [Value.slice t18A t18n t18c, Value.int .i64 t53] h_8 fun v_8 h_9 =>
 ∃ t59A : Option Addr, ∃ t59n t59c : Nat, v_8 = Value.slice t59A t59n t59c ∧
 ((0 : Nat) : Int) ≤ ((t18n : Nat) : Int) ∧ ((t18n : Nat) : Int) ≤ ((t59c : Nat) : Int) ∧
 ∀ t65 : Int, t65 = IntKind.i64.wrap (((t56n : Nat) : Int) - ((t18n : Nat) : Int)) →
 0 ≤ t65 ∧ t65 ≤ t65 ∧ t65 * 4 ≤ 140737488355328 ∧ t65 ≤ 9223372036854775807 ∧
 ∀ (g : Nat) (h_10 : Heap), h_9 g = none → h_10 = Heap.put h_9 g ⟨repV [Value.int .u32 0] (Int.toNat t65), 76, (0, 0)⟩ →
 ∀ t69 : Int, t69 = IntKind.i64.wrap ((((Int.toNat t65) : Nat) : Int) - 1) →
 ∃ J : Nat → Int → Heap → Prop, (∃ m, J m t69 h_10) ∧
 ∀ (m : Nat) (i : Int) (h_11 : Heap), J m i h_11 →
 Br (decide (i ≥ 0))
  (∀ t80 : Int, t80 = IntKind.i64.wrap (i + ((t18n : Nat) : Int)) →
 ∀ t81 : Int, t81 = IntKind.i64.wrap (t80 + 1) →
 ((0 : Nat) : Int) ≤ t81 ∧ t81 ≤ ((t56c : Nat) : Int) ∧
 ((0 : Nat) : Int) ≤ i ∧ i ≤ (((Int.toNat t81) : Nat) : Int) ∧
 CallsU Tryz.prog 76 [Value.slice (if t56c = (Int.toNat i) then t56A else Option.map (fun x => Addr.add x ((Int.toNat i) * 1)) t56A) ((Int.toNat t81) - (Int.toNat i)) (t56c - (Int.toNat i)), Value.slice t59A (Int.toNat ((t18n : Nat) : Int)) t59c] h_11 fun v_9 h_12 =>
 ∃ t84 : Int, v_9 = Value.int .u32 t84 ∧
 ∃ ad_2 : Addr, some ⟨g, 0, none⟩ = some ad_2 ∧ 0 ≤ i ∧ i < (((Int.toNat t65) : Nat) : Int) ∧
 ∃ b : Blk, h_12 (Addr.block (Addr.add ad_2 (Int.toNat i * 1))) = some b ∧ b.fz = (0, 0) ∧ Addr.spot (Addr.add ad_2 (Int.toNat i * 1)) = none ∧ Addr.off (Addr.add ad_2 (Int.toNat i * 1)) + 1 ≤ b.cells.length ∧
 ∀ h_13 : Heap, h_13 = Heap.put h_12 (Addr.block (Addr.add ad_2 (Int.toNat i * 1))) { b with cells := setSeg b.cells (Addr.off (Addr.add ad_2 (Int.toNat i * 1))) [Value.int .u32 t84] } →
 ∀ t73 : Int, t73 = IntKind.i64.wrap (i - 1) →
 ∃ m_1, m_1 < m ∧ J m_1 t73 h_13)
  (((0 : Nat) : Int) ≤ ((t18n : Nat) : Int) ∧ ((t18n : Nat) : Int) ≤ ((t56c : Nat) : Int) ∧
 CallsU Tryz.prog 56 [Value.slice (some ⟨g, 0, none⟩) (Int.toNat t65) (Int.toNat t65)] h_11 fun v_10 h_14 =>
 ∃ t87A : Option Addr, ∃ t87n t87c : Nat, v_10 = Value.slice t87A t87n t87c ∧
 CallsU Tryz.prog 77 [Value.slice t56A (Int.toNat ((t18n : Nat) : Int)) t56c, Value.int .i64 t53] h_14 fun v_11 h_15 =>
 ∃ t92A : Option Addr, ∃ t92n t92c : Nat, v_11 = Value.slice t92A t92n t92c ∧
 R (Value.tuple #[Value.slice t87A t87n t87c, Value.slice t92A t92n t92c, Value.bool true]) h_15))))

set_option maxRecDepth 100000 in
theorem natural_DivMod_ok {aA : Option Addr} {an ac : Nat} {bA : Option Addr} {bn bc : Nat} {h : Heap} {R : Value → Heap → Prop} (hv : natural_DivMod_vc aA an ac bA bn bc h R) : CallsU Tryz.prog 50 [Value.slice aA an ac, Value.slice bA bn bc] h R :=
  fn_sound Tryz.func50 (by kernel_rfl) (by kernel_rfl) (by kernel_rfl) (fun _ => false) (.two .nil (.two .nil (.two .nil (.two .nil (.two .nil (.two (.ord [0, 1, 3, 4, 6, 2, 5, 7, 8, 9]) (.two .nil (.two (.two .nil (.one (.loop ⟨[(14, Sh.int .i64)], []⟩ .nil))) (.two (.ord [0, 2, 3, 4, 5, 1, 6, 7, 8, 9]) .nil))))))))) [Value.slice aA an ac, Value.slice bA bn bc] h R (by kernel_rfl)
    (Eq.mp (show natural_DivMod_vc aA an ac bA bn bc h R = fnV Tryz.prog Tryz.f50 (fun _ => false) (.two .nil (.two .nil (.two .nil (.two .nil (.two .nil (.two (.ord [0, 1, 3, 4, 6, 2, 5, 7, 8, 9]) (.two .nil (.two (.two .nil (.one (.loop ⟨[(14, Sh.int .i64)], []⟩ .nil))) (.two (.ord [0, 2, 3, 4, 5, 1, 6, 7, 8, 9]) .nil))))))))) [Value.slice aA an ac, Value.slice bA bn bc] h R by kernel_rfl) hv)

def natural_Gcd_vc (aA : Option Addr) (an ac : Nat) (bA : Option Addr) (bn bc : Nat) (h : Heap) (R : Value → Heap → Prop) : Prop :=
 CallsU Tryz.prog 73 [Value.slice aA an ac] h fun v h_1 =>
 ∃ t9A : Option Addr, ∃ t9n t9c : Nat, v = Value.slice t9A t9n t9c ∧
 CallsU Tryz.prog 73 [Value.slice bA bn bc] h_1 fun v_1 h_2 =>
 ∃ t11A : Option Addr, ∃ t11n t11c : Nat, v_1 = Value.slice t11A t11n t11c ∧
 ∃ J : Nat → Option Addr → Nat → Nat → Option Addr → Nat → Nat → Heap → Prop, (∃ m, J m t9A t9n t9c t11A t11n t11c h_2) ∧
 ∀ (m : Nat) (aA_1 : Option Addr) (an_1 ac_1 : Nat) (bA_1 : Option Addr) (bn_1 bc_1 : Nat) (h_3 : Heap), J m aA_1 an_1 ac_1 bA_1 bn_1 bc_1 h_3 →
 Br (decide (((bn_1 : Nat) : Int) > 0))
  (CallsU Tryz.prog 50 [Value.slice aA_1 an_1 ac_1, Value.slice bA_1 bn_1 bc_1] h_3 fun v_2 h_4 =>
 ∃ t18_0A : Option Addr, ∃ t18_0n t18_0c : Nat, ∃ t18_1A : Option Addr, ∃ t18_1n t18_1c : Nat, ∃ t18_2 : Bool, v_2 = Value.tuple #[Value.slice t18_0A t18_0n t18_0c, Value.slice t18_1A t18_1n t18_1c, Value.bool t18_2] ∧
 ∃ m_1, m_1 < m ∧ J m_1 bA_1 bn_1 bc_1 t18_1A t18_1n t18_1c h_4)
  (R (Value.slice aA_1 an_1 ac_1) h_3)

set_option maxRecDepth 100000 in
theorem natural_Gcd_ok {aA : Option Addr} {an ac : Nat} {bA : Option Addr} {bn bc : Nat} {h : Heap} {R : Value → Heap → Prop} (hv : natural_Gcd_vc aA an ac bA bn bc h R) : CallsU Tryz.prog 63 [Value.slice aA an ac, Value.slice bA bn bc] h R :=
  fn_sound Tryz.func63 (by kernel_rfl) (by kernel_rfl) (by kernel_rfl) (fun _ => false) (.two .nil (.two .nil (.two (.one (.loop ⟨[(0, Sh.slice), (1, Sh.slice)], []⟩ .nil)) .nil))) [Value.slice aA an ac, Value.slice bA bn bc] h R (by kernel_rfl)
    (Eq.mp (show natural_Gcd_vc aA an ac bA bn bc h R = fnV Tryz.prog Tryz.f63 (fun _ => false) (.two .nil (.two .nil (.two (.one (.loop ⟨[(0, Sh.slice), (1, Sh.slice)], []⟩ .nil)) .nil))) [Value.slice aA an ac, Value.slice bA bn bc] h R by kernel_rfl) hv)

def cmp_Compare_int_vc (x_1 : Int) (y : Int) (h : Heap) (R : Value → Heap → Prop) : Prop :=
 CallsU Tryz.prog 89 [Value.int .i64 x_1] h fun v h_1 =>
 ∃ t8 : Bool, v = Value.bool t8 ∧
 CallsU Tryz.prog 89 [Value.int .i64 y] h_1 fun v_1 h_2 =>
 ∃ t10 : Bool, v_1 = Value.bool t10 ∧
 Br (t8)
  (Br (t10)
  (R (Value.int .i64 0) h_2)
  (R (Value.int .i64 (-1)) h_2))
  (Br (t10)
  (R (Value.int .i64 1) h_2)
  (Br (decide (x_1 < y))
  (R (Value.int .i64 (-1)) h_2)
  (Br (decide (x_1 > y))
  (R (Value.int .i64 1) h_2)
  (R (Value.int .i64 0) h_2))))

set_option maxRecDepth 100000 in
theorem cmp_Compare_int_ok {x_1 : Int} {y : Int} {h : Heap} {R : Value → Heap → Prop} (hv : cmp_Compare_int_vc x_1 y h R) : CallsU Tryz.prog 66 [Value.int .i64 x_1, Value.int .i64 y] h R :=
  fn_sound Tryz.func66 (by kernel_rfl) (by kernel_rfl) (by kernel_rfl) (fun _ => false) .nil [Value.int .i64 x_1, Value.int .i64 y] h R (by kernel_rfl)
    (Eq.mp (show cmp_Compare_int_vc x_1 y h R = fnV Tryz.prog Tryz.f66 (fun _ => false) .nil [Value.int .i64 x_1, Value.int .i64 y] h R by kernel_rfl) hv)

def cmp_Compare_uint32_vc (x_1 : Int) (y : Int) (h : Heap) (R : Value → Heap → Prop) : Prop :=
 CallsU Tryz.prog 90 [Value.int .u32 x_1] h fun v h_1 =>
 ∃ t8 : Bool, v = Value.bool t8 ∧
 CallsU Tryz.prog 90 [Value.int .u32 y] h_1 fun v_1 h_2 =>
 ∃ t10 : Bool, v_1 = Value.bool t10 ∧
 Br (t8)
  (Br (t10)
  (R (Value.int .i64 0) h_2)
  (R (Value.int .i64 (-1)) h_2))
  (Br (t10)
  (R (Value.int .i64 1) h_2)
  (Br (decide (x_1 < y))
  (R (Value.int .i64 (-1)) h_2)
  (Br (decide (x_1 > y))
  (R (Value.int .i64 1) h_2)
  (R (Value.int .i64 0) h_2))))

set_option maxRecDepth 100000 in
theorem cmp_Compare_uint32_ok {x_1 : Int} {y : Int} {h : Heap} {R : Value → Heap → Prop} (hv : cmp_Compare_uint32_vc x_1 y h R) : CallsU Tryz.prog 67 [Value.int .u32 x_1, Value.int .u32 y] h R :=
  fn_sound Tryz.func67 (by kernel_rfl) (by kernel_rfl) (by kernel_rfl) (fun _ => false) .nil [Value.int .u32 x_1, Value.int .u32 y] h R (by kernel_rfl)
    (Eq.mp (show cmp_Compare_uint32_vc x_1 y h R = fnV Tryz.prog Tryz.f67 (fun _ => false) .nil [Value.int .u32 x_1, Value.int .u32 y] h R by kernel_rfl) hv)

def cmp_isNaN_int_vc (x_1 : Int) (h : Heap) (R : Value → Heap → Prop) : Prop :=
 R (Value.bool ((x_1 : Int) != x_1)) h

set_option maxRecDepth 100000 in
theorem cmp_isNaN_int_ok {x_1 : Int} {h : Heap} {R : Value → Heap → Prop} (hv : cmp_isNaN_int_vc x_1 h R) : CallsU Tryz.prog 89 [Value.int .i64 x_1] h R :=
  fn_sound Tryz.func89 (by kernel_rfl) (by kernel_rfl) (by kernel_rfl) (fun _ => false) .nil [Value.int .i64 x_1] h R (by kernel_rfl)
    (Eq.mp (show cmp_isNaN_int_vc x_1 h R = fnV Tryz.prog Tryz.f89 (fun _ => false) .nil [Value.int .i64 x_1] h R by kernel_rfl) hv)

def cmp_isNaN_uint32_vc (x_1 : Int) (h : Heap) (R : Value → Heap → Prop) : Prop :=
 R (Value.bool ((x_1 : Int) != x_1)) h

set_option maxRecDepth 100000 in
theorem cmp_isNaN_uint32_ok {x_1 : Int} {h : Heap} {R : Value → Heap → Prop} (hv : cmp_isNaN_uint32_vc x_1 h R) : CallsU Tryz.prog 90 [Value.int .u32 x_1] h R :=
  fn_sound Tryz.func90 (by kernel_rfl) (by kernel_rfl) (by kernel_rfl) (fun _ => false) .nil [Value.int .u32 x_1] h R (by kernel_rfl)
    (Eq.mp (show cmp_isNaN_uint32_vc x_1 h R = fnV Tryz.prog Tryz.f90 (fun _ => false) .nil [Value.int .u32 x_1] h R by kernel_rfl) hv)

def math_bits_LeadingZeros32_vc (x_1 : Int) (h : Heap) (R : Value → Heap → Prop) : Prop :=
 CallsU Tryz.prog 98 [Value.int .u32 x_1] h fun v h_1 =>
 ∃ t4 : Int, v = Value.int .i64 t4 ∧
 ∀ t5 : Int, t5 = IntKind.i64.wrap (32 - t4) →
 R (Value.int .i64 t5) h_1

set_option maxRecDepth 100000 in
theorem math_bits_LeadingZeros32_ok {x_1 : Int} {h : Heap} {R : Value → Heap → Prop} (hv : math_bits_LeadingZeros32_vc x_1 h R) : CallsU Tryz.prog 74 [Value.int .u32 x_1] h R :=
  fn_sound Tryz.func74 (by kernel_rfl) (by kernel_rfl) (by kernel_rfl) (fun _ => false) .nil [Value.int .u32 x_1] h R (by kernel_rfl)
    (Eq.mp (show math_bits_LeadingZeros32_vc x_1 h R = fnV Tryz.prog Tryz.f74 (fun _ => false) .nil [Value.int .u32 x_1] h R by kernel_rfl) hv)

def math_bits_Len32_vc (x_1 : Int) (h : Heap) (R : Value → Heap → Prop) : Prop :=
 ∃ C : Int → Int → Heap → Prop, (∀ (x_2 : Int) (n : Int) (h_1 : Heap), C x_2 n h_1 →
 Br (decide (x_2 ≥ 256))
  (∀ t10 : Int, t10 = (Int.fdiv x_2 (2 ^ (8 : Nat))) →
 ∀ t12 : Int, t12 = IntKind.i64.wrap (n + 8) →
 ∃ c : UInt8, 0 ≤ IntKind.u8.wrap t10 ∧ (⟨#[0, 1, 2, 2, 3, 3, 3, 3, 4, 4, 4, 4, 4, 4, 4, 4, 5, 5, 5, 5, 5, 5, 5, 5, 5, 5, 5, 5, 5, 5, 5, 5, 6, 6, 6, 6, 6, 6, 6, 6, 6, 6, 6, 6, 6, 6, 6, 6, 6, 6, 6, 6, 6, 6, 6, 6, 6, 6, 6, 6, 6, 6, 6, 6, 7, 7, 7, 7, 7, 7, 7, 7, 7, 7, 7, 7, 7, 7, 7, 7, 7, 7, 7, 7, 7, 7, 7, 7, 7, 7, 7, 7, 7, 7, 7, 7, 7, 7, 7, 7, 7, 7, 7, 7, 7, 7, 7, 7, 7, 7, 7, 7, 7, 7, 7, 7, 7, 7, 7, 7, 7, 7, 7, 7, 7, 7, 7, 7, 8, 8, 8, 8, 8, 8, 8, 8, 8, 8, 8, 8, 8, 8, 8, 8, 8, 8, 8, 8, 8, 8, 8, 8, 8, 8, 8, 8, 8, 8, 8, 8, 8, 8, 8, 8, 8, 8, 8, 8, 8, 8, 8, 8, 8, 8, 8, 8, 8, 8, 8, 8, 8, 8, 8, 8, 8, 8, 8, 8, 8, 8, 8, 8, 8, 8, 8, 8, 8, 8, 8, 8, 8, 8, 8, 8, 8, 8, 8, 8, 8, 8, 8, 8, 8, 8, 8, 8, 8, 8, 8, 8, 8, 8, 8, 8, 8, 8, 8, 8, 8, 8, 8, 8, 8, 8, 8, 8, 8, 8, 8, 8, 8, 8, 8, 8, 8, 8, 8, 8, 8, 8, 8, 8, 8, 8, 8, 8]⟩ : ByteArray)[(Int.toNat (IntKind.u8.wrap t10) : Nat)]? = some c ∧
 ∀ t18 : Int, t18 = IntKind.i64.wrap (t12 + (IntKind.i64.wrap (c.toNat : Int))) →
 R (Value.int .i64 t18) h_1)
  (∃ c_1 : UInt8, 0 ≤ IntKind.u8.wrap x_2 ∧ (⟨#[0, 1, 2, 2, 3, 3, 3, 3, 4, 4, 4, 4, 4, 4, 4, 4, 5, 5, 5, 5, 5, 5, 5, 5, 5, 5, 5, 5, 5, 5, 5, 5, 6, 6, 6, 6, 6, 6, 6, 6, 6, 6, 6, 6, 6, 6, 6, 6, 6, 6, 6, 6, 6, 6, 6, 6, 6, 6, 6, 6, 6, 6, 6, 6, 7, 7, 7, 7, 7, 7, 7, 7, 7, 7, 7, 7, 7, 7, 7, 7, 7, 7, 7, 7, 7, 7, 7, 7, 7, 7, 7, 7, 7, 7, 7, 7, 7, 7, 7, 7, 7, 7, 7, 7, 7, 7, 7, 7, 7, 7, 7, 7, 7, 7, 7, 7, 7, 7, 7, 7, 7, 7, 7, 7, 7, 7, 7, 7, 8, 8, 8, 8, 8, 8, 8, 8, 8, 8, 8, 8, 8, 8, 8, 8, 8, 8, 8, 8, 8, 8, 8, 8, 8, 8, 8, 8, 8, 8, 8, 8, 8, 8, 8, 8, 8, 8, 8, 8, 8, 8, 8, 8, 8, 8, 8, 8, 8, 8, 8, 8, 8, 8, 8, 8, 8, 8, 8, 8, 8, 8, 8, 8, 8, 8, 8, 8, 8, 8, 8, 8, 8, 8, 8, 8, 8, 8, 8, 8, 8, 8, 8, 8, 8, 8, 8, 8, 8, 8, 8, 8, 8, 8, 8, 8, 8, 8, 8, 8, 8, 8, 8, 8, 8, 8, 8, 8, 8, 8, 8, 8, 8, 8, 8, 8, 8, 8, 8, 8, 8, 8, 8, 8, 8, 8, 8, 8]⟩ : ByteArray)[(Int.toNat (IntKind.u8.wrap x_2) : Nat)]? = some c_1 ∧
 ∀ t18_1 : Int, t18_1 = IntKind.i64.wrap (n + (IntKind.i64.wrap (c_1.toNat : Int))) →
 R (Value.int .i64 t18_1) h_1)) ∧
 Br (decide (x_1 ≥ 65536))
  (∀ t6 : Int, t6 = (Int.fdiv x_1 (2 ^ (16 : Nat))) →
 C t6 16 h)
  (C x_1 0 h)

set_option maxRecDepth 100000 in
theorem math_bits_Len32_ok {x_1 : Int} {h : Heap} {R : Value → Heap → Prop} (hv : math_bits_Len32_vc x_1 h R) : CallsU Tryz.prog 98 [Value.int .u32 x_1] h R :=
  fn_sound Tryz.func98 (by kernel_rfl) (by kernel_rfl) (by kernel_rfl) (fun _ => false) (.two .nil (.cut ⟨[(0, Sh.int .u32), (2, Sh.int .i64)], []⟩ .nil .nil)) [Value.int .u32 x_1] h R (by kernel_rfl)
    (Eq.mp (show math_bits_Len32_vc x_1 h R = fnV Tryz.prog Tryz.f98 (fun _ => false) (.two .nil (.cut ⟨[(0, Sh.int .u32), (2, Sh.int .i64)], []⟩ .nil .nil)) [Value.int .u32 x_1] h R by kernel_rfl) hv)

end Go.Proofs.YtfhipkdcekffaaaGreatDoor
