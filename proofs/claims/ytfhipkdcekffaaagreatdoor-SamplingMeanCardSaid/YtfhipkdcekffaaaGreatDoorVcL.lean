/- Made by vcgen.py: verification conditions of functions, each held against the calculator by the kernel. -/
import Derived.Test.YtfhipkdcekffaaaGreatDoorVcg4
import Derived.Test.YtfhipkdcekffaaaGreatDoorChecked
namespace Go.Proofs.YtfhipkdcekffaaaGreatDoor
open Go Go.Vcg

def law53_SamplingExactly_vc (p_0 : Int) (p_1 : Int) (x_0 : Int) (x_1 : Int) (x_2 : Int) (h : Heap) (R : Value → Heap → Prop) : Prop :=
 CallsU Tryz.prog 6 [Value.agg #[Value.int .i64 x_0, Value.int .i64 x_1, Value.int .i64 x_2]] h fun v h_1 =>
 ∃ t14 : Bool, v = Value.bool t14 ∧
 Br (!t14)
  (CallsU Tryz.prog 7 [] h_1 fun v_1 h_2 =>
 ∃ t16 : Bool, v_1 = Value.bool t16 ∧
 R (Value.bool t16) h_2)
  (CallsU Tryz.prog 8 [Value.agg #[Value.int .i64 p_0, Value.int .i64 p_1], Value.int .i64 x_0, Value.int .i64 x_1, Value.int .i64 x_2] h_1 fun v_2 h_3 =>
 ∃ t25_0_0 : Bool, ∃ t25_0_1A : Option Addr, ∃ t25_0_1n t25_0_1c : Nat, ∃ t25_0_2A : Option Addr, ∃ t25_0_2n t25_0_2c : Nat, ∃ t25_1 : Int, v_2 = Value.tuple #[Value.agg #[Value.bool t25_0_0, Value.slice t25_0_1A t25_0_1n t25_0_1c, Value.slice t25_0_2A t25_0_2n t25_0_2c], Value.int .i64 t25_1] ∧
 CallsU Tryz.prog 9 [Value.agg #[Value.int .i64 p_0, Value.int .i64 p_1], Value.int .i64 x_0, Value.int .i64 x_1, Value.int .i64 x_2] h_3 fun v_3 h_4 =>
 ∃ t36_0_0 : Bool, ∃ t36_0_1A : Option Addr, ∃ t36_0_1n t36_0_1c : Nat, ∃ t36_0_2A : Option Addr, ∃ t36_0_2n t36_0_2c : Nat, ∃ t36_1 : Int, v_3 = Value.tuple #[Value.agg #[Value.bool t36_0_0, Value.slice t36_0_1A t36_0_1n t36_0_1c, Value.slice t36_0_2A t36_0_2n t36_0_2c], Value.int .i64 t36_1] ∧
 CallsU Tryz.prog 10 [Value.agg #[Value.int .i64 p_0, Value.int .i64 p_1], Value.int .i64 x_0, Value.int .i64 x_1] h_4 fun v_4 h_5 =>
 ∃ t45_0_0 : Bool, ∃ t45_0_1A : Option Addr, ∃ t45_0_1n t45_0_1c : Nat, ∃ t45_0_2A : Option Addr, ∃ t45_0_2n t45_0_2c : Nat, ∃ t45_1 : Int, v_4 = Value.tuple #[Value.agg #[Value.bool t45_0_0, Value.slice t45_0_1A t45_0_1n t45_0_1c, Value.slice t45_0_2A t45_0_2n t45_0_2c], Value.int .i64 t45_1] ∧
 CallsU Tryz.prog 11 [Value.agg #[Value.int .i64 p_0, Value.int .i64 p_1], Value.int .i64 x_0, Value.int .i64 x_1] h_5 fun v_5 h_6 =>
 ∃ t54_0_0 : Bool, ∃ t54_0_1A : Option Addr, ∃ t54_0_1n t54_0_1c : Nat, ∃ t54_0_2A : Option Addr, ∃ t54_0_2n t54_0_2c : Nat, ∃ t54_1 : Int, v_5 = Value.tuple #[Value.agg #[Value.bool t54_0_0, Value.slice t54_0_1A t54_0_1n t54_0_1c, Value.slice t54_0_2A t54_0_2n t54_0_2c], Value.int .i64 t54_1] ∧
 Br ((t25_1 : Int) == t36_1)
  (Br ((t45_1 : Int) == t54_1)
  (CallsU Tryz.prog 12 [Value.agg #[Value.bool t25_0_0, Value.slice t25_0_1A t25_0_1n t25_0_1c, Value.slice t25_0_2A t25_0_2n t25_0_2c], Value.agg #[Value.bool t36_0_0, Value.slice t36_0_1A t36_0_1n t36_0_1c, Value.slice t36_0_2A t36_0_2n t36_0_2c]] h_6 fun v_6 h_7 =>
 ∃ t68 : Bool, v_6 = Value.bool t68 ∧
 Br (t68)
  (CallsU Tryz.prog 12 [Value.agg #[Value.bool t45_0_0, Value.slice t45_0_1A t45_0_1n t45_0_1c, Value.slice t45_0_2A t45_0_2n t45_0_2c], Value.agg #[Value.bool t54_0_0, Value.slice t54_0_1A t54_0_1n t54_0_1c, Value.slice t54_0_2A t54_0_2n t54_0_2c]] h_7 fun v_7 h_8 =>
 ∃ t73 : Bool, v_7 = Value.bool t73 ∧
 Br (t73)
  (CallsU Tryz.prog 7 [] h_8 fun v_8 h_9 =>
 ∃ t76 : Bool, v_8 = Value.bool t76 ∧
 R (Value.bool t76) h_9)
  (R (Value.bool false) h_8))
  (R (Value.bool false) h_7))
  (R (Value.bool false) h_6))
  (R (Value.bool false) h_6))

set_option maxRecDepth 100000 in
theorem law53_SamplingExactly_ok {p_0 : Int} {p_1 : Int} {x_0 : Int} {x_1 : Int} {x_2 : Int} {h : Heap} {R : Value → Heap → Prop} (hv : law53_SamplingExactly_vc p_0 p_1 x_0 x_1 x_2 h R) : CallsU Tryz.prog 3 [Value.agg #[Value.int .i64 p_0, Value.int .i64 p_1], Value.agg #[Value.int .i64 x_0, Value.int .i64 x_1, Value.int .i64 x_2]] h R :=
  fn_sound Tryz.func3 (by kernel_rfl) (by kernel_rfl) (by kernel_rfl) (fun _ => false) .nil [Value.agg #[Value.int .i64 p_0, Value.int .i64 p_1], Value.agg #[Value.int .i64 x_0, Value.int .i64 x_1, Value.int .i64 x_2]] h R (by kernel_rfl)
    (Eq.mp (show law53_SamplingExactly_vc p_0 p_1 x_0 x_1 x_2 h R = fnV Tryz.prog Tryz.f3 (fun _ => false) .nil [Value.agg #[Value.int .i64 p_0, Value.int .i64 p_1], Value.agg #[Value.int .i64 x_0, Value.int .i64 x_1, Value.int .i64 x_2]] h R by kernel_rfl) hv)

def law53_SamplingSums_vc (p_0 : Int) (p_1 : Int) (x_0 : Int) (x_1 : Int) (_x_2 : Int) (h : Heap) (R : Value → Heap → Prop) : Prop :=
 ∃ C : Bool → Heap → Prop, (∀ (t35 : Bool) (h_1 : Heap), C t35 h_1 →
 Br (t35)
  (CallsU Tryz.prog 7 [] h_1 fun v h_2 =>
 ∃ t36 : Bool, v = Value.bool t36 ∧
 R (Value.bool t36) h_2)
  (CallsU Tryz.prog 14 [Value.int .i64 0] h_1 fun v_1 h_3 =>
 ∃ t37_0 : Bool, ∃ t37_1A : Option Addr, ∃ t37_1n t37_1c : Nat, ∃ t37_2A : Option Addr, ∃ t37_2n t37_2c : Nat, v_1 = Value.agg #[Value.bool t37_0, Value.slice t37_1A t37_1n t37_1c, Value.slice t37_2A t37_2n t37_2c] ∧
 CallsU Tryz.prog 14 [Value.int .i64 0] h_3 fun v_2 h_4 =>
 ∃ t38_0 : Bool, ∃ t38_1A : Option Addr, ∃ t38_1n t38_1c : Nat, ∃ t38_2A : Option Addr, ∃ t38_2n t38_2c : Nat, v_2 = Value.agg #[Value.bool t38_0, Value.slice t38_1A t38_1n t38_1c, Value.slice t38_2A t38_2n t38_2c] ∧
 ∃ J : Nat → Int → Bool → Option Addr → Nat → Nat → Option Addr → Nat → Nat → Bool → Option Addr → Nat → Nat → Option Addr → Nat → Nat → Heap → Prop, (∃ m, J m 0 t37_0 t37_1A t37_1n t37_1c t37_2A t37_2n t37_2c t38_0 t38_1A t38_1n t38_1c t38_2A t38_2n t38_2c h_4) ∧
 ∀ (m : Nat) (found : Int) (all_0 : Bool) (all_1A : Option Addr) (all_1n all_1c : Nat) (all_2A : Option Addr) (all_2n all_2c : Nat) (some_0 : Bool) (some_1A : Option Addr) (some_1n some_1c : Nat) (some_2A : Option Addr) (some_2n some_2c : Nat) (h_5 : Heap), J m found all_0 all_1A all_1n all_1c all_2A all_2n all_2c some_0 some_1A some_1n some_1c some_2A some_2n some_2c h_5 →
 Br (decide (found ≤ p_0))
  (CallsU Tryz.prog 8 [Value.agg #[Value.int .i64 p_0, Value.int .i64 p_1], Value.int .i64 x_0, Value.int .i64 x_1, Value.int .i64 found] h_5 fun v_3 h_6 =>
 ∃ t52_0_0 : Bool, ∃ t52_0_1A : Option Addr, ∃ t52_0_1n t52_0_1c : Nat, ∃ t52_0_2A : Option Addr, ∃ t52_0_2n t52_0_2c : Nat, ∃ t52_1 : Int, v_3 = Value.tuple #[Value.agg #[Value.bool t52_0_0, Value.slice t52_0_1A t52_0_1n t52_0_1c, Value.slice t52_0_2A t52_0_2n t52_0_2c], Value.int .i64 t52_1] ∧
 CallsU Tryz.prog 15 [Value.agg #[Value.int .i64 p_0, Value.int .i64 p_1], Value.int .i64 found] h_6 fun v_4 h_7 =>
 ∃ t58_0 : Bool, ∃ t58_1 : Int, v_4 = Value.tuple #[Value.bool t58_0, Value.int .i64 t58_1] ∧
 ∃ C_1 : Bool → Heap → Prop, (∀ (t72 : Bool) (h_8 : Heap), C_1 t72 h_8 →
 Br (t72)
  (R (Value.bool false) h_8)
  (CallsU Tryz.prog 17 [Value.agg #[Value.bool all_0, Value.slice all_1A all_1n all_1c, Value.slice all_2A all_2n all_2c], Value.agg #[Value.bool t52_0_0, Value.slice t52_0_1A t52_0_1n t52_0_1c, Value.slice t52_0_2A t52_0_2n t52_0_2c]] h_8 fun v_5 h_9 =>
 ∃ t75_0 : Bool, ∃ t75_1A : Option Addr, ∃ t75_1n t75_1c : Nat, ∃ t75_2A : Option Addr, ∃ t75_2n t75_2c : Nat, v_5 = Value.agg #[Value.bool t75_0, Value.slice t75_1A t75_1n t75_1c, Value.slice t75_2A t75_2n t75_2c] ∧
 Br (t58_0)
  (CallsU Tryz.prog 17 [Value.agg #[Value.bool some_0, Value.slice some_1A some_1n some_1c, Value.slice some_2A some_2n some_2c], Value.agg #[Value.bool t52_0_0, Value.slice t52_0_1A t52_0_1n t52_0_1c, Value.slice t52_0_2A t52_0_2n t52_0_2c]] h_9 fun v_6 h_10 =>
 ∃ t79_0 : Bool, ∃ t79_1A : Option Addr, ∃ t79_1n t79_1c : Nat, ∃ t79_2A : Option Addr, ∃ t79_2n t79_2c : Nat, v_6 = Value.agg #[Value.bool t79_0, Value.slice t79_1A t79_1n t79_1c, Value.slice t79_2A t79_2n t79_2c] ∧
 ∀ t44 : Int, t44 = IntKind.i64.wrap (found + 1) →
 ∃ m_1, m_1 < m ∧ J m_1 t44 t75_0 t75_1A t75_1n t75_1c t75_2A t75_2n t75_2c t79_0 t79_1A t79_1n t79_1c t79_2A t79_2n t79_2c h_10)
  (∀ t44_1 : Int, t44_1 = IntKind.i64.wrap (found + 1) →
 ∃ m_1, m_1 < m ∧ J m_1 t44_1 t75_0 t75_1A t75_1n t75_1c t75_2A t75_2n t75_2c some_0 some_1A some_1n some_1c some_2A some_2n some_2c h_9))) ∧
 Br ((t52_1 : Int) != 0)
  (C_1 true h_7)
  (Br ((t58_1 : Int) != 0)
  (C_1 true h_7)
  (CallsU Tryz.prog 14 [Value.int .i64 0] h_7 fun v_7 h_11 =>
 ∃ t69_0 : Bool, ∃ t69_1A : Option Addr, ∃ t69_1n t69_1c : Nat, ∃ t69_2A : Option Addr, ∃ t69_2n t69_2c : Nat, v_7 = Value.agg #[Value.bool t69_0, Value.slice t69_1A t69_1n t69_1c, Value.slice t69_2A t69_2n t69_2c] ∧
 CallsU Tryz.prog 16 [Value.agg #[Value.bool t52_0_0, Value.slice t52_0_1A t52_0_1n t52_0_1c, Value.slice t52_0_2A t52_0_2n t52_0_2c], Value.agg #[Value.bool t69_0, Value.slice t69_1A t69_1n t69_1c, Value.slice t69_2A t69_2n t69_2c]] h_11 fun v_8 h_12 =>
 ∃ t70 : Int, v_8 = Value.int .i64 t70 ∧
 C_1 (decide (t70 < 0)) h_12)))
  (CallsU Tryz.prog 10 [Value.agg #[Value.int .i64 p_0, Value.int .i64 p_1], Value.int .i64 x_0, Value.int .i64 x_1] h_5 fun v_9 h_13 =>
 ∃ t86_0_0 : Bool, ∃ t86_0_1A : Option Addr, ∃ t86_0_1n t86_0_1c : Nat, ∃ t86_0_2A : Option Addr, ∃ t86_0_2n t86_0_2c : Nat, ∃ t86_1 : Int, v_9 = Value.tuple #[Value.agg #[Value.bool t86_0_0, Value.slice t86_0_1A t86_0_1n t86_0_1c, Value.slice t86_0_2A t86_0_2n t86_0_2c], Value.int .i64 t86_1] ∧
 Br ((t86_1 : Int) == 0)
  (CallsU Tryz.prog 14 [Value.int .i64 1] h_13 fun v_10 h_14 =>
 ∃ t93_0 : Bool, ∃ t93_1A : Option Addr, ∃ t93_1n t93_1c : Nat, ∃ t93_2A : Option Addr, ∃ t93_2n t93_2c : Nat, v_10 = Value.agg #[Value.bool t93_0, Value.slice t93_1A t93_1n t93_1c, Value.slice t93_2A t93_2n t93_2c] ∧
 CallsU Tryz.prog 16 [Value.agg #[Value.bool all_0, Value.slice all_1A all_1n all_1c, Value.slice all_2A all_2n all_2c], Value.agg #[Value.bool t93_0, Value.slice t93_1A t93_1n t93_1c, Value.slice t93_2A t93_2n t93_2c]] h_14 fun v_11 h_15 =>
 ∃ t94 : Int, v_11 = Value.int .i64 t94 ∧
 Br ((t94 : Int) == 0)
  (CallsU Tryz.prog 16 [Value.agg #[Value.bool t86_0_0, Value.slice t86_0_1A t86_0_1n t86_0_1c, Value.slice t86_0_2A t86_0_2n t86_0_2c], Value.agg #[Value.bool some_0, Value.slice some_1A some_1n some_1c, Value.slice some_2A some_2n some_2c]] h_15 fun v_12 h_16 =>
 ∃ t100 : Int, v_12 = Value.int .i64 t100 ∧
 Br ((t100 : Int) == 0)
  (CallsU Tryz.prog 7 [] h_16 fun v_13 h_17 =>
 ∃ t104 : Bool, v_13 = Value.bool t104 ∧
 R (Value.bool t104) h_17)
  (R (Value.bool false) h_16))
  (R (Value.bool false) h_15))
  (R (Value.bool false) h_13)))) ∧
 Br (decide (x_0 > 30))
  (C true h)
  (CallsU Tryz.prog 13 [Value.agg #[Value.int .i64 p_0, Value.int .i64 p_1], Value.int .i64 x_0] h fun v_14 h_18 =>
 ∃ t21 : Int, v_14 = Value.int .i64 t21 ∧
 Br ((t21 : Int) != 0)
  (C true h_18)
  (Br (decide (x_1 < 0))
  (C true h_18)
  (C (decide (x_1 > x_0)) h_18)))

set_option maxRecDepth 100000 in
theorem law53_SamplingSums_ok {p_0 : Int} {p_1 : Int} {x_0 : Int} {x_1 : Int} {x_2 : Int} {h : Heap} {R : Value → Heap → Prop} (hv : law53_SamplingSums_vc p_0 p_1 x_0 x_1 x_2 h R) : CallsU Tryz.prog 4 [Value.agg #[Value.int .i64 p_0, Value.int .i64 p_1], Value.agg #[Value.int .i64 x_0, Value.int .i64 x_1, Value.int .i64 x_2]] h R :=
  fn_sound Tryz.func4 (by kernel_rfl) (by kernel_rfl) (by kernel_rfl) (fun _ => false) (.two .nil (.two (.cut ⟨[(35, Sh.bool)], []⟩ .nil .nil) (.two .nil (.two (.two .nil (.one (.loop ⟨[(7, Sh.int .i64)], [(2, [Sh.bool, Sh.slice, Sh.slice]), (3, [Sh.bool, Sh.slice, Sh.slice])]⟩ (.two .nil (.two (.one (.two .nil (.two .nil (.two (.cut ⟨[(72, Sh.bool)], []⟩ (.ord [0, 1, 2, 3, 4, 5, 6, 7, 8, 9, 10, 11]) .nil) .nil)))) .nil))))) (.two .nil (.two (.ord [0, 1, 2, 3, 4, 5, 6, 7, 8, 9, 10, 11, 12, 13, 14, 15, 16, 17]) .nil)))))) [Value.agg #[Value.int .i64 p_0, Value.int .i64 p_1], Value.agg #[Value.int .i64 x_0, Value.int .i64 x_1, Value.int .i64 x_2]] h R (by kernel_rfl)
    (Eq.mp (show law53_SamplingSums_vc p_0 p_1 x_0 x_1 x_2 h R = fnV Tryz.prog Tryz.f4 (fun _ => false) (.two .nil (.two (.cut ⟨[(35, Sh.bool)], []⟩ .nil .nil) (.two .nil (.two (.two .nil (.one (.loop ⟨[(7, Sh.int .i64)], [(2, [Sh.bool, Sh.slice, Sh.slice]), (3, [Sh.bool, Sh.slice, Sh.slice])]⟩ (.two .nil (.two (.one (.two .nil (.two .nil (.two (.cut ⟨[(72, Sh.bool)], []⟩ (.ord [0, 1, 2, 3, 4, 5, 6, 7, 8, 9, 10, 11]) .nil) .nil)))) .nil))))) (.two .nil (.two (.ord [0, 1, 2, 3, 4, 5, 6, 7, 8, 9, 10, 11, 12, 13, 14, 15, 16, 17]) .nil)))))) [Value.agg #[Value.int .i64 p_0, Value.int .i64 p_1], Value.agg #[Value.int .i64 x_0, Value.int .i64 x_1, Value.int .i64 x_2]] h R by kernel_rfl) hv)

def law53_SamplingMean_vc (p_0 : Int) (p_1 : Int) (x_0 : Int) (x_1 : Int) (_x_2 : Int) (h : Heap) (R : Value → Heap → Prop) : Prop :=
 ∃ C : Bool → Heap → Prop, (∀ (t32 : Bool) (h_1 : Heap), C t32 h_1 →
 Br (t32)
  (CallsU Tryz.prog 7 [] h_1 fun v h_2 =>
 ∃ t33 : Bool, v = Value.bool t33 ∧
 R (Value.bool t33) h_2)
  (CallsU Tryz.prog 14 [Value.int .i64 0] h_1 fun v_1 h_3 =>
 ∃ t34_0 : Bool, ∃ t34_1A : Option Addr, ∃ t34_1n t34_1c : Nat, ∃ t34_2A : Option Addr, ∃ t34_2n t34_2c : Nat, v_1 = Value.agg #[Value.bool t34_0, Value.slice t34_1A t34_1n t34_1c, Value.slice t34_2A t34_2n t34_2c] ∧
 ∃ J : Nat → Int → Bool → Option Addr → Nat → Nat → Option Addr → Nat → Nat → Heap → Prop, (∃ m, J m 0 t34_0 t34_1A t34_1n t34_1c t34_2A t34_2n t34_2c h_3) ∧
 ∀ (m : Nat) (found : Int) (sum_0 : Bool) (sum_1A : Option Addr) (sum_1n sum_1c : Nat) (sum_2A : Option Addr) (sum_2n sum_2c : Nat) (h_4 : Heap), J m found sum_0 sum_1A sum_1n sum_1c sum_2A sum_2n sum_2c h_4 →
 Br (decide (found ≤ p_0))
  (CallsU Tryz.prog 8 [Value.agg #[Value.int .i64 p_0, Value.int .i64 p_1], Value.int .i64 x_0, Value.int .i64 x_1, Value.int .i64 found] h_4 fun v_2 h_5 =>
 ∃ t48_0_0 : Bool, ∃ t48_0_1A : Option Addr, ∃ t48_0_1n t48_0_1c : Nat, ∃ t48_0_2A : Option Addr, ∃ t48_0_2n t48_0_2c : Nat, ∃ t48_1 : Int, v_2 = Value.tuple #[Value.agg #[Value.bool t48_0_0, Value.slice t48_0_1A t48_0_1n t48_0_1c, Value.slice t48_0_2A t48_0_2n t48_0_2c], Value.int .i64 t48_1] ∧
 Br ((t48_1 : Int) != 0)
  (R (Value.bool false) h_5)
  (CallsU Tryz.prog 14 [Value.int .i64 found] h_5 fun v_3 h_6 =>
 ∃ t56_0 : Bool, ∃ t56_1A : Option Addr, ∃ t56_1n t56_1c : Nat, ∃ t56_2A : Option Addr, ∃ t56_2n t56_2c : Nat, v_3 = Value.agg #[Value.bool t56_0, Value.slice t56_1A t56_1n t56_1c, Value.slice t56_2A t56_2n t56_2c] ∧
 CallsU Tryz.prog 18 [Value.agg #[Value.bool t48_0_0, Value.slice t48_0_1A t48_0_1n t48_0_1c, Value.slice t48_0_2A t48_0_2n t48_0_2c], Value.agg #[Value.bool t56_0, Value.slice t56_1A t56_1n t56_1c, Value.slice t56_2A t56_2n t56_2c]] h_6 fun v_4 h_7 =>
 ∃ t57_0 : Bool, ∃ t57_1A : Option Addr, ∃ t57_1n t57_1c : Nat, ∃ t57_2A : Option Addr, ∃ t57_2n t57_2c : Nat, v_4 = Value.agg #[Value.bool t57_0, Value.slice t57_1A t57_1n t57_1c, Value.slice t57_2A t57_2n t57_2c] ∧
 CallsU Tryz.prog 17 [Value.agg #[Value.bool sum_0, Value.slice sum_1A sum_1n sum_1c, Value.slice sum_2A sum_2n sum_2c], Value.agg #[Value.bool t57_0, Value.slice t57_1A t57_1n t57_1c, Value.slice t57_2A t57_2n t57_2c]] h_7 fun v_5 h_8 =>
 ∃ t58_0 : Bool, ∃ t58_1A : Option Addr, ∃ t58_1n t58_1c : Nat, ∃ t58_2A : Option Addr, ∃ t58_2n t58_2c : Nat, v_5 = Value.agg #[Value.bool t58_0, Value.slice t58_1A t58_1n t58_1c, Value.slice t58_2A t58_2n t58_2c] ∧
 ∀ t40 : Int, t40 = IntKind.i64.wrap (found + 1) →
 ∃ m_1, m_1 < m ∧ J m_1 t40 t58_0 t58_1A t58_1n t58_1c t58_2A t58_2n t58_2c h_8))
  (∀ t64 : Int, t64 = IntKind.i64.wrap (p_0 * x_1) →
 CallsU Tryz.prog 19 [Value.int .i64 t64, Value.int .i64 x_0] h_4 fun v_6 h_9 =>
 ∃ t67_0_0 : Bool, ∃ t67_0_1A : Option Addr, ∃ t67_0_1n t67_0_1c : Nat, ∃ t67_0_2A : Option Addr, ∃ t67_0_2n t67_0_2c : Nat, ∃ t67_1 : Bool, v_6 = Value.tuple #[Value.agg #[Value.bool t67_0_0, Value.slice t67_0_1A t67_0_1n t67_0_1c, Value.slice t67_0_2A t67_0_2n t67_0_2c], Value.bool t67_1] ∧
 Br (t67_1)
  (CallsU Tryz.prog 16 [Value.agg #[Value.bool sum_0, Value.slice sum_1A sum_1n sum_1c, Value.slice sum_2A sum_2n sum_2c], Value.agg #[Value.bool t67_0_0, Value.slice t67_0_1A t67_0_1n t67_0_1c, Value.slice t67_0_2A t67_0_2n t67_0_2c]] h_9 fun v_7 h_10 =>
 ∃ t74 : Int, v_7 = Value.int .i64 t74 ∧
 Br ((t74 : Int) == 0)
  (CallsU Tryz.prog 7 [] h_10 fun v_8 h_11 =>
 ∃ t78 : Bool, v_8 = Value.bool t78 ∧
 R (Value.bool t78) h_11)
  (R (Value.bool false) h_10))
  (R (Value.bool false) h_9)))) ∧
 Br (decide (x_0 > 25))
  (C true h)
  (CallsU Tryz.prog 13 [Value.agg #[Value.int .i64 p_0, Value.int .i64 p_1], Value.int .i64 x_0] h fun v_9 h_12 =>
 ∃ t18 : Int, v_9 = Value.int .i64 t18 ∧
 Br ((t18 : Int) != 0)
  (C true h_12)
  (Br (decide (x_1 < 0))
  (C true h_12)
  (C (decide (x_1 > x_0)) h_12)))

set_option maxRecDepth 100000 in
theorem law53_SamplingMean_ok {p_0 : Int} {p_1 : Int} {x_0 : Int} {x_1 : Int} {x_2 : Int} {h : Heap} {R : Value → Heap → Prop} (hv : law53_SamplingMean_vc p_0 p_1 x_0 x_1 x_2 h R) : CallsU Tryz.prog 5 [Value.agg #[Value.int .i64 p_0, Value.int .i64 p_1], Value.agg #[Value.int .i64 x_0, Value.int .i64 x_1, Value.int .i64 x_2]] h R :=
  fn_sound Tryz.func5 (by kernel_rfl) (by kernel_rfl) (by kernel_rfl) (fun _ => false) (.two .nil (.two (.cut ⟨[(32, Sh.bool)], []⟩ .nil .nil) (.two .nil (.two (.two .nil (.one (.loop ⟨[(6, Sh.int .i64)], [(2, [Sh.bool, Sh.slice, Sh.slice])]⟩ (.two .nil (.two (.one (.two .nil (.two .nil (.ord [0, 1, 2, 3, 4, 5, 6])))) .nil))))) .nil)))) [Value.agg #[Value.int .i64 p_0, Value.int .i64 p_1], Value.agg #[Value.int .i64 x_0, Value.int .i64 x_1, Value.int .i64 x_2]] h R (by kernel_rfl)
    (Eq.mp (show law53_SamplingMean_vc p_0 p_1 x_0 x_1 x_2 h R = fnV Tryz.prog Tryz.f5 (fun _ => false) (.two .nil (.two (.cut ⟨[(32, Sh.bool)], []⟩ .nil .nil) (.two .nil (.two (.two .nil (.one (.loop ⟨[(6, Sh.int .i64)], [(2, [Sh.bool, Sh.slice, Sh.slice])]⟩ (.two .nil (.two (.one (.two .nil (.two .nil (.ord [0, 1, 2, 3, 4, 5, 6])))) .nil))))) .nil)))) [Value.agg #[Value.int .i64 p_0, Value.int .i64 p_1], Value.agg #[Value.int .i64 x_0, Value.int .i64 x_1, Value.int .i64 x_2]] h R by kernel_rfl) hv)

def law53_light_vc (x_0 : Int) (_x_1 : Int) (_x_2 : Int) (h : Heap) (R : Value → Heap → Prop) : Prop :=
 Br (decide (x_0 ≤ 40))
  (R (Value.bool true) h)
  (R (Value.bool (decide (x_0 > 200))) h)

set_option maxRecDepth 100000 in
theorem law53_light_ok {x_0 : Int} {x_1 : Int} {x_2 : Int} {h : Heap} {R : Value → Heap → Prop} (hv : law53_light_vc x_0 x_1 x_2 h R) : CallsU Tryz.prog 6 [Value.agg #[Value.int .i64 x_0, Value.int .i64 x_1, Value.int .i64 x_2]] h R :=
  fn_sound Tryz.func6 (by kernel_rfl) (by kernel_rfl) (by kernel_rfl) (fun _ => false) .nil [Value.agg #[Value.int .i64 x_0, Value.int .i64 x_1, Value.int .i64 x_2]] h R (by kernel_rfl)
    (Eq.mp (show law53_light_vc x_0 x_1 x_2 h R = fnV Tryz.prog Tryz.f6 (fun _ => false) .nil [Value.agg #[Value.int .i64 x_0, Value.int .i64 x_1, Value.int .i64 x_2]] h R by kernel_rfl) hv)

def law53_exampleHolds_vc  (h : Heap) (R : Value → Heap → Prop) : Prop :=
 CallsU Tryz.prog 10 [Value.agg #[Value.int .i64 3, Value.int .i64 1], Value.int .i64 5, Value.int .i64 2] h fun v h_1 =>
 ∃ t18_0_0 : Bool, ∃ t18_0_1A : Option Addr, ∃ t18_0_1n t18_0_1c : Nat, ∃ t18_0_2A : Option Addr, ∃ t18_0_2n t18_0_2c : Nat, ∃ t18_1 : Int, v = Value.tuple #[Value.agg #[Value.bool t18_0_0, Value.slice t18_0_1A t18_0_1n t18_0_1c, Value.slice t18_0_2A t18_0_2n t18_0_2c], Value.int .i64 t18_1] ∧
 CallsU Tryz.prog 8 [Value.agg #[Value.int .i64 3, Value.int .i64 1], Value.int .i64 5, Value.int .i64 2, Value.int .i64 2] h_1 fun v_1 h_2 =>
 ∃ t23_0_0 : Bool, ∃ t23_0_1A : Option Addr, ∃ t23_0_1n t23_0_1c : Nat, ∃ t23_0_2A : Option Addr, ∃ t23_0_2n t23_0_2c : Nat, ∃ t23_1 : Int, v_1 = Value.tuple #[Value.agg #[Value.bool t23_0_0, Value.slice t23_0_1A t23_0_1n t23_0_1c, Value.slice t23_0_2A t23_0_2n t23_0_2c], Value.int .i64 t23_1] ∧
 CallsU Tryz.prog 10 [Value.agg #[Value.int .i64 2, Value.int .i64 0], Value.int .i64 4, Value.int .i64 2] h_2 fun v_2 h_3 =>
 ∃ t28_0_0 : Bool, ∃ t28_0_1A : Option Addr, ∃ t28_0_1n t28_0_1c : Nat, ∃ t28_0_2A : Option Addr, ∃ t28_0_2n t28_0_2c : Nat, ∃ t28_1 : Int, v_2 = Value.tuple #[Value.agg #[Value.bool t28_0_0, Value.slice t28_0_1A t28_0_1n t28_0_1c, Value.slice t28_0_2A t28_0_2n t28_0_2c], Value.int .i64 t28_1] ∧
 CallsU Tryz.prog 15 [Value.agg #[Value.int .i64 3, Value.int .i64 1], Value.int .i64 1] h_3 fun v_3 h_4 =>
 ∃ t33_0 : Bool, ∃ t33_1 : Int, v_3 = Value.tuple #[Value.bool t33_0, Value.int .i64 t33_1] ∧
 CallsU Tryz.prog 15 [Value.agg #[Value.int .i64 3, Value.int .i64 1], Value.int .i64 2] h_4 fun v_4 h_5 =>
 ∃ t38_0 : Bool, ∃ t38_1 : Int, v_4 = Value.tuple #[Value.bool t38_0, Value.int .i64 t38_1] ∧
 CallsU Tryz.prog 20 [Value.int .u64 7, Value.agg #[Value.int .i64 3, Value.int .i64 1], Value.int .i64 3] h_5 fun v_5 h_6 =>
 ∃ t43_0 : Int, ∃ t43_1A : Option Addr, ∃ t43_1n t43_1c : Nat, ∃ t43_2 : Int, v_5 = Value.tuple #[Value.int .u64 t43_0, Value.slice t43_1A t43_1n t43_1c, Value.int .i64 t43_2] ∧
 ∃ C : Bool → Heap → Prop, (∀ (t78 : Bool) (h_7 : Heap), C t78 h_7 →
 Br (t78)
  (R (Value.bool false) h_7)
  (CallsU Tryz.prog 22 [Value.agg #[Value.bool t18_0_0, Value.slice t18_0_1A t18_0_1n t18_0_1c, Value.slice t18_0_2A t18_0_2n t18_0_2c]] h_7 fun v_6 h_8 =>
 ∃ t80 : ByteArray, v_6 = Value.string t80 ∧
 Br (t80.toList == (⟨#[55, 47, 49, 48]⟩ : ByteArray).toList)
  (CallsU Tryz.prog 22 [Value.agg #[Value.bool t23_0_0, Value.slice t23_0_1A t23_0_1n t23_0_1c, Value.slice t23_0_2A t23_0_2n t23_0_2c]] h_8 fun v_7 h_9 =>
 ∃ t84 : ByteArray, v_7 = Value.string t84 ∧
 Br (t84.toList == (⟨#[51, 47, 49, 48]⟩ : ByteArray).toList)
  (CallsU Tryz.prog 22 [Value.agg #[Value.bool t28_0_0, Value.slice t28_0_1A t28_0_1n t28_0_1c, Value.slice t28_0_2A t28_0_2n t28_0_2c]] h_9 fun v_8 h_10 =>
 ∃ t89 : ByteArray, v_8 = Value.string t89 ∧
 Br (t89.toList == (⟨#[49, 47, 54]⟩ : ByteArray).toList)
  (Br (t33_0)
  (Br (!t38_0)
  (∀ (g : Nat) (h_11 : Heap), h_10 g = none → h_11 = Heap.put h_10 g ⟨[Value.int .i64 0, Value.int .i64 1, Value.int .i64 2], 3, (0, 0)⟩ →
 CallsU Tryz.prog 23 [Value.slice t43_1A t43_1n t43_1c, Value.slice (some ⟨g, 0, none⟩) 3 3] h_11 fun v_9 h_12 =>
 ∃ t102 : Bool, v_9 = Value.bool t102 ∧
 R (Value.bool t102) h_12)
  (R (Value.bool false) h_10))
  (R (Value.bool false) h_10))
  (R (Value.bool false) h_10))
  (R (Value.bool false) h_9))
  (R (Value.bool false) h_8))) ∧
 Br ((t18_1 : Int) != 0)
  (C true h_6)
  (Br ((t23_1 : Int) != 0)
  (C true h_6)
  (Br ((t28_1 : Int) != 0)
  (C true h_6)
  (Br ((t33_1 : Int) != 0)
  (C true h_6)
  (Br ((t38_1 : Int) != 0)
  (C true h_6)
  (Br ((t43_2 : Int) != 0)
  (C true h_6)
  (CallsU Tryz.prog 21 [Value.agg #[Value.int .i64 3, Value.int .i64 3], Value.int .i64 9] h_6 fun v_10 h_13 =>
 ∃ t71 : Int, v_10 = Value.int .i64 t71 ∧
 Br ((t71 : Int) != 3)
  (C true h_13)
  (CallsU Tryz.prog 21 [Value.agg #[Value.int .i64 3, Value.int .i64 1], Value.int .i64 201] h_13 fun v_11 h_14 =>
 ∃ t76 : Int, v_11 = Value.int .i64 t76 ∧
 C ((t76 : Int) != 3) h_14)))))))

set_option maxRecDepth 100000 in
theorem law53_exampleHolds_ok  {h : Heap} {R : Value → Heap → Prop} (hv : law53_exampleHolds_vc  h R) : CallsU Tryz.prog 7 [] h R :=
  fn_sound Tryz.func7 (by kernel_rfl) (by kernel_rfl) (by kernel_rfl) (fun _ => false) (.two .nil (.two .nil (.two .nil (.two .nil (.two .nil (.two .nil (.two .nil (.two .nil (.two (.cut ⟨[(78, Sh.bool)], []⟩ .nil .nil) .nil))))))))) [] h R (by kernel_rfl)
    (Eq.mp (show law53_exampleHolds_vc  h R = fnV Tryz.prog Tryz.f7 (fun _ => false) (.two .nil (.two .nil (.two .nil (.two .nil (.two .nil (.two .nil (.two .nil (.two .nil (.two (.cut ⟨[(78, Sh.bool)], []⟩ .nil .nil) .nil))))))))) [] h R by kernel_rfl) hv)

end Go.Proofs.YtfhipkdcekffaaaGreatDoor
