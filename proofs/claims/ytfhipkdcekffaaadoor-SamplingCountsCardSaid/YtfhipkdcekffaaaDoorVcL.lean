/- Made by vcgen.py: verification conditions of functions, each held against the calculator by the kernel. -/
import Derived.Test.YtfhipkdcekffaaaDoorVcg4
import Derived.Test.YtfhipkdcekffaaaDoorChecked
namespace Go.Proofs.YtfhipkdcekffaaaDoor
open Go Go.Vcg

def law53_SamplingChecks_vc (p_0 : Int) (p_1 : Int) (lot : Int) (found : Int) (h : Heap) (R : Value → Heap → Prop) : Prop :=
 CallsU Tryd.prog 9 [Value.agg #[Value.int .i64 p_0, Value.int .i64 p_1], Value.int .i64 found] h fun v h_1 =>
 ∃ t14_0 : Bool, ∃ t14_1 : Int, v = Value.tuple #[Value.bool t14_0, Value.int .i64 t14_1] ∧
 CallsU Tryd.prog 10 [Value.agg #[Value.int .i64 p_0, Value.int .i64 p_1], Value.int .i64 found] h_1 fun v_1 h_2 =>
 ∃ t20_0 : Bool, ∃ t20_1 : Int, v_1 = Value.tuple #[Value.bool t20_0, Value.int .i64 t20_1] ∧
 CallsU Tryd.prog 11 [Value.agg #[Value.int .i64 p_0, Value.int .i64 p_1], Value.int .i64 lot] h_2 fun v_2 h_3 =>
 ∃ t25 : Int, v_2 = Value.int .i64 t25 ∧
 CallsU Tryd.prog 12 [Value.agg #[Value.int .i64 p_0, Value.int .i64 p_1], Value.int .i64 lot] h_3 fun v_3 h_4 =>
 ∃ t28 : Int, v_3 = Value.int .i64 t28 ∧
 Br ((t25 : Int) == t28)
  (Br (t14_0 == t20_0)
  (Br ((t14_1 : Int) == t20_1)
  (CallsU Tryd.prog 13 [] h_4 fun v_4 h_5 =>
 ∃ t41 : Bool, v_4 = Value.bool t41 ∧
 R (Value.bool t41) h_5)
  (R (Value.bool false) h_4))
  (R (Value.bool false) h_4))
  (R (Value.bool false) h_4)

set_option maxRecDepth 100000 in
theorem law53_SamplingChecks_ok {p_0 : Int} {p_1 : Int} {lot : Int} {found : Int} {h : Heap} {R : Value → Heap → Prop} (hv : law53_SamplingChecks_vc p_0 p_1 lot found h R) : CallsU Tryd.prog 3 [Value.agg #[Value.int .i64 p_0, Value.int .i64 p_1], Value.int .i64 lot, Value.int .i64 found] h R :=
  fn_sound Tryd.func3 (by kernel_rfl) (by kernel_rfl) (by kernel_rfl) (fun _ => false) (.two .nil (.two .nil (.two .nil (.two (.ord [0, 1, 3, 4, 2, 5, 6, 7, 8, 9, 10, 11, 12, 13, 14, 15, 16, 17, 18, 19, 20]) .nil)))) [Value.agg #[Value.int .i64 p_0, Value.int .i64 p_1], Value.int .i64 lot, Value.int .i64 found] h R (by kernel_rfl)
    (Eq.mp (show law53_SamplingChecks_vc p_0 p_1 lot found h R = fnV Tryd.prog Tryd.f3 (fun _ => false) (.two .nil (.two .nil (.two .nil (.two (.ord [0, 1, 3, 4, 2, 5, 6, 7, 8, 9, 10, 11, 12, 13, 14, 15, 16, 17, 18, 19, 20]) .nil)))) [Value.agg #[Value.int .i64 p_0, Value.int .i64 p_1], Value.int .i64 lot, Value.int .i64 found] h R by kernel_rfl) hv)

def law53_SamplingDraws_vc (d : Int) (p_0 : Int) (p_1 : Int) (lot : Int) (h : Heap) (R : Value → Heap → Prop) : Prop :=
 CallsU Tryd.prog 14 [Value.int .u64 d, Value.agg #[Value.int .i64 p_0, Value.int .i64 p_1], Value.int .i64 lot] h fun v h_1 =>
 ∃ t17_0 : Int, ∃ t17_1A : Option Addr, ∃ t17_1n t17_1c : Nat, ∃ t17_2 : Int, v = Value.tuple #[Value.int .u64 t17_0, Value.slice t17_1A t17_1n t17_1c, Value.int .i64 t17_2] ∧
 CallsU Tryd.prog 15 [Value.int .u64 d, Value.agg #[Value.int .i64 p_0, Value.int .i64 p_1], Value.int .i64 lot] h_1 fun v_1 h_2 =>
 ∃ t25_0 : Int, ∃ t25_1A : Option Addr, ∃ t25_1n t25_1c : Nat, ∃ t25_2 : Int, v_1 = Value.tuple #[Value.int .u64 t25_0, Value.slice t25_1A t25_1n t25_1c, Value.int .i64 t25_2] ∧
 Br ((t17_0 : Int) == t25_0)
  (Br ((t17_2 : Int) == t25_2)
  (CallsU Tryd.prog 16 [Value.slice t17_1A t17_1n t17_1c, Value.slice t25_1A t25_1n t25_1c] h_2 fun v_2 h_3 =>
 ∃ t40 : Bool, v_2 = Value.bool t40 ∧
 Br (t40)
  (CallsU Tryd.prog 13 [] h_3 fun v_3 h_4 =>
 ∃ t43 : Bool, v_3 = Value.bool t43 ∧
 R (Value.bool t43) h_4)
  (R (Value.bool false) h_3))
  (R (Value.bool false) h_2))
  (R (Value.bool false) h_2)

set_option maxRecDepth 100000 in
theorem law53_SamplingDraws_ok {d : Int} {p_0 : Int} {p_1 : Int} {lot : Int} {h : Heap} {R : Value → Heap → Prop} (hv : law53_SamplingDraws_vc d p_0 p_1 lot h R) : CallsU Tryd.prog 4 [Value.int .u64 d, Value.agg #[Value.int .i64 p_0, Value.int .i64 p_1], Value.int .i64 lot] h R :=
  fn_sound Tryd.func4 (by kernel_rfl) (by kernel_rfl) (by kernel_rfl) (fun _ => false) .nil [Value.int .u64 d, Value.agg #[Value.int .i64 p_0, Value.int .i64 p_1], Value.int .i64 lot] h R (by kernel_rfl)
    (Eq.mp (show law53_SamplingDraws_vc d p_0 p_1 lot h R = fnV Tryd.prog Tryd.f4 (fun _ => false) .nil [Value.int .u64 d, Value.agg #[Value.int .i64 p_0, Value.int .i64 p_1], Value.int .i64 lot] h R by kernel_rfl) hv)

def law53_SamplingSamples_vc (d : Int) (p_0 : Int) (p_1 : Int) (lot : Int) (h : Heap) (R : Value → Heap → Prop) : Prop :=
 CallsU Tryd.prog 14 [Value.int .u64 d, Value.agg #[Value.int .i64 p_0, Value.int .i64 p_1], Value.int .i64 lot] h fun v h_1 =>
 ∃ t16_0 : Int, ∃ t16_1A : Option Addr, ∃ t16_1n t16_1c : Nat, ∃ t16_2 : Int, v = Value.tuple #[Value.int .u64 t16_0, Value.slice t16_1A t16_1n t16_1c, Value.int .i64 t16_2] ∧
 Br ((t16_2 : Int) != 0)
  (∃ C : Bool → Heap → Prop, (∀ (t6 : Bool) (h_2 : Heap), C t6 h_2 →
 R (Value.bool t6) h_2) ∧
 Br ((((t16_1n : Nat) : Int) : Int) == 0)
  (CallsU Tryd.prog 11 [Value.agg #[Value.int .i64 p_0, Value.int .i64 p_1], Value.int .i64 lot] h_1 fun v_1 h_3 =>
 ∃ t28 : Int, v_1 = Value.int .i64 t28 ∧
 Br ((t28 : Int) == t16_2)
  (CallsU Tryd.prog 13 [] h_3 fun v_2 h_4 =>
 ∃ t33 : Bool, v_2 = Value.bool t33 ∧
 C t33 h_4)
  (C false h_3))
  (C false h_1))
  (Br ((((t16_1n : Nat) : Int) : Int) != p_0)
  (R (Value.bool false) h_1)
  (∃ J : Nat → Int → Heap → Prop, (∃ m, J m 0 h_1) ∧
 ∀ (m : Nat) (t42 : Int) (h_5 : Heap), J m t42 h_5 →
 Br (decide (t42 < ((t16_1n : Nat) : Int)))
  (∃ ad : Addr, t16_1A = some ad ∧ 0 ≤ t42 ∧ t42 < ((t16_1n : Nat) : Int) ∧
 ∃ t46 : Int, LdN h_5 (Addr.add ad (Int.toNat t42 * 1)) [Value.int .i64 t46] ∧
 Br (decide (t46 < 0))
  (R (Value.bool false) h_5)
  (Br (decide (t46 ≥ lot))
  (R (Value.bool false) h_5)
  (Br (decide (t42 > 0))
  (∀ t60 : Int, t60 = IntKind.i64.wrap (t42 - 1) →
 ∃ ad_1 : Addr, t16_1A = some ad_1 ∧ 0 ≤ t60 ∧ t60 < ((t16_1n : Nat) : Int) ∧
 ∃ t62 : Int, LdN h_5 (Addr.add ad_1 (Int.toNat t60 * 1)) [Value.int .i64 t62] ∧
 Br (decide (t62 ≥ t46))
  (R (Value.bool false) h_5)
  (∀ t67 : Int, t67 = IntKind.i64.wrap (t42 + 1) →
 ∃ m_1, m_1 < m ∧ J m_1 t67 h_5))
  (∀ t67_1 : Int, t67_1 = IntKind.i64.wrap (t42 + 1) →
 ∃ m_1, m_1 < m ∧ J m_1 t67_1 h_5))))
  (CallsU Tryd.prog 13 [] h_5 fun v_3 h_6 =>
 ∃ t68 : Bool, v_3 = Value.bool t68 ∧
 R (Value.bool t68) h_6)))

set_option maxRecDepth 100000 in
theorem law53_SamplingSamples_ok {d : Int} {p_0 : Int} {p_1 : Int} {lot : Int} {h : Heap} {R : Value → Heap → Prop} (hv : law53_SamplingSamples_vc d p_0 p_1 lot h R) : CallsU Tryd.prog 5 [Value.int .u64 d, Value.agg #[Value.int .i64 p_0, Value.int .i64 p_1], Value.int .i64 lot] h R :=
  fn_sound Tryd.func5 (by kernel_rfl) (by kernel_rfl) (by kernel_rfl) (fun _ => false) (.two .nil (.two .nil (.two (.two .nil (.two (.cut ⟨[(6, Sh.bool)], []⟩ .nil .nil) .nil)) (.two .nil (.two (.two .nil (.one (.loop ⟨[(42, Sh.int .i64)], []⟩ .nil))) .nil))))) [Value.int .u64 d, Value.agg #[Value.int .i64 p_0, Value.int .i64 p_1], Value.int .i64 lot] h R (by kernel_rfl)
    (Eq.mp (show law53_SamplingSamples_vc d p_0 p_1 lot h R = fnV Tryd.prog Tryd.f5 (fun _ => false) (.two .nil (.two .nil (.two (.two .nil (.two (.cut ⟨[(6, Sh.bool)], []⟩ .nil .nil) .nil)) (.two .nil (.two (.two .nil (.one (.loop ⟨[(42, Sh.int .i64)], []⟩ .nil))) .nil))))) [Value.int .u64 d, Value.agg #[Value.int .i64 p_0, Value.int .i64 p_1], Value.int .i64 lot] h R by kernel_rfl) hv)

def law53_SamplingMonotone_vc (p_0 : Int) (p_1 : Int) (x_0 : Int) (x_1 : Int) (_x_2 : Int) (h : Heap) (R : Value → Heap → Prop) : Prop :=
 ∃ C : Bool → Heap → Prop, (∀ (t37 : Bool) (h_1 : Heap), C t37 h_1 →
 Br (t37)
  (CallsU Tryd.prog 13 [] h_1 fun v h_2 =>
 ∃ t38 : Bool, v = Value.bool t38 ∧
 R (Value.bool t38) h_2)
  (CallsU Tryd.prog 17 [Value.agg #[Value.int .i64 p_0, Value.int .i64 p_1], Value.int .i64 x_0, Value.int .i64 x_1] h_1 fun v_1 h_3 =>
 ∃ t45_0_0 : Bool, ∃ t45_0_1A : Option Addr, ∃ t45_0_1n t45_0_1c : Nat, ∃ t45_0_2A : Option Addr, ∃ t45_0_2n t45_0_2c : Nat, ∃ t45_1 : Int, v_1 = Value.tuple #[Value.agg #[Value.bool t45_0_0, Value.slice t45_0_1A t45_0_1n t45_0_1c, Value.slice t45_0_2A t45_0_2n t45_0_2c], Value.int .i64 t45_1] ∧
 ∀ t54 : Int, t54 = IntKind.i64.wrap (x_1 + 1) →
 CallsU Tryd.prog 17 [Value.agg #[Value.int .i64 p_0, Value.int .i64 p_1], Value.int .i64 x_0, Value.int .i64 t54] h_3 fun v_2 h_4 =>
 ∃ t55_0_0 : Bool, ∃ t55_0_1A : Option Addr, ∃ t55_0_1n t55_0_1c : Nat, ∃ t55_0_2A : Option Addr, ∃ t55_0_2n t55_0_2c : Nat, ∃ t55_1 : Int, v_2 = Value.tuple #[Value.agg #[Value.bool t55_0_0, Value.slice t55_0_1A t55_0_1n t55_0_1c, Value.slice t55_0_2A t55_0_2n t55_0_2c], Value.int .i64 t55_1] ∧
 CallsU Tryd.prog 17 [Value.agg #[Value.int .i64 p_0, Value.int .i64 p_1], Value.int .i64 x_0, Value.int .i64 0] h_4 fun v_3 h_5 =>
 ∃ t62_0_0 : Bool, ∃ t62_0_1A : Option Addr, ∃ t62_0_1n t62_0_1c : Nat, ∃ t62_0_2A : Option Addr, ∃ t62_0_2n t62_0_2c : Nat, ∃ t62_1 : Int, v_3 = Value.tuple #[Value.agg #[Value.bool t62_0_0, Value.slice t62_0_1A t62_0_1n t62_0_1c, Value.slice t62_0_2A t62_0_2n t62_0_2c], Value.int .i64 t62_1] ∧
 CallsU Tryd.prog 17 [Value.agg #[Value.int .i64 p_0, Value.int .i64 p_1], Value.int .i64 x_0, Value.int .i64 x_0] h_5 fun v_4 h_6 =>
 ∃ t71_0_0 : Bool, ∃ t71_0_1A : Option Addr, ∃ t71_0_1n t71_0_1c : Nat, ∃ t71_0_2A : Option Addr, ∃ t71_0_2n t71_0_2c : Nat, ∃ t71_1 : Int, v_4 = Value.tuple #[Value.agg #[Value.bool t71_0_0, Value.slice t71_0_1A t71_0_1n t71_0_1c, Value.slice t71_0_2A t71_0_2n t71_0_2c], Value.int .i64 t71_1] ∧
 ∃ C_1 : Bool → Heap → Prop, (∀ (t105 : Bool) (h_7 : Heap), C_1 t105 h_7 →
 Br (t105)
  (R (Value.bool false) h_7)
  (∀ t110 : Int, t110 = IntKind.i64.wrap (p_1 + 1) →
 CallsU Tryd.prog 12 [Value.agg #[Value.int .i64 p_0, Value.int .i64 t110], Value.int .i64 x_0] h_7 fun v_5 h_8 =>
 ∃ t115 : Int, v_5 = Value.int .i64 t115 ∧
 Br ((t115 : Int) != 0)
  (CallsU Tryd.prog 13 [] h_8 fun v_6 h_9 =>
 ∃ t117 : Bool, v_6 = Value.bool t117 ∧
 R (Value.bool t117) h_9)
  (CallsU Tryd.prog 17 [Value.agg #[Value.int .i64 p_0, Value.int .i64 t110], Value.int .i64 x_0, Value.int .i64 x_1] h_8 fun v_7 h_10 =>
 ∃ t124_0_0 : Bool, ∃ t124_0_1A : Option Addr, ∃ t124_0_1n t124_0_1c : Nat, ∃ t124_0_2A : Option Addr, ∃ t124_0_2n t124_0_2c : Nat, ∃ t124_1 : Int, v_7 = Value.tuple #[Value.agg #[Value.bool t124_0_0, Value.slice t124_0_1A t124_0_1n t124_0_1c, Value.slice t124_0_2A t124_0_2n t124_0_2c], Value.int .i64 t124_1] ∧
 Br ((t124_1 : Int) == 0)
  (CallsU Tryd.prog 18 [Value.agg #[Value.bool t45_0_0, Value.slice t45_0_1A t45_0_1n t45_0_1c, Value.slice t45_0_2A t45_0_2n t45_0_2c], Value.agg #[Value.bool t124_0_0, Value.slice t124_0_1A t124_0_1n t124_0_1c, Value.slice t124_0_2A t124_0_2n t124_0_2c]] h_10 fun v_8 h_11 =>
 ∃ t132 : Int, v_8 = Value.int .i64 t132 ∧
 Br (decide (t132 ≤ 0))
  (CallsU Tryd.prog 13 [] h_11 fun v_9 h_12 =>
 ∃ t136 : Bool, v_9 = Value.bool t136 ∧
 R (Value.bool t136) h_12)
  (R (Value.bool false) h_11))
  (R (Value.bool false) h_10)))) ∧
 Br ((t45_1 : Int) != 0)
  (C_1 true h_6)
  (Br ((t55_1 : Int) != 0)
  (C_1 true h_6)
  (Br ((t62_1 : Int) != 0)
  (C_1 true h_6)
  (Br ((t71_1 : Int) != 0)
  (C_1 true h_6)
  (CallsU Tryd.prog 18 [Value.agg #[Value.bool t55_0_0, Value.slice t55_0_1A t55_0_1n t55_0_1c, Value.slice t55_0_2A t55_0_2n t55_0_2c], Value.agg #[Value.bool t45_0_0, Value.slice t45_0_1A t45_0_1n t45_0_1c, Value.slice t45_0_2A t45_0_2n t45_0_2c]] h_6 fun v_10 h_13 =>
 ∃ t91 : Int, v_10 = Value.int .i64 t91 ∧
 Br (decide (t91 > 0))
  (C_1 true h_13)
  (CallsU Tryd.prog 19 [Value.int .i64 1] h_13 fun v_11 h_14 =>
 ∃ t96_0 : Bool, ∃ t96_1A : Option Addr, ∃ t96_1n t96_1c : Nat, ∃ t96_2A : Option Addr, ∃ t96_2n t96_2c : Nat, v_11 = Value.agg #[Value.bool t96_0, Value.slice t96_1A t96_1n t96_1c, Value.slice t96_2A t96_2n t96_2c] ∧
 CallsU Tryd.prog 18 [Value.agg #[Value.bool t62_0_0, Value.slice t62_0_1A t62_0_1n t62_0_1c, Value.slice t62_0_2A t62_0_2n t62_0_2c], Value.agg #[Value.bool t96_0, Value.slice t96_1A t96_1n t96_1c, Value.slice t96_2A t96_2n t96_2c]] h_14 fun v_12 h_15 =>
 ∃ t97 : Int, v_12 = Value.int .i64 t97 ∧
 Br ((t97 : Int) != 0)
  (C_1 true h_15)
  (CallsU Tryd.prog 19 [Value.int .i64 0] h_15 fun v_13 h_16 =>
 ∃ t102_0 : Bool, ∃ t102_1A : Option Addr, ∃ t102_1n t102_1c : Nat, ∃ t102_2A : Option Addr, ∃ t102_2n t102_2c : Nat, v_13 = Value.agg #[Value.bool t102_0, Value.slice t102_1A t102_1n t102_1c, Value.slice t102_2A t102_2n t102_2c] ∧
 CallsU Tryd.prog 18 [Value.agg #[Value.bool t71_0_0, Value.slice t71_0_1A t71_0_1n t71_0_1c, Value.slice t71_0_2A t71_0_2n t71_0_2c], Value.agg #[Value.bool t102_0, Value.slice t102_1A t102_1n t102_1c, Value.slice t102_2A t102_2n t102_2c]] h_16 fun v_14 h_17 =>
 ∃ t103 : Int, v_14 = Value.int .i64 t103 ∧
 C_1 ((t103 : Int) != 0) h_17)))))))) ∧
 Br (decide (x_0 > 25))
  (C true h)
  (CallsU Tryd.prog 12 [Value.agg #[Value.int .i64 p_0, Value.int .i64 p_1], Value.int .i64 x_0] h fun v_15 h_18 =>
 ∃ t23 : Int, v_15 = Value.int .i64 t23 ∧
 Br ((t23 : Int) != 0)
  (C true h_18)
  (Br (decide (x_1 < 0))
  (C true h_18)
  (C (decide (x_1 ≥ x_0)) h_18)))

set_option maxRecDepth 100000 in
theorem law53_SamplingMonotone_ok {p_0 : Int} {p_1 : Int} {x_0 : Int} {x_1 : Int} {x_2 : Int} {h : Heap} {R : Value → Heap → Prop} (hv : law53_SamplingMonotone_vc p_0 p_1 x_0 x_1 x_2 h R) : CallsU Tryd.prog 6 [Value.agg #[Value.int .i64 p_0, Value.int .i64 p_1], Value.agg #[Value.int .i64 x_0, Value.int .i64 x_1, Value.int .i64 x_2]] h R :=
  fn_sound Tryd.func6 (by kernel_rfl) (by kernel_rfl) (by kernel_rfl) (fun _ => false) (.two .nil (.two (.cut ⟨[(37, Sh.bool)], []⟩ .nil .nil) (.two .nil (.two .nil (.two .nil (.two .nil (.two (.cut ⟨[(105, Sh.bool)], []⟩ (.ord [0, 1, 2, 3, 4, 5, 6, 7, 8, 9, 10, 11, 12, 13, 14, 15, 16, 17, 18, 19, 20, 21, 22, 23, 24, 25, 26, 27, 28, 29, 30, 31]) .nil) .nil))))))) [Value.agg #[Value.int .i64 p_0, Value.int .i64 p_1], Value.agg #[Value.int .i64 x_0, Value.int .i64 x_1, Value.int .i64 x_2]] h R (by kernel_rfl)
    (Eq.mp (show law53_SamplingMonotone_vc p_0 p_1 x_0 x_1 x_2 h R = fnV Tryd.prog Tryd.f6 (fun _ => false) (.two .nil (.two (.cut ⟨[(37, Sh.bool)], []⟩ .nil .nil) (.two .nil (.two .nil (.two .nil (.two .nil (.two (.cut ⟨[(105, Sh.bool)], []⟩ (.ord [0, 1, 2, 3, 4, 5, 6, 7, 8, 9, 10, 11, 12, 13, 14, 15, 16, 17, 18, 19, 20, 21, 22, 23, 24, 25, 26, 27, 28, 29, 30, 31]) .nil) .nil))))))) [Value.agg #[Value.int .i64 p_0, Value.int .i64 p_1], Value.agg #[Value.int .i64 x_0, Value.int .i64 x_1, Value.int .i64 x_2]] h R by kernel_rfl) hv)

def law53_SamplingExchange_vc (p_0 : Int) (p_1 : Int) (x_0 : Int) (x_1 : Int) (x_2 : Int) (h : Heap) (R : Value → Heap → Prop) : Prop :=
 ∃ C : Bool → Heap → Prop, (∀ (t48 : Bool) (h_1 : Heap), C t48 h_1 →
 Br (t48)
  (CallsU Tryd.prog 13 [] h_1 fun v h_2 =>
 ∃ t49 : Bool, v = Value.bool t49 ∧
 R (Value.bool t49) h_2)
  (CallsU Tryd.prog 20 [Value.agg #[Value.int .i64 p_0, Value.int .i64 p_1], Value.int .i64 x_0, Value.int .i64 x_1, Value.int .i64 x_2] h_1 fun v_1 h_3 =>
 ∃ t58_0_0 : Bool, ∃ t58_0_1A : Option Addr, ∃ t58_0_1n t58_0_1c : Nat, ∃ t58_0_2A : Option Addr, ∃ t58_0_2n t58_0_2c : Nat, ∃ t58_1 : Int, v_1 = Value.tuple #[Value.agg #[Value.bool t58_0_0, Value.slice t58_0_1A t58_0_1n t58_0_1c, Value.slice t58_0_2A t58_0_2n t58_0_2c], Value.int .i64 t58_1] ∧
 CallsU Tryd.prog 20 [Value.agg #[Value.int .i64 x_1, Value.int .i64 0], Value.int .i64 x_0, Value.int .i64 p_0, Value.int .i64 x_2] h_3 fun v_2 h_4 =>
 ∃ t69_0_0 : Bool, ∃ t69_0_1A : Option Addr, ∃ t69_0_1n t69_0_1c : Nat, ∃ t69_0_2A : Option Addr, ∃ t69_0_2n t69_0_2c : Nat, ∃ t69_1 : Int, v_2 = Value.tuple #[Value.agg #[Value.bool t69_0_0, Value.slice t69_0_1A t69_0_1n t69_0_1c, Value.slice t69_0_2A t69_0_2n t69_0_2c], Value.int .i64 t69_1] ∧
 Br ((t58_1 : Int) == 0)
  (Br ((t69_1 : Int) == 0)
  (CallsU Tryd.prog 18 [Value.agg #[Value.bool t58_0_0, Value.slice t58_0_1A t58_0_1n t58_0_1c, Value.slice t58_0_2A t58_0_2n t58_0_2c], Value.agg #[Value.bool t69_0_0, Value.slice t69_0_1A t69_0_1n t69_0_1c, Value.slice t69_0_2A t69_0_2n t69_0_2c]] h_4 fun v_3 h_5 =>
 ∃ t81 : Int, v_3 = Value.int .i64 t81 ∧
 Br ((t81 : Int) == 0)
  (CallsU Tryd.prog 13 [] h_5 fun v_4 h_6 =>
 ∃ t85 : Bool, v_4 = Value.bool t85 ∧
 R (Value.bool t85) h_6)
  (R (Value.bool false) h_5))
  (R (Value.bool false) h_4))
  (R (Value.bool false) h_4))) ∧
 Br (decide (x_0 > 30))
  (C true h)
  (CallsU Tryd.prog 12 [Value.agg #[Value.int .i64 p_0, Value.int .i64 p_1], Value.int .i64 x_0] h fun v_5 h_7 =>
 ∃ t20 : Int, v_5 = Value.int .i64 t20 ∧
 Br ((t20 : Int) != 0)
  (C true h_7)
  (CallsU Tryd.prog 12 [Value.agg #[Value.int .i64 x_1, Value.int .i64 0], Value.int .i64 x_0] h_7 fun v_6 h_8 =>
 ∃ t27 : Int, v_6 = Value.int .i64 t27 ∧
 Br ((t27 : Int) != 0)
  (C true h_8)
  (Br (decide (x_2 < 0))
  (C true h_8)
  (Br (decide (x_2 > p_0))
  (C true h_8)
  (C (decide (x_2 > x_1)) h_8)))))

set_option maxRecDepth 100000 in
theorem law53_SamplingExchange_ok {p_0 : Int} {p_1 : Int} {x_0 : Int} {x_1 : Int} {x_2 : Int} {h : Heap} {R : Value → Heap → Prop} (hv : law53_SamplingExchange_vc p_0 p_1 x_0 x_1 x_2 h R) : CallsU Tryd.prog 7 [Value.agg #[Value.int .i64 p_0, Value.int .i64 p_1], Value.agg #[Value.int .i64 x_0, Value.int .i64 x_1, Value.int .i64 x_2]] h R :=
  fn_sound Tryd.func7 (by kernel_rfl) (by kernel_rfl) (by kernel_rfl) (fun _ => false) (.two .nil (.two .nil (.two (.cut ⟨[(48, Sh.bool)], []⟩ .nil .nil) .nil))) [Value.agg #[Value.int .i64 p_0, Value.int .i64 p_1], Value.agg #[Value.int .i64 x_0, Value.int .i64 x_1, Value.int .i64 x_2]] h R (by kernel_rfl)
    (Eq.mp (show law53_SamplingExchange_vc p_0 p_1 x_0 x_1 x_2 h R = fnV Tryd.prog Tryd.f7 (fun _ => false) (.two .nil (.two .nil (.two (.cut ⟨[(48, Sh.bool)], []⟩ .nil .nil) .nil))) [Value.agg #[Value.int .i64 p_0, Value.int .i64 p_1], Value.agg #[Value.int .i64 x_0, Value.int .i64 x_1, Value.int .i64 x_2]] h R by kernel_rfl) hv)

def law53_SamplingCounts_vc (p_0 : Int) (p_1 : Int) (x_0 : Int) (x_1 : Int) (x_2 : Int) (h : Heap) (R : Value → Heap → Prop) : Prop :=
 ∃ C : Bool → Heap → Prop, (∀ (t45 : Bool) (h_1 : Heap), C t45 h_1 →
 Br (t45)
  (CallsU Tryd.prog 13 [] h_1 fun v h_2 =>
 ∃ t46 : Bool, v = Value.bool t46 ∧
 R (Value.bool t46) h_2)
  (∃ J : Nat → Int → Int → Int → Heap → Prop, (∃ m, J m 0 0 0 h_1) ∧
 ∀ (m : Nat) (all : Int) (somev : Int) (m_2 : Int) (h_3 : Heap), J m all somev m_2 h_3 →
 Br (decide (IntKind.u64.wrap x_0 < 0)) False
  (∀ t51 : Int, t51 = IntKind.u64.wrap (1 * 2 ^ (min (Int.toNat (IntKind.u64.wrap x_0)) 64 : Nat)) →
 Br (decide (m_2 < t51))
  (CallsU Tryd.prog 21 [Value.int .u64 m_2, Value.int .i64 x_0] h_3 fun v_1 h_4 =>
 ∃ t58 : Int, v_1 = Value.int .i64 t58 ∧
 Br ((t58 : Int) != p_0)
  (∀ t54 : Int, t54 = IntKind.u64.wrap (m_2 + 1) →
 ∃ m_1, m_1 < m ∧ J m_1 all somev t54 h_4)
  (∀ t63 : Int, t63 = IntKind.i64.wrap (all + 1) →
 CallsU Tryd.prog 21 [Value.int .u64 m_2, Value.int .i64 x_1] h_4 fun v_2 h_5 =>
 ∃ t67 : Int, v_2 = Value.int .i64 t67 ∧
 Br ((t67 : Int) == x_2)
  (∀ t72 : Int, t72 = IntKind.i64.wrap (somev + 1) →
 ∀ t54_1 : Int, t54_1 = IntKind.u64.wrap (m_2 + 1) →
 ∃ m_1, m_1 < m ∧ J m_1 t63 t72 t54_1 h_5)
  (∀ t54_2 : Int, t54_2 = IntKind.u64.wrap (m_2 + 1) →
 ∃ m_1, m_1 < m ∧ J m_1 t63 somev t54_2 h_5)))
  (CallsU Tryd.prog 20 [Value.agg #[Value.int .i64 p_0, Value.int .i64 p_1], Value.int .i64 x_0, Value.int .i64 x_1, Value.int .i64 x_2] h_3 fun v_3 h_6 =>
 ∃ t81_0_0 : Bool, ∃ t81_0_1A : Option Addr, ∃ t81_0_1n t81_0_1c : Nat, ∃ t81_0_2A : Option Addr, ∃ t81_0_2n t81_0_2c : Nat, ∃ t81_1 : Int, v_3 = Value.tuple #[Value.agg #[Value.bool t81_0_0, Value.slice t81_0_1A t81_0_1n t81_0_1c, Value.slice t81_0_2A t81_0_2n t81_0_2c], Value.int .i64 t81_1] ∧
 CallsU Tryd.prog 22 [Value.int .i64 somev, Value.int .i64 all] h_6 fun v_4 h_7 =>
 ∃ t87_0_0 : Bool, ∃ t87_0_1A : Option Addr, ∃ t87_0_1n t87_0_1c : Nat, ∃ t87_0_2A : Option Addr, ∃ t87_0_2n t87_0_2c : Nat, ∃ t87_1 : Bool, v_4 = Value.tuple #[Value.agg #[Value.bool t87_0_0, Value.slice t87_0_1A t87_0_1n t87_0_1c, Value.slice t87_0_2A t87_0_2n t87_0_2c], Value.bool t87_1] ∧
 Br ((t81_1 : Int) == 0)
  (Br (t87_1)
  (CallsU Tryd.prog 18 [Value.agg #[Value.bool t81_0_0, Value.slice t81_0_1A t81_0_1n t81_0_1c, Value.slice t81_0_2A t81_0_2n t81_0_2c], Value.agg #[Value.bool t87_0_0, Value.slice t87_0_1A t87_0_1n t87_0_1c, Value.slice t87_0_2A t87_0_2n t87_0_2c]] h_7 fun v_5 h_8 =>
 ∃ t98 : Int, v_5 = Value.int .i64 t98 ∧
 Br ((t98 : Int) == 0)
  (CallsU Tryd.prog 13 [] h_8 fun v_6 h_9 =>
 ∃ t102 : Bool, v_6 = Value.bool t102 ∧
 R (Value.bool t102) h_9)
  (R (Value.bool false) h_8))
  (R (Value.bool false) h_7))
  (R (Value.bool false) h_7))))) ∧
 Br (decide (x_0 > 10))
  (C true h)
  (CallsU Tryd.prog 12 [Value.agg #[Value.int .i64 p_0, Value.int .i64 p_1], Value.int .i64 x_0] h fun v_7 h_10 =>
 ∃ t19 : Int, v_7 = Value.int .i64 t19 ∧
 Br ((t19 : Int) != 0)
  (C true h_10)
  (Br (decide (x_1 < 0))
  (C true h_10)
  (Br (decide (x_1 > x_0))
  (C true h_10)
  (Br (decide (x_2 < 0))
  (C true h_10)
  (C (decide (x_2 > p_0)) h_10)))))

set_option maxRecDepth 100000 in
theorem law53_SamplingCounts_ok {p_0 : Int} {p_1 : Int} {x_0 : Int} {x_1 : Int} {x_2 : Int} {h : Heap} {R : Value → Heap → Prop} (hv : law53_SamplingCounts_vc p_0 p_1 x_0 x_1 x_2 h R) : CallsU Tryd.prog 8 [Value.agg #[Value.int .i64 p_0, Value.int .i64 p_1], Value.agg #[Value.int .i64 x_0, Value.int .i64 x_1, Value.int .i64 x_2]] h R :=
  fn_sound Tryd.func8 (by kernel_rfl) (by kernel_rfl) (by kernel_rfl) (fun _ => false) (.two .nil (.two (.cut ⟨[(45, Sh.bool)], []⟩ .nil .nil) (.two .nil (.two (.two .nil (.one (.loop ⟨[(5, Sh.int .i64), (6, Sh.int .i64), (7, Sh.int .u64)], []⟩ (.two .nil (.two (.one (.two (.two (.ord [0, 1, 2, 4, 5, 3, 6]) .nil) (.two .nil (.two (.ord [0, 1, 2, 4, 5, 3, 6]) .nil)))) .nil))))) .nil)))) [Value.agg #[Value.int .i64 p_0, Value.int .i64 p_1], Value.agg #[Value.int .i64 x_0, Value.int .i64 x_1, Value.int .i64 x_2]] h R (by kernel_rfl)
    (Eq.mp (show law53_SamplingCounts_vc p_0 p_1 x_0 x_1 x_2 h R = fnV Tryd.prog Tryd.f8 (fun _ => false) (.two .nil (.two (.cut ⟨[(45, Sh.bool)], []⟩ .nil .nil) (.two .nil (.two (.two .nil (.one (.loop ⟨[(5, Sh.int .i64), (6, Sh.int .i64), (7, Sh.int .u64)], []⟩ (.two .nil (.two (.one (.two (.two (.ord [0, 1, 2, 4, 5, 3, 6]) .nil) (.two .nil (.two (.ord [0, 1, 2, 4, 5, 3, 6]) .nil)))) .nil))))) .nil)))) [Value.agg #[Value.int .i64 p_0, Value.int .i64 p_1], Value.agg #[Value.int .i64 x_0, Value.int .i64 x_1, Value.int .i64 x_2]] h R by kernel_rfl) hv)

def law53_exampleHolds_vc  (h : Heap) (R : Value → Heap → Prop) : Prop :=
 CallsU Tryd.prog 17 [Value.agg #[Value.int .i64 3, Value.int .i64 1], Value.int .i64 5, Value.int .i64 2] h fun v h_1 =>
 ∃ t18_0_0 : Bool, ∃ t18_0_1A : Option Addr, ∃ t18_0_1n t18_0_1c : Nat, ∃ t18_0_2A : Option Addr, ∃ t18_0_2n t18_0_2c : Nat, ∃ t18_1 : Int, v = Value.tuple #[Value.agg #[Value.bool t18_0_0, Value.slice t18_0_1A t18_0_1n t18_0_1c, Value.slice t18_0_2A t18_0_2n t18_0_2c], Value.int .i64 t18_1] ∧
 CallsU Tryd.prog 20 [Value.agg #[Value.int .i64 3, Value.int .i64 1], Value.int .i64 5, Value.int .i64 2, Value.int .i64 2] h_1 fun v_1 h_2 =>
 ∃ t23_0_0 : Bool, ∃ t23_0_1A : Option Addr, ∃ t23_0_1n t23_0_1c : Nat, ∃ t23_0_2A : Option Addr, ∃ t23_0_2n t23_0_2c : Nat, ∃ t23_1 : Int, v_1 = Value.tuple #[Value.agg #[Value.bool t23_0_0, Value.slice t23_0_1A t23_0_1n t23_0_1c, Value.slice t23_0_2A t23_0_2n t23_0_2c], Value.int .i64 t23_1] ∧
 CallsU Tryd.prog 17 [Value.agg #[Value.int .i64 2, Value.int .i64 0], Value.int .i64 4, Value.int .i64 2] h_2 fun v_2 h_3 =>
 ∃ t28_0_0 : Bool, ∃ t28_0_1A : Option Addr, ∃ t28_0_1n t28_0_1c : Nat, ∃ t28_0_2A : Option Addr, ∃ t28_0_2n t28_0_2c : Nat, ∃ t28_1 : Int, v_2 = Value.tuple #[Value.agg #[Value.bool t28_0_0, Value.slice t28_0_1A t28_0_1n t28_0_1c, Value.slice t28_0_2A t28_0_2n t28_0_2c], Value.int .i64 t28_1] ∧
 CallsU Tryd.prog 9 [Value.agg #[Value.int .i64 3, Value.int .i64 1], Value.int .i64 1] h_3 fun v_3 h_4 =>
 ∃ t33_0 : Bool, ∃ t33_1 : Int, v_3 = Value.tuple #[Value.bool t33_0, Value.int .i64 t33_1] ∧
 CallsU Tryd.prog 9 [Value.agg #[Value.int .i64 3, Value.int .i64 1], Value.int .i64 2] h_4 fun v_4 h_5 =>
 ∃ t38_0 : Bool, ∃ t38_1 : Int, v_4 = Value.tuple #[Value.bool t38_0, Value.int .i64 t38_1] ∧
 CallsU Tryd.prog 14 [Value.int .u64 7, Value.agg #[Value.int .i64 3, Value.int .i64 1], Value.int .i64 3] h_5 fun v_5 h_6 =>
 ∃ t43_0 : Int, ∃ t43_1A : Option Addr, ∃ t43_1n t43_1c : Nat, ∃ t43_2 : Int, v_5 = Value.tuple #[Value.int .u64 t43_0, Value.slice t43_1A t43_1n t43_1c, Value.int .i64 t43_2] ∧
 ∃ C : Bool → Heap → Prop, (∀ (t78 : Bool) (h_7 : Heap), C t78 h_7 →
 Br (t78)
  (R (Value.bool false) h_7)
  (CallsU Tryd.prog 23 [Value.agg #[Value.bool t18_0_0, Value.slice t18_0_1A t18_0_1n t18_0_1c, Value.slice t18_0_2A t18_0_2n t18_0_2c]] h_7 fun v_6 h_8 =>
 ∃ t80 : ByteArray, v_6 = Value.string t80 ∧
 Br (t80.toList == (⟨#[55, 47, 49, 48]⟩ : ByteArray).toList)
  (CallsU Tryd.prog 23 [Value.agg #[Value.bool t23_0_0, Value.slice t23_0_1A t23_0_1n t23_0_1c, Value.slice t23_0_2A t23_0_2n t23_0_2c]] h_8 fun v_7 h_9 =>
 ∃ t84 : ByteArray, v_7 = Value.string t84 ∧
 Br (t84.toList == (⟨#[51, 47, 49, 48]⟩ : ByteArray).toList)
  (CallsU Tryd.prog 23 [Value.agg #[Value.bool t28_0_0, Value.slice t28_0_1A t28_0_1n t28_0_1c, Value.slice t28_0_2A t28_0_2n t28_0_2c]] h_9 fun v_8 h_10 =>
 ∃ t89 : ByteArray, v_8 = Value.string t89 ∧
 Br (t89.toList == (⟨#[49, 47, 54]⟩ : ByteArray).toList)
  (Br (t33_0)
  (Br (!t38_0)
  (∀ (g : Nat) (h_11 : Heap), h_10 g = none → h_11 = Heap.put h_10 g ⟨[Value.int .i64 0, Value.int .i64 1, Value.int .i64 2], 3, (0, 0)⟩ →
 CallsU Tryd.prog 16 [Value.slice t43_1A t43_1n t43_1c, Value.slice (some ⟨g, 0, none⟩) 3 3] h_11 fun v_9 h_12 =>
 ∃ t102 : Bool, v_9 = Value.bool t102 ∧
 R (Value.bool t102) h_12)
  (R (Value.bool false) h_10))
  (R (Value.bool false) h_10))
  (R (Value.bool false) h_10))
  (R (Value.bool false) h_9))
  (R (Value.bool false) h_8))) ∧
 Br ((t18_1 : Int) != 0)
  (C true h_6)
  (Br ((t23_1 : Int) != 0)
  (C true h_6)
  (Br ((t28_1 : Int) != 0)
  (C true h_6)
  (Br ((t33_1 : Int) != 0)
  (C true h_6)
  (Br ((t38_1 : Int) != 0)
  (C true h_6)
  (Br ((t43_2 : Int) != 0)
  (C true h_6)
  (CallsU Tryd.prog 11 [Value.agg #[Value.int .i64 3, Value.int .i64 3], Value.int .i64 9] h_6 fun v_10 h_13 =>
 ∃ t71 : Int, v_10 = Value.int .i64 t71 ∧
 Br ((t71 : Int) != 3)
  (C true h_13)
  (CallsU Tryd.prog 11 [Value.agg #[Value.int .i64 3, Value.int .i64 1], Value.int .i64 201] h_13 fun v_11 h_14 =>
 ∃ t76 : Int, v_11 = Value.int .i64 t76 ∧
 C ((t76 : Int) != 3) h_14)))))))

set_option maxRecDepth 100000 in
theorem law53_exampleHolds_ok  {h : Heap} {R : Value → Heap → Prop} (hv : law53_exampleHolds_vc  h R) : CallsU Tryd.prog 13 [] h R :=
  fn_sound Tryd.func13 (by kernel_rfl) (by kernel_rfl) (by kernel_rfl) (fun _ => false) (.two .nil (.two .nil (.two .nil (.two .nil (.two .nil (.two .nil (.two .nil (.two .nil (.two (.cut ⟨[(78, Sh.bool)], []⟩ .nil .nil) .nil))))))))) [] h R (by kernel_rfl)
    (Eq.mp (show law53_exampleHolds_vc  h R = fnV Tryd.prog Tryd.f13 (fun _ => false) (.two .nil (.two .nil (.two .nil (.two .nil (.two .nil (.two .nil (.two .nil (.two .nil (.two (.cut ⟨[(78, Sh.bool)], []⟩ .nil .nil) .nil))))))))) [] h R by kernel_rfl) hv)

def law53_ones_vc (m : Int) (n : Int) (h : Heap) (R : Value → Heap → Prop) : Prop :=
 ∃ J : Nat → Int → Int → Heap → Prop, (∃ m_1, J m_1 0 0 h) ∧
 ∀ (m_1 : Nat) (k : Int) (t8 : Int) (h_1 : Heap), J m_1 k t8 h_1 →
 Br (decide (t8 < n))
  (Br (decide (IntKind.u64.wrap t8 < 0)) False
  (∀ t15 : Int, t15 = (Int.fdiv m (2 ^ (min (Int.toNat (IntKind.u64.wrap t8)) 64 : Nat))) →
 ∀ t17 : Int, t17 = bitsOf .and .i64 (IntKind.i64.wrap t15) 1 →
 ∀ t18 : Int, t18 = IntKind.i64.wrap (k + t17) →
 ∀ t19 : Int, t19 = IntKind.i64.wrap (t8 + 1) →
 ∃ m_2, m_2 < m_1 ∧ J m_2 t18 t19 h_1))
  (R (Value.int .i64 k) h_1)

set_option maxRecDepth 100000 in
theorem law53_ones_ok {m : Int} {n : Int} {h : Heap} {R : Value → Heap → Prop} (hv : law53_ones_vc m n h R) : CallsU Tryd.prog 21 [Value.int .u64 m, Value.int .i64 n] h R :=
  fn_sound Tryd.func21 (by kernel_rfl) (by kernel_rfl) (by kernel_rfl) (fun _ => false) (.two .nil (.two .nil (.two (.two .nil (.one (.loop ⟨[(5, Sh.int .i64), (8, Sh.int .i64)], []⟩ .nil))) .nil))) [Value.int .u64 m, Value.int .i64 n] h R (by kernel_rfl)
    (Eq.mp (show law53_ones_vc m n h R = fnV Tryd.prog Tryd.f21 (fun _ => false) (.two .nil (.two .nil (.two (.two .nil (.one (.loop ⟨[(5, Sh.int .i64), (8, Sh.int .i64)], []⟩ .nil))) .nil))) [Value.int .u64 m, Value.int .i64 n] h R by kernel_rfl) hv)

end Go.Proofs.YtfhipkdcekffaaaDoor
