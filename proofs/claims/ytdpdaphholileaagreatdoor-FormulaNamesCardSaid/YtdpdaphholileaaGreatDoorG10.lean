/-
  Gathered texts of this proof: VcL, Cn15, Rf1, Rf2, Rf3, Rf4, Me7, Pl6, Me8, Rf5, Fa1.
-/
import Derived.Test.YtdpdaphholileaaGreatDoorG02
import Derived.Test.YtdpdaphholileaaGreatDoorChecked
import Derived.Test.YtdpdaphholileaaGreatDoorG09
import Derived.Laws.Strings
import Derived.Test.YtdpdaphholileaaGreatDoorG07
import Derived.Test.YtdpdaphholileaaGreatDoorG06
import Derived.Test.YtdpdaphholileaaGreatDoorG08

/- Made by vcgen.py: verification conditions of functions, each held against the calculator by the kernel. -/
namespace Go.Proofs.YtdpdaphholileaaGreatDoor
open Go Go.Vcg

def law17_FormulaChecks_vc (e_0 : Int) (e_1 : Bool) (e_2A : Option Addr) (e_2n e_2c : Nat) (e_3A : Option Addr) (e_3n e_3c : Nat) (e_4 : ByteArray) (e_5A : Option Addr) (e_5n e_5c : Nat) (h : Heap) (R : Value → Heap → Prop) : Prop :=
 CallsU Tryz.prog 11 [Value.agg #[Value.int .i64 e_0, Value.bool e_1, Value.slice e_2A e_2n e_2c, Value.slice e_3A e_3n e_3c, Value.string e_4, Value.slice e_5A e_5n e_5c]] h fun v h_1 =>
 ∃ t4 : Bool, v = Value.bool t4 ∧
 Br (!t4)
  (CallsU Tryz.prog 12 [] h_1 fun v_1 h_2 =>
 ∃ t6 : Bool, v_1 = Value.bool t6 ∧
 R (Value.bool t6) h_2)
  (CallsU Tryz.prog 13 [Value.agg #[Value.int .i64 e_0, Value.bool e_1, Value.slice e_2A e_2n e_2c, Value.slice e_3A e_3n e_3c, Value.string e_4, Value.slice e_5A e_5n e_5c]] h_1 fun v_2 h_3 =>
 ∃ t8 : Int, v_2 = Value.int .i64 t8 ∧
 LeH h_1 h_3 ∧
 CallsU Tryz.prog 14 [Value.agg #[Value.int .i64 e_0, Value.bool e_1, Value.slice e_2A e_2n e_2c, Value.slice e_3A e_3n e_3c, Value.string e_4, Value.slice e_5A e_5n e_5c]] h_3 fun v_3 h_4 =>
 ∃ t10 : Int, v_3 = Value.int .i64 t10 ∧
 Br ((t8 : Int) == t10)
  (CallsU Tryz.prog 16 [Value.agg #[Value.int .i64 e_0, Value.bool e_1, Value.slice e_2A e_2n e_2c, Value.slice e_3A e_3n e_3c, Value.string e_4, Value.slice e_5A e_5n e_5c]] h_4 fun v_4 h_5 =>
 ∃ t14A : Option Addr, ∃ t14n t14c : Nat, v_4 = Value.slice t14A t14n t14c ∧
 LeH h_4 h_5 ∧
 CallsU Tryz.prog 17 [Value.agg #[Value.int .i64 e_0, Value.bool e_1, Value.slice e_2A e_2n e_2c, Value.slice e_3A e_3n e_3c, Value.string e_4, Value.slice e_5A e_5n e_5c]] h_5 fun v_5 h_6 =>
 ∃ t16A : Option Addr, ∃ t16n t16c : Nat, v_5 = Value.slice t16A t16n t16c ∧
 CallsU Tryz.prog 15 [Value.slice t14A t14n t14c, Value.slice t16A t16n t16c] h_6 fun v_6 h_7 =>
 ∃ t17 : Bool, v_6 = Value.bool t17 ∧
 Br (t17)
  (CallsU Tryz.prog 12 [] h_7 fun v_7 h_8 =>
 ∃ t20 : Bool, v_7 = Value.bool t20 ∧
 R (Value.bool t20) h_8)
  (R (Value.bool false) h_7))
  (LeH h_4 h_4 ∧
 R (Value.bool false) h_4))

set_option maxRecDepth 100000 in
theorem law17_FormulaChecks_ok {e_0 : Int} {e_1 : Bool} {e_2A : Option Addr} {e_2n e_2c : Nat} {e_3A : Option Addr} {e_3n e_3c : Nat} {e_4 : ByteArray} {e_5A : Option Addr} {e_5n e_5c : Nat} {h : Heap} {R : Value → Heap → Prop} (hv : law17_FormulaChecks_vc e_0 e_1 e_2A e_2n e_2c e_3A e_3n e_3c e_4 e_5A e_5n e_5c h R) : CallsU Tryz.prog 3 [Value.agg #[Value.int .i64 e_0, Value.bool e_1, Value.slice e_2A e_2n e_2c, Value.slice e_3A e_3n e_3c, Value.string e_4, Value.slice e_5A e_5n e_5c]] h R :=
  fn_sound Tryz.func3 (by kernel_rfl) (by kernel_rfl) (by kernel_rfl) (fun _ => false) (.two .nil (.two .nil (.two (.ord [0, 2, 1, 3, 4, 5, 6, 8, 7, 9, 10, 11, 12, 13, 14, 15]) .nil))) [Value.agg #[Value.int .i64 e_0, Value.bool e_1, Value.slice e_2A e_2n e_2c, Value.slice e_3A e_3n e_3c, Value.string e_4, Value.slice e_5A e_5n e_5c]] h R (by kernel_rfl)
    (Eq.mp (show law17_FormulaChecks_vc e_0 e_1 e_2A e_2n e_2c e_3A e_3n e_3c e_4 e_5A e_5n e_5c h R = fnV Tryz.prog Tryz.f3 (fun _ => false) (.two .nil (.two .nil (.two (.ord [0, 2, 1, 3, 4, 5, 6, 8, 7, 9, 10, 11, 12, 13, 14, 15]) .nil))) [Value.agg #[Value.int .i64 e_0, Value.bool e_1, Value.slice e_2A e_2n e_2c, Value.slice e_3A e_3n e_3c, Value.string e_4, Value.slice e_5A e_5n e_5c]] h R by kernel_rfl) hv)

set_option maxRecDepth 100000 in
def law17_FormulaComposes_vc (a_0 : Int) (a_1 : Bool) (a_2A : Option Addr) (a_2n a_2c : Nat) (a_3A : Option Addr) (a_3n a_3c : Nat) (a_4 : ByteArray) (a_5A : Option Addr) (a_5n a_5c : Nat) (b_0 : Int) (b_1 : Bool) (b_2A : Option Addr) (b_2n b_2c : Nat) (b_3A : Option Addr) (b_3n b_3c : Nat) (b_4 : ByteArray) (b_5A : Option Addr) (b_5n b_5c : Nat) (envA : Option Addr) (envn envc : Nat) (h : Heap) (R : Value → Heap → Prop) : Prop :=
 ∃ C : Bool → Heap → Prop, (∀ (t44 : Bool) (h_1 : Heap), C t44 h_1 →
 Br (t44)
  (CallsU Tryz.prog 12 [] h_1 fun v h_2 =>
 ∃ t45 : Bool, v = Value.bool t45 ∧
 R (Value.bool t45) h_2)
  (CallsU Tryz.prog 25 [Value.agg #[Value.int .i64 a_0, Value.bool a_1, Value.slice a_2A a_2n a_2c, Value.slice a_3A a_3n a_3c, Value.string a_4, Value.slice a_5A a_5n a_5c], Value.slice envA envn envc] h_1 fun v_1 h_3 =>
 ∃ t49_0_0 : Bool, ∃ t49_0_1A : Option Addr, ∃ t49_0_1n t49_0_1c : Nat, ∃ t49_0_2A : Option Addr, ∃ t49_0_2n t49_0_2c : Nat, ∃ t49_1 : Int, v_1 = Value.tuple #[Value.agg #[Value.bool t49_0_0, Value.slice t49_0_1A t49_0_1n t49_0_1c, Value.slice t49_0_2A t49_0_2n t49_0_2c], Value.int .i64 t49_1] ∧
 CallsU Tryz.prog 25 [Value.agg #[Value.int .i64 b_0, Value.bool b_1, Value.slice b_2A b_2n b_2c, Value.slice b_3A b_3n b_3c, Value.string b_4, Value.slice b_5A b_5n b_5c], Value.slice envA envn envc] h_3 fun v_2 h_4 =>
 ∃ t55_0_0 : Bool, ∃ t55_0_1A : Option Addr, ∃ t55_0_1n t55_0_1c : Nat, ∃ t55_0_2A : Option Addr, ∃ t55_0_2n t55_0_2c : Nat, ∃ t55_1 : Int, v_2 = Value.tuple #[Value.agg #[Value.bool t55_0_0, Value.slice t55_0_1A t55_0_1n t55_0_1c, Value.slice t55_0_2A t55_0_2n t55_0_2c], Value.int .i64 t55_1] ∧
 ∃ C_1 : Bool → Heap → Prop, (∀ (t63 : Bool) (h_5 : Heap), C_1 t63 h_5 →
 Br (t63)
  (CallsU Tryz.prog 28 [Value.int .i64 6, Value.agg #[Value.int .i64 a_0, Value.bool a_1, Value.slice a_2A a_2n a_2c, Value.slice a_3A a_3n a_3c, Value.string a_4, Value.slice a_5A a_5n a_5c], Value.agg #[Value.int .i64 b_0, Value.bool b_1, Value.slice b_2A b_2n b_2c, Value.slice b_3A b_3n b_3c, Value.string b_4, Value.slice b_5A b_5n b_5c]] h_5 fun v_3 h_6 =>
 ∃ t67_0 : Int, ∃ t67_1 : Bool, ∃ t67_2A : Option Addr, ∃ t67_2n t67_2c : Nat, ∃ t67_3A : Option Addr, ∃ t67_3n t67_3c : Nat, ∃ t67_4 : ByteArray, ∃ t67_5A : Option Addr, ∃ t67_5n t67_5c : Nat, v_3 = Value.agg #[Value.int .i64 t67_0, Value.bool t67_1, Value.slice t67_2A t67_2n t67_2c, Value.slice t67_3A t67_3n t67_3c, Value.string t67_4, Value.slice t67_5A t67_5n t67_5c] ∧
 CallsU Tryz.prog 25 [Value.agg #[Value.int .i64 t67_0, Value.bool t67_1, Value.slice t67_2A t67_2n t67_2c, Value.slice t67_3A t67_3n t67_3c, Value.string t67_4, Value.slice t67_5A t67_5n t67_5c], Value.slice envA envn envc] h_6 fun v_4 h_7 =>
 ∃ t69_0_0 : Bool, ∃ t69_0_1A : Option Addr, ∃ t69_0_1n t69_0_1c : Nat, ∃ t69_0_2A : Option Addr, ∃ t69_0_2n t69_0_2c : Nat, ∃ t69_1 : Int, v_4 = Value.tuple #[Value.agg #[Value.bool t69_0_0, Value.slice t69_0_1A t69_0_1n t69_0_1c, Value.slice t69_0_2A t69_0_2n t69_0_2c], Value.int .i64 t69_1] ∧
 ∃ C_2 : Bool → Heap → Prop, (∀ (t6 : Bool) (h_8 : Heap), C_2 t6 h_8 →
 R (Value.bool t6) h_8) ∧
 Br ((t49_1 : Int) != 0)
  (Br ((t69_1 : Int) == t49_1)
  (CallsU Tryz.prog 12 [] h_7 fun v_5 h_9 =>
 ∃ t89 : Bool, v_5 = Value.bool t89 ∧
 C_2 t89 h_9)
  (Br ((t49_1 : Int) == 0)
  (Br ((t69_1 : Int) == t55_1)
  (CallsU Tryz.prog 12 [] h_7 fun v_6 h_10 =>
 ∃ t89_1 : Bool, v_6 = Value.bool t89_1 ∧
 C_2 t89_1 h_10)
  (C_2 false h_7))
  (C_2 false h_7)))
  (Br ((t49_1 : Int) == 0)
  (Br ((t69_1 : Int) == t55_1)
  (CallsU Tryz.prog 12 [] h_7 fun v_7 h_11 =>
 ∃ t89_2 : Bool, v_7 = Value.bool t89_2 ∧
 C_2 t89_2 h_11)
  (C_2 false h_7))
  (C_2 false h_7)))
  (CallsU Tryz.prog 28 [Value.int .i64 3, Value.agg #[Value.int .i64 a_0, Value.bool a_1, Value.slice a_2A a_2n a_2c, Value.slice a_3A a_3n a_3c, Value.string a_4, Value.slice a_5A a_5n a_5c], Value.agg #[Value.int .i64 b_0, Value.bool b_1, Value.slice b_2A b_2n b_2c, Value.slice b_3A b_3n b_3c, Value.string b_4, Value.slice b_5A b_5n b_5c]] h_5 fun v_8 h_12 =>
 ∃ t94_0 : Int, ∃ t94_1 : Bool, ∃ t94_2A : Option Addr, ∃ t94_2n t94_2c : Nat, ∃ t94_3A : Option Addr, ∃ t94_3n t94_3c : Nat, ∃ t94_4 : ByteArray, ∃ t94_5A : Option Addr, ∃ t94_5n t94_5c : Nat, v_8 = Value.agg #[Value.int .i64 t94_0, Value.bool t94_1, Value.slice t94_2A t94_2n t94_2c, Value.slice t94_3A t94_3n t94_3c, Value.string t94_4, Value.slice t94_5A t94_5n t94_5c] ∧
 CallsU Tryz.prog 25 [Value.agg #[Value.int .i64 t94_0, Value.bool t94_1, Value.slice t94_2A t94_2n t94_2c, Value.slice t94_3A t94_3n t94_3c, Value.string t94_4, Value.slice t94_5A t94_5n t94_5c], Value.slice envA envn envc] h_12 fun v_9 h_13 =>
 ∃ t96_0_0 : Bool, ∃ t96_0_1A : Option Addr, ∃ t96_0_1n t96_0_1c : Nat, ∃ t96_0_2A : Option Addr, ∃ t96_0_2n t96_0_2c : Nat, ∃ t96_1 : Int, v_9 = Value.tuple #[Value.agg #[Value.bool t96_0_0, Value.slice t96_0_1A t96_0_1n t96_0_1c, Value.slice t96_0_2A t96_0_2n t96_0_2c], Value.int .i64 t96_1] ∧
 CallsU Tryz.prog 28 [Value.int .i64 4, Value.agg #[Value.int .i64 a_0, Value.bool a_1, Value.slice a_2A a_2n a_2c, Value.slice a_3A a_3n a_3c, Value.string a_4, Value.slice a_5A a_5n a_5c], Value.agg #[Value.int .i64 b_0, Value.bool b_1, Value.slice b_2A b_2n b_2c, Value.slice b_3A b_3n b_3c, Value.string b_4, Value.slice b_5A b_5n b_5c]] h_13 fun v_10 h_14 =>
 ∃ t102_0 : Int, ∃ t102_1 : Bool, ∃ t102_2A : Option Addr, ∃ t102_2n t102_2c : Nat, ∃ t102_3A : Option Addr, ∃ t102_3n t102_3c : Nat, ∃ t102_4 : ByteArray, ∃ t102_5A : Option Addr, ∃ t102_5n t102_5c : Nat, v_10 = Value.agg #[Value.int .i64 t102_0, Value.bool t102_1, Value.slice t102_2A t102_2n t102_2c, Value.slice t102_3A t102_3n t102_3c, Value.string t102_4, Value.slice t102_5A t102_5n t102_5c] ∧
 CallsU Tryz.prog 25 [Value.agg #[Value.int .i64 t102_0, Value.bool t102_1, Value.slice t102_2A t102_2n t102_2c, Value.slice t102_3A t102_3n t102_3c, Value.string t102_4, Value.slice t102_5A t102_5n t102_5c], Value.slice envA envn envc] h_14 fun v_11 h_15 =>
 ∃ t104_0_0 : Bool, ∃ t104_0_1A : Option Addr, ∃ t104_0_1n t104_0_1c : Nat, ∃ t104_0_2A : Option Addr, ∃ t104_0_2n t104_0_2c : Nat, ∃ t104_1 : Int, v_11 = Value.tuple #[Value.agg #[Value.bool t104_0_0, Value.slice t104_0_1A t104_0_1n t104_0_1c, Value.slice t104_0_2A t104_0_2n t104_0_2c], Value.int .i64 t104_1] ∧
 CallsU Tryz.prog 28 [Value.int .i64 5, Value.agg #[Value.int .i64 a_0, Value.bool a_1, Value.slice a_2A a_2n a_2c, Value.slice a_3A a_3n a_3c, Value.string a_4, Value.slice a_5A a_5n a_5c], Value.agg #[Value.int .i64 b_0, Value.bool b_1, Value.slice b_2A b_2n b_2c, Value.slice b_3A b_3n b_3c, Value.string b_4, Value.slice b_5A b_5n b_5c]] h_15 fun v_12 h_16 =>
 ∃ t110_0 : Int, ∃ t110_1 : Bool, ∃ t110_2A : Option Addr, ∃ t110_2n t110_2c : Nat, ∃ t110_3A : Option Addr, ∃ t110_3n t110_3c : Nat, ∃ t110_4 : ByteArray, ∃ t110_5A : Option Addr, ∃ t110_5n t110_5c : Nat, v_12 = Value.agg #[Value.int .i64 t110_0, Value.bool t110_1, Value.slice t110_2A t110_2n t110_2c, Value.slice t110_3A t110_3n t110_3c, Value.string t110_4, Value.slice t110_5A t110_5n t110_5c] ∧
 CallsU Tryz.prog 25 [Value.agg #[Value.int .i64 t110_0, Value.bool t110_1, Value.slice t110_2A t110_2n t110_2c, Value.slice t110_3A t110_3n t110_3c, Value.string t110_4, Value.slice t110_5A t110_5n t110_5c], Value.slice envA envn envc] h_16 fun v_13 h_17 =>
 ∃ t112_0_0 : Bool, ∃ t112_0_1A : Option Addr, ∃ t112_0_1n t112_0_1c : Nat, ∃ t112_0_2A : Option Addr, ∃ t112_0_2n t112_0_2c : Nat, ∃ t112_1 : Int, v_13 = Value.tuple #[Value.agg #[Value.bool t112_0_0, Value.slice t112_0_1A t112_0_1n t112_0_1c, Value.slice t112_0_2A t112_0_2n t112_0_2c], Value.int .i64 t112_1] ∧
 CallsU Tryz.prog 28 [Value.int .i64 8, Value.agg #[Value.int .i64 a_0, Value.bool a_1, Value.slice a_2A a_2n a_2c, Value.slice a_3A a_3n a_3c, Value.string a_4, Value.slice a_5A a_5n a_5c], Value.agg #[Value.int .i64 b_0, Value.bool b_1, Value.slice b_2A b_2n b_2c, Value.slice b_3A b_3n b_3c, Value.string b_4, Value.slice b_5A b_5n b_5c]] h_17 fun v_14 h_18 =>
 ∃ t118_0 : Int, ∃ t118_1 : Bool, ∃ t118_2A : Option Addr, ∃ t118_2n t118_2c : Nat, ∃ t118_3A : Option Addr, ∃ t118_3n t118_3c : Nat, ∃ t118_4 : ByteArray, ∃ t118_5A : Option Addr, ∃ t118_5n t118_5c : Nat, v_14 = Value.agg #[Value.int .i64 t118_0, Value.bool t118_1, Value.slice t118_2A t118_2n t118_2c, Value.slice t118_3A t118_3n t118_3c, Value.string t118_4, Value.slice t118_5A t118_5n t118_5c] ∧
 CallsU Tryz.prog 25 [Value.agg #[Value.int .i64 t118_0, Value.bool t118_1, Value.slice t118_2A t118_2n t118_2c, Value.slice t118_3A t118_3n t118_3c, Value.string t118_4, Value.slice t118_5A t118_5n t118_5c], Value.slice envA envn envc] h_18 fun v_15 h_19 =>
 ∃ t120_0_0 : Bool, ∃ t120_0_1A : Option Addr, ∃ t120_0_1n t120_0_1c : Nat, ∃ t120_0_2A : Option Addr, ∃ t120_0_2n t120_0_2c : Nat, ∃ t120_1 : Int, v_15 = Value.tuple #[Value.agg #[Value.bool t120_0_0, Value.slice t120_0_1A t120_0_1n t120_0_1c, Value.slice t120_0_2A t120_0_2n t120_0_2c], Value.int .i64 t120_1] ∧
 CallsU Tryz.prog 28 [Value.int .i64 9, Value.agg #[Value.int .i64 a_0, Value.bool a_1, Value.slice a_2A a_2n a_2c, Value.slice a_3A a_3n a_3c, Value.string a_4, Value.slice a_5A a_5n a_5c], Value.agg #[Value.int .i64 b_0, Value.bool b_1, Value.slice b_2A b_2n b_2c, Value.slice b_3A b_3n b_3c, Value.string b_4, Value.slice b_5A b_5n b_5c]] h_19 fun v_16 h_20 =>
 ∃ t126_0 : Int, ∃ t126_1 : Bool, ∃ t126_2A : Option Addr, ∃ t126_2n t126_2c : Nat, ∃ t126_3A : Option Addr, ∃ t126_3n t126_3c : Nat, ∃ t126_4 : ByteArray, ∃ t126_5A : Option Addr, ∃ t126_5n t126_5c : Nat, v_16 = Value.agg #[Value.int .i64 t126_0, Value.bool t126_1, Value.slice t126_2A t126_2n t126_2c, Value.slice t126_3A t126_3n t126_3c, Value.string t126_4, Value.slice t126_5A t126_5n t126_5c] ∧
 CallsU Tryz.prog 25 [Value.agg #[Value.int .i64 t126_0, Value.bool t126_1, Value.slice t126_2A t126_2n t126_2c, Value.slice t126_3A t126_3n t126_3c, Value.string t126_4, Value.slice t126_5A t126_5n t126_5c], Value.slice envA envn envc] h_20 fun v_17 h_21 =>
 ∃ t128_0_0 : Bool, ∃ t128_0_1A : Option Addr, ∃ t128_0_1n t128_0_1c : Nat, ∃ t128_0_2A : Option Addr, ∃ t128_0_2n t128_0_2c : Nat, ∃ t128_1 : Int, v_17 = Value.tuple #[Value.agg #[Value.bool t128_0_0, Value.slice t128_0_1A t128_0_1n t128_0_1c, Value.slice t128_0_2A t128_0_2n t128_0_2c], Value.int .i64 t128_1] ∧
 CallsU Tryz.prog 28 [Value.int .i64 6, Value.agg #[Value.int .i64 a_0, Value.bool a_1, Value.slice a_2A a_2n a_2c, Value.slice a_3A a_3n a_3c, Value.string a_4, Value.slice a_5A a_5n a_5c], Value.agg #[Value.int .i64 b_0, Value.bool b_1, Value.slice b_2A b_2n b_2c, Value.slice b_3A b_3n b_3c, Value.string b_4, Value.slice b_5A b_5n b_5c]] h_21 fun v_18 h_22 =>
 ∃ t134_0 : Int, ∃ t134_1 : Bool, ∃ t134_2A : Option Addr, ∃ t134_2n t134_2c : Nat, ∃ t134_3A : Option Addr, ∃ t134_3n t134_3c : Nat, ∃ t134_4 : ByteArray, ∃ t134_5A : Option Addr, ∃ t134_5n t134_5c : Nat, v_18 = Value.agg #[Value.int .i64 t134_0, Value.bool t134_1, Value.slice t134_2A t134_2n t134_2c, Value.slice t134_3A t134_3n t134_3c, Value.string t134_4, Value.slice t134_5A t134_5n t134_5c] ∧
 CallsU Tryz.prog 25 [Value.agg #[Value.int .i64 t134_0, Value.bool t134_1, Value.slice t134_2A t134_2n t134_2c, Value.slice t134_3A t134_3n t134_3c, Value.string t134_4, Value.slice t134_5A t134_5n t134_5c], Value.slice envA envn envc] h_22 fun v_19 h_23 =>
 ∃ t136_0_0 : Bool, ∃ t136_0_1A : Option Addr, ∃ t136_0_1n t136_0_1c : Nat, ∃ t136_0_2A : Option Addr, ∃ t136_0_2n t136_0_2c : Nat, ∃ t136_1 : Int, v_19 = Value.tuple #[Value.agg #[Value.bool t136_0_0, Value.slice t136_0_1A t136_0_1n t136_0_1c, Value.slice t136_0_2A t136_0_2n t136_0_2c], Value.int .i64 t136_1] ∧
 ∃ C_3 : Bool → Heap → Prop, (∀ (t180 : Bool) (h_24 : Heap), C_3 t180 h_24 →
 Br (t180)
  (R (Value.bool false) h_24)
  (∃ C_4 : Heap → Prop, (∀  (h_25 : Heap), C_4 h_25 →
 CallsU Tryz.prog 33 [Value.int .i64 0, Value.int .i64 1] h_25 fun v_20 h_26 =>
 ∃ t206_0 : Bool, ∃ t206_1A : Option Addr, ∃ t206_1n t206_1c : Nat, ∃ t206_2A : Option Addr, ∃ t206_2n t206_2c : Nat, v_20 = Value.agg #[Value.bool t206_0, Value.slice t206_1A t206_1n t206_1c, Value.slice t206_2A t206_2n t206_2c] ∧
 LeH h_25 h_26 ∧
 CallsU Tryz.prog 29 [Value.agg #[Value.bool t55_0_0, Value.slice t55_0_1A t55_0_1n t55_0_1c, Value.slice t55_0_2A t55_0_2n t55_0_2c], Value.agg #[Value.bool t206_0, Value.slice t206_1A t206_1n t206_1c, Value.slice t206_2A t206_2n t206_2c]] h_26 fun v_21 h_27 =>
 ∃ t207 : Int, v_21 = Value.int .i64 t207 ∧
 Br ((t207 : Int) == 0)
  (∃ C_5 : Bool → Heap → Prop, (∀ (t6_1 : Bool) (h_28 : Heap), C_5 t6_1 h_28 →
 R (Value.bool t6_1) h_28) ∧
 Br ((t136_1 : Int) == 10)
  (CallsU Tryz.prog 12 [] h_27 fun v_22 h_29 =>
 ∃ t212 : Bool, v_22 = Value.bool t212 ∧
 C_5 t212 h_29)
  (C_5 false h_27))
  (Br ((t136_1 : Int) == 0)
  (CallsU Tryz.prog 32 [Value.agg #[Value.bool t136_0_0, Value.slice t136_0_1A t136_0_1n t136_0_1c, Value.slice t136_0_2A t136_0_2n t136_0_2c], Value.agg #[Value.bool t55_0_0, Value.slice t55_0_1A t55_0_1n t55_0_1c, Value.slice t55_0_2A t55_0_2n t55_0_2c]] h_27 fun v_23 h_30 =>
 ∃ t219_0 : Bool, ∃ t219_1A : Option Addr, ∃ t219_1n t219_1c : Nat, ∃ t219_2A : Option Addr, ∃ t219_2n t219_2c : Nat, v_23 = Value.agg #[Value.bool t219_0, Value.slice t219_1A t219_1n t219_1c, Value.slice t219_2A t219_2n t219_2c] ∧
 LeH h_27 h_30 ∧
 CallsU Tryz.prog 29 [Value.agg #[Value.bool t219_0, Value.slice t219_1A t219_1n t219_1c, Value.slice t219_2A t219_2n t219_2c], Value.agg #[Value.bool t49_0_0, Value.slice t49_0_1A t49_0_1n t49_0_1c, Value.slice t49_0_2A t49_0_2n t49_0_2c]] h_30 fun v_24 h_31 =>
 ∃ t221 : Int, v_24 = Value.int .i64 t221 ∧
 Br ((t221 : Int) == 0)
  (CallsU Tryz.prog 12 [] h_31 fun v_25 h_32 =>
 ∃ t225 : Bool, v_25 = Value.bool t225 ∧
 R (Value.bool t225) h_32)
  (R (Value.bool false) h_31))
  (LeH h_27 h_27 ∧
 R (Value.bool false) h_27))) ∧
 CallsU Tryz.prog 29 [Value.agg #[Value.bool t120_0_0, Value.slice t120_0_1A t120_0_1n t120_0_1c, Value.slice t120_0_2A t120_0_2n t120_0_2c], Value.agg #[Value.bool t128_0_0, Value.slice t128_0_1A t128_0_1n t128_0_1c, Value.slice t128_0_2A t128_0_2n t128_0_2c]] h_24 fun v_26 h_33 =>
 ∃ t183 : Int, v_26 = Value.int .i64 t183 ∧
 Br (decide (t183 > 0))
  (LeH h_33 h_33 ∧
 R (Value.bool false) h_33)
  (CallsU Tryz.prog 30 [Value.agg #[Value.bool t120_0_0, Value.slice t120_0_1A t120_0_1n t120_0_1c, Value.slice t120_0_2A t120_0_2n t120_0_2c], Value.agg #[Value.bool t128_0_0, Value.slice t128_0_1A t128_0_1n t128_0_1c, Value.slice t128_0_2A t128_0_2n t128_0_2c]] h_33 fun v_27 h_34 =>
 ∃ t188_0 : Bool, ∃ t188_1A : Option Addr, ∃ t188_1n t188_1c : Nat, ∃ t188_2A : Option Addr, ∃ t188_2n t188_2c : Nat, v_27 = Value.agg #[Value.bool t188_0, Value.slice t188_1A t188_1n t188_1c, Value.slice t188_2A t188_2n t188_2c] ∧
 LeH h_33 h_34 ∧
 CallsU Tryz.prog 29 [Value.agg #[Value.bool t188_0, Value.slice t188_1A t188_1n t188_1c, Value.slice t188_2A t188_2n t188_2c], Value.agg #[Value.bool t96_0_0, Value.slice t96_0_1A t96_0_1n t96_0_1c, Value.slice t96_0_2A t96_0_2n t96_0_2c]] h_34 fun v_28 h_35 =>
 ∃ t190 : Int, v_28 = Value.int .i64 t190 ∧
 Br ((t190 : Int) != 0)
  (R (Value.bool false) h_35)
  (CallsU Tryz.prog 29 [Value.agg #[Value.bool t120_0_0, Value.slice t120_0_1A t120_0_1n t120_0_1c, Value.slice t120_0_2A t120_0_2n t120_0_2c], Value.agg #[Value.bool t49_0_0, Value.slice t49_0_1A t49_0_1n t49_0_1c, Value.slice t49_0_2A t49_0_2n t49_0_2c]] h_35 fun v_29 h_36 =>
 ∃ t196 : Int, v_29 = Value.int .i64 t196 ∧
 Br ((t196 : Int) != 0)
  (CallsU Tryz.prog 29 [Value.agg #[Value.bool t120_0_0, Value.slice t120_0_1A t120_0_1n t120_0_1c, Value.slice t120_0_2A t120_0_2n t120_0_2c], Value.agg #[Value.bool t55_0_0, Value.slice t55_0_1A t55_0_1n t55_0_1c, Value.slice t55_0_2A t55_0_2n t55_0_2c]] h_36 fun v_30 h_37 =>
 ∃ t201 : Int, v_30 = Value.int .i64 t201 ∧
 Br ((t201 : Int) != 0)
  (R (Value.bool false) h_37)
  (C_4 h_37))
  (C_4 h_36))))) ∧
 Br ((t96_1 : Int) != 0)
  (LeH h_23 h_23 ∧
 LeH h_23 h_23 ∧
 LeH h_23 h_23 ∧
 C_3 true h_23)
  (Br ((t104_1 : Int) != 0)
  (LeH h_23 h_23 ∧
 LeH h_23 h_23 ∧
 LeH h_23 h_23 ∧
 C_3 true h_23)
  (Br ((t112_1 : Int) != 0)
  (LeH h_23 h_23 ∧
 LeH h_23 h_23 ∧
 LeH h_23 h_23 ∧
 C_3 true h_23)
  (Br ((t120_1 : Int) != 0)
  (LeH h_23 h_23 ∧
 LeH h_23 h_23 ∧
 LeH h_23 h_23 ∧
 C_3 true h_23)
  (Br ((t128_1 : Int) != 0)
  (LeH h_23 h_23 ∧
 LeH h_23 h_23 ∧
 LeH h_23 h_23 ∧
 C_3 true h_23)
  (CallsU Tryz.prog 30 [Value.agg #[Value.bool t49_0_0, Value.slice t49_0_1A t49_0_1n t49_0_1c, Value.slice t49_0_2A t49_0_2n t49_0_2c], Value.agg #[Value.bool t55_0_0, Value.slice t55_0_1A t55_0_1n t55_0_1c, Value.slice t55_0_2A t55_0_2n t55_0_2c]] h_23 fun v_31 h_38 =>
 ∃ t161_0 : Bool, ∃ t161_1A : Option Addr, ∃ t161_1n t161_1c : Nat, ∃ t161_2A : Option Addr, ∃ t161_2n t161_2c : Nat, v_31 = Value.agg #[Value.bool t161_0, Value.slice t161_1A t161_1n t161_1c, Value.slice t161_2A t161_2n t161_2c] ∧
 LeH h_23 h_38 ∧
 CallsU Tryz.prog 29 [Value.agg #[Value.bool t96_0_0, Value.slice t96_0_1A t96_0_1n t96_0_1c, Value.slice t96_0_2A t96_0_2n t96_0_2c], Value.agg #[Value.bool t161_0, Value.slice t161_1A t161_1n t161_1c, Value.slice t161_2A t161_2n t161_2c]] h_38 fun v_32 h_39 =>
 ∃ t162 : Int, v_32 = Value.int .i64 t162 ∧
 Br ((t162 : Int) != 0)
  (LeH h_39 h_39 ∧
 LeH h_39 h_39 ∧
 C_3 true h_39)
  (CallsU Tryz.prog 31 [Value.agg #[Value.bool t49_0_0, Value.slice t49_0_1A t49_0_1n t49_0_1c, Value.slice t49_0_2A t49_0_2n t49_0_2c], Value.agg #[Value.bool t55_0_0, Value.slice t55_0_1A t55_0_1n t55_0_1c, Value.slice t55_0_2A t55_0_2n t55_0_2c]] h_39 fun v_33 h_40 =>
 ∃ t169_0 : Bool, ∃ t169_1A : Option Addr, ∃ t169_1n t169_1c : Nat, ∃ t169_2A : Option Addr, ∃ t169_2n t169_2c : Nat, v_33 = Value.agg #[Value.bool t169_0, Value.slice t169_1A t169_1n t169_1c, Value.slice t169_2A t169_2n t169_2c] ∧
 LeH h_39 h_40 ∧
 CallsU Tryz.prog 29 [Value.agg #[Value.bool t104_0_0, Value.slice t104_0_1A t104_0_1n t104_0_1c, Value.slice t104_0_2A t104_0_2n t104_0_2c], Value.agg #[Value.bool t169_0, Value.slice t169_1A t169_1n t169_1c, Value.slice t169_2A t169_2n t169_2c]] h_40 fun v_34 h_41 =>
 ∃ t170 : Int, v_34 = Value.int .i64 t170 ∧
 Br ((t170 : Int) != 0)
  (LeH h_41 h_41 ∧
 C_3 true h_41)
  (CallsU Tryz.prog 32 [Value.agg #[Value.bool t49_0_0, Value.slice t49_0_1A t49_0_1n t49_0_1c, Value.slice t49_0_2A t49_0_2n t49_0_2c], Value.agg #[Value.bool t55_0_0, Value.slice t55_0_1A t55_0_1n t55_0_1c, Value.slice t55_0_2A t55_0_2n t55_0_2c]] h_41 fun v_35 h_42 =>
 ∃ t177_0 : Bool, ∃ t177_1A : Option Addr, ∃ t177_1n t177_1c : Nat, ∃ t177_2A : Option Addr, ∃ t177_2n t177_2c : Nat, v_35 = Value.agg #[Value.bool t177_0, Value.slice t177_1A t177_1n t177_1c, Value.slice t177_2A t177_2n t177_2c] ∧
 LeH h_41 h_42 ∧
 CallsU Tryz.prog 29 [Value.agg #[Value.bool t112_0_0, Value.slice t112_0_1A t112_0_1n t112_0_1c, Value.slice t112_0_2A t112_0_2n t112_0_2c], Value.agg #[Value.bool t177_0, Value.slice t177_1A t177_1n t177_1c, Value.slice t177_2A t177_2n t177_2c]] h_42 fun v_36 h_43 =>
 ∃ t178 : Int, v_36 = Value.int .i64 t178 ∧
 C_3 ((t178 : Int) != 0) h_43))))))))) ∧
 Br ((t49_1 : Int) != 0)
  (C_1 true h_4)
  (C_1 ((t55_1 : Int) != 0) h_4))) ∧
 CallsU Tryz.prog 11 [Value.agg #[Value.int .i64 a_0, Value.bool a_1, Value.slice a_2A a_2n a_2c, Value.slice a_3A a_3n a_3c, Value.string a_4, Value.slice a_5A a_5n a_5c]] h fun v_37 h_44 =>
 ∃ t26 : Bool, v_37 = Value.bool t26 ∧
 Br (!t26)
  (C true h_44)
  (CallsU Tryz.prog 11 [Value.agg #[Value.int .i64 b_0, Value.bool b_1, Value.slice b_2A b_2n b_2c, Value.slice b_3A b_3n b_3c, Value.string b_4, Value.slice b_5A b_5n b_5c]] h_44 fun v_38 h_45 =>
 ∃ t30 : Bool, v_38 = Value.bool t30 ∧
 Br (!t30)
  (C true h_45)
  (CallsU Tryz.prog 24 [Value.slice envA envn envc] h_45 fun v_39 h_46 =>
 ∃ t35 : Bool, v_39 = Value.bool t35 ∧
 Br (!t35)
  (C true h_46)
  (CallsU Tryz.prog 28 [Value.int .i64 3, Value.agg #[Value.int .i64 a_0, Value.bool a_1, Value.slice a_2A a_2n a_2c, Value.slice a_3A a_3n a_3c, Value.string a_4, Value.slice a_5A a_5n a_5c], Value.agg #[Value.int .i64 b_0, Value.bool b_1, Value.slice b_2A b_2n b_2c, Value.slice b_3A b_3n b_3c, Value.string b_4, Value.slice b_5A b_5n b_5c]] h_46 fun v_40 h_47 =>
 ∃ t41_0 : Int, ∃ t41_1 : Bool, ∃ t41_2A : Option Addr, ∃ t41_2n t41_2c : Nat, ∃ t41_3A : Option Addr, ∃ t41_3n t41_3c : Nat, ∃ t41_4 : ByteArray, ∃ t41_5A : Option Addr, ∃ t41_5n t41_5c : Nat, v_40 = Value.agg #[Value.int .i64 t41_0, Value.bool t41_1, Value.slice t41_2A t41_2n t41_2c, Value.slice t41_3A t41_3n t41_3c, Value.string t41_4, Value.slice t41_5A t41_5n t41_5c] ∧
 CallsU Tryz.prog 13 [Value.agg #[Value.int .i64 t41_0, Value.bool t41_1, Value.slice t41_2A t41_2n t41_2c, Value.slice t41_3A t41_3n t41_3c, Value.string t41_4, Value.slice t41_5A t41_5n t41_5c]] h_47 fun v_41 h_48 =>
 ∃ t42 : Int, v_41 = Value.int .i64 t42 ∧
 C ((t42 : Int) != 0) h_48)))

set_option maxRecDepth 100000 in
theorem law17_FormulaComposes_ok {a_0 : Int} {a_1 : Bool} {a_2A : Option Addr} {a_2n a_2c : Nat} {a_3A : Option Addr} {a_3n a_3c : Nat} {a_4 : ByteArray} {a_5A : Option Addr} {a_5n a_5c : Nat} {b_0 : Int} {b_1 : Bool} {b_2A : Option Addr} {b_2n b_2c : Nat} {b_3A : Option Addr} {b_3n b_3c : Nat} {b_4 : ByteArray} {b_5A : Option Addr} {b_5n b_5c : Nat} {envA : Option Addr} {envn envc : Nat} {h : Heap} {R : Value → Heap → Prop} (hv : law17_FormulaComposes_vc a_0 a_1 a_2A a_2n a_2c a_3A a_3n a_3c a_4 a_5A a_5n a_5c b_0 b_1 b_2A b_2n b_2c b_3A b_3n b_3c b_4 b_5A b_5n b_5c envA envn envc h R) : CallsU Tryz.prog 9 [Value.agg #[Value.int .i64 a_0, Value.bool a_1, Value.slice a_2A a_2n a_2c, Value.slice a_3A a_3n a_3c, Value.string a_4, Value.slice a_5A a_5n a_5c], Value.agg #[Value.int .i64 b_0, Value.bool b_1, Value.slice b_2A b_2n b_2c, Value.slice b_3A b_3n b_3c, Value.string b_4, Value.slice b_5A b_5n b_5c], Value.slice envA envn envc] h R :=
  fn_sound Tryz.func9 (by kernel_rfl) (by kernel_rfl) (by kernel_rfl) (fun _ => false) (.two .nil (.two (.cut ⟨[(44, Sh.bool)], []⟩ .nil .nil) (.two .nil (.two .nil (.two (.cut ⟨[(63, Sh.bool)], []⟩ .nil (.two (.two .nil (.cut ⟨[(6, Sh.bool)], []⟩ .nil .nil)) .nil)) (.two .nil (.two .nil (.two .nil (.two .nil (.two .nil (.two .nil (.two (.cut ⟨[(180, Sh.bool)], []⟩ (.ord [0, 1, 2, 3, 4, 5, 6, 7, 8, 9, 10, 11, 12, 13, 14, 15, 16, 17, 18, 19, 20, 21, 22, 23, 24, 25, 26, 27, 28, 29, 30, 31, 32, 33, 34, 35, 36, 37, 38, 39, 40, 41]) .nil) (.cut ⟨[], []⟩ (.two (.ord [0, 1, 2, 3, 4, 5, 6, 8, 7, 9, 10, 11, 12, 13, 14, 15, 16, 17, 18, 19, 20, 21, 22, 23]) .nil) (.two (.two (.ord [0, 1, 2, 3]) (.two (.cut ⟨[(6, Sh.bool)], []⟩ .nil .nil) .nil)) (.two (.ord [0, 1, 2, 3, 4, 6, 5, 7, 8, 9, 10, 11, 12, 13]) .nil))))))))))))))) [Value.agg #[Value.int .i64 a_0, Value.bool a_1, Value.slice a_2A a_2n a_2c, Value.slice a_3A a_3n a_3c, Value.string a_4, Value.slice a_5A a_5n a_5c], Value.agg #[Value.int .i64 b_0, Value.bool b_1, Value.slice b_2A b_2n b_2c, Value.slice b_3A b_3n b_3c, Value.string b_4, Value.slice b_5A b_5n b_5c], Value.slice envA envn envc] h R (by kernel_rfl)
    (Eq.mp (show law17_FormulaComposes_vc a_0 a_1 a_2A a_2n a_2c a_3A a_3n a_3c a_4 a_5A a_5n a_5c b_0 b_1 b_2A b_2n b_2c b_3A b_3n b_3c b_4 b_5A b_5n b_5c envA envn envc h R = fnV Tryz.prog Tryz.f9 (fun _ => false) (.two .nil (.two (.cut ⟨[(44, Sh.bool)], []⟩ .nil .nil) (.two .nil (.two .nil (.two (.cut ⟨[(63, Sh.bool)], []⟩ .nil (.two (.two .nil (.cut ⟨[(6, Sh.bool)], []⟩ .nil .nil)) .nil)) (.two .nil (.two .nil (.two .nil (.two .nil (.two .nil (.two .nil (.two (.cut ⟨[(180, Sh.bool)], []⟩ (.ord [0, 1, 2, 3, 4, 5, 6, 7, 8, 9, 10, 11, 12, 13, 14, 15, 16, 17, 18, 19, 20, 21, 22, 23, 24, 25, 26, 27, 28, 29, 30, 31, 32, 33, 34, 35, 36, 37, 38, 39, 40, 41]) .nil) (.cut ⟨[], []⟩ (.two (.ord [0, 1, 2, 3, 4, 5, 6, 8, 7, 9, 10, 11, 12, 13, 14, 15, 16, 17, 18, 19, 20, 21, 22, 23]) .nil) (.two (.two (.ord [0, 1, 2, 3]) (.two (.cut ⟨[(6, Sh.bool)], []⟩ .nil .nil) .nil)) (.two (.ord [0, 1, 2, 3, 4, 6, 5, 7, 8, 9, 10, 11, 12, 13]) .nil))))))))))))))) [Value.agg #[Value.int .i64 a_0, Value.bool a_1, Value.slice a_2A a_2n a_2c, Value.slice a_3A a_3n a_3c, Value.string a_4, Value.slice a_5A a_5n a_5c], Value.agg #[Value.int .i64 b_0, Value.bool b_1, Value.slice b_2A b_2n b_2c, Value.slice b_3A b_3n b_3c, Value.string b_4, Value.slice b_5A b_5n b_5c], Value.slice envA envn envc] h R by kernel_rfl) hv)

def law17_FormulaNames_vc (e_0 : Int) (e_1 : Bool) (e_2A : Option Addr) (e_2n e_2c : Nat) (e_3A : Option Addr) (e_3n e_3c : Nat) (e_4 : ByteArray) (e_5A : Option Addr) (e_5n e_5c : Nat) (envA : Option Addr) (envn envc : Nat) (h : Heap) (R : Value → Heap → Prop) : Prop :=
 ∃ C : Bool → Heap → Prop, (∀ (t27 : Bool) (h_1 : Heap), C t27 h_1 →
 Br (t27)
  (CallsU Tryz.prog 12 [] h_1 fun v h_2 =>
 ∃ t28 : Bool, v = Value.bool t28 ∧
 R (Value.bool t28) h_2)
  (CallsU Tryz.prog 16 [Value.agg #[Value.int .i64 e_0, Value.bool e_1, Value.slice e_2A e_2n e_2c, Value.slice e_3A e_3n e_3c, Value.string e_4, Value.slice e_5A e_5n e_5c]] h_1 fun v_1 h_3 =>
 ∃ t30A : Option Addr, ∃ t30n t30c : Nat, v_1 = Value.slice t30A t30n t30c ∧
 ∃ J : Nat → Option Addr → Nat → Nat → Bool → Int → Heap → Prop, (∃ m, J m none 0 0 false 0 h_3) ∧
 ∀ (m : Nat) (ownA : Option Addr) (ownn ownc : Nat) (missing : Bool) (i : Int) (h_4 : Heap), J m ownA ownn ownc missing i h_4 →
 Br (decide (i < ((t30n : Nat) : Int)))
  (∃ J_1 : Nat → Option Addr → Nat → Nat → Bool → Int → Heap → Prop, (∃ m_2, J_1 m_2 ownA ownn ownc false 0 h_4) ∧
 ∀ (m_2 : Nat) (ownA_1 : Option Addr) (ownn_1 ownc_1 : Nat) (found : Bool) (k : Int) (h_5 : Heap), J_1 m_2 ownA_1 ownn_1 ownc_1 found k h_5 →
 ∃ C_1 : Bool → Heap → Prop, (∀ (t44 : Bool) (h_6 : Heap), C_1 t44 h_6 →
 Br (t44)
  (∃ ad : Addr, envA = some ad ∧ 0 ≤ k ∧ k < ((envn : Nat) : Int) ∧
 ∃ t51 : ByteArray, LdN h_6 (Addr.add (Addr.add ad (Int.toNat k * 4)) 0) [Value.string t51] ∧
 ∃ ad_1 : Addr, t30A = some ad_1 ∧ 0 ≤ i ∧ i < ((t30n : Nat) : Int) ∧
 ∃ t55 : ByteArray, LdN h_6 (Addr.add ad_1 (Int.toNat i * 1)) [Value.string t55] ∧
 Br (t51.toList == t55.toList)
  (∃ ad_2 : Addr, envA = some ad_2 ∧ 0 ≤ k ∧ k < ((envn : Nat) : Int) ∧
 ∃ t61_0 : ByteArray, ∃ t61_1 : Bool, ∃ t61_2A : Option Addr, ∃ t61_2n t61_2c : Nat, ∃ t61_3A : Option Addr, ∃ t61_3n t61_3c : Nat, LdN h_6 (Addr.add ad_2 (Int.toNat k * 4)) [Value.string t61_0, Value.bool t61_1, Value.slice t61_2A t61_2n t61_2c, Value.slice t61_3A t61_3n t61_3c] ∧
 ∀ (g : Nat) (h_7 : Heap), h_6 g = none → h_7 = Heap.put h_6 g ⟨[Value.string t61_0, Value.bool t61_1, Value.slice t61_2A t61_2n t61_2c, Value.slice t61_3A t61_3n t61_3c], 56, (0, 0)⟩ →
 ∃ xs : List Value, RdS h_7 (some ⟨g, 0, none⟩) (1 * 4) xs ∧ (∀ x ∈ xs, Go.Vcg.one x = true) ∧
 (ownn_1 + 1 ≤ ownc_1 → ∃ (ad_3 : Addr) (b : Blk), ownA_1 = some ad_3 ∧ ad_3.spot = none ∧ h_7 ad_3.block = some b ∧ b.fz = (0, 0) ∧ ad_3.off + ownn_1 * 4 + 1 * 4 ≤ b.cells.length ∧
 ∀ h_9 : Heap, h_9 = Heap.put h_7 ad_3.block { b with cells := setSeg b.cells (ad_3.off + ownn_1 * 4) xs } →
 ∀ t46 : Int, t46 = IntKind.i64.wrap (k + 1) →
 ∃ m_3, m_3 < m_2 ∧ J_1 m_3 ownA_1 (ownn_1 + 1) ownc_1 true t46 h_9) ∧
 (ownc_1 < ownn_1 + 1 → ∃ olds : List Value, RdS h_7 ownA_1 (ownn_1 * 4) olds ∧ (ownn_1 + 1) * 72 ≤ 140737488355328 ∧
 ∀ (g_1 cap : Nat) (h_10 : Heap), h_7 g_1 = none → ownn_1 + 1 ≤ cap → h_10 = Heap.put h_7 g_1 ⟨olds ++ xs ++ repV [Value.string ByteArray.empty, Value.bool false, Value.slice none 0 0, Value.slice none 0 0] (cap - (ownn_1 + 1)), 56, (0, 0)⟩ →
 ∀ t46_1 : Int, t46_1 = IntKind.i64.wrap (k + 1) →
 ∃ m_3, m_3 < m_2 ∧ J_1 m_3 (some ⟨g_1, 0, none⟩) (ownn_1 + 1) cap true t46_1 h_10))
  (∀ t46_2 : Int, t46_2 = IntKind.i64.wrap (k + 1) →
 ∃ m_3, m_3 < m_2 ∧ J_1 m_3 ownA_1 ownn_1 ownc_1 found t46_2 h_6))
  (∃ C_2 : Bool → Heap → Prop, (∀ (missing_1 : Bool) (h_11 : Heap), C_2 missing_1 h_11 →
 Br (decide (i > 0))
  (∀ t74 : Int, t74 = IntKind.i64.wrap (i - 1) →
 ∃ ad_4 : Addr, t30A = some ad_4 ∧ 0 ≤ t74 ∧ t74 < ((t30n : Nat) : Int) ∧
 ∃ t76 : ByteArray, LdN h_11 (Addr.add ad_4 (Int.toNat t74 * 1)) [Value.string t76] ∧
 ∃ ad_5 : Addr, t30A = some ad_5 ∧ 0 ≤ i ∧ i < ((t30n : Nat) : Int) ∧
 ∃ t80 : ByteArray, LdN h_11 (Addr.add ad_5 (Int.toNat i * 1)) [Value.string t80] ∧
 Br (!(Op.bytesLess t76.toList t80.toList))
  (R (Value.bool false) h_11)
  (∀ t36 : Int, t36 = IntKind.i64.wrap (i + 1) →
 ∃ m_1, m_1 < m ∧ J m_1 ownA_1 ownn_1 ownc_1 missing_1 t36 h_11))
  (∀ t36_1 : Int, t36_1 = IntKind.i64.wrap (i + 1) →
 ∃ m_1, m_1 < m ∧ J m_1 ownA_1 ownn_1 ownc_1 missing_1 t36_1 h_11)) ∧
 Br (missing)
  (C_2 true h_6)
  (C_2 (!found) h_6))) ∧
 Br (decide (k < ((envn : Nat) : Int)))
  (C_1 (!found) h_5)
  (C_1 false h_5))
  (CallsU Tryz.prog 25 [Value.agg #[Value.int .i64 e_0, Value.bool e_1, Value.slice e_2A e_2n e_2c, Value.slice e_3A e_3n e_3c, Value.string e_4, Value.slice e_5A e_5n e_5c], Value.slice envA envn envc] h_4 fun v_3 h_12 =>
 ∃ t86_0_0 : Bool, ∃ t86_0_1A : Option Addr, ∃ t86_0_1n t86_0_1c : Nat, ∃ t86_0_2A : Option Addr, ∃ t86_0_2n t86_0_2c : Nat, ∃ t86_1 : Int, v_3 = Value.tuple #[Value.agg #[Value.bool t86_0_0, Value.slice t86_0_1A t86_0_1n t86_0_1c, Value.slice t86_0_2A t86_0_2n t86_0_2c], Value.int .i64 t86_1] ∧
 CallsU Tryz.prog 25 [Value.agg #[Value.int .i64 e_0, Value.bool e_1, Value.slice e_2A e_2n e_2c, Value.slice e_3A e_3n e_3c, Value.string e_4, Value.slice e_5A e_5n e_5c], Value.slice ownA ownn ownc] h_12 fun v_4 h_13 =>
 ∃ t92_0_0 : Bool, ∃ t92_0_1A : Option Addr, ∃ t92_0_1n t92_0_1c : Nat, ∃ t92_0_2A : Option Addr, ∃ t92_0_2n t92_0_2c : Nat, ∃ t92_1 : Int, v_4 = Value.tuple #[Value.agg #[Value.bool t92_0_0, Value.slice t92_0_1A t92_0_1n t92_0_1c, Value.slice t92_0_2A t92_0_2n t92_0_2c], Value.int .i64 t92_1] ∧
 CallsU Tryz.prog 27 [Value.agg #[Value.bool t86_0_0, Value.slice t86_0_1A t86_0_1n t86_0_1c, Value.slice t86_0_2A t86_0_2n t86_0_2c], Value.agg #[Value.bool t92_0_0, Value.slice t92_0_1A t92_0_1n t92_0_1c, Value.slice t92_0_2A t92_0_2n t92_0_2c]] h_13 fun v_5 h_14 =>
 ∃ t97 : Bool, v_5 = Value.bool t97 ∧
 Br (t97)
  (Br ((t86_1 : Int) == t92_1)
  (Br (!missing)
  (Br (missing)
  (CallsU Tryz.prog 12 [] h_14 fun v_6 h_15 =>
 ∃ t127 : Bool, v_6 = Value.bool t127 ∧
 R (Value.bool t127) h_15)
  (Br ((t86_1 : Int) == 0)
  (CallsU Tryz.prog 12 [] h_14 fun v_7 h_16 =>
 ∃ t127_1 : Bool, v_7 = Value.bool t127_1 ∧
 R (Value.bool t127_1) h_16)
  (Br ((t86_1 : Int) == 10)
  (CallsU Tryz.prog 12 [] h_14 fun v_8 h_17 =>
 ∃ t127_2 : Bool, v_8 = Value.bool t127_2 ∧
 R (Value.bool t127_2) h_17)
  (R (Value.bool false) h_14))))
  (Br ((t86_1 : Int) == 6)
  (Br (missing)
  (CallsU Tryz.prog 12 [] h_14 fun v_9 h_18 =>
 ∃ t127_3 : Bool, v_9 = Value.bool t127_3 ∧
 R (Value.bool t127_3) h_18)
  (Br ((t86_1 : Int) == 0)
  (CallsU Tryz.prog 12 [] h_14 fun v_10 h_19 =>
 ∃ t127_4 : Bool, v_10 = Value.bool t127_4 ∧
 R (Value.bool t127_4) h_19)
  (Br ((t86_1 : Int) == 10)
  (CallsU Tryz.prog 12 [] h_14 fun v_11 h_20 =>
 ∃ t127_5 : Bool, v_11 = Value.bool t127_5 ∧
 R (Value.bool t127_5) h_20)
  (R (Value.bool false) h_14))))
  (Br ((t86_1 : Int) == 10)
  (Br (missing)
  (CallsU Tryz.prog 12 [] h_14 fun v_12 h_21 =>
 ∃ t127_6 : Bool, v_12 = Value.bool t127_6 ∧
 R (Value.bool t127_6) h_21)
  (Br ((t86_1 : Int) == 0)
  (CallsU Tryz.prog 12 [] h_14 fun v_13 h_22 =>
 ∃ t127_7 : Bool, v_13 = Value.bool t127_7 ∧
 R (Value.bool t127_7) h_22)
  (Br ((t86_1 : Int) == 10)
  (CallsU Tryz.prog 12 [] h_14 fun v_14 h_23 =>
 ∃ t127_8 : Bool, v_14 = Value.bool t127_8 ∧
 R (Value.bool t127_8) h_23)
  (R (Value.bool false) h_14))))
  (R (Value.bool false) h_14))))
  (R (Value.bool false) h_14))
  (R (Value.bool false) h_14)))) ∧
 CallsU Tryz.prog 11 [Value.agg #[Value.int .i64 e_0, Value.bool e_1, Value.slice e_2A e_2n e_2c, Value.slice e_3A e_3n e_3c, Value.string e_4, Value.slice e_5A e_5n e_5c]] h fun v_15 h_24 =>
 ∃ t16 : Bool, v_15 = Value.bool t16 ∧
 Br (!t16)
  (C true h_24)
  (CallsU Tryz.prog 24 [Value.slice envA envn envc] h_24 fun v_16 h_25 =>
 ∃ t20 : Bool, v_16 = Value.bool t20 ∧
 Br (!t20)
  (C true h_25)
  (CallsU Tryz.prog 13 [Value.agg #[Value.int .i64 e_0, Value.bool e_1, Value.slice e_2A e_2n e_2c, Value.slice e_3A e_3n e_3c, Value.string e_4, Value.slice e_5A e_5n e_5c]] h_25 fun v_17 h_26 =>
 ∃ t25 : Int, v_17 = Value.int .i64 t25 ∧
 C ((t25 : Int) != 0) h_26))

set_option maxRecDepth 100000 in
theorem law17_FormulaNames_ok {e_0 : Int} {e_1 : Bool} {e_2A : Option Addr} {e_2n e_2c : Nat} {e_3A : Option Addr} {e_3n e_3c : Nat} {e_4 : ByteArray} {e_5A : Option Addr} {e_5n e_5c : Nat} {envA : Option Addr} {envn envc : Nat} {h : Heap} {R : Value → Heap → Prop} (hv : law17_FormulaNames_vc e_0 e_1 e_2A e_2n e_2c e_3A e_3n e_3c e_4 e_5A e_5n e_5c envA envn envc h R) : CallsU Tryz.prog 10 [Value.agg #[Value.int .i64 e_0, Value.bool e_1, Value.slice e_2A e_2n e_2c, Value.slice e_3A e_3n e_3c, Value.string e_4, Value.slice e_5A e_5n e_5c], Value.slice envA envn envc] h R :=
  fn_sound Tryz.func10 (by kernel_rfl) (by kernel_rfl) (by kernel_rfl) (fun _ => false) (.two .nil (.two (.cut ⟨[(27, Sh.bool)], []⟩ .nil .nil) (.two .nil (.two .nil (.two .nil (.two (.two .nil (.one (.loop ⟨[(6, Sh.slice), (7, Sh.bool), (8, Sh.int .i64)], []⟩ (.two .nil (.two (.one (.two .nil (.two (.two .nil (.one (.loop ⟨[(6, Sh.slice), (9, Sh.bool), (10, Sh.int .i64)], []⟩ (.two (.cut ⟨[(44, Sh.bool)], []⟩ .nil .nil) (.two (.one (.two (.ord [0, 1, 2, 3, 4, 5, 6, 7, 8, 9]) .nil)) .nil))))) (.cut ⟨[(7, Sh.bool)], []⟩ .nil (.two (.ord [0, 1, 2, 3, 4, 5, 6, 7, 8, 9, 10, 11, 12, 13]) .nil))))) .nil))))) .nil)))))) [Value.agg #[Value.int .i64 e_0, Value.bool e_1, Value.slice e_2A e_2n e_2c, Value.slice e_3A e_3n e_3c, Value.string e_4, Value.slice e_5A e_5n e_5c], Value.slice envA envn envc] h R (by kernel_rfl)
    (Eq.mp (show law17_FormulaNames_vc e_0 e_1 e_2A e_2n e_2c e_3A e_3n e_3c e_4 e_5A e_5n e_5c envA envn envc h R = fnV Tryz.prog Tryz.f10 (fun _ => false) (.two .nil (.two (.cut ⟨[(27, Sh.bool)], []⟩ .nil .nil) (.two .nil (.two .nil (.two .nil (.two (.two .nil (.one (.loop ⟨[(6, Sh.slice), (7, Sh.bool), (8, Sh.int .i64)], []⟩ (.two .nil (.two (.one (.two .nil (.two (.two .nil (.one (.loop ⟨[(6, Sh.slice), (9, Sh.bool), (10, Sh.int .i64)], []⟩ (.two (.cut ⟨[(44, Sh.bool)], []⟩ .nil .nil) (.two (.one (.two (.ord [0, 1, 2, 3, 4, 5, 6, 7, 8, 9]) .nil)) .nil))))) (.cut ⟨[(7, Sh.bool)], []⟩ .nil (.two (.ord [0, 1, 2, 3, 4, 5, 6, 7, 8, 9, 10, 11, 12, 13]) .nil))))) .nil))))) .nil)))))) [Value.agg #[Value.int .i64 e_0, Value.bool e_1, Value.slice e_2A e_2n e_2c, Value.slice e_3A e_3n e_3c, Value.string e_4, Value.slice e_5A e_5n e_5c], Value.slice envA envn envc] h R by kernel_rfl) hv)

set_option maxRecDepth 100000 in
def law17_awake_vc  (h : Heap) (R : Value → Heap → Prop) : Prop :=
 CallsU Tryz.prog 18 [Value.string (⟨#[97, 43, 50, 42, 98, 45, 49, 46, 53, 48]⟩ : ByteArray)] h fun v h_1 =>
 ∃ t20_0_0 : Int, ∃ t20_0_1 : Bool, ∃ t20_0_2A : Option Addr, ∃ t20_0_2n t20_0_2c : Nat, ∃ t20_0_3A : Option Addr, ∃ t20_0_3n t20_0_3c : Nat, ∃ t20_0_4 : ByteArray, ∃ t20_0_5A : Option Addr, ∃ t20_0_5n t20_0_5c : Nat, ∃ t20_1 : Int, v = Value.tuple #[Value.agg #[Value.int .i64 t20_0_0, Value.bool t20_0_1, Value.slice t20_0_2A t20_0_2n t20_0_2c, Value.slice t20_0_3A t20_0_3n t20_0_3c, Value.string t20_0_4, Value.slice t20_0_5A t20_0_5n t20_0_5c], Value.int .i64 t20_1] ∧
 CallsU Tryz.prog 22 [Value.agg #[Value.int .i64 t20_0_0, Value.bool t20_0_1, Value.slice t20_0_2A t20_0_2n t20_0_2c, Value.slice t20_0_3A t20_0_3n t20_0_3c, Value.string t20_0_4, Value.slice t20_0_5A t20_0_5n t20_0_5c]] h_1 fun v_1 h_2 =>
 ∃ t25_0 : ByteArray, ∃ t25_1 : Int, v_1 = Value.tuple #[Value.string t25_0, Value.int .i64 t25_1] ∧
 CallsU Tryz.prog 18 [Value.string (⟨#[49, 32, 43]⟩ : ByteArray)] h_2 fun v_2 h_3 =>
 ∃ t29_0_0 : Int, ∃ t29_0_1 : Bool, ∃ t29_0_2A : Option Addr, ∃ t29_0_2n t29_0_2c : Nat, ∃ t29_0_3A : Option Addr, ∃ t29_0_3n t29_0_3c : Nat, ∃ t29_0_4 : ByteArray, ∃ t29_0_5A : Option Addr, ∃ t29_0_5n t29_0_5c : Nat, ∃ t29_1 : Int, v_2 = Value.tuple #[Value.agg #[Value.int .i64 t29_0_0, Value.bool t29_0_1, Value.slice t29_0_2A t29_0_2n t29_0_2c, Value.slice t29_0_3A t29_0_3n t29_0_3c, Value.string t29_0_4, Value.slice t29_0_5A t29_0_5n t29_0_5c], Value.int .i64 t29_1] ∧
 CallsU Tryz.prog 18 [Value.string (⟨#[48, 48, 55]⟩ : ByteArray)] h_3 fun v_3 h_4 =>
 ∃ t33_0_0 : Int, ∃ t33_0_1 : Bool, ∃ t33_0_2A : Option Addr, ∃ t33_0_2n t33_0_2c : Nat, ∃ t33_0_3A : Option Addr, ∃ t33_0_3n t33_0_3c : Nat, ∃ t33_0_4 : ByteArray, ∃ t33_0_5A : Option Addr, ∃ t33_0_5n t33_0_5c : Nat, ∃ t33_1 : Int, v_3 = Value.tuple #[Value.agg #[Value.int .i64 t33_0_0, Value.bool t33_0_1, Value.slice t33_0_2A t33_0_2n t33_0_2c, Value.slice t33_0_3A t33_0_3n t33_0_3c, Value.string t33_0_4, Value.slice t33_0_5A t33_0_5n t33_0_5c], Value.int .i64 t33_1] ∧
 CallsU Tryz.prog 18 [Value.string (⟨#[97, 32, 47, 32, 98, 32, 45, 32, 109, 97, 120, 40, 97, 44, 32, 52, 41]⟩ : ByteArray)] h_4 fun v_4 h_5 =>
 ∃ t37_0_0 : Int, ∃ t37_0_1 : Bool, ∃ t37_0_2A : Option Addr, ∃ t37_0_2n t37_0_2c : Nat, ∃ t37_0_3A : Option Addr, ∃ t37_0_3n t37_0_3c : Nat, ∃ t37_0_4 : ByteArray, ∃ t37_0_5A : Option Addr, ∃ t37_0_5n t37_0_5c : Nat, ∃ t37_1 : Int, v_4 = Value.tuple #[Value.agg #[Value.int .i64 t37_0_0, Value.bool t37_0_1, Value.slice t37_0_2A t37_0_2n t37_0_2c, Value.slice t37_0_3A t37_0_3n t37_0_3c, Value.string t37_0_4, Value.slice t37_0_5A t37_0_5n t37_0_5c], Value.int .i64 t37_1] ∧
 CallsU Tryz.prog 33 [Value.int .i64 3, Value.int .i64 1] h_5 fun v_5 h_6 =>
 ∃ t40_0 : Bool, ∃ t40_1A : Option Addr, ∃ t40_1n t40_1c : Nat, ∃ t40_2A : Option Addr, ∃ t40_2n t40_2c : Nat, v_5 = Value.agg #[Value.bool t40_0, Value.slice t40_1A t40_1n t40_1c, Value.slice t40_2A t40_2n t40_2c] ∧
 CallsU Tryz.prog 33 [Value.int .i64 1, Value.int .i64 2] h_6 fun v_6 h_7 =>
 ∃ t42_0 : Bool, ∃ t42_1A : Option Addr, ∃ t42_1n t42_1c : Nat, ∃ t42_2A : Option Addr, ∃ t42_2n t42_2c : Nat, v_6 = Value.agg #[Value.bool t42_0, Value.slice t42_1A t42_1n t42_1c, Value.slice t42_2A t42_2n t42_2c] ∧
 CallsU Tryz.prog 33 [Value.int .i64 9, Value.int .i64 1] h_7 fun v_7 h_8 =>
 ∃ t44_0 : Bool, ∃ t44_1A : Option Addr, ∃ t44_1n t44_1c : Nat, ∃ t44_2A : Option Addr, ∃ t44_2n t44_2c : Nat, v_7 = Value.agg #[Value.bool t44_0, Value.slice t44_1A t44_1n t44_1c, Value.slice t44_2A t44_2n t44_2c] ∧
 ∀ (g : Nat) (h_9 : Heap), h_8 g = none → h_9 = Heap.put h_8 g ⟨[Value.string (⟨#[97]⟩ : ByteArray), Value.bool t40_0, Value.slice t40_1A t40_1n t40_1c, Value.slice t40_2A t40_2n t40_2c, Value.string (⟨#[98]⟩ : ByteArray), Value.bool t42_0, Value.slice t42_1A t42_1n t42_1c, Value.slice t42_2A t42_2n t42_2c, Value.string (⟨#[97]⟩ : ByteArray), Value.bool t44_0, Value.slice t44_1A t44_1n t44_1c, Value.slice t44_2A t44_2n t44_2c], 56, (0, 0)⟩ →
 CallsU Tryz.prog 25 [Value.agg #[Value.int .i64 t37_0_0, Value.bool t37_0_1, Value.slice t37_0_2A t37_0_2n t37_0_2c, Value.slice t37_0_3A t37_0_3n t37_0_3c, Value.string t37_0_4, Value.slice t37_0_5A t37_0_5n t37_0_5c], Value.slice (some ⟨g, 0, none⟩) 3 3] h_9 fun v_8 h_10 =>
 ∃ t50_0_0 : Bool, ∃ t50_0_1A : Option Addr, ∃ t50_0_1n t50_0_1c : Nat, ∃ t50_0_2A : Option Addr, ∃ t50_0_2n t50_0_2c : Nat, ∃ t50_1 : Int, v_8 = Value.tuple #[Value.agg #[Value.bool t50_0_0, Value.slice t50_0_1A t50_0_1n t50_0_1c, Value.slice t50_0_2A t50_0_2n t50_0_2c], Value.int .i64 t50_1] ∧
 CallsU Tryz.prog 18 [Value.string (⟨#[97, 47, 40, 98, 45, 48, 46, 53, 41]⟩ : ByteArray)] h_10 fun v_9 h_11 =>
 ∃ t54_0_0 : Int, ∃ t54_0_1 : Bool, ∃ t54_0_2A : Option Addr, ∃ t54_0_2n t54_0_2c : Nat, ∃ t54_0_3A : Option Addr, ∃ t54_0_3n t54_0_3c : Nat, ∃ t54_0_4 : ByteArray, ∃ t54_0_5A : Option Addr, ∃ t54_0_5n t54_0_5c : Nat, ∃ t54_1 : Int, v_9 = Value.tuple #[Value.agg #[Value.int .i64 t54_0_0, Value.bool t54_0_1, Value.slice t54_0_2A t54_0_2n t54_0_2c, Value.slice t54_0_3A t54_0_3n t54_0_3c, Value.string t54_0_4, Value.slice t54_0_5A t54_0_5n t54_0_5c], Value.int .i64 t54_1] ∧
 CallsU Tryz.prog 25 [Value.agg #[Value.int .i64 t54_0_0, Value.bool t54_0_1, Value.slice t54_0_2A t54_0_2n t54_0_2c, Value.slice t54_0_3A t54_0_3n t54_0_3c, Value.string t54_0_4, Value.slice t54_0_5A t54_0_5n t54_0_5c], Value.slice (some ⟨g, 0, none⟩) 3 3] h_11 fun v_10 h_12 =>
 ∃ t60_0_0 : Bool, ∃ t60_0_1A : Option Addr, ∃ t60_0_1n t60_0_1c : Nat, ∃ t60_0_2A : Option Addr, ∃ t60_0_2n t60_0_2c : Nat, ∃ t60_1 : Int, v_10 = Value.tuple #[Value.agg #[Value.bool t60_0_0, Value.slice t60_0_1A t60_0_1n t60_0_1c, Value.slice t60_0_2A t60_0_2n t60_0_2c], Value.int .i64 t60_1] ∧
 ∃ C : Bool → Heap → Prop, (∀ (t96 : Bool) (h_13 : Heap), C t96 h_13 →
 Br (t96)
  (R (Value.bool false) h_13)
  (CallsU Tryz.prog 16 [Value.agg #[Value.int .i64 t37_0_0, Value.bool t37_0_1, Value.slice t37_0_2A t37_0_2n t37_0_2c, Value.slice t37_0_3A t37_0_3n t37_0_3c, Value.string t37_0_4, Value.slice t37_0_5A t37_0_5n t37_0_5c]] h_13 fun v_11 h_14 =>
 ∃ t98A : Option Addr, ∃ t98n t98c : Nat, v_11 = Value.slice t98A t98n t98c ∧
 Br ((t20_0_0 : Int) == 4)
  (Br ((((t98n : Nat) : Int) : Int) == 2)
  (∃ ad : Addr, t98A = some ad ∧ 0 ≤ (0 : Int) ∧ (0 : Int) < ((t98n : Nat) : Int) ∧
 ∃ t110 : ByteArray, LdN h_14 (Addr.add ad (0 * 1)) [Value.string t110] ∧
 Br (t110.toList == (⟨#[97]⟩ : ByteArray).toList)
  (∃ ad_1 : Addr, t98A = some ad_1 ∧ 0 ≤ (1 : Int) ∧ (1 : Int) < ((t98n : Nat) : Int) ∧
 ∃ t116 : ByteArray, LdN h_14 (Addr.add ad_1 (1 * 1)) [Value.string t116] ∧
 Br (t116.toList == (⟨#[98]⟩ : ByteArray).toList)
  (CallsU Tryz.prog 33 [Value.int .i64 2, Value.int .i64 1] h_14 fun v_12 h_15 =>
 ∃ t121_0 : Bool, ∃ t121_1A : Option Addr, ∃ t121_1n t121_1c : Nat, ∃ t121_2A : Option Addr, ∃ t121_2n t121_2c : Nat, v_12 = Value.agg #[Value.bool t121_0, Value.slice t121_1A t121_1n t121_1c, Value.slice t121_2A t121_2n t121_2c] ∧
 LeH h_14 h_15 ∧
 CallsU Tryz.prog 29 [Value.agg #[Value.bool t50_0_0, Value.slice t50_0_1A t50_0_1n t50_0_1c, Value.slice t50_0_2A t50_0_2n t50_0_2c], Value.agg #[Value.bool t121_0, Value.slice t121_1A t121_1n t121_1c, Value.slice t121_2A t121_2n t121_2c]] h_15 fun v_13 h_16 =>
 ∃ t122 : Int, v_13 = Value.int .i64 t122 ∧
 Br ((t122 : Int) == 0)
  (CallsU Tryz.prog 13 [Value.agg #[Value.int .i64 0, Value.bool false, Value.slice none 0 0, Value.slice none 0 0, Value.string ByteArray.empty, Value.slice none 0 0]] h_16 fun v_14 h_17 =>
 ∃ t127 : Int, v_14 = Value.int .i64 t127 ∧
 Br ((t127 : Int) == 1)
  (CallsU Tryz.prog 13 [Value.agg #[Value.int .i64 t20_0_0, Value.bool t20_0_1, Value.slice t20_0_2A t20_0_2n t20_0_2c, Value.slice t20_0_3A t20_0_3n t20_0_3c, Value.string t20_0_4, Value.slice t20_0_5A t20_0_5n t20_0_5c]] h_17 fun v_15 h_18 =>
 ∃ t132 : Int, v_15 = Value.int .i64 t132 ∧
 R (Value.bool ((t132 : Int) == 0)) h_18)
  (R (Value.bool false) h_17))
  (R (Value.bool false) h_16))
  (LeH h_14 h_14 ∧
 R (Value.bool false) h_14))
  (LeH h_14 h_14 ∧
 R (Value.bool false) h_14))
  (LeH h_14 h_14 ∧
 R (Value.bool false) h_14))
  (LeH h_14 h_14 ∧
 R (Value.bool false) h_14))) ∧
 Br ((t20_1 : Int) != 0)
  (C true h_12)
  (Br ((t25_1 : Int) != 0)
  (C true h_12)
  (Br ((t29_1 : Int) != 4)
  (C true h_12)
  (Br ((t33_1 : Int) != 2)
  (C true h_12)
  (Br ((t37_1 : Int) != 0)
  (C true h_12)
  (Br ((t50_1 : Int) != 0)
  (C true h_12)
  (Br ((t54_1 : Int) != 0)
  (C true h_12)
  (Br ((t60_1 : Int) != 10)
  (C true h_12)
  (C (!(t25_0.toList == (⟨#[97, 32, 43, 32, 50, 32, 42, 32, 98, 32, 45, 32, 49, 46, 53]⟩ : ByteArray).toList)) h_12))))))))

set_option maxRecDepth 100000 in
theorem law17_awake_ok  {h : Heap} {R : Value → Heap → Prop} (hv : law17_awake_vc  h R) : CallsU Tryz.prog 12 [] h R :=
  fn_sound Tryz.func12 (by kernel_rfl) (by kernel_rfl) (by kernel_rfl) (fun _ => false) (.two .nil (.two .nil (.two .nil (.two .nil (.two .nil (.two .nil (.two .nil (.two .nil (.two .nil (.two .nil (.two (.cut ⟨[(96, Sh.bool)], []⟩ .nil .nil) (.two .nil (.two (.ord [0, 1, 2, 3, 4, 5, 6, 7, 8, 9, 10, 11, 12, 13, 14, 15, 16, 17, 18, 19, 20, 21, 22, 23, 24, 25, 26, 27, 28, 29, 30, 31, 32, 33, 34, 35, 36]) .nil))))))))))))) [] h R (by kernel_rfl)
    (Eq.mp (show law17_awake_vc  h R = fnV Tryz.prog Tryz.f12 (fun _ => false) (.two .nil (.two .nil (.two .nil (.two .nil (.two .nil (.two .nil (.two .nil (.two .nil (.two .nil (.two .nil (.two (.cut ⟨[(96, Sh.bool)], []⟩ .nil .nil) (.two .nil (.two (.ord [0, 1, 2, 3, 4, 5, 6, 7, 8, 9, 10, 11, 12, 13, 14, 15, 16, 17, 18, 19, 20, 21, 22, 23, 24, 25, 26, 27, 28, 29, 30, 31, 32, 33, 34, 35, 36]) .nil))))))))))))) [] h R by kernel_rfl) hv)

def law17_same_vc (aA : Option Addr) (an _ac : Nat) (bA : Option Addr) (bn _bc : Nat) (h : Heap) (R : Value → Heap → Prop) : Prop :=
 Br ((((an : Nat) : Int) : Int) != ((bn : Nat) : Int))
  (R (Value.bool false) h)
  (∃ J : Nat → Int → Heap → Prop, (∃ m, J m 0 h) ∧
 ∀ (m : Nat) (i : Int) (h_1 : Heap), J m i h_1 →
 Br (decide (i < ((an : Nat) : Int)))
  (∃ ad : Addr, aA = some ad ∧ 0 ≤ i ∧ i < ((an : Nat) : Int) ∧
 ∃ t20 : ByteArray, LdN h_1 (Addr.add ad (Int.toNat i * 1)) [Value.string t20] ∧
 ∃ ad_1 : Addr, bA = some ad_1 ∧ 0 ≤ i ∧ i < ((bn : Nat) : Int) ∧
 ∃ t24 : ByteArray, LdN h_1 (Addr.add ad_1 (Int.toNat i * 1)) [Value.string t24] ∧
 Br (!(t20.toList == t24.toList))
  (R (Value.bool false) h_1)
  (∀ t16 : Int, t16 = IntKind.i64.wrap (i + 1) →
 ∃ m_1, m_1 < m ∧ J m_1 t16 h_1))
  (R (Value.bool true) h_1))

set_option maxRecDepth 100000 in
theorem law17_same_ok {aA : Option Addr} {an ac : Nat} {bA : Option Addr} {bn bc : Nat} {h : Heap} {R : Value → Heap → Prop} (hv : law17_same_vc aA an ac bA bn bc h R) : CallsU Tryz.prog 15 [Value.slice aA an ac, Value.slice bA bn bc] h R :=
  fn_sound Tryz.func15 (by kernel_rfl) (by kernel_rfl) (by kernel_rfl) (fun _ => false) (.two .nil (.two .nil (.two (.two .nil (.one (.loop ⟨[(5, Sh.int .i64)], []⟩ (.two .nil (.two (.one (.two (.ord [0, 1, 2, 3, 4, 5, 6, 7, 8]) .nil)) .nil))))) .nil))) [Value.slice aA an ac, Value.slice bA bn bc] h R (by kernel_rfl)
    (Eq.mp (show law17_same_vc aA an ac bA bn bc h R = fnV Tryz.prog Tryz.f15 (fun _ => false) (.two .nil (.two .nil (.two (.two .nil (.one (.loop ⟨[(5, Sh.int .i64)], []⟩ (.two .nil (.two (.one (.two (.ord [0, 1, 2, 3, 4, 5, 6, 7, 8]) .nil)) .nil))))) .nil))) [Value.slice aA an ac, Value.slice bA bn bc] h R by kernel_rfl) hv)

def law17_two_vc (kind : Int) (a_0 : Int) (a_1 : Bool) (a_2A : Option Addr) (a_2n a_2c : Nat) (a_3A : Option Addr) (a_3n a_3c : Nat) (a_4 : ByteArray) (a_5A : Option Addr) (a_5n a_5c : Nat) (b_0 : Int) (b_1 : Bool) (b_2A : Option Addr) (b_2n b_2c : Nat) (b_3A : Option Addr) (b_3n b_3c : Nat) (b_4 : ByteArray) (b_5A : Option Addr) (b_5n b_5c : Nat) (h : Heap) (R : Value → Heap → Prop) : Prop :=
 ∀ (g : Nat) (h_1 : Heap), h g = none → h_1 = Heap.put h g ⟨[Value.int .i64 a_0, Value.bool a_1, Value.slice a_2A a_2n a_2c, Value.slice a_3A a_3n a_3c, Value.string a_4, Value.slice a_5A a_5n a_5c, Value.int .i64 b_0, Value.bool b_1, Value.slice b_2A b_2n b_2c, Value.slice b_3A b_3n b_3c, Value.string b_4, Value.slice b_5A b_5n b_5c], 30, (0, 0)⟩ →
 R (Value.agg #[Value.int .i64 kind, Value.bool false, Value.slice none 0 0, Value.slice none 0 0, Value.string ByteArray.empty, Value.slice (some ⟨g, 0, none⟩) 2 2]) h_1

set_option maxRecDepth 100000 in
theorem law17_two_ok {kind : Int} {a_0 : Int} {a_1 : Bool} {a_2A : Option Addr} {a_2n a_2c : Nat} {a_3A : Option Addr} {a_3n a_3c : Nat} {a_4 : ByteArray} {a_5A : Option Addr} {a_5n a_5c : Nat} {b_0 : Int} {b_1 : Bool} {b_2A : Option Addr} {b_2n b_2c : Nat} {b_3A : Option Addr} {b_3n b_3c : Nat} {b_4 : ByteArray} {b_5A : Option Addr} {b_5n b_5c : Nat} {h : Heap} {R : Value → Heap → Prop} (hv : law17_two_vc kind a_0 a_1 a_2A a_2n a_2c a_3A a_3n a_3c a_4 a_5A a_5n a_5c b_0 b_1 b_2A b_2n b_2c b_3A b_3n b_3c b_4 b_5A b_5n b_5c h R) : CallsU Tryz.prog 28 [Value.int .i64 kind, Value.agg #[Value.int .i64 a_0, Value.bool a_1, Value.slice a_2A a_2n a_2c, Value.slice a_3A a_3n a_3c, Value.string a_4, Value.slice a_5A a_5n a_5c], Value.agg #[Value.int .i64 b_0, Value.bool b_1, Value.slice b_2A b_2n b_2c, Value.slice b_3A b_3n b_3c, Value.string b_4, Value.slice b_5A b_5n b_5c]] h R :=
  fn_sound Tryz.func28 (by kernel_rfl) (by kernel_rfl) (by kernel_rfl) (fun _ => false) .nil [Value.int .i64 kind, Value.agg #[Value.int .i64 a_0, Value.bool a_1, Value.slice a_2A a_2n a_2c, Value.slice a_3A a_3n a_3c, Value.string a_4, Value.slice a_5A a_5n a_5c], Value.agg #[Value.int .i64 b_0, Value.bool b_1, Value.slice b_2A b_2n b_2c, Value.slice b_3A b_3n b_3c, Value.string b_4, Value.slice b_5A b_5n b_5c]] h R (by kernel_rfl)
    (Eq.mp (show law17_two_vc kind a_0 a_1 a_2A a_2n a_2c a_3A a_3n a_3c a_4 a_5A a_5n a_5c b_0 b_1 b_2A b_2n b_2c b_3A b_3n b_3c b_4 b_5A b_5n b_5c h R = fnV Tryz.prog Tryz.f28 (fun _ => false) .nil [Value.int .i64 kind, Value.agg #[Value.int .i64 a_0, Value.bool a_1, Value.slice a_2A a_2n a_2c, Value.slice a_3A a_3n a_3c, Value.string a_4, Value.slice a_5A a_5n a_5c], Value.agg #[Value.int .i64 b_0, Value.bool b_1, Value.slice b_2A b_2n b_2c, Value.slice b_3A b_3n b_3c, Value.string b_4, Value.slice b_5A b_5n b_5c]] h R by kernel_rfl) hv)

def law17_part_vc (n : Int) (d : Int) (h : Heap) (R : Value → Heap → Prop) : Prop :=
 CallsU Tryz.prog 63 [Value.int .i64 n, Value.int .i64 d] h fun v h_1 =>
 ∃ t10_0_0 : Bool, ∃ t10_0_1A : Option Addr, ∃ t10_0_1n t10_0_1c : Nat, ∃ t10_0_2A : Option Addr, ∃ t10_0_2n t10_0_2c : Nat, ∃ t10_1 : Bool, v = Value.tuple #[Value.agg #[Value.bool t10_0_0, Value.slice t10_0_1A t10_0_1n t10_0_1c, Value.slice t10_0_2A t10_0_2n t10_0_2c], Value.bool t10_1] ∧
 R (Value.agg #[Value.bool t10_0_0, Value.slice t10_0_1A t10_0_1n t10_0_1c, Value.slice t10_0_2A t10_0_2n t10_0_2c]) h_1

set_option maxRecDepth 100000 in
theorem law17_part_ok {n : Int} {d : Int} {h : Heap} {R : Value → Heap → Prop} (hv : law17_part_vc n d h R) : CallsU Tryz.prog 33 [Value.int .i64 n, Value.int .i64 d] h R :=
  fn_sound Tryz.func33 (by kernel_rfl) (by kernel_rfl) (by kernel_rfl) (fun _ => false) .nil [Value.int .i64 n, Value.int .i64 d] h R (by kernel_rfl)
    (Eq.mp (show law17_part_vc n d h R = fnV Tryz.prog Tryz.f33 (fun _ => false) .nil [Value.int .i64 n, Value.int .i64 d] h R by kernel_rfl) hv)

end Go.Proofs.YtdpdaphholileaaGreatDoor

/-
  Contracts: references 01.Of, 02.Of, 03.Whole; the chapter's examples.
-/
namespace Go.Proofs.YtdpdaphholileaaGreatDoor
open Go Go.Vcg
attribute [local irreducible] Br

theorem lv_one1 (y : Nat) : Go.Vcg.one (lv y) = true := rfl

theorem Sl.u32 {h : Heap} {A : Option Addr} {n c : Nat} {xs : List Nat} (u : Sl lv h A n c xs) (hlt : ∀ x ∈ xs, x < 4294967296) : U32 h A n c xs := ⟨u.len, u.cap, hlt, u.mem⟩

theorem r1of_c (n : Nat) (hn : n < 18446744073709551616) (h : Heap) :
    CallsU Tryz.prog 128 [.int .u64 n] h fun r h' => ∃ A m c, r = .slice A m c ∧ m ≤ 2 ∧ NmN h' A m c n ∧ Le h h' := by
  apply ref01_Of_ok
  have hB : B32 = 4294967296 := rfl
  refine ⟨fun m x oA on oc h' => ∃ gs : List Nat, x = (m : Int) ∧ val gs + B32 ^ gs.length * m = n ∧ (∀ y ∈ gs, y < 4294967296) ∧ (m = 0 → Nrm gs) ∧ gs.length ≤ 2 ∧ OwnE lv 104 h h' oA on oc gs ∧ Le h h', ⟨n, [], rfl, by simp [val], by simp, fun _ => nrm_nil, by simp, OwnE.nil h, Le.refl h⟩, ?_⟩
  rintro m _ oA on oc h1 ⟨gs, rfl, hval, hlt, hnz, hlen, own, hle⟩
  have hon := own.1
  refine Br.mk (fun q => ?_) (fun q => ?_)
  · have q' : 0 < m := by simp at q; omega
    have hl1 : gs.length ≤ 1 := by
      rcases Nat.lt_or_ge gs.length 2 with a | a
      · omega
      · exfalso
        have e : gs.length = 2 := by omega
        rw [e, hB] at hval
        omega
    have hm : m ≤ n := by
      have : 1 * m ≤ B32 ^ gs.length * m := Nat.mul_le_mul_right _ (Nat.pow_pos (by decide))
      omega
    rintro _ rfl g0 _ hg0 rfl
    have e1 : IntKind.u32.wrap (Int.tmod (m : Int) 4294967296) = ((m % 4294967296 : Nat) : Int) := by
      rw [Int.tmod_eq_emod_of_nonneg (by omega), wrap_u32_mod]; omega
    rw [e1]
    refine own.app (x := m % 4294967296) (z := 0) (bs := 4) (K := fun A c hh => ∀ t : Int, t = IntKind.u64.wrap (Int.tdiv (m : Int) 4294967296) → ∃ m', m' < m ∧ ∃ gs : List Nat, t = (m' : Int) ∧ val gs + B32 ^ gs.length * m' = n ∧ (∀ y ∈ gs, y < 4294967296) ∧ (m' = 0 → Nrm gs) ∧ gs.length ≤ 2 ∧ OwnE lv 104 h hh A (on + 1) c gs ∧ Le h hh) hle lv_one1 rfl rfl hg0 (by omega) ?_
    intro A' c' h' o l _
    rintro _ rfl
    have e2 : IntKind.u64.wrap (Int.tdiv (m : Int) 4294967296) = ((m / 4294967296 : Nat) : Int) := by
      rw [Int.tdiv_eq_ediv_of_nonneg (by omega), wrap_u64_mod]; omega
    rw [e2]
    refine ⟨_, Nat.div_lt_self q' (by decide), gs ++ [m % 4294967296], rfl, ?_, ?_, ?_, by simp; omega, o, l⟩
    · rw [val_append, List.length_append, List.length_singleton, Nat.pow_succ, ← hval]
      simp only [val, Nat.mul_zero, Nat.add_zero]
      have h2 := Nat.mod_add_div m 4294967296
      rw [hB] at *
      generalize 4294967296 ^ gs.length = M at *
      rw [Nat.mul_assoc, Nat.add_assoc, ← Nat.mul_add, h2]
    · intro y hy
      rcases List.mem_append.1 hy with a | a
      · exact hlt y a
      · rw [List.mem_singleton.1 a]; exact Nat.mod_lt _ (by decide)
    · intro e
      simp only [Nrm, List.getLast?_append, List.getLast?_singleton, Option.some_or, ne_eq, Option.some.injEq]
      omega
  · have q' : m = 0 := by simp at q; omega
    subst q'
    rw [Nat.mul_zero, Nat.add_zero] at hval
    exact ⟨_, _, _, rfl, by omega, ⟨gs, own.sl.u32 hlt, hval, hnz rfl⟩, hle⟩

theorem r2of_c (z : Int) (h1 : -9223372036854775808 ≤ z) (h2 : z < 9223372036854775808) (h : Heap) :
    CallsU Tryz.prog 103 [.int .i64 z] h fun r h' => ∃ s' A' k c', r = .agg #[.bool s', .slice A' k c'] ∧ NmI h' s' A' k c' z ∧ k ≤ 2 ∧ Le h h' := by
  apply ref02_Of_ok
  refine Br.mk (fun q => ?_) (fun q => ?_)
  · have hz : z < 0 := by simpa using q
    rintro _ rfl _ rfl _ rfl
    have e : IntKind.u64.wrap (IntKind.u64.wrap (IntKind.i64.wrap (0 - IntKind.i64.wrap (z + 1))) + 1) = ((z.natAbs : Nat) : Int) := by
      rw [wrap_i64 (x := z + 1) (by omega) (by omega), wrap_i64 (by omega) (by omega), wrap_u64 (x := 0 - (z + 1)) (by omega) (by omega), wrap_u64 (by omega) (by omega)]; omega
    rw [e]
    refine (r1of_c z.natAbs (by omega) h).mono ?_
    rintro _ h1 ⟨A, m, c, rfl, hm, hN, hl⟩
    exact ⟨_, _, _, rfl, _, _, _, _, rfl, ⟨hN, by simp [hz]⟩, hm, hl⟩
  · have hz : 0 ≤ z := by simpa using q
    rw [wu (n := z.natAbs) (by omega) (by omega)]
    refine (r1of_c z.natAbs (by omega) h).mono ?_
    rintro _ h1 ⟨A, m, c, rfl, hm, hN, hl⟩
    exact ⟨_, _, _, rfl, _, _, _, _, rfl, ⟨hN, by simp; omega⟩, hm, hl⟩

theorem whole_c (z : Int) (h1 : -9223372036854775808 ≤ z) (h2 : z < 9223372036854775808) (h : Heap) :
    CallsU Tryz.prog 78 [.int .i64 z] h fun r h' => ∃ s' A' n' c' B' m' d', r = .agg #[.bool s', .slice A' n' c', .slice B' m' d'] ∧ NmQ h' s' A' n' c' B' m' d' (z : Rat) ∧ n' ≤ 2 ∧ m' ≤ 2 ∧ Le h h' := by
  apply ref03_Whole_ok
  refine (r2of_c z h1 h2 h).mono ?_
  rintro _ h1 ⟨s, A, k, c, rfl, hI, hk, hl⟩
  refine ⟨_, _, _, _, rfl, (r1of_c 1 (by omega) h1).mono ?_⟩
  rintro _ h2 ⟨B, m, d, rfl, hm, hN, hl2⟩
  exact ⟨_, _, _, rfl, _, _, _, _, _, _, _, rfl, ⟨hI.mono hl2, hN⟩, hk, hm, hl.trans hl2⟩

end Go.Proofs.YtdpdaphholileaaGreatDoor

/-
  Contracts: reference 01: limb, Norm, Cmp, Add, Sub, Mul, Half, Shift, Bits.
-/
namespace Go.Proofs.YtdpdaphholileaaGreatDoor
open Go Go.Vcg
attribute [local irreducible] Br

theorem limb_c {h : Heap} {A : Option Addr} {n c : Nat} {xs : List Nat} (u : U32 h A n c xs) (i : Nat) :
    CallsU Tryz.prog 170 [.slice A n c, .int .i64 i] h fun r h' => r = .int .u64 (xs.getD i 0) ∧ h = h' := by
  apply ref01_limb_ok
  refine Br.mk (fun q => by simp at q; omega) (fun _ => Br.mk (fun q => ?_) (fun q => ?_))
  · have q' : n ≤ i := by have := of_decide_eq_true q; omega
    rw [getD_ge (by rw [u.len]; exact q')]
    exact ⟨rfl, rfl⟩
  · have q' : i < n := by have := of_decide_eq_false q; omega
    obtain ⟨ad, hA, hl⟩ := u.get q'
    have hlt := u.getD_lt i
    rw [Int.toNat_natCast]
    refine ⟨ad, hA, by omega, by omega, _, hl, ?_⟩
    rw [wu (n := xs.getD i 0) rfl (by omega)]
    exact ⟨rfl, rfl⟩

/-- append of limbs to an empty slice. -/
theorem app_none {h : Heap} {A : Option Addr} {c : Nat} {xs : List Nat} {m : Nat} (u : U32 h A m c xs) (hm : m ≤ 35184372088832) {K : Option Addr → Nat → Nat → Heap → Prop}
    (k0 : m = 0 → K none 0 0 h) (k1 : ∀ (g cap : Nat), h g = none → m ≤ cap → 0 < m → K (some ⟨g, 0, none⟩) m cap (h.put g ⟨(xs ++ List.replicate (cap - m) 0).map lv, 104, (0, 0)⟩)) :
    ∃ ys : List Value, RdS h A (m * 1) ys ∧ (∀ x ∈ ys, Go.Vcg.one x = true) ∧
      (0 + m ≤ 0 → Br (decide (m * 1 = 0)) (K none (0 + m) 0 h) (∃ (ad : Addr) (b : Blk), none = some ad ∧ ad.spot = none ∧ h ad.block = some b ∧ b.fz = (0, 0) ∧ ad.off + 0 * 1 + m * 1 ≤ b.cells.length ∧
        ∀ h' : Heap, h' = Heap.put h ad.block { b with cells := setSeg b.cells (ad.off + 0 * 1) ys } → K none (0 + m) 0 h')) ∧
      (0 < 0 + m → ∃ olds : List Value, RdS h none (0 * 1) olds ∧ (0 + m) * 4 ≤ 140737488355328 ∧
        ∀ (g cap : Nat) (h' : Heap), h g = none → 0 + m ≤ cap → h' = Heap.put h g ⟨olds ++ ys ++ repV [Value.int .u32 0] (cap - (0 + m)), 104, (0, 0)⟩ → K (some ⟨g, 0, none⟩) (0 + m) cap h') := by
  rw [Nat.zero_add]
  refine ⟨xs.map lv, u.rds, lv_one _, fun h0 => Br.mk (fun _ => ?_) (fun q => ?_), fun hp => ?_⟩
  · have : m = 0 := by omega
    subst this
    exact k0 rfl
  · exfalso
    have : m = 0 := by omega
    subst this
    simp at q
  · refine ⟨[], ⟨rfl, fun q => absurd q (Nat.lt_irrefl 0)⟩, by omega, ?_⟩
    rintro g cap h' hg hc rfl
    rw [repV_lv, List.nil_append, ← List.map_append]
    exact k1 g cap hg hc hp

theorem r1norm_c {h : Heap} {A : Option Addr} {n c v : Nat} (u : IsN h A n c v) (hn : n ≤ 35184372088832) :
    CallsU Tryz.prog 127 [.slice A n c] h fun r h' => ∃ A' m c', r = .slice A' m c' ∧ m ≤ n ∧ NmN h' A' m c' v ∧ Le h h' := by
  apply ref01_Norm_ok
  obtain ⟨xs, u, rfl⟩ := u
  have hc := u.cap
  refine ⟨fun m k h' => h = h' ∧ k = (m : Int) ∧ m ≤ n ∧ trimL xs = trimL (xs.take m), ⟨n, rfl, rfl, Nat.le_refl _, by rw [List.take_of_length_le (Nat.le_of_eq u.len)]⟩, ?_⟩
  rintro m k h' ⟨rfl, rfl, hm, ht⟩
  have fin : Nrm (xs.take m) → ∃ ys : List Value, RdS h A (m * 1) ys ∧ (∀ x ∈ ys, Go.Vcg.one x = true) ∧
      (0 + m ≤ 0 → Br (decide (m * 1 = 0)) ((fun r h' => ∃ A' m c', r = .slice A' m c' ∧ m ≤ n ∧ NmN h' A' m c' (val xs) ∧ Le h h') (Value.slice none (0 + m) 0) h) (∃ (ad : Addr) (b : Blk), none = some ad ∧ ad.spot = none ∧ h ad.block = some b ∧ b.fz = (0, 0) ∧ ad.off + 0 * 1 + m * 1 ≤ b.cells.length ∧
        ∀ h_3 : Heap, h_3 = Heap.put h ad.block { b with cells := setSeg b.cells (ad.off + 0 * 1) ys } → (fun r h' => ∃ A' m c', r = .slice A' m c' ∧ m ≤ n ∧ NmN h' A' m c' (val xs) ∧ Le h h') (Value.slice none (0 + m) 0) h_3)) ∧
      (0 < 0 + m → ∃ olds : List Value, RdS h none (0 * 1) olds ∧ (0 + m) * 4 ≤ 140737488355328 ∧
        ∀ (g cap : Nat) (h_4 : Heap), h g = none → 0 + m ≤ cap → h_4 = Heap.put h g ⟨olds ++ ys ++ repV [Value.int .u32 0] (cap - (0 + m)), 104, (0, 0)⟩ → (fun r h' => ∃ A' m c', r = .slice A' m c' ∧ m ≤ n ∧ NmN h' A' m c' (val xs) ∧ Le h h') (Value.slice (some ⟨g, 0, none⟩) (0 + m) cap) h_4) := by
    intro hN
    have hval : val (xs.take m) = val xs := by rw [← trimL_val xs, ht, trimL_of_nrm hN]
    refine app_none (K := fun A m c h' => (fun r h' => ∃ A' m c', r = .slice A' m c' ∧ m ≤ n ∧ NmN h' A' m c' (val xs) ∧ Le h h') (Value.slice A m c) h') (u.take hm) (by omega) (fun e => ?_) (fun g cap hg hcap hp => ?_)
    · subst e
      exact ⟨_, _, _, rfl, Nat.zero_le _, ⟨[], U32.nil _ _ _, by rw [← hval]; rfl, nrm_nil⟩, Le.refl _⟩
    · refine ⟨_, _, _, rfl, hm, ⟨xs.take m, ?_, hval, hN⟩, Le.new hg _⟩
      have := U32.of_blk (m := m) (k := cap) (h := h.put g ⟨(xs.take m ++ List.replicate (cap - m) 0).map lv, 104, (0, 0)⟩) (Heap.put_same _ _ _) (fun x hx => ?_) (by simp [u.len]; omega) hcap
      · rwa [List.take_left' (by simp [u.len]; omega)] at this
      · rcases List.mem_append.1 hx with a | a
        · exact u.lt x (List.mem_of_mem_take a)
        · rw [(List.mem_replicate.1 a).2]; decide
  refine Br.mk (fun hp => ?_) (fun hp => ?_)
  · have hp' : 0 < m := by simp at hp; omega
    obtain ⟨m, rfl⟩ : ∃ q, m = q + 1 := ⟨m - 1, by omega⟩
    rintro _ rfl
    rw [wi (n := m) (by omega) (by omega)]
    obtain ⟨ad, hA, hl⟩ := u.get (i := m) (by omega)
    rw [Int.toNat_natCast, Int.toNat_natCast]
    refine ⟨ad, hA, by omega, by omega, _, hl, Br.mk (fun h0 => ?_) (fun h0 => ?_)⟩
    · rintro _ rfl
      refine ⟨m, by omega, rfl, rfl, by omega, ?_⟩
      rw [ht, take_last (by rw [u.len]; omega)]
      have : xs.getD m 0 = 0 := by have := beq_iff_eq.1 h0; omega
      rw [this, trimL_snoc_zero]
    · have hnz : xs.getD m 0 ≠ 0 := by
        have := beq_eq_false_iff_ne.1 h0
        omega
      refine ⟨by omega, by omega, fin ?_⟩
      rw [take_last (by rw [u.len]; omega)]
      simpa [Nrm] using hnz
  · have hp' : m = 0 := by simp at hp; omega
    subst hp'
    rw [Int.toNat_natCast]
    exact ⟨by omega, by omega, fin (by simp [Nrm])⟩

theorem max_ite (n m : Nat) : (if decide (((m : Nat) : Int) > ((n : Nat) : Int)) then ((m : Nat) : Int) else ((n : Nat) : Int)) = ((max n m : Nat) : Int) := by
  simp only [decide_eq_true_eq]
  split <;> omega

theorem val_take_le (xs : List Nat) {k : Nat} (h : xs.length ≤ k) : val (xs.take k) = val xs := by rw [List.take_of_length_le h]

theorem val_take_lt' {xs : List Nat} (h : ∀ x ∈ xs, x < B32) (k : Nat) : val (xs.take k) < B32 ^ k := by
  rcases Nat.lt_or_ge k xs.length with q | q
  · exact val_take_lt h (by omega)
  · rw [val_take_le _ q]
    exact Nat.lt_of_lt_of_le (val_lt h) (Nat.pow_le_pow_right (by decide) q)

/-! ### Cmp -/
theorem cmp_step {X Y H a b M : Nat} (hX : X < M) (hab : a < b) : X + M * a + H < Y + M * b + H := by
  have : M * (a + 1) ≤ M * b := Nat.mul_le_mul_left _ hab
  rw [Nat.mul_add] at this
  omega

theorem r1cmp_c {h : Heap} {A B : Option Addr} {n c m d x y : Nat} (ux : IsN h A n c x) (uy : IsN h B m d y) (hn : n ≤ 1099511627776) (hm : m ≤ 1099511627776) :
    CallsU Tryz.prog 124 [.slice A n c, .slice B m d] h fun v h' => v = .int .i64 (cmpI x y) ∧ h = h' := by
  apply ref01_Cmp_ok
  obtain ⟨xs, u, rfl⟩ := ux
  obtain ⟨ys, w, rfl⟩ := uy
  unfold ref01_Cmp_vc
  rw [max_ite]
  rintro _ rfl
  rw [wrap_i64 (by omega) (by omega)]
  refine ⟨fun q i h' => ∃ H : Nat, i = (q : Int) - 1 ∧ q ≤ max n m ∧ h = h' ∧ val xs = val (xs.take q) + H ∧ val ys = val (ys.take q) + H, ⟨max n m, 0, rfl, Nat.le_refl _, rfl, ?_, ?_⟩, ?_⟩
  · rw [val_take_le _ (by rw [u.len]; omega)]; rfl
  · rw [val_take_le _ (by rw [w.len]; omega)]; rfl
  rintro q _ _ ⟨H, rfl, hq, rfl, hx, hy⟩
  refine Br.mk (fun b => ?_) (fun b => ?_)
  · have b' : 0 < q := by have := of_decide_eq_true b; omega
    obtain ⟨q, rfl⟩ : ∃ t, q = t + 1 := ⟨q - 1, by omega⟩
    rw [show ((q + 1 : Nat) : Int) - 1 = (q : Int) from by omega]
    have lx := val_take_lt' (xs := xs) u.lt q
    have ly := val_take_lt' (xs := ys) w.lt q
    rw [val_take_succ'] at hx hy
    refine (limb_c u q).mono ?_
    rintro _ _ ⟨rfl, rfl⟩
    refine ⟨_, rfl, (limb_c w q).mono ?_⟩
    rintro _ _ ⟨rfl, rfl⟩
    refine ⟨_, rfl, Br.mk (fun b1 => ?_) (fun b1 => ?_)⟩
    · have b2 : xs.getD q 0 < ys.getD q 0 := by have := of_decide_eq_true b1; omega
      rw [cmpI_lt]
      · exact ⟨rfl, rfl⟩
      · rw [hx, hy]; exact cmp_step lx b2
    · have b2 : ys.getD q 0 ≤ xs.getD q 0 := by have := of_decide_eq_false b1; omega
      refine (limb_c u q).mono ?_
      rintro _ _ ⟨rfl, rfl⟩
      refine ⟨_, rfl, (limb_c w q).mono ?_⟩
      rintro _ _ ⟨rfl, rfl⟩
      refine ⟨_, rfl, Br.mk (fun b3 => ?_) (fun b3 => ?_)⟩
      · have b4 : ys.getD q 0 < xs.getD q 0 := by have := of_decide_eq_true b3; omega
        rw [cmpI_gt]
        · exact ⟨rfl, rfl⟩
        · rw [hx, hy]; exact cmp_step ly b4
      · have b4 : xs.getD q 0 = ys.getD q 0 := by have := of_decide_eq_false b3; omega
        rintro _ rfl
        rw [wrap_i64 (by omega) (by omega)]
        refine ⟨q, by omega, H + B32 ^ q * xs.getD q 0, rfl, by omega, rfl, by omega, by rw [b4]; omega⟩
  · have b' : q = 0 := by have := of_decide_eq_false b; omega
    subst b'
    have : val xs = val ys := by simp [val] at hx hy; omega
    rw [this, cmpI_eq]
    exact ⟨rfl, rfl⟩

theorem own_is {h h' : Heap} {A : Option Addr} {n c : Nat} {gs : List Nat} (o : OwnE lv 104 h h' A n c gs) (hlt : ∀ x ∈ gs, x < 4294967296) : IsN h' A n c (val gs) := ⟨gs, o.sl.u32 hlt, rfl⟩

theorem mem_snoc32 {gs : List Nat} {y : Nat} (h : ∀ x ∈ gs, x < 4294967296) (hy : y < 4294967296) : ∀ x ∈ gs ++ [y], x < 4294967296 := fun x hx => by
  rcases List.mem_append.1 hx with a | a
  · exact h x a
  · rw [List.mem_singleton.1 a]; exact hy

theorem val_snoc32 (gs : List Nat) (y : Nat) : val (gs ++ [y]) = val gs + B32 ^ gs.length * y := by
  rw [val_append]
  simp [val]

theorem w32t {a : Int} {n : Nat} (h : a = n) : IntKind.u32.wrap (Int.tmod a 4294967296) = ((n % B32 : Nat) : Int) := by
  subst h
  rw [Int.tmod_eq_emod_of_nonneg (by omega), wrap_u32_mod]
  unfold B32
  omega

theorem wdiv {a : Int} {n : Nat} (h : a = n) (hn : n < 18446744073709551616) : IntKind.u64.wrap (Int.tdiv a 4294967296) = ((n / B32 : Nat) : Int) := by
  subst h
  rw [Int.tdiv_eq_ediv_of_nonneg (by omega), wrap_u64_mod]
  unfold B32
  omega

theorem modB (t : Nat) : t % B32 < 4294967296 := Nat.mod_lt _ (by decide)

/-! ### Add -/
/-! ### Sub -/
def SubI (h : Heap) (xs ys : List Nat) (M : Nat) (m : Nat) (oA : Option Addr) (on oc : Nat) (borrow i : Int) (h' : Heap) : Prop :=
  ∃ (k bN : Nat) (gs : List Nat), m = M - k ∧ i = (k : Int) ∧ borrow = (bN : Int) ∧ bN ≤ 1 ∧ k ≤ M ∧ gs.length = k ∧ (∀ x ∈ gs, x < 4294967296) ∧
    val gs + val (ys.take k) = val (xs.take k) + B32 ^ k * bN ∧ OwnE lv 104 h h' oA on oc gs ∧ Le h h'

theorem rsub_step {G X Y b p q x y t : Nat} (h : G + Y = X + p * b) (ht : B32 + x = t + y + b) (hb : t / B32 ≤ 1) (hq : q = p * B32) : (G + p * (t % B32)) + (Y + p * y) = (X + p * x) + q * (1 - t / B32) := by
  have h1 := Nat.mod_add_div t B32
  subst hq
  rcases Nat.le_one_iff_eq_zero_or_eq_one.1 hb with e0 | e0
  · rw [e0] at h1 ⊢
    simp only [Nat.sub_zero, Nat.mul_one, Nat.mul_zero, Nat.add_zero] at *
    generalize t % B32 = r at *
    subst h1
    have : p * B32 + p * x = p * r + p * y + p * b := by rw [← Nat.mul_add, ht]; rw [Nat.mul_add, Nat.mul_add]
    omega
  · rw [e0] at h1 ⊢
    simp only [Nat.sub_self, Nat.mul_one, Nat.mul_zero, Nat.add_zero] at *
    generalize t % B32 = r at *
    have hr : x = r + y + b := by omega
    subst hr
    rw [Nat.mul_add, Nat.mul_add]
    omega

theorem r1sub_c {h : Heap} {A B : Option Addr} {n c m d x y : Nat} (ux : IsN h A n c x) (uy : IsN h B m d y) (hn : n ≤ 1099511627776) (hm : m ≤ 1099511627776) :
    CallsU Tryz.prog 173 [.slice A n c, .slice B m d] h fun r h' => (x < y ∧ r = .tuple #[.slice none 0 0, .bool false] ∧ h = h') ∨ (y ≤ x ∧ ∃ A' k c', r = .tuple #[.slice A' k c', .bool true] ∧ NmN h' A' k c' (x - y) ∧ Le h h') := by
  apply ref01_Sub_ok
  refine (r1cmp_c ux uy hn hm).mono ?_
  rintro _ _ ⟨rfl, rfl⟩
  refine ⟨_, rfl, Br.mk (fun b => ?_) (fun b => ?_)⟩
  · have b' := of_decide_eq_true b
    refine Or.inl ⟨?_, rfl, rfl⟩
    unfold cmpI at b'
    split at b'
    · omega
    · split at b' <;> omega
  · have b' := of_decide_eq_false b
    have hyx : y ≤ x := by
      unfold cmpI at b'
      split at b'
      · omega
      · omega
    obtain ⟨xs, u, rfl⟩ := ux
    obtain ⟨ys, w, rfl⟩ := uy
    have hB : B32 = 4294967296 := rfl
    refine ⟨SubI h xs ys (max n m), ⟨_, 0, 0, [], rfl, rfl, rfl, by omega, by omega, rfl, by simp, by simp [val], OwnE.nil h, Le.refl h⟩, ?_⟩
    rintro _ oA on oc _ _ h1 ⟨k, bN, gs, rfl, rfl, rfl, hb, hk, hgl, hlt, hv, own, hle⟩
    have hon := own.1
    rw [max_ite]
    refine Br.mk (fun q => ?_) (fun q => ?_)
    · have q' : k < max n m := by have := of_decide_eq_true q; omega
      have lx := u.getD_lt k
      have ly := w.getD_lt k
      refine (limb_c (u.mono hle) k).mono ?_
      rintro _ _ ⟨rfl, rfl⟩
      refine ⟨_, rfl, ?_⟩
      rintro _ rfl
      rw [wu (n := 4294967296 + xs.getD k 0) (by omega) (by omega)]
      refine (limb_c (w.mono hle) k).mono ?_
      rintro _ _ ⟨rfl, rfl⟩
      refine ⟨_, rfl, ?_⟩
      rintro _ rfl _ rfl _ rfl g0 _ hg0 rfl
      rw [wu (a := ((4294967296 + xs.getD k 0 : Nat) : Int) - ((ys.getD k 0 : Nat) : Int)) (n := 4294967296 + xs.getD k 0 - ys.getD k 0) (by omega) (by omega), wu (a := ((4294967296 + xs.getD k 0 - ys.getD k 0 : Nat) : Int) - (bN : Int)) (n := 4294967296 + xs.getD k 0 - ys.getD k 0 - bN) (by omega) (by omega), w32t rfl]
      have ht : B32 + xs.getD k 0 = (4294967296 + xs.getD k 0 - ys.getD k 0 - bN) + ys.getD k 0 + bN := by rw [hB]; omega
      have htl : 4294967296 + xs.getD k 0 - ys.getD k 0 - bN < 2 * 4294967296 := by omega
      generalize 4294967296 + xs.getD k 0 - ys.getD k 0 - bN = t at ht htl ⊢
      refine own.app (x := t % B32) (z := 0) (bs := 4) (K := fun A c hh => ∀ t40 : Int, t40 = IntKind.u64.wrap (Int.tdiv (t : Int) 4294967296) → ∀ t41 : Int, t41 = IntKind.u64.wrap (1 - t40) → ∀ t22 : Int, t22 = IntKind.i64.wrap ((k : Int) + 1) → ∃ m', m' < max n m - k ∧ SubI h xs ys (max n m) m' A (on + 1) c t41 t22 hh) hle lv_one1 rfl rfl hg0 (by omega) ?_
      intro A' c' h' o l _
      rintro _ rfl _ rfl _ rfl
      have hd : t / B32 ≤ 1 := by rw [hB]; omega
      rw [wdiv rfl (by omega), wi (n := k + 1) (by omega) (by omega), wu (a := 1 - ((t / B32 : Nat) : Int)) (n := 1 - t / B32) (by omega) (Nat.lt_of_le_of_lt (Nat.sub_le 1 _) (by decide))]
      refine ⟨_, by omega, k + 1, 1 - t / B32, gs ++ [t % B32], rfl, rfl, rfl, Nat.sub_le 1 _, by omega, by simp [hgl], mem_snoc32 hlt (modB t), ?_, o, l⟩
      rw [val_snoc32, hgl, val_take_succ', val_take_succ']
      exact rsub_step hv ht hd (Nat.pow_succ _ _)
    · have q' : k = max n m := by have := of_decide_eq_false q; omega
      have hg := val_lt (l := gs) hlt
      rw [hgl] at hg
      rw [val_take_le ys (by rw [w.len]; omega), val_take_le xs (by rw [u.len]; omega)] at hv
      have b0 : bN = 0 := by
        rcases Nat.eq_zero_or_pos bN with e | e
        · exact e
        · exfalso
          have : bN = 1 := by omega
          subst this
          omega
      subst b0
      refine (r1norm_c (own_is own hlt) (by omega)).mono ?_
      rintro _ h2 ⟨A', k', c', rfl, _, hN, hl⟩
      rw [show val gs = val xs - val ys from by omega] at hN
      exact ⟨_, _, _, rfl, Or.inr ⟨hyx, _, _, _, rfl, hN, hle.trans hl⟩⟩
end Go.Proofs.YtdpdaphholileaaGreatDoor

/-
  Contracts: reference 01: Mul, Half, Shift, Bits, DivMod, Gcd.
-/
namespace Go.Proofs.YtdpdaphholileaaGreatDoor
open Go Go.Vcg
attribute [local irreducible] Br

/-! ### Mul -/
theorem r1mul_c {h : Heap} {A B : Option Addr} {n c m d x y : Nat} (ux : IsN h A n c x) (uy : IsN h B m d y) (hn : n ≤ 1099511627776) (hm : m ≤ 1099511627776) :
    CallsU Tryz.prog 126 [.slice A n c, .slice B m d] h fun r h' => ∃ A' k c', r = .slice A' k c' ∧ NmN h' A' k c' (x * y) ∧ Le h h' := by
  apply ref01_Mul_ok
  obtain ⟨xs, a, rfl⟩ := ux
  obtain ⟨ys, b, rfl⟩ := uy
  have la := a.len
  have lb := b.len
  have hbd2 : B32 * B32 = 18446744073709551616 := by decide
  rintro _ rfl
  rw [wi (n := n + m) (by omega) (by omega)]
  refine ⟨by omega, by omega, by omega, by omega, ?_⟩
  rintro g h4 hg rfl
  simp only [Int.toNat_natCast]
  refine ⟨fun q i h' => ∃ (k : Nat) (rs : List Nat), q = n - k ∧ k ≤ n ∧ i = (k : Int) ∧ rs.length = n + m ∧ (∀ x ∈ rs, x < B32) ∧ (∀ j, k + m ≤ j → rs.getD j 0 = 0) ∧
      h' g = some ⟨rs.map lv, 104, (0, 0)⟩ ∧ Le h h' ∧ val (rs.take (k + m)) = val (xs.take k) * val ys,
    ⟨n, 0, List.replicate (n + m) 0, rfl, by omega, rfl, by simp, fun x hx => by rw [List.mem_replicate] at hx; rw [hx.2]; decide, fun j _ => by simp [List.getElem?_replicate]; split <;> rfl,
      by rw [Heap.put_same, repV_lv], Le.new hg _, by rw [List.take_replicate, val_zeros]; simp [val]⟩, ?_⟩
  rintro _ _ h5 ⟨k, rs, rfl, hk, rfl, hrl, hrs, hz, hb, hl, hval⟩
  refine Br.mk (fun q => ?_) (fun q => ?_)
  · have q' : k < n := by have := of_decide_eq_true q; omega
    have hxk := a.getD_lt k
    refine ⟨fun m2 carry i2 h' => ∃ (j cN : Nat) (ss : List Nat), m2 = m - j ∧ j ≤ m ∧ i2 = (j : Int) ∧ carry = (cN : Int) ∧ cN < B32 ∧ ss.length = n + m ∧ (∀ x ∈ ss, x < B32) ∧ ss.drop (k + j) = rs.drop (k + j) ∧
        h' g = some ⟨ss.map lv, 104, (0, 0)⟩ ∧ Le h h' ∧ val (ss.take (k + j)) + B32 ^ (k + j) * cN = val (rs.take (k + j)) + B32 ^ k * xs.getD k 0 * val (ys.take j),
      ⟨m, 0, 0, rs, rfl, by omega, rfl, rfl, by decide, hrl, hrs, rfl, hb, hl, by simp [val]⟩, ?_⟩
    rintro _ _ _ h6 ⟨j, cN, ss, rfl, hj, rfl, rfl, hc, hsl, hss, hdrop, hb6, hl6, hv6⟩
    refine Br.mk (fun q2 => ?_) (fun q2 => ?_)
    · have q2' : j < m := by have := of_decide_eq_true q2; omega
      have hyj := b.getD_lt j
      have hsk : ss.getD (k + j) 0 < B32 := getD_lt hss (by decide) _
      have hbd := limb_bound (x := xs.getD k 0) (y := ys.getD j 0) hxk hyj hsk hc
      refine (limb_c (a.mono hl6) k).mono ?_
      rintro _ _ ⟨rfl, rfl⟩
      refine ⟨_, rfl, (limb_c (b.mono hl6) j).mono ?_⟩
      rintro _ _ ⟨rfl, rfl⟩
      refine ⟨_, rfl, ?_⟩
      rintro _ rfl _ rfl
      rw [wi (n := k + j) (by omega) (by omega)]
      have us := U32.of_blk (m := n + m) (k := n + m) hb6 hss (by omega) (Nat.le_refl _)
      rw [List.take_of_length_le (by omega)] at us
      refine (limb_c us (k + j)).mono ?_
      rintro _ _ ⟨rfl, rfl⟩
      refine ⟨_, rfl, ?_⟩
      rintro _ rfl _ rfl _ rfl _ rfl
      rw [wu (a := ((xs.getD k 0 : Nat) : Int) * ((ys.getD j 0 : Nat) : Int)) (n := xs.getD k 0 * ys.getD j 0) (by rw [Int.natCast_mul]) (by omega), wu (a := ((xs.getD k 0 * ys.getD j 0 : Nat) : Int) + ((ss.getD (k + j) 0 : Nat) : Int)) (n := xs.getD k 0 * ys.getD j 0 + ss.getD (k + j) 0) (Int.natCast_add _ _).symm (by omega),
        wu (a := ((xs.getD k 0 * ys.getD j 0 + ss.getD (k + j) 0 : Nat) : Int) + (cN : Int)) (n := xs.getD k 0 * ys.getD j 0 + ss.getD (k + j) 0 + cN) (Int.natCast_add _ _).symm (by omega), w32t rfl]
      have ht : cN + (xs.getD k 0 * ys.getD j 0 + ss.getD (k + j) 0) = xs.getD k 0 * ys.getD j 0 + ss.getD (k + j) 0 + cN := by omega
      rw [← ht]
      generalize ht2 : cN + (xs.getD k 0 * ys.getD j 0 + ss.getD (k + j) 0) = t at hbd ⊢
      simp only [Int.toNat_natCast]
      refine ⟨_, rfl, by omega, by omega, st_own (t % B32) hb6 (by omega) rfl ?_⟩
      rintro _ rfl _ rfl
      rw [wdiv rfl (by omega), wi (n := j + 1) (by omega) (by omega)]
      refine ⟨m - (j + 1), by omega, j + 1, t / B32, ss.set (k + j) (t % B32), rfl, by omega, rfl, rfl, Nat.div_lt_of_lt_mul hbd, by simp [hsl], mem_set hss (Nat.mod_lt _ (by decide)), ?_, Heap.put_same _ _ _, hl6.put hg _, ?_⟩
      · rw [drop_set (by omega)]
        have := congrArg (List.drop 1) hdrop
        simpa [List.drop_drop, Nat.add_assoc] using this
      · rw [← Nat.add_assoc, val_take_succ (by simp; omega), take_set_ge (Nat.le_refl _), getD_set_eq (by omega), val_take_succ (xs := rs) (by omega), val_take_succ (xs := ys) (by omega), ← getD_drop hdrop (Nat.le_refl _)]
        exact mul_step _ _ _ _ _ _ _ _ _ _ _ hv6 ht2 (by rw [Nat.pow_succ]) (B32 ^ j) (by rw [Nat.pow_add])
    · have hjm : j = m := by have := of_decide_eq_false q2; omega
      subst hjm
      rintro _ rfl
      rw [wi (n := k + j) (by omega) (by omega)]
      simp only [Int.toNat_natCast]
      refine ⟨_, rfl, by omega, by omega, st_own cN hb6 (by omega) (by rw [w32 rfl, Nat.mod_eq_of_lt hc]) ?_⟩
      rintro _ rfl
      rw [wi (n := k + 1) (by omega) (by omega)]
      refine ⟨n - (k + 1), by omega, k + 1, ss.set (k + j) cN, rfl, by omega, rfl, by simp [hsl], mem_set hss hc, fun i hi => ?_, Heap.put_same _ _ _, hl6.put hg _, ?_⟩
      · rw [getD_set_ne (by omega), getD_drop hdrop (by omega)]
        exact hz i (by omega)
      · have e : k + 1 + j = k + j + 1 := by omega
        rw [e, val_take_succ (by simp; omega), take_set_ge (Nat.le_refl _), getD_set_eq (by omega), hv6, hval, val_take_succ (xs := xs) (by omega), List.take_of_length_le (l := ys) (by omega)]
        grind
  · have hka : k = n := by have := of_decide_eq_false q; omega
    subst hka
    have u := U32.of_blk (m := k + m) (k := k + m) hb hrs (by omega) (Nat.le_refl _)
    have hv2 : val (rs.take (k + m)) = val xs * val ys := by rw [hval, List.take_of_length_le (by omega)]
    refine (r1norm_c ⟨_, u, hv2⟩ (by omega)).mono ?_
    rintro _ _ ⟨A', m2, c', rfl, hm2, hN, hl2⟩
    exact ⟨_, _, _, rfl, _, _, _, rfl, hN, hl.trans hl2⟩

/-! ### Half -/
def HalfI (h : Heap) (xs : List Nat) (n : Nat) (m : Nat) (oA : Option Addr) (on oc : Nat) (i : Int) (h' : Heap) : Prop :=
  ∃ (k : Nat) (gs : List Nat), m = n - k ∧ i = (k : Int) ∧ k ≤ n ∧ gs.length = k ∧ (∀ x ∈ gs, x < 4294967296) ∧
    val gs * 2 + xs.getD 0 0 % 2 = val (xs.take k) + B32 ^ k * (xs.getD k 0 % 2) ∧ OwnE lv 104 h h' oA on oc gs ∧ Le h h'

theorem half_step {G X p q r x y : Nat} (h : G * 2 + r = X + p * (x % 2)) (hq : q = p * B32) : (G + p * (x / 2 + y % 2 * 2147483648)) * 2 + r = (X + p * x) + q * (y % 2) := by
  have h1 := Nat.mod_add_div x 2
  subst hq
  have hB : B32 = 2147483648 * 2 := rfl
  rw [hB]
  generalize x % 2 = a at *
  generalize x / 2 = b at *
  subst h1
  generalize y % 2 = e at *
  grind

theorem r1half_c {h : Heap} {A : Option Addr} {n c x : Nat} (ux : IsN h A n c x) (hn : n ≤ 1099511627776) :
    CallsU Tryz.prog 174 [.slice A n c] h fun r h' => ∃ A' k c', r = .slice A' k c' ∧ NmN h' A' k c' (x / 2) ∧ Le h h' := by
  apply ref01_Half_ok
  obtain ⟨xs, u, rfl⟩ := ux
  refine ⟨HalfI h xs n, ⟨_, 0, [], rfl, rfl, by omega, rfl, by simp, by simp [val], OwnE.nil h, Le.refl h⟩, ?_⟩
  rintro _ oA on oc _ h1 ⟨k, gs, rfl, rfl, hk, hgl, hlt, hv, own, hle⟩
  have hon := own.1
  refine Br.mk (fun q => ?_) (fun q => ?_)
  · have q' : k < n := by have := of_decide_eq_true q; omega
    have lx := u.getD_lt k
    have ly := u.getD_lt (k + 1)
    refine (limb_c (u.mono hle) k).mono ?_
    rintro _ _ ⟨rfl, rfl⟩
    refine ⟨_, rfl, ?_⟩
    rintro _ rfl _ rfl
    rw [wi (n := k + 1) (by omega) (by omega)]
    refine (limb_c (u.mono hle) (k + 1)).mono ?_
    rintro _ _ ⟨rfl, rfl⟩
    refine ⟨_, rfl, ?_⟩
    rintro _ rfl _ rfl _ rfl g0 _ hg0 rfl
    have e1 : Int.tdiv ((xs.getD k 0 : Nat) : Int) 2 = ((xs.getD k 0 / 2 : Nat) : Int) := by rw [Int.tdiv_eq_ediv_of_nonneg (by omega)]; omega
    have e2 : Int.tmod ((xs.getD (k + 1) 0 : Nat) : Int) 2 = ((xs.getD (k + 1) 0 % 2 : Nat) : Int) := by rw [Int.tmod_eq_emod_of_nonneg (by omega)]; omega
    rw [e1, e2, wu (a := ((xs.getD k 0 / 2 : Nat) : Int)) (n := xs.getD k 0 / 2) rfl (by omega), wu (a := ((xs.getD (k + 1) 0 % 2 : Nat) : Int) * 2147483648) (n := xs.getD (k + 1) 0 % 2 * 2147483648) (by omega) (by omega), wu (a := ((xs.getD k 0 / 2 : Nat) : Int) + ((xs.getD (k + 1) 0 % 2 * 2147483648 : Nat) : Int)) (n := xs.getD k 0 / 2 + xs.getD (k + 1) 0 % 2 * 2147483648) (by omega) (by omega), w32 rfl, Nat.mod_eq_of_lt (by unfold B32; omega)]
    refine own.app (x := xs.getD k 0 / 2 + xs.getD (k + 1) 0 % 2 * 2147483648) (z := 0) (bs := 4) (K := fun A c hh => ∀ t10 : Int, t10 = ((k + 1 : Nat) : Int) → ∃ m', m' < n - k ∧ HalfI h xs n m' A (on + 1) c t10 hh) hle lv_one1 rfl rfl hg0 (by omega) ?_
    intro A' c' h' o l _
    rintro _ rfl
    refine ⟨_, by omega, k + 1, _, rfl, rfl, by omega, by simp [hgl], mem_snoc32 hlt (by omega), ?_, o, l⟩
    rw [val_snoc32, hgl, val_take_succ']
    exact half_step hv (Nat.pow_succ _ _)
  · have q' : k = n := by have := of_decide_eq_false q; omega
    rw [val_take_le _ (by rw [u.len]; omega), getD_ge (xs := xs) (k := k) (by rw [u.len]; omega), Nat.zero_mod, Nat.mul_zero, Nat.add_zero] at hv
    refine (r1norm_c (own_is own hlt) (by omega)).mono ?_
    rintro _ h2 ⟨A', k', c', rfl, _, hN, hl⟩
    rw [show val gs = val xs / 2 from by omega] at hN
    exact ⟨_, _, _, rfl, _, _, _, rfl, hN, hle.trans hl⟩

/-! ### Shift -/
def ShiftI (h : Heap) (xs : List Nat) (n qd r : Nat) (m : Nat) (oA : Option Addr) (on oc : Nat) (carry i : Int) (h' : Heap) : Prop :=
  ∃ (k cN : Nat) (ds : List Nat), m = n + 1 - k ∧ i = (k : Int) ∧ carry = (cN : Int) ∧ cN < 2 ^ r ∧ k ≤ n + 1 ∧ ds.length = k ∧ (∀ x ∈ ds, x < 4294967296) ∧
    val ds + B32 ^ k * cN = 2 ^ r * val (xs.take k) ∧ OwnE lv 104 h h' oA on oc (List.replicate qd 0 ++ ds) ∧ Le h h'

theorem shift_step {D X p q s x c t : Nat} (h : D + p * c = s * X) (ht : x * s + c = t) (hq : q = p * B32) : (D + p * (t % B32)) + q * (t / B32) = s * (X + p * x) := by
  have := Nat.mod_add_div t B32
  subst hq
  grind

theorem r1shift_c {h : Heap} {A : Option Addr} {n c x : Nat} (ux : IsN h A n c x) (hn : n ≤ 1099511627776) (s : Nat) (hs : s ≤ 35184372088832) :
    CallsU Tryz.prog 172 [.slice A n c, .int .i64 s] h fun r h' => ∃ A' k c', r = .slice A' k c' ∧ NmN h' A' k c' (x * 2 ^ s) ∧ Le h h' := by
  apply ref01_Shift_ok
  obtain ⟨xs, u, rfl⟩ := ux
  have hB : B32 = 2 ^ 32 := by decide
  have hB' : B32 = 4294967296 := rfl
  have e1 : Int.tdiv ((s : Nat) : Int) 32 = ((s / 32 : Nat) : Int) := by rw [Int.tdiv_eq_ediv_of_nonneg (by omega)]; omega
  have e2 : Int.tmod ((s : Nat) : Int) 32 = ((s % 32 : Nat) : Int) := by rw [Int.tmod_eq_emod_of_nonneg (by omega)]; omega
  rintro _ rfl
  rw [e1, wi (n := s / 32) rfl (by omega)]
  refine ⟨by omega, by omega, by omega, by omega, ?_⟩
  rintro g _ hg rfl
  rw [Int.toNat_natCast]
  have hs2 : s = 32 * (s / 32) + s % 32 := by omega
  have hr : s % 32 < 32 := Nat.mod_lt _ (by decide)
  have hp : 0 < 2 ^ (s % 32) := Nat.pow_pos (by decide)
  have hp2 : 2 ^ (s % 32) ≤ 2 ^ 31 := Nat.pow_le_pow_right (by decide) (by omega)
  have hp3 : (2 : Nat) ^ 31 = 2147483648 := by decide
  have hqd : s / 32 ≤ 1099511627776 := by omega
  have hpow : (2 : Nat) ^ s = B32 ^ (s / 32) * 2 ^ (s % 32) := by
    rw [hB, ← Nat.pow_mul, ← Nat.pow_add, ← hs2]
  rw [hpow]
  generalize s / 32 = qd at *
  generalize s % 32 = r at *
  refine ⟨ShiftI h xs n qd r, ⟨_, 0, 0, [], rfl, rfl, rfl, hp, by omega, rfl, by simp, by simp [val], ?_, Le.new hg _⟩, ?_⟩
  · refine ⟨by simp, Or.inr ⟨g, [], rfl, hg, ?_, by simp⟩⟩
    rw [Heap.put_same, repV_lv]
    simp
  rintro _ oA on oc _ _ h1 ⟨k, cN, ds, rfl, rfl, rfl, hc, hk, hdl, hlt, hv, own, hle⟩
  have hon := own.1
  rw [List.length_append, List.length_replicate, hdl] at hon
  refine Br.mk (fun q => ?_) (fun q => ?_)
  · have q' : k ≤ n := by have := of_decide_eq_true q; omega
    have lx := u.getD_lt k
    refine (limb_c (u.mono hle) k).mono ?_
    rintro _ _ ⟨rfl, rfl⟩
    refine ⟨_, rfl, ?_⟩
    rintro _ rfl
    rw [e2, wu (n := r) rfl (by omega), Int.toNat_natCast, Nat.min_eq_left (by omega)]
    refine Br.mk (fun q1 => by have := of_decide_eq_true q1; omega) (fun _ => ?_)
    rintro _ rfl _ rfl _ rfl g0 _ hg0 rfl
    have hpI : ((2 : Int) ^ r) = ((2 ^ r : Nat) : Int) := by simp
    have hxs : xs.getD k 0 * 2 ^ r + 2 ^ r ≤ 4294967296 * 2 ^ r := by
      have : (xs.getD k 0 + 1) * 2 ^ r ≤ 4294967296 * 2 ^ r := Nat.mul_le_mul_right _ lx
      rw [Nat.add_mul, Nat.one_mul] at this
      exact this
    rw [hpI, wu (a := ((xs.getD k 0 : Nat) : Int) * ((2 ^ r : Nat) : Int)) (n := xs.getD k 0 * 2 ^ r) (by rw [Int.natCast_mul]) (by omega), wu (a := ((xs.getD k 0 * 2 ^ r : Nat) : Int) + (cN : Int)) (n := xs.getD k 0 * 2 ^ r + cN) (Int.natCast_add _ _).symm (by omega), w32t rfl]
    generalize ht : xs.getD k 0 * 2 ^ r + cN = t
    have htl : t < 2 ^ r * B32 := by rw [hB', Nat.mul_comm (2 ^ r)]; omega
    refine own.app (x := t % B32) (z := 0) (bs := 4) (K := fun A c hh => ∀ t34 : Int, t34 = IntKind.u64.wrap (Int.tdiv (t : Int) 4294967296) → ∀ t17 : Int, t17 = IntKind.i64.wrap ((k : Int) + 1) → ∃ m', m' < n + 1 - k ∧ ShiftI h xs n qd r m' A (on + 1) c t34 t17 hh) hle lv_one1 rfl rfl hg0 (by omega) ?_
    intro A' c' h' o l _
    rintro _ rfl _ rfl
    rw [wdiv rfl (by omega), wi (n := k + 1) (by omega) (by omega)]
    refine ⟨_, by omega, k + 1, t / B32, ds ++ [t % B32], rfl, rfl, rfl, Nat.div_lt_of_lt_mul (by rw [Nat.mul_comm]; exact htl), by omega, by simp [hdl], mem_snoc32 hlt (modB t), ?_, by rw [← List.append_assoc]; exact o, l⟩
    rw [val_snoc32, hdl, val_take_succ']
    exact shift_step hv ht (Nat.pow_succ _ _)
  · have q' : k = n + 1 := by have := of_decide_eq_false q; omega
    subst q'
    have hzero : cN = 0 := by
      rw [val_take_le _ (by rw [u.len]; omega)] at hv
      have hx := val_lt (l := xs) u.lt
      rw [u.len] at hx
      rcases Nat.eq_zero_or_pos cN with e | e
      · exact e
      · exfalso
        have h1 : B32 * B32 ^ n ≤ B32 ^ (n + 1) * cN := by
          have := Nat.mul_le_mul_left (B32 ^ (n + 1)) e
          rw [show B32 * B32 ^ n = B32 ^ (n + 1) * (0 + 1) from by rw [Nat.pow_succ, Nat.mul_comm, Nat.zero_add, Nat.mul_one]]
          exact this
        have h2 : 2 ^ r * val xs < 2 ^ r * B32 ^ n := Nat.mul_lt_mul_of_pos_left hx hp
        have h3 : 2 ^ r * B32 ^ n ≤ B32 * B32 ^ n := Nat.mul_le_mul_right _ (by omega)
        omega
    subst hzero
    rw [val_take_le _ (by rw [u.len]; omega), Nat.mul_zero, Nat.add_zero] at hv
    have hlt2 : ∀ x ∈ List.replicate qd 0 ++ ds, x < 4294967296 := fun x hx => by
      rcases List.mem_append.1 hx with a | a
      · rw [(List.mem_replicate.1 a).2]; decide
      · exact hlt x a
    refine (r1norm_c (own_is own hlt2) (by omega)).mono ?_
    rintro _ h2 ⟨A', k', c', rfl, _, hN, hl⟩
    rw [val_append, val_zeros, List.length_replicate, Nat.zero_add, hv, show B32 ^ qd * (2 ^ r * val xs) = val xs * (B32 ^ qd * 2 ^ r) from by rw [Nat.mul_comm (val xs), Nat.mul_assoc]] at hN
    exact ⟨_, _, _, rfl, _, _, _, rfl, hN, hle.trans hl⟩

/-! ### Bits -/
theorem r1bits_c {h : Heap} {A : Option Addr} {n c x : Nat} (ux : IsN h A n c x) (hn : n ≤ 1099511627776) :
    CallsU Tryz.prog 171 [.slice A n c] h fun r h' => ∃ t : Nat, r = .int .i64 t ∧ x < 2 ^ t ∧ (x ≠ 0 → 1 ≤ t ∧ 2 ^ (t - 1) ≤ x) ∧ (x = 0 → t = 0) ∧ t ≤ 32 * n ∧ Le h h' := by
  apply ref01_Bits_ok
  have hB : B32 = 2 ^ 32 := by decide
  refine (r1norm_c ux (by omega)).mono ?_
  rintro _ h1 ⟨A1, m, c1, rfl, hm, hN, hl⟩
  have hz := NmN.zero_iff hN
  refine ⟨_, _, _, rfl, Br.mk (fun q => ?_) (fun q => ?_)⟩
  · have q' : m = 0 := by have := beq_iff_eq.1 q; omega
    have x0 := hz.1 q'
    subst x0
    exact ⟨0, rfl, by decide, fun e => absurd rfl e, fun _ => rfl, by omega, hl⟩
  · have q' : 0 < m := by have := beq_eq_false_iff_ne.1 q; omega
    obtain ⟨xs, u, hv, nr⟩ := hN
    have lu := u.len
    obtain ⟨m, rfl⟩ : ∃ k, m = k + 1 := ⟨m - 1, by omega⟩
    have hne : xs ≠ [] := fun e => by rw [e] at lu; simp at lu
    have hval : val xs = val (xs.take m) + B32 ^ m * xs.getD m 0 := by rw [← val_take_succ', val_take_le _ (by omega)]
    have hlow := val_take_lt' (xs := xs) u.lt m
    have htop : xs.getD m 0 ≠ 0 := fun e => by
      have h2 := nrm_val_pos nr hne
      rw [lu, Nat.add_sub_cancel] at h2
      rw [e, Nat.mul_zero] at hval
      omega
    have htl := u.getD_lt m
    rintro _ rfl _ rfl _ rfl
    rw [wi (a := (((m + 1 : Nat) : Int) - 1)) (n := m) (by omega) (by omega), wi (n := 32 * m) (by omega) (by omega)]
    obtain ⟨ad, hA, hld⟩ := u.get (i := m) (by omega)
    rw [Int.toNat_natCast]
    refine ⟨ad, hA, by omega, by omega, _, hld, ?_⟩
    generalize xs.getD m 0 = top at *
    refine ⟨fun q nn tt h' => ∃ (j : Nat), tt = (q : Int) ∧ nn = ((32 * m + j : Nat) : Int) ∧ j ≤ 32 ∧ q = top / 2 ^ j ∧ h1 = h' ∧ (0 < j → 2 ^ (j - 1) ≤ top), ⟨top, 0, rfl, rfl, by omega, by simp, rfl, fun e => absurd e (Nat.lt_irrefl 0)⟩, ?_⟩
    rintro q _ _ _ ⟨j, rfl, rfl, hj, rfl, rfl, hpos⟩
    refine Br.mk (fun b => ?_) (fun b => ?_)
    · have b' : 0 < top / 2 ^ j := by have := of_decide_eq_true b; omega
      have hge : 2 ^ j ≤ top := by
        rcases Nat.lt_or_ge top (2 ^ j) with e | e
        · rw [Nat.div_eq_of_lt e] at b'; omega
        · exact e
      have hj32 : j < 32 := by
        rcases Nat.lt_or_ge j 32 with e | e
        · exact e
        · have : 2 ^ 32 ≤ 2 ^ j := Nat.pow_le_pow_right (by decide) e
          have e2 : (2 : Nat) ^ 32 = 4294967296 := by decide
          omega
      rintro _ rfl _ rfl
      have hdl : top / 2 ^ j ≤ top := Nat.div_le_self _ _
      have e1 : Int.tdiv ((top / 2 ^ j : Nat) : Int) 2 = ((top / 2 ^ j / 2 : Nat) : Int) := by rw [Int.tdiv_eq_ediv_of_nonneg (by omega)]; omega
      rw [wi (n := 32 * m + j + 1) (by omega) (by omega), e1, w32 rfl, Nat.mod_eq_of_lt (by unfold B32; omega)]
      refine ⟨top / 2 ^ j / 2, by omega, j + 1, rfl, by rw [Nat.add_assoc], by omega, by rw [Nat.div_div_eq_div_mul, ← Nat.pow_succ], rfl, fun _ => by rw [Nat.add_sub_cancel]; exact hge⟩
    · have b' : top / 2 ^ j = 0 := by
        have := of_decide_eq_false b
        generalize top / 2 ^ j = z at this ⊢
        omega
      have hlt : top < 2 ^ j := by
        rcases Nat.lt_or_ge top (2 ^ j) with e | e
        · exact e
        · have := Nat.div_pos e (Nat.pow_pos (by decide)); omega
      have hj0 : 0 < j := by
        rcases Nat.eq_zero_or_pos j with e | e
        · rw [e] at hlt; simp at hlt; omega
        · exact e
      have hp := hpos hj0
      have hpm : B32 ^ m = 2 ^ (32 * m) := by rw [hB, ← Nat.pow_mul]
      refine ⟨32 * m + j, rfl, ?_, fun _ => ⟨by omega, ?_⟩, fun e => ?_, by omega, hl⟩
      · rw [← hv, hval, Nat.pow_add, ← hpm]
        have : B32 ^ m * (top + 1) ≤ B32 ^ m * 2 ^ j := Nat.mul_le_mul_left _ hlt
        rw [Nat.mul_add] at this
        omega
      · rw [← hv, hval, show 32 * m + j - 1 = 32 * m + (j - 1) from by omega, Nat.pow_add, ← hpm]
        have : B32 ^ m * 2 ^ (j - 1) ≤ B32 ^ m * top := Nat.mul_le_mul_left _ hp
        omega
      · exfalso
        have h3 : B32 ^ m * 1 ≤ B32 ^ m * top := Nat.mul_le_mul_left _ (by omega)
        have h4 : 0 < B32 ^ m := Nat.pow_pos (by decide)
        omega
end Go.Proofs.YtdpdaphholileaaGreatDoor

/-
  Contracts: reference 01: DivMod, Gcd.
-/
namespace Go.Proofs.YtdpdaphholileaaGreatDoor
open Go Go.Vcg
attribute [local irreducible] Br

theorem val_set_add : ∀ {qs : List Nat} {i d : Nat}, i < qs.length → val (qs.set i (qs.getD i 0 + d)) = val qs + B32 ^ i * d
  | [], i, d, h => by simp at h
  | x :: r, 0, d, _ => by simp [val]; omega
  | x :: r, i + 1, d, h => by
    have ih := val_set_add (qs := r) (i := i) (d := d) (by simpa using h)
    simp only [List.set_cons_succ, val, List.getD_cons_succ]
    rw [ih, Nat.mul_add, Nat.pow_succ, Nat.mul_comm (B32 ^ i) B32, Nat.mul_assoc, Nat.add_assoc]

theorem limb_mult : ∀ {qs : List Nat} {i j t : Nat}, (∀ x ∈ qs, x < 4294967296) → i < qs.length → j < 32 → val qs = 2 ^ (32 * i + (j + 1)) * t → qs.getD i 0 + 2 ^ j < 4294967296
  | [], i, j, t, _, h, _, _ => by simp at h
  | x :: r, 0, j, t, hlt, _, hj, hv => by
    have hx := hlt x (by simp)
    simp only [val, Nat.mul_zero, Nat.zero_add] at hv
    simp only [List.getD_cons_zero]
    have hB : B32 = 2 ^ (j + 1) * 2 ^ (31 - j) := by rw [← Nat.pow_add, show j + 1 + (31 - j) = 32 from by omega]; rfl
    have hB2 : (4294967296 : Nat) = 2 ^ (j + 1) * 2 ^ (31 - j) := hB
    rw [hB, Nat.mul_assoc] at hv
    have hd : x = 2 ^ (j + 1) * (t - 2 ^ (31 - j) * val r) := by rw [Nat.mul_sub, ← hv]; omega
    rw [hB2] at hx ⊢
    rw [Nat.pow_succ] at *
    generalize t - 2 ^ (31 - j) * val r = a at *
    subst hd
    have ha : a < 2 ^ (31 - j) := Nat.lt_of_mul_lt_mul_left hx
    have := Nat.mul_le_mul_left (2 ^ j * 2) ha
    rw [Nat.mul_succ] at this
    have hp : 0 < 2 ^ j := Nat.pow_pos (by decide)
    omega
  | x :: r, i + 1, j, t, hlt, h, hj, hv => by
    have hx := hlt x (by simp)
    simp only [val] at hv
    rw [show 32 * (i + 1) + (j + 1) = 32 + (32 * i + (j + 1)) from by omega, Nat.pow_add, Nat.mul_assoc, show (2 : Nat) ^ 32 = B32 from rfl] at hv
    have hm : (x + B32 * val r) % B32 = (B32 * (2 ^ (32 * i + (j + 1)) * t)) % B32 := by rw [hv]
    rw [Nat.add_mul_mod_self_left, Nat.mul_mod_right, Nat.mod_eq_of_lt (show x < B32 from hx)] at hm
    subst hm
    rw [Nat.zero_add] at hv
    have hv2 := Nat.eq_of_mul_eq_mul_left (by decide) hv
    simp only [List.getD_cons_succ]
    exact limb_mult (fun y hy => hlt y (by simp [hy])) (by simpa using h) hj hv2

def DmI (h : Heap) (g : Nat) (x y n q1 : Nat) (m : Nat) (rA : Option Addr) (rn rc : Nat) (pA : Option Addr) (pn pc : Nat) (k : Int) (h' : Heap) : Prop :=
  ∃ (H : Heap) (qs : List Nat) (r p t : Nat), k = (m : Int) - 1 ∧ m ≤ n + 1 ∧ h' = H.put g ⟨qs.map lv, 104, (0, 0)⟩ ∧ H g = none ∧ Le h H ∧ NmN H rA rn rc r ∧ NmN H pA pn pc p ∧ (0 < m → p = y * 2 ^ (m - 1)) ∧ p ≤ y * 2 ^ n ∧
    qs.length = q1 ∧ (∀ z ∈ qs, z < 4294967296) ∧ val qs = 2 ^ m * t ∧ val qs * y + r = x ∧ r < y * 2 ^ m

theorem r1divmod_c {h : Heap} {A B : Option Addr} {n c m d x y : Nat} (ux : IsN h A n c x) (uy : IsN h B m d y) (hn : n ≤ 1073741824) (hm : m ≤ 1073741824) (hy : y ≠ 0) :
    CallsU Tryz.prog 130 [.slice A n c, .slice B m d] h fun r h' => ∃ A1 n1 c1 A2 n2 c2, r = .tuple #[.slice A1 n1 c1, .slice A2 n2 c2, .bool true] ∧ NmN h' A1 n1 c1 (x / y) ∧ NmN h' A2 n2 c2 (x % y) ∧ Le h h' := by
  apply ref01_DivMod_ok
  have hsx := ux.sz
  refine (r1bits_c uy (by omega)).mono ?_
  rintro _ h1 ⟨tb0, rfl, _, hb0, _, _, hl1⟩
  obtain ⟨hb1, _⟩ := hb0 hy
  refine ⟨_, rfl, Br.mk (fun q => by have := beq_iff_eq.1 q; omega) (fun _ => ?_)⟩
  refine (r1norm_c (ux.mono hl1) (by omega)).mono ?_
  rintro _ h2 ⟨A2, n2, c2, rfl, hn2, hN2, hl2⟩
  refine ⟨_, _, _, rfl, (r1bits_c hN2.is (by omega)).mono ?_⟩
  rintro _ h3 ⟨tr, rfl, hr1, hr2, hr0, hr3, hl3⟩
  refine ⟨_, rfl, (r1bits_c ((uy.mono hl1).mono (hl2.trans hl3)) (by omega)).mono ?_⟩
  rintro _ h4 ⟨tb, rfl, ht1, ht2, _, ht4, hl4⟩
  obtain ⟨hb3, hb4⟩ := ht2 hy
  have hl14 : Le h h4 := ((hl1.trans hl2).trans hl3).trans hl4
  have hN4 := hN2.mono (hl3.trans hl4)
  refine ⟨_, rfl, ?_⟩
  rintro _ rfl
  rw [wrap_i64 (by omega) (by omega)]
  refine Br.mk (fun q => ?_) (fun q => ?_)
  · have q' : tr < tb := by have := of_decide_eq_true q; omega
    have hlt : x < y := by
      have : 2 ^ tr ≤ 2 ^ (tb - 1) := Nat.pow_le_pow_right (by decide) (by omega)
      omega
    exact ⟨_, _, _, _, _, _, rfl, by rw [Nat.div_eq_of_lt hlt]; exact NmN.nil _ _ _, by rw [Nat.mod_eq_of_lt hlt]; exact hN4, hl14⟩
  · have q' : tb ≤ tr := by have := of_decide_eq_false q; omega
    have hx0 : x ≠ 0 := fun e => by have := hr0 e; omega
    obtain ⟨hr4, hr5⟩ := hr2 hx0
    obtain ⟨k, hk⟩ : ∃ k, tr = tb + k := ⟨tr - tb, by omega⟩
    rw [show ((tr : Nat) : Int) - ((tb : Nat) : Int) = (k : Int) from by omega]
    have hinit : x < y * 2 ^ (k + 1) := by
      have h5 : 2 ^ tr = 2 ^ (tb - 1) * 2 ^ (k + 1) := by rw [← Nat.pow_add]; congr 1; omega
      have h6 : 2 ^ (tb - 1) * 2 ^ (k + 1) ≤ y * 2 ^ (k + 1) := Nat.mul_le_mul_right _ hb4
      omega
    have hpart : Sz (y * 2 ^ k) (n + 1) := by
      have h5 : y * 2 ^ k < 2 ^ tb * 2 ^ k := Nat.mul_lt_mul_of_pos_right ht1 (Nat.pow_pos (by decide))
      rw [← Nat.pow_add, ← hk] at h5
      have h6 : 2 ^ tr = 2 ^ (tr - 1) * 2 := by rw [← Nat.pow_succ]; congr 1; omega
      unfold Sz at *
      rw [Nat.pow_succ]
      have : B32 ^ n * 2 ≤ B32 ^ n * B32 := Nat.mul_le_mul_left _ (by decide)
      omega
    have e1 : ∀ z : Nat, Int.tdiv ((z : Nat) : Int) 32 = ((z / 32 : Nat) : Int) := fun z => by rw [Int.tdiv_eq_ediv_of_nonneg (by omega)]; omega
    have e2 : ∀ z : Nat, Int.tmod ((z : Nat) : Int) 32 = ((z % 32 : Nat) : Int) := fun z => by rw [Int.tmod_eq_emod_of_nonneg (by omega)]; omega
    rintro _ rfl _ rfl
    rw [e1, wi (n := k / 32) rfl (by omega), wi (n := k / 32 + 1) (by omega) (by omega)]
    refine ⟨by omega, by omega, by omega, by omega, ?_⟩
    rintro g _ hg rfl
    rw [Int.toNat_natCast]
    refine (CallsU.frame (r1shift_c (h := h4) (((uy.mono hl1).mono (hl2.trans hl3)).mono hl4) (by omega) k (by omega)) hg).mono ?_
    rintro _ _ ⟨h5, ⟨A5, n5, c5, rfl, hN5, hl5⟩, hg5, rfl⟩
    refine ⟨_, _, _, rfl, DmI h g x y k (k / 32 + 1), ⟨k + 1, h5, List.replicate (k / 32 + 1) 0, x, y * 2 ^ k, 0, by omega, by omega, by rw [repV_lv], hg5, hl14.trans hl5, hN4.mono hl5, hN5, fun _ => rfl, Nat.le_refl _, by simp, fun z hz => by rw [(List.mem_replicate.1 hz).2]; decide, by rw [val_zeros, Nat.mul_zero], by rw [val_zeros, Nat.zero_mul, Nat.zero_add], hinit⟩, ?_⟩
    rintro mm rA rn rc pA pn pc _ _ ⟨H, qs, r, p, t, rfl, hmm, rfl, hgH, hleH, hNr, hNp, hp, hpn, hql, hqlt, hqm, hqr, hrlt⟩
    have hrx : r ≤ x := by omega
    have hrn := NmN.le_of hNr (hsx.le hrx)
    have hpl := NmN.le_of hNp (hpart.le hpn)
    refine Br.mk (fun b => ?_) (fun b => ?_)
    · have b' : 0 < mm := by have := of_decide_eq_true b; omega
      obtain ⟨i, rfl⟩ : ∃ i, mm = i + 1 := ⟨mm - 1, by omega⟩
      have hp' := hp b'
      rw [Nat.add_sub_cancel] at hp'
      rw [show ((i + 1 : Nat) : Int) - 1 = (i : Int) from by omega]
      have hp2 : 2 ^ (i + 1) = 2 * 2 ^ i := by rw [Nat.pow_succ, Nat.mul_comm]
      have hhalf : 0 < i → p / 2 = y * 2 ^ (i - 1) := fun hi => by
        obtain ⟨j, rfl⟩ : ∃ j, i = j + 1 := ⟨i - 1, by omega⟩
        rw [hp', Nat.add_sub_cancel, Nat.pow_succ, ← Nat.mul_assoc, Nat.mul_div_cancel _ (by decide)]
      refine (CallsU.frame (r1sub_c (h := H) hNr.is hNp.is (by omega) (by omega)) hgH).mono ?_
      rintro _ _ ⟨h8, hsub, hg8, rfl⟩
      rcases hsub with ⟨hlt, rfl, rfl⟩ | ⟨hge, A8, n8, c8, rfl, hN8, hl8⟩
      · refine ⟨_, _, _, _, rfl, Br.mk (fun q => by cases q) (fun _ => ?_)⟩
        refine (CallsU.frame (r1half_c (h := H) hNp.is (by omega)) hgH).mono ?_
        rintro _ _ ⟨h9, ⟨A9, n9, c9, rfl, hN9, hl9⟩, hg9, rfl⟩
        refine ⟨_, _, _, rfl, ?_⟩
        rintro _ rfl
        rw [wrap_i64 (by omega) (by omega)]
        refine ⟨i, by omega, h9, qs, r, p / 2, 2 * t, rfl, by omega, rfl, hg9, hleH.trans hl9, hNr.mono hl9, hN9, hhalf, Nat.le_trans (Nat.div_le_self _ _) hpn, hql, hqlt, ?_, hqr, by rw [hp'] at hlt; exact hlt⟩
        rw [hqm, hp2, Nat.mul_comm 2 (2 ^ i), Nat.mul_assoc]
      · refine ⟨_, _, _, _, rfl, Br.mk (fun _ => ?_) (fun q => by cases q)⟩
        rintro _ rfl _ rfl
        have hidx : i / 32 < qs.length := by rw [hql]; omega
        have hmult := limb_mult (qs := qs) (i := i / 32) (j := i % 32) (t := t) hqlt hidx (Nat.mod_lt _ (by decide)) (by rw [hqm]; congr 2; omega)
        rw [e1, wi (n := i / 32) rfl (by omega)]
        simp only [Int.toNat_natCast]
        refine ⟨_, rfl, by omega, by omega, _, ld_own (Heap.put_same _ _ _) hidx, ?_⟩
        rintro _ rfl
        rw [e2, wu (n := i % 32) rfl (by omega), Int.toNat_natCast, Nat.min_eq_left (by omega)]
        refine Br.mk (fun q => by have := of_decide_eq_true q; omega) (fun _ => ?_)
        rintro _ rfl _ rfl
        have hpI : ((2 : Int) ^ (i % 32)) = ((2 ^ (i % 32) : Nat) : Int) := by simp
        have hpb : 2 ^ (i % 32) < 4294967296 := by omega
        rw [Int.one_mul, hpI, w32 rfl, Nat.mod_eq_of_lt (by exact hpb), w32 (n := qs.getD (i / 32) 0 + 2 ^ (i % 32)) (Int.natCast_add _ _).symm, Nat.mod_eq_of_lt (by exact hmult)]
        refine ⟨_, rfl, by omega, by omega, st_own (qs.getD (i / 32) 0 + 2 ^ (i % 32)) (Heap.put_same _ _ _) hidx rfl ?_⟩
        rw [Heap.put_put]
        refine (CallsU.frame (r1half_c (h := h8) (hNp.mono hl8).is (by omega)) hg8).mono ?_
        rintro _ _ ⟨h9, ⟨A9, n9, c9, rfl, hN9, hl9⟩, hg9, rfl⟩
        refine ⟨_, _, _, rfl, ?_⟩
        rintro _ rfl
        rw [wrap_i64 (by omega) (by omega)]
        have hpow : B32 ^ (i / 32) * 2 ^ (i % 32) = 2 ^ i := by
          rw [show B32 = 2 ^ 32 from rfl, ← Nat.pow_mul, ← Nat.pow_add]
          congr 1
          omega
        have hvs : val (qs.set (i / 32) (qs.getD (i / 32) 0 + 2 ^ (i % 32))) = val qs + 2 ^ i := by rw [val_set_add hidx, hpow]
        refine ⟨i, by omega, h9, _, r - p, p / 2, 2 * t + 1, rfl, by omega, rfl, hg9, (hleH.trans hl8).trans hl9, hN8.mono hl9, hN9, hhalf, Nat.le_trans (Nat.div_le_self _ _) hpn, by rw [List.length_set]; exact hql, mem_set hqlt hmult, ?_, ?_, ?_⟩
        · rw [hvs, hqm, hp2, Nat.mul_add, Nat.mul_one, Nat.mul_comm 2 (2 ^ i), Nat.mul_assoc]
        · rw [hvs, Nat.add_mul, Nat.mul_comm (2 ^ i) y, ← hp']
          omega
        · rw [hp2, Nat.mul_left_comm, ← hp'] at hrlt
          rw [← hp']
          omega
    · have b' : mm = 0 := by have := of_decide_eq_false b; omega
      subst b'
      rw [Nat.pow_zero, Nat.mul_one] at hrlt
      have hq : x / y = val qs := by
        rw [← hqr, Nat.add_comm, Nat.add_mul_div_right _ _ (by omega), Nat.div_eq_of_lt hrlt, Nat.zero_add]
      have hr : x % y = r := by rw [← hqr, Nat.add_comm, Nat.add_mul_mod_self_right, Nat.mod_eq_of_lt hrlt]
      have u := U32.of_blk (h := H.put g ⟨qs.map lv, 104, (0, 0)⟩) (m := k / 32 + 1) (k := k / 32 + 1) (Heap.put_same _ _ _) hqlt (by omega) (Nat.le_refl _)
      rw [List.take_of_length_le (by omega)] at u
      have hlp : Le H (H.put g ⟨qs.map lv, 104, (0, 0)⟩) := Le.new hgH _
      refine (r1norm_c ⟨_, u, rfl⟩ (by omega)).mono ?_
      rintro _ h9 ⟨A9, n9, c9, rfl, _, hN9, hl9⟩
      refine ⟨_, _, _, rfl, _, _, _, _, _, _, rfl, by rw [hq]; exact hN9, by rw [hr]; exact (hNr.mono hlp).mono hl9, (hleH.trans hlp).trans hl9⟩

theorem r1gcd_c {h : Heap} {A B : Option Addr} {n c m d x y : Nat} (ux : IsN h A n c x) (uy : IsN h B m d y) (hn : n ≤ 1073741824) (hm : m ≤ 1073741824) :
    CallsU Tryz.prog 129 [.slice A n c, .slice B m d] h fun r h' => ∃ A' k c', r = .slice A' k c' ∧ NmN h' A' k c' (Nat.gcd x y) ∧ k ≤ max n m ∧ Le h h' := by
  apply ref01_Gcd_ok
  refine (r1norm_c ux (by omega)).mono ?_
  rintro _ h1 ⟨A1, n1, c1, rfl, hn1, nx, hl1⟩
  refine ⟨_, _, _, rfl, (r1norm_c (uy.mono hl1) (by omega)).mono ?_⟩
  rintro _ h2 ⟨A2, n2, c2, rfl, hn2, ny, hl2⟩
  refine ⟨_, _, _, rfl, fun v aA an ac bA bn bc h' => ∃ u, NmN h' aA an ac u ∧ NmN h' bA bn bc v ∧ Nat.gcd u v = Nat.gcd x y ∧ an ≤ max n m ∧ bn ≤ max n m ∧ Le h h', ⟨y, x, nx.mono hl2, ny, rfl, by omega, by omega, hl1.trans hl2⟩, ?_⟩
  rintro v aA an ac bA bn bc h' ⟨u, nu, nv, hg, ha, hb, hl⟩
  have hz := NmN.zero_iff nv
  refine Br.mk (fun q => ?_) (fun q => ?_)
  · have hv : v ≠ 0 := by have := of_decide_eq_true q; omega
    refine (r1divmod_c nu.is nv.is (by omega) (by omega) hv).mono ?_
    rintro _ h4 ⟨A3, n3, c3, A4, n4, c4, rfl, _, hN, hl'⟩
    have hlt : u % v < v := Nat.mod_lt _ (by omega)
    refine ⟨_, _, _, _, _, _, _, rfl, u % v, hlt, v, nv.mono hl', hN, ?_, hb, ?_, hl.trans hl'⟩
    · rw [← hg, Nat.gcd_comm v, Nat.gcd_comm u, ← Nat.gcd_rec]
    · have := NmN.le_of hN (nv.sz.le (Nat.le_of_lt hlt)); omega
  · have hv : v = 0 := by have := of_decide_eq_false q; omega
    subst hv
    rw [Nat.gcd_zero_right] at hg
    subst hg
    exact ⟨_, _, _, rfl, nu, ha, hl⟩
end Go.Proofs.YtdpdaphholileaaGreatDoor

/-
  Contracts: reference 02: make1, Norm, Add, Mul; reference 03: reduce, Zero, Norm, Add, limbs, SameInt, Same.
-/
namespace Go.Proofs.YtdpdaphholileaaGreatDoor
open Go Go.Vcg
attribute [local irreducible] Br

theorem make1_c {h : Heap} {s : Bool} {A : Option Addr} {n c : Nat} {z : Int} (u : IsI h s A n c z) (hn : n ≤ 1099511627776) :
    CallsU Tryz.prog 125 [.bool s, .slice A n c] h fun r h' => ∃ s' A' k c', r = .agg #[.bool s', .slice A' k c'] ∧ NmI h' s' A' k c' z ∧ k ≤ n ∧ Le h h' := by
  apply ref02_make1_ok
  obtain ⟨v, uv, ez⟩ := u
  have ev : z.natAbs = v := by subst ez; cases s <;> simp
  refine (r1norm_c uv (by omega)).mono ?_
  rintro _ h1 ⟨A', k, c', rfl, hk, hN, hl⟩
  have hz := NmN.zero_iff hN
  rw [← ev] at hN
  refine ⟨_, _, _, rfl, Br.mk (fun q => ?_) (fun q => ?_)⟩
  · subst q
    refine ⟨_, _, _, _, rfl, ⟨hN, ?_⟩, hk, hl⟩
    simp only [if_true] at ez
    apply decide_eq_decide.2
    omega
  · subst q
    refine ⟨_, _, _, _, rfl, ⟨hN, ?_⟩, hk, hl⟩
    simp only [Bool.false_eq_true, if_false] at ez
    symm
    apply decide_eq_false
    omega

theorem r2norm_c {h : Heap} {s : Bool} {A : Option Addr} {n c : Nat} {z : Int} (u : IsI h s A n c z) (hn : n ≤ 1099511627776) :
    CallsU Tryz.prog 123 [.agg #[.bool s, .slice A n c]] h fun r h' => ∃ s' A' k c', r = .agg #[.bool s', .slice A' k c'] ∧ NmI h' s' A' k c' z ∧ k ≤ n ∧ Le h h' := by
  apply ref02_Norm_ok
  refine (make1_c u hn).mono ?_
  rintro _ _ ⟨s', A', k, c', rfl, r⟩
  exact ⟨_, _, _, _, rfl, _, _, _, _, rfl, r⟩

theorem r2mul_c {h : Heap} {s s2 : Bool} {A B : Option Addr} {n c m d : Nat} {z w : Int} (u : IsI h s A n c z) (v : IsI h s2 B m d w) (hn : n ≤ 549755813888) (hm : m ≤ 549755813888) :
    CallsU Tryz.prog 76 [.agg #[.bool s, .slice A n c], .agg #[.bool s2, .slice B m d]] h fun r h' => ∃ s' A' k c', r = .agg #[.bool s', .slice A' k c'] ∧ NmI h' s' A' k c' (z * w) ∧ k ≤ n + m ∧ Le h h' := by
  apply ref02_Mul_ok
  obtain ⟨x, ux, rfl⟩ := u
  obtain ⟨y, uy, rfl⟩ := v
  refine (r1mul_c ux uy (by omega) (by omega)).mono ?_
  rintro _ h1 ⟨A', k, c', rfl, hN, hl⟩
  have hk := NmN.le_of hN (ux.sz.mul uy.sz)
  refine ⟨_, _, _, rfl, (by first | assumption | exact Le.refl _), (make1_c ⟨_, hN.is, rfl⟩ (by omega)).mono ?_⟩
  rintro _ _ ⟨s', A', k, c', rfl, r, hk', hl'⟩
  exact ⟨_, _, _, _, rfl, _, _, _, _, rfl, by rw [mul_sign]; exact r, by omega, hl.trans hl'⟩

/-! ### ratios -/
theorem r3reduce_c {h : Heap} {s : Bool} {A B : Option Addr} {n c m d : Nat} {z : Int} {v : Nat} (u : IsI h s A n c z) (w : IsN h B m d v) (hv : v ≠ 0) (hn : n ≤ 1073741824) (hm : m ≤ 1073741824) :
    CallsU Tryz.prog 79 [.bool s, .slice A n c, .slice B m d] h fun r h' => ∃ s' A' n' c' B' m' d', r = .agg #[.bool s', .slice A' n' c', .slice B' m' d'] ∧ NmQ h' s' A' n' c' B' m' d' (mkRat z v) ∧ n' ≤ n ∧ m' ≤ m ∧ Le h h' := by
  apply ref03_reduce_ok
  have un := u.natAbs
  obtain ⟨e1, e2⟩ := mkRat_num (z := z) hv
  refine (r1gcd_c un w hn hm).mono ?_
  rintro _ h1 ⟨A1, k1, c1, rfl, hN1, hk1, hl1⟩
  have hg : Nat.gcd z.natAbs v ≠ 0 := by have := Nat.gcd_pos_of_pos_right z.natAbs (show 0 < v by omega); omega
  refine ⟨_, _, _, rfl, (r1divmod_c (un.mono hl1) hN1.is hn (by omega) hg).mono ?_⟩
  rintro _ h2 ⟨A2, k2, c2, A3, k3, c3, rfl, hN2, _, hl2⟩
  refine ⟨_, _, _, _, _, _, _, rfl, (r1divmod_c (w.mono (hl1.trans hl2)) (hN1.mono hl2).is hm (by omega) hg).mono ?_⟩
  rintro _ h3 ⟨A4, k4, c4, A5, k5, c5, rfl, hN4, _, hl3⟩
  have hk2 := NmN.le_of hN2 (un.sz.le (Nat.div_le_self _ _))
  have hk4 := NmN.le_of hN4 (w.sz.le (Nat.div_le_self _ _))
  have hI : IsI h3 s A2 k2 c2 (mkRat z v).num := by
    refine ⟨_, (hN2.mono hl3).is, ?_⟩
    rw [← e1]
    have hs := mkRat_sign (z := z) hv
    obtain ⟨x, _, ez⟩ := u
    have : (mkRat z v).num = 0 ↔ z = 0 := by rw [Rat.num_eq_zero]; exact Rat.mkRat_eq_zero hv
    cases s <;> simp at ez ⊢ <;> omega
  refine ⟨_, _, _, _, _, _, _, rfl, (r2norm_c hI (by omega)).mono ?_⟩
  rintro _ h4 ⟨s', A6, k6, c6, rfl, hN6, hk6, hl4⟩
  refine ⟨_, _, _, _, rfl, _, _, _, _, _, _, _, rfl, ⟨hN6, ?_⟩, by omega, hk4, ((hl1.trans hl2).trans hl3).trans hl4⟩
  rw [e2]
  exact hN4.mono hl4

theorem r3zero_c {h : Heap} {s : Bool} {A B : Option Addr} {n c m d : Nat} {z : Int} {v : Nat} (u : IsI h s A n c z) (w : IsN h B m d v) (hn : n ≤ 1099511627776) (hm : m ≤ 1099511627776) :
    CallsU Tryz.prog 77 [.agg #[.bool s, .slice A n c, .slice B m d]] h fun r h' => r = .bool (decide (z = 0 ∨ v = 0)) ∧ Le h h' := by
  apply ref03_Zero_ok
  refine (r1norm_c u.natAbs (by omega)).mono ?_
  rintro _ h1 ⟨A1, k1, c1, rfl, _, hN1, hl1⟩
  have hz1 := NmN.zero_iff hN1
  refine ⟨_, _, _, rfl, Br.mk (fun q => ?_) (fun q => ?_)⟩
  · have q' : k1 = 0 := by have := beq_iff_eq.1 q; omega
    have := hz1.1 q'
    rw [decide_eq_true (Or.inl (by omega))]
    exact ⟨rfl, hl1⟩
  · have q' : k1 ≠ 0 := by have := beq_eq_false_iff_ne.1 q; omega
    refine (r1norm_c (w.mono hl1) (by omega)).mono ?_
    rintro _ h2 ⟨A2, k2, c2, rfl, _, hN2, hl2⟩
    have hz2 := NmN.zero_iff hN2
    refine ⟨_, _, _, rfl, ?_, hl1.trans hl2⟩
    congr 1
    rw [Bool.eq_iff_iff, beq_iff_eq, decide_eq_true_eq]
    omega

theorem r3norm_c {h : Heap} {s : Bool} {A B : Option Addr} {n c m d : Nat} {q : Rat} (u : IsQ h s A n c B m d q) (hn : n ≤ 1073741824) (hm : m ≤ 1073741824) :
    CallsU Tryz.prog 48 [.agg #[.bool s, .slice A n c, .slice B m d]] h fun r h' => ∃ s' A' n' c' B' m' d', r = .agg #[.bool s', .slice A' n' c', .slice B' m' d'] ∧ NmQ h' s' A' n' c' B' m' d' q ∧ n' ≤ max n 2 ∧ m' ≤ max m 2 ∧ Le h h' := by
  apply ref03_Norm_ok
  obtain ⟨z, v, uz, uv, rfl⟩ := u
  refine (r3zero_c uz uv (by omega) (by omega)).mono ?_
  rintro _ h1 ⟨rfl, hl1⟩
  refine ⟨_, rfl, Br.mk (fun b => ?_) (fun b => ?_)⟩
  · have b' := of_decide_eq_true b
    refine (whole_c 0 (by omega) (by omega) h1).mono ?_
    rintro _ h2 ⟨s2, A2, n2, c2, B2, m2, d2, rfl, hN, hn2, hm2, hl2⟩
    have e : mkRat z v = ((0 : Int) : Rat) := by
      rcases b' with e | e
      · rw [e]; simp
      · rw [e]; simp
    rw [← e] at hN
    exact ⟨_, _, _, _, _, _, _, rfl, _, _, _, _, _, _, _, rfl, hN, by omega, by omega, hl1.trans hl2⟩
  · have b' := of_decide_eq_false b
    refine (r3reduce_c (uz.mono hl1) (uv.mono hl1) (fun e => b' (Or.inr e)) hn hm).mono ?_
    rintro _ h2 ⟨s2, A2, n2, c2, B2, m2, d2, rfl, hN, hn2, hm2, hl2⟩
    exact ⟨_, _, _, _, _, _, _, rfl, _, _, _, _, _, _, _, rfl, hN, by omega, by omega, hl1.trans hl2⟩

/-! ### equality field by field -/
end Go.Proofs.YtdpdaphholileaaGreatDoor

/-
  Contracts: measure: number, Parse.
-/
namespace Go.Proofs.YtdpdaphholileaaGreatDoor
open Go Go.Vcg
attribute [local irreducible] Br

/-- A ratio and whether it is one. -/
def RatN (o : Option Rat) (v : Value) (h' : Heap) : Prop :=
  ∃ s A n c B m d, v = .tuple #[.agg #[.bool s, .slice A n c, .slice B m d], .bool o.isSome] ∧ ∀ q, o = some q → NmQ h' s A n c B m d q ∧ n ≤ 32 ∧ m ≤ 32

theorem RatN.none (h' : Heap) : RatN none (.tuple #[.agg #[.bool false, .slice Option.none 0 0, .slice Option.none 0 0], .bool false]) h' := ⟨_, _, _, _, _, _, _, rfl, fun _ e => by cases e⟩

end Go.Proofs.YtdpdaphholileaaGreatDoor

/-
  Plain laws: rounding; units, signs and sums in texts.
-/
namespace Go.Proofs.YtdpdaphholileaaGreatDoor
open Go Go.Vcg

/-! ### rounding -/
/-! ### laws of texts -/
end Go.Proofs.YtdpdaphholileaaGreatDoor

/-
  Contracts: ratio.Round; measure: Units, Format.
-/
namespace Go.Proofs.YtdpdaphholileaaGreatDoor
open Go Go.Vcg
attribute [local irreducible] Br

end Go.Proofs.YtdpdaphholileaaGreatDoor

/-
  Contracts of the references 02 and 03: Neg, Small; Of, Mul, Div, Neg, Sign, Sub, Floor, Round, Light.
-/
namespace Go.Proofs.YtdpdaphholileaaGreatDoor
open Go Go.Vcg
attribute [local irreducible] Br

theorem r2small_c {h : Heap} {s : Bool} {A : Option Addr} {n c : Nat} {z : Int} (u : IsI h s A n c z) (hn : n ≤ 1099511627776) :
    CallsU Tryz.prog 138 [.agg #[.bool s, .slice A n c]] h fun r h' => r = .tuple #[.int .i64 (if fitsZ z then z else 0), .bool (fitsZ z)] ∧ Le h h' := by
  apply ref02_Small_ok
  refine (r2norm_c u hn).mono ?_
  rintro _ h1 ⟨s1, A1, k1, c1, rfl, ⟨hN, hs⟩, hk1, hl1⟩
  have hB : B32 = 4294967296 := rfl
  have hsz := NmN.sz hN
  refine ⟨_, _, _, _, rfl, Br.mk (fun q => ?_) (fun q => ?_)⟩
  · have q' := of_decide_eq_true q
    have hbig : ¬ z.natAbs < B32 ^ 2 := fun hlt => by have := NmN.len_le hN hlt; omega
    have hf : fitsZ z = false := decide_eq_false (by rw [hB] at hbig; omega)
    rw [hf]
    exact ⟨rfl, hl1⟩
  · have q' := of_decide_eq_false q
    have hz64 : z.natAbs < 18446744073709551616 := by
      have := hsz.mono (show k1 ≤ 2 by omega)
      unfold Sz at this
      rw [hB] at this
      omega
    obtain ⟨xs, a, ez, _⟩ := hN
    have la := a.len
    rintro _ rfl
    rw [wrap_i64 (by omega) (by omega)]
    refine ⟨fun m nn i h' => m ≤ k1 ∧ i = (m : Int) - 1 ∧ nn = ((val (xs.drop m) : Nat) : Int) ∧ h1 = h', ⟨k1, by omega, rfl, by rw [List.drop_of_length_le (by omega)]; rfl, rfl⟩, ?_⟩
    rintro m _ _ _ ⟨hm, rfl, rfl, rfl⟩
    have hval : val xs = z.natAbs := ez
    have hdl : val (xs.drop m) * B32 ^ m ≤ val xs := by
      have := val_split (xs := xs) (k := m) (by omega)
      rw [Nat.mul_comm]
      omega
    refine Br.mk (fun q2 => ?_) (fun q2 => ?_)
    · have hm1 : 1 ≤ m := by have := of_decide_eq_true q2; omega
      obtain ⟨k, rfl⟩ : ∃ k, m = k + 1 := ⟨m - 1, by omega⟩
      have e1 : ((k + 1 : Nat) : Int) - 1 = (k : Int) := by omega
      rw [e1]
      simp only [Int.toNat_natCast]
      obtain ⟨ad, hA, hld⟩ := a.get (i := k) (by omega)
      have hx := a.getD_lt k
      have hvd := val_drop_cons (xs := xs) (k := k) (by omega)
      have hb : val (xs.drop k) < 18446744073709551616 := by
        have := val_split (xs := xs) (k := k) (by omega)
        have hp : 1 ≤ B32 ^ k := Nat.pow_pos (by decide)
        have : val (xs.drop k) ≤ B32 ^ k * val (xs.drop k) := Nat.le_mul_of_pos_left _ hp
        omega
      rintro _ rfl
      refine ⟨ad, hA, by omega, by omega, _, hld, ?_⟩
      rintro _ rfl _ rfl
      refine ⟨k, by omega, by omega, wrap_i64 (by omega) (by omega), ?_, by first | rfl | trivial⟩
      have hvd' : val (xs.drop k) = xs.getD k 0 + 4294967296 * val (xs.drop (k + 1)) := hvd
      have w1 : IntKind.u64.wrap (((val (xs.drop (k + 1)) : Nat) : Int) * 4294967296) = ((val (xs.drop (k + 1)) * 4294967296 : Nat) : Int) := wu (by omega) (by omega)
      rw [wu (n := xs.getD k 0) rfl (by omega), w1]
      exact wu (n := val (xs.drop k)) (by omega) hb
    · have hm0 : m = 0 := by have := of_decide_eq_false q2; omega
      subst hm0
      rw [List.drop_zero, hval]
      have key : ∀ C : Heap → Prop, (¬ (s1 = true ∧ (z.natAbs : Int) ≤ 9223372036854775808) → C h1) → (∀ t : Int, t = z → s1 = true → (z.natAbs : Int) ≤ 9223372036854775808 → (Value.tuple #[Value.int .i64 t, Value.bool true] = .tuple #[.int .i64 (if fitsZ z then z else 0), .bool (fitsZ z)] ∧ Le h h1)) := by
        intro C _ t et hs1 hle
        subst et
        have hz : t < 0 := by rw [hs] at hs1; simpa using hs1
        have hf : fitsZ t = true := decide_eq_true (by omega)
        rw [hf]
        exact ⟨by simp, hl1⟩
      refine ⟨fun h' => h1 = h' ∧ ¬ (s1 = true ∧ (z.natAbs : Int) ≤ 9223372036854775808), ?_, Br.mk (fun q3 => Br.mk (fun q4 => ?_) (fun q4 => ⟨rfl, fun q5 => of_decide_eq_false q4 q5.2⟩)) (fun q3 => ⟨rfl, fun q5 => by rw [q3] at q5; exact Bool.noConfusion q5.1⟩)⟩
      · rintro _ ⟨rfl, hno⟩
        refine Br.mk (fun q3 => Br.mk (fun q4 => ?_) (fun q4 => ?_)) (fun q3 => ?_)
        · have hz : 0 ≤ z := by rw [hs] at q3; simp at q3; exact q3
          have q4' := of_decide_eq_true q4
          have hf : fitsZ z = true := decide_eq_true (by omega)
          have e : IntKind.i64.wrap (z.natAbs : Int) = z := by rw [IntKind.wrap_i64]; omega
          rw [hf, e, if_pos rfl]
          exact ⟨rfl, hl1⟩
        · have hz : 0 ≤ z := by rw [hs] at q3; simp at q3; exact q3
          have q4' := of_decide_eq_false q4
          have hf : fitsZ z = false := decide_eq_false (by omega)
          rw [hf]
          exact ⟨rfl, hl1⟩
        · have hs1 : s1 = true := by simpa using q3
          have hz : z < 0 := by rw [hs] at hs1; simpa using hs1
          have hf : fitsZ z = false := decide_eq_false (fun q => hno ⟨hs1, by omega⟩)
          rw [hf]
          exact ⟨rfl, hl1⟩
      · have q4' := of_decide_eq_true q4
        have hz : z < 0 := by rw [hs] at q3; simpa using q3
        rintro _ rfl _ rfl _ rfl
        refine key (fun _ => True) (fun _ => trivial) _ ?_ q3 q4'
        rw [IntKind.wrap_u64, IntKind.wrap_i64, IntKind.wrap_i64, IntKind.wrap_i64]
        omega

theorem r3of_c (z w : Int) (hz1 : -9223372036854775808 ≤ z) (hz2 : z < 9223372036854775808) (hw1 : -9223372036854775808 ≤ w) (hw2 : w < 9223372036854775808) (hw : w ≠ 0) (h : Heap) :
    CallsU Tryz.prog 63 [.int .i64 z, .int .i64 w] h fun r h' => ∃ s' A' n' c' B' m' d', r = .tuple #[.agg #[.bool s', .slice A' n' c', .slice B' m' d'], .bool true] ∧ NmQ h' s' A' n' c' B' m' d' ((z : Rat) / (w : Rat)) ∧ n' ≤ 2 ∧ m' ≤ 2 ∧ Le h h' := by
  apply ref03_Of_ok
  refine Br.mk (fun q => by simp at q; omega) (fun _ => ?_)
  refine (r2of_c z hz1 hz2 h).mono ?_
  rintro _ h1 ⟨s1, A1, k1, c1, rfl, n1, hk1, hl1⟩
  refine ⟨_, _, _, _, rfl, (r2of_c w hw1 hw2 h1).mono ?_⟩
  rintro _ h2 ⟨s2, A2, k2, c2, rfl, n2, hk2, hl2⟩
  have e1 := n1.2
  have e2 := n2.2
  have hI : IsI h2 (!(s1 == s2)) A1 k1 c1 (if w < 0 then -z else z) := by
    refine ⟨_, (n1.mono hl2).1.is, ?_⟩
    rw [e1, e2]
    by_cases a : z < 0 <;> by_cases b : w < 0 <;> simp [a, b] <;> omega
  refine ⟨_, _, _, _, rfl, (r3reduce_c hI n2.1.is (by omega) (by omega) (by omega)).mono ?_⟩
  rintro _ h3 ⟨s3, A3, n3, c3, B3, m3, d3, rfl, hN, hn3, hm3, hl3⟩
  have e : mkRat (if w < 0 then -z else z) w.natAbs = (z : Rat) / (w : Rat) := by
    rw [Rat.mkRat_eq_div]
    by_cases b : w < 0
    · simp only [b, if_true]
      have : ((w.natAbs : Nat) : Rat) = -(w : Rat) := by rw [← Rat.intCast_natCast, ← Rat.intCast_neg]; congr 1; omega
      rw [this, Rat.intCast_neg]
      grind
    · simp only [b, if_false]
      have : ((w.natAbs : Nat) : Rat) = (w : Rat) := by rw [← Rat.intCast_natCast]; congr 1; omega
      rw [this]
  rw [e] at hN
  exact ⟨_, _, _, _, _, _, _, rfl, _, _, _, _, _, _, _, rfl, hN, by omega, by omega, (hl1.trans hl2).trans hl3⟩

theorem r3mul_c {h : Heap} {s s2 : Bool} {A B C D : Option Addr} {n c m d n2 c2 m2 d2 : Nat} {q p : Rat} (u : IsQ h s A n c B m d q) (w : IsQ h s2 C n2 c2 D m2 d2 p) (hn : n ≤ 134217728) (hm : m ≤ 134217728) (hn2 : n2 ≤ 134217728) (hm2 : m2 ≤ 134217728) :
    CallsU Tryz.prog 137 [.agg #[.bool s, .slice A n c, .slice B m d], .agg #[.bool s2, .slice C n2 c2, .slice D m2 d2]] h fun r h' => ∃ s' A' n' c' B' m' d', r = .agg #[.bool s', .slice A' n' c', .slice B' m' d'] ∧ NmQ h' s' A' n' c' B' m' d' (q * p) ∧ n' ≤ max n 2 + max n2 2 ∧ m' ≤ max m 2 + max m2 2 ∧ Le h h' := by
  apply ref03_Mul_ok
  refine (r3norm_c u (by omega) (by omega)).mono ?_
  rintro _ h1 ⟨s1, A1, n1, c1, B1, m1, d1, rfl, nq, hn1, hm1, hl1⟩
  refine ⟨_, _, _, _, _, _, _, rfl, hl1, (r3norm_c (w.mono hl1) (by omega) (by omega)).mono ?_⟩
  rintro _ h2 ⟨s3, A3, n3, c3, B3, m3, d3, rfl, np, hn3, hm3, hl2⟩
  have nq2 := nq.mono hl2
  refine ⟨_, _, _, _, _, _, _, rfl, (r1mul_c nq2.1.1.is np.1.1.is (by omega) (by omega)).mono ?_⟩
  rintro _ h3 ⟨A4, k4, c4, rfl, hN4, hl3⟩
  have hk4 := NmN.le_of hN4 (nq2.1.1.sz.mul np.1.1.sz)
  refine ⟨_, _, _, rfl, hl3, (r1mul_c (nq2.2.mono hl3).is (np.2.mono hl3).is (by omega) (by omega)).mono ?_⟩
  rintro _ h4 ⟨A5, k5, c5, rfl, hN5, hl4⟩
  have hk5 := NmN.le_of hN5 (nq2.2.sz.mul np.2.sz)
  have hI : IsI h4 (!(s1 == s3)) A4 k4 c4 (q.num * p.num) := by
    refine ⟨_, (hN4.mono hl4).is, ?_⟩
    rw [← mul_sign]
    have e1 := nq.1.2
    have e2 := np.1.2
    have a1 : (if s1 then -(q.num.natAbs : Int) else (q.num.natAbs : Int)) = q.num := by rw [e1]; by_cases hz : q.num < 0 <;> simp [hz] <;> omega
    have a2 : (if s3 then -(p.num.natAbs : Int) else (p.num.natAbs : Int)) = p.num := by rw [e2]; by_cases hz : p.num < 0 <;> simp [hz] <;> omega
    rw [a1, a2]
  refine ⟨_, _, _, rfl, hl4, (r3reduce_c hI hN5.is (Nat.mul_ne_zero q.den_nz p.den_nz) (by omega) (by omega)).mono ?_⟩
  rintro _ h5 ⟨s8, A8, n8, c8, B8, m8, d8, rfl, hN8, b1, b2, hl5⟩
  rw [← Rat.mkRat_mul_mkRat, Rat.mkRat_self, Rat.mkRat_self] at hN8
  exact ⟨_, _, _, _, _, _, _, rfl, _, _, _, _, _, _, _, rfl, hN8, by omega, by omega, (((hl1.trans hl2).trans hl3).trans hl4).trans hl5⟩

end Go.Proofs.YtdpdaphholileaaGreatDoor

/-
  law17: part, awake.
-/
namespace Go.Proofs.YtdpdaphholileaaGreatDoor
open Go Go.Vcg Go.RowKit Go.Sort
attribute [local irreducible] Br

theorem part_c (z w : Int) (hz1 : -9223372036854775808 ≤ z) (hz2 : z < 9223372036854775808) (hw1 : -9223372036854775808 ≤ w) (hw2 : w < 9223372036854775808) (hw : w ≠ 0) (h : Heap) :
    CallsU Tryz.prog 33 [.int .i64 z, .int .i64 w] h fun r h' => ∃ s' A' n' c' B' m' d', r = .agg #[.bool s', .slice A' n' c', .slice B' m' d'] ∧ NmQ h' s' A' n' c' B' m' d' ((z : Rat) / (w : Rat)) ∧ n' ≤ 2 ∧ m' ≤ 2 ∧ Le h h' := by
  apply law17_part_ok
  refine (r3of_c z w hz1 hz2 hw1 hw2 hw h).mono ?_
  rintro _ h1 ⟨s, A, n, c, B, m, d, rfl, hN, a, b, hl⟩
  exact ⟨_, _, _, _, _, _, _, _, rfl, _, _, _, _, _, _, _, rfl, hN, a, b, hl⟩

def gx (o : Except Int Ex) : Ex := match o with | .ok x => x | .error _ => .mk 0 0 0 0 [] []
def oks (o : Except Int Ex) : Bool := match o with | .ok _ => true | .error _ => false
theorem gx_ok {o : Except Int Ex} (h : oks o = true) : o = .ok (gx o) := by
  cases o with
  | ok x => rfl
  | error e => cases h
def ere (o : Except Int Ex) (k : Int) : Bool := match o with | .ok _ => false | .error e => e == k
theorem ere_ok {o : Except Int Ex} {k : Int} (h : ere o k = true) : o = .error k := by
  cases o with
  | ok x => cases h
  | error e => rw [eq_of_beq h]
def fuelB (s : List UInt8) : Bool := match pSum 4000 s with | .error e => e != 99 | .ok _ => true
theorem fuel_ok {s : List UInt8} (h : fuelB s = true) : pSum 4000 s ≠ .error 99 := by
  intro q
  unfold fuelB at h
  rw [q] at h
  cases h
def prB (o : Except Int (List UInt8)) (t : List UInt8) : Bool := match o with | .ok x => x == t | .error _ => false
theorem prB_ok {o : Except Int (List UInt8)} {t : List UInt8} (h : prB o t = true) : o = .ok t := by
  cases o with
  | ok x => rw [eq_of_beq h]
  | error e => cases h
def evB (o : Except Int Rat) (t : Rat) : Bool := match o with | .ok x => x == t | .error _ => false
theorem evB_ok {o : Except Int Rat} {t : Rat} (h : evB o t = true) : o = .ok t := by
  cases o with
  | ok x => rw [eq_of_beq h]
  | error e => cases h
def evE (o : Except Int Rat) (k : Int) : Bool := match o with | .ok _ => false | .error e => e == k
theorem evE_ok {o : Except Int Rat} {k : Int} (h : evE o k = true) : o = .error k := by
  cases o with
  | ok x => cases h
  | error e => rw [eq_of_beq h]

abbrev aw1 : List UInt8 := [97, 43, 50, 42, 98, 45, 49, 46, 53, 48]
abbrev aw2 : List UInt8 := [49, 32, 43]
abbrev aw3 : List UInt8 := [48, 48, 55]
abbrev aw4 : List UInt8 := [97, 32, 47, 32, 98, 32, 45, 32, 109, 97, 120, 40, 97, 44, 32, 52, 41]
abbrev aw5 : List UInt8 := [97, 47, 40, 98, 45, 48, 46, 53, 41]
abbrev awT : List UInt8 := [97, 32, 43, 32, 50, 32, 42, 32, 98, 32, 45, 32, 49, 46, 53]
def exA : Ex := gx (foParseV aw1)
def exX : Ex := gx (foParseV aw4)
def exY : Ex := gx (foParseV aw5)
theorem aw_f1 : fuelB aw1 = true := by decide +kernel
theorem aw_f2 : fuelB aw2 = true := by decide +kernel
theorem aw_f3 : fuelB aw3 = true := by decide +kernel
theorem aw_f4 : fuelB aw4 = true := by decide +kernel
theorem aw_f5 : fuelB aw5 = true := by decide +kernel
theorem aw_p1 : oks (foParseV aw1) = true := by decide +kernel
theorem aw_p2 : ere (foParseV aw2) 4 = true := by decide +kernel
theorem aw_p3 : ere (foParseV aw3) 2 = true := by decide +kernel
theorem aw_p4 : oks (foParseV aw4) = true := by decide +kernel
theorem aw_p5 : oks (foParseV aw5) = true := by decide +kernel
theorem aw_pr : prB (prV exA) awT = true := by decide +kernel
theorem aw_k : exA.kind = 4 := by decide +kernel
theorem aw_c : chkV exA 1 = 0 := by decide +kernel
theorem aw_c0 : chkV (.mk 0 0 0 0 [] []) 1 = 1 := by decide +kernel
abbrev awM (a b c d e f : Nat) : List Meas := [⟨[97], 3, a, b⟩, ⟨[98], 1/2, c, d⟩, ⟨[97], 9, e, f⟩]
theorem aw_lk : ∀ (a b c d e f : Nat) (nm : List UInt8), lookV (awM a b c d e f) nm = lookV (awM 0 0 0 0 0 0) nm := by
  intro a b c d e f nm
  unfold lookV
  simp only [List.find?_cons, List.find?_nil]
  cases ([97] == nm) <;> cases ([98] == nm) <;> rfl
mutual
theorem evV_lk {ms ms' : List Meas} (h : ∀ nm, lookV ms nm = lookV ms' nm) : ∀ e : Ex, evV ms e = evV ms' e
  | .mk k q n m nm kids => by
    rw [evV, evV, evL_lk h kids]
    have : ∀ vs, apV ms k q nm vs = apV ms' k q nm vs := fun vs => by unfold apV; rw [h]
    simp only [this]
theorem evL_lk {ms ms' : List Meas} (h : ∀ nm, lookV ms nm = lookV ms' nm) : ∀ es : List Ex, evL ms es = evL ms' es
  | [] => by rw [evL, evL]
  | e :: es => by rw [evL, evL, evV_lk h e, evL_lk h es]
end
theorem evalV_lk {ms ms' : List Meas} (h : ∀ nm, lookV ms nm = lookV ms' nm) (e : Ex) : evalV ms e = evalV ms' e := by
  unfold evalV; rw [evV_lk h e]
theorem aw_e1 : evB (evalV (awM 0 0 0 0 0 0) exX) 2 = true := by decide +kernel
theorem aw_e2 : evE (evalV (awM 0 0 0 0 0 0) exY) 10 = true := by decide +kernel
theorem aw_n0 : namesE exX = [[97], [98], [97]] := by decide +kernel
theorem aw_n : namesV exX = [[97], [98]] := by
  have hs : sortS [[97], [98], [97]] = [[97], [97], [98]] := by
    refine sortS_eq (by decide) ?_
    simp only [List.pairwise_cons, List.mem_cons, List.not_mem_nil, or_false, forall_eq_or_imp, forall_eq, List.Pairwise.nil, and_true, false_implies, implies_true]
    decide +kernel
  unfold namesV
  rw [aw_n0, hs]
  decide +kernel

theorem awake_c {h : Heap} (tb : Tab h) : CallsU Tryz.prog 12 [] h fun r h' => r = .bool true ∧ Le h h' := by
  apply law17_awake_ok
  refine (foParse_c (s := aw1) (fuel_ok aw_f1) h).mono ?_
  intro v1 h1 hP
  rw [gx_ok aw_p1] at hP
  obtain ⟨hl1, vs1, rfl, u1, z1, c1⟩ := hP
  have u1' := u1
  obtain ⟨_, _, _, _, _, _, _, rfl, _, _, _⟩ := u1'.open
  refine ⟨_, _, _, _, _, _, _, _, _, _, _, _, _, rfl, ?_⟩
  refine (foPrint_c u1 z1 (tb.mono hl1)).mono ?_
  rintro _ h2 ⟨rfl, hl2⟩
  rw [show prV (gx (foParseV aw1)) = .ok awT from prB_ok aw_pr]
  refine ⟨_, _, rfl, ?_⟩
  have l2 := hl1.trans hl2
  refine (foParse_c (s := aw2) (fuel_ok aw_f2) h2).mono ?_
  intro v3 h3 hP
  rw [ere_ok aw_p2] at hP
  obtain ⟨hl3, _, rfl⟩ := hP
  refine ⟨_, _, _, _, _, _, _, _, _, _, _, _, _, rfl, ?_⟩
  refine (foParse_c (s := aw3) (fuel_ok aw_f3) h3).mono ?_
  intro v4 h4 hP
  rw [ere_ok aw_p3] at hP
  obtain ⟨hl4, _, rfl⟩ := hP
  refine ⟨_, _, _, _, _, _, _, _, _, _, _, _, _, rfl, ?_⟩
  refine (foParse_c (s := aw4) (fuel_ok aw_f4) h4).mono ?_
  intro v5 h5 hP
  rw [gx_ok aw_p4] at hP
  obtain ⟨hl5, vs5, rfl, u5, z5, c5⟩ := hP
  have u5' := u5
  obtain ⟨_, _, _, _, _, _, _, rfl, _, _, _⟩ := u5'.open
  refine ⟨_, _, _, _, _, _, _, _, _, _, _, _, _, rfl, ?_⟩
  refine (part_c 3 1 (by omega) (by omega) (by omega) (by omega) (by omega) h5).mono ?_
  rintro _ h6 ⟨s6, A6, n6, c6, B6, m6, d6, rfl, hN6, a6, b6, hl6⟩
  refine ⟨_, _, _, _, _, _, _, rfl, ?_⟩
  refine (part_c 1 2 (by omega) (by omega) (by omega) (by omega) (by omega) h6).mono ?_
  rintro _ h7 ⟨s7, A7, n7, c7, B7, m7, d7, rfl, hN7, a7, b7, hl7⟩
  refine ⟨_, _, _, _, _, _, _, rfl, ?_⟩
  refine (part_c 9 1 (by omega) (by omega) (by omega) (by omega) (by omega) h7).mono ?_
  rintro _ h8 ⟨s8, A8, n8, c8, B8, m8, d8, rfl, hN8, a8, b8, hl8⟩
  refine ⟨_, _, _, _, _, _, _, rfl, ?_⟩
  rintro g _ hg rfl
  rw [show (((3 : Int) : Rat) / ((1 : Int) : Rat)) = 3 by decide +kernel] at hN6
  rw [show (((1 : Int) : Rat) / ((2 : Int) : Rat)) = 1/2 by decide +kernel] at hN7
  rw [show (((9 : Int) : Rat) / ((1 : Int) : Rat)) = 9 by decide +kernel] at hN8
  have env : EnvS (h8.put g ⟨[Value.string (⟨#[97]⟩ : ByteArray), Value.bool s6, Value.slice A6 n6 c6, Value.slice B6 m6 d6, Value.string (⟨#[98]⟩ : ByteArray), Value.bool s7, Value.slice A7 n7 c7, Value.slice B7 m7 d7, Value.string (⟨#[97]⟩ : ByteArray), Value.bool s8, Value.slice A8 n8 c8, Value.slice B8 m8 d8], 56, (0, 0)⟩) (some ⟨g, 0, none⟩) 3 3 (awM n6 m6 n7 m7 n8 m8) := by
    have lg := Le.new hg ⟨[Value.string (⟨#[97]⟩ : ByteArray), Value.bool s6, Value.slice A6 n6 c6, Value.slice B6 m6 d6, Value.string (⟨#[98]⟩ : ByteArray), Value.bool s7, Value.slice A7 n7 c7, Value.slice B7 m7 d7, Value.string (⟨#[97]⟩ : ByteArray), Value.bool s8, Value.slice A8 n8 c8, Value.slice B8 m8 d8], 56, (0, 0)⟩
    refine ⟨rfl, by omega, by simp, fun x hx => ?_, fun _ => ⟨_, _, rfl, rfl, Heap.put_same _ _ _, ⟨_, _, _, _, _, rfl, (hN6.is.mono ((hl7.trans hl8).trans lg))⟩, ⟨_, _, _, _, _, rfl, (hN7.is.mono (hl8.trans lg))⟩, ⟨_, _, _, _, _, rfl, hN8.is.mono lg⟩, trivial⟩⟩
    simp only [List.mem_cons, List.not_mem_nil, or_false] at hx
    rcases hx with rfl | rfl | rfl <;> exact ⟨by simp only; omega, by simp only; omega⟩
  have l59 := ((hl6.trans hl7).trans hl8).trans (Le.new hg ⟨[Value.string (⟨#[97]⟩ : ByteArray), Value.bool s6, Value.slice A6 n6 c6, Value.slice B6 m6 d6, Value.string (⟨#[98]⟩ : ByteArray), Value.bool s7, Value.slice A7 n7 c7, Value.slice B7 m7 d7, Value.string (⟨#[97]⟩ : ByteArray), Value.bool s8, Value.slice A8 n8 c8, Value.slice B8 m8 d8], 56, (0, 0)⟩)
  refine (foEval_c (IsE.mono l59 _ _ u5) z5 env).mono ?_
  rintro v10 h10 ⟨hr10, hl10⟩
  rw [evalV_lk (aw_lk n6 m6 n7 m7 n8 m8), show evalV (awM 0 0 0 0 0 0) (gx (foParseV aw4)) = .ok 2 from evB_ok aw_e1] at hr10
  obtain ⟨s10, A10, n10, c10, B10, m10, d10, rfl, hN10, a10, b10⟩ := hr10
  refine ⟨_, _, _, _, _, _, _, _, rfl, ?_⟩
  refine (foParse_c (s := aw5) (fuel_ok aw_f5) h10).mono ?_
  intro v11 h11 hP
  rw [gx_ok aw_p5] at hP
  obtain ⟨hl11, vs11, rfl, u11, z11, c11⟩ := hP
  have u11' := u11
  obtain ⟨_, _, _, _, _, _, _, rfl, _, _, _⟩ := u11'.open
  refine ⟨_, _, _, _, _, _, _, _, _, _, _, _, _, rfl, ?_⟩
  refine (foEval_c u11 z11 (env.mono (hl10.trans hl11))).mono ?_
  rintro v12 h12 ⟨hr12, hl12⟩
  rw [evalV_lk (aw_lk n6 m6 n7 m7 n8 m8), show evalV (awM 0 0 0 0 0 0) (gx (foParseV aw5)) = .error 10 from evE_ok aw_e2] at hr12
  have hr12' : v12 = Value.tuple #[.agg #[.bool false, .slice none 0 0, .slice none 0 0], .int .i64 10] := hr12
  subst hr12'
  have l512 := ((l59.trans hl10).trans hl11).trans hl12
  have l012 := (((l2.trans hl3).trans hl4).trans hl5).trans l512
  refine ⟨_, _, _, _, _, _, _, _, rfl, fun t h' => t = false ∧ h' = h12, ?_, ?_⟩
  · rintro _ _ ⟨rfl, rfl⟩
    refine Br.mk (fun q => by cases q) (fun _ => ?_)
    have hcnt : (namesE (gx (foParseV aw4))).length ≤ 1000000000 := by
      rw [show namesE (gx (foParseV aw4)) = _ from aw_n0]; decide
    refine (foNames_c (IsE.mono l512 _ _ u5) z5 hcnt).mono ?_
    rintro _ h14 ⟨A14, n14, c14, rfl, hS14, hl14⟩
    rw [show namesV (gx (foParseV aw4)) = _ from aw_n] at hS14
    have hn14 : n14 = 2 := hS14.len.symm
    subst hn14
    obtain ⟨ad0, eA0, hld0⟩ := hS14.get (i := 0) rfl
    obtain ⟨ad1, eA1, hld1⟩ := hS14.get (i := 1) rfl
    refine ⟨_, _, _, rfl, Br.mk (fun _ => ?_) (fun q => by rw [show (gx (foParseV aw1)).kind = 4 from aw_k] at q; exact absurd q (by decide))⟩
    refine Br.mk (fun _ => ⟨ad0, eA0, by omega, by omega, _, hld0, Br.mk (fun _ => ⟨ad1, eA1, by omega, by omega, _, hld1, Br.mk (fun _ => ?_) (fun q => by rw [bytes_toList] at q; exact absurd q (by decide))⟩) (fun q => by rw [bytes_toList] at q; exact absurd q (by decide))⟩) (fun q => by exact absurd q (by decide))
    refine (part_c 2 1 (by omega) (by omega) (by omega) (by omega) (by omega) h14).mono ?_
    rintro _ h15 ⟨s15, A15, n15, c15, B15, m15, d15, rfl, hN15, a15, b15, hl15⟩
    rw [show (((2 : Int) : Rat) / ((1 : Int) : Rat)) = 2 by decide +kernel] at hN15
    refine ⟨_, _, _, _, _, _, _, rfl, hl15, ?_⟩
    refine (rcmp_c (hN10.is.mono (((hl11.trans hl12).trans hl14).trans hl15)) hN15.is (by omega) (by omega) (by omega) (by omega)).mono ?_
    rintro _ h16 ⟨rfl, hl16⟩
    refine ⟨_, rfl, Br.mk (fun _ => ?_) (fun q => by exact absurd q (by decide +kernel))⟩
    have uz : IsE h16 (.mk 0 0 0 0 [] []) zE := by
      unfold IsE
      exact ⟨false, none, 0, none, 0, none, 0, rfl, IsQ.nul _, Nat.le_refl _, fun q => absurd rfl q⟩
    refine (foChk_c uz (by unfold Szs SzsL; exact ⟨by omega, by omega, by simp, by simp, trivial⟩)).mono ?_
    rintro _ h17 ⟨rfl, hl17⟩
    rw [aw_c0]
    refine ⟨_, rfl, Br.mk (fun _ => ?_) (fun q => by exact absurd q (by decide))⟩
    have l117 := ((((((((hl2.trans hl3).trans hl4).trans hl5).trans l512).trans hl14).trans hl15).trans hl16).trans hl17)
    refine (foChk_c (IsE.mono l117 _ _ u1) z1).mono ?_
    rintro _ h18 ⟨rfl, hl18⟩
    rw [show chkV (gx (foParseV aw1)) 1 = 0 from aw_c]
    exact ⟨_, rfl, rfl, (hl1.trans l117).trans hl18⟩
  · refine Br.mk (fun q => by exact absurd q (by decide)) (fun _ => Br.mk (fun q => by exact absurd q (by decide)) (fun _ => Br.mk (fun q => by exact absurd q (by decide)) (fun _ => Br.mk (fun q => by exact absurd q (by decide)) (fun _ => Br.mk (fun q => by exact absurd q (by decide)) (fun _ => Br.mk (fun q => by exact absurd q (by decide)) (fun _ => Br.mk (fun q => by exact absurd q (by decide)) (fun _ => Br.mk (fun q => by exact absurd q (by decide)) (fun _ => ⟨?_, rfl⟩))))))))
    rw [bytes_toList]
    decide
end Go.Proofs.YtdpdaphholileaaGreatDoor
