/- Made by vcgen.py: verification conditions of functions, each held against the calculator by the kernel. -/
import Derived.Test.YtfhipkdcekffaaaGreatDoorVcg4
import Derived.Test.YtfhipkdcekffaaaGreatDoorChecked
namespace Go.Proofs.YtfhipkdcekffaaaGreatDoor
open Go Go.Vcg

def ratio_Cmp_vc (a_0 : Bool) (a_1A : Option Addr) (a_1n a_1c : Nat) (a_2A : Option Addr) (a_2n a_2c : Nat) (b_0 : Bool) (b_1A : Option Addr) (b_1n b_1c : Nat) (b_2A : Option Addr) (b_2n b_2c : Nat) (h : Heap) (R : Value → Heap → Prop) : Prop :=
 CallsU Tryz.prog 37 [Value.agg #[Value.bool a_0, Value.slice a_1A a_1n a_1c, Value.slice a_2A a_2n a_2c]] h fun v h_1 =>
 ∃ t6_0 : Bool, ∃ t6_1A : Option Addr, ∃ t6_1n t6_1c : Nat, ∃ t6_2A : Option Addr, ∃ t6_2n t6_2c : Nat, v = Value.agg #[Value.bool t6_0, Value.slice t6_1A t6_1n t6_1c, Value.slice t6_2A t6_2n t6_2c] ∧
 CallsU Tryz.prog 37 [Value.agg #[Value.bool b_0, Value.slice b_1A b_1n b_1c, Value.slice b_2A b_2n b_2c]] h_1 fun v_1 h_2 =>
 ∃ t8_0 : Bool, ∃ t8_1A : Option Addr, ∃ t8_1n t8_1c : Nat, ∃ t8_2A : Option Addr, ∃ t8_2n t8_2c : Nat, v_1 = Value.agg #[Value.bool t8_0, Value.slice t8_1A t8_1n t8_1c, Value.slice t8_2A t8_2n t8_2c] ∧
 CallsU Tryz.prog 40 [Value.slice t8_2A t8_2n t8_2c] h_2 fun v_2 h_3 =>
 ∃ t13_0 : Bool, ∃ t13_1A : Option Addr, ∃ t13_1n t13_1c : Nat, v_2 = Value.agg #[Value.bool t13_0, Value.slice t13_1A t13_1n t13_1c] ∧
 CallsU Tryz.prog 39 [Value.agg #[Value.bool t6_0, Value.slice t6_1A t6_1n t6_1c], Value.agg #[Value.bool t13_0, Value.slice t13_1A t13_1n t13_1c]] h_3 fun v_3 h_4 =>
 ∃ t14_0 : Bool, ∃ t14_1A : Option Addr, ∃ t14_1n t14_1c : Nat, v_3 = Value.agg #[Value.bool t14_0, Value.slice t14_1A t14_1n t14_1c] ∧
 CallsU Tryz.prog 40 [Value.slice t6_2A t6_2n t6_2c] h_4 fun v_4 h_5 =>
 ∃ t19_0 : Bool, ∃ t19_1A : Option Addr, ∃ t19_1n t19_1c : Nat, v_4 = Value.agg #[Value.bool t19_0, Value.slice t19_1A t19_1n t19_1c] ∧
 CallsU Tryz.prog 39 [Value.agg #[Value.bool t8_0, Value.slice t8_1A t8_1n t8_1c], Value.agg #[Value.bool t19_0, Value.slice t19_1A t19_1n t19_1c]] h_5 fun v_5 h_6 =>
 ∃ t20_0 : Bool, ∃ t20_1A : Option Addr, ∃ t20_1n t20_1c : Nat, v_5 = Value.agg #[Value.bool t20_0, Value.slice t20_1A t20_1n t20_1c] ∧
 CallsU Tryz.prog 38 [Value.agg #[Value.bool t14_0, Value.slice t14_1A t14_1n t14_1c], Value.agg #[Value.bool t20_0, Value.slice t20_1A t20_1n t20_1c]] h_6 fun v_6 h_7 =>
 ∃ t21 : Int, v_6 = Value.int .i64 t21 ∧
 R (Value.int .i64 t21) h_7

set_option maxRecDepth 100000 in
theorem ratio_Cmp_ok {a_0 : Bool} {a_1A : Option Addr} {a_1n a_1c : Nat} {a_2A : Option Addr} {a_2n a_2c : Nat} {b_0 : Bool} {b_1A : Option Addr} {b_1n b_1c : Nat} {b_2A : Option Addr} {b_2n b_2c : Nat} {h : Heap} {R : Value → Heap → Prop} (hv : ratio_Cmp_vc a_0 a_1A a_1n a_1c a_2A a_2n a_2c b_0 b_1A b_1n b_1c b_2A b_2n b_2c h R) : CallsU Tryz.prog 16 [Value.agg #[Value.bool a_0, Value.slice a_1A a_1n a_1c, Value.slice a_2A a_2n a_2c], Value.agg #[Value.bool b_0, Value.slice b_1A b_1n b_1c, Value.slice b_2A b_2n b_2c]] h R :=
  fn_sound Tryz.func16 (by kernel_rfl) (by kernel_rfl) (by kernel_rfl) (fun _ => false) (.two .nil (.two (.ord [0, 2, 1, 3, 4, 5]) (.two (.ord [0, 1, 2, 3, 6, 7, 8, 9, 4, 5, 10, 11, 12, 13]) .nil))) [Value.agg #[Value.bool a_0, Value.slice a_1A a_1n a_1c, Value.slice a_2A a_2n a_2c], Value.agg #[Value.bool b_0, Value.slice b_1A b_1n b_1c, Value.slice b_2A b_2n b_2c]] h R (by kernel_rfl)
    (Eq.mp (show ratio_Cmp_vc a_0 a_1A a_1n a_1c a_2A a_2n a_2c b_0 b_1A b_1n b_1c b_2A b_2n b_2c h R = fnV Tryz.prog Tryz.f16 (fun _ => false) (.two .nil (.two (.ord [0, 2, 1, 3, 4, 5]) (.two (.ord [0, 1, 2, 3, 6, 7, 8, 9, 4, 5, 10, 11, 12, 13]) .nil))) [Value.agg #[Value.bool a_0, Value.slice a_1A a_1n a_1c, Value.slice a_2A a_2n a_2c], Value.agg #[Value.bool b_0, Value.slice b_1A b_1n b_1c, Value.slice b_2A b_2n b_2c]] h R by kernel_rfl) hv)

def ratio_Add_vc (a_0 : Bool) (a_1A : Option Addr) (a_1n a_1c : Nat) (a_2A : Option Addr) (a_2n a_2c : Nat) (b_0 : Bool) (b_1A : Option Addr) (b_1n b_1c : Nat) (b_2A : Option Addr) (b_2n b_2c : Nat) (h : Heap) (R : Value → Heap → Prop) : Prop :=
 CallsU Tryz.prog 37 [Value.agg #[Value.bool a_0, Value.slice a_1A a_1n a_1c, Value.slice a_2A a_2n a_2c]] h fun v h_1 =>
 ∃ t7_0 : Bool, ∃ t7_1A : Option Addr, ∃ t7_1n t7_1c : Nat, ∃ t7_2A : Option Addr, ∃ t7_2n t7_2c : Nat, v = Value.agg #[Value.bool t7_0, Value.slice t7_1A t7_1n t7_1c, Value.slice t7_2A t7_2n t7_2c] ∧
 CallsU Tryz.prog 37 [Value.agg #[Value.bool b_0, Value.slice b_1A b_1n b_1c, Value.slice b_2A b_2n b_2c]] h_1 fun v_1 h_2 =>
 ∃ t9_0 : Bool, ∃ t9_1A : Option Addr, ∃ t9_1n t9_1c : Nat, ∃ t9_2A : Option Addr, ∃ t9_2n t9_2c : Nat, v_1 = Value.agg #[Value.bool t9_0, Value.slice t9_1A t9_1n t9_1c, Value.slice t9_2A t9_2n t9_2c] ∧
 CallsU Tryz.prog 40 [Value.slice t9_2A t9_2n t9_2c] h_2 fun v_2 h_3 =>
 ∃ t14_0 : Bool, ∃ t14_1A : Option Addr, ∃ t14_1n t14_1c : Nat, v_2 = Value.agg #[Value.bool t14_0, Value.slice t14_1A t14_1n t14_1c] ∧
 CallsU Tryz.prog 39 [Value.agg #[Value.bool t7_0, Value.slice t7_1A t7_1n t7_1c], Value.agg #[Value.bool t14_0, Value.slice t14_1A t14_1n t14_1c]] h_3 fun v_3 h_4 =>
 ∃ t15_0 : Bool, ∃ t15_1A : Option Addr, ∃ t15_1n t15_1c : Nat, v_3 = Value.agg #[Value.bool t15_0, Value.slice t15_1A t15_1n t15_1c] ∧
 CallsU Tryz.prog 40 [Value.slice t7_2A t7_2n t7_2c] h_4 fun v_4 h_5 =>
 ∃ t20_0 : Bool, ∃ t20_1A : Option Addr, ∃ t20_1n t20_1c : Nat, v_4 = Value.agg #[Value.bool t20_0, Value.slice t20_1A t20_1n t20_1c] ∧
 CallsU Tryz.prog 39 [Value.agg #[Value.bool t9_0, Value.slice t9_1A t9_1n t9_1c], Value.agg #[Value.bool t20_0, Value.slice t20_1A t20_1n t20_1c]] h_5 fun v_5 h_6 =>
 ∃ t21_0 : Bool, ∃ t21_1A : Option Addr, ∃ t21_1n t21_1c : Nat, v_5 = Value.agg #[Value.bool t21_0, Value.slice t21_1A t21_1n t21_1c] ∧
 CallsU Tryz.prog 41 [Value.agg #[Value.bool t15_0, Value.slice t15_1A t15_1n t15_1c], Value.agg #[Value.bool t21_0, Value.slice t21_1A t21_1n t21_1c]] h_6 fun v_6 h_7 =>
 ∃ t22_0 : Bool, ∃ t22_1A : Option Addr, ∃ t22_1n t22_1c : Nat, v_6 = Value.agg #[Value.bool t22_0, Value.slice t22_1A t22_1n t22_1c] ∧
 CallsU Tryz.prog 43 [Value.slice t7_2A t7_2n t7_2c, Value.slice t9_2A t9_2n t9_2c] h_7 fun v_7 h_8 =>
 ∃ t28A : Option Addr, ∃ t28n t28c : Nat, v_7 = Value.slice t28A t28n t28c ∧
 CallsU Tryz.prog 42 [Value.agg #[Value.bool t22_0, Value.slice t22_1A t22_1n t22_1c], Value.slice t28A t28n t28c] h_8 fun v_8 h_9 =>
 ∃ t29_0 : Bool, ∃ t29_1A : Option Addr, ∃ t29_1n t29_1c : Nat, ∃ t29_2A : Option Addr, ∃ t29_2n t29_2c : Nat, v_8 = Value.agg #[Value.bool t29_0, Value.slice t29_1A t29_1n t29_1c, Value.slice t29_2A t29_2n t29_2c] ∧
 R (Value.agg #[Value.bool t29_0, Value.slice t29_1A t29_1n t29_1c, Value.slice t29_2A t29_2n t29_2c]) h_9

set_option maxRecDepth 100000 in
theorem ratio_Add_ok {a_0 : Bool} {a_1A : Option Addr} {a_1n a_1c : Nat} {a_2A : Option Addr} {a_2n a_2c : Nat} {b_0 : Bool} {b_1A : Option Addr} {b_1n b_1c : Nat} {b_2A : Option Addr} {b_2n b_2c : Nat} {h : Heap} {R : Value → Heap → Prop} (hv : ratio_Add_vc a_0 a_1A a_1n a_1c a_2A a_2n a_2c b_0 b_1A b_1n b_1c b_2A b_2n b_2c h R) : CallsU Tryz.prog 17 [Value.agg #[Value.bool a_0, Value.slice a_1A a_1n a_1c, Value.slice a_2A a_2n a_2c], Value.agg #[Value.bool b_0, Value.slice b_1A b_1n b_1c, Value.slice b_2A b_2n b_2c]] h R :=
  fn_sound Tryz.func17 (by kernel_rfl) (by kernel_rfl) (by kernel_rfl) (fun _ => false) (.two .nil (.two (.ord [0, 2, 1, 3, 4, 5]) (.two (.ord [0, 1, 2, 3, 6, 7, 8, 9, 4, 5, 10, 11, 12, 13, 14]) (.two (.ord [0, 1, 2, 3, 4, 5, 6, 7]) .nil)))) [Value.agg #[Value.bool a_0, Value.slice a_1A a_1n a_1c, Value.slice a_2A a_2n a_2c], Value.agg #[Value.bool b_0, Value.slice b_1A b_1n b_1c, Value.slice b_2A b_2n b_2c]] h R (by kernel_rfl)
    (Eq.mp (show ratio_Add_vc a_0 a_1A a_1n a_1c a_2A a_2n a_2c b_0 b_1A b_1n b_1c b_2A b_2n b_2c h R = fnV Tryz.prog Tryz.f17 (fun _ => false) (.two .nil (.two (.ord [0, 2, 1, 3, 4, 5]) (.two (.ord [0, 1, 2, 3, 6, 7, 8, 9, 4, 5, 10, 11, 12, 13, 14]) (.two (.ord [0, 1, 2, 3, 4, 5, 6, 7]) .nil)))) [Value.agg #[Value.bool a_0, Value.slice a_1A a_1n a_1c, Value.slice a_2A a_2n a_2c], Value.agg #[Value.bool b_0, Value.slice b_1A b_1n b_1c, Value.slice b_2A b_2n b_2c]] h R by kernel_rfl) hv)

def ratio_Mul_vc (a_0 : Bool) (a_1A : Option Addr) (a_1n a_1c : Nat) (a_2A : Option Addr) (a_2n a_2c : Nat) (b_0 : Bool) (b_1A : Option Addr) (b_1n b_1c : Nat) (b_2A : Option Addr) (b_2n b_2c : Nat) (h : Heap) (R : Value → Heap → Prop) : Prop :=
 CallsU Tryz.prog 37 [Value.agg #[Value.bool a_0, Value.slice a_1A a_1n a_1c, Value.slice a_2A a_2n a_2c]] h fun v h_1 =>
 ∃ t6_0 : Bool, ∃ t6_1A : Option Addr, ∃ t6_1n t6_1c : Nat, ∃ t6_2A : Option Addr, ∃ t6_2n t6_2c : Nat, v = Value.agg #[Value.bool t6_0, Value.slice t6_1A t6_1n t6_1c, Value.slice t6_2A t6_2n t6_2c] ∧
 CallsU Tryz.prog 37 [Value.agg #[Value.bool b_0, Value.slice b_1A b_1n b_1c, Value.slice b_2A b_2n b_2c]] h_1 fun v_1 h_2 =>
 ∃ t8_0 : Bool, ∃ t8_1A : Option Addr, ∃ t8_1n t8_1c : Nat, ∃ t8_2A : Option Addr, ∃ t8_2n t8_2c : Nat, v_1 = Value.agg #[Value.bool t8_0, Value.slice t8_1A t8_1n t8_1c, Value.slice t8_2A t8_2n t8_2c] ∧
 CallsU Tryz.prog 39 [Value.agg #[Value.bool t6_0, Value.slice t6_1A t6_1n t6_1c], Value.agg #[Value.bool t8_0, Value.slice t8_1A t8_1n t8_1c]] h_2 fun v_2 h_3 =>
 ∃ t13_0 : Bool, ∃ t13_1A : Option Addr, ∃ t13_1n t13_1c : Nat, v_2 = Value.agg #[Value.bool t13_0, Value.slice t13_1A t13_1n t13_1c] ∧
 CallsU Tryz.prog 43 [Value.slice t6_2A t6_2n t6_2c, Value.slice t8_2A t8_2n t8_2c] h_3 fun v_3 h_4 =>
 ∃ t18A : Option Addr, ∃ t18n t18c : Nat, v_3 = Value.slice t18A t18n t18c ∧
 CallsU Tryz.prog 42 [Value.agg #[Value.bool t13_0, Value.slice t13_1A t13_1n t13_1c], Value.slice t18A t18n t18c] h_4 fun v_4 h_5 =>
 ∃ t19_0 : Bool, ∃ t19_1A : Option Addr, ∃ t19_1n t19_1c : Nat, ∃ t19_2A : Option Addr, ∃ t19_2n t19_2c : Nat, v_4 = Value.agg #[Value.bool t19_0, Value.slice t19_1A t19_1n t19_1c, Value.slice t19_2A t19_2n t19_2c] ∧
 R (Value.agg #[Value.bool t19_0, Value.slice t19_1A t19_1n t19_1c, Value.slice t19_2A t19_2n t19_2c]) h_5

set_option maxRecDepth 100000 in
theorem ratio_Mul_ok {a_0 : Bool} {a_1A : Option Addr} {a_1n a_1c : Nat} {a_2A : Option Addr} {a_2n a_2c : Nat} {b_0 : Bool} {b_1A : Option Addr} {b_1n b_1c : Nat} {b_2A : Option Addr} {b_2n b_2c : Nat} {h : Heap} {R : Value → Heap → Prop} (hv : ratio_Mul_vc a_0 a_1A a_1n a_1c a_2A a_2n a_2c b_0 b_1A b_1n b_1c b_2A b_2n b_2c h R) : CallsU Tryz.prog 18 [Value.agg #[Value.bool a_0, Value.slice a_1A a_1n a_1c, Value.slice a_2A a_2n a_2c], Value.agg #[Value.bool b_0, Value.slice b_1A b_1n b_1c, Value.slice b_2A b_2n b_2c]] h R :=
  fn_sound Tryz.func18 (by kernel_rfl) (by kernel_rfl) (by kernel_rfl) (fun _ => false) (.two .nil (.two (.ord [0, 2, 1, 3, 4, 5]) (.two (.ord [0, 1, 2, 3, 5, 6, 7, 8, 4, 9, 10, 11]) .nil))) [Value.agg #[Value.bool a_0, Value.slice a_1A a_1n a_1c, Value.slice a_2A a_2n a_2c], Value.agg #[Value.bool b_0, Value.slice b_1A b_1n b_1c, Value.slice b_2A b_2n b_2c]] h R (by kernel_rfl)
    (Eq.mp (show ratio_Mul_vc a_0 a_1A a_1n a_1c a_2A a_2n a_2c b_0 b_1A b_1n b_1c b_2A b_2n b_2c h R = fnV Tryz.prog Tryz.f18 (fun _ => false) (.two .nil (.two (.ord [0, 2, 1, 3, 4, 5]) (.two (.ord [0, 1, 2, 3, 5, 6, 7, 8, 4, 9, 10, 11]) .nil))) [Value.agg #[Value.bool a_0, Value.slice a_1A a_1n a_1c, Value.slice a_2A a_2n a_2c], Value.agg #[Value.bool b_0, Value.slice b_1A b_1n b_1c, Value.slice b_2A b_2n b_2c]] h R by kernel_rfl) hv)

def ratio_Of_vc (num : Int) (den : Int) (h : Heap) (R : Value → Heap → Prop) : Prop :=
 Br ((den : Int) == 0)
  (R (Value.tuple #[Value.agg #[Value.bool false, Value.slice none 0 0, Value.slice none 0 0], Value.bool false]) h)
  (CallsU Tryz.prog 44 [Value.int .i64 num] h fun v h_1 =>
 ∃ t12_0 : Bool, ∃ t12_1A : Option Addr, ∃ t12_1n t12_1c : Nat, v = Value.agg #[Value.bool t12_0, Value.slice t12_1A t12_1n t12_1c] ∧
 CallsU Tryz.prog 44 [Value.int .i64 den] h_1 fun v_1 h_2 =>
 ∃ t14_0 : Bool, ∃ t14_1A : Option Addr, ∃ t14_1n t14_1c : Nat, v_1 = Value.agg #[Value.bool t14_0, Value.slice t14_1A t14_1n t14_1c] ∧
 CallsU Tryz.prog 42 [Value.agg #[Value.bool (!(t12_0 == t14_0)), Value.slice t12_1A t12_1n t12_1c], Value.slice t14_1A t14_1n t14_1c] h_2 fun v_2 h_3 =>
 ∃ t24_0 : Bool, ∃ t24_1A : Option Addr, ∃ t24_1n t24_1c : Nat, ∃ t24_2A : Option Addr, ∃ t24_2n t24_2c : Nat, v_2 = Value.agg #[Value.bool t24_0, Value.slice t24_1A t24_1n t24_1c, Value.slice t24_2A t24_2n t24_2c] ∧
 R (Value.tuple #[Value.agg #[Value.bool t24_0, Value.slice t24_1A t24_1n t24_1c, Value.slice t24_2A t24_2n t24_2c], Value.bool true]) h_3)

set_option maxRecDepth 100000 in
theorem ratio_Of_ok {num : Int} {den : Int} {h : Heap} {R : Value → Heap → Prop} (hv : ratio_Of_vc num den h R) : CallsU Tryz.prog 19 [Value.int .i64 num, Value.int .i64 den] h R :=
  fn_sound Tryz.func19 (by kernel_rfl) (by kernel_rfl) (by kernel_rfl) (fun _ => false) .nil [Value.int .i64 num, Value.int .i64 den] h R (by kernel_rfl)
    (Eq.mp (show ratio_Of_vc num den h R = fnV Tryz.prog Tryz.f19 (fun _ => false) .nil [Value.int .i64 num, Value.int .i64 den] h R by kernel_rfl) hv)

def ratio_Text_vc (a_0 : Bool) (a_1A : Option Addr) (a_1n a_1c : Nat) (a_2A : Option Addr) (a_2n a_2c : Nat) (h : Heap) (R : Value → Heap → Prop) : Prop :=
 CallsU Tryz.prog 46 [Value.agg #[Value.bool a_0, Value.slice a_1A a_1n a_1c, Value.slice a_2A a_2n a_2c]] h fun v h_1 =>
 ∃ t4_0 : Bool, ∃ t4_1A : Option Addr, ∃ t4_1n t4_1c : Nat, ∃ t4_2A : Option Addr, ∃ t4_2n t4_2c : Nat, v = Value.agg #[Value.bool t4_0, Value.slice t4_1A t4_1n t4_1c, Value.slice t4_2A t4_2n t4_2c] ∧
 CallsU Tryz.prog 30 [Value.int .u64 1] h_1 fun v_1 h_2 =>
 ∃ t7A : Option Addr, ∃ t7n t7c : Nat, v_1 = Value.slice t7A t7n t7c ∧
 CallsU Tryz.prog 47 [Value.slice t4_2A t4_2n t4_2c, Value.slice t7A t7n t7c] h_2 fun v_2 h_3 =>
 ∃ t8 : Int, v_2 = Value.int .i64 t8 ∧
 Br ((t8 : Int) == 0)
  (CallsU Tryz.prog 48 [Value.agg #[Value.bool t4_0, Value.slice t4_1A t4_1n t4_1c]] h_3 fun v_3 h_4 =>
 ∃ t12 : ByteArray, v_3 = Value.string t12 ∧
 R (Value.string t12) h_4)
  (CallsU Tryz.prog 48 [Value.agg #[Value.bool t4_0, Value.slice t4_1A t4_1n t4_1c]] h_3 fun v_4 h_5 =>
 ∃ t15 : ByteArray, v_4 = Value.string t15 ∧
 ((t15.size + (⟨#[47]⟩ : ByteArray).size : Nat) : Int) ≤ 9223372036854775807 ∧
 CallsU Tryz.prog 49 [Value.slice t4_2A t4_2n t4_2c] h_5 fun v_5 h_6 =>
 ∃ t19 : ByteArray, v_5 = Value.string t19 ∧
 (((t15 ++ (⟨#[47]⟩ : ByteArray)).size + t19.size : Nat) : Int) ≤ 9223372036854775807 ∧
 R (Value.string ((t15 ++ (⟨#[47]⟩ : ByteArray)) ++ t19)) h_6)

set_option maxRecDepth 100000 in
theorem ratio_Text_ok {a_0 : Bool} {a_1A : Option Addr} {a_1n a_1c : Nat} {a_2A : Option Addr} {a_2n a_2c : Nat} {h : Heap} {R : Value → Heap → Prop} (hv : ratio_Text_vc a_0 a_1A a_1n a_1c a_2A a_2n a_2c h R) : CallsU Tryz.prog 22 [Value.agg #[Value.bool a_0, Value.slice a_1A a_1n a_1c, Value.slice a_2A a_2n a_2c]] h R :=
  fn_sound Tryz.func22 (by kernel_rfl) (by kernel_rfl) (by kernel_rfl) (fun _ => false) (.two .nil (.two .nil (.two (.two (.ord [0, 1, 2, 3, 4]) .nil) (.two (.ord [0, 1, 4, 5, 2, 3, 6, 7, 8]) .nil)))) [Value.agg #[Value.bool a_0, Value.slice a_1A a_1n a_1c, Value.slice a_2A a_2n a_2c]] h R (by kernel_rfl)
    (Eq.mp (show ratio_Text_vc a_0 a_1A a_1n a_1c a_2A a_2n a_2c h R = fnV Tryz.prog Tryz.f22 (fun _ => false) (.two .nil (.two .nil (.two (.two (.ord [0, 1, 2, 3, 4]) .nil) (.two (.ord [0, 1, 4, 5, 2, 3, 6, 7, 8]) .nil)))) [Value.agg #[Value.bool a_0, Value.slice a_1A a_1n a_1c, Value.slice a_2A a_2n a_2c]] h R by kernel_rfl) hv)

def ratio_value_vc (a_0 : Bool) (a_1A : Option Addr) (a_1n a_1c : Nat) (a_2A : Option Addr) (a_2n a_2c : Nat) (h : Heap) (R : Value → Heap → Prop) : Prop :=
 CallsU Tryz.prog 59 [Value.slice a_2A a_2n a_2c] h fun v h_1 =>
 ∃ t5 : Bool, v = Value.bool t5 ∧
 Br (t5)
  (CallsU Tryz.prog 30 [Value.int .u64 1] h_1 fun v_1 h_2 =>
 ∃ t6A : Option Addr, ∃ t6n t6c : Nat, v_1 = Value.slice t6A t6n t6c ∧
 R (Value.agg #[Value.bool false, Value.slice none 0 0, Value.slice t6A t6n t6c]) h_2)
  (R (Value.agg #[Value.bool a_0, Value.slice a_1A a_1n a_1c, Value.slice a_2A a_2n a_2c]) h_1)

set_option maxRecDepth 100000 in
theorem ratio_value_ok {a_0 : Bool} {a_1A : Option Addr} {a_1n a_1c : Nat} {a_2A : Option Addr} {a_2n a_2c : Nat} {h : Heap} {R : Value → Heap → Prop} (hv : ratio_value_vc a_0 a_1A a_1n a_1c a_2A a_2n a_2c h R) : CallsU Tryz.prog 37 [Value.agg #[Value.bool a_0, Value.slice a_1A a_1n a_1c, Value.slice a_2A a_2n a_2c]] h R :=
  fn_sound Tryz.func37 (by kernel_rfl) (by kernel_rfl) (by kernel_rfl) (fun _ => false) .nil [Value.agg #[Value.bool a_0, Value.slice a_1A a_1n a_1c, Value.slice a_2A a_2n a_2c]] h R (by kernel_rfl)
    (Eq.mp (show ratio_value_vc a_0 a_1A a_1n a_1c a_2A a_2n a_2c h R = fnV Tryz.prog Tryz.f37 (fun _ => false) .nil [Value.agg #[Value.bool a_0, Value.slice a_1A a_1n a_1c, Value.slice a_2A a_2n a_2c]] h R by kernel_rfl) hv)

def ratio_positive_vc (aA : Option Addr) (an ac : Nat) (h : Heap) (R : Value → Heap → Prop) : Prop :=
 R (Value.agg #[Value.bool false, Value.slice aA an ac]) h

set_option maxRecDepth 100000 in
theorem ratio_positive_ok {aA : Option Addr} {an ac : Nat} {h : Heap} {R : Value → Heap → Prop} (hv : ratio_positive_vc aA an ac h R) : CallsU Tryz.prog 40 [Value.slice aA an ac] h R :=
  fn_sound Tryz.func40 (by kernel_rfl) (by kernel_rfl) (by kernel_rfl) (fun _ => false) .nil [Value.slice aA an ac] h R (by kernel_rfl)
    (Eq.mp (show ratio_positive_vc aA an ac h R = fnV Tryz.prog Tryz.f40 (fun _ => false) .nil [Value.slice aA an ac] h R by kernel_rfl) hv)

def ratio_reduce_vc (num_0 : Bool) (num_1A : Option Addr) (num_1n num_1c : Nat) (denA : Option Addr) (denn denc : Nat) (h : Heap) (R : Value → Heap → Prop) : Prop :=
 CallsU Tryz.prog 63 [Value.slice num_1A num_1n num_1c, Value.slice denA denn denc] h fun v h_1 =>
 ∃ t15A : Option Addr, ∃ t15n t15c : Nat, v = Value.slice t15A t15n t15c ∧
 CallsU Tryz.prog 50 [Value.slice num_1A num_1n num_1c, Value.slice t15A t15n t15c] h_1 fun v_1 h_2 =>
 ∃ t20_0A : Option Addr, ∃ t20_0n t20_0c : Nat, ∃ t20_1A : Option Addr, ∃ t20_1n t20_1c : Nat, ∃ t20_2 : Bool, v_1 = Value.tuple #[Value.slice t20_0A t20_0n t20_0c, Value.slice t20_1A t20_1n t20_1c, Value.bool t20_2] ∧
 CallsU Tryz.prog 50 [Value.slice denA denn denc, Value.slice t15A t15n t15c] h_2 fun v_2 h_3 =>
 ∃ t27_0A : Option Addr, ∃ t27_0n t27_0c : Nat, ∃ t27_1A : Option Addr, ∃ t27_1n t27_1c : Nat, ∃ t27_2 : Bool, v_2 = Value.tuple #[Value.slice t27_0A t27_0n t27_0c, Value.slice t27_1A t27_1n t27_1c, Value.bool t27_2] ∧
 CallsU Tryz.prog 60 [Value.agg #[Value.bool num_0, Value.slice t20_0A t20_0n t20_0c]] h_3 fun v_3 h_4 =>
 ∃ t35_0 : Bool, ∃ t35_1A : Option Addr, ∃ t35_1n t35_1c : Nat, v_3 = Value.agg #[Value.bool t35_0, Value.slice t35_1A t35_1n t35_1c] ∧
 R (Value.agg #[Value.bool t35_0, Value.slice t35_1A t35_1n t35_1c, Value.slice t27_0A t27_0n t27_0c]) h_4

set_option maxRecDepth 100000 in
theorem ratio_reduce_ok {num_0 : Bool} {num_1A : Option Addr} {num_1n num_1c : Nat} {denA : Option Addr} {denn denc : Nat} {h : Heap} {R : Value → Heap → Prop} (hv : ratio_reduce_vc num_0 num_1A num_1n num_1c denA denn denc h R) : CallsU Tryz.prog 42 [Value.agg #[Value.bool num_0, Value.slice num_1A num_1n num_1c], Value.slice denA denn denc] h R :=
  fn_sound Tryz.func42 (by kernel_rfl) (by kernel_rfl) (by kernel_rfl) (fun _ => false) .nil [Value.agg #[Value.bool num_0, Value.slice num_1A num_1n num_1c], Value.slice denA denn denc] h R (by kernel_rfl)
    (Eq.mp (show ratio_reduce_vc num_0 num_1A num_1n num_1c denA denn denc h R = fnV Tryz.prog Tryz.f42 (fun _ => false) .nil [Value.agg #[Value.bool num_0, Value.slice num_1A num_1n num_1c], Value.slice denA denn denc] h R by kernel_rfl) hv)

def ratio_Norm_vc (a_0 : Bool) (a_1A : Option Addr) (a_1n a_1c : Nat) (a_2A : Option Addr) (a_2n a_2c : Nat) (h : Heap) (R : Value → Heap → Prop) : Prop :=
 CallsU Tryz.prog 37 [Value.agg #[Value.bool a_0, Value.slice a_1A a_1n a_1c, Value.slice a_2A a_2n a_2c]] h fun v h_1 =>
 ∃ t4_0 : Bool, ∃ t4_1A : Option Addr, ∃ t4_1n t4_1c : Nat, ∃ t4_2A : Option Addr, ∃ t4_2n t4_2c : Nat, v = Value.agg #[Value.bool t4_0, Value.slice t4_1A t4_1n t4_1c, Value.slice t4_2A t4_2n t4_2c] ∧
 CallsU Tryz.prog 42 [Value.agg #[Value.bool t4_0, Value.slice t4_1A t4_1n t4_1c], Value.slice t4_2A t4_2n t4_2c] h_1 fun v_1 h_2 =>
 ∃ t9_0 : Bool, ∃ t9_1A : Option Addr, ∃ t9_1n t9_1c : Nat, ∃ t9_2A : Option Addr, ∃ t9_2n t9_2c : Nat, v_1 = Value.agg #[Value.bool t9_0, Value.slice t9_1A t9_1n t9_1c, Value.slice t9_2A t9_2n t9_2c] ∧
 R (Value.agg #[Value.bool t9_0, Value.slice t9_1A t9_1n t9_1c, Value.slice t9_2A t9_2n t9_2c]) h_2

set_option maxRecDepth 100000 in
theorem ratio_Norm_ok {a_0 : Bool} {a_1A : Option Addr} {a_1n a_1c : Nat} {a_2A : Option Addr} {a_2n a_2c : Nat} {h : Heap} {R : Value → Heap → Prop} (hv : ratio_Norm_vc a_0 a_1A a_1n a_1c a_2A a_2n a_2c h R) : CallsU Tryz.prog 46 [Value.agg #[Value.bool a_0, Value.slice a_1A a_1n a_1c, Value.slice a_2A a_2n a_2c]] h R :=
  fn_sound Tryz.func46 (by kernel_rfl) (by kernel_rfl) (by kernel_rfl) (fun _ => false) .nil [Value.agg #[Value.bool a_0, Value.slice a_1A a_1n a_1c, Value.slice a_2A a_2n a_2c]] h R (by kernel_rfl)
    (Eq.mp (show ratio_Norm_vc a_0 a_1A a_1n a_1c a_2A a_2n a_2c h R = fnV Tryz.prog Tryz.f46 (fun _ => false) .nil [Value.agg #[Value.bool a_0, Value.slice a_1A a_1n a_1c, Value.slice a_2A a_2n a_2c]] h R by kernel_rfl) hv)

def ratio_zero_vc (aA : Option Addr) (an ac : Nat) (h : Heap) (R : Value → Heap → Prop) : Prop :=
 CallsU Tryz.prog 47 [Value.slice aA an ac, Value.slice none 0 0] h fun v h_1 =>
 ∃ t4 : Int, v = Value.int .i64 t4 ∧
 R (Value.bool ((t4 : Int) == 0)) h_1

set_option maxRecDepth 100000 in
theorem ratio_zero_ok {aA : Option Addr} {an ac : Nat} {h : Heap} {R : Value → Heap → Prop} (hv : ratio_zero_vc aA an ac h R) : CallsU Tryz.prog 59 [Value.slice aA an ac] h R :=
  fn_sound Tryz.func59 (by kernel_rfl) (by kernel_rfl) (by kernel_rfl) (fun _ => false) .nil [Value.slice aA an ac] h R (by kernel_rfl)
    (Eq.mp (show ratio_zero_vc aA an ac h R = fnV Tryz.prog Tryz.f59 (fun _ => false) .nil [Value.slice aA an ac] h R by kernel_rfl) hv)

end Go.Proofs.YtfhipkdcekffaaaGreatDoor
