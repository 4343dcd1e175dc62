/- Made by vcgen.py: verification conditions of functions, each held against the calculator by the kernel. -/
import Derived.Test.YtfhipkdcekffaaaGreatDoorVcg4
import Derived.Test.YtfhipkdcekffaaaGreatDoorChecked
namespace Go.Proofs.YtfhipkdcekffaaaGreatDoor
open Go Go.Vcg

def integer_Cmp_vc (a_0 : Bool) (a_1A : Option Addr) (a_1n a_1c : Nat) (b_0 : Bool) (b_1A : Option Addr) (b_1n b_1c : Nat) (h : Heap) (R : Value → Heap → Prop) : Prop :=
 CallsU Tryz.prog 60 [Value.agg #[Value.bool a_0, Value.slice a_1A a_1n a_1c]] h fun v h_1 =>
 ∃ t6_0 : Bool, ∃ t6_1A : Option Addr, ∃ t6_1n t6_1c : Nat, v = Value.agg #[Value.bool t6_0, Value.slice t6_1A t6_1n t6_1c] ∧
 CallsU Tryz.prog 60 [Value.agg #[Value.bool b_0, Value.slice b_1A b_1n b_1c]] h_1 fun v_1 h_2 =>
 ∃ t8_0 : Bool, ∃ t8_1A : Option Addr, ∃ t8_1n t8_1c : Nat, v_1 = Value.agg #[Value.bool t8_0, Value.slice t8_1A t8_1n t8_1c] ∧
 ∃ C : Bool → Heap → Prop, (∀ (t9 : Bool) (h_3 : Heap), C t9 h_3 →
 Br (t9)
  (R (Value.int .i64 (-1)) h_3)
  (∃ C_1 : Bool → Heap → Prop, (∀ (t17 : Bool) (h_4 : Heap), C_1 t17 h_4 →
 Br (t17)
  (R (Value.int .i64 1) h_4)
  (Br (t6_0)
  (CallsU Tryz.prog 47 [Value.slice t8_1A t8_1n t8_1c, Value.slice t6_1A t6_1n t6_1c] h_4 fun v_2 h_5 =>
 ∃ t32 : Int, v_2 = Value.int .i64 t32 ∧
 R (Value.int .i64 t32) h_5)
  (CallsU Tryz.prog 47 [Value.slice t6_1A t6_1n t6_1c, Value.slice t8_1A t8_1n t8_1c] h_4 fun v_3 h_6 =>
 ∃ t37 : Int, v_3 = Value.int .i64 t37 ∧
 R (Value.int .i64 t37) h_6))) ∧
 Br (!t6_0)
  (C_1 t8_0 h_3)
  (C_1 false h_3))) ∧
 Br (t6_0)
  (C (!t8_0) h_2)
  (C false h_2)

set_option maxRecDepth 100000 in
theorem integer_Cmp_ok {a_0 : Bool} {a_1A : Option Addr} {a_1n a_1c : Nat} {b_0 : Bool} {b_1A : Option Addr} {b_1n b_1c : Nat} {h : Heap} {R : Value → Heap → Prop} (hv : integer_Cmp_vc a_0 a_1A a_1n a_1c b_0 b_1A b_1n b_1c h R) : CallsU Tryz.prog 38 [Value.agg #[Value.bool a_0, Value.slice a_1A a_1n a_1c], Value.agg #[Value.bool b_0, Value.slice b_1A b_1n b_1c]] h R :=
  fn_sound Tryz.func38 (by kernel_rfl) (by kernel_rfl) (by kernel_rfl) (fun _ => false) (.two .nil (.two (.ord [0, 2, 1, 3, 4, 5]) (.two (.one (.cut ⟨[(9, Sh.bool)], []⟩ .nil (.two .nil (.cut ⟨[(17, Sh.bool)], []⟩ .nil .nil)))) .nil))) [Value.agg #[Value.bool a_0, Value.slice a_1A a_1n a_1c], Value.agg #[Value.bool b_0, Value.slice b_1A b_1n b_1c]] h R (by kernel_rfl)
    (Eq.mp (show integer_Cmp_vc a_0 a_1A a_1n a_1c b_0 b_1A b_1n b_1c h R = fnV Tryz.prog Tryz.f38 (fun _ => false) (.two .nil (.two (.ord [0, 2, 1, 3, 4, 5]) (.two (.one (.cut ⟨[(9, Sh.bool)], []⟩ .nil (.two .nil (.cut ⟨[(17, Sh.bool)], []⟩ .nil .nil)))) .nil))) [Value.agg #[Value.bool a_0, Value.slice a_1A a_1n a_1c], Value.agg #[Value.bool b_0, Value.slice b_1A b_1n b_1c]] h R by kernel_rfl) hv)

def integer_Mul_vc (a_0 : Bool) (a_1A : Option Addr) (a_1n a_1c : Nat) (b_0 : Bool) (b_1A : Option Addr) (b_1n b_1c : Nat) (h : Heap) (R : Value → Heap → Prop) : Prop :=
 CallsU Tryz.prog 43 [Value.slice a_1A a_1n a_1c, Value.slice b_1A b_1n b_1c] h fun v h_1 =>
 ∃ t14A : Option Addr, ∃ t14n t14c : Nat, v = Value.slice t14A t14n t14c ∧
 CallsU Tryz.prog 61 [Value.bool (!(a_0 == b_0)), Value.slice t14A t14n t14c] h_1 fun v_1 h_2 =>
 ∃ t15_0 : Bool, ∃ t15_1A : Option Addr, ∃ t15_1n t15_1c : Nat, v_1 = Value.agg #[Value.bool t15_0, Value.slice t15_1A t15_1n t15_1c] ∧
 R (Value.agg #[Value.bool t15_0, Value.slice t15_1A t15_1n t15_1c]) h_2

set_option maxRecDepth 100000 in
theorem integer_Mul_ok {a_0 : Bool} {a_1A : Option Addr} {a_1n a_1c : Nat} {b_0 : Bool} {b_1A : Option Addr} {b_1n b_1c : Nat} {h : Heap} {R : Value → Heap → Prop} (hv : integer_Mul_vc a_0 a_1A a_1n a_1c b_0 b_1A b_1n b_1c h R) : CallsU Tryz.prog 39 [Value.agg #[Value.bool a_0, Value.slice a_1A a_1n a_1c], Value.agg #[Value.bool b_0, Value.slice b_1A b_1n b_1c]] h R :=
  fn_sound Tryz.func39 (by kernel_rfl) (by kernel_rfl) (by kernel_rfl) (fun _ => false) (.two .nil (.two (.ord [0, 1, 2, 3, 4, 5, 6, 7, 8, 9, 10, 11]) .nil)) [Value.agg #[Value.bool a_0, Value.slice a_1A a_1n a_1c], Value.agg #[Value.bool b_0, Value.slice b_1A b_1n b_1c]] h R (by kernel_rfl)
    (Eq.mp (show integer_Mul_vc a_0 a_1A a_1n a_1c b_0 b_1A b_1n b_1c h R = fnV Tryz.prog Tryz.f39 (fun _ => false) (.two .nil (.two (.ord [0, 1, 2, 3, 4, 5, 6, 7, 8, 9, 10, 11]) .nil)) [Value.agg #[Value.bool a_0, Value.slice a_1A a_1n a_1c], Value.agg #[Value.bool b_0, Value.slice b_1A b_1n b_1c]] h R by kernel_rfl) hv)

def integer_Add_vc (a_0 : Bool) (a_1A : Option Addr) (a_1n a_1c : Nat) (b_0 : Bool) (b_1A : Option Addr) (b_1n b_1c : Nat) (h : Heap) (R : Value → Heap → Prop) : Prop :=
 Br (a_0 == b_0)
  (CallsU Tryz.prog 31 [Value.slice a_1A a_1n a_1c, Value.slice b_1A b_1n b_1c] h fun v h_1 =>
 ∃ t20A : Option Addr, ∃ t20n t20c : Nat, v = Value.slice t20A t20n t20c ∧
 CallsU Tryz.prog 61 [Value.bool a_0, Value.slice t20A t20n t20c] h_1 fun v_1 h_2 =>
 ∃ t21_0 : Bool, ∃ t21_1A : Option Addr, ∃ t21_1n t21_1c : Nat, v_1 = Value.agg #[Value.bool t21_0, Value.slice t21_1A t21_1n t21_1c] ∧
 R (Value.agg #[Value.bool t21_0, Value.slice t21_1A t21_1n t21_1c]) h_2)
  (CallsU Tryz.prog 62 [Value.slice a_1A a_1n a_1c, Value.slice b_1A b_1n b_1c] h fun v_2 h_3 =>
 ∃ t27_0A : Option Addr, ∃ t27_0n t27_0c : Nat, ∃ t27_1 : Bool, v_2 = Value.tuple #[Value.slice t27_0A t27_0n t27_0c, Value.bool t27_1] ∧
 Br (t27_1)
  (CallsU Tryz.prog 61 [Value.bool a_0, Value.slice t27_0A t27_0n t27_0c] h_3 fun v_3 h_4 =>
 ∃ t34_0 : Bool, ∃ t34_1A : Option Addr, ∃ t34_1n t34_1c : Nat, v_3 = Value.agg #[Value.bool t34_0, Value.slice t34_1A t34_1n t34_1c] ∧
 R (Value.agg #[Value.bool t34_0, Value.slice t34_1A t34_1n t34_1c]) h_4)
  (CallsU Tryz.prog 62 [Value.slice b_1A b_1n b_1c, Value.slice a_1A a_1n a_1c] h_3 fun v_4 h_5 =>
 ∃ t40_0A : Option Addr, ∃ t40_0n t40_0c : Nat, ∃ t40_1 : Bool, v_4 = Value.tuple #[Value.slice t40_0A t40_0n t40_0c, Value.bool t40_1] ∧
 CallsU Tryz.prog 61 [Value.bool b_0, Value.slice t40_0A t40_0n t40_0c] h_5 fun v_5 h_6 =>
 ∃ t46_0 : Bool, ∃ t46_1A : Option Addr, ∃ t46_1n t46_1c : Nat, v_5 = Value.agg #[Value.bool t46_0, Value.slice t46_1A t46_1n t46_1c] ∧
 R (Value.agg #[Value.bool t46_0, Value.slice t46_1A t46_1n t46_1c]) h_6))

set_option maxRecDepth 100000 in
theorem integer_Add_ok {a_0 : Bool} {a_1A : Option Addr} {a_1n a_1c : Nat} {b_0 : Bool} {b_1A : Option Addr} {b_1n b_1c : Nat} {h : Heap} {R : Value → Heap → Prop} (hv : integer_Add_vc a_0 a_1A a_1n a_1c b_0 b_1A b_1n b_1c h R) : CallsU Tryz.prog 41 [Value.agg #[Value.bool a_0, Value.slice a_1A a_1n a_1c], Value.agg #[Value.bool b_0, Value.slice b_1A b_1n b_1c]] h R :=
  fn_sound Tryz.func41 (by kernel_rfl) (by kernel_rfl) (by kernel_rfl) (fun _ => false) (.two .nil (.two (.two .nil (.two (.two (.ord [0, 1, 2, 3, 4, 5, 6, 7, 8]) .nil) .nil)) .nil)) [Value.agg #[Value.bool a_0, Value.slice a_1A a_1n a_1c], Value.agg #[Value.bool b_0, Value.slice b_1A b_1n b_1c]] h R (by kernel_rfl)
    (Eq.mp (show integer_Add_vc a_0 a_1A a_1n a_1c b_0 b_1A b_1n b_1c h R = fnV Tryz.prog Tryz.f41 (fun _ => false) (.two .nil (.two (.two .nil (.two (.two (.ord [0, 1, 2, 3, 4, 5, 6, 7, 8]) .nil) .nil)) .nil)) [Value.agg #[Value.bool a_0, Value.slice a_1A a_1n a_1c], Value.agg #[Value.bool b_0, Value.slice b_1A b_1n b_1c]] h R by kernel_rfl) hv)

def integer_Of_vc (n : Int) (h : Heap) (R : Value → Heap → Prop) : Prop :=
 Br (decide (n < 0))
  (∀ t7 : Int, t7 = IntKind.u64.wrap (0 - (IntKind.u64.wrap n)) →
 CallsU Tryz.prog 30 [Value.int .u64 t7] h fun v h_1 =>
 ∃ t8A : Option Addr, ∃ t8n t8c : Nat, v = Value.slice t8A t8n t8c ∧
 CallsU Tryz.prog 61 [Value.bool true, Value.slice t8A t8n t8c] h_1 fun v_1 h_2 =>
 ∃ t9_0 : Bool, ∃ t9_1A : Option Addr, ∃ t9_1n t9_1c : Nat, v_1 = Value.agg #[Value.bool t9_0, Value.slice t9_1A t9_1n t9_1c] ∧
 R (Value.agg #[Value.bool t9_0, Value.slice t9_1A t9_1n t9_1c]) h_2)
  (CallsU Tryz.prog 30 [Value.int .u64 (IntKind.u64.wrap n)] h fun v_2 h_3 =>
 ∃ t12A : Option Addr, ∃ t12n t12c : Nat, v_2 = Value.slice t12A t12n t12c ∧
 CallsU Tryz.prog 61 [Value.bool false, Value.slice t12A t12n t12c] h_3 fun v_3 h_4 =>
 ∃ t13_0 : Bool, ∃ t13_1A : Option Addr, ∃ t13_1n t13_1c : Nat, v_3 = Value.agg #[Value.bool t13_0, Value.slice t13_1A t13_1n t13_1c] ∧
 R (Value.agg #[Value.bool t13_0, Value.slice t13_1A t13_1n t13_1c]) h_4)

set_option maxRecDepth 100000 in
theorem integer_Of_ok {n : Int} {h : Heap} {R : Value → Heap → Prop} (hv : integer_Of_vc n h R) : CallsU Tryz.prog 44 [Value.int .i64 n] h R :=
  fn_sound Tryz.func44 (by kernel_rfl) (by kernel_rfl) (by kernel_rfl) (fun _ => false) .nil [Value.int .i64 n] h R (by kernel_rfl)
    (Eq.mp (show integer_Of_vc n h R = fnV Tryz.prog Tryz.f44 (fun _ => false) .nil [Value.int .i64 n] h R by kernel_rfl) hv)

def integer_Text_vc (a_0 : Bool) (a_1A : Option Addr) (a_1n a_1c : Nat) (h : Heap) (R : Value → Heap → Prop) : Prop :=
 CallsU Tryz.prog 60 [Value.agg #[Value.bool a_0, Value.slice a_1A a_1n a_1c]] h fun v h_1 =>
 ∃ t4_0 : Bool, ∃ t4_1A : Option Addr, ∃ t4_1n t4_1c : Nat, v = Value.agg #[Value.bool t4_0, Value.slice t4_1A t4_1n t4_1c] ∧
 Br (t4_0)
  (CallsU Tryz.prog 49 [Value.slice t4_1A t4_1n t4_1c] h_1 fun v_1 h_2 =>
 ∃ t9 : ByteArray, v_1 = Value.string t9 ∧
 (((⟨#[45]⟩ : ByteArray).size + t9.size : Nat) : Int) ≤ 9223372036854775807 ∧
 R (Value.string ((⟨#[45]⟩ : ByteArray) ++ t9)) h_2)
  (CallsU Tryz.prog 49 [Value.slice t4_1A t4_1n t4_1c] h_1 fun v_2 h_3 =>
 ∃ t13 : ByteArray, v_2 = Value.string t13 ∧
 R (Value.string t13) h_3)

set_option maxRecDepth 100000 in
theorem integer_Text_ok {a_0 : Bool} {a_1A : Option Addr} {a_1n a_1c : Nat} {h : Heap} {R : Value → Heap → Prop} (hv : integer_Text_vc a_0 a_1A a_1n a_1c h R) : CallsU Tryz.prog 48 [Value.agg #[Value.bool a_0, Value.slice a_1A a_1n a_1c]] h R :=
  fn_sound Tryz.func48 (by kernel_rfl) (by kernel_rfl) (by kernel_rfl) (fun _ => false) .nil [Value.agg #[Value.bool a_0, Value.slice a_1A a_1n a_1c]] h R (by kernel_rfl)
    (Eq.mp (show integer_Text_vc a_0 a_1A a_1n a_1c h R = fnV Tryz.prog Tryz.f48 (fun _ => false) .nil [Value.agg #[Value.bool a_0, Value.slice a_1A a_1n a_1c]] h R by kernel_rfl) hv)

def integer_Norm_vc (a_0 : Bool) (a_1A : Option Addr) (a_1n a_1c : Nat) (h : Heap) (R : Value → Heap → Prop) : Prop :=
 CallsU Tryz.prog 61 [Value.bool a_0, Value.slice a_1A a_1n a_1c] h fun v h_1 =>
 ∃ t7_0 : Bool, ∃ t7_1A : Option Addr, ∃ t7_1n t7_1c : Nat, v = Value.agg #[Value.bool t7_0, Value.slice t7_1A t7_1n t7_1c] ∧
 R (Value.agg #[Value.bool t7_0, Value.slice t7_1A t7_1n t7_1c]) h_1

set_option maxRecDepth 100000 in
theorem integer_Norm_ok {a_0 : Bool} {a_1A : Option Addr} {a_1n a_1c : Nat} {h : Heap} {R : Value → Heap → Prop} (hv : integer_Norm_vc a_0 a_1A a_1n a_1c h R) : CallsU Tryz.prog 60 [Value.agg #[Value.bool a_0, Value.slice a_1A a_1n a_1c]] h R :=
  fn_sound Tryz.func60 (by kernel_rfl) (by kernel_rfl) (by kernel_rfl) (fun _ => false) .nil [Value.agg #[Value.bool a_0, Value.slice a_1A a_1n a_1c]] h R (by kernel_rfl)
    (Eq.mp (show integer_Norm_vc a_0 a_1A a_1n a_1c h R = fnV Tryz.prog Tryz.f60 (fun _ => false) .nil [Value.agg #[Value.bool a_0, Value.slice a_1A a_1n a_1c]] h R by kernel_rfl) hv)

def integer_signed_vc (neg : Bool) (magA : Option Addr) (magn magc : Nat) (h : Heap) (R : Value → Heap → Prop) : Prop :=
 CallsU Tryz.prog 73 [Value.slice magA magn magc] h fun v h_1 =>
 ∃ t6A : Option Addr, ∃ t6n t6c : Nat, v = Value.slice t6A t6n t6c ∧
 Br (neg)
  (R (Value.agg #[Value.bool (decide (((t6n : Nat) : Int) > 0)), Value.slice t6A t6n t6c]) h_1)
  (R (Value.agg #[Value.bool false, Value.slice t6A t6n t6c]) h_1)

set_option maxRecDepth 100000 in
theorem integer_signed_ok {neg : Bool} {magA : Option Addr} {magn magc : Nat} {h : Heap} {R : Value → Heap → Prop} (hv : integer_signed_vc neg magA magn magc h R) : CallsU Tryz.prog 61 [Value.bool neg, Value.slice magA magn magc] h R :=
  fn_sound Tryz.func61 (by kernel_rfl) (by kernel_rfl) (by kernel_rfl) (fun _ => false) .nil [Value.bool neg, Value.slice magA magn magc] h R (by kernel_rfl)
    (Eq.mp (show integer_signed_vc neg magA magn magc h R = fnV Tryz.prog Tryz.f61 (fun _ => false) .nil [Value.bool neg, Value.slice magA magn magc] h R by kernel_rfl) hv)

end Go.Proofs.YtfhipkdcekffaaaGreatDoor
