/- Made by vcgen.py: verification conditions of functions, each held against the calculator by the kernel. -/
import Derived.Test.YtfhipkdcekffaaaDoorVcg4
import Derived.Test.YtfhipkdcekffaaaDoorChecked
namespace Go.Proofs.YtfhipkdcekffaaaDoor
open Go Go.Vcg

def integer_Cmp_vc (a_0 : Bool) (a_1A : Option Addr) (a_1n a_1c : Nat) (b_0 : Bool) (b_1A : Option Addr) (b_1n b_1c : Nat) (h : Heap) (R : Value → Heap → Prop) : Prop :=
 CallsU Tryd.prog 52 [Value.agg #[Value.bool a_0, Value.slice a_1A a_1n a_1c]] h fun v h_1 =>
 ∃ t6_0 : Bool, ∃ t6_1A : Option Addr, ∃ t6_1n t6_1c : Nat, v = Value.agg #[Value.bool t6_0, Value.slice t6_1A t6_1n t6_1c] ∧
 CallsU Tryd.prog 52 [Value.agg #[Value.bool b_0, Value.slice b_1A b_1n b_1c]] h_1 fun v_1 h_2 =>
 ∃ t8_0 : Bool, ∃ t8_1A : Option Addr, ∃ t8_1n t8_1c : Nat, v_1 = Value.agg #[Value.bool t8_0, Value.slice t8_1A t8_1n t8_1c] ∧
 ∃ C : Bool → Heap → Prop, (∀ (t9 : Bool) (h_3 : Heap), C t9 h_3 →
 Br (t9)
  (R (Value.int .i64 (-1)) h_3)
  (∃ C_1 : Bool → Heap → Prop, (∀ (t17 : Bool) (h_4 : Heap), C_1 t17 h_4 →
 Br (t17)
  (R (Value.int .i64 1) h_4)
  (Br (t6_0)
  (CallsU Tryd.prog 40 [Value.slice t8_1A t8_1n t8_1c, Value.slice t6_1A t6_1n t6_1c] h_4 fun v_2 h_5 =>
 ∃ t32 : Int, v_2 = Value.int .i64 t32 ∧
 R (Value.int .i64 t32) h_5)
  (CallsU Tryd.prog 40 [Value.slice t6_1A t6_1n t6_1c, Value.slice t8_1A t8_1n t8_1c] h_4 fun v_3 h_6 =>
 ∃ t37 : Int, v_3 = Value.int .i64 t37 ∧
 R (Value.int .i64 t37) h_6))) ∧
 Br (!t6_0)
  (C_1 t8_0 h_3)
  (C_1 false h_3))) ∧
 Br (t6_0)
  (C (!t8_0) h_2)
  (C false h_2)

set_option maxRecDepth 100000 in
theorem integer_Cmp_ok {a_0 : Bool} {a_1A : Option Addr} {a_1n a_1c : Nat} {b_0 : Bool} {b_1A : Option Addr} {b_1n b_1c : Nat} {h : Heap} {R : Value → Heap → Prop} (hv : integer_Cmp_vc a_0 a_1A a_1n a_1c b_0 b_1A b_1n b_1c h R) : CallsU Tryd.prog 32 [Value.agg #[Value.bool a_0, Value.slice a_1A a_1n a_1c], Value.agg #[Value.bool b_0, Value.slice b_1A b_1n b_1c]] h R :=
  fn_sound Tryd.func32 (by kernel_rfl) (by kernel_rfl) (by kernel_rfl) (fun _ => false) (.two .nil (.two (.ord [0, 2, 1, 3, 4, 5]) (.two (.one (.cut ⟨[(9, Sh.bool)], []⟩ .nil (.two .nil (.cut ⟨[(17, Sh.bool)], []⟩ .nil .nil)))) .nil))) [Value.agg #[Value.bool a_0, Value.slice a_1A a_1n a_1c], Value.agg #[Value.bool b_0, Value.slice b_1A b_1n b_1c]] h R (by kernel_rfl)
    (Eq.mp (show integer_Cmp_vc a_0 a_1A a_1n a_1c b_0 b_1A b_1n b_1c h R = fnV Tryd.prog Tryd.f32 (fun _ => false) (.two .nil (.two (.ord [0, 2, 1, 3, 4, 5]) (.two (.one (.cut ⟨[(9, Sh.bool)], []⟩ .nil (.two .nil (.cut ⟨[(17, Sh.bool)], []⟩ .nil .nil)))) .nil))) [Value.agg #[Value.bool a_0, Value.slice a_1A a_1n a_1c], Value.agg #[Value.bool b_0, Value.slice b_1A b_1n b_1c]] h R by kernel_rfl) hv)

def integer_Mul_vc (a_0 : Bool) (a_1A : Option Addr) (a_1n a_1c : Nat) (b_0 : Bool) (b_1A : Option Addr) (b_1n b_1c : Nat) (h : Heap) (R : Value → Heap → Prop) : Prop :=
 CallsU Tryd.prog 49 [Value.slice a_1A a_1n a_1c, Value.slice b_1A b_1n b_1c] h fun v h_1 =>
 ∃ t14A : Option Addr, ∃ t14n t14c : Nat, v = Value.slice t14A t14n t14c ∧
 CallsU Tryd.prog 53 [Value.bool (!(a_0 == b_0)), Value.slice t14A t14n t14c] h_1 fun v_1 h_2 =>
 ∃ t15_0 : Bool, ∃ t15_1A : Option Addr, ∃ t15_1n t15_1c : Nat, v_1 = Value.agg #[Value.bool t15_0, Value.slice t15_1A t15_1n t15_1c] ∧
 R (Value.agg #[Value.bool t15_0, Value.slice t15_1A t15_1n t15_1c]) h_2

set_option maxRecDepth 100000 in
theorem integer_Mul_ok {a_0 : Bool} {a_1A : Option Addr} {a_1n a_1c : Nat} {b_0 : Bool} {b_1A : Option Addr} {b_1n b_1c : Nat} {h : Heap} {R : Value → Heap → Prop} (hv : integer_Mul_vc a_0 a_1A a_1n a_1c b_0 b_1A b_1n b_1c h R) : CallsU Tryd.prog 33 [Value.agg #[Value.bool a_0, Value.slice a_1A a_1n a_1c], Value.agg #[Value.bool b_0, Value.slice b_1A b_1n b_1c]] h R :=
  fn_sound Tryd.func33 (by kernel_rfl) (by kernel_rfl) (by kernel_rfl) (fun _ => false) (.two .nil (.two (.ord [0, 1, 2, 3, 4, 5, 6, 7, 8, 9, 10, 11]) .nil)) [Value.agg #[Value.bool a_0, Value.slice a_1A a_1n a_1c], Value.agg #[Value.bool b_0, Value.slice b_1A b_1n b_1c]] h R (by kernel_rfl)
    (Eq.mp (show integer_Mul_vc a_0 a_1A a_1n a_1c b_0 b_1A b_1n b_1c h R = fnV Tryd.prog Tryd.f33 (fun _ => false) (.two .nil (.two (.ord [0, 1, 2, 3, 4, 5, 6, 7, 8, 9, 10, 11]) .nil)) [Value.agg #[Value.bool a_0, Value.slice a_1A a_1n a_1c], Value.agg #[Value.bool b_0, Value.slice b_1A b_1n b_1c]] h R by kernel_rfl) hv)

def integer_Of_vc (n : Int) (h : Heap) (R : Value → Heap → Prop) : Prop :=
 Br (decide (n < 0))
  (∀ t7 : Int, t7 = IntKind.u64.wrap (0 - (IntKind.u64.wrap n)) →
 CallsU Tryd.prog 26 [Value.int .u64 t7] h fun v h_1 =>
 ∃ t8A : Option Addr, ∃ t8n t8c : Nat, v = Value.slice t8A t8n t8c ∧
 CallsU Tryd.prog 53 [Value.bool true, Value.slice t8A t8n t8c] h_1 fun v_1 h_2 =>
 ∃ t9_0 : Bool, ∃ t9_1A : Option Addr, ∃ t9_1n t9_1c : Nat, v_1 = Value.agg #[Value.bool t9_0, Value.slice t9_1A t9_1n t9_1c] ∧
 R (Value.agg #[Value.bool t9_0, Value.slice t9_1A t9_1n t9_1c]) h_2)
  (CallsU Tryd.prog 26 [Value.int .u64 (IntKind.u64.wrap n)] h fun v_2 h_3 =>
 ∃ t12A : Option Addr, ∃ t12n t12c : Nat, v_2 = Value.slice t12A t12n t12c ∧
 CallsU Tryd.prog 53 [Value.bool false, Value.slice t12A t12n t12c] h_3 fun v_3 h_4 =>
 ∃ t13_0 : Bool, ∃ t13_1A : Option Addr, ∃ t13_1n t13_1c : Nat, v_3 = Value.agg #[Value.bool t13_0, Value.slice t13_1A t13_1n t13_1c] ∧
 R (Value.agg #[Value.bool t13_0, Value.slice t13_1A t13_1n t13_1c]) h_4)

set_option maxRecDepth 100000 in
theorem integer_Of_ok {n : Int} {h : Heap} {R : Value → Heap → Prop} (hv : integer_Of_vc n h R) : CallsU Tryd.prog 37 [Value.int .i64 n] h R :=
  fn_sound Tryd.func37 (by kernel_rfl) (by kernel_rfl) (by kernel_rfl) (fun _ => false) .nil [Value.int .i64 n] h R (by kernel_rfl)
    (Eq.mp (show integer_Of_vc n h R = fnV Tryd.prog Tryd.f37 (fun _ => false) .nil [Value.int .i64 n] h R by kernel_rfl) hv)

def integer_Text_vc (a_0 : Bool) (a_1A : Option Addr) (a_1n a_1c : Nat) (h : Heap) (R : Value → Heap → Prop) : Prop :=
 CallsU Tryd.prog 52 [Value.agg #[Value.bool a_0, Value.slice a_1A a_1n a_1c]] h fun v h_1 =>
 ∃ t4_0 : Bool, ∃ t4_1A : Option Addr, ∃ t4_1n t4_1c : Nat, v = Value.agg #[Value.bool t4_0, Value.slice t4_1A t4_1n t4_1c] ∧
 Br (t4_0)
  (CallsU Tryd.prog 42 [Value.slice t4_1A t4_1n t4_1c] h_1 fun v_1 h_2 =>
 ∃ t9 : ByteArray, v_1 = Value.string t9 ∧
 (((⟨#[45]⟩ : ByteArray).size + t9.size : Nat) : Int) ≤ 9223372036854775807 ∧
 R (Value.string ((⟨#[45]⟩ : ByteArray) ++ t9)) h_2)
  (CallsU Tryd.prog 42 [Value.slice t4_1A t4_1n t4_1c] h_1 fun v_2 h_3 =>
 ∃ t13 : ByteArray, v_2 = Value.string t13 ∧
 R (Value.string t13) h_3)

set_option maxRecDepth 100000 in
theorem integer_Text_ok {a_0 : Bool} {a_1A : Option Addr} {a_1n a_1c : Nat} {h : Heap} {R : Value → Heap → Prop} (hv : integer_Text_vc a_0 a_1A a_1n a_1c h R) : CallsU Tryd.prog 41 [Value.agg #[Value.bool a_0, Value.slice a_1A a_1n a_1c]] h R :=
  fn_sound Tryd.func41 (by kernel_rfl) (by kernel_rfl) (by kernel_rfl) (fun _ => false) .nil [Value.agg #[Value.bool a_0, Value.slice a_1A a_1n a_1c]] h R (by kernel_rfl)
    (Eq.mp (show integer_Text_vc a_0 a_1A a_1n a_1c h R = fnV Tryd.prog Tryd.f41 (fun _ => false) .nil [Value.agg #[Value.bool a_0, Value.slice a_1A a_1n a_1c]] h R by kernel_rfl) hv)

def integer_Norm_vc (a_0 : Bool) (a_1A : Option Addr) (a_1n a_1c : Nat) (h : Heap) (R : Value → Heap → Prop) : Prop :=
 CallsU Tryd.prog 53 [Value.bool a_0, Value.slice a_1A a_1n a_1c] h fun v h_1 =>
 ∃ t7_0 : Bool, ∃ t7_1A : Option Addr, ∃ t7_1n t7_1c : Nat, v = Value.agg #[Value.bool t7_0, Value.slice t7_1A t7_1n t7_1c] ∧
 R (Value.agg #[Value.bool t7_0, Value.slice t7_1A t7_1n t7_1c]) h_1

set_option maxRecDepth 100000 in
theorem integer_Norm_ok {a_0 : Bool} {a_1A : Option Addr} {a_1n a_1c : Nat} {h : Heap} {R : Value → Heap → Prop} (hv : integer_Norm_vc a_0 a_1A a_1n a_1c h R) : CallsU Tryd.prog 52 [Value.agg #[Value.bool a_0, Value.slice a_1A a_1n a_1c]] h R :=
  fn_sound Tryd.func52 (by kernel_rfl) (by kernel_rfl) (by kernel_rfl) (fun _ => false) .nil [Value.agg #[Value.bool a_0, Value.slice a_1A a_1n a_1c]] h R (by kernel_rfl)
    (Eq.mp (show integer_Norm_vc a_0 a_1A a_1n a_1c h R = fnV Tryd.prog Tryd.f52 (fun _ => false) .nil [Value.agg #[Value.bool a_0, Value.slice a_1A a_1n a_1c]] h R by kernel_rfl) hv)

def integer_signed_vc (neg : Bool) (magA : Option Addr) (magn magc : Nat) (h : Heap) (R : Value → Heap → Prop) : Prop :=
 CallsU Tryd.prog 66 [Value.slice magA magn magc] h fun v h_1 =>
 ∃ t6A : Option Addr, ∃ t6n t6c : Nat, v = Value.slice t6A t6n t6c ∧
 Br (neg)
  (R (Value.agg #[Value.bool (decide (((t6n : Nat) : Int) > 0)), Value.slice t6A t6n t6c]) h_1)
  (R (Value.agg #[Value.bool false, Value.slice t6A t6n t6c]) h_1)

set_option maxRecDepth 100000 in
theorem integer_signed_ok {neg : Bool} {magA : Option Addr} {magn magc : Nat} {h : Heap} {R : Value → Heap → Prop} (hv : integer_signed_vc neg magA magn magc h R) : CallsU Tryd.prog 53 [Value.bool neg, Value.slice magA magn magc] h R :=
  fn_sound Tryd.func53 (by kernel_rfl) (by kernel_rfl) (by kernel_rfl) (fun _ => false) .nil [Value.bool neg, Value.slice magA magn magc] h R (by kernel_rfl)
    (Eq.mp (show integer_signed_vc neg magA magn magc h R = fnV Tryd.prog Tryd.f53 (fun _ => false) .nil [Value.bool neg, Value.slice magA magn magc] h R by kernel_rfl) hv)

end Go.Proofs.YtfhipkdcekffaaaDoor
