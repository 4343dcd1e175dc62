/-
  Gathered texts of this proof: VcM, Cn13, VcX.
-/
import Derived.Test.YtccplhjglhdopaaGreatDoorG02
import Derived.Test.YtccplhjglhdopaaGreatDoorChecked
import Derived.Test.YtccplhjglhdopaaGreatDoorG04

/- Made by vcgen.py: verification conditions of functions, each held against the calculator by the kernel. -/
namespace Go.Proofs.YtccplhjglhdopaaGreatDoor
open Go Go.Vcg

def ref04_Parse_vc (s : ByteArray) (h : Heap) (R : Value → Heap → Prop) : Prop :=
 Br (decide (((s.size : Nat) : Int) > 24))
  (R (Value.tuple #[Value.agg #[Value.bool false, Value.slice none 0 0, Value.slice none 0 0], Value.int .i64 5]) h)
  (∃ C : ByteArray → Int → Heap → Prop, (∀ (s_1 : ByteArray) (sign : Int) (h_1 : Heap), C s_1 sign h_1 →
 CallsU Tryz.prog 34 [Value.string s_1] h_1 fun v h_2 =>
 ∃ t28_0 : Int, ∃ t28_1 : ByteArray, v = Value.tuple #[Value.int .i64 t28_0, Value.string t28_1] ∧
 CallsU Tryz.prog 35 [Value.string t28_1] h_2 fun v_1 h_3 =>
 ∃ t33_0 : Int, ∃ t33_1 : Int, ∃ t33_2 : Bool, v_1 = Value.tuple #[Value.int .i64 t33_0, Value.int .i64 t33_1, Value.bool t33_2] ∧
 ∃ C_1 : Bool → Heap → Prop, (∀ (t42 : Bool) (h_4 : Heap), C_1 t42 h_4 →
 Br (t42)
  (R (Value.tuple #[Value.agg #[Value.bool false, Value.slice none 0 0, Value.slice none 0 0], Value.int .i64 2]) h_4)
  (∀ t47 : Int, t47 = IntKind.i64.wrap (sign * t28_0) →
 ∀ t49 : Int, t49 = IntKind.i64.wrap (t47 * t33_0) →
 CallsU Tryz.prog 28 [Value.int .i64 t49, Value.int .i64 t33_1] h_4 fun v_2 h_5 =>
 ∃ t51_0_0 : Bool, ∃ t51_0_1A : Option Addr, ∃ t51_0_1n t51_0_1c : Nat, ∃ t51_0_2A : Option Addr, ∃ t51_0_2n t51_0_2c : Nat, ∃ t51_1 : Bool, v_2 = Value.tuple #[Value.agg #[Value.bool t51_0_0, Value.slice t51_0_1A t51_0_1n t51_0_1c, Value.slice t51_0_2A t51_0_2n t51_0_2c], Value.bool t51_1] ∧
 R (Value.tuple #[Value.agg #[Value.bool t51_0_0, Value.slice t51_0_1A t51_0_1n t51_0_1c, Value.slice t51_0_2A t51_0_2n t51_0_2c], Value.int .i64 0]) h_5)) ∧
 Br ((t28_0 : Int) == 0)
  (C_1 true h_3)
  (C_1 (!t33_2) h_3)) ∧
 Br (decide (((s.size : Nat) : Int) > 0))
  (∃ c : UInt8, 0 ≤ (0 : Int) ∧ s[(0 : Nat)]? = some c ∧
 Br (((c.toNat : Int) : Int) == 45)
  (((0 : Nat) : Int) ≤ (1 : Int) ∧ 1 ≤ ((s.size : Nat) : Int) ∧
 C (ByteArray.extract s 1 s.size) (-1) h)
  (C s 1 h))
  (C s 1 h))

set_option maxRecDepth 100000 in
theorem ref04_Parse_ok {s : ByteArray} {h : Heap} {R : Value → Heap → Prop} (hv : ref04_Parse_vc s h R) : CallsU Tryz.prog 13 [Value.string s] h R :=
  fn_sound Tryz.func13 (by kernel_rfl) (by kernel_rfl) (by kernel_rfl) (fun _ => false) (.two .nil (.two .nil (.two .nil (.cut ⟨[(0, Sh.str), (4, Sh.int .i64)], []⟩ .nil (.two .nil (.two .nil (.two (.cut ⟨[(42, Sh.bool)], []⟩ .nil .nil) .nil))))))) [Value.string s] h R (by kernel_rfl)
    (Eq.mp (show ref04_Parse_vc s h R = fnV Tryz.prog Tryz.f13 (fun _ => false) (.two .nil (.two .nil (.two .nil (.cut ⟨[(0, Sh.str), (4, Sh.int .i64)], []⟩ .nil (.two .nil (.two .nil (.two (.cut ⟨[(42, Sh.bool)], []⟩ .nil .nil) .nil))))))) [Value.string s] h R by kernel_rfl) hv)

def ref03_Same_vc (a_0 : Bool) (a_1A : Option Addr) (a_1n a_1c : Nat) (a_2A : Option Addr) (a_2n a_2c : Nat) (b_0 : Bool) (b_1A : Option Addr) (b_1n b_1c : Nat) (b_2A : Option Addr) (b_2n b_2c : Nat) (h : Heap) (R : Value → Heap → Prop) : Prop :=
 CallsU Tryz.prog 36 [Value.agg #[Value.bool a_0, Value.slice a_1A a_1n a_1c], Value.agg #[Value.bool b_0, Value.slice b_1A b_1n b_1c]] h fun v h_1 =>
 ∃ t9 : Bool, v = Value.bool t9 ∧
 Br (t9)
  (CallsU Tryz.prog 37 [Value.slice a_2A a_2n a_2c, Value.slice b_2A b_2n b_2c] h_1 fun v_1 h_2 =>
 ∃ t15 : Bool, v_1 = Value.bool t15 ∧
 R (Value.bool t15) h_2)
  (R (Value.bool false) h_1)

set_option maxRecDepth 100000 in
theorem ref03_Same_ok {a_0 : Bool} {a_1A : Option Addr} {a_1n a_1c : Nat} {a_2A : Option Addr} {a_2n a_2c : Nat} {b_0 : Bool} {b_1A : Option Addr} {b_1n b_1c : Nat} {b_2A : Option Addr} {b_2n b_2c : Nat} {h : Heap} {R : Value → Heap → Prop} (hv : ref03_Same_vc a_0 a_1A a_1n a_1c a_2A a_2n a_2c b_0 b_1A b_1n b_1c b_2A b_2n b_2c h R) : CallsU Tryz.prog 14 [Value.agg #[Value.bool a_0, Value.slice a_1A a_1n a_1c, Value.slice a_2A a_2n a_2c], Value.agg #[Value.bool b_0, Value.slice b_1A b_1n b_1c, Value.slice b_2A b_2n b_2c]] h R :=
  fn_sound Tryz.func14 (by kernel_rfl) (by kernel_rfl) (by kernel_rfl) (fun _ => false) .nil [Value.agg #[Value.bool a_0, Value.slice a_1A a_1n a_1c, Value.slice a_2A a_2n a_2c], Value.agg #[Value.bool b_0, Value.slice b_1A b_1n b_1c, Value.slice b_2A b_2n b_2c]] h R (by kernel_rfl)
    (Eq.mp (show ref03_Same_vc a_0 a_1A a_1n a_1c a_2A a_2n a_2c b_0 b_1A b_1n b_1c b_2A b_2n b_2c h R = fnV Tryz.prog Tryz.f14 (fun _ => false) .nil [Value.agg #[Value.bool a_0, Value.slice a_1A a_1n a_1c, Value.slice a_2A a_2n a_2c], Value.agg #[Value.bool b_0, Value.slice b_1A b_1n b_1c, Value.slice b_2A b_2n b_2c]] h R by kernel_rfl) hv)

def ref03_Light_vc (_a_0 : Bool) (_a_1A : Option Addr) (a_1n _a_1c : Nat) (_a_2A : Option Addr) (a_2n _a_2c : Nat) (n : Int) (h : Heap) (R : Value → Heap → Prop) : Prop :=
 Br (decide (((a_1n : Nat) : Int) ≤ n))
  (R (Value.bool (decide (((a_2n : Nat) : Int) ≤ n))) h)
  (R (Value.bool false) h)

set_option maxRecDepth 100000 in
theorem ref03_Light_ok {a_0 : Bool} {a_1A : Option Addr} {a_1n a_1c : Nat} {a_2A : Option Addr} {a_2n a_2c : Nat} {n : Int} {h : Heap} {R : Value → Heap → Prop} (hv : ref03_Light_vc a_0 a_1A a_1n a_1c a_2A a_2n a_2c n h R) : CallsU Tryz.prog 15 [Value.agg #[Value.bool a_0, Value.slice a_1A a_1n a_1c, Value.slice a_2A a_2n a_2c], Value.int .i64 n] h R :=
  fn_sound Tryz.func15 (by kernel_rfl) (by kernel_rfl) (by kernel_rfl) (fun _ => false) .nil [Value.agg #[Value.bool a_0, Value.slice a_1A a_1n a_1c, Value.slice a_2A a_2n a_2c], Value.int .i64 n] h R (by kernel_rfl)
    (Eq.mp (show ref03_Light_vc a_0 a_1A a_1n a_1c a_2A a_2n a_2c n h R = fnV Tryz.prog Tryz.f15 (fun _ => false) .nil [Value.agg #[Value.bool a_0, Value.slice a_1A a_1n a_1c, Value.slice a_2A a_2n a_2c], Value.int .i64 n] h R by kernel_rfl) hv)

def ref04_Format_vc (r_0 : Bool) (r_1A : Option Addr) (r_1n r_1c : Nat) (r_2A : Option Addr) (r_2n r_2c : Nat) (h : Heap) (R : Value → Heap → Prop) : Prop :=
 CallsU Tryz.prog 27 [Value.int .i64 100] h fun v h_1 =>
 ∃ t20_0 : Bool, ∃ t20_1A : Option Addr, ∃ t20_1n t20_1c : Nat, ∃ t20_2A : Option Addr, ∃ t20_2n t20_2c : Nat, v = Value.agg #[Value.bool t20_0, Value.slice t20_1A t20_1n t20_1c, Value.slice t20_2A t20_2n t20_2c] ∧
 LeH h h_1 ∧
 CallsU Tryz.prog 45 [Value.agg #[Value.bool r_0, Value.slice r_1A r_1n r_1c, Value.slice r_2A r_2n r_2c], Value.agg #[Value.bool t20_0, Value.slice t20_1A t20_1n t20_1c, Value.slice t20_2A t20_2n t20_2c]] h_1 fun v_1 h_2 =>
 ∃ t21_0_0 : Bool, ∃ t21_0_1A : Option Addr, ∃ t21_0_1n t21_0_1c : Nat, ∃ t21_0_2A : Option Addr, ∃ t21_0_2n t21_0_2c : Nat, ∃ t21_1 : Bool, v_1 = Value.tuple #[Value.agg #[Value.bool t21_0_0, Value.slice t21_0_1A t21_0_1n t21_0_1c, Value.slice t21_0_2A t21_0_2n t21_0_2c], Value.bool t21_1] ∧
 ∃ C : ByteArray → Bool → Option Addr → Nat → Nat → Option Addr → Nat → Nat → Heap → Prop, (∀ (sign : ByteArray) (v_0 : Bool) (v_1A : Option Addr) (v_1n v_1c : Nat) (v_2A : Option Addr) (v_2n v_2c : Nat) (h_3 : Heap), C sign v_0 v_1A v_1n v_1c v_2A v_2n v_2c h_3 →
 CallsU Tryz.prog 49 [Value.agg #[Value.bool v_0, Value.slice v_1A v_1n v_1c, Value.slice v_2A v_2n v_2c]] h_3 fun v_2 h_4 =>
 ∃ t31_0 : Bool, ∃ t31_1A : Option Addr, ∃ t31_1n t31_1c : Nat, v_2 = Value.agg #[Value.bool t31_0, Value.slice t31_1A t31_1n t31_1c] ∧
 CallsU Tryz.prog 48 [Value.agg #[Value.bool t31_0, Value.slice t31_1A t31_1n t31_1c], Value.int .i64 9999999] h_4 fun v_3 h_5 =>
 ∃ t32_0 : Int, ∃ t32_1 : Bool, v_3 = Value.tuple #[Value.int .i64 t32_0, Value.bool t32_1] ∧
 Br (!t32_1)
  (R (Value.tuple #[Value.string (⟨#[]⟩ : ByteArray), Value.int .i64 3]) h_5)
  (CallsU Tryz.prog 27 [Value.int .i64 t32_0] h_5 fun v_4 h_6 =>
 ∃ t39_0 : Bool, ∃ t39_1A : Option Addr, ∃ t39_1n t39_1c : Nat, ∃ t39_2A : Option Addr, ∃ t39_2n t39_2c : Nat, v_4 = Value.agg #[Value.bool t39_0, Value.slice t39_1A t39_1n t39_1c, Value.slice t39_2A t39_2n t39_2c] ∧
 LeH h_5 h_6 ∧
 CallsU Tryz.prog 50 [Value.agg #[Value.bool v_0, Value.slice v_1A v_1n v_1c, Value.slice v_2A v_2n v_2c], Value.agg #[Value.bool t39_0, Value.slice t39_1A t39_1n t39_1c, Value.slice t39_2A t39_2n t39_2c]] h_6 fun v_5 h_7 =>
 ∃ t40_0 : Bool, ∃ t40_1A : Option Addr, ∃ t40_1n t40_1c : Nat, ∃ t40_2A : Option Addr, ∃ t40_2n t40_2c : Nat, v_5 = Value.agg #[Value.bool t40_0, Value.slice t40_1A t40_1n t40_1c, Value.slice t40_2A t40_2n t40_2c] ∧
 CallsU Tryz.prog 27 [Value.int .i64 10000] h_7 fun v_6 h_8 =>
 ∃ t42_0 : Bool, ∃ t42_1A : Option Addr, ∃ t42_1n t42_1c : Nat, ∃ t42_2A : Option Addr, ∃ t42_2n t42_2c : Nat, v_6 = Value.agg #[Value.bool t42_0, Value.slice t42_1A t42_1n t42_1c, Value.slice t42_2A t42_2n t42_2c] ∧
 LeH h_7 h_8 ∧
 CallsU Tryz.prog 51 [Value.agg #[Value.bool t40_0, Value.slice t40_1A t40_1n t40_1c, Value.slice t40_2A t40_2n t40_2c], Value.agg #[Value.bool t42_0, Value.slice t42_1A t42_1n t42_1c, Value.slice t42_2A t42_2n t42_2c]] h_8 fun v_7 h_9 =>
 ∃ t43_0 : Bool, ∃ t43_1A : Option Addr, ∃ t43_1n t43_1c : Nat, ∃ t43_2A : Option Addr, ∃ t43_2n t43_2c : Nat, v_7 = Value.agg #[Value.bool t43_0, Value.slice t43_1A t43_1n t43_1c, Value.slice t43_2A t43_2n t43_2c] ∧
 CallsU Tryz.prog 53 [Value.int .u64 1] h_9 fun v_8 h_10 =>
 ∃ t46A : Option Addr, ∃ t46n t46c : Nat, v_8 = Value.slice t46A t46n t46c ∧
 LeH h_9 h_10 ∧
 CallsU Tryz.prog 52 [Value.slice t43_2A t43_2n t43_2c, Value.slice t46A t46n t46c] h_10 fun v_9 h_11 =>
 ∃ t47 : Int, v_9 = Value.int .i64 t47 ∧
 Br ((t47 : Int) == 0)
  (CallsU Tryz.prog 48 [Value.agg #[Value.bool t43_0, Value.slice t43_1A t43_1n t43_1c], Value.int .i64 9999] h_11 fun v_10 h_12 =>
 ∃ t52_0 : Int, ∃ t52_1 : Bool, v_10 = Value.tuple #[Value.int .i64 t52_0, Value.bool t52_1] ∧
 CallsU Tryz.prog 54 [Value.int .i64 t32_0] h_12 fun v_11 h_13 =>
 ∃ t57 : ByteArray, v_11 = Value.string t57 ∧
 ((sign.size + t57.size : Nat) : Int) ≤ 9223372036854775807 ∧
 CallsU Tryz.prog 55 [Value.int .i64 t52_0] h_13 fun v_12 h_14 =>
 ∃ t60 : ByteArray, v_12 = Value.string t60 ∧
 (((sign ++ t57).size + t60.size : Nat) : Int) ≤ 9223372036854775807 ∧
 ((((sign ++ t57) ++ t60).size + (⟨#[109, 109]⟩ : ByteArray).size : Nat) : Int) ≤ 9223372036854775807 ∧
 R (Value.tuple #[Value.string (((sign ++ t57) ++ t60) ++ (⟨#[109, 109]⟩ : ByteArray)), Value.int .i64 0]) h_14)
  (CallsU Tryz.prog 48 [Value.agg #[Value.bool false, Value.slice t40_2A t40_2n t40_2c], Value.int .i64 999] h_11 fun v_13 h_15 =>
 ∃ t67_0 : Int, ∃ t67_1 : Bool, v_13 = Value.tuple #[Value.int .i64 t67_0, Value.bool t67_1] ∧
 Br (!t67_1)
  (R (Value.tuple #[Value.string (⟨#[]⟩ : ByteArray), Value.int .i64 3]) h_15)
  (CallsU Tryz.prog 48 [Value.agg #[Value.bool t40_0, Value.slice t40_1A t40_1n t40_1c], Value.int .i64 999] h_15 fun v_14 h_16 =>
 ∃ t75_0 : Int, ∃ t75_1 : Bool, v_14 = Value.tuple #[Value.int .i64 t75_0, Value.bool t75_1] ∧
 CallsU Tryz.prog 54 [Value.int .i64 t75_0] h_16 fun v_15 h_17 =>
 ∃ t79 : ByteArray, v_15 = Value.string t79 ∧
 ((t79.size + (⟨#[47]⟩ : ByteArray).size : Nat) : Int) ≤ 9223372036854775807 ∧
 CallsU Tryz.prog 54 [Value.int .i64 t67_0] h_17 fun v_16 h_18 =>
 ∃ t82 : ByteArray, v_16 = Value.string t82 ∧
 (((t79 ++ (⟨#[47]⟩ : ByteArray)).size + t82.size : Nat) : Int) ≤ 9223372036854775807 ∧
 ((((t79 ++ (⟨#[47]⟩ : ByteArray)) ++ t82).size + (⟨#[109, 109]⟩ : ByteArray).size : Nat) : Int) ≤ 9223372036854775807 ∧
 Br (decide (t32_0 > 0))
  (CallsU Tryz.prog 54 [Value.int .i64 t32_0] h_18 fun v_17 h_19 =>
 ∃ t88 : ByteArray, v_17 = Value.string t88 ∧
 ((t88.size + (⟨#[32]⟩ : ByteArray).size : Nat) : Int) ≤ 9223372036854775807 ∧
 (((t88 ++ (⟨#[32]⟩ : ByteArray)).size + (((t79 ++ (⟨#[47]⟩ : ByteArray)) ++ t82) ++ (⟨#[109, 109]⟩ : ByteArray)).size : Nat) : Int) ≤ 9223372036854775807 ∧
 ((sign.size + ((t88 ++ (⟨#[32]⟩ : ByteArray)) ++ (((t79 ++ (⟨#[47]⟩ : ByteArray)) ++ t82) ++ (⟨#[109, 109]⟩ : ByteArray))).size : Nat) : Int) ≤ 9223372036854775807 ∧
 R (Value.tuple #[Value.string (sign ++ ((t88 ++ (⟨#[32]⟩ : ByteArray)) ++ (((t79 ++ (⟨#[47]⟩ : ByteArray)) ++ t82) ++ (⟨#[109, 109]⟩ : ByteArray)))), Value.int .i64 0]) h_19)
  (((sign.size + (((t79 ++ (⟨#[47]⟩ : ByteArray)) ++ t82) ++ (⟨#[109, 109]⟩ : ByteArray)).size : Nat) : Int) ≤ 9223372036854775807 ∧
 R (Value.tuple #[Value.string (sign ++ (((t79 ++ (⟨#[47]⟩ : ByteArray)) ++ t82) ++ (⟨#[109, 109]⟩ : ByteArray))), Value.int .i64 0]) h_18))))) ∧
 CallsU Tryz.prog 46 [Value.agg #[Value.bool t21_0_0, Value.slice t21_0_1A t21_0_1n t21_0_1c, Value.slice t21_0_2A t21_0_2n t21_0_2c]] h_2 fun v_18 h_20 =>
 ∃ t25 : Int, v_18 = Value.int .i64 t25 ∧
 Br (decide (t25 < 0))
  (CallsU Tryz.prog 47 [Value.agg #[Value.bool t21_0_0, Value.slice t21_0_1A t21_0_1n t21_0_1c, Value.slice t21_0_2A t21_0_2n t21_0_2c]] h_20 fun v_19 h_21 =>
 ∃ t28_0 : Bool, ∃ t28_1A : Option Addr, ∃ t28_1n t28_1c : Nat, ∃ t28_2A : Option Addr, ∃ t28_2n t28_2c : Nat, v_19 = Value.agg #[Value.bool t28_0, Value.slice t28_1A t28_1n t28_1c, Value.slice t28_2A t28_2n t28_2c] ∧
 C (⟨#[45]⟩ : ByteArray) t28_0 t28_1A t28_1n t28_1c t28_2A t28_2n t28_2c h_21)
  (C (⟨#[]⟩ : ByteArray) t21_0_0 t21_0_1A t21_0_1n t21_0_1c t21_0_2A t21_0_2n t21_0_2c h_20)

set_option maxRecDepth 100000 in
theorem ref04_Format_ok {r_0 : Bool} {r_1A : Option Addr} {r_1n r_1c : Nat} {r_2A : Option Addr} {r_2n r_2c : Nat} {h : Heap} {R : Value → Heap → Prop} (hv : ref04_Format_vc r_0 r_1A r_1n r_1c r_2A r_2n r_2c h R) : CallsU Tryz.prog 17 [Value.agg #[Value.bool r_0, Value.slice r_1A r_1n r_1c, Value.slice r_2A r_2n r_2c]] h R :=
  fn_sound Tryz.func17 (by kernel_rfl) (by kernel_rfl) (by kernel_rfl) (fun _ => false) (.two .nil (.two (.ord [0, 1, 2, 3, 4, 5, 6, 7, 8]) (.two .nil (.cut ⟨[(6, Sh.str)], [(1, [Sh.bool, Sh.slice, Sh.slice])]⟩ .nil (.two .nil (.two .nil (.two (.ord [0, 1, 2, 3, 4, 5]) (.two (.ord [0, 1, 2, 3, 4]) (.two (.two (.ord [0, 1, 2, 3, 4]) .nil) .nil))))))))) [Value.agg #[Value.bool r_0, Value.slice r_1A r_1n r_1c, Value.slice r_2A r_2n r_2c]] h R (by kernel_rfl)
    (Eq.mp (show ref04_Format_vc r_0 r_1A r_1n r_1c r_2A r_2n r_2c h R = fnV Tryz.prog Tryz.f17 (fun _ => false) (.two .nil (.two (.ord [0, 1, 2, 3, 4, 5, 6, 7, 8]) (.two .nil (.cut ⟨[(6, Sh.str)], [(1, [Sh.bool, Sh.slice, Sh.slice])]⟩ .nil (.two .nil (.two .nil (.two (.ord [0, 1, 2, 3, 4, 5]) (.two (.ord [0, 1, 2, 3, 4]) (.two (.two (.ord [0, 1, 2, 3, 4]) .nil) .nil))))))))) [Value.agg #[Value.bool r_0, Value.slice r_1A r_1n r_1c, Value.slice r_2A r_2n r_2c]] h R by kernel_rfl) hv)

def ref04_Units_vc (r_0 : Bool) (r_1A : Option Addr) (r_1n r_1c : Nat) (r_2A : Option Addr) (r_2n r_2c : Nat) (h : Heap) (R : Value → Heap → Prop) : Prop :=
 CallsU Tryz.prog 59 [Value.agg #[Value.bool r_0, Value.slice r_1A r_1n r_1c, Value.slice r_2A r_2n r_2c]] h fun v h_1 =>
 ∃ t8_0 : Bool, ∃ t8_1A : Option Addr, ∃ t8_1n t8_1c : Nat, v = Value.agg #[Value.bool t8_0, Value.slice t8_1A t8_1n t8_1c] ∧
 CallsU Tryz.prog 58 [Value.agg #[Value.bool t8_0, Value.slice t8_1A t8_1n t8_1c]] h_1 fun v_1 h_2 =>
 ∃ t9_0 : Int, ∃ t9_1 : Bool, v_1 = Value.tuple #[Value.int .i64 t9_0, Value.bool t9_1] ∧
 Br (!t9_1)
  (R (Value.tuple #[Value.int .i64 0, Value.int .i64 3]) h_2)
  (Br (decide (t9_0 > 1048576))
  (R (Value.tuple #[Value.int .i64 0, Value.int .i64 3]) h_2)
  (Br (decide (t9_0 < (-1048576)))
  (R (Value.tuple #[Value.int .i64 0, Value.int .i64 3]) h_2)
  (R (Value.tuple #[Value.int .i64 t9_0, Value.int .i64 0]) h_2)))

set_option maxRecDepth 100000 in
theorem ref04_Units_ok {r_0 : Bool} {r_1A : Option Addr} {r_1n r_1c : Nat} {r_2A : Option Addr} {r_2n r_2c : Nat} {h : Heap} {R : Value → Heap → Prop} (hv : ref04_Units_vc r_0 r_1A r_1n r_1c r_2A r_2n r_2c h R) : CallsU Tryz.prog 19 [Value.agg #[Value.bool r_0, Value.slice r_1A r_1n r_1c, Value.slice r_2A r_2n r_2c]] h R :=
  fn_sound Tryz.func19 (by kernel_rfl) (by kernel_rfl) (by kernel_rfl) (fun _ => false) .nil [Value.agg #[Value.bool r_0, Value.slice r_1A r_1n r_1c, Value.slice r_2A r_2n r_2c]] h R (by kernel_rfl)
    (Eq.mp (show ref04_Units_vc r_0 r_1A r_1n r_1c r_2A r_2n r_2c h R = fnV Tryz.prog Tryz.f19 (fun _ => false) .nil [Value.agg #[Value.bool r_0, Value.slice r_1A r_1n r_1c, Value.slice r_2A r_2n r_2c]] h R by kernel_rfl) hv)

def ref03_Whole_vc (n : Int) (h : Heap) (R : Value → Heap → Prop) : Prop :=
 CallsU Tryz.prog 69 [Value.int .i64 n] h fun v h_1 =>
 ∃ t4_0 : Bool, ∃ t4_1A : Option Addr, ∃ t4_1n t4_1c : Nat, v = Value.agg #[Value.bool t4_0, Value.slice t4_1A t4_1n t4_1c] ∧
 CallsU Tryz.prog 53 [Value.int .u64 1] h_1 fun v_1 h_2 =>
 ∃ t5A : Option Addr, ∃ t5n t5c : Nat, v_1 = Value.slice t5A t5n t5c ∧
 R (Value.agg #[Value.bool t4_0, Value.slice t4_1A t4_1n t4_1c, Value.slice t5A t5n t5c]) h_2

set_option maxRecDepth 100000 in
theorem ref03_Whole_ok {n : Int} {h : Heap} {R : Value → Heap → Prop} (hv : ref03_Whole_vc n h R) : CallsU Tryz.prog 27 [Value.int .i64 n] h R :=
  fn_sound Tryz.func27 (by kernel_rfl) (by kernel_rfl) (by kernel_rfl) (fun _ => false) .nil [Value.int .i64 n] h R (by kernel_rfl)
    (Eq.mp (show ref03_Whole_vc n h R = fnV Tryz.prog Tryz.f27 (fun _ => false) .nil [Value.int .i64 n] h R by kernel_rfl) hv)

def ref03_Of_vc (num : Int) (den : Int) (h : Heap) (R : Value → Heap → Prop) : Prop :=
 Br ((den : Int) == 0)
  (R (Value.tuple #[Value.agg #[Value.bool false, Value.slice none 0 0, Value.slice none 0 0], Value.bool false]) h)
  (CallsU Tryz.prog 69 [Value.int .i64 num] h fun v h_1 =>
 ∃ t12_0 : Bool, ∃ t12_1A : Option Addr, ∃ t12_1n t12_1c : Nat, v = Value.agg #[Value.bool t12_0, Value.slice t12_1A t12_1n t12_1c] ∧
 CallsU Tryz.prog 69 [Value.int .i64 den] h_1 fun v_1 h_2 =>
 ∃ t14_0 : Bool, ∃ t14_1A : Option Addr, ∃ t14_1n t14_1c : Nat, v_1 = Value.agg #[Value.bool t14_0, Value.slice t14_1A t14_1n t14_1c] ∧
 CallsU Tryz.prog 70 [Value.bool (!(t12_0 == t14_0)), Value.slice t12_1A t12_1n t12_1c, Value.slice t14_1A t14_1n t14_1c] h_2 fun v_2 h_3 =>
 ∃ t24_0 : Bool, ∃ t24_1A : Option Addr, ∃ t24_1n t24_1c : Nat, ∃ t24_2A : Option Addr, ∃ t24_2n t24_2c : Nat, v_2 = Value.agg #[Value.bool t24_0, Value.slice t24_1A t24_1n t24_1c, Value.slice t24_2A t24_2n t24_2c] ∧
 R (Value.tuple #[Value.agg #[Value.bool t24_0, Value.slice t24_1A t24_1n t24_1c, Value.slice t24_2A t24_2n t24_2c], Value.bool true]) h_3)

set_option maxRecDepth 100000 in
theorem ref03_Of_ok {num : Int} {den : Int} {h : Heap} {R : Value → Heap → Prop} (hv : ref03_Of_vc num den h R) : CallsU Tryz.prog 28 [Value.int .i64 num, Value.int .i64 den] h R :=
  fn_sound Tryz.func28 (by kernel_rfl) (by kernel_rfl) (by kernel_rfl) (fun _ => false) .nil [Value.int .i64 num, Value.int .i64 den] h R (by kernel_rfl)
    (Eq.mp (show ref03_Of_vc num den h R = fnV Tryz.prog Tryz.f28 (fun _ => false) .nil [Value.int .i64 num, Value.int .i64 den] h R by kernel_rfl) hv)

def ref04_unit_vc (s : ByteArray) (h : Heap) (R : Value → Heap → Prop) : Prop :=
 ∀ (g : Nat) (h_1 : Heap), h g = none → h_1 = Heap.put h g ⟨[Value.string (⟨#[109, 109]⟩ : ByteArray), Value.string (⟨#[99, 109]⟩ : ByteArray), Value.string (⟨#[105, 110]⟩ : ByteArray), Value.string (⟨#[109]⟩ : ByteArray)], 9, (0, 0)⟩ →
 ∀ (g_1 : Nat) (h_2 : Heap), h_1 g_1 = none → h_2 = Heap.put h_1 g_1 ⟨[Value.int .i64 100, Value.int .i64 1000, Value.int .i64 2540, Value.int .i64 100000], 3, (0, 0)⟩ →
 ∃ J : Nat → Int → Heap → Prop, (∃ m, J m 0 h_2) ∧
 ∀ (m : Nat) (i : Int) (h_3 : Heap), J m i h_3 →
 Br (decide (i < 4))
  (∃ ad : Addr, some ⟨g, 0, none⟩ = some ad ∧ 0 ≤ i ∧ i < ((4 : Nat) : Int) ∧
 ∃ t21 : ByteArray, LdN h_3 (Addr.add ad (Int.toNat i * 1)) [Value.string t21] ∧
 ∀ t23 : Int, t23 = IntKind.i64.wrap (((s.size : Nat) : Int) - ((t21.size : Nat) : Int)) →
 ∃ C : Bool → Heap → Prop, (∀ (t35 : Bool) (h_4 : Heap), C t35 h_4 →
 Br (t35)
  (∃ ad_1 : Addr, some ⟨g_1, 0, none⟩ = some ad_1 ∧ 0 ≤ i ∧ i < ((4 : Nat) : Int) ∧
 ∃ t39 : Int, LdN h_4 (Addr.add ad_1 (Int.toNat i * 1)) [Value.int .i64 t39] ∧
 ((0 : Nat) : Int) ≤ t23 ∧ t23 ≤ ((s.size : Nat) : Int) ∧
 R (Value.tuple #[Value.int .i64 t39, Value.string (ByteArray.extract s 0 (Int.toNat t23))]) h_4)
  (∀ t15 : Int, t15 = IntKind.i64.wrap (i + 1) →
 ∃ m_1, m_1 < m ∧ J m_1 t15 h_4)) ∧
 Br (decide (t23 ≥ 0))
  (((0 : Nat) : Int) ≤ t23 ∧ t23 ≤ ((s.size : Nat) : Int) ∧
 ∃ ad_2 : Addr, some ⟨g, 0, none⟩ = some ad_2 ∧ 0 ≤ i ∧ i < ((4 : Nat) : Int) ∧
 ∃ t33 : ByteArray, LdN h_3 (Addr.add ad_2 (Int.toNat i * 1)) [Value.string t33] ∧
 C ((ByteArray.extract s (Int.toNat t23) s.size).toList == t33.toList) h_3)
  (C false h_3))
  (R (Value.tuple #[Value.int .i64 0, Value.string (⟨#[]⟩ : ByteArray)]) h_3)

set_option maxRecDepth 100000 in
theorem ref04_unit_ok {s : ByteArray} {h : Heap} {R : Value → Heap → Prop} (hv : ref04_unit_vc s h R) : CallsU Tryz.prog 34 [Value.string s] h R :=
  fn_sound Tryz.func34 (by kernel_rfl) (by kernel_rfl) (by kernel_rfl) (fun _ => false) (.two .nil (.two .nil (.two .nil (.two (.two .nil (.one (.loop ⟨[(6, Sh.int .i64)], []⟩ (.two .nil (.two (.one (.two .nil (.cut ⟨[(35, Sh.bool)], []⟩ (.ord [0, 1, 2, 3, 4, 5, 6, 7, 8, 9, 10, 11]) (.two (.two (.ord [0, 1, 2, 3, 4, 5, 6, 7, 8]) .nil) .nil)))) .nil))))) .nil)))) [Value.string s] h R (by kernel_rfl)
    (Eq.mp (show ref04_unit_vc s h R = fnV Tryz.prog Tryz.f34 (fun _ => false) (.two .nil (.two .nil (.two .nil (.two (.two .nil (.one (.loop ⟨[(6, Sh.int .i64)], []⟩ (.two .nil (.two (.one (.two .nil (.cut ⟨[(35, Sh.bool)], []⟩ (.ord [0, 1, 2, 3, 4, 5, 6, 7, 8, 9, 10, 11]) (.two (.two (.ord [0, 1, 2, 3, 4, 5, 6, 7, 8]) .nil) .nil)))) .nil))))) .nil)))) [Value.string s] h R by kernel_rfl) hv)

def ref04_value_vc (s : ByteArray) (h : Heap) (R : Value → Heap → Prop) : Prop :=
 CallsU Tryz.prog 80 [Value.string s, Value.int .u8 47] h fun v h_1 =>
 ∃ t19_0 : ByteArray, ∃ t19_1 : ByteArray, ∃ t19_2 : Bool, v = Value.tuple #[Value.string t19_0, Value.string t19_1, Value.bool t19_2] ∧
 Br (t19_2)
  (CallsU Tryz.prog 81 [Value.string t19_0, Value.string t19_1] h_1 fun v_1 h_2 =>
 ∃ t26_0 : Int, ∃ t26_1 : Int, ∃ t26_2 : Bool, v_1 = Value.tuple #[Value.int .i64 t26_0, Value.int .i64 t26_1, Value.bool t26_2] ∧
 R (Value.tuple #[Value.int .i64 t26_0, Value.int .i64 t26_1, Value.bool t26_2]) h_2)
  (CallsU Tryz.prog 80 [Value.string s, Value.int .u8 46] h_1 fun v_2 h_3 =>
 ∃ t32_0 : ByteArray, ∃ t32_1 : ByteArray, ∃ t32_2 : Bool, v_2 = Value.tuple #[Value.string t32_0, Value.string t32_1, Value.bool t32_2] ∧
 CallsU Tryz.prog 82 [Value.string t32_0, Value.int .i64 7] h_3 fun v_3 h_4 =>
 ∃ t38_0 : Int, ∃ t38_1 : Bool, v_3 = Value.tuple #[Value.int .i64 t38_0, Value.bool t38_1] ∧
 Br (!t32_2)
  (R (Value.tuple #[Value.int .i64 t38_0, Value.int .i64 1, Value.bool t38_1]) h_4)
  (CallsU Tryz.prog 83 [Value.string t32_1, Value.int .i64 4] h_4 fun v_4 h_5 =>
 ∃ t47_0 : Int, ∃ t47_1 : Bool, v_4 = Value.tuple #[Value.int .i64 t47_0, Value.bool t47_1] ∧
 ∃ C : Int → Heap → Prop, (∀ (den : Int) (h_6 : Heap), C den h_6 →
 ∀ t64 : Int, t64 = IntKind.i64.wrap (t38_0 * den) →
 ∀ t66 : Int, t66 = IntKind.i64.wrap (t64 + t47_0) →
 Br (t38_1)
  (R (Value.tuple #[Value.int .i64 t66, Value.int .i64 den, Value.bool t47_1]) h_6)
  (R (Value.tuple #[Value.int .i64 t66, Value.int .i64 den, Value.bool false]) h_6)) ∧
 ∃ J : Nat → Int → Int → Heap → Prop, (∃ m, J m 1 0 h_5) ∧
 ∀ (m : Nat) (den_1 : Int) (i : Int) (h_7 : Heap), J m den_1 i h_7 →
 Br (decide (i < ((t32_1.size : Nat) : Int)))
  (Br (decide (i < 4))
  (∀ t61 : Int, t61 = IntKind.i64.wrap (10 * den_1) →
 ∀ t59 : Int, t59 = IntKind.i64.wrap (i + 1) →
 ∃ m_1, m_1 < m ∧ J m_1 t61 t59 h_7)
  (C den_1 h_7))
  (C den_1 h_7)))

set_option maxRecDepth 100000 in
theorem ref04_value_ok {s : ByteArray} {h : Heap} {R : Value → Heap → Prop} (hv : ref04_value_vc s h R) : CallsU Tryz.prog 35 [Value.string s] h R :=
  fn_sound Tryz.func35 (by kernel_rfl) (by kernel_rfl) (by kernel_rfl) (fun _ => false) (.two .nil (.two .nil (.two .nil (.two .nil (.two .nil (.two .nil (.two .nil (.cut ⟨[(15, Sh.int .i64)], []⟩ (.two .nil (.one (.loop ⟨[(15, Sh.int .i64), (16, Sh.int .i64)], []⟩ .nil))) .nil)))))))) [Value.string s] h R (by kernel_rfl)
    (Eq.mp (show ref04_value_vc s h R = fnV Tryz.prog Tryz.f35 (fun _ => false) (.two .nil (.two .nil (.two .nil (.two .nil (.two .nil (.two .nil (.two .nil (.cut ⟨[(15, Sh.int .i64)], []⟩ (.two .nil (.one (.loop ⟨[(15, Sh.int .i64), (16, Sh.int .i64)], []⟩ .nil))) .nil)))))))) [Value.string s] h R by kernel_rfl) hv)

def ref03_SameInt_vc (a_0 : Bool) (a_1A : Option Addr) (a_1n a_1c : Nat) (b_0 : Bool) (b_1A : Option Addr) (b_1n b_1c : Nat) (h : Heap) (R : Value → Heap → Prop) : Prop :=
 Br (a_0 == b_0)
  (CallsU Tryz.prog 37 [Value.slice a_1A a_1n a_1c, Value.slice b_1A b_1n b_1c] h fun v h_1 =>
 ∃ t15 : Bool, v = Value.bool t15 ∧
 R (Value.bool t15) h_1)
  (R (Value.bool false) h)

set_option maxRecDepth 100000 in
theorem ref03_SameInt_ok {a_0 : Bool} {a_1A : Option Addr} {a_1n a_1c : Nat} {b_0 : Bool} {b_1A : Option Addr} {b_1n b_1c : Nat} {h : Heap} {R : Value → Heap → Prop} (hv : ref03_SameInt_vc a_0 a_1A a_1n a_1c b_0 b_1A b_1n b_1c h R) : CallsU Tryz.prog 36 [Value.agg #[Value.bool a_0, Value.slice a_1A a_1n a_1c], Value.agg #[Value.bool b_0, Value.slice b_1A b_1n b_1c]] h R :=
  fn_sound Tryz.func36 (by kernel_rfl) (by kernel_rfl) (by kernel_rfl) (fun _ => false) .nil [Value.agg #[Value.bool a_0, Value.slice a_1A a_1n a_1c], Value.agg #[Value.bool b_0, Value.slice b_1A b_1n b_1c]] h R (by kernel_rfl)
    (Eq.mp (show ref03_SameInt_vc a_0 a_1A a_1n a_1c b_0 b_1A b_1n b_1c h R = fnV Tryz.prog Tryz.f36 (fun _ => false) .nil [Value.agg #[Value.bool a_0, Value.slice a_1A a_1n a_1c], Value.agg #[Value.bool b_0, Value.slice b_1A b_1n b_1c]] h R by kernel_rfl) hv)

def ref03_limbs_vc (aA : Option Addr) (an _ac : Nat) (bA : Option Addr) (bn _bc : Nat) (h : Heap) (R : Value → Heap → Prop) : Prop :=
 Br ((((an : Nat) : Int) : Int) != ((bn : Nat) : Int))
  (R (Value.bool false) h)
  (∃ J : Nat → Int → Heap → Prop, (∃ m, J m 0 h) ∧
 ∀ (m : Nat) (i : Int) (h_1 : Heap), J m i h_1 →
 Br (decide (i < ((an : Nat) : Int)))
  (∃ ad : Addr, aA = some ad ∧ 0 ≤ i ∧ i < ((an : Nat) : Int) ∧
 ∃ t20 : Int, LdN h_1 (Addr.add ad (Int.toNat i * 1)) [Value.int .u32 t20] ∧
 ∃ ad_1 : Addr, bA = some ad_1 ∧ 0 ≤ i ∧ i < ((bn : Nat) : Int) ∧
 ∃ t24 : Int, LdN h_1 (Addr.add ad_1 (Int.toNat i * 1)) [Value.int .u32 t24] ∧
 Br ((t20 : Int) != t24)
  (R (Value.bool false) h_1)
  (∀ t16 : Int, t16 = IntKind.i64.wrap (i + 1) →
 ∃ m_1, m_1 < m ∧ J m_1 t16 h_1))
  (R (Value.bool true) h_1))

set_option maxRecDepth 100000 in
theorem ref03_limbs_ok {aA : Option Addr} {an ac : Nat} {bA : Option Addr} {bn bc : Nat} {h : Heap} {R : Value → Heap → Prop} (hv : ref03_limbs_vc aA an ac bA bn bc h R) : CallsU Tryz.prog 37 [Value.slice aA an ac, Value.slice bA bn bc] h R :=
  fn_sound Tryz.func37 (by kernel_rfl) (by kernel_rfl) (by kernel_rfl) (fun _ => false) (.two .nil (.two .nil (.two (.two .nil (.one (.loop ⟨[(5, Sh.int .i64)], []⟩ (.two .nil (.two (.one (.two (.ord [0, 1, 2, 3, 4, 5, 6, 7, 8]) .nil)) .nil))))) .nil))) [Value.slice aA an ac, Value.slice bA bn bc] h R (by kernel_rfl)
    (Eq.mp (show ref03_limbs_vc aA an ac bA bn bc h R = fnV Tryz.prog Tryz.f37 (fun _ => false) (.two .nil (.two .nil (.two (.two .nil (.one (.loop ⟨[(5, Sh.int .i64)], []⟩ (.two .nil (.two (.one (.two (.ord [0, 1, 2, 3, 4, 5, 6, 7, 8]) .nil)) .nil))))) .nil))) [Value.slice aA an ac, Value.slice bA bn bc] h R by kernel_rfl) hv)

def ref03_Div_vc (a_0 : Bool) (a_1A : Option Addr) (a_1n a_1c : Nat) (a_2A : Option Addr) (a_2n a_2c : Nat) (b_0 : Bool) (b_1A : Option Addr) (b_1n b_1c : Nat) (b_2A : Option Addr) (b_2n b_2c : Nat) (h : Heap) (R : Value → Heap → Prop) : Prop :=
 CallsU Tryz.prog 101 [Value.agg #[Value.bool b_0, Value.slice b_1A b_1n b_1c, Value.slice b_2A b_2n b_2c]] h fun v h_1 =>
 ∃ t9 : Bool, v = Value.bool t9 ∧
 Br (t9)
  (R (Value.tuple #[Value.agg #[Value.bool false, Value.slice none 0 0, Value.slice none 0 0], Value.bool false]) h_1)
  (CallsU Tryz.prog 102 [Value.agg #[Value.bool a_0, Value.slice a_1A a_1n a_1c, Value.slice a_2A a_2n a_2c]] h_1 fun v_1 h_2 =>
 ∃ t12_0 : Bool, ∃ t12_1A : Option Addr, ∃ t12_1n t12_1c : Nat, ∃ t12_2A : Option Addr, ∃ t12_2n t12_2c : Nat, v_1 = Value.agg #[Value.bool t12_0, Value.slice t12_1A t12_1n t12_1c, Value.slice t12_2A t12_2n t12_2c] ∧
 LeH h_1 h_2 ∧
 CallsU Tryz.prog 102 [Value.agg #[Value.bool b_0, Value.slice b_1A b_1n b_1c, Value.slice b_2A b_2n b_2c]] h_2 fun v_2 h_3 =>
 ∃ t14_0 : Bool, ∃ t14_1A : Option Addr, ∃ t14_1n t14_1c : Nat, ∃ t14_2A : Option Addr, ∃ t14_2n t14_2c : Nat, v_2 = Value.agg #[Value.bool t14_0, Value.slice t14_1A t14_1n t14_1c, Value.slice t14_2A t14_2n t14_2c] ∧
 CallsU Tryz.prog 103 [Value.slice t12_1A t12_1n t12_1c, Value.slice t14_2A t14_2n t14_2c] h_3 fun v_3 h_4 =>
 ∃ t27A : Option Addr, ∃ t27n t27c : Nat, v_3 = Value.slice t27A t27n t27c ∧
 LeH h_3 h_4 ∧
 CallsU Tryz.prog 103 [Value.slice t12_2A t12_2n t12_2c, Value.slice t14_1A t14_1n t14_1c] h_4 fun v_4 h_5 =>
 ∃ t33A : Option Addr, ∃ t33n t33c : Nat, v_4 = Value.slice t33A t33n t33c ∧
 LeH h_4 h_5 ∧
 CallsU Tryz.prog 70 [Value.bool (!(t12_0 == t14_0)), Value.slice t27A t27n t27c, Value.slice t33A t33n t33c] h_5 fun v_5 h_6 =>
 ∃ t34_0 : Bool, ∃ t34_1A : Option Addr, ∃ t34_1n t34_1c : Nat, ∃ t34_2A : Option Addr, ∃ t34_2n t34_2c : Nat, v_5 = Value.agg #[Value.bool t34_0, Value.slice t34_1A t34_1n t34_1c, Value.slice t34_2A t34_2n t34_2c] ∧
 R (Value.tuple #[Value.agg #[Value.bool t34_0, Value.slice t34_1A t34_1n t34_1c, Value.slice t34_2A t34_2n t34_2c], Value.bool true]) h_6)

set_option maxRecDepth 100000 in
theorem ref03_Div_ok {a_0 : Bool} {a_1A : Option Addr} {a_1n a_1c : Nat} {a_2A : Option Addr} {a_2n a_2c : Nat} {b_0 : Bool} {b_1A : Option Addr} {b_1n b_1c : Nat} {b_2A : Option Addr} {b_2n b_2c : Nat} {h : Heap} {R : Value → Heap → Prop} (hv : ref03_Div_vc a_0 a_1A a_1n a_1c a_2A a_2n a_2c b_0 b_1A b_1n b_1c b_2A b_2n b_2c h R) : CallsU Tryz.prog 45 [Value.agg #[Value.bool a_0, Value.slice a_1A a_1n a_1c, Value.slice a_2A a_2n a_2c], Value.agg #[Value.bool b_0, Value.slice b_1A b_1n b_1c, Value.slice b_2A b_2n b_2c]] h R :=
  fn_sound Tryz.func45 (by kernel_rfl) (by kernel_rfl) (by kernel_rfl) (fun _ => false) (.two .nil (.two .nil (.two (.ord [0, 2, 1, 3, 4, 5, 6, 7]) (.two (.ord [0, 1, 2, 3, 4, 5, 6, 7, 8, 9, 10, 11, 13, 14, 15, 16, 17, 12, 18, 19, 20, 21]) .nil)))) [Value.agg #[Value.bool a_0, Value.slice a_1A a_1n a_1c, Value.slice a_2A a_2n a_2c], Value.agg #[Value.bool b_0, Value.slice b_1A b_1n b_1c, Value.slice b_2A b_2n b_2c]] h R (by kernel_rfl)
    (Eq.mp (show ref03_Div_vc a_0 a_1A a_1n a_1c a_2A a_2n a_2c b_0 b_1A b_1n b_1c b_2A b_2n b_2c h R = fnV Tryz.prog Tryz.f45 (fun _ => false) (.two .nil (.two .nil (.two (.ord [0, 2, 1, 3, 4, 5, 6, 7]) (.two (.ord [0, 1, 2, 3, 4, 5, 6, 7, 8, 9, 10, 11, 13, 14, 15, 16, 17, 12, 18, 19, 20, 21]) .nil)))) [Value.agg #[Value.bool a_0, Value.slice a_1A a_1n a_1c, Value.slice a_2A a_2n a_2c], Value.agg #[Value.bool b_0, Value.slice b_1A b_1n b_1c, Value.slice b_2A b_2n b_2c]] h R by kernel_rfl) hv)

def ref03_Sign_vc (a_0 : Bool) (a_1A : Option Addr) (a_1n a_1c : Nat) (a_2A : Option Addr) (a_2n a_2c : Nat) (h : Heap) (R : Value → Heap → Prop) : Prop :=
 CallsU Tryz.prog 101 [Value.agg #[Value.bool a_0, Value.slice a_1A a_1n a_1c, Value.slice a_2A a_2n a_2c]] h fun v h_1 =>
 ∃ t4 : Bool, v = Value.bool t4 ∧
 Br (t4)
  (R (Value.int .i64 0) h_1)
  (Br (a_0)
  (R (Value.int .i64 (-1)) h_1)
  (R (Value.int .i64 1) h_1))

set_option maxRecDepth 100000 in
theorem ref03_Sign_ok {a_0 : Bool} {a_1A : Option Addr} {a_1n a_1c : Nat} {a_2A : Option Addr} {a_2n a_2c : Nat} {h : Heap} {R : Value → Heap → Prop} (hv : ref03_Sign_vc a_0 a_1A a_1n a_1c a_2A a_2n a_2c h R) : CallsU Tryz.prog 46 [Value.agg #[Value.bool a_0, Value.slice a_1A a_1n a_1c, Value.slice a_2A a_2n a_2c]] h R :=
  fn_sound Tryz.func46 (by kernel_rfl) (by kernel_rfl) (by kernel_rfl) (fun _ => false) .nil [Value.agg #[Value.bool a_0, Value.slice a_1A a_1n a_1c, Value.slice a_2A a_2n a_2c]] h R (by kernel_rfl)
    (Eq.mp (show ref03_Sign_vc a_0 a_1A a_1n a_1c a_2A a_2n a_2c h R = fnV Tryz.prog Tryz.f46 (fun _ => false) .nil [Value.agg #[Value.bool a_0, Value.slice a_1A a_1n a_1c, Value.slice a_2A a_2n a_2c]] h R by kernel_rfl) hv)

def ref03_Neg_vc (a_0 : Bool) (a_1A : Option Addr) (a_1n a_1c : Nat) (a_2A : Option Addr) (a_2n a_2c : Nat) (h : Heap) (R : Value → Heap → Prop) : Prop :=
 CallsU Tryz.prog 102 [Value.agg #[Value.bool a_0, Value.slice a_1A a_1n a_1c, Value.slice a_2A a_2n a_2c]] h fun v h_1 =>
 ∃ t5_0 : Bool, ∃ t5_1A : Option Addr, ∃ t5_1n t5_1c : Nat, ∃ t5_2A : Option Addr, ∃ t5_2n t5_2c : Nat, v = Value.agg #[Value.bool t5_0, Value.slice t5_1A t5_1n t5_1c, Value.slice t5_2A t5_2n t5_2c] ∧
 CallsU Tryz.prog 104 [Value.agg #[Value.bool t5_0, Value.slice t5_1A t5_1n t5_1c]] h_1 fun v_1 h_2 =>
 ∃ t8_0 : Bool, ∃ t8_1A : Option Addr, ∃ t8_1n t8_1c : Nat, v_1 = Value.agg #[Value.bool t8_0, Value.slice t8_1A t8_1n t8_1c] ∧
 LeH h_1 h_2 ∧
 R (Value.agg #[Value.bool t8_0, Value.slice t8_1A t8_1n t8_1c, Value.slice t5_2A t5_2n t5_2c]) h_2

set_option maxRecDepth 100000 in
theorem ref03_Neg_ok {a_0 : Bool} {a_1A : Option Addr} {a_1n a_1c : Nat} {a_2A : Option Addr} {a_2n a_2c : Nat} {h : Heap} {R : Value → Heap → Prop} (hv : ref03_Neg_vc a_0 a_1A a_1n a_1c a_2A a_2n a_2c h R) : CallsU Tryz.prog 47 [Value.agg #[Value.bool a_0, Value.slice a_1A a_1n a_1c, Value.slice a_2A a_2n a_2c]] h R :=
  fn_sound Tryz.func47 (by kernel_rfl) (by kernel_rfl) (by kernel_rfl) (fun _ => false) (.two .nil (.two .nil (.two (.ord [0, 1, 3, 4, 2, 5, 6]) .nil))) [Value.agg #[Value.bool a_0, Value.slice a_1A a_1n a_1c, Value.slice a_2A a_2n a_2c]] h R (by kernel_rfl)
    (Eq.mp (show ref03_Neg_vc a_0 a_1A a_1n a_1c a_2A a_2n a_2c h R = fnV Tryz.prog Tryz.f47 (fun _ => false) (.two .nil (.two .nil (.two (.ord [0, 1, 3, 4, 2, 5, 6]) .nil))) [Value.agg #[Value.bool a_0, Value.slice a_1A a_1n a_1c, Value.slice a_2A a_2n a_2c]] h R by kernel_rfl) hv)

def ref04_small_vc (a_0 : Bool) (a_1A : Option Addr) (a_1n a_1c : Nat) (most : Int) (h : Heap) (R : Value → Heap → Prop) : Prop :=
 CallsU Tryz.prog 58 [Value.agg #[Value.bool a_0, Value.slice a_1A a_1n a_1c]] h fun v h_1 =>
 ∃ t10_0 : Int, ∃ t10_1 : Bool, v = Value.tuple #[Value.int .i64 t10_0, Value.bool t10_1] ∧
 Br (t10_1)
  (Br (decide (t10_0 ≥ 0))
  (R (Value.tuple #[Value.int .i64 t10_0, Value.bool (decide (t10_0 ≤ most))]) h_1)
  (R (Value.tuple #[Value.int .i64 t10_0, Value.bool false]) h_1))
  (R (Value.tuple #[Value.int .i64 t10_0, Value.bool false]) h_1)

set_option maxRecDepth 100000 in
theorem ref04_small_ok {a_0 : Bool} {a_1A : Option Addr} {a_1n a_1c : Nat} {most : Int} {h : Heap} {R : Value → Heap → Prop} (hv : ref04_small_vc a_0 a_1A a_1n a_1c most h R) : CallsU Tryz.prog 48 [Value.agg #[Value.bool a_0, Value.slice a_1A a_1n a_1c], Value.int .i64 most] h R :=
  fn_sound Tryz.func48 (by kernel_rfl) (by kernel_rfl) (by kernel_rfl) (fun _ => false) .nil [Value.agg #[Value.bool a_0, Value.slice a_1A a_1n a_1c], Value.int .i64 most] h R (by kernel_rfl)
    (Eq.mp (show ref04_small_vc a_0 a_1A a_1n a_1c most h R = fnV Tryz.prog Tryz.f48 (fun _ => false) .nil [Value.agg #[Value.bool a_0, Value.slice a_1A a_1n a_1c], Value.int .i64 most] h R by kernel_rfl) hv)

def ref03_Floor_vc (a_0 : Bool) (a_1A : Option Addr) (a_1n a_1c : Nat) (a_2A : Option Addr) (a_2n a_2c : Nat) (h : Heap) (R : Value → Heap → Prop) : Prop :=
 CallsU Tryz.prog 102 [Value.agg #[Value.bool a_0, Value.slice a_1A a_1n a_1c, Value.slice a_2A a_2n a_2c]] h fun v h_1 =>
 ∃ t8_0 : Bool, ∃ t8_1A : Option Addr, ∃ t8_1n t8_1c : Nat, ∃ t8_2A : Option Addr, ∃ t8_2n t8_2c : Nat, v = Value.agg #[Value.bool t8_0, Value.slice t8_1A t8_1n t8_1c, Value.slice t8_2A t8_2n t8_2c] ∧
 CallsU Tryz.prog 105 [Value.agg #[Value.bool t8_0, Value.slice t8_1A t8_1n t8_1c], Value.agg #[Value.bool false, Value.slice t8_2A t8_2n t8_2c]] h_1 fun v_1 h_2 =>
 ∃ t15_0_0 : Bool, ∃ t15_0_1A : Option Addr, ∃ t15_0_1n t15_0_1c : Nat, ∃ t15_1_0 : Bool, ∃ t15_1_1A : Option Addr, ∃ t15_1_1n t15_1_1c : Nat, ∃ t15_2 : Bool, v_1 = Value.tuple #[Value.agg #[Value.bool t15_0_0, Value.slice t15_0_1A t15_0_1n t15_0_1c], Value.agg #[Value.bool t15_1_0, Value.slice t15_1_1A t15_1_1n t15_1_1c], Value.bool t15_2] ∧
 R (Value.agg #[Value.bool t15_0_0, Value.slice t15_0_1A t15_0_1n t15_0_1c]) h_2

set_option maxRecDepth 100000 in
theorem ref03_Floor_ok {a_0 : Bool} {a_1A : Option Addr} {a_1n a_1c : Nat} {a_2A : Option Addr} {a_2n a_2c : Nat} {h : Heap} {R : Value → Heap → Prop} (hv : ref03_Floor_vc a_0 a_1A a_1n a_1c a_2A a_2n a_2c h R) : CallsU Tryz.prog 49 [Value.agg #[Value.bool a_0, Value.slice a_1A a_1n a_1c, Value.slice a_2A a_2n a_2c]] h R :=
  fn_sound Tryz.func49 (by kernel_rfl) (by kernel_rfl) (by kernel_rfl) (fun _ => false) .nil [Value.agg #[Value.bool a_0, Value.slice a_1A a_1n a_1c, Value.slice a_2A a_2n a_2c]] h R (by kernel_rfl)
    (Eq.mp (show ref03_Floor_vc a_0 a_1A a_1n a_1c a_2A a_2n a_2c h R = fnV Tryz.prog Tryz.f49 (fun _ => false) .nil [Value.agg #[Value.bool a_0, Value.slice a_1A a_1n a_1c, Value.slice a_2A a_2n a_2c]] h R by kernel_rfl) hv)

def ref03_Sub_vc (a_0 : Bool) (a_1A : Option Addr) (a_1n a_1c : Nat) (a_2A : Option Addr) (a_2n a_2c : Nat) (b_0 : Bool) (b_1A : Option Addr) (b_1n b_1c : Nat) (b_2A : Option Addr) (b_2n b_2c : Nat) (h : Heap) (R : Value → Heap → Prop) : Prop :=
 CallsU Tryz.prog 47 [Value.agg #[Value.bool b_0, Value.slice b_1A b_1n b_1c, Value.slice b_2A b_2n b_2c]] h fun v h_1 =>
 ∃ t7_0 : Bool, ∃ t7_1A : Option Addr, ∃ t7_1n t7_1c : Nat, ∃ t7_2A : Option Addr, ∃ t7_2n t7_2c : Nat, v = Value.agg #[Value.bool t7_0, Value.slice t7_1A t7_1n t7_1c, Value.slice t7_2A t7_2n t7_2c] ∧
 LeH h h_1 ∧
 CallsU Tryz.prog 106 [Value.agg #[Value.bool a_0, Value.slice a_1A a_1n a_1c, Value.slice a_2A a_2n a_2c], Value.agg #[Value.bool t7_0, Value.slice t7_1A t7_1n t7_1c, Value.slice t7_2A t7_2n t7_2c]] h_1 fun v_1 h_2 =>
 ∃ t8_0 : Bool, ∃ t8_1A : Option Addr, ∃ t8_1n t8_1c : Nat, ∃ t8_2A : Option Addr, ∃ t8_2n t8_2c : Nat, v_1 = Value.agg #[Value.bool t8_0, Value.slice t8_1A t8_1n t8_1c, Value.slice t8_2A t8_2n t8_2c] ∧
 R (Value.agg #[Value.bool t8_0, Value.slice t8_1A t8_1n t8_1c, Value.slice t8_2A t8_2n t8_2c]) h_2

set_option maxRecDepth 100000 in
theorem ref03_Sub_ok {a_0 : Bool} {a_1A : Option Addr} {a_1n a_1c : Nat} {a_2A : Option Addr} {a_2n a_2c : Nat} {b_0 : Bool} {b_1A : Option Addr} {b_1n b_1c : Nat} {b_2A : Option Addr} {b_2n b_2c : Nat} {h : Heap} {R : Value → Heap → Prop} (hv : ref03_Sub_vc a_0 a_1A a_1n a_1c a_2A a_2n a_2c b_0 b_1A b_1n b_1c b_2A b_2n b_2c h R) : CallsU Tryz.prog 50 [Value.agg #[Value.bool a_0, Value.slice a_1A a_1n a_1c, Value.slice a_2A a_2n a_2c], Value.agg #[Value.bool b_0, Value.slice b_1A b_1n b_1c, Value.slice b_2A b_2n b_2c]] h R :=
  fn_sound Tryz.func50 (by kernel_rfl) (by kernel_rfl) (by kernel_rfl) (fun _ => false) (.two .nil (.two (.ord [0, 1, 2, 3, 4]) .nil)) [Value.agg #[Value.bool a_0, Value.slice a_1A a_1n a_1c, Value.slice a_2A a_2n a_2c], Value.agg #[Value.bool b_0, Value.slice b_1A b_1n b_1c, Value.slice b_2A b_2n b_2c]] h R (by kernel_rfl)
    (Eq.mp (show ref03_Sub_vc a_0 a_1A a_1n a_1c a_2A a_2n a_2c b_0 b_1A b_1n b_1c b_2A b_2n b_2c h R = fnV Tryz.prog Tryz.f50 (fun _ => false) (.two .nil (.two (.ord [0, 1, 2, 3, 4]) .nil)) [Value.agg #[Value.bool a_0, Value.slice a_1A a_1n a_1c, Value.slice a_2A a_2n a_2c], Value.agg #[Value.bool b_0, Value.slice b_1A b_1n b_1c, Value.slice b_2A b_2n b_2c]] h R by kernel_rfl) hv)

def ref03_Mul_vc (a_0 : Bool) (a_1A : Option Addr) (a_1n a_1c : Nat) (a_2A : Option Addr) (a_2n a_2c : Nat) (b_0 : Bool) (b_1A : Option Addr) (b_1n b_1c : Nat) (b_2A : Option Addr) (b_2n b_2c : Nat) (h : Heap) (R : Value → Heap → Prop) : Prop :=
 CallsU Tryz.prog 102 [Value.agg #[Value.bool a_0, Value.slice a_1A a_1n a_1c, Value.slice a_2A a_2n a_2c]] h fun v h_1 =>
 ∃ t8_0 : Bool, ∃ t8_1A : Option Addr, ∃ t8_1n t8_1c : Nat, ∃ t8_2A : Option Addr, ∃ t8_2n t8_2c : Nat, v = Value.agg #[Value.bool t8_0, Value.slice t8_1A t8_1n t8_1c, Value.slice t8_2A t8_2n t8_2c] ∧
 LeH h h_1 ∧
 CallsU Tryz.prog 102 [Value.agg #[Value.bool b_0, Value.slice b_1A b_1n b_1c, Value.slice b_2A b_2n b_2c]] h_1 fun v_1 h_2 =>
 ∃ t10_0 : Bool, ∃ t10_1A : Option Addr, ∃ t10_1n t10_1c : Nat, ∃ t10_2A : Option Addr, ∃ t10_2n t10_2c : Nat, v_1 = Value.agg #[Value.bool t10_0, Value.slice t10_1A t10_1n t10_1c, Value.slice t10_2A t10_2n t10_2c] ∧
 CallsU Tryz.prog 103 [Value.slice t8_1A t8_1n t8_1c, Value.slice t10_1A t10_1n t10_1c] h_2 fun v_2 h_3 =>
 ∃ t24A : Option Addr, ∃ t24n t24c : Nat, v_2 = Value.slice t24A t24n t24c ∧
 LeH h_2 h_3 ∧
 CallsU Tryz.prog 103 [Value.slice t8_2A t8_2n t8_2c, Value.slice t10_2A t10_2n t10_2c] h_3 fun v_3 h_4 =>
 ∃ t29A : Option Addr, ∃ t29n t29c : Nat, v_3 = Value.slice t29A t29n t29c ∧
 LeH h_3 h_4 ∧
 CallsU Tryz.prog 70 [Value.bool (!(t8_0 == t10_0)), Value.slice t24A t24n t24c, Value.slice t29A t29n t29c] h_4 fun v_4 h_5 =>
 ∃ t30_0 : Bool, ∃ t30_1A : Option Addr, ∃ t30_1n t30_1c : Nat, ∃ t30_2A : Option Addr, ∃ t30_2n t30_2c : Nat, v_4 = Value.agg #[Value.bool t30_0, Value.slice t30_1A t30_1n t30_1c, Value.slice t30_2A t30_2n t30_2c] ∧
 R (Value.agg #[Value.bool t30_0, Value.slice t30_1A t30_1n t30_1c, Value.slice t30_2A t30_2n t30_2c]) h_5

set_option maxRecDepth 100000 in
theorem ref03_Mul_ok {a_0 : Bool} {a_1A : Option Addr} {a_1n a_1c : Nat} {a_2A : Option Addr} {a_2n a_2c : Nat} {b_0 : Bool} {b_1A : Option Addr} {b_1n b_1c : Nat} {b_2A : Option Addr} {b_2n b_2c : Nat} {h : Heap} {R : Value → Heap → Prop} (hv : ref03_Mul_vc a_0 a_1A a_1n a_1c a_2A a_2n a_2c b_0 b_1A b_1n b_1c b_2A b_2n b_2c h R) : CallsU Tryz.prog 51 [Value.agg #[Value.bool a_0, Value.slice a_1A a_1n a_1c, Value.slice a_2A a_2n a_2c], Value.agg #[Value.bool b_0, Value.slice b_1A b_1n b_1c, Value.slice b_2A b_2n b_2c]] h R :=
  fn_sound Tryz.func51 (by kernel_rfl) (by kernel_rfl) (by kernel_rfl) (fun _ => false) (.two .nil (.two (.ord [0, 2, 1, 3, 4, 5, 6, 7]) (.two (.ord [0, 1, 2, 3, 4, 5, 6, 7, 8, 9, 10, 11, 12, 14, 15, 16, 17, 13, 18, 19, 20]) .nil))) [Value.agg #[Value.bool a_0, Value.slice a_1A a_1n a_1c, Value.slice a_2A a_2n a_2c], Value.agg #[Value.bool b_0, Value.slice b_1A b_1n b_1c, Value.slice b_2A b_2n b_2c]] h R (by kernel_rfl)
    (Eq.mp (show ref03_Mul_vc a_0 a_1A a_1n a_1c a_2A a_2n a_2c b_0 b_1A b_1n b_1c b_2A b_2n b_2c h R = fnV Tryz.prog Tryz.f51 (fun _ => false) (.two .nil (.two (.ord [0, 2, 1, 3, 4, 5, 6, 7]) (.two (.ord [0, 1, 2, 3, 4, 5, 6, 7, 8, 9, 10, 11, 12, 14, 15, 16, 17, 13, 18, 19, 20]) .nil))) [Value.agg #[Value.bool a_0, Value.slice a_1A a_1n a_1c, Value.slice a_2A a_2n a_2c], Value.agg #[Value.bool b_0, Value.slice b_1A b_1n b_1c, Value.slice b_2A b_2n b_2c]] h R by kernel_rfl) hv)

def ref01_Cmp_vc (aA : Option Addr) (an ac : Nat) (bA : Option Addr) (bn bc : Nat) (h : Heap) (R : Value → Heap → Prop) : Prop :=
 ∀ t11 : Int, t11 = IntKind.i64.wrap ((if decide (((bn : Nat) : Int) > ((an : Nat) : Int)) then ((bn : Nat) : Int) else ((an : Nat) : Int)) - 1) →
 ∃ J : Nat → Int → Heap → Prop, (∃ m, J m t11 h) ∧
 ∀ (m : Nat) (i : Int) (h_1 : Heap), J m i h_1 →
 Br (decide (i ≥ 0))
  (CallsU Tryz.prog 107 [Value.slice aA an ac, Value.int .i64 i] h_1 fun v h_2 =>
 ∃ t18 : Int, v = Value.int .u64 t18 ∧
 CallsU Tryz.prog 107 [Value.slice bA bn bc, Value.int .i64 i] h_2 fun v_1 h_3 =>
 ∃ t21 : Int, v_1 = Value.int .u64 t21 ∧
 Br (decide (t18 < t21))
  (R (Value.int .i64 (-1)) h_3)
  (CallsU Tryz.prog 107 [Value.slice aA an ac, Value.int .i64 i] h_3 fun v_2 h_4 =>
 ∃ t25 : Int, v_2 = Value.int .u64 t25 ∧
 CallsU Tryz.prog 107 [Value.slice bA bn bc, Value.int .i64 i] h_4 fun v_3 h_5 =>
 ∃ t28 : Int, v_3 = Value.int .u64 t28 ∧
 Br (decide (t25 > t28))
  (R (Value.int .i64 1) h_5)
  (∀ t15 : Int, t15 = IntKind.i64.wrap (i - 1) →
 ∃ m_1, m_1 < m ∧ J m_1 t15 h_5)))
  (R (Value.int .i64 0) h_1)

set_option maxRecDepth 100000 in
theorem ref01_Cmp_ok {aA : Option Addr} {an ac : Nat} {bA : Option Addr} {bn bc : Nat} {h : Heap} {R : Value → Heap → Prop} (hv : ref01_Cmp_vc aA an ac bA bn bc h R) : CallsU Tryz.prog 52 [Value.slice aA an ac, Value.slice bA bn bc] h R :=
  fn_sound Tryz.func52 (by kernel_rfl) (by kernel_rfl) (by kernel_rfl) (fun _ => false) (.two .nil (.two (.two .nil (.one (.loop ⟨[(5, Sh.int .i64)], []⟩ .nil))) .nil)) [Value.slice aA an ac, Value.slice bA bn bc] h R (by kernel_rfl)
    (Eq.mp (show ref01_Cmp_vc aA an ac bA bn bc h R = fnV Tryz.prog Tryz.f52 (fun _ => false) (.two .nil (.two (.two .nil (.one (.loop ⟨[(5, Sh.int .i64)], []⟩ .nil))) .nil)) [Value.slice aA an ac, Value.slice bA bn bc] h R by kernel_rfl) hv)

def ref01_Of_vc (n : Int) (h : Heap) (R : Value → Heap → Prop) : Prop :=
 ∃ J : Nat → Int → Option Addr → Nat → Nat → Heap → Prop, (∃ m, J m n none 0 0 h) ∧
 ∀ (m : Nat) (n_1 : Int) (outA : Option Addr) (outn outc : Nat) (h_1 : Heap), J m n_1 outA outn outc h_1 →
 Br (decide (n_1 > 0))
  (∀ t8 : Int, t8 = (Int.tmod n_1 4294967296) →
 ∀ (g : Nat) (h_2 : Heap), h_1 g = none → h_2 = Heap.put h_1 g ⟨[Value.int .u32 (IntKind.u32.wrap t8)], 46, (0, 0)⟩ →
 ∃ xs : List Value, RdS h_2 (some ⟨g, 0, none⟩) (1 * 1) xs ∧ (∀ x ∈ xs, one x = true) ∧
 (outn + 1 ≤ outc → ∃ (ad : Addr) (b : Blk), outA = some ad ∧ ad.spot = none ∧ h_2 ad.block = some b ∧ b.fz = (0, 0) ∧ ad.off + outn * 1 + 1 * 1 ≤ b.cells.length ∧
 ∀ h_4 : Heap, h_4 = Heap.put h_2 ad.block { b with cells := setSeg b.cells (ad.off + outn * 1) xs } →
 ∀ t13 : Int, t13 = IntKind.u64.wrap (Int.tdiv n_1 4294967296) →
 ∃ m_1, m_1 < m ∧ J m_1 t13 outA (outn + 1) outc h_4) ∧
 (outc < outn + 1 → ∃ olds : List Value, RdS h_2 outA (outn * 1) olds ∧ (outn + 1) * 4 ≤ 140737488355328 ∧
 ∀ (g_1 cap : Nat) (h_5 : Heap), h_2 g_1 = none → outn + 1 ≤ cap → h_5 = Heap.put h_2 g_1 ⟨olds ++ xs ++ repV [Value.int .u32 0] (cap - (outn + 1)), 46, (0, 0)⟩ →
 ∀ t13_1 : Int, t13_1 = IntKind.u64.wrap (Int.tdiv n_1 4294967296) →
 ∃ m_1, m_1 < m ∧ J m_1 t13_1 (some ⟨g_1, 0, none⟩) (outn + 1) cap h_5))
  (R (Value.slice outA outn outc) h_1)

set_option maxRecDepth 100000 in
theorem ref01_Of_ok {n : Int} {h : Heap} {R : Value → Heap → Prop} (hv : ref01_Of_vc n h R) : CallsU Tryz.prog 53 [Value.int .u64 n] h R :=
  fn_sound Tryz.func53 (by kernel_rfl) (by kernel_rfl) (by kernel_rfl) (fun _ => false) (.two .nil (.two .nil (.two (.one (.loop ⟨[(0, Sh.int .u64), (3, Sh.slice)], []⟩ .nil)) .nil))) [Value.int .u64 n] h R (by kernel_rfl)
    (Eq.mp (show ref01_Of_vc n h R = fnV Tryz.prog Tryz.f53 (fun _ => false) (.two .nil (.two .nil (.two (.one (.loop ⟨[(0, Sh.int .u64), (3, Sh.slice)], []⟩ .nil)) .nil))) [Value.int .u64 n] h R by kernel_rfl) hv)

def ref04_text_vc (n : Int) (h : Heap) (R : Value → Heap → Prop) : Prop :=
 CallsU Tryz.prog 53 [Value.int .u64 (IntKind.u64.wrap n)] h fun v h_1 =>
 ∃ t5A : Option Addr, ∃ t5n t5c : Nat, v = Value.slice t5A t5n t5c ∧
 CallsU Tryz.prog 67 [Value.slice t5A t5n t5c] h_1 fun v_1 h_2 =>
 ∃ t6 : ByteArray, v_1 = Value.string t6 ∧
 R (Value.string t6) h_2

set_option maxRecDepth 100000 in
theorem ref04_text_ok {n : Int} {h : Heap} {R : Value → Heap → Prop} (hv : ref04_text_vc n h R) : CallsU Tryz.prog 54 [Value.int .i64 n] h R :=
  fn_sound Tryz.func54 (by kernel_rfl) (by kernel_rfl) (by kernel_rfl) (fun _ => false) .nil [Value.int .i64 n] h R (by kernel_rfl)
    (Eq.mp (show ref04_text_vc n h R = fnV Tryz.prog Tryz.f54 (fun _ => false) .nil [Value.int .i64 n] h R by kernel_rfl) hv)

def ref04_decimals_vc (n : Int) (h : Heap) (R : Value → Heap → Prop) : Prop :=
 Br ((n : Int) == 0)
  (R (Value.string (⟨#[]⟩ : ByteArray)) h)
  (∀ t7 : Int, t7 = IntKind.i64.wrap (10000 + n) →
 CallsU Tryz.prog 54 [Value.int .i64 t7] h fun v h_1 =>
 ∃ t8 : ByteArray, v = Value.string t8 ∧
 ((0 : Nat) : Int) ≤ (1 : Int) ∧ 1 ≤ ((t8.size : Nat) : Int) ∧
 (((⟨#[46]⟩ : ByteArray).size + (ByteArray.extract t8 1 t8.size).size : Nat) : Int) ≤ 9223372036854775807 ∧
 ∃ J : Nat → ByteArray → Heap → Prop, (∃ m, J m ((⟨#[46]⟩ : ByteArray) ++ (ByteArray.extract t8 1 t8.size)) h_1) ∧
 ∀ (m : Nat) (s : ByteArray) (h_2 : Heap), J m s h_2 →
 ∀ t14 : Int, t14 = IntKind.i64.wrap (((s.size : Nat) : Int) - 1) →
 ∃ c : UInt8, 0 ≤ t14 ∧ s[(Int.toNat t14 : Nat)]? = some c ∧
 Br (((c.toNat : Int) : Int) == 48)
  (∀ t20 : Int, t20 = IntKind.i64.wrap (((s.size : Nat) : Int) - 1) →
 ((0 : Nat) : Int) ≤ t20 ∧ t20 ≤ ((s.size : Nat) : Int) ∧
 ∃ m_1, m_1 < m ∧ J m_1 (ByteArray.extract s 0 (Int.toNat t20)) h_2)
  (R (Value.string s) h_2))

set_option maxRecDepth 100000 in
theorem ref04_decimals_ok {n : Int} {h : Heap} {R : Value → Heap → Prop} (hv : ref04_decimals_vc n h R) : CallsU Tryz.prog 55 [Value.int .i64 n] h R :=
  fn_sound Tryz.func55 (by kernel_rfl) (by kernel_rfl) (by kernel_rfl) (fun _ => false) (.two .nil (.two .nil (.two .nil (.two (.one (.loop ⟨[(3, Sh.str)], []⟩ .nil)) .nil)))) [Value.int .i64 n] h R (by kernel_rfl)
    (Eq.mp (show ref04_decimals_vc n h R = fnV Tryz.prog Tryz.f55 (fun _ => false) (.two .nil (.two .nil (.two .nil (.two (.one (.loop ⟨[(3, Sh.str)], []⟩ .nil)) .nil)))) [Value.int .i64 n] h R by kernel_rfl) hv)

def ref02_Small_vc (a_0 : Bool) (a_1A : Option Addr) (a_1n a_1c : Nat) (h : Heap) (R : Value → Heap → Prop) : Prop :=
 CallsU Tryz.prog 109 [Value.agg #[Value.bool a_0, Value.slice a_1A a_1n a_1c]] h fun v h_1 =>
 ∃ t8_0 : Bool, ∃ t8_1A : Option Addr, ∃ t8_1n t8_1c : Nat, v = Value.agg #[Value.bool t8_0, Value.slice t8_1A t8_1n t8_1c] ∧
 Br (decide (((t8_1n : Nat) : Int) > 2))
  (R (Value.tuple #[Value.int .i64 0, Value.bool false]) h_1)
  (∀ t16 : Int, t16 = IntKind.i64.wrap (((t8_1n : Nat) : Int) - 1) →
 ∃ J : Nat → Int → Int → Heap → Prop, (∃ m, J m 0 t16 h_1) ∧
 ∀ (m : Nat) (n : Int) (i : Int) (h_2 : Heap), J m n i h_2 →
 Br (decide (i ≥ 0))
  (∀ t22 : Int, t22 = IntKind.u64.wrap (n * 4294967296) →
 ∃ ad : Addr, t8_1A = some ad ∧ 0 ≤ i ∧ i < ((t8_1n : Nat) : Int) ∧
 ∃ t27 : Int, LdN h_2 (Addr.add ad (Int.toNat i * 1)) [Value.int .u32 t27] ∧
 ∀ t29 : Int, t29 = IntKind.u64.wrap (t22 + (IntKind.u64.wrap t27)) →
 ∀ t20 : Int, t20 = IntKind.i64.wrap (i - 1) →
 ∃ m_1, m_1 < m ∧ J m_1 t29 t20 h_2)
  (∃ C : Heap → Prop, (∀  (h_3 : Heap), C h_3 →
 Br (!t8_0)
  (Br (decide (n ≤ 9223372036854775807))
  (R (Value.tuple #[Value.int .i64 (IntKind.i64.wrap n), Value.bool true]) h_3)
  (R (Value.tuple #[Value.int .i64 0, Value.bool false]) h_3))
  (R (Value.tuple #[Value.int .i64 0, Value.bool false]) h_3)) ∧
 Br (t8_0)
  (Br (decide (n ≤ 9223372036854775808))
  (∀ t37 : Int, t37 = IntKind.u64.wrap (n - 1) →
 ∀ t39 : Int, t39 = IntKind.i64.wrap (0 - (IntKind.i64.wrap t37)) →
 ∀ t40 : Int, t40 = IntKind.i64.wrap (t39 - 1) →
 R (Value.tuple #[Value.int .i64 t40, Value.bool true]) h_2)
  (C h_2))
  (C h_2)))

set_option maxRecDepth 100000 in
theorem ref02_Small_ok {a_0 : Bool} {a_1A : Option Addr} {a_1n a_1c : Nat} {h : Heap} {R : Value → Heap → Prop} (hv : ref02_Small_vc a_0 a_1A a_1n a_1c h R) : CallsU Tryz.prog 58 [Value.agg #[Value.bool a_0, Value.slice a_1A a_1n a_1c]] h R :=
  fn_sound Tryz.func58 (by kernel_rfl) (by kernel_rfl) (by kernel_rfl) (fun _ => false) (.two .nil (.two .nil (.two .nil (.two .nil (.two (.two .nil (.one (.loop ⟨[(5, Sh.int .u64), (6, Sh.int .i64)], []⟩ .nil))) (.cut ⟨[], []⟩ .nil .nil)))))) [Value.agg #[Value.bool a_0, Value.slice a_1A a_1n a_1c]] h R (by kernel_rfl)
    (Eq.mp (show ref02_Small_vc a_0 a_1A a_1n a_1c h R = fnV Tryz.prog Tryz.f58 (fun _ => false) (.two .nil (.two .nil (.two .nil (.two .nil (.two (.two .nil (.one (.loop ⟨[(5, Sh.int .u64), (6, Sh.int .i64)], []⟩ .nil))) (.cut ⟨[], []⟩ .nil .nil)))))) [Value.agg #[Value.bool a_0, Value.slice a_1A a_1n a_1c]] h R by kernel_rfl) hv)

def ref03_Round_vc (a_0 : Bool) (a_1A : Option Addr) (a_1n a_1c : Nat) (a_2A : Option Addr) (a_2n a_2c : Nat) (h : Heap) (R : Value → Heap → Prop) : Prop :=
 CallsU Tryz.prog 102 [Value.agg #[Value.bool a_0, Value.slice a_1A a_1n a_1c, Value.slice a_2A a_2n a_2c]] h fun v h_1 =>
 ∃ t9_0 : Bool, ∃ t9_1A : Option Addr, ∃ t9_1n t9_1c : Nat, ∃ t9_2A : Option Addr, ∃ t9_2n t9_2c : Nat, v = Value.agg #[Value.bool t9_0, Value.slice t9_1A t9_1n t9_1c, Value.slice t9_2A t9_2n t9_2c] ∧
 CallsU Tryz.prog 53 [Value.int .u64 2] h_1 fun v_1 h_2 =>
 ∃ t10A : Option Addr, ∃ t10n t10c : Nat, v_1 = Value.slice t10A t10n t10c ∧
 CallsU Tryz.prog 103 [Value.slice t10A t10n t10c, Value.slice t9_1A t9_1n t9_1c] h_2 fun v_2 h_3 =>
 ∃ t16A : Option Addr, ∃ t16n t16c : Nat, v_2 = Value.slice t16A t16n t16c ∧
 LeH h_2 h_3 ∧
 CallsU Tryz.prog 111 [Value.slice t16A t16n t16c, Value.slice t9_2A t9_2n t9_2c] h_3 fun v_3 h_4 =>
 ∃ t19A : Option Addr, ∃ t19n t19c : Nat, v_3 = Value.slice t19A t19n t19c ∧
 LeH h_3 h_4 ∧
 CallsU Tryz.prog 103 [Value.slice t10A t10n t10c, Value.slice t9_2A t9_2n t9_2c] h_4 fun v_4 h_5 =>
 ∃ t23A : Option Addr, ∃ t23n t23c : Nat, v_4 = Value.slice t23A t23n t23c ∧
 CallsU Tryz.prog 110 [Value.slice t19A t19n t19c, Value.slice t23A t23n t23c] h_5 fun v_5 h_6 =>
 ∃ t24_0A : Option Addr, ∃ t24_0n t24_0c : Nat, ∃ t24_1A : Option Addr, ∃ t24_1n t24_1c : Nat, ∃ t24_2 : Bool, v_5 = Value.tuple #[Value.slice t24_0A t24_0n t24_0c, Value.slice t24_1A t24_1n t24_1c, Value.bool t24_2] ∧
 CallsU Tryz.prog 109 [Value.agg #[Value.bool t9_0, Value.slice t24_0A t24_0n t24_0c]] h_6 fun v_6 h_7 =>
 ∃ t33_0 : Bool, ∃ t33_1A : Option Addr, ∃ t33_1n t33_1c : Nat, v_6 = Value.agg #[Value.bool t33_0, Value.slice t33_1A t33_1n t33_1c] ∧
 R (Value.agg #[Value.bool t33_0, Value.slice t33_1A t33_1n t33_1c]) h_7

set_option maxRecDepth 100000 in
theorem ref03_Round_ok {a_0 : Bool} {a_1A : Option Addr} {a_1n a_1c : Nat} {a_2A : Option Addr} {a_2n a_2c : Nat} {h : Heap} {R : Value → Heap → Prop} (hv : ref03_Round_vc a_0 a_1A a_1n a_1c a_2A a_2n a_2c h R) : CallsU Tryz.prog 59 [Value.agg #[Value.bool a_0, Value.slice a_1A a_1n a_1c, Value.slice a_2A a_2n a_2c]] h R :=
  fn_sound Tryz.func59 (by kernel_rfl) (by kernel_rfl) (by kernel_rfl) (fun _ => false) (.two .nil (.two .nil (.two .nil (.two (.ord [0, 1, 2, 3, 5, 6, 8, 9, 10, 4, 7, 11, 12, 13, 14, 15, 16, 17, 18, 19]) .nil)))) [Value.agg #[Value.bool a_0, Value.slice a_1A a_1n a_1c, Value.slice a_2A a_2n a_2c]] h R (by kernel_rfl)
    (Eq.mp (show ref03_Round_vc a_0 a_1A a_1n a_1c a_2A a_2n a_2c h R = fnV Tryz.prog Tryz.f59 (fun _ => false) (.two .nil (.two .nil (.two .nil (.two (.ord [0, 1, 2, 3, 5, 6, 8, 9, 10, 4, 7, 11, 12, 13, 14, 15, 16, 17, 18, 19]) .nil)))) [Value.agg #[Value.bool a_0, Value.slice a_1A a_1n a_1c, Value.slice a_2A a_2n a_2c]] h R by kernel_rfl) hv)

def ref01_Text_vc (aA : Option Addr) (an ac : Nat) (h : Heap) (R : Value → Heap → Prop) : Prop :=
 CallsU Tryz.prog 115 [Value.slice aA an ac] h fun v h_1 =>
 ∃ t8A : Option Addr, ∃ t8n t8c : Nat, v = Value.slice t8A t8n t8c ∧
 ∃ J : Nat → ByteArray → Option Addr → Nat → Nat → Heap → Prop, (∃ m, J m (⟨#[]⟩ : ByteArray) t8A t8n t8c h_1) ∧
 ∀ (m : Nat) (s : ByteArray) (leftA : Option Addr) (leftn leftc : Nat) (h_2 : Heap), J m s leftA leftn leftc h_2 →
 Br (decide (((leftn : Nat) : Int) > 0))
  (CallsU Tryz.prog 116 [Value.slice leftA leftn leftc, Value.int .u64 10] h_2 fun v_1 h_3 =>
 ∃ t14_0A : Option Addr, ∃ t14_0n t14_0c : Nat, ∃ t14_1 : Int, v_1 = Value.tuple #[Value.slice t14_0A t14_0n t14_0c, Value.int .u64 t14_1] ∧
 ∀ t18 : Int, t18 = IntKind.u64.wrap (48 + t14_1) →
 ∀ (g : Nat) (h_4 : Heap), h_3 g = none → h_4 = Heap.put h_3 g ⟨[Value.int .u8 (IntKind.u8.wrap t18)], 5, (0, 0)⟩ →
 ∃ ns : List Int, RdS h_4 (some ⟨g, 0, none⟩) 1 (List.map (Value.int .u8) ns) ∧
 (((⟨(List.map (fun n => UInt8.ofNat (Int.toNat n)) ns).toArray⟩ : ByteArray).size + s.size : Nat) : Int) ≤ 9223372036854775807 ∧
 ∃ m_1, m_1 < m ∧ J m_1 ((⟨(List.map (fun n => UInt8.ofNat (Int.toNat n)) ns).toArray⟩ : ByteArray) ++ s) t14_0A t14_0n t14_0c h_4)
  (Br (s.toList == (⟨#[]⟩ : ByteArray).toList)
  (R (Value.string (⟨#[48]⟩ : ByteArray)) h_2)
  (R (Value.string s) h_2))

set_option maxRecDepth 100000 in
theorem ref01_Text_ok {aA : Option Addr} {an ac : Nat} {h : Heap} {R : Value → Heap → Prop} (hv : ref01_Text_vc aA an ac h R) : CallsU Tryz.prog 67 [Value.slice aA an ac] h R :=
  fn_sound Tryz.func67 (by kernel_rfl) (by kernel_rfl) (by kernel_rfl) (fun _ => false) (.two .nil (.two .nil (.two .nil (.two (.one (.loop ⟨[(3, Sh.str), (4, Sh.slice)], []⟩ .nil)) .nil)))) [Value.slice aA an ac] h R (by kernel_rfl)
    (Eq.mp (show ref01_Text_vc aA an ac h R = fnV Tryz.prog Tryz.f67 (fun _ => false) (.two .nil (.two .nil (.two .nil (.two (.one (.loop ⟨[(3, Sh.str), (4, Sh.slice)], []⟩ .nil)) .nil)))) [Value.slice aA an ac] h R by kernel_rfl) hv)

def ref02_Of_vc (n : Int) (h : Heap) (R : Value → Heap → Prop) : Prop :=
 Br (decide (n < 0))
  (∀ t6 : Int, t6 = IntKind.i64.wrap (n + 1) →
 ∀ t7 : Int, t7 = IntKind.i64.wrap (0 - t6) →
 ∀ t9 : Int, t9 = IntKind.u64.wrap ((IntKind.u64.wrap t7) + 1) →
 CallsU Tryz.prog 53 [Value.int .u64 t9] h fun v h_1 =>
 ∃ t10A : Option Addr, ∃ t10n t10c : Nat, v = Value.slice t10A t10n t10c ∧
 R (Value.agg #[Value.bool true, Value.slice t10A t10n t10c]) h_1)
  (CallsU Tryz.prog 53 [Value.int .u64 (IntKind.u64.wrap n)] h fun v_1 h_2 =>
 ∃ t14A : Option Addr, ∃ t14n t14c : Nat, v_1 = Value.slice t14A t14n t14c ∧
 R (Value.agg #[Value.bool false, Value.slice t14A t14n t14c]) h_2)

set_option maxRecDepth 100000 in
theorem ref02_Of_ok {n : Int} {h : Heap} {R : Value → Heap → Prop} (hv : ref02_Of_vc n h R) : CallsU Tryz.prog 69 [Value.int .i64 n] h R :=
  fn_sound Tryz.func69 (by kernel_rfl) (by kernel_rfl) (by kernel_rfl) (fun _ => false) .nil [Value.int .i64 n] h R (by kernel_rfl)
    (Eq.mp (show ref02_Of_vc n h R = fnV Tryz.prog Tryz.f69 (fun _ => false) .nil [Value.int .i64 n] h R by kernel_rfl) hv)

def ref03_reduce_vc (neg : Bool) (nA : Option Addr) (nn nc : Nat) (dA : Option Addr) (dn dc : Nat) (h : Heap) (R : Value → Heap → Prop) : Prop :=
 CallsU Tryz.prog 118 [Value.slice nA nn nc, Value.slice dA dn dc] h fun v h_1 =>
 ∃ t16A : Option Addr, ∃ t16n t16c : Nat, v = Value.slice t16A t16n t16c ∧
 CallsU Tryz.prog 110 [Value.slice nA nn nc, Value.slice t16A t16n t16c] h_1 fun v_1 h_2 =>
 ∃ t20_0A : Option Addr, ∃ t20_0n t20_0c : Nat, ∃ t20_1A : Option Addr, ∃ t20_1n t20_1c : Nat, ∃ t20_2 : Bool, v_1 = Value.tuple #[Value.slice t20_0A t20_0n t20_0c, Value.slice t20_1A t20_1n t20_1c, Value.bool t20_2] ∧
 CallsU Tryz.prog 110 [Value.slice dA dn dc, Value.slice t16A t16n t16c] h_2 fun v_2 h_3 =>
 ∃ t27_0A : Option Addr, ∃ t27_0n t27_0c : Nat, ∃ t27_1A : Option Addr, ∃ t27_1n t27_1c : Nat, ∃ t27_2 : Bool, v_2 = Value.tuple #[Value.slice t27_0A t27_0n t27_0c, Value.slice t27_1A t27_1n t27_1c, Value.bool t27_2] ∧
 CallsU Tryz.prog 109 [Value.agg #[Value.bool neg, Value.slice t20_0A t20_0n t20_0c]] h_3 fun v_3 h_4 =>
 ∃ t34_0 : Bool, ∃ t34_1A : Option Addr, ∃ t34_1n t34_1c : Nat, v_3 = Value.agg #[Value.bool t34_0, Value.slice t34_1A t34_1n t34_1c] ∧
 R (Value.agg #[Value.bool t34_0, Value.slice t34_1A t34_1n t34_1c, Value.slice t27_0A t27_0n t27_0c]) h_4

set_option maxRecDepth 100000 in
theorem ref03_reduce_ok {neg : Bool} {nA : Option Addr} {nn nc : Nat} {dA : Option Addr} {dn dc : Nat} {h : Heap} {R : Value → Heap → Prop} (hv : ref03_reduce_vc neg nA nn nc dA dn dc h R) : CallsU Tryz.prog 70 [Value.bool neg, Value.slice nA nn nc, Value.slice dA dn dc] h R :=
  fn_sound Tryz.func70 (by kernel_rfl) (by kernel_rfl) (by kernel_rfl) (fun _ => false) .nil [Value.bool neg, Value.slice nA nn nc, Value.slice dA dn dc] h R (by kernel_rfl)
    (Eq.mp (show ref03_reduce_vc neg nA nn nc dA dn dc h R = fnV Tryz.prog Tryz.f70 (fun _ => false) .nil [Value.bool neg, Value.slice nA nn nc, Value.slice dA dn dc] h R by kernel_rfl) hv)

def ref04_before_vc (s : ByteArray) (c : Int) (h : Heap) (R : Value → Heap → Prop) : Prop :=
 ∃ J : Nat → Int → Heap → Prop, (∃ m, J m 0 h) ∧
 ∀ (m : Nat) (i : Int) (h_1 : Heap), J m i h_1 →
 Br (decide (i < ((s.size : Nat) : Int)))
  (∃ c_1 : UInt8, 0 ≤ i ∧ s[(Int.toNat i : Nat)]? = some c_1 ∧
 Br (((c_1.toNat : Int) : Int) == c)
  (((0 : Nat) : Int) ≤ i ∧ i ≤ ((s.size : Nat) : Int) ∧
 ∀ t24 : Int, t24 = IntKind.i64.wrap (i + 1) →
 ((0 : Nat) : Int) ≤ t24 ∧ t24 ≤ ((s.size : Nat) : Int) ∧
 R (Value.tuple #[Value.string (ByteArray.extract s 0 (Int.toNat i)), Value.string (ByteArray.extract s (Int.toNat t24) s.size), Value.bool true]) h_1)
  (∀ t13 : Int, t13 = IntKind.i64.wrap (i + 1) →
 ∃ m_1, m_1 < m ∧ J m_1 t13 h_1))
  (R (Value.tuple #[Value.string s, Value.string (⟨#[]⟩ : ByteArray), Value.bool false]) h_1)

set_option maxRecDepth 100000 in
theorem ref04_before_ok {s : ByteArray} {c : Int} {h : Heap} {R : Value → Heap → Prop} (hv : ref04_before_vc s c h R) : CallsU Tryz.prog 80 [Value.string s, Value.int .u8 c] h R :=
  fn_sound Tryz.func80 (by kernel_rfl) (by kernel_rfl) (by kernel_rfl) (fun _ => false) (.two .nil (.two (.two .nil (.one (.loop ⟨[(7, Sh.int .i64)], []⟩ (.two .nil (.two (.one (.two .nil (.two (.two (.ord [0, 1, 2, 3, 4, 5, 6, 7, 8, 9]) .nil) .nil))) .nil))))) .nil)) [Value.string s, Value.int .u8 c] h R (by kernel_rfl)
    (Eq.mp (show ref04_before_vc s c h R = fnV Tryz.prog Tryz.f80 (fun _ => false) (.two .nil (.two (.two .nil (.one (.loop ⟨[(7, Sh.int .i64)], []⟩ (.two .nil (.two (.one (.two .nil (.two (.two (.ord [0, 1, 2, 3, 4, 5, 6, 7, 8, 9]) .nil) .nil))) .nil))))) .nil)) [Value.string s, Value.int .u8 c] h R by kernel_rfl) hv)

def ref04_fraction_vc (leftv : ByteArray) (rightv : ByteArray) (h : Heap) (R : Value → Heap → Prop) : Prop :=
 CallsU Tryz.prog 82 [Value.string rightv, Value.int .i64 3] h fun v h_1 =>
 ∃ t19_0 : Int, ∃ t19_1 : Bool, v = Value.tuple #[Value.int .i64 t19_0, Value.bool t19_1] ∧
 ∃ C : Bool → Heap → Prop, (∀ (t27 : Bool) (h_2 : Heap), C t27 h_2 →
 Br (t27)
  (R (Value.tuple #[Value.int .i64 0, Value.int .i64 0, Value.bool false]) h_2)
  (CallsU Tryz.prog 80 [Value.string leftv, Value.int .u8 32] h_2 fun v_1 h_3 =>
 ∃ t30_0 : ByteArray, ∃ t30_1 : ByteArray, ∃ t30_2 : Bool, v_1 = Value.tuple #[Value.string t30_0, Value.string t30_1, Value.bool t30_2] ∧
 Br (!t30_2)
  (CallsU Tryz.prog 82 [Value.string leftv, Value.int .i64 7] h_3 fun v_2 h_4 =>
 ∃ t38_0 : Int, ∃ t38_1 : Bool, v_2 = Value.tuple #[Value.int .i64 t38_0, Value.bool t38_1] ∧
 R (Value.tuple #[Value.int .i64 t38_0, Value.int .i64 t19_0, Value.bool t38_1]) h_4)
  (CallsU Tryz.prog 82 [Value.string t30_0, Value.int .i64 7] h_3 fun v_3 h_5 =>
 ∃ t46_0 : Int, ∃ t46_1 : Bool, v_3 = Value.tuple #[Value.int .i64 t46_0, Value.bool t46_1] ∧
 CallsU Tryz.prog 82 [Value.string t30_1, Value.int .i64 7] h_5 fun v_4 h_6 =>
 ∃ t51_0 : Int, ∃ t51_1 : Bool, v_4 = Value.tuple #[Value.int .i64 t51_0, Value.bool t51_1] ∧
 ∀ t56 : Int, t56 = IntKind.i64.wrap (t46_0 * t19_0) →
 ∀ t58 : Int, t58 = IntKind.i64.wrap (t56 + t51_0) →
 Br (t46_1)
  (R (Value.tuple #[Value.int .i64 t58, Value.int .i64 t19_0, Value.bool t51_1]) h_6)
  (R (Value.tuple #[Value.int .i64 t58, Value.int .i64 t19_0, Value.bool false]) h_6)))) ∧
 Br (!t19_1)
  (C true h_1)
  (C ((t19_0 : Int) == 0) h_1)

set_option maxRecDepth 100000 in
theorem ref04_fraction_ok {leftv : ByteArray} {rightv : ByteArray} {h : Heap} {R : Value → Heap → Prop} (hv : ref04_fraction_vc leftv rightv h R) : CallsU Tryz.prog 81 [Value.string leftv, Value.string rightv] h R :=
  fn_sound Tryz.func81 (by kernel_rfl) (by kernel_rfl) (by kernel_rfl) (fun _ => false) (.two .nil (.two .nil (.two (.cut ⟨[(27, Sh.bool)], []⟩ .nil .nil) .nil))) [Value.string leftv, Value.string rightv] h R (by kernel_rfl)
    (Eq.mp (show ref04_fraction_vc leftv rightv h R = fnV Tryz.prog Tryz.f81 (fun _ => false) (.two .nil (.two .nil (.two (.cut ⟨[(27, Sh.bool)], []⟩ .nil .nil) .nil))) [Value.string leftv, Value.string rightv] h R by kernel_rfl) hv)

def ref04_whole_vc (s : ByteArray) (most : Int) (h : Heap) (R : Value → Heap → Prop) : Prop :=
 CallsU Tryz.prog 83 [Value.string s, Value.int .i64 most] h fun v h_1 =>
 ∃ t11_0 : Int, ∃ t11_1 : Bool, v = Value.tuple #[Value.int .i64 t11_0, Value.bool t11_1] ∧
 Br (t11_1)
  (CallsU Tryz.prog 123 [Value.string s] h_1 fun v_1 h_2 =>
 ∃ t18 : Bool, v_1 = Value.bool t18 ∧
 R (Value.tuple #[Value.int .i64 t11_0, Value.bool t18]) h_2)
  (R (Value.tuple #[Value.int .i64 t11_0, Value.bool false]) h_1)

set_option maxRecDepth 100000 in
theorem ref04_whole_ok {s : ByteArray} {most : Int} {h : Heap} {R : Value → Heap → Prop} (hv : ref04_whole_vc s most h R) : CallsU Tryz.prog 82 [Value.string s, Value.int .i64 most] h R :=
  fn_sound Tryz.func82 (by kernel_rfl) (by kernel_rfl) (by kernel_rfl) (fun _ => false) .nil [Value.string s, Value.int .i64 most] h R (by kernel_rfl)
    (Eq.mp (show ref04_whole_vc s most h R = fnV Tryz.prog Tryz.f82 (fun _ => false) .nil [Value.string s, Value.int .i64 most] h R by kernel_rfl) hv)

def ref04_digits_vc (s : ByteArray) (most : Int) (h : Heap) (R : Value → Heap → Prop) : Prop :=
 ∃ J : Nat → Int → Int → Heap → Prop, (∃ m, J m 0 0 h) ∧
 ∀ (m : Nat) (n : Int) (i : Int) (h_1 : Heap), J m n i h_1 →
 Br (decide (i < ((s.size : Nat) : Int)))
  (∃ C : Bool → Heap → Prop, (∀ (t28 : Bool) (h_2 : Heap), C t28 h_2 →
 Br (t28)
  (R (Value.tuple #[Value.int .i64 0, Value.bool false]) h_2)
  (∀ t30 : Int, t30 = IntKind.i64.wrap (10 * n) →
 ∃ c : UInt8, 0 ≤ i ∧ s[(Int.toNat i : Nat)]? = some c ∧
 ∀ t34 : Int, t34 = IntKind.u8.wrap ((c.toNat : Int) - 48) →
 ∀ t36 : Int, t36 = IntKind.i64.wrap (t30 + (IntKind.i64.wrap t34)) →
 ∀ t13 : Int, t13 = IntKind.i64.wrap (i + 1) →
 ∃ m_1, m_1 < m ∧ J m_1 t36 t13 h_2)) ∧
 Br (decide (i ≥ most))
  (C true h_1)
  (∃ c_1 : UInt8, 0 ≤ i ∧ s[(Int.toNat i : Nat)]? = some c_1 ∧
 Br (decide ((c_1.toNat : Int) < 48))
  (C true h_1)
  (∃ c_2 : UInt8, 0 ≤ i ∧ s[(Int.toNat i : Nat)]? = some c_2 ∧
 C (decide ((c_2.toNat : Int) > 57)) h_1)))
  (R (Value.tuple #[Value.int .i64 n, Value.bool (decide (((s.size : Nat) : Int) > 0))]) h_1)

set_option maxRecDepth 100000 in
theorem ref04_digits_ok {s : ByteArray} {most : Int} {h : Heap} {R : Value → Heap → Prop} (hv : ref04_digits_vc s most h R) : CallsU Tryz.prog 83 [Value.string s, Value.int .i64 most] h R :=
  fn_sound Tryz.func83 (by kernel_rfl) (by kernel_rfl) (by kernel_rfl) (fun _ => false) (.two .nil (.two .nil (.two (.two .nil (.one (.loop ⟨[(6, Sh.int .i64), (7, Sh.int .i64)], []⟩ (.two .nil (.two (.one (.two (.cut ⟨[(28, Sh.bool)], []⟩ .nil .nil) .nil)) .nil))))) .nil))) [Value.string s, Value.int .i64 most] h R (by kernel_rfl)
    (Eq.mp (show ref04_digits_vc s most h R = fnV Tryz.prog Tryz.f83 (fun _ => false) (.two .nil (.two .nil (.two (.two .nil (.one (.loop ⟨[(6, Sh.int .i64), (7, Sh.int .i64)], []⟩ (.two .nil (.two (.one (.two (.cut ⟨[(28, Sh.bool)], []⟩ .nil .nil) .nil)) .nil))))) .nil))) [Value.string s, Value.int .i64 most] h R by kernel_rfl) hv)

def ref03_Zero_vc (_a_0 : Bool) (a_1A : Option Addr) (a_1n a_1c : Nat) (a_2A : Option Addr) (a_2n a_2c : Nat) (h : Heap) (R : Value → Heap → Prop) : Prop :=
 CallsU Tryz.prog 115 [Value.slice a_1A a_1n a_1c] h fun v h_1 =>
 ∃ t6A : Option Addr, ∃ t6n t6c : Nat, v = Value.slice t6A t6n t6c ∧
 Br ((((t6n : Nat) : Int) : Int) == 0)
  (R (Value.bool true) h_1)
  (CallsU Tryz.prog 115 [Value.slice a_2A a_2n a_2c] h_1 fun v_1 h_2 =>
 ∃ t12A : Option Addr, ∃ t12n t12c : Nat, v_1 = Value.slice t12A t12n t12c ∧
 R (Value.bool ((((t12n : Nat) : Int) : Int) == 0)) h_2)

set_option maxRecDepth 100000 in
theorem ref03_Zero_ok {a_0 : Bool} {a_1A : Option Addr} {a_1n a_1c : Nat} {a_2A : Option Addr} {a_2n a_2c : Nat} {h : Heap} {R : Value → Heap → Prop} (hv : ref03_Zero_vc a_0 a_1A a_1n a_1c a_2A a_2n a_2c h R) : CallsU Tryz.prog 101 [Value.agg #[Value.bool a_0, Value.slice a_1A a_1n a_1c, Value.slice a_2A a_2n a_2c]] h R :=
  fn_sound Tryz.func101 (by kernel_rfl) (by kernel_rfl) (by kernel_rfl) (fun _ => false) .nil [Value.agg #[Value.bool a_0, Value.slice a_1A a_1n a_1c, Value.slice a_2A a_2n a_2c]] h R (by kernel_rfl)
    (Eq.mp (show ref03_Zero_vc a_0 a_1A a_1n a_1c a_2A a_2n a_2c h R = fnV Tryz.prog Tryz.f101 (fun _ => false) .nil [Value.agg #[Value.bool a_0, Value.slice a_1A a_1n a_1c, Value.slice a_2A a_2n a_2c]] h R by kernel_rfl) hv)

def ref03_Norm_vc (a_0 : Bool) (a_1A : Option Addr) (a_1n a_1c : Nat) (a_2A : Option Addr) (a_2n a_2c : Nat) (h : Heap) (R : Value → Heap → Prop) : Prop :=
 CallsU Tryz.prog 101 [Value.agg #[Value.bool a_0, Value.slice a_1A a_1n a_1c, Value.slice a_2A a_2n a_2c]] h fun v h_1 =>
 ∃ t4 : Bool, v = Value.bool t4 ∧
 Br (t4)
  (CallsU Tryz.prog 27 [Value.int .i64 0] h_1 fun v_1 h_2 =>
 ∃ t5_0 : Bool, ∃ t5_1A : Option Addr, ∃ t5_1n t5_1c : Nat, ∃ t5_2A : Option Addr, ∃ t5_2n t5_2c : Nat, v_1 = Value.agg #[Value.bool t5_0, Value.slice t5_1A t5_1n t5_1c, Value.slice t5_2A t5_2n t5_2c] ∧
 R (Value.agg #[Value.bool t5_0, Value.slice t5_1A t5_1n t5_1c, Value.slice t5_2A t5_2n t5_2c]) h_2)
  (CallsU Tryz.prog 70 [Value.bool a_0, Value.slice a_1A a_1n a_1c, Value.slice a_2A a_2n a_2c] h_1 fun v_2 h_3 =>
 ∃ t14_0 : Bool, ∃ t14_1A : Option Addr, ∃ t14_1n t14_1c : Nat, ∃ t14_2A : Option Addr, ∃ t14_2n t14_2c : Nat, v_2 = Value.agg #[Value.bool t14_0, Value.slice t14_1A t14_1n t14_1c, Value.slice t14_2A t14_2n t14_2c] ∧
 R (Value.agg #[Value.bool t14_0, Value.slice t14_1A t14_1n t14_1c, Value.slice t14_2A t14_2n t14_2c]) h_3)

set_option maxRecDepth 100000 in
theorem ref03_Norm_ok {a_0 : Bool} {a_1A : Option Addr} {a_1n a_1c : Nat} {a_2A : Option Addr} {a_2n a_2c : Nat} {h : Heap} {R : Value → Heap → Prop} (hv : ref03_Norm_vc a_0 a_1A a_1n a_1c a_2A a_2n a_2c h R) : CallsU Tryz.prog 102 [Value.agg #[Value.bool a_0, Value.slice a_1A a_1n a_1c, Value.slice a_2A a_2n a_2c]] h R :=
  fn_sound Tryz.func102 (by kernel_rfl) (by kernel_rfl) (by kernel_rfl) (fun _ => false) .nil [Value.agg #[Value.bool a_0, Value.slice a_1A a_1n a_1c, Value.slice a_2A a_2n a_2c]] h R (by kernel_rfl)
    (Eq.mp (show ref03_Norm_vc a_0 a_1A a_1n a_1c a_2A a_2n a_2c h R = fnV Tryz.prog Tryz.f102 (fun _ => false) .nil [Value.agg #[Value.bool a_0, Value.slice a_1A a_1n a_1c, Value.slice a_2A a_2n a_2c]] h R by kernel_rfl) hv)

def ref01_Mul_vc (aA : Option Addr) (an ac : Nat) (bA : Option Addr) (bn bc : Nat) (h : Heap) (R : Value → Heap → Prop) : Prop :=
 ∀ t14 : Int, t14 = IntKind.i64.wrap (((an : Nat) : Int) + ((bn : Nat) : Int)) →
 0 ≤ t14 ∧ t14 ≤ t14 ∧ t14 * 4 ≤ 140737488355328 ∧ t14 ≤ 9223372036854775807 ∧
 ∀ (g : Nat) (h_1 : Heap), h g = none → h_1 = Heap.put h g ⟨repV [Value.int .u32 0] (Int.toNat t14), 46, (0, 0)⟩ →
 ∃ J : Nat → Int → Heap → Prop, (∃ m, J m 0 h_1) ∧
 ∀ (m : Nat) (i : Int) (h_2 : Heap), J m i h_2 →
 Br (decide (i < ((an : Nat) : Int)))
  (∃ J_1 : Nat → Int → Int → Heap → Prop, (∃ m_2, J_1 m_2 0 0 h_2) ∧
 ∀ (m_2 : Nat) (carry : Int) (k : Int) (h_3 : Heap), J_1 m_2 carry k h_3 →
 Br (decide (k < ((bn : Nat) : Int)))
  (CallsU Tryz.prog 107 [Value.slice aA an ac, Value.int .i64 i] h_3 fun v h_4 =>
 ∃ t30 : Int, v = Value.int .u64 t30 ∧
 CallsU Tryz.prog 107 [Value.slice bA bn bc, Value.int .i64 k] h_4 fun v_1 h_5 =>
 ∃ t33 : Int, v_1 = Value.int .u64 t33 ∧
 ∀ t34 : Int, t34 = IntKind.u64.wrap (t30 * t33) →
 ∀ t38 : Int, t38 = IntKind.i64.wrap (i + k) →
 CallsU Tryz.prog 107 [Value.slice (some ⟨g, 0, none⟩) (Int.toNat t14) (Int.toNat t14), Value.int .i64 t38] h_5 fun v_2 h_6 =>
 ∃ t39 : Int, v_2 = Value.int .u64 t39 ∧
 ∀ t40 : Int, t40 = IntKind.u64.wrap (t34 + t39) →
 ∀ t42 : Int, t42 = IntKind.u64.wrap (t40 + carry) →
 ∀ t46 : Int, t46 = IntKind.i64.wrap (i + k) →
 ∀ t48 : Int, t48 = (Int.tmod t42 4294967296) →
 ∃ ad : Addr, some ⟨g, 0, none⟩ = some ad ∧ 0 ≤ t46 ∧ t46 < (((Int.toNat t14) : Nat) : Int) ∧
 ∃ b : Blk, h_6 (Addr.block (Addr.add ad (Int.toNat t46 * 1))) = some b ∧ b.fz = (0, 0) ∧ Addr.spot (Addr.add ad (Int.toNat t46 * 1)) = none ∧ Addr.off (Addr.add ad (Int.toNat t46 * 1)) + 1 ≤ b.cells.length ∧
 ∀ h_7 : Heap, h_7 = Heap.put h_6 (Addr.block (Addr.add ad (Int.toNat t46 * 1))) { b with cells := setSeg b.cells (Addr.off (Addr.add ad (Int.toNat t46 * 1))) [Value.int .u32 (IntKind.u32.wrap t48)] } →
 ∀ t52 : Int, t52 = IntKind.u64.wrap (Int.tdiv t42 4294967296) →
 ∀ t27 : Int, t27 = IntKind.i64.wrap (k + 1) →
 ∃ m_3, m_3 < m_2 ∧ J_1 m_3 t52 t27 h_7)
  (∀ t57 : Int, t57 = IntKind.i64.wrap (i + ((bn : Nat) : Int)) →
 ∃ ad_1 : Addr, some ⟨g, 0, none⟩ = some ad_1 ∧ 0 ≤ t57 ∧ t57 < (((Int.toNat t14) : Nat) : Int) ∧
 ∃ b_1 : Blk, h_3 (Addr.block (Addr.add ad_1 (Int.toNat t57 * 1))) = some b_1 ∧ b_1.fz = (0, 0) ∧ Addr.spot (Addr.add ad_1 (Int.toNat t57 * 1)) = none ∧ Addr.off (Addr.add ad_1 (Int.toNat t57 * 1)) + 1 ≤ b_1.cells.length ∧
 ∀ h_8 : Heap, h_8 = Heap.put h_3 (Addr.block (Addr.add ad_1 (Int.toNat t57 * 1))) { b_1 with cells := setSeg b_1.cells (Addr.off (Addr.add ad_1 (Int.toNat t57 * 1))) [Value.int .u32 (IntKind.u32.wrap carry)] } →
 ∀ t21 : Int, t21 = IntKind.i64.wrap (i + 1) →
 ∃ m_1, m_1 < m ∧ J m_1 t21 h_8))
  (CallsU Tryz.prog 115 [Value.slice (some ⟨g, 0, none⟩) (Int.toNat t14) (Int.toNat t14)] h_2 fun v_3 h_9 =>
 ∃ t62A : Option Addr, ∃ t62n t62c : Nat, v_3 = Value.slice t62A t62n t62c ∧
 R (Value.slice t62A t62n t62c) h_9)

set_option maxRecDepth 100000 in
theorem ref01_Mul_ok {aA : Option Addr} {an ac : Nat} {bA : Option Addr} {bn bc : Nat} {h : Heap} {R : Value → Heap → Prop} (hv : ref01_Mul_vc aA an ac bA bn bc h R) : CallsU Tryz.prog 103 [Value.slice aA an ac, Value.slice bA bn bc] h R :=
  fn_sound Tryz.func103 (by kernel_rfl) (by kernel_rfl) (by kernel_rfl) (fun _ => false) (.two .nil (.two .nil (.two (.two .nil (.one (.loop ⟨[(6, Sh.int .i64)], []⟩ (.two .nil (.two (.one (.two .nil (.two (.two .nil (.one (.loop ⟨[(7, Sh.int .u64), (8, Sh.int .i64)], []⟩ .nil))) .nil))) .nil))))) .nil))) [Value.slice aA an ac, Value.slice bA bn bc] h R (by kernel_rfl)
    (Eq.mp (show ref01_Mul_vc aA an ac bA bn bc h R = fnV Tryz.prog Tryz.f103 (fun _ => false) (.two .nil (.two .nil (.two (.two .nil (.one (.loop ⟨[(6, Sh.int .i64)], []⟩ (.two .nil (.two (.one (.two .nil (.two (.two .nil (.one (.loop ⟨[(7, Sh.int .u64), (8, Sh.int .i64)], []⟩ .nil))) .nil))) .nil))))) .nil))) [Value.slice aA an ac, Value.slice bA bn bc] h R by kernel_rfl) hv)

def ref02_Neg_vc (a_0 : Bool) (a_1A : Option Addr) (a_1n a_1c : Nat) (h : Heap) (R : Value → Heap → Prop) : Prop :=
 CallsU Tryz.prog 136 [Value.bool (!a_0), Value.slice a_1A a_1n a_1c] h fun v h_1 =>
 ∃ t8_0 : Bool, ∃ t8_1A : Option Addr, ∃ t8_1n t8_1c : Nat, v = Value.agg #[Value.bool t8_0, Value.slice t8_1A t8_1n t8_1c] ∧
 R (Value.agg #[Value.bool t8_0, Value.slice t8_1A t8_1n t8_1c]) h_1

set_option maxRecDepth 100000 in
theorem ref02_Neg_ok {a_0 : Bool} {a_1A : Option Addr} {a_1n a_1c : Nat} {h : Heap} {R : Value → Heap → Prop} (hv : ref02_Neg_vc a_0 a_1A a_1n a_1c h R) : CallsU Tryz.prog 104 [Value.agg #[Value.bool a_0, Value.slice a_1A a_1n a_1c]] h R :=
  fn_sound Tryz.func104 (by kernel_rfl) (by kernel_rfl) (by kernel_rfl) (fun _ => false) .nil [Value.agg #[Value.bool a_0, Value.slice a_1A a_1n a_1c]] h R (by kernel_rfl)
    (Eq.mp (show ref02_Neg_vc a_0 a_1A a_1n a_1c h R = fnV Tryz.prog Tryz.f104 (fun _ => false) .nil [Value.agg #[Value.bool a_0, Value.slice a_1A a_1n a_1c]] h R by kernel_rfl) hv)

def ref02_DivMod_vc (a_0 : Bool) (a_1A : Option Addr) (a_1n a_1c : Nat) (b_0 : Bool) (b_1A : Option Addr) (b_1n b_1c : Nat) (h : Heap) (R : Value → Heap → Prop) : Prop :=
 CallsU Tryz.prog 109 [Value.agg #[Value.bool a_0, Value.slice a_1A a_1n a_1c]] h fun v h_1 =>
 ∃ t13_0 : Bool, ∃ t13_1A : Option Addr, ∃ t13_1n t13_1c : Nat, v = Value.agg #[Value.bool t13_0, Value.slice t13_1A t13_1n t13_1c] ∧
 LeH h h_1 ∧
 CallsU Tryz.prog 109 [Value.agg #[Value.bool b_0, Value.slice b_1A b_1n b_1c]] h_1 fun v_1 h_2 =>
 ∃ t15_0 : Bool, ∃ t15_1A : Option Addr, ∃ t15_1n t15_1c : Nat, v_1 = Value.agg #[Value.bool t15_0, Value.slice t15_1A t15_1n t15_1c] ∧
 CallsU Tryz.prog 110 [Value.slice t13_1A t13_1n t13_1c, Value.slice t15_1A t15_1n t15_1c] h_2 fun v_2 h_3 =>
 ∃ t21_0A : Option Addr, ∃ t21_0n t21_0c : Nat, ∃ t21_1A : Option Addr, ∃ t21_1n t21_1c : Nat, ∃ t21_2 : Bool, v_2 = Value.tuple #[Value.slice t21_0A t21_0n t21_0c, Value.slice t21_1A t21_1n t21_1c, Value.bool t21_2] ∧
 Br (!t21_2)
  (R (Value.tuple #[Value.agg #[Value.bool false, Value.slice none 0 0], Value.agg #[Value.bool false, Value.slice none 0 0], Value.bool false]) h_3)
  (∃ C : Option Addr → Nat → Nat → Option Addr → Nat → Nat → Heap → Prop, (∀ (qA : Option Addr) (qn qc : Nat) (rA : Option Addr) (rn rc : Nat) (h_4 : Heap), C qA qn qc rA rn rc h_4 →
 CallsU Tryz.prog 136 [Value.bool (!(t13_0 == t15_0)), Value.slice qA qn qc] h_4 fun v_3 h_5 =>
 ∃ t53_0 : Bool, ∃ t53_1A : Option Addr, ∃ t53_1n t53_1c : Nat, v_3 = Value.agg #[Value.bool t53_0, Value.slice t53_1A t53_1n t53_1c] ∧
 CallsU Tryz.prog 136 [Value.bool false, Value.slice rA rn rc] h_5 fun v_4 h_6 =>
 ∃ t55_0 : Bool, ∃ t55_1A : Option Addr, ∃ t55_1n t55_1c : Nat, v_4 = Value.agg #[Value.bool t55_0, Value.slice t55_1A t55_1n t55_1c] ∧
 R (Value.tuple #[Value.agg #[Value.bool t53_0, Value.slice t53_1A t53_1n t53_1c], Value.agg #[Value.bool t55_0, Value.slice t55_1A t55_1n t55_1c], Value.bool true]) h_6) ∧
 ∃ C_1 : Bool → Heap → Prop, (∀ (t36 : Bool) (h_7 : Heap), C_1 t36 h_7 →
 Br (t36)
  (CallsU Tryz.prog 53 [Value.int .u64 1] h_7 fun v_5 h_8 =>
 ∃ t38A : Option Addr, ∃ t38n t38c : Nat, v_5 = Value.slice t38A t38n t38c ∧
 CallsU Tryz.prog 111 [Value.slice t21_0A t21_0n t21_0c, Value.slice t38A t38n t38c] h_8 fun v_6 h_9 =>
 ∃ t39A : Option Addr, ∃ t39n t39c : Nat, v_6 = Value.slice t39A t39n t39c ∧
 CallsU Tryz.prog 137 [Value.slice t15_1A t15_1n t15_1c, Value.slice t21_1A t21_1n t21_1c] h_9 fun v_7 h_10 =>
 ∃ t44_0A : Option Addr, ∃ t44_0n t44_0c : Nat, ∃ t44_1 : Bool, v_7 = Value.tuple #[Value.slice t44_0A t44_0n t44_0c, Value.bool t44_1] ∧
 C t39A t39n t39c t44_0A t44_0n t44_0c h_10)
  (C t21_0A t21_0n t21_0c t21_1A t21_1n t21_1c h_7)) ∧
 Br (t13_0)
  (CallsU Tryz.prog 115 [Value.slice t21_1A t21_1n t21_1c] h_3 fun v_8 h_11 =>
 ∃ t33A : Option Addr, ∃ t33n t33c : Nat, v_8 = Value.slice t33A t33n t33c ∧
 C_1 (decide (((t33n : Nat) : Int) > 0)) h_11)
  (C_1 false h_3))

set_option maxRecDepth 100000 in
theorem ref02_DivMod_ok {a_0 : Bool} {a_1A : Option Addr} {a_1n a_1c : Nat} {b_0 : Bool} {b_1A : Option Addr} {b_1n b_1c : Nat} {h : Heap} {R : Value → Heap → Prop} (hv : ref02_DivMod_vc a_0 a_1A a_1n a_1c b_0 b_1A b_1n b_1c h R) : CallsU Tryz.prog 105 [Value.agg #[Value.bool a_0, Value.slice a_1A a_1n a_1c], Value.agg #[Value.bool b_0, Value.slice b_1A b_1n b_1c]] h R :=
  fn_sound Tryz.func105 (by kernel_rfl) (by kernel_rfl) (by kernel_rfl) (fun _ => false) (.two .nil (.two (.ord [0, 2, 1, 3, 4, 5, 6, 7]) (.two .nil (.two .nil (.cut ⟨[(9, Sh.slice), (10, Sh.slice)], []⟩ (.cut ⟨[(36, Sh.bool)], []⟩ .nil .nil) .nil))))) [Value.agg #[Value.bool a_0, Value.slice a_1A a_1n a_1c], Value.agg #[Value.bool b_0, Value.slice b_1A b_1n b_1c]] h R (by kernel_rfl)
    (Eq.mp (show ref02_DivMod_vc a_0 a_1A a_1n a_1c b_0 b_1A b_1n b_1c h R = fnV Tryz.prog Tryz.f105 (fun _ => false) (.two .nil (.two (.ord [0, 2, 1, 3, 4, 5, 6, 7]) (.two .nil (.two .nil (.cut ⟨[(9, Sh.slice), (10, Sh.slice)], []⟩ (.cut ⟨[(36, Sh.bool)], []⟩ .nil .nil) .nil))))) [Value.agg #[Value.bool a_0, Value.slice a_1A a_1n a_1c], Value.agg #[Value.bool b_0, Value.slice b_1A b_1n b_1c]] h R by kernel_rfl) hv)

def ref03_Add_vc (a_0 : Bool) (a_1A : Option Addr) (a_1n a_1c : Nat) (a_2A : Option Addr) (a_2n a_2c : Nat) (b_0 : Bool) (b_1A : Option Addr) (b_1n b_1c : Nat) (b_2A : Option Addr) (b_2n b_2c : Nat) (h : Heap) (R : Value → Heap → Prop) : Prop :=
 CallsU Tryz.prog 102 [Value.agg #[Value.bool a_0, Value.slice a_1A a_1n a_1c, Value.slice a_2A a_2n a_2c]] h fun v h_1 =>
 ∃ t9_0 : Bool, ∃ t9_1A : Option Addr, ∃ t9_1n t9_1c : Nat, ∃ t9_2A : Option Addr, ∃ t9_2n t9_2c : Nat, v = Value.agg #[Value.bool t9_0, Value.slice t9_1A t9_1n t9_1c, Value.slice t9_2A t9_2n t9_2c] ∧
 LeH h h_1 ∧
 CallsU Tryz.prog 102 [Value.agg #[Value.bool b_0, Value.slice b_1A b_1n b_1c, Value.slice b_2A b_2n b_2c]] h_1 fun v_1 h_2 =>
 ∃ t11_0 : Bool, ∃ t11_1A : Option Addr, ∃ t11_1n t11_1c : Nat, ∃ t11_2A : Option Addr, ∃ t11_2n t11_2c : Nat, v_1 = Value.agg #[Value.bool t11_0, Value.slice t11_1A t11_1n t11_1c, Value.slice t11_2A t11_2n t11_2c] ∧
 CallsU Tryz.prog 139 [Value.agg #[Value.bool t9_0, Value.slice t9_1A t9_1n t9_1c], Value.agg #[Value.bool false, Value.slice t11_2A t11_2n t11_2c]] h_2 fun v_2 h_3 =>
 ∃ t17_0 : Bool, ∃ t17_1A : Option Addr, ∃ t17_1n t17_1c : Nat, v_2 = Value.agg #[Value.bool t17_0, Value.slice t17_1A t17_1n t17_1c] ∧
 LeH h_2 h_3 ∧
 CallsU Tryz.prog 139 [Value.agg #[Value.bool t11_0, Value.slice t11_1A t11_1n t11_1c], Value.agg #[Value.bool false, Value.slice t9_2A t9_2n t9_2c]] h_3 fun v_3 h_4 =>
 ∃ t23_0 : Bool, ∃ t23_1A : Option Addr, ∃ t23_1n t23_1c : Nat, v_3 = Value.agg #[Value.bool t23_0, Value.slice t23_1A t23_1n t23_1c] ∧
 CallsU Tryz.prog 138 [Value.agg #[Value.bool t17_0, Value.slice t17_1A t17_1n t17_1c], Value.agg #[Value.bool t23_0, Value.slice t23_1A t23_1n t23_1c]] h_4 fun v_4 h_5 =>
 ∃ t24_0 : Bool, ∃ t24_1A : Option Addr, ∃ t24_1n t24_1c : Nat, v_4 = Value.agg #[Value.bool t24_0, Value.slice t24_1A t24_1n t24_1c] ∧
 CallsU Tryz.prog 103 [Value.slice t9_2A t9_2n t9_2c, Value.slice t11_2A t11_2n t11_2c] h_5 fun v_5 h_6 =>
 ∃ t33A : Option Addr, ∃ t33n t33c : Nat, v_5 = Value.slice t33A t33n t33c ∧
 LeH h_5 h_6 ∧
 CallsU Tryz.prog 70 [Value.bool t24_0, Value.slice t24_1A t24_1n t24_1c, Value.slice t33A t33n t33c] h_6 fun v_6 h_7 =>
 ∃ t34_0 : Bool, ∃ t34_1A : Option Addr, ∃ t34_1n t34_1c : Nat, ∃ t34_2A : Option Addr, ∃ t34_2n t34_2c : Nat, v_6 = Value.agg #[Value.bool t34_0, Value.slice t34_1A t34_1n t34_1c, Value.slice t34_2A t34_2n t34_2c] ∧
 R (Value.agg #[Value.bool t34_0, Value.slice t34_1A t34_1n t34_1c, Value.slice t34_2A t34_2n t34_2c]) h_7

set_option maxRecDepth 100000 in
theorem ref03_Add_ok {a_0 : Bool} {a_1A : Option Addr} {a_1n a_1c : Nat} {a_2A : Option Addr} {a_2n a_2c : Nat} {b_0 : Bool} {b_1A : Option Addr} {b_1n b_1c : Nat} {b_2A : Option Addr} {b_2n b_2c : Nat} {h : Heap} {R : Value → Heap → Prop} (hv : ref03_Add_vc a_0 a_1A a_1n a_1c a_2A a_2n a_2c b_0 b_1A b_1n b_1c b_2A b_2n b_2c h R) : CallsU Tryz.prog 106 [Value.agg #[Value.bool a_0, Value.slice a_1A a_1n a_1c, Value.slice a_2A a_2n a_2c], Value.agg #[Value.bool b_0, Value.slice b_1A b_1n b_1c, Value.slice b_2A b_2n b_2c]] h R :=
  fn_sound Tryz.func106 (by kernel_rfl) (by kernel_rfl) (by kernel_rfl) (fun _ => false) (.two .nil (.two (.ord [0, 2, 1, 3, 4, 5, 6, 7]) (.two (.ord [0, 1, 2, 3, 4, 6, 7, 8, 9, 10, 5, 11, 12, 13, 14]) (.two (.ord [0, 1, 2, 3, 4, 5, 6, 7, 8, 9, 10]) .nil)))) [Value.agg #[Value.bool a_0, Value.slice a_1A a_1n a_1c, Value.slice a_2A a_2n a_2c], Value.agg #[Value.bool b_0, Value.slice b_1A b_1n b_1c, Value.slice b_2A b_2n b_2c]] h R (by kernel_rfl)
    (Eq.mp (show ref03_Add_vc a_0 a_1A a_1n a_1c a_2A a_2n a_2c b_0 b_1A b_1n b_1c b_2A b_2n b_2c h R = fnV Tryz.prog Tryz.f106 (fun _ => false) (.two .nil (.two (.ord [0, 2, 1, 3, 4, 5, 6, 7]) (.two (.ord [0, 1, 2, 3, 4, 6, 7, 8, 9, 10, 5, 11, 12, 13, 14]) (.two (.ord [0, 1, 2, 3, 4, 5, 6, 7, 8, 9, 10]) .nil)))) [Value.agg #[Value.bool a_0, Value.slice a_1A a_1n a_1c, Value.slice a_2A a_2n a_2c], Value.agg #[Value.bool b_0, Value.slice b_1A b_1n b_1c, Value.slice b_2A b_2n b_2c]] h R by kernel_rfl) hv)

def ref01_limb_vc (aA : Option Addr) (an _ac : Nat) (i : Int) (h : Heap) (R : Value → Heap → Prop) : Prop :=
 Br (decide (i < 0))
  (R (Value.int .u64 0) h)
  (Br (decide (i ≥ ((an : Nat) : Int)))
  (R (Value.int .u64 0) h)
  (∃ ad : Addr, aA = some ad ∧ 0 ≤ i ∧ i < ((an : Nat) : Int) ∧
 ∃ t16 : Int, LdN h (Addr.add ad (Int.toNat i * 1)) [Value.int .u32 t16] ∧
 R (Value.int .u64 (IntKind.u64.wrap t16)) h))

set_option maxRecDepth 100000 in
theorem ref01_limb_ok {aA : Option Addr} {an ac : Nat} {i : Int} {h : Heap} {R : Value → Heap → Prop} (hv : ref01_limb_vc aA an ac i h R) : CallsU Tryz.prog 107 [Value.slice aA an ac, Value.int .i64 i] h R :=
  fn_sound Tryz.func107 (by kernel_rfl) (by kernel_rfl) (by kernel_rfl) (fun _ => false) .nil [Value.slice aA an ac, Value.int .i64 i] h R (by kernel_rfl)
    (Eq.mp (show ref01_limb_vc aA an ac i h R = fnV Tryz.prog Tryz.f107 (fun _ => false) .nil [Value.slice aA an ac, Value.int .i64 i] h R by kernel_rfl) hv)

def ref02_Norm_vc (a_0 : Bool) (a_1A : Option Addr) (a_1n a_1c : Nat) (h : Heap) (R : Value → Heap → Prop) : Prop :=
 CallsU Tryz.prog 136 [Value.bool a_0, Value.slice a_1A a_1n a_1c] h fun v h_1 =>
 ∃ t7_0 : Bool, ∃ t7_1A : Option Addr, ∃ t7_1n t7_1c : Nat, v = Value.agg #[Value.bool t7_0, Value.slice t7_1A t7_1n t7_1c] ∧
 R (Value.agg #[Value.bool t7_0, Value.slice t7_1A t7_1n t7_1c]) h_1

set_option maxRecDepth 100000 in
theorem ref02_Norm_ok {a_0 : Bool} {a_1A : Option Addr} {a_1n a_1c : Nat} {h : Heap} {R : Value → Heap → Prop} (hv : ref02_Norm_vc a_0 a_1A a_1n a_1c h R) : CallsU Tryz.prog 109 [Value.agg #[Value.bool a_0, Value.slice a_1A a_1n a_1c]] h R :=
  fn_sound Tryz.func109 (by kernel_rfl) (by kernel_rfl) (by kernel_rfl) (fun _ => false) .nil [Value.agg #[Value.bool a_0, Value.slice a_1A a_1n a_1c]] h R (by kernel_rfl)
    (Eq.mp (show ref02_Norm_vc a_0 a_1A a_1n a_1c h R = fnV Tryz.prog Tryz.f109 (fun _ => false) .nil [Value.agg #[Value.bool a_0, Value.slice a_1A a_1n a_1c]] h R by kernel_rfl) hv)

def ref01_DivMod_vc (aA : Option Addr) (an ac : Nat) (bA : Option Addr) (bn bc : Nat) (h : Heap) (R : Value → Heap → Prop) : Prop :=
 CallsU Tryz.prog 140 [Value.slice bA bn bc] h fun v h_1 =>
 ∃ t15 : Int, v = Value.int .i64 t15 ∧
 Br ((t15 : Int) == 0)
  (R (Value.tuple #[Value.slice none 0 0, Value.slice none 0 0, Value.bool false]) h_1)
  (CallsU Tryz.prog 115 [Value.slice aA an ac] h_1 fun v_1 h_2 =>
 ∃ t18A : Option Addr, ∃ t18n t18c : Nat, v_1 = Value.slice t18A t18n t18c ∧
 CallsU Tryz.prog 140 [Value.slice t18A t18n t18c] h_2 fun v_2 h_3 =>
 ∃ t20 : Int, v_2 = Value.int .i64 t20 ∧
 CallsU Tryz.prog 140 [Value.slice bA bn bc] h_3 fun v_3 h_4 =>
 ∃ t22 : Int, v_3 = Value.int .i64 t22 ∧
 ∀ t23 : Int, t23 = IntKind.i64.wrap (t20 - t22) →
 Br (decide (t23 < 0))
  (R (Value.tuple #[Value.slice none 0 0, Value.slice t18A t18n t18c, Value.bool true]) h_4)
  (∀ t28 : Int, t28 = IntKind.i64.wrap (Int.tdiv t23 32) →
 ∀ t29 : Int, t29 = IntKind.i64.wrap (t28 + 1) →
 0 ≤ t29 ∧ t29 ≤ t29 ∧ t29 * 4 ≤ 140737488355328 ∧ t29 ≤ 9223372036854775807 ∧
 ∀ (g : Nat) (h_5 : Heap), h_4 g = none → h_5 = Heap.put h_4 g ⟨repV [Value.int .u32 0] (Int.toNat t29), 46, (0, 0)⟩ →
 CallsU Tryz.prog 141 [Value.slice bA bn bc, Value.int .i64 t23] h_5 fun v_4 h_6 =>
 ∃ t33A : Option Addr, ∃ t33n t33c : Nat, v_4 = Value.slice t33A t33n t33c ∧
 ∃ J : Nat → Option Addr → Nat → Nat → Option Addr → Nat → Nat → Int → Heap → Prop, (∃ m, J m t18A t18n t18c t33A t33n t33c t23 h_6) ∧
 ∀ (m : Nat) (restA : Option Addr) (restn restc : Nat) (partA : Option Addr) (partn partc : Nat) (k : Int) (h_7 : Heap), J m restA restn restc partA partn partc k h_7 →
 Br (decide (k ≥ 0))
  (CallsU Tryz.prog 137 [Value.slice restA restn restc, Value.slice partA partn partc] h_7 fun v_5 h_8 =>
 ∃ t42_0A : Option Addr, ∃ t42_0n t42_0c : Nat, ∃ t42_1 : Bool, v_5 = Value.tuple #[Value.slice t42_0A t42_0n t42_0c, Value.bool t42_1] ∧
 Br (t42_1)
  (∀ t49 : Int, t49 = IntKind.i64.wrap (Int.tdiv k 32) →
 ∀ t52 : Int, t52 = IntKind.i64.wrap (Int.tdiv k 32) →
 ∃ ad : Addr, some ⟨g, 0, none⟩ = some ad ∧ 0 ≤ t52 ∧ t52 < (((Int.toNat t29) : Nat) : Int) ∧
 ∃ t54 : Int, LdN h_8 (Addr.add ad (Int.toNat t52 * 1)) [Value.int .u32 t54] ∧
 ∀ t56 : Int, t56 = (Int.tmod k 32) →
 Br (decide (IntKind.u64.wrap t56 < 0)) False
  (∀ t58 : Int, t58 = IntKind.u32.wrap (1 * 2 ^ (min (Int.toNat (IntKind.u64.wrap t56)) 32 : Nat)) →
 ∀ t59 : Int, t59 = IntKind.u32.wrap (t54 + t58) →
 ∃ ad_1 : Addr, some ⟨g, 0, none⟩ = some ad_1 ∧ 0 ≤ t49 ∧ t49 < (((Int.toNat t29) : Nat) : Int) ∧
 ∃ b : Blk, h_8 (Addr.block (Addr.add ad_1 (Int.toNat t49 * 1))) = some b ∧ b.fz = (0, 0) ∧ Addr.spot (Addr.add ad_1 (Int.toNat t49 * 1)) = none ∧ Addr.off (Addr.add ad_1 (Int.toNat t49 * 1)) + 1 ≤ b.cells.length ∧
 ∀ h_9 : Heap, h_9 = Heap.put h_8 (Addr.block (Addr.add ad_1 (Int.toNat t49 * 1))) { b with cells := setSeg b.cells (Addr.off (Addr.add ad_1 (Int.toNat t49 * 1))) [Value.int .u32 t59] } →
 CallsU Tryz.prog 142 [Value.slice partA partn partc] h_9 fun v_6 h_10 =>
 ∃ t62A : Option Addr, ∃ t62n t62c : Nat, v_6 = Value.slice t62A t62n t62c ∧
 ∀ t38 : Int, t38 = IntKind.i64.wrap (k - 1) →
 ∃ m_1, m_1 < m ∧ J m_1 t42_0A t42_0n t42_0c t62A t62n t62c t38 h_10))
  (CallsU Tryz.prog 142 [Value.slice partA partn partc] h_8 fun v_7 h_11 =>
 ∃ t62A_1 : Option Addr, ∃ t62n_1 t62c_1 : Nat, v_7 = Value.slice t62A_1 t62n_1 t62c_1 ∧
 ∀ t38_1 : Int, t38_1 = IntKind.i64.wrap (k - 1) →
 ∃ m_1, m_1 < m ∧ J m_1 restA restn restc t62A_1 t62n_1 t62c_1 t38_1 h_11))
  (CallsU Tryz.prog 115 [Value.slice (some ⟨g, 0, none⟩) (Int.toNat t29) (Int.toNat t29)] h_7 fun v_8 h_12 =>
 ∃ t64A : Option Addr, ∃ t64n t64c : Nat, v_8 = Value.slice t64A t64n t64c ∧
 R (Value.tuple #[Value.slice t64A t64n t64c, Value.slice restA restn restc, Value.bool true]) h_12)))

set_option maxRecDepth 100000 in
theorem ref01_DivMod_ok {aA : Option Addr} {an ac : Nat} {bA : Option Addr} {bn bc : Nat} {h : Heap} {R : Value → Heap → Prop} (hv : ref01_DivMod_vc aA an ac bA bn bc h R) : CallsU Tryz.prog 110 [Value.slice aA an ac, Value.slice bA bn bc] h R :=
  fn_sound Tryz.func110 (by kernel_rfl) (by kernel_rfl) (by kernel_rfl) (fun _ => false) (.two .nil (.two .nil (.two .nil (.two .nil (.two .nil (.two .nil (.two .nil (.two (.two .nil (.one (.loop ⟨[(7, Sh.slice), (10, Sh.slice), (11, Sh.int .i64)], []⟩ .nil))) .nil)))))))) [Value.slice aA an ac, Value.slice bA bn bc] h R (by kernel_rfl)
    (Eq.mp (show ref01_DivMod_vc aA an ac bA bn bc h R = fnV Tryz.prog Tryz.f110 (fun _ => false) (.two .nil (.two .nil (.two .nil (.two .nil (.two .nil (.two .nil (.two .nil (.two (.two .nil (.one (.loop ⟨[(7, Sh.slice), (10, Sh.slice), (11, Sh.int .i64)], []⟩ .nil))) .nil)))))))) [Value.slice aA an ac, Value.slice bA bn bc] h R by kernel_rfl) hv)

def ref01_Add_vc (aA : Option Addr) (an ac : Nat) (bA : Option Addr) (bn bc : Nat) (h : Heap) (R : Value → Heap → Prop) : Prop :=
 ∃ J : Nat → Option Addr → Nat → Nat → Int → Int → Heap → Prop, (∃ m, J m none 0 0 0 0 h) ∧
 ∀ (m : Nat) (outA : Option Addr) (outn outc : Nat) (carry : Int) (i : Int) (h_1 : Heap), J m outA outn outc carry i h_1 →
 ∃ C : Heap → Prop, (∀  (h_2 : Heap), C h_2 →
 CallsU Tryz.prog 107 [Value.slice aA an ac, Value.int .i64 i] h_2 fun v h_3 =>
 ∃ t24 : Int, v = Value.int .u64 t24 ∧
 CallsU Tryz.prog 107 [Value.slice bA bn bc, Value.int .i64 i] h_3 fun v_1 h_4 =>
 ∃ t27 : Int, v_1 = Value.int .u64 t27 ∧
 ∀ t28 : Int, t28 = IntKind.u64.wrap (t24 + t27) →
 ∀ t30 : Int, t30 = IntKind.u64.wrap (t28 + carry) →
 ∀ t33 : Int, t33 = (Int.tmod t30 4294967296) →
 ∀ (g : Nat) (h_5 : Heap), h_4 g = none → h_5 = Heap.put h_4 g ⟨[Value.int .u32 (IntKind.u32.wrap t33)], 46, (0, 0)⟩ →
 ∃ xs : List Value, RdS h_5 (some ⟨g, 0, none⟩) (1 * 1) xs ∧ (∀ x ∈ xs, one x = true) ∧
 (outn + 1 ≤ outc → ∃ (ad : Addr) (b : Blk), outA = some ad ∧ ad.spot = none ∧ h_5 ad.block = some b ∧ b.fz = (0, 0) ∧ ad.off + outn * 1 + 1 * 1 ≤ b.cells.length ∧
 ∀ h_7 : Heap, h_7 = Heap.put h_5 ad.block { b with cells := setSeg b.cells (ad.off + outn * 1) xs } →
 ∀ t38 : Int, t38 = IntKind.u64.wrap (Int.tdiv t30 4294967296) →
 ∀ t21 : Int, t21 = IntKind.i64.wrap (i + 1) →
 ∃ m_1, m_1 < m ∧ J m_1 outA (outn + 1) outc t38 t21 h_7) ∧
 (outc < outn + 1 → ∃ olds : List Value, RdS h_5 outA (outn * 1) olds ∧ (outn + 1) * 4 ≤ 140737488355328 ∧
 ∀ (g_1 cap : Nat) (h_8 : Heap), h_5 g_1 = none → outn + 1 ≤ cap → h_8 = Heap.put h_5 g_1 ⟨olds ++ xs ++ repV [Value.int .u32 0] (cap - (outn + 1)), 46, (0, 0)⟩ →
 ∀ t38_1 : Int, t38_1 = IntKind.u64.wrap (Int.tdiv t30 4294967296) →
 ∀ t21_1 : Int, t21_1 = IntKind.i64.wrap (i + 1) →
 ∃ m_1, m_1 < m ∧ J m_1 (some ⟨g_1, 0, none⟩) (outn + 1) cap t38_1 t21_1 h_8)) ∧
 Br (decide (i < (if decide (((bn : Nat) : Int) > ((an : Nat) : Int)) then ((bn : Nat) : Int) else ((an : Nat) : Int))))
  (C h_1)
  (Br (decide (carry > 0))
  (C h_1)
  (CallsU Tryz.prog 115 [Value.slice outA outn outc] h_1 fun v_3 h_9 =>
 ∃ t40A : Option Addr, ∃ t40n t40c : Nat, v_3 = Value.slice t40A t40n t40c ∧
 R (Value.slice t40A t40n t40c) h_9))

set_option maxRecDepth 100000 in
theorem ref01_Add_ok {aA : Option Addr} {an ac : Nat} {bA : Option Addr} {bn bc : Nat} {h : Heap} {R : Value → Heap → Prop} (hv : ref01_Add_vc aA an ac bA bn bc h R) : CallsU Tryz.prog 111 [Value.slice aA an ac, Value.slice bA bn bc] h R :=
  fn_sound Tryz.func111 (by kernel_rfl) (by kernel_rfl) (by kernel_rfl) (fun _ => false) (.two .nil (.two .nil (.two .nil (.two (.two .nil (.one (.loop ⟨[(5, Sh.slice), (6, Sh.int .u64), (7, Sh.int .i64)], []⟩ (.cut ⟨[], []⟩ .nil .nil)))) .nil)))) [Value.slice aA an ac, Value.slice bA bn bc] h R (by kernel_rfl)
    (Eq.mp (show ref01_Add_vc aA an ac bA bn bc h R = fnV Tryz.prog Tryz.f111 (fun _ => false) (.two .nil (.two .nil (.two .nil (.two (.two .nil (.one (.loop ⟨[(5, Sh.slice), (6, Sh.int .u64), (7, Sh.int .i64)], []⟩ (.cut ⟨[], []⟩ .nil .nil)))) .nil)))) [Value.slice aA an ac, Value.slice bA bn bc] h R by kernel_rfl) hv)

def ref01_Norm_vc (aA : Option Addr) (an ac : Nat) (h : Heap) (R : Value → Heap → Prop) : Prop :=
 ∃ J : Nat → Int → Heap → Prop, (∃ m, J m ((an : Nat) : Int) h) ∧
 ∀ (m : Nat) (n : Int) (h_1 : Heap), J m n h_1 →
 Br (decide (n > 0))
  (∀ t12 : Int, t12 = IntKind.i64.wrap (n - 1) →
 ∃ ad : Addr, aA = some ad ∧ 0 ≤ t12 ∧ t12 < ((an : Nat) : Int) ∧
 ∃ t14 : Int, LdN h_1 (Addr.add ad (Int.toNat t12 * 1)) [Value.int .u32 t14] ∧
 Br ((t14 : Int) == 0)
  (∀ t18 : Int, t18 = IntKind.i64.wrap (n - 1) →
 ∃ m_1, m_1 < m ∧ J m_1 t18 h_1)
  (((0 : Nat) : Int) ≤ n ∧ n ≤ ((ac : Nat) : Int) ∧
 ∃ xs : List Value, RdS h_1 aA ((Int.toNat n) * 1) xs ∧ (∀ x ∈ xs, one x = true) ∧
 (0 + (Int.toNat n) ≤ 0 → Br (decide ((Int.toNat n) * 1 = 0)) (R (Value.slice none (0 + (Int.toNat n)) 0) h_1)
 (∃ (ad_1 : Addr) (b : Blk), none = some ad_1 ∧ ad_1.spot = none ∧ h_1 ad_1.block = some b ∧ b.fz = (0, 0) ∧ ad_1.off + 0 * 1 + (Int.toNat n) * 1 ≤ b.cells.length ∧
 ∀ h_3 : Heap, h_3 = Heap.put h_1 ad_1.block { b with cells := setSeg b.cells (ad_1.off + 0 * 1) xs } →
 R (Value.slice none (0 + (Int.toNat n)) 0) h_3)) ∧
 (0 < 0 + (Int.toNat n) → ∃ olds : List Value, RdS h_1 none (0 * 1) olds ∧ (0 + (Int.toNat n)) * 4 ≤ 140737488355328 ∧
 ∀ (g cap : Nat) (h_4 : Heap), h_1 g = none → 0 + (Int.toNat n) ≤ cap → h_4 = Heap.put h_1 g ⟨olds ++ xs ++ repV [Value.int .u32 0] (cap - (0 + (Int.toNat n))), 46, (0, 0)⟩ →
 R (Value.slice (some ⟨g, 0, none⟩) (0 + (Int.toNat n)) cap) h_4)))
  (((0 : Nat) : Int) ≤ n ∧ n ≤ ((ac : Nat) : Int) ∧
 ∃ xs_1 : List Value, RdS h_1 aA ((Int.toNat n) * 1) xs_1 ∧ (∀ x ∈ xs_1, one x = true) ∧
 (0 + (Int.toNat n) ≤ 0 → Br (decide ((Int.toNat n) * 1 = 0)) (R (Value.slice none (0 + (Int.toNat n)) 0) h_1)
 (∃ (ad_2 : Addr) (b_1 : Blk), none = some ad_2 ∧ ad_2.spot = none ∧ h_1 ad_2.block = some b_1 ∧ b_1.fz = (0, 0) ∧ ad_2.off + 0 * 1 + (Int.toNat n) * 1 ≤ b_1.cells.length ∧
 ∀ h_6 : Heap, h_6 = Heap.put h_1 ad_2.block { b_1 with cells := setSeg b_1.cells (ad_2.off + 0 * 1) xs_1 } →
 R (Value.slice none (0 + (Int.toNat n)) 0) h_6)) ∧
 (0 < 0 + (Int.toNat n) → ∃ olds_1 : List Value, RdS h_1 none (0 * 1) olds_1 ∧ (0 + (Int.toNat n)) * 4 ≤ 140737488355328 ∧
 ∀ (g_1 cap_1 : Nat) (h_7 : Heap), h_1 g_1 = none → 0 + (Int.toNat n) ≤ cap_1 → h_7 = Heap.put h_1 g_1 ⟨olds_1 ++ xs_1 ++ repV [Value.int .u32 0] (cap_1 - (0 + (Int.toNat n))), 46, (0, 0)⟩ →
 R (Value.slice (some ⟨g_1, 0, none⟩) (0 + (Int.toNat n)) cap_1) h_7))

set_option maxRecDepth 100000 in
theorem ref01_Norm_ok {aA : Option Addr} {an ac : Nat} {h : Heap} {R : Value → Heap → Prop} (hv : ref01_Norm_vc aA an ac h R) : CallsU Tryz.prog 115 [Value.slice aA an ac] h R :=
  fn_sound Tryz.func115 (by kernel_rfl) (by kernel_rfl) (by kernel_rfl) (fun _ => false) (.two .nil (.two .nil (.two (.one (.loop ⟨[(3, Sh.int .i64)], []⟩ .nil)) .nil))) [Value.slice aA an ac] h R (by kernel_rfl)
    (Eq.mp (show ref01_Norm_vc aA an ac h R = fnV Tryz.prog Tryz.f115 (fun _ => false) (.two .nil (.two .nil (.two (.one (.loop ⟨[(3, Sh.int .i64)], []⟩ .nil)) .nil))) [Value.slice aA an ac] h R by kernel_rfl) hv)

def ref01_small_vc (aA : Option Addr) (an ac : Nat) (d : Int) (h : Heap) (R : Value → Heap → Prop) : Prop :=
 0 ≤ ((an : Nat) : Int) ∧ ((an : Nat) : Int) ≤ ((an : Nat) : Int) ∧ ((an : Nat) : Int) * 4 ≤ 140737488355328 ∧ ((an : Nat) : Int) ≤ 9223372036854775807 ∧
 ∀ (g : Nat) (h_1 : Heap), h g = none → h_1 = Heap.put h g ⟨repV [Value.int .u32 0] (Int.toNat ((an : Nat) : Int)), 46, (0, 0)⟩ →
 ∀ t15 : Int, t15 = IntKind.i64.wrap (((an : Nat) : Int) - 1) →
 ∃ J : Nat → Int → Int → Heap → Prop, (∃ m, J m 0 t15 h_1) ∧
 ∀ (m : Nat) (rest : Int) (i : Int) (h_2 : Heap), J m rest i h_2 →
 Br (decide (i ≥ 0))
  (∀ t21 : Int, t21 = IntKind.u64.wrap (rest * 4294967296) →
 CallsU Tryz.prog 107 [Value.slice aA an ac, Value.int .i64 i] h_2 fun v h_3 =>
 ∃ t24 : Int, v = Value.int .u64 t24 ∧
 ∀ t25 : Int, t25 = IntKind.u64.wrap (t21 + t24) →
 Br (decide (d = 0)) False
  (∀ t30 : Int, t30 = IntKind.u64.wrap (Int.tdiv t25 d) →
 ∃ ad : Addr, some ⟨g, 0, none⟩ = some ad ∧ 0 ≤ i ∧ i < (((Int.toNat ((an : Nat) : Int)) : Nat) : Int) ∧
 ∃ b : Blk, h_3 (Addr.block (Addr.add ad (Int.toNat i * 1))) = some b ∧ b.fz = (0, 0) ∧ Addr.spot (Addr.add ad (Int.toNat i * 1)) = none ∧ Addr.off (Addr.add ad (Int.toNat i * 1)) + 1 ≤ b.cells.length ∧
 ∀ h_4 : Heap, h_4 = Heap.put h_3 (Addr.block (Addr.add ad (Int.toNat i * 1))) { b with cells := setSeg b.cells (Addr.off (Addr.add ad (Int.toNat i * 1))) [Value.int .u32 (IntKind.u32.wrap t30)] } →
 Br (decide (d = 0)) False
  (∀ t35 : Int, t35 = (Int.tmod t25 d) →
 ∀ t19 : Int, t19 = IntKind.i64.wrap (i - 1) →
 ∃ m_1, m_1 < m ∧ J m_1 t35 t19 h_4)))
  (CallsU Tryz.prog 115 [Value.slice (some ⟨g, 0, none⟩) (Int.toNat ((an : Nat) : Int)) (Int.toNat ((an : Nat) : Int))] h_2 fun v_1 h_5 =>
 ∃ t37A : Option Addr, ∃ t37n t37c : Nat, v_1 = Value.slice t37A t37n t37c ∧
 R (Value.tuple #[Value.slice t37A t37n t37c, Value.int .u64 rest]) h_5)

set_option maxRecDepth 100000 in
theorem ref01_small_ok {aA : Option Addr} {an ac : Nat} {d : Int} {h : Heap} {R : Value → Heap → Prop} (hv : ref01_small_vc aA an ac d h R) : CallsU Tryz.prog 116 [Value.slice aA an ac, Value.int .u64 d] h R :=
  fn_sound Tryz.func116 (by kernel_rfl) (by kernel_rfl) (by kernel_rfl) (fun _ => false) (.two .nil (.two .nil (.two .nil (.two (.two .nil (.one (.loop ⟨[(7, Sh.int .u64), (8, Sh.int .i64)], []⟩ .nil))) .nil)))) [Value.slice aA an ac, Value.int .u64 d] h R (by kernel_rfl)
    (Eq.mp (show ref01_small_vc aA an ac d h R = fnV Tryz.prog Tryz.f116 (fun _ => false) (.two .nil (.two .nil (.two .nil (.two (.two .nil (.one (.loop ⟨[(7, Sh.int .u64), (8, Sh.int .i64)], []⟩ .nil))) .nil)))) [Value.slice aA an ac, Value.int .u64 d] h R by kernel_rfl) hv)

def ref01_Gcd_vc (aA : Option Addr) (an ac : Nat) (bA : Option Addr) (bn bc : Nat) (h : Heap) (R : Value → Heap → Prop) : Prop :=
 CallsU Tryz.prog 115 [Value.slice aA an ac] h fun v h_1 =>
 ∃ t11A : Option Addr, ∃ t11n t11c : Nat, v = Value.slice t11A t11n t11c ∧
 CallsU Tryz.prog 115 [Value.slice bA bn bc] h_1 fun v_1 h_2 =>
 ∃ t13A : Option Addr, ∃ t13n t13c : Nat, v_1 = Value.slice t13A t13n t13c ∧
 ∃ J : Nat → Option Addr → Nat → Nat → Option Addr → Nat → Nat → Heap → Prop, (∃ m, J m t11A t11n t11c t13A t13n t13c h_2) ∧
 ∀ (m : Nat) (xA : Option Addr) (xn xc : Nat) (yA : Option Addr) (yn yc : Nat) (h_3 : Heap), J m xA xn xc yA yn yc h_3 →
 Br (decide (((yn : Nat) : Int) > 0))
  (CallsU Tryz.prog 110 [Value.slice xA xn xc, Value.slice yA yn yc] h_3 fun v_2 h_4 =>
 ∃ t20_0A : Option Addr, ∃ t20_0n t20_0c : Nat, ∃ t20_1A : Option Addr, ∃ t20_1n t20_1c : Nat, ∃ t20_2 : Bool, v_2 = Value.tuple #[Value.slice t20_0A t20_0n t20_0c, Value.slice t20_1A t20_1n t20_1c, Value.bool t20_2] ∧
 ∃ m_1, m_1 < m ∧ J m_1 yA yn yc t20_1A t20_1n t20_1c h_4)
  (R (Value.slice xA xn xc) h_3)

set_option maxRecDepth 100000 in
theorem ref01_Gcd_ok {aA : Option Addr} {an ac : Nat} {bA : Option Addr} {bn bc : Nat} {h : Heap} {R : Value → Heap → Prop} (hv : ref01_Gcd_vc aA an ac bA bn bc h R) : CallsU Tryz.prog 118 [Value.slice aA an ac, Value.slice bA bn bc] h R :=
  fn_sound Tryz.func118 (by kernel_rfl) (by kernel_rfl) (by kernel_rfl) (fun _ => false) (.two .nil (.two .nil (.two (.one (.loop ⟨[(5, Sh.slice), (6, Sh.slice)], []⟩ .nil)) .nil))) [Value.slice aA an ac, Value.slice bA bn bc] h R (by kernel_rfl)
    (Eq.mp (show ref01_Gcd_vc aA an ac bA bn bc h R = fnV Tryz.prog Tryz.f118 (fun _ => false) (.two .nil (.two .nil (.two (.one (.loop ⟨[(5, Sh.slice), (6, Sh.slice)], []⟩ .nil)) .nil))) [Value.slice aA an ac, Value.slice bA bn bc] h R by kernel_rfl) hv)

def ref01_Digits_vc (s : ByteArray) (h : Heap) (R : Value → Heap → Prop) : Prop :=
 ∃ J : Nat → Int → Heap → Prop, (∃ m, J m 0 h) ∧
 ∀ (m : Nat) (i : Int) (h_1 : Heap), J m i h_1 →
 Br (decide (i < ((s.size : Nat) : Int)))
  (∃ c : UInt8, 0 ≤ i ∧ s[(Int.toNat i : Nat)]? = some c ∧
 Br (decide ((c.toNat : Int) < 48))
  (R (Value.bool false) h_1)
  (∃ c_1 : UInt8, 0 ≤ i ∧ s[(Int.toNat i : Nat)]? = some c_1 ∧
 Br (decide ((c_1.toNat : Int) > 57))
  (R (Value.bool false) h_1)
  (∀ t9 : Int, t9 = IntKind.i64.wrap (i + 1) →
 ∃ m_1, m_1 < m ∧ J m_1 t9 h_1)))
  (Br ((((s.size : Nat) : Int) : Int) == 1)
  (R (Value.bool true) h_1)
  (Br (decide (((s.size : Nat) : Int) > 1))
  (∃ c_2 : UInt8, 0 ≤ (0 : Int) ∧ s[(0 : Nat)]? = some c_2 ∧
 R (Value.bool (((c_2.toNat : Int) : Int) != 48)) h_1)
  (R (Value.bool false) h_1)))

set_option maxRecDepth 100000 in
theorem ref01_Digits_ok {s : ByteArray} {h : Heap} {R : Value → Heap → Prop} (hv : ref01_Digits_vc s h R) : CallsU Tryz.prog 123 [Value.string s] h R :=
  fn_sound Tryz.func123 (by kernel_rfl) (by kernel_rfl) (by kernel_rfl) (fun _ => false) (.two .nil (.two (.two .nil (.one (.loop ⟨[(3, Sh.int .i64)], []⟩ .nil))) .nil)) [Value.string s] h R (by kernel_rfl)
    (Eq.mp (show ref01_Digits_vc s h R = fnV Tryz.prog Tryz.f123 (fun _ => false) (.two .nil (.two (.two .nil (.one (.loop ⟨[(3, Sh.int .i64)], []⟩ .nil))) .nil)) [Value.string s] h R by kernel_rfl) hv)

def ref02_make1_vc (neg : Bool) (mA : Option Addr) (mn mc : Nat) (h : Heap) (R : Value → Heap → Prop) : Prop :=
 CallsU Tryz.prog 115 [Value.slice mA mn mc] h fun v h_1 =>
 ∃ t6A : Option Addr, ∃ t6n t6c : Nat, v = Value.slice t6A t6n t6c ∧
 Br (neg)
  (R (Value.agg #[Value.bool (decide (((t6n : Nat) : Int) > 0)), Value.slice t6A t6n t6c]) h_1)
  (R (Value.agg #[Value.bool false, Value.slice t6A t6n t6c]) h_1)

set_option maxRecDepth 100000 in
theorem ref02_make1_ok {neg : Bool} {mA : Option Addr} {mn mc : Nat} {h : Heap} {R : Value → Heap → Prop} (hv : ref02_make1_vc neg mA mn mc h R) : CallsU Tryz.prog 136 [Value.bool neg, Value.slice mA mn mc] h R :=
  fn_sound Tryz.func136 (by kernel_rfl) (by kernel_rfl) (by kernel_rfl) (fun _ => false) .nil [Value.bool neg, Value.slice mA mn mc] h R (by kernel_rfl)
    (Eq.mp (show ref02_make1_vc neg mA mn mc h R = fnV Tryz.prog Tryz.f136 (fun _ => false) .nil [Value.bool neg, Value.slice mA mn mc] h R by kernel_rfl) hv)

def ref01_Sub_vc (aA : Option Addr) (an ac : Nat) (bA : Option Addr) (bn bc : Nat) (h : Heap) (R : Value → Heap → Prop) : Prop :=
 CallsU Tryz.prog 52 [Value.slice aA an ac, Value.slice bA bn bc] h fun v h_1 =>
 ∃ t12 : Int, v = Value.int .i64 t12 ∧
 Br (decide (t12 < 0))
  (R (Value.tuple #[Value.slice none 0 0, Value.bool false]) h_1)
  (∃ J : Nat → Option Addr → Nat → Nat → Int → Int → Heap → Prop, (∃ m, J m none 0 0 0 0 h_1) ∧
 ∀ (m : Nat) (outA : Option Addr) (outn outc : Nat) (borrow : Int) (i : Int) (h_2 : Heap), J m outA outn outc borrow i h_2 →
 Br (decide (i < (if decide (((bn : Nat) : Int) > ((an : Nat) : Int)) then ((bn : Nat) : Int) else ((an : Nat) : Int))))
  (CallsU Tryz.prog 107 [Value.slice aA an ac, Value.int .i64 i] h_2 fun v_1 h_3 =>
 ∃ t25 : Int, v_1 = Value.int .u64 t25 ∧
 ∀ t26 : Int, t26 = IntKind.u64.wrap (4294967296 + t25) →
 CallsU Tryz.prog 107 [Value.slice bA bn bc, Value.int .i64 i] h_3 fun v_2 h_4 =>
 ∃ t29 : Int, v_2 = Value.int .u64 t29 ∧
 ∀ t30 : Int, t30 = IntKind.u64.wrap (t26 - t29) →
 ∀ t32 : Int, t32 = IntKind.u64.wrap (t30 - borrow) →
 ∀ t35 : Int, t35 = (Int.tmod t32 4294967296) →
 ∀ (g : Nat) (h_5 : Heap), h_4 g = none → h_5 = Heap.put h_4 g ⟨[Value.int .u32 (IntKind.u32.wrap t35)], 46, (0, 0)⟩ →
 ∃ xs : List Value, RdS h_5 (some ⟨g, 0, none⟩) (1 * 1) xs ∧ (∀ x ∈ xs, one x = true) ∧
 (outn + 1 ≤ outc → ∃ (ad : Addr) (b : Blk), outA = some ad ∧ ad.spot = none ∧ h_5 ad.block = some b ∧ b.fz = (0, 0) ∧ ad.off + outn * 1 + 1 * 1 ≤ b.cells.length ∧
 ∀ h_7 : Heap, h_7 = Heap.put h_5 ad.block { b with cells := setSeg b.cells (ad.off + outn * 1) xs } →
 ∀ t40 : Int, t40 = IntKind.u64.wrap (Int.tdiv t32 4294967296) →
 ∀ t41 : Int, t41 = IntKind.u64.wrap (1 - t40) →
 ∀ t22 : Int, t22 = IntKind.i64.wrap (i + 1) →
 ∃ m_1, m_1 < m ∧ J m_1 outA (outn + 1) outc t41 t22 h_7) ∧
 (outc < outn + 1 → ∃ olds : List Value, RdS h_5 outA (outn * 1) olds ∧ (outn + 1) * 4 ≤ 140737488355328 ∧
 ∀ (g_1 cap : Nat) (h_8 : Heap), h_5 g_1 = none → outn + 1 ≤ cap → h_8 = Heap.put h_5 g_1 ⟨olds ++ xs ++ repV [Value.int .u32 0] (cap - (outn + 1)), 46, (0, 0)⟩ →
 ∀ t40_1 : Int, t40_1 = IntKind.u64.wrap (Int.tdiv t32 4294967296) →
 ∀ t41_1 : Int, t41_1 = IntKind.u64.wrap (1 - t40_1) →
 ∀ t22_1 : Int, t22_1 = IntKind.i64.wrap (i + 1) →
 ∃ m_1, m_1 < m ∧ J m_1 (some ⟨g_1, 0, none⟩) (outn + 1) cap t41_1 t22_1 h_8))
  (CallsU Tryz.prog 115 [Value.slice outA outn outc] h_2 fun v_4 h_9 =>
 ∃ t43A : Option Addr, ∃ t43n t43c : Nat, v_4 = Value.slice t43A t43n t43c ∧
 R (Value.tuple #[Value.slice t43A t43n t43c, Value.bool true]) h_9))

set_option maxRecDepth 100000 in
theorem ref01_Sub_ok {aA : Option Addr} {an ac : Nat} {bA : Option Addr} {bn bc : Nat} {h : Heap} {R : Value → Heap → Prop} (hv : ref01_Sub_vc aA an ac bA bn bc h R) : CallsU Tryz.prog 137 [Value.slice aA an ac, Value.slice bA bn bc] h R :=
  fn_sound Tryz.func137 (by kernel_rfl) (by kernel_rfl) (by kernel_rfl) (fun _ => false) (.two .nil (.two .nil (.two .nil (.two .nil (.two (.two .nil (.one (.loop ⟨[(6, Sh.slice), (7, Sh.int .u64), (8, Sh.int .i64)], []⟩ .nil))) .nil))))) [Value.slice aA an ac, Value.slice bA bn bc] h R (by kernel_rfl)
    (Eq.mp (show ref01_Sub_vc aA an ac bA bn bc h R = fnV Tryz.prog Tryz.f137 (fun _ => false) (.two .nil (.two .nil (.two .nil (.two .nil (.two (.two .nil (.one (.loop ⟨[(6, Sh.slice), (7, Sh.int .u64), (8, Sh.int .i64)], []⟩ .nil))) .nil))))) [Value.slice aA an ac, Value.slice bA bn bc] h R by kernel_rfl) hv)

def ref02_Add_vc (a_0 : Bool) (a_1A : Option Addr) (a_1n a_1c : Nat) (b_0 : Bool) (b_1A : Option Addr) (b_1n b_1c : Nat) (h : Heap) (R : Value → Heap → Prop) : Prop :=
 Br (a_0 == b_0)
  (CallsU Tryz.prog 111 [Value.slice a_1A a_1n a_1c, Value.slice b_1A b_1n b_1c] h fun v h_1 =>
 ∃ t20A : Option Addr, ∃ t20n t20c : Nat, v = Value.slice t20A t20n t20c ∧
 LeH h h_1 ∧
 CallsU Tryz.prog 136 [Value.bool a_0, Value.slice t20A t20n t20c] h_1 fun v_1 h_2 =>
 ∃ t21_0 : Bool, ∃ t21_1A : Option Addr, ∃ t21_1n t21_1c : Nat, v_1 = Value.agg #[Value.bool t21_0, Value.slice t21_1A t21_1n t21_1c] ∧
 R (Value.agg #[Value.bool t21_0, Value.slice t21_1A t21_1n t21_1c]) h_2)
  (CallsU Tryz.prog 137 [Value.slice a_1A a_1n a_1c, Value.slice b_1A b_1n b_1c] h fun v_2 h_3 =>
 ∃ t27_0A : Option Addr, ∃ t27_0n t27_0c : Nat, ∃ t27_1 : Bool, v_2 = Value.tuple #[Value.slice t27_0A t27_0n t27_0c, Value.bool t27_1] ∧
 Br (t27_1)
  (CallsU Tryz.prog 136 [Value.bool a_0, Value.slice t27_0A t27_0n t27_0c] h_3 fun v_3 h_4 =>
 ∃ t34_0 : Bool, ∃ t34_1A : Option Addr, ∃ t34_1n t34_1c : Nat, v_3 = Value.agg #[Value.bool t34_0, Value.slice t34_1A t34_1n t34_1c] ∧
 R (Value.agg #[Value.bool t34_0, Value.slice t34_1A t34_1n t34_1c]) h_4)
  (CallsU Tryz.prog 137 [Value.slice b_1A b_1n b_1c, Value.slice a_1A a_1n a_1c] h_3 fun v_4 h_5 =>
 ∃ t40_0A : Option Addr, ∃ t40_0n t40_0c : Nat, ∃ t40_1 : Bool, v_4 = Value.tuple #[Value.slice t40_0A t40_0n t40_0c, Value.bool t40_1] ∧
 CallsU Tryz.prog 136 [Value.bool b_0, Value.slice t40_0A t40_0n t40_0c] h_5 fun v_5 h_6 =>
 ∃ t46_0 : Bool, ∃ t46_1A : Option Addr, ∃ t46_1n t46_1c : Nat, v_5 = Value.agg #[Value.bool t46_0, Value.slice t46_1A t46_1n t46_1c] ∧
 R (Value.agg #[Value.bool t46_0, Value.slice t46_1A t46_1n t46_1c]) h_6))

set_option maxRecDepth 100000 in
theorem ref02_Add_ok {a_0 : Bool} {a_1A : Option Addr} {a_1n a_1c : Nat} {b_0 : Bool} {b_1A : Option Addr} {b_1n b_1c : Nat} {h : Heap} {R : Value → Heap → Prop} (hv : ref02_Add_vc a_0 a_1A a_1n a_1c b_0 b_1A b_1n b_1c h R) : CallsU Tryz.prog 138 [Value.agg #[Value.bool a_0, Value.slice a_1A a_1n a_1c], Value.agg #[Value.bool b_0, Value.slice b_1A b_1n b_1c]] h R :=
  fn_sound Tryz.func138 (by kernel_rfl) (by kernel_rfl) (by kernel_rfl) (fun _ => false) (.two .nil (.two (.two .nil (.two (.two (.ord [0, 1, 2, 3, 4, 5, 6, 7, 8]) .nil) .nil)) .nil)) [Value.agg #[Value.bool a_0, Value.slice a_1A a_1n a_1c], Value.agg #[Value.bool b_0, Value.slice b_1A b_1n b_1c]] h R (by kernel_rfl)
    (Eq.mp (show ref02_Add_vc a_0 a_1A a_1n a_1c b_0 b_1A b_1n b_1c h R = fnV Tryz.prog Tryz.f138 (fun _ => false) (.two .nil (.two (.two .nil (.two (.two (.ord [0, 1, 2, 3, 4, 5, 6, 7, 8]) .nil) .nil)) .nil)) [Value.agg #[Value.bool a_0, Value.slice a_1A a_1n a_1c], Value.agg #[Value.bool b_0, Value.slice b_1A b_1n b_1c]] h R by kernel_rfl) hv)

def ref02_Mul_vc (a_0 : Bool) (a_1A : Option Addr) (a_1n a_1c : Nat) (b_0 : Bool) (b_1A : Option Addr) (b_1n b_1c : Nat) (h : Heap) (R : Value → Heap → Prop) : Prop :=
 CallsU Tryz.prog 103 [Value.slice a_1A a_1n a_1c, Value.slice b_1A b_1n b_1c] h fun v h_1 =>
 ∃ t14A : Option Addr, ∃ t14n t14c : Nat, v = Value.slice t14A t14n t14c ∧
 LeH h h_1 ∧
 CallsU Tryz.prog 136 [Value.bool (!(a_0 == b_0)), Value.slice t14A t14n t14c] h_1 fun v_1 h_2 =>
 ∃ t15_0 : Bool, ∃ t15_1A : Option Addr, ∃ t15_1n t15_1c : Nat, v_1 = Value.agg #[Value.bool t15_0, Value.slice t15_1A t15_1n t15_1c] ∧
 R (Value.agg #[Value.bool t15_0, Value.slice t15_1A t15_1n t15_1c]) h_2

set_option maxRecDepth 100000 in
theorem ref02_Mul_ok {a_0 : Bool} {a_1A : Option Addr} {a_1n a_1c : Nat} {b_0 : Bool} {b_1A : Option Addr} {b_1n b_1c : Nat} {h : Heap} {R : Value → Heap → Prop} (hv : ref02_Mul_vc a_0 a_1A a_1n a_1c b_0 b_1A b_1n b_1c h R) : CallsU Tryz.prog 139 [Value.agg #[Value.bool a_0, Value.slice a_1A a_1n a_1c], Value.agg #[Value.bool b_0, Value.slice b_1A b_1n b_1c]] h R :=
  fn_sound Tryz.func139 (by kernel_rfl) (by kernel_rfl) (by kernel_rfl) (fun _ => false) (.two .nil (.two (.ord [0, 1, 2, 3, 4, 5, 6, 7, 8, 9, 10, 11]) .nil)) [Value.agg #[Value.bool a_0, Value.slice a_1A a_1n a_1c], Value.agg #[Value.bool b_0, Value.slice b_1A b_1n b_1c]] h R (by kernel_rfl)
    (Eq.mp (show ref02_Mul_vc a_0 a_1A a_1n a_1c b_0 b_1A b_1n b_1c h R = fnV Tryz.prog Tryz.f139 (fun _ => false) (.two .nil (.two (.ord [0, 1, 2, 3, 4, 5, 6, 7, 8, 9, 10, 11]) .nil)) [Value.agg #[Value.bool a_0, Value.slice a_1A a_1n a_1c], Value.agg #[Value.bool b_0, Value.slice b_1A b_1n b_1c]] h R by kernel_rfl) hv)

def ref01_Bits_vc (aA : Option Addr) (an ac : Nat) (h : Heap) (R : Value → Heap → Prop) : Prop :=
 CallsU Tryz.prog 115 [Value.slice aA an ac] h fun v h_1 =>
 ∃ t7A : Option Addr, ∃ t7n t7c : Nat, v = Value.slice t7A t7n t7c ∧
 Br ((((t7n : Nat) : Int) : Int) == 0)
  (R (Value.int .i64 0) h_1)
  (∀ t13 : Int, t13 = IntKind.i64.wrap (((t7n : Nat) : Int) - 1) →
 ∀ t14 : Int, t14 = IntKind.i64.wrap (32 * t13) →
 ∀ t18 : Int, t18 = IntKind.i64.wrap (((t7n : Nat) : Int) - 1) →
 ∃ ad : Addr, t7A = some ad ∧ 0 ≤ t18 ∧ t18 < ((t7n : Nat) : Int) ∧
 ∃ t20 : Int, LdN h_1 (Addr.add ad (Int.toNat t18 * 1)) [Value.int .u32 t20] ∧
 ∃ J : Nat → Int → Int → Heap → Prop, (∃ m, J m t14 t20 h_1) ∧
 ∀ (m : Nat) (n : Int) (t : Int) (h_2 : Heap), J m n t h_2 →
 Br (decide (t > 0))
  (∀ t26 : Int, t26 = IntKind.i64.wrap (n + 1) →
 ∀ t24 : Int, t24 = IntKind.u32.wrap (Int.tdiv t 2) →
 ∃ m_1, m_1 < m ∧ J m_1 t26 t24 h_2)
  (R (Value.int .i64 n) h_2))

set_option maxRecDepth 100000 in
theorem ref01_Bits_ok {aA : Option Addr} {an ac : Nat} {h : Heap} {R : Value → Heap → Prop} (hv : ref01_Bits_vc aA an ac h R) : CallsU Tryz.prog 140 [Value.slice aA an ac] h R :=
  fn_sound Tryz.func140 (by kernel_rfl) (by kernel_rfl) (by kernel_rfl) (fun _ => false) (.two .nil (.two .nil (.two .nil (.two .nil (.two (.two .nil (.one (.loop ⟨[(4, Sh.int .i64), (5, Sh.int .u32)], []⟩ .nil))) .nil))))) [Value.slice aA an ac] h R (by kernel_rfl)
    (Eq.mp (show ref01_Bits_vc aA an ac h R = fnV Tryz.prog Tryz.f140 (fun _ => false) (.two .nil (.two .nil (.two .nil (.two .nil (.two (.two .nil (.one (.loop ⟨[(4, Sh.int .i64), (5, Sh.int .u32)], []⟩ .nil))) .nil))))) [Value.slice aA an ac] h R by kernel_rfl) hv)

def ref01_Shift_vc (aA : Option Addr) (an ac : Nat) (n : Int) (h : Heap) (R : Value → Heap → Prop) : Prop :=
 ∀ t10 : Int, t10 = IntKind.i64.wrap (Int.tdiv n 32) →
 0 ≤ t10 ∧ t10 ≤ t10 ∧ t10 * 4 ≤ 140737488355328 ∧ t10 ≤ 9223372036854775807 ∧
 ∀ (g : Nat) (h_1 : Heap), h g = none → h_1 = Heap.put h g ⟨repV [Value.int .u32 0] (Int.toNat t10), 46, (0, 0)⟩ →
 ∃ J : Nat → Option Addr → Nat → Nat → Int → Int → Heap → Prop, (∃ m, J m (some ⟨g, 0, none⟩) (Int.toNat t10) (Int.toNat t10) 0 0 h_1) ∧
 ∀ (m : Nat) (outA : Option Addr) (outn outc : Nat) (carry : Int) (i : Int) (h_2 : Heap), J m outA outn outc carry i h_2 →
 Br (decide (i ≤ ((an : Nat) : Int)))
  (CallsU Tryz.prog 107 [Value.slice aA an ac, Value.int .i64 i] h_2 fun v h_3 =>
 ∃ t20 : Int, v = Value.int .u64 t20 ∧
 ∀ t22 : Int, t22 = (Int.tmod n 32) →
 Br (decide (IntKind.u64.wrap t22 < 0)) False
  (∀ t24 : Int, t24 = IntKind.u64.wrap (t20 * 2 ^ (min (Int.toNat (IntKind.u64.wrap t22)) 64 : Nat)) →
 ∀ t26 : Int, t26 = IntKind.u64.wrap (t24 + carry) →
 ∀ t29 : Int, t29 = (Int.tmod t26 4294967296) →
 ∀ (g_1 : Nat) (h_4 : Heap), h_3 g_1 = none → h_4 = Heap.put h_3 g_1 ⟨[Value.int .u32 (IntKind.u32.wrap t29)], 46, (0, 0)⟩ →
 ∃ xs : List Value, RdS h_4 (some ⟨g_1, 0, none⟩) (1 * 1) xs ∧ (∀ x ∈ xs, one x = true) ∧
 (outn + 1 ≤ outc → ∃ (ad : Addr) (b : Blk), outA = some ad ∧ ad.spot = none ∧ h_4 ad.block = some b ∧ b.fz = (0, 0) ∧ ad.off + outn * 1 + 1 * 1 ≤ b.cells.length ∧
 ∀ h_6 : Heap, h_6 = Heap.put h_4 ad.block { b with cells := setSeg b.cells (ad.off + outn * 1) xs } →
 ∀ t34 : Int, t34 = IntKind.u64.wrap (Int.tdiv t26 4294967296) →
 ∀ t17 : Int, t17 = IntKind.i64.wrap (i + 1) →
 ∃ m_1, m_1 < m ∧ J m_1 outA (outn + 1) outc t34 t17 h_6) ∧
 (outc < outn + 1 → ∃ olds : List Value, RdS h_4 outA (outn * 1) olds ∧ (outn + 1) * 4 ≤ 140737488355328 ∧
 ∀ (g_2 cap : Nat) (h_7 : Heap), h_4 g_2 = none → outn + 1 ≤ cap → h_7 = Heap.put h_4 g_2 ⟨olds ++ xs ++ repV [Value.int .u32 0] (cap - (outn + 1)), 46, (0, 0)⟩ →
 ∀ t34_1 : Int, t34_1 = IntKind.u64.wrap (Int.tdiv t26 4294967296) →
 ∀ t17_1 : Int, t17_1 = IntKind.i64.wrap (i + 1) →
 ∃ m_1, m_1 < m ∧ J m_1 (some ⟨g_2, 0, none⟩) (outn + 1) cap t34_1 t17_1 h_7)))
  (CallsU Tryz.prog 115 [Value.slice outA outn outc] h_2 fun v_2 h_8 =>
 ∃ t36A : Option Addr, ∃ t36n t36c : Nat, v_2 = Value.slice t36A t36n t36c ∧
 R (Value.slice t36A t36n t36c) h_8)

set_option maxRecDepth 100000 in
theorem ref01_Shift_ok {aA : Option Addr} {an ac : Nat} {n : Int} {h : Heap} {R : Value → Heap → Prop} (hv : ref01_Shift_vc aA an ac n h R) : CallsU Tryz.prog 141 [Value.slice aA an ac, Value.int .i64 n] h R :=
  fn_sound Tryz.func141 (by kernel_rfl) (by kernel_rfl) (by kernel_rfl) (fun _ => false) (.two .nil (.two .nil (.two .nil (.two (.two .nil (.one (.loop ⟨[(5, Sh.slice), (6, Sh.int .u64), (7, Sh.int .i64)], []⟩ .nil))) .nil)))) [Value.slice aA an ac, Value.int .i64 n] h R (by kernel_rfl)
    (Eq.mp (show ref01_Shift_vc aA an ac n h R = fnV Tryz.prog Tryz.f141 (fun _ => false) (.two .nil (.two .nil (.two .nil (.two (.two .nil (.one (.loop ⟨[(5, Sh.slice), (6, Sh.int .u64), (7, Sh.int .i64)], []⟩ .nil))) .nil)))) [Value.slice aA an ac, Value.int .i64 n] h R by kernel_rfl) hv)

def ref01_Half_vc (aA : Option Addr) (an ac : Nat) (h : Heap) (R : Value → Heap → Prop) : Prop :=
 ∃ J : Nat → Option Addr → Nat → Nat → Int → Heap → Prop, (∃ m, J m none 0 0 0 h) ∧
 ∀ (m : Nat) (outA : Option Addr) (outn outc : Nat) (i : Int) (h_1 : Heap), J m outA outn outc i h_1 →
 Br (decide (i < ((an : Nat) : Int)))
  (CallsU Tryz.prog 107 [Value.slice aA an ac, Value.int .i64 i] h_1 fun v h_2 =>
 ∃ t14 : Int, v = Value.int .u64 t14 ∧
 ∀ t15 : Int, t15 = IntKind.u64.wrap (Int.tdiv t14 2) →
 ∀ t18 : Int, t18 = IntKind.i64.wrap (i + 1) →
 CallsU Tryz.prog 107 [Value.slice aA an ac, Value.int .i64 t18] h_2 fun v_1 h_3 =>
 ∃ t19 : Int, v_1 = Value.int .u64 t19 ∧
 ∀ t20 : Int, t20 = (Int.tmod t19 2) →
 ∀ t21 : Int, t21 = IntKind.u64.wrap (t20 * 2147483648) →
 ∀ t22 : Int, t22 = IntKind.u64.wrap (t15 + t21) →
 ∀ (g : Nat) (h_4 : Heap), h_3 g = none → h_4 = Heap.put h_3 g ⟨[Value.int .u32 (IntKind.u32.wrap t22)], 46, (0, 0)⟩ →
 ∃ xs : List Value, RdS h_4 (some ⟨g, 0, none⟩) (1 * 1) xs ∧ (∀ x ∈ xs, one x = true) ∧
 (outn + 1 ≤ outc → ∃ (ad : Addr) (b : Blk), outA = some ad ∧ ad.spot = none ∧ h_4 ad.block = some b ∧ b.fz = (0, 0) ∧ ad.off + outn * 1 + 1 * 1 ≤ b.cells.length ∧
 ∀ h_6 : Heap, h_6 = Heap.put h_4 ad.block { b with cells := setSeg b.cells (ad.off + outn * 1) xs } →
 ∀ t10 : Int, t10 = IntKind.i64.wrap (i + 1) →
 ∃ m_1, m_1 < m ∧ J m_1 outA (outn + 1) outc t10 h_6) ∧
 (outc < outn + 1 → ∃ olds : List Value, RdS h_4 outA (outn * 1) olds ∧ (outn + 1) * 4 ≤ 140737488355328 ∧
 ∀ (g_1 cap : Nat) (h_7 : Heap), h_4 g_1 = none → outn + 1 ≤ cap → h_7 = Heap.put h_4 g_1 ⟨olds ++ xs ++ repV [Value.int .u32 0] (cap - (outn + 1)), 46, (0, 0)⟩ →
 ∀ t10_1 : Int, t10_1 = IntKind.i64.wrap (i + 1) →
 ∃ m_1, m_1 < m ∧ J m_1 (some ⟨g_1, 0, none⟩) (outn + 1) cap t10_1 h_7))
  (CallsU Tryz.prog 115 [Value.slice outA outn outc] h_1 fun v_3 h_8 =>
 ∃ t27A : Option Addr, ∃ t27n t27c : Nat, v_3 = Value.slice t27A t27n t27c ∧
 R (Value.slice t27A t27n t27c) h_8)

set_option maxRecDepth 100000 in
theorem ref01_Half_ok {aA : Option Addr} {an ac : Nat} {h : Heap} {R : Value → Heap → Prop} (hv : ref01_Half_vc aA an ac h R) : CallsU Tryz.prog 142 [Value.slice aA an ac] h R :=
  fn_sound Tryz.func142 (by kernel_rfl) (by kernel_rfl) (by kernel_rfl) (fun _ => false) (.two .nil (.two .nil (.two (.two .nil (.one (.loop ⟨[(3, Sh.slice), (4, Sh.int .i64)], []⟩ .nil))) .nil))) [Value.slice aA an ac] h R (by kernel_rfl)
    (Eq.mp (show ref01_Half_vc aA an ac h R = fnV Tryz.prog Tryz.f142 (fun _ => false) (.two .nil (.two .nil (.two (.two .nil (.one (.loop ⟨[(3, Sh.slice), (4, Sh.int .i64)], []⟩ .nil))) .nil))) [Value.slice aA an ac] h R by kernel_rfl) hv)

end Go.Proofs.YtccplhjglhdopaaGreatDoor

/-
  Contracts: sampling.Accept; draws.
-/
namespace Go.Proofs.YtccplhjglhdopaaGreatDoor
open Go Go.Vcg
attribute [local irreducible] Br

theorem acc_le {n c d M : Nat} (h : c < n) : acc n c d M ≤ chs (d + M) n := by
  rw [← vander]
  exact sm_le (by omega)

/-- The probability of acceptance. -/
def pAc (n c lot def_ : Nat) : Rat := mkRat ((acc n c def_ (lot - def_) : Nat) : Int) (chs lot n)

/-! ### draws -/
theorem nxt_range (d : Int) : 0 ≤ nxt d ∧ nxt d < 18446744073709551616 := by
  unfold nxt
  rw [wrap_u64_mod]
  omega

/-- The list while it is filled. -/
def filling (n k : Nat) : List Int := rng k ++ List.replicate (n - k) 0

theorem filling_set {n k : Nat} (h : k < n) : (filling n k).set k (k : Int) = filling n (k + 1) := by
  unfold filling
  rw [List.set_append_right _ _ (by rw [rng_len]; exact Nat.le_refl _), rng_len, Nat.sub_self, show n - k = (n - (k + 1)) + 1 from by omega, List.replicate_succ, List.set_cons_zero, rng_succ]
  simp
theorem filling_len {n k : Nat} (h : k ≤ n) : (filling n k).length = n := by simp [filling, rng_len]; omega
theorem filling_zero (n : Nat) : filling n 0 = List.replicate n 0 := by simp [filling, rng]
theorem filling_full (n : Nat) : filling n n = rng n := by simp [filling]

/-- Shuffle: the numbers below n. -/
def shuf (d : Int) (n : Nat) : Int × List Int := shf (n - 1) d (rng n)

theorem shuf_perm (d : Int) (n : Nat) : (shuf d n).2.Perm (rng n) := shf_perm _ _ _ (by rw [rng_len]; omega)
theorem shuf_len (d : Int) (n : Nat) : (shuf d n).2.length = n := by rw [(shuf_perm d n).length_eq, rng_len]

theorem getD_some {l : List Int} {i : Nat} (h : i < l.length) : l[i]? = some (l.getD i 0) := by simp [h]

end Go.Proofs.YtccplhjglhdopaaGreatDoor

/- Made by vcgen.py: verification conditions of functions, each held against the calculator by the kernel. -/
namespace Go.Proofs.YtccplhjglhdopaaGreatDoor
open Go Go.Vcg

def natural_Text_vc (aA : Option Addr) (an ac : Nat) (h : Heap) (R : Value → Heap → Prop) : Prop :=
 CallsU Tryz.prog 84 [Value.slice aA an ac] h fun v h_1 =>
 ∃ t7A : Option Addr, ∃ t7n t7c : Nat, v = Value.slice t7A t7n t7c ∧
 Br ((((t7n : Nat) : Int) : Int) == 0)
  (R (Value.string (⟨#[48]⟩ : ByteArray)) h_1)
  (∃ J : Nat → Option Addr → Nat → Nat → Option Addr → Nat → Nat → Heap → Prop, (∃ m, J m t7A t7n t7c none 0 0 h_1) ∧
 ∀ (m : Nat) (aA_1 : Option Addr) (an_1 ac_1 : Nat) (groupsA : Option Addr) (groupsn groupsc : Nat) (h_2 : Heap), J m aA_1 an_1 ac_1 groupsA groupsn groupsc h_2 →
 Br (decide (((an_1 : Nat) : Int) > 0))
  (CallsU Tryz.prog 86 [Value.slice aA_1 an_1 ac_1, Value.int .u32 1000000000] h_2 fun v_1 h_3 =>
 ∃ t16_0A : Option Addr, ∃ t16_0n t16_0c : Nat, ∃ t16_1 : Int, v_1 = Value.tuple #[Value.slice t16_0A t16_0n t16_0c, Value.int .u32 t16_1] ∧
 CallsU Tryz.prog 93 [Value.int .u64 (IntKind.u64.wrap t16_1), Value.int .i64 10] h_3 fun v_2 h_4 =>
 ∃ t21 : ByteArray, v_2 = Value.string t21 ∧
 Br (decide (((t16_0n : Nat) : Int) > 0))
  (∀ t27 : Int, t27 = IntKind.i64.wrap (9 - ((t21.size : Nat) : Int)) →
 CallsU Tryz.prog 94 [Value.string (⟨#[48]⟩ : ByteArray), Value.int .i64 t27] h_4 fun v_3 h_5 =>
 ∃ t28 : ByteArray, v_3 = Value.string t28 ∧
 ((t28.size + t21.size : Nat) : Int) ≤ 9223372036854775807 ∧
 ∀ (g : Nat) (h_6 : Heap), h_5 g = none → h_6 = Heap.put h_5 g ⟨[Value.string (t28 ++ t21)], 9, (0, 0)⟩ →
 ∃ xs : List Value, RdS h_6 (some ⟨g, 0, none⟩) (1 * 1) xs ∧ (∀ x ∈ xs, one x = true) ∧
 (groupsn + 1 ≤ groupsc → ∃ (ad : Addr) (b : Blk), groupsA = some ad ∧ ad.spot = none ∧ h_6 ad.block = some b ∧ b.fz = (0, 0) ∧ ad.off + groupsn * 1 + 1 * 1 ≤ b.cells.length ∧
 ∀ h_8 : Heap, h_8 = Heap.put h_6 ad.block { b with cells := setSeg b.cells (ad.off + groupsn * 1) xs } →
 ∃ m_1, m_1 < m ∧ J m_1 t16_0A t16_0n t16_0c groupsA (groupsn + 1) groupsc h_8) ∧
 (groupsc < groupsn + 1 → ∃ olds : List Value, RdS h_6 groupsA (groupsn * 1) olds ∧ (groupsn + 1) * 16 ≤ 140737488355328 ∧
 ∀ (g_1 cap : Nat) (h_9 : Heap), h_6 g_1 = none → groupsn + 1 ≤ cap → h_9 = Heap.put h_6 g_1 ⟨olds ++ xs ++ repV [Value.string ByteArray.empty] (cap - (groupsn + 1)), 9, (0, 0)⟩ →
 ∃ m_1, m_1 < m ∧ J m_1 t16_0A t16_0n t16_0c (some ⟨g_1, 0, none⟩) (groupsn + 1) cap h_9))
  (∀ (g_2 : Nat) (h_10 : Heap), h_4 g_2 = none → h_10 = Heap.put h_4 g_2 ⟨[Value.string t21], 9, (0, 0)⟩ →
 ∃ xs_1 : List Value, RdS h_10 (some ⟨g_2, 0, none⟩) (1 * 1) xs_1 ∧ (∀ x ∈ xs_1, one x = true) ∧
 (groupsn + 1 ≤ groupsc → ∃ (ad_1 : Addr) (b_1 : Blk), groupsA = some ad_1 ∧ ad_1.spot = none ∧ h_10 ad_1.block = some b_1 ∧ b_1.fz = (0, 0) ∧ ad_1.off + groupsn * 1 + 1 * 1 ≤ b_1.cells.length ∧
 ∀ h_12 : Heap, h_12 = Heap.put h_10 ad_1.block { b_1 with cells := setSeg b_1.cells (ad_1.off + groupsn * 1) xs_1 } →
 ∃ m_1, m_1 < m ∧ J m_1 t16_0A t16_0n t16_0c groupsA (groupsn + 1) groupsc h_12) ∧
 (groupsc < groupsn + 1 → ∃ olds_1 : List Value, RdS h_10 groupsA (groupsn * 1) olds_1 ∧ (groupsn + 1) * 16 ≤ 140737488355328 ∧
 ∀ (g_3 cap_1 : Nat) (h_13 : Heap), h_10 g_3 = none → groupsn + 1 ≤ cap_1 → h_13 = Heap.put h_10 g_3 ⟨olds_1 ++ xs_1 ++ repV [Value.string ByteArray.empty] (cap_1 - (groupsn + 1)), 9, (0, 0)⟩ →
 ∃ m_1, m_1 < m ∧ J m_1 t16_0A t16_0n t16_0c (some ⟨g_3, 0, none⟩) (groupsn + 1) cap_1 h_13)))
  (CallsU Tryz.prog 95 [Value.slice groupsA groupsn groupsc] h_2 fun v_6 h_14 =>
 v_6 = Value.tuple #[] ∧
 CallsU Tryz.prog 96 [Value.slice groupsA groupsn groupsc, Value.string (⟨#[]⟩ : ByteArray)] h_14 fun v_7 h_15 =>
 ∃ t38 : ByteArray, v_7 = Value.string t38 ∧
 R (Value.string t38) h_15))

set_option maxRecDepth 100000 in
theorem natural_Text_ok {aA : Option Addr} {an ac : Nat} {h : Heap} {R : Value → Heap → Prop} (hv : natural_Text_vc aA an ac h R) : CallsU Tryz.prog 41 [Value.slice aA an ac] h R :=
  fn_sound Tryz.func41 (by kernel_rfl) (by kernel_rfl) (by kernel_rfl) (fun _ => false) (.two .nil (.two .nil (.two .nil (.two .nil (.two (.one (.loop ⟨[(0, Sh.slice), (3, Sh.slice)], []⟩ .nil)) .nil))))) [Value.slice aA an ac] h R (by kernel_rfl)
    (Eq.mp (show natural_Text_vc aA an ac h R = fnV Tryz.prog Tryz.f41 (fun _ => false) (.two .nil (.two .nil (.two .nil (.two .nil (.two (.one (.loop ⟨[(0, Sh.slice), (3, Sh.slice)], []⟩ .nil)) .nil))))) [Value.slice aA an ac] h R by kernel_rfl) hv)

def strconv_FormatUint_vc (i : Int) (base : Int) (h : Heap) (R : Value → Heap → Prop) : Prop :=
 CallsU Tryz.prog 127 [Value.int .u64 i, Value.int .i64 base] h fun v h_1 =>
 ∃ t7 : ByteArray, v = Value.string t7 ∧
 R (Value.string t7) h_1

set_option maxRecDepth 100000 in
theorem strconv_FormatUint_ok {i : Int} {base : Int} {h : Heap} {R : Value → Heap → Prop} (hv : strconv_FormatUint_vc i base h R) : CallsU Tryz.prog 93 [Value.int .u64 i, Value.int .i64 base] h R :=
  fn_sound Tryz.func93 (by kernel_rfl) (by kernel_rfl) (by kernel_rfl) (fun _ => false) .nil [Value.int .u64 i, Value.int .i64 base] h R (by kernel_rfl)
    (Eq.mp (show strconv_FormatUint_vc i base h R = fnV Tryz.prog Tryz.f93 (fun _ => false) .nil [Value.int .u64 i, Value.int .i64 base] h R by kernel_rfl) hv)

end Go.Proofs.YtccplhjglhdopaaGreatDoor
