/-
  Gathered texts of this proof: VcM, Cn13, Cn14, VcL, Cn15, Rf1.
-/
import Derived.Test.YtdpdaphholileaaGreatDoorG02
import Derived.Test.YtdpdaphholileaaGreatDoorChecked
import Derived.Test.YtdpdaphholileaaGreatDoorG04
import Derived.Test.YtdpdaphholileaaGreatDoorG08
import Derived.Test.YtdpdaphholileaaGreatDoorG06
import Derived.Laws.Strings

/- Made by vcgen.py: verification conditions of functions, each held against the calculator by the kernel. -/
namespace Go.Proofs.YtdpdaphholileaaGreatDoor
open Go Go.Vcg

def ref17_Small_vc (e_0 : Int) (e_1 : Bool) (e_2A : Option Addr) (e_2n e_2c : Nat) (e_3A : Option Addr) (e_3n e_3c : Nat) (e_4 : ByteArray) (e_5A : Option Addr) (e_5n e_5c : Nat) (h : Heap) (R : Value → Heap → Prop) : Prop :=
 CallsU Tryz.prog 34 [Value.agg #[Value.int .i64 e_0, Value.bool e_1, Value.slice e_2A e_2n e_2c, Value.slice e_3A e_3n e_3c, Value.string e_4, Value.slice e_5A e_5n e_5c], Value.int .i64 60, Value.int .i64 20] h fun v h_1 =>
 ∃ t4 : Int, v = Value.int .i64 t4 ∧
 R (Value.bool (decide (t4 ≥ 0))) h_1

set_option maxRecDepth 100000 in
theorem ref17_Small_ok {e_0 : Int} {e_1 : Bool} {e_2A : Option Addr} {e_2n e_2c : Nat} {e_3A : Option Addr} {e_3n e_3c : Nat} {e_4 : ByteArray} {e_5A : Option Addr} {e_5n e_5c : Nat} {h : Heap} {R : Value → Heap → Prop} (hv : ref17_Small_vc e_0 e_1 e_2A e_2n e_2c e_3A e_3n e_3c e_4 e_5A e_5n e_5c h R) : CallsU Tryz.prog 11 [Value.agg #[Value.int .i64 e_0, Value.bool e_1, Value.slice e_2A e_2n e_2c, Value.slice e_3A e_3n e_3c, Value.string e_4, Value.slice e_5A e_5n e_5c]] h R :=
  fn_sound Tryz.func11 (by kernel_rfl) (by kernel_rfl) (by kernel_rfl) (fun _ => false) .nil [Value.agg #[Value.int .i64 e_0, Value.bool e_1, Value.slice e_2A e_2n e_2c, Value.slice e_3A e_3n e_3c, Value.string e_4, Value.slice e_5A e_5n e_5c]] h R (by kernel_rfl)
    (Eq.mp (show ref17_Small_vc e_0 e_1 e_2A e_2n e_2c e_3A e_3n e_3c e_4 e_5A e_5n e_5c h R = fnV Tryz.prog Tryz.f11 (fun _ => false) .nil [Value.agg #[Value.int .i64 e_0, Value.bool e_1, Value.slice e_2A e_2n e_2c, Value.slice e_3A e_3n e_3c, Value.string e_4, Value.slice e_5A e_5n e_5c]] h R by kernel_rfl) hv)

def ref17_Check_vc (e_0 : Int) (e_1 : Bool) (e_2A : Option Addr) (e_2n e_2c : Nat) (e_3A : Option Addr) (e_3n e_3c : Nat) (e_4 : ByteArray) (e_5A : Option Addr) (e_5n e_5c : Nat) (h : Heap) (R : Value → Heap → Prop) : Prop :=
 CallsU Tryz.prog 36 [Value.agg #[Value.int .i64 e_0, Value.bool e_1, Value.slice e_2A e_2n e_2c, Value.slice e_3A e_3n e_3c, Value.string e_4, Value.slice e_5A e_5n e_5c], Value.int .i64 1] h fun v h_1 =>
 ∃ t4 : Int, v = Value.int .i64 t4 ∧
 R (Value.int .i64 t4) h_1

set_option maxRecDepth 100000 in
theorem ref17_Check_ok {e_0 : Int} {e_1 : Bool} {e_2A : Option Addr} {e_2n e_2c : Nat} {e_3A : Option Addr} {e_3n e_3c : Nat} {e_4 : ByteArray} {e_5A : Option Addr} {e_5n e_5c : Nat} {h : Heap} {R : Value → Heap → Prop} (hv : ref17_Check_vc e_0 e_1 e_2A e_2n e_2c e_3A e_3n e_3c e_4 e_5A e_5n e_5c h R) : CallsU Tryz.prog 14 [Value.agg #[Value.int .i64 e_0, Value.bool e_1, Value.slice e_2A e_2n e_2c, Value.slice e_3A e_3n e_3c, Value.string e_4, Value.slice e_5A e_5n e_5c]] h R :=
  fn_sound Tryz.func14 (by kernel_rfl) (by kernel_rfl) (by kernel_rfl) (fun _ => false) .nil [Value.agg #[Value.int .i64 e_0, Value.bool e_1, Value.slice e_2A e_2n e_2c, Value.slice e_3A e_3n e_3c, Value.string e_4, Value.slice e_5A e_5n e_5c]] h R (by kernel_rfl)
    (Eq.mp (show ref17_Check_vc e_0 e_1 e_2A e_2n e_2c e_3A e_3n e_3c e_4 e_5A e_5n e_5c h R = fnV Tryz.prog Tryz.f14 (fun _ => false) .nil [Value.agg #[Value.int .i64 e_0, Value.bool e_1, Value.slice e_2A e_2n e_2c, Value.slice e_3A e_3n e_3c, Value.string e_4, Value.slice e_5A e_5n e_5c]] h R by kernel_rfl) hv)

def ref17_Print_vc (e_0 : Int) (e_1 : Bool) (e_2A : Option Addr) (e_2n e_2c : Nat) (e_3A : Option Addr) (e_3n e_3c : Nat) (e_4 : ByteArray) (e_5A : Option Addr) (e_5n e_5c : Nat) (h : Heap) (R : Value → Heap → Prop) : Prop :=
 CallsU Tryz.prog 14 [Value.agg #[Value.int .i64 e_0, Value.bool e_1, Value.slice e_2A e_2n e_2c, Value.slice e_3A e_3n e_3c, Value.string e_4, Value.slice e_5A e_5n e_5c]] h fun v h_1 =>
 ∃ t7 : Int, v = Value.int .i64 t7 ∧
 Br ((t7 : Int) != 0)
  (R (Value.tuple #[Value.string (⟨#[]⟩ : ByteArray), Value.int .i64 t7]) h_1)
  (CallsU Tryz.prog 50 [Value.agg #[Value.int .i64 e_0, Value.bool e_1, Value.slice e_2A e_2n e_2c, Value.slice e_3A e_3n e_3c, Value.string e_4, Value.slice e_5A e_5n e_5c]] h_1 fun v_1 h_2 =>
 ∃ t12 : ByteArray, v_1 = Value.string t12 ∧
 Br (decide (((t12.size : Nat) : Int) > 400))
  (R (Value.tuple #[Value.string (⟨#[]⟩ : ByteArray), Value.int .i64 5]) h_2)
  (R (Value.tuple #[Value.string t12, Value.int .i64 0]) h_2))

set_option maxRecDepth 100000 in
theorem ref17_Print_ok {e_0 : Int} {e_1 : Bool} {e_2A : Option Addr} {e_2n e_2c : Nat} {e_3A : Option Addr} {e_3n e_3c : Nat} {e_4 : ByteArray} {e_5A : Option Addr} {e_5n e_5c : Nat} {h : Heap} {R : Value → Heap → Prop} (hv : ref17_Print_vc e_0 e_1 e_2A e_2n e_2c e_3A e_3n e_3c e_4 e_5A e_5n e_5c h R) : CallsU Tryz.prog 23 [Value.agg #[Value.int .i64 e_0, Value.bool e_1, Value.slice e_2A e_2n e_2c, Value.slice e_3A e_3n e_3c, Value.string e_4, Value.slice e_5A e_5n e_5c]] h R :=
  fn_sound Tryz.func23 (by kernel_rfl) (by kernel_rfl) (by kernel_rfl) (fun _ => false) .nil [Value.agg #[Value.int .i64 e_0, Value.bool e_1, Value.slice e_2A e_2n e_2c, Value.slice e_3A e_3n e_3c, Value.string e_4, Value.slice e_5A e_5n e_5c]] h R (by kernel_rfl)
    (Eq.mp (show ref17_Print_vc e_0 e_1 e_2A e_2n e_2c e_3A e_3n e_3c e_4 e_5A e_5n e_5c h R = fnV Tryz.prog Tryz.f23 (fun _ => false) .nil [Value.agg #[Value.int .i64 e_0, Value.bool e_1, Value.slice e_2A e_2n e_2c, Value.slice e_3A e_3n e_3c, Value.string e_4, Value.slice e_5A e_5n e_5c]] h R by kernel_rfl) hv)

def ref17_Left_vc (_e_0 : Int) (_e_1 : Bool) (_e_2A : Option Addr) (e_2n _e_2c : Nat) (_e_3A : Option Addr) (e_3n _e_3c : Nat) (e_4 : ByteArray) (e_5A : Option Addr) (e_5n _e_5c : Nat) (most : Int) (deep : Int) (h : Heap) (R : Value → Heap → Prop) : Prop :=
 ∃ C : Bool → Heap → Prop, (∀ (t34 : Bool) (h_1 : Heap), C t34 h_1 →
 Br (t34)
  (R (Value.int .i64 (-1)) h_1)
  (∀ t36 : Int, t36 = IntKind.i64.wrap (most - 1) →
 ∃ J : Nat → Int → Int → Heap → Prop, (∃ m, J m t36 0 h_1) ∧
 ∀ (m : Nat) (most_1 : Int) (i : Int) (h_2 : Heap), J m most_1 i h_2 →
 ∃ C_1 : Bool → Heap → Prop, (∀ (t45 : Bool) (h_3 : Heap), C_1 t45 h_3 →
 Br (t45)
  (∃ ad : Addr, e_5A = some ad ∧ 0 ≤ i ∧ i < ((e_5n : Nat) : Int) ∧
 ∃ t52_0 : Int, ∃ t52_1 : Bool, ∃ t52_2A : Option Addr, ∃ t52_2n t52_2c : Nat, ∃ t52_3A : Option Addr, ∃ t52_3n t52_3c : Nat, ∃ t52_4 : ByteArray, ∃ t52_5A : Option Addr, ∃ t52_5n t52_5c : Nat, LdN h_3 (Addr.add ad (Int.toNat i * 6)) [Value.int .i64 t52_0, Value.bool t52_1, Value.slice t52_2A t52_2n t52_2c, Value.slice t52_3A t52_3n t52_3c, Value.string t52_4, Value.slice t52_5A t52_5n t52_5c] ∧
 ∀ t55 : Int, t55 = IntKind.i64.wrap (deep - 1) →
 CallsU Tryz.prog 34 [Value.agg #[Value.int .i64 t52_0, Value.bool t52_1, Value.slice t52_2A t52_2n t52_2c, Value.slice t52_3A t52_3n t52_3c, Value.string t52_4, Value.slice t52_5A t52_5n t52_5c], Value.int .i64 most_1, Value.int .i64 t55] h_3 fun v h_4 =>
 ∃ t56 : Int, v = Value.int .i64 t56 ∧
 ∀ t47 : Int, t47 = IntKind.i64.wrap (i + 1) →
 ∃ m_1, m_1 < m ∧ J m_1 t56 t47 h_4)
  (R (Value.int .i64 most_1) h_3)) ∧
 Br (decide (i < ((e_5n : Nat) : Int)))
  (C_1 (decide (most_1 ≥ 0)) h_2)
  (C_1 false h_2))) ∧
 Br (decide (most < 1))
  (C true h)
  (Br (decide (deep < 1))
  (C true h)
  (Br (decide (((e_4.size : Nat) : Int) > 60))
  (C true h)
  (Br (decide (((e_2n : Nat) : Int) > 4))
  (C true h)
  (C (decide (((e_3n : Nat) : Int) > 4)) h))))

set_option maxRecDepth 100000 in
theorem ref17_Left_ok {e_0 : Int} {e_1 : Bool} {e_2A : Option Addr} {e_2n e_2c : Nat} {e_3A : Option Addr} {e_3n e_3c : Nat} {e_4 : ByteArray} {e_5A : Option Addr} {e_5n e_5c : Nat} {most : Int} {deep : Int} {h : Heap} {R : Value → Heap → Prop} (hv : ref17_Left_vc e_0 e_1 e_2A e_2n e_2c e_3A e_3n e_3c e_4 e_5A e_5n e_5c most deep h R) : CallsU Tryz.prog 34 [Value.agg #[Value.int .i64 e_0, Value.bool e_1, Value.slice e_2A e_2n e_2c, Value.slice e_3A e_3n e_3c, Value.string e_4, Value.slice e_5A e_5n e_5c], Value.int .i64 most, Value.int .i64 deep] h R :=
  fn_sound Tryz.func34 (by kernel_rfl) (by kernel_rfl) (by kernel_rfl) (fun _ => false) (.two .nil (.two (.cut ⟨[(34, Sh.bool)], []⟩ .nil .nil) (.two .nil (.two (.two .nil (.one (.loop ⟨[(1, Sh.int .i64), (7, Sh.int .i64)], []⟩ (.two (.cut ⟨[(45, Sh.bool)], []⟩ .nil .nil) .nil)))) .nil)))) [Value.agg #[Value.int .i64 e_0, Value.bool e_1, Value.slice e_2A e_2n e_2c, Value.slice e_3A e_3n e_3c, Value.string e_4, Value.slice e_5A e_5n e_5c], Value.int .i64 most, Value.int .i64 deep] h R (by kernel_rfl)
    (Eq.mp (show ref17_Left_vc e_0 e_1 e_2A e_2n e_2c e_3A e_3n e_3c e_4 e_5A e_5n e_5c most deep h R = fnV Tryz.prog Tryz.f34 (fun _ => false) (.two .nil (.two (.cut ⟨[(34, Sh.bool)], []⟩ .nil .nil) (.two .nil (.two (.two .nil (.one (.loop ⟨[(1, Sh.int .i64), (7, Sh.int .i64)], []⟩ (.two (.cut ⟨[(45, Sh.bool)], []⟩ .nil .nil) .nil)))) .nil)))) [Value.agg #[Value.int .i64 e_0, Value.bool e_1, Value.slice e_2A e_2n e_2c, Value.slice e_3A e_3n e_3c, Value.string e_4, Value.slice e_5A e_5n e_5c], Value.int .i64 most, Value.int .i64 deep] h R by kernel_rfl) hv)

def ref17_check_vc (e_0 : Int) (e_1 : Bool) (e_2A : Option Addr) (e_2n e_2c : Nat) (e_3A : Option Addr) (e_3n e_3c : Nat) (e_4 : ByteArray) (e_5A : Option Addr) (e_5n e_5c : Nat) (level : Int) (h : Heap) (R : Value → Heap → Prop) : Prop :=
 Br (decide (level > 12))
  (R (Value.int .i64 5) h)
  (CallsU Tryz.prog 65 [Value.agg #[Value.int .i64 e_0, Value.bool e_1, Value.slice e_2A e_2n e_2c, Value.slice e_3A e_3n e_3c, Value.string e_4, Value.slice e_5A e_5n e_5c]] h fun v h_1 =>
 ∃ t10 : Bool, v = Value.bool t10 ∧
 Br (!t10)
  (R (Value.int .i64 1) h_1)
  (∃ J : Nat → Int → Heap → Prop, (∃ m, J m 0 h_1) ∧
 ∀ (m : Nat) (i : Int) (h_2 : Heap), J m i h_2 →
 Br (decide (i < ((e_5n : Nat) : Int)))
  (∃ ad : Addr, e_5A = some ad ∧ 0 ≤ i ∧ i < ((e_5n : Nat) : Int) ∧
 ∃ t23_0 : Int, ∃ t23_1 : Bool, ∃ t23_2A : Option Addr, ∃ t23_2n t23_2c : Nat, ∃ t23_3A : Option Addr, ∃ t23_3n t23_3c : Nat, ∃ t23_4 : ByteArray, ∃ t23_5A : Option Addr, ∃ t23_5n t23_5c : Nat, LdN h_2 (Addr.add ad (Int.toNat i * 6)) [Value.int .i64 t23_0, Value.bool t23_1, Value.slice t23_2A t23_2n t23_2c, Value.slice t23_3A t23_3n t23_3c, Value.string t23_4, Value.slice t23_5A t23_5n t23_5c] ∧
 ∀ t25 : Int, t25 = IntKind.i64.wrap (level + 1) →
 CallsU Tryz.prog 36 [Value.agg #[Value.int .i64 t23_0, Value.bool t23_1, Value.slice t23_2A t23_2n t23_2c, Value.slice t23_3A t23_3n t23_3c, Value.string t23_4, Value.slice t23_5A t23_5n t23_5c], Value.int .i64 t25] h_2 fun v_1 h_3 =>
 ∃ t26 : Int, v_1 = Value.int .i64 t26 ∧
 Br ((t26 : Int) != 0)
  (R (Value.int .i64 t26) h_3)
  (∀ t18 : Int, t18 = IntKind.i64.wrap (i + 1) →
 ∃ m_1, m_1 < m ∧ J m_1 t18 h_3))
  (R (Value.int .i64 0) h_2)))

set_option maxRecDepth 100000 in
theorem ref17_check_ok {e_0 : Int} {e_1 : Bool} {e_2A : Option Addr} {e_2n e_2c : Nat} {e_3A : Option Addr} {e_3n e_3c : Nat} {e_4 : ByteArray} {e_5A : Option Addr} {e_5n e_5c : Nat} {level : Int} {h : Heap} {R : Value → Heap → Prop} (hv : ref17_check_vc e_0 e_1 e_2A e_2n e_2c e_3A e_3n e_3c e_4 e_5A e_5n e_5c level h R) : CallsU Tryz.prog 36 [Value.agg #[Value.int .i64 e_0, Value.bool e_1, Value.slice e_2A e_2n e_2c, Value.slice e_3A e_3n e_3c, Value.string e_4, Value.slice e_5A e_5n e_5c], Value.int .i64 level] h R :=
  fn_sound Tryz.func36 (by kernel_rfl) (by kernel_rfl) (by kernel_rfl) (fun _ => false) (.two .nil (.two .nil (.two .nil (.two (.two .nil (.one (.loop ⟨[(5, Sh.int .i64)], []⟩ .nil))) .nil)))) [Value.agg #[Value.int .i64 e_0, Value.bool e_1, Value.slice e_2A e_2n e_2c, Value.slice e_3A e_3n e_3c, Value.string e_4, Value.slice e_5A e_5n e_5c], Value.int .i64 level] h R (by kernel_rfl)
    (Eq.mp (show ref17_check_vc e_0 e_1 e_2A e_2n e_2c e_3A e_3n e_3c e_4 e_5A e_5n e_5c level h R = fnV Tryz.prog Tryz.f36 (fun _ => false) (.two .nil (.two .nil (.two .nil (.two (.two .nil (.one (.loop ⟨[(5, Sh.int .i64)], []⟩ .nil))) .nil)))) [Value.agg #[Value.int .i64 e_0, Value.bool e_1, Value.slice e_2A e_2n e_2c, Value.slice e_3A e_3n e_3c, Value.string e_4, Value.slice e_5A e_5n e_5c], Value.int .i64 level] h R by kernel_rfl) hv)

def ref03_Cmp_vc (a_0 : Bool) (a_1A : Option Addr) (a_1n a_1c : Nat) (a_2A : Option Addr) (a_2n a_2c : Nat) (b_0 : Bool) (b_1A : Option Addr) (b_1n b_1c : Nat) (b_2A : Option Addr) (b_2n b_2c : Nat) (h : Heap) (R : Value → Heap → Prop) : Prop :=
 CallsU Tryz.prog 48 [Value.agg #[Value.bool a_0, Value.slice a_1A a_1n a_1c, Value.slice a_2A a_2n a_2c]] h fun v h_1 =>
 ∃ t8_0 : Bool, ∃ t8_1A : Option Addr, ∃ t8_1n t8_1c : Nat, ∃ t8_2A : Option Addr, ∃ t8_2n t8_2c : Nat, v = Value.agg #[Value.bool t8_0, Value.slice t8_1A t8_1n t8_1c, Value.slice t8_2A t8_2n t8_2c] ∧
 LeH h h_1 ∧
 CallsU Tryz.prog 48 [Value.agg #[Value.bool b_0, Value.slice b_1A b_1n b_1c, Value.slice b_2A b_2n b_2c]] h_1 fun v_1 h_2 =>
 ∃ t10_0 : Bool, ∃ t10_1A : Option Addr, ∃ t10_1n t10_1c : Nat, ∃ t10_2A : Option Addr, ∃ t10_2n t10_2c : Nat, v_1 = Value.agg #[Value.bool t10_0, Value.slice t10_1A t10_1n t10_1c, Value.slice t10_2A t10_2n t10_2c] ∧
 CallsU Tryz.prog 76 [Value.agg #[Value.bool t8_0, Value.slice t8_1A t8_1n t8_1c], Value.agg #[Value.bool false, Value.slice t10_2A t10_2n t10_2c]] h_2 fun v_2 h_3 =>
 ∃ t16_0 : Bool, ∃ t16_1A : Option Addr, ∃ t16_1n t16_1c : Nat, v_2 = Value.agg #[Value.bool t16_0, Value.slice t16_1A t16_1n t16_1c] ∧
 LeH h_2 h_3 ∧
 CallsU Tryz.prog 76 [Value.agg #[Value.bool t10_0, Value.slice t10_1A t10_1n t10_1c], Value.agg #[Value.bool false, Value.slice t8_2A t8_2n t8_2c]] h_3 fun v_3 h_4 =>
 ∃ t22_0 : Bool, ∃ t22_1A : Option Addr, ∃ t22_1n t22_1c : Nat, v_3 = Value.agg #[Value.bool t22_0, Value.slice t22_1A t22_1n t22_1c] ∧
 CallsU Tryz.prog 75 [Value.agg #[Value.bool t16_0, Value.slice t16_1A t16_1n t16_1c], Value.agg #[Value.bool t22_0, Value.slice t22_1A t22_1n t22_1c]] h_4 fun v_4 h_5 =>
 ∃ t23 : Int, v_4 = Value.int .i64 t23 ∧
 R (Value.int .i64 t23) h_5

set_option maxRecDepth 100000 in
theorem ref03_Cmp_ok {a_0 : Bool} {a_1A : Option Addr} {a_1n a_1c : Nat} {a_2A : Option Addr} {a_2n a_2c : Nat} {b_0 : Bool} {b_1A : Option Addr} {b_1n b_1c : Nat} {b_2A : Option Addr} {b_2n b_2c : Nat} {h : Heap} {R : Value → Heap → Prop} (hv : ref03_Cmp_vc a_0 a_1A a_1n a_1c a_2A a_2n a_2c b_0 b_1A b_1n b_1c b_2A b_2n b_2c h R) : CallsU Tryz.prog 47 [Value.agg #[Value.bool a_0, Value.slice a_1A a_1n a_1c, Value.slice a_2A a_2n a_2c], Value.agg #[Value.bool b_0, Value.slice b_1A b_1n b_1c, Value.slice b_2A b_2n b_2c]] h R :=
  fn_sound Tryz.func47 (by kernel_rfl) (by kernel_rfl) (by kernel_rfl) (fun _ => false) (.two .nil (.two (.ord [0, 2, 1, 3, 4, 5, 6, 7]) (.two (.ord [0, 1, 2, 3, 4, 6, 7, 8, 9, 10, 5, 11, 12, 13]) .nil))) [Value.agg #[Value.bool a_0, Value.slice a_1A a_1n a_1c, Value.slice a_2A a_2n a_2c], Value.agg #[Value.bool b_0, Value.slice b_1A b_1n b_1c, Value.slice b_2A b_2n b_2c]] h R (by kernel_rfl)
    (Eq.mp (show ref03_Cmp_vc a_0 a_1A a_1n a_1c a_2A a_2n a_2c b_0 b_1A b_1n b_1c b_2A b_2n b_2c h R = fnV Tryz.prog Tryz.f47 (fun _ => false) (.two .nil (.two (.ord [0, 2, 1, 3, 4, 5, 6, 7]) (.two (.ord [0, 1, 2, 3, 4, 6, 7, 8, 9, 10, 5, 11, 12, 13]) .nil))) [Value.agg #[Value.bool a_0, Value.slice a_1A a_1n a_1c, Value.slice a_2A a_2n a_2c], Value.agg #[Value.bool b_0, Value.slice b_1A b_1n b_1c, Value.slice b_2A b_2n b_2c]] h R by kernel_rfl) hv)

def ref03_Norm_vc (a_0 : Bool) (a_1A : Option Addr) (a_1n a_1c : Nat) (a_2A : Option Addr) (a_2n a_2c : Nat) (h : Heap) (R : Value → Heap → Prop) : Prop :=
 CallsU Tryz.prog 77 [Value.agg #[Value.bool a_0, Value.slice a_1A a_1n a_1c, Value.slice a_2A a_2n a_2c]] h fun v h_1 =>
 ∃ t4 : Bool, v = Value.bool t4 ∧
 Br (t4)
  (CallsU Tryz.prog 78 [Value.int .i64 0] h_1 fun v_1 h_2 =>
 ∃ t5_0 : Bool, ∃ t5_1A : Option Addr, ∃ t5_1n t5_1c : Nat, ∃ t5_2A : Option Addr, ∃ t5_2n t5_2c : Nat, v_1 = Value.agg #[Value.bool t5_0, Value.slice t5_1A t5_1n t5_1c, Value.slice t5_2A t5_2n t5_2c] ∧
 R (Value.agg #[Value.bool t5_0, Value.slice t5_1A t5_1n t5_1c, Value.slice t5_2A t5_2n t5_2c]) h_2)
  (CallsU Tryz.prog 79 [Value.bool a_0, Value.slice a_1A a_1n a_1c, Value.slice a_2A a_2n a_2c] h_1 fun v_2 h_3 =>
 ∃ t14_0 : Bool, ∃ t14_1A : Option Addr, ∃ t14_1n t14_1c : Nat, ∃ t14_2A : Option Addr, ∃ t14_2n t14_2c : Nat, v_2 = Value.agg #[Value.bool t14_0, Value.slice t14_1A t14_1n t14_1c, Value.slice t14_2A t14_2n t14_2c] ∧
 R (Value.agg #[Value.bool t14_0, Value.slice t14_1A t14_1n t14_1c, Value.slice t14_2A t14_2n t14_2c]) h_3)

set_option maxRecDepth 100000 in
theorem ref03_Norm_ok {a_0 : Bool} {a_1A : Option Addr} {a_1n a_1c : Nat} {a_2A : Option Addr} {a_2n a_2c : Nat} {h : Heap} {R : Value → Heap → Prop} (hv : ref03_Norm_vc a_0 a_1A a_1n a_1c a_2A a_2n a_2c h R) : CallsU Tryz.prog 48 [Value.agg #[Value.bool a_0, Value.slice a_1A a_1n a_1c, Value.slice a_2A a_2n a_2c]] h R :=
  fn_sound Tryz.func48 (by kernel_rfl) (by kernel_rfl) (by kernel_rfl) (fun _ => false) .nil [Value.agg #[Value.bool a_0, Value.slice a_1A a_1n a_1c, Value.slice a_2A a_2n a_2c]] h R (by kernel_rfl)
    (Eq.mp (show ref03_Norm_vc a_0 a_1A a_1n a_1c a_2A a_2n a_2c h R = fnV Tryz.prog Tryz.f48 (fun _ => false) .nil [Value.agg #[Value.bool a_0, Value.slice a_1A a_1n a_1c, Value.slice a_2A a_2n a_2c]] h R by kernel_rfl) hv)

set_option maxRecDepth 100000 in
def ref17_show_vc (e_0 : Int) (e_1 : Bool) (e_2A : Option Addr) (e_2n e_2c : Nat) (e_3A : Option Addr) (e_3n e_3c : Nat) (e_4 : ByteArray) (e_5A : Option Addr) (e_5n _e_5c : Nat) (h : Heap) (R : Value → Heap → Prop) : Prop :=
 Br ((e_0 : Int) == 1)
  (CallsU Tryz.prog 83 [Value.agg #[Value.bool e_1, Value.slice e_2A e_2n e_2c, Value.slice e_3A e_3n e_3c]] h fun v h_1 =>
 ∃ t14_0 : Int, ∃ t14_1 : Bool, v = Value.tuple #[Value.int .i64 t14_0, Value.bool t14_1] ∧
 CallsU Tryz.prog 84 [Value.int .i64 t14_0] h_1 fun v_1 h_2 =>
 ∃ t18 : ByteArray, v_1 = Value.string t18 ∧
 R (Value.string t18) h_2)
  (Br ((e_0 : Int) == 2)
  (R (Value.string e_4) h)
  (Br ((e_0 : Int) == 3)
  (∃ ad : Addr, e_5A = some ad ∧ 0 ≤ (0 : Int) ∧ (0 : Int) < ((e_5n : Nat) : Int) ∧
 ∃ t28_0 : Int, ∃ t28_1 : Bool, ∃ t28_2A : Option Addr, ∃ t28_2n t28_2c : Nat, ∃ t28_3A : Option Addr, ∃ t28_3n t28_3c : Nat, ∃ t28_4 : ByteArray, ∃ t28_5A : Option Addr, ∃ t28_5n t28_5c : Nat, LdN h (Addr.add ad (0 * 6)) [Value.int .i64 t28_0, Value.bool t28_1, Value.slice t28_2A t28_2n t28_2c, Value.slice t28_3A t28_3n t28_3c, Value.string t28_4, Value.slice t28_5A t28_5n t28_5c] ∧
 ∃ ad_1 : Addr, e_5A = some ad_1 ∧ 0 ≤ (1 : Int) ∧ (1 : Int) < ((e_5n : Nat) : Int) ∧
 ∃ t34_0 : Int, ∃ t34_1 : Bool, ∃ t34_2A : Option Addr, ∃ t34_2n t34_2c : Nat, ∃ t34_3A : Option Addr, ∃ t34_3n t34_3c : Nat, ∃ t34_4 : ByteArray, ∃ t34_5A : Option Addr, ∃ t34_5n t34_5c : Nat, LdN h (Addr.add ad_1 (1 * 6)) [Value.int .i64 t34_0, Value.bool t34_1, Value.slice t34_2A t34_2n t34_2c, Value.slice t34_3A t34_3n t34_3c, Value.string t34_4, Value.slice t34_5A t34_5n t34_5c] ∧
 CallsU Tryz.prog 85 [Value.agg #[Value.int .i64 t28_0, Value.bool t28_1, Value.slice t28_2A t28_2n t28_2c, Value.slice t28_3A t28_3n t28_3c, Value.string t28_4, Value.slice t28_5A t28_5n t28_5c], Value.int .i64 1] h fun v_2 h_3 =>
 ∃ t29 : ByteArray, v_2 = Value.string t29 ∧
 LeH h h_3 ∧
 ((t29.size + (⟨#[32, 43, 32]⟩ : ByteArray).size : Nat) : Int) ≤ 9223372036854775807 ∧
 CallsU Tryz.prog 85 [Value.agg #[Value.int .i64 t34_0, Value.bool t34_1, Value.slice t34_2A t34_2n t34_2c, Value.slice t34_3A t34_3n t34_3c, Value.string t34_4, Value.slice t34_5A t34_5n t34_5c], Value.int .i64 2] h_3 fun v_3 h_4 =>
 ∃ t35 : ByteArray, v_3 = Value.string t35 ∧
 (((t29 ++ (⟨#[32, 43, 32]⟩ : ByteArray)).size + t35.size : Nat) : Int) ≤ 9223372036854775807 ∧
 R (Value.string ((t29 ++ (⟨#[32, 43, 32]⟩ : ByteArray)) ++ t35)) h_4)
  (Br ((e_0 : Int) == 4)
  (∃ ad_2 : Addr, e_5A = some ad_2 ∧ 0 ≤ (0 : Int) ∧ (0 : Int) < ((e_5n : Nat) : Int) ∧
 ∃ t42_0 : Int, ∃ t42_1 : Bool, ∃ t42_2A : Option Addr, ∃ t42_2n t42_2c : Nat, ∃ t42_3A : Option Addr, ∃ t42_3n t42_3c : Nat, ∃ t42_4 : ByteArray, ∃ t42_5A : Option Addr, ∃ t42_5n t42_5c : Nat, LdN h (Addr.add ad_2 (0 * 6)) [Value.int .i64 t42_0, Value.bool t42_1, Value.slice t42_2A t42_2n t42_2c, Value.slice t42_3A t42_3n t42_3c, Value.string t42_4, Value.slice t42_5A t42_5n t42_5c] ∧
 ∃ ad_3 : Addr, e_5A = some ad_3 ∧ 0 ≤ (1 : Int) ∧ (1 : Int) < ((e_5n : Nat) : Int) ∧
 ∃ t48_0 : Int, ∃ t48_1 : Bool, ∃ t48_2A : Option Addr, ∃ t48_2n t48_2c : Nat, ∃ t48_3A : Option Addr, ∃ t48_3n t48_3c : Nat, ∃ t48_4 : ByteArray, ∃ t48_5A : Option Addr, ∃ t48_5n t48_5c : Nat, LdN h (Addr.add ad_3 (1 * 6)) [Value.int .i64 t48_0, Value.bool t48_1, Value.slice t48_2A t48_2n t48_2c, Value.slice t48_3A t48_3n t48_3c, Value.string t48_4, Value.slice t48_5A t48_5n t48_5c] ∧
 CallsU Tryz.prog 85 [Value.agg #[Value.int .i64 t42_0, Value.bool t42_1, Value.slice t42_2A t42_2n t42_2c, Value.slice t42_3A t42_3n t42_3c, Value.string t42_4, Value.slice t42_5A t42_5n t42_5c], Value.int .i64 1] h fun v_4 h_5 =>
 ∃ t43 : ByteArray, v_4 = Value.string t43 ∧
 LeH h h_5 ∧
 ((t43.size + (⟨#[32, 45, 32]⟩ : ByteArray).size : Nat) : Int) ≤ 9223372036854775807 ∧
 CallsU Tryz.prog 85 [Value.agg #[Value.int .i64 t48_0, Value.bool t48_1, Value.slice t48_2A t48_2n t48_2c, Value.slice t48_3A t48_3n t48_3c, Value.string t48_4, Value.slice t48_5A t48_5n t48_5c], Value.int .i64 2] h_5 fun v_5 h_6 =>
 ∃ t49 : ByteArray, v_5 = Value.string t49 ∧
 (((t43 ++ (⟨#[32, 45, 32]⟩ : ByteArray)).size + t49.size : Nat) : Int) ≤ 9223372036854775807 ∧
 R (Value.string ((t43 ++ (⟨#[32, 45, 32]⟩ : ByteArray)) ++ t49)) h_6)
  (Br ((e_0 : Int) == 5)
  (∃ ad_4 : Addr, e_5A = some ad_4 ∧ 0 ≤ (0 : Int) ∧ (0 : Int) < ((e_5n : Nat) : Int) ∧
 ∃ t56_0 : Int, ∃ t56_1 : Bool, ∃ t56_2A : Option Addr, ∃ t56_2n t56_2c : Nat, ∃ t56_3A : Option Addr, ∃ t56_3n t56_3c : Nat, ∃ t56_4 : ByteArray, ∃ t56_5A : Option Addr, ∃ t56_5n t56_5c : Nat, LdN h (Addr.add ad_4 (0 * 6)) [Value.int .i64 t56_0, Value.bool t56_1, Value.slice t56_2A t56_2n t56_2c, Value.slice t56_3A t56_3n t56_3c, Value.string t56_4, Value.slice t56_5A t56_5n t56_5c] ∧
 ∃ ad_5 : Addr, e_5A = some ad_5 ∧ 0 ≤ (1 : Int) ∧ (1 : Int) < ((e_5n : Nat) : Int) ∧
 ∃ t62_0 : Int, ∃ t62_1 : Bool, ∃ t62_2A : Option Addr, ∃ t62_2n t62_2c : Nat, ∃ t62_3A : Option Addr, ∃ t62_3n t62_3c : Nat, ∃ t62_4 : ByteArray, ∃ t62_5A : Option Addr, ∃ t62_5n t62_5c : Nat, LdN h (Addr.add ad_5 (1 * 6)) [Value.int .i64 t62_0, Value.bool t62_1, Value.slice t62_2A t62_2n t62_2c, Value.slice t62_3A t62_3n t62_3c, Value.string t62_4, Value.slice t62_5A t62_5n t62_5c] ∧
 CallsU Tryz.prog 85 [Value.agg #[Value.int .i64 t56_0, Value.bool t56_1, Value.slice t56_2A t56_2n t56_2c, Value.slice t56_3A t56_3n t56_3c, Value.string t56_4, Value.slice t56_5A t56_5n t56_5c], Value.int .i64 2] h fun v_6 h_7 =>
 ∃ t57 : ByteArray, v_6 = Value.string t57 ∧
 LeH h h_7 ∧
 ((t57.size + (⟨#[32, 42, 32]⟩ : ByteArray).size : Nat) : Int) ≤ 9223372036854775807 ∧
 CallsU Tryz.prog 85 [Value.agg #[Value.int .i64 t62_0, Value.bool t62_1, Value.slice t62_2A t62_2n t62_2c, Value.slice t62_3A t62_3n t62_3c, Value.string t62_4, Value.slice t62_5A t62_5n t62_5c], Value.int .i64 3] h_7 fun v_7 h_8 =>
 ∃ t63 : ByteArray, v_7 = Value.string t63 ∧
 (((t57 ++ (⟨#[32, 42, 32]⟩ : ByteArray)).size + t63.size : Nat) : Int) ≤ 9223372036854775807 ∧
 R (Value.string ((t57 ++ (⟨#[32, 42, 32]⟩ : ByteArray)) ++ t63)) h_8)
  (Br ((e_0 : Int) == 6)
  (∃ ad_6 : Addr, e_5A = some ad_6 ∧ 0 ≤ (0 : Int) ∧ (0 : Int) < ((e_5n : Nat) : Int) ∧
 ∃ t70_0 : Int, ∃ t70_1 : Bool, ∃ t70_2A : Option Addr, ∃ t70_2n t70_2c : Nat, ∃ t70_3A : Option Addr, ∃ t70_3n t70_3c : Nat, ∃ t70_4 : ByteArray, ∃ t70_5A : Option Addr, ∃ t70_5n t70_5c : Nat, LdN h (Addr.add ad_6 (0 * 6)) [Value.int .i64 t70_0, Value.bool t70_1, Value.slice t70_2A t70_2n t70_2c, Value.slice t70_3A t70_3n t70_3c, Value.string t70_4, Value.slice t70_5A t70_5n t70_5c] ∧
 ∃ ad_7 : Addr, e_5A = some ad_7 ∧ 0 ≤ (1 : Int) ∧ (1 : Int) < ((e_5n : Nat) : Int) ∧
 ∃ t76_0 : Int, ∃ t76_1 : Bool, ∃ t76_2A : Option Addr, ∃ t76_2n t76_2c : Nat, ∃ t76_3A : Option Addr, ∃ t76_3n t76_3c : Nat, ∃ t76_4 : ByteArray, ∃ t76_5A : Option Addr, ∃ t76_5n t76_5c : Nat, LdN h (Addr.add ad_7 (1 * 6)) [Value.int .i64 t76_0, Value.bool t76_1, Value.slice t76_2A t76_2n t76_2c, Value.slice t76_3A t76_3n t76_3c, Value.string t76_4, Value.slice t76_5A t76_5n t76_5c] ∧
 CallsU Tryz.prog 85 [Value.agg #[Value.int .i64 t70_0, Value.bool t70_1, Value.slice t70_2A t70_2n t70_2c, Value.slice t70_3A t70_3n t70_3c, Value.string t70_4, Value.slice t70_5A t70_5n t70_5c], Value.int .i64 2] h fun v_8 h_9 =>
 ∃ t71 : ByteArray, v_8 = Value.string t71 ∧
 LeH h h_9 ∧
 ((t71.size + (⟨#[32, 47, 32]⟩ : ByteArray).size : Nat) : Int) ≤ 9223372036854775807 ∧
 CallsU Tryz.prog 85 [Value.agg #[Value.int .i64 t76_0, Value.bool t76_1, Value.slice t76_2A t76_2n t76_2c, Value.slice t76_3A t76_3n t76_3c, Value.string t76_4, Value.slice t76_5A t76_5n t76_5c], Value.int .i64 3] h_9 fun v_9 h_10 =>
 ∃ t77 : ByteArray, v_9 = Value.string t77 ∧
 (((t71 ++ (⟨#[32, 47, 32]⟩ : ByteArray)).size + t77.size : Nat) : Int) ≤ 9223372036854775807 ∧
 R (Value.string ((t71 ++ (⟨#[32, 47, 32]⟩ : ByteArray)) ++ t77)) h_10)
  (Br ((e_0 : Int) == 7)
  (∃ ad_8 : Addr, e_5A = some ad_8 ∧ 0 ≤ (0 : Int) ∧ (0 : Int) < ((e_5n : Nat) : Int) ∧
 ∃ t84_0 : Int, ∃ t84_1 : Bool, ∃ t84_2A : Option Addr, ∃ t84_2n t84_2c : Nat, ∃ t84_3A : Option Addr, ∃ t84_3n t84_3c : Nat, ∃ t84_4 : ByteArray, ∃ t84_5A : Option Addr, ∃ t84_5n t84_5c : Nat, LdN h (Addr.add ad_8 (0 * 6)) [Value.int .i64 t84_0, Value.bool t84_1, Value.slice t84_2A t84_2n t84_2c, Value.slice t84_3A t84_3n t84_3c, Value.string t84_4, Value.slice t84_5A t84_5n t84_5c] ∧
 CallsU Tryz.prog 85 [Value.agg #[Value.int .i64 t84_0, Value.bool t84_1, Value.slice t84_2A t84_2n t84_2c, Value.slice t84_3A t84_3n t84_3c, Value.string t84_4, Value.slice t84_5A t84_5n t84_5c], Value.int .i64 3] h fun v_10 h_11 =>
 ∃ t85 : ByteArray, v_10 = Value.string t85 ∧
 (((⟨#[45]⟩ : ByteArray).size + t85.size : Nat) : Int) ≤ 9223372036854775807 ∧
 R (Value.string ((⟨#[45]⟩ : ByteArray) ++ t85)) h_11)
  (∃ C : ByteArray → Heap → Prop, (∀ (s : ByteArray) (h_12 : Heap), C s h_12 →
 ∃ J : Nat → ByteArray → Int → Heap → Prop, (∃ m, J m s 0 h_12) ∧
 ∀ (m : Nat) (s_1 : ByteArray) (i : Int) (h_13 : Heap), J m s_1 i h_13 →
 Br (decide (i < ((e_5n : Nat) : Int)))
  (∃ C_1 : ByteArray → Heap → Prop, (∀ (s_2 : ByteArray) (h_14 : Heap), C_1 s_2 h_14 →
 ∃ ad_9 : Addr, e_5A = some ad_9 ∧ 0 ≤ i ∧ i < ((e_5n : Nat) : Int) ∧
 ∃ t106_0 : Int, ∃ t106_1 : Bool, ∃ t106_2A : Option Addr, ∃ t106_2n t106_2c : Nat, ∃ t106_3A : Option Addr, ∃ t106_3n t106_3c : Nat, ∃ t106_4 : ByteArray, ∃ t106_5A : Option Addr, ∃ t106_5n t106_5c : Nat, LdN h_14 (Addr.add ad_9 (Int.toNat i * 6)) [Value.int .i64 t106_0, Value.bool t106_1, Value.slice t106_2A t106_2n t106_2c, Value.slice t106_3A t106_3n t106_3c, Value.string t106_4, Value.slice t106_5A t106_5n t106_5c] ∧
 CallsU Tryz.prog 50 [Value.agg #[Value.int .i64 t106_0, Value.bool t106_1, Value.slice t106_2A t106_2n t106_2c, Value.slice t106_3A t106_3n t106_3c, Value.string t106_4, Value.slice t106_5A t106_5n t106_5c]] h_14 fun v_11 h_15 =>
 ∃ t107 : ByteArray, v_11 = Value.string t107 ∧
 ((s_2.size + t107.size : Nat) : Int) ≤ 9223372036854775807 ∧
 ∀ t96 : Int, t96 = IntKind.i64.wrap (i + 1) →
 ∃ m_1, m_1 < m ∧ J m_1 (s_2 ++ t107) t96 h_15) ∧
 Br (decide (i > 0))
  (((s_1.size + (⟨#[44, 32]⟩ : ByteArray).size : Nat) : Int) ≤ 9223372036854775807 ∧
 C_1 (s_1 ++ (⟨#[44, 32]⟩ : ByteArray)) h_13)
  (C_1 s_1 h_13))
  (((s_1.size + (⟨#[41]⟩ : ByteArray).size : Nat) : Int) ≤ 9223372036854775807 ∧
 R (Value.string (s_1 ++ (⟨#[41]⟩ : ByteArray))) h_13)) ∧
 Br ((e_0 : Int) == 9)
  (C (⟨#[109, 97, 120, 40]⟩ : ByteArray) h)
  (C (⟨#[109, 105, 110, 40]⟩ : ByteArray) h))))))))

set_option maxRecDepth 100000 in
theorem ref17_show_ok {e_0 : Int} {e_1 : Bool} {e_2A : Option Addr} {e_2n e_2c : Nat} {e_3A : Option Addr} {e_3n e_3c : Nat} {e_4 : ByteArray} {e_5A : Option Addr} {e_5n e_5c : Nat} {h : Heap} {R : Value → Heap → Prop} (hv : ref17_show_vc e_0 e_1 e_2A e_2n e_2c e_3A e_3n e_3c e_4 e_5A e_5n e_5c h R) : CallsU Tryz.prog 50 [Value.agg #[Value.int .i64 e_0, Value.bool e_1, Value.slice e_2A e_2n e_2c, Value.slice e_3A e_3n e_3c, Value.string e_4, Value.slice e_5A e_5n e_5c]] h R :=
  fn_sound Tryz.func50 (by kernel_rfl) (by kernel_rfl) (by kernel_rfl) (fun _ => false) (.two .nil (.two (.two .nil (.one (.two .nil (.two .nil (.two .nil (.two .nil (.two .nil (.two (.two (.ord [0, 1, 2, 3, 6, 7, 8, 9, 4, 5, 10, 11, 12]) .nil) (.two .nil (.two (.two (.ord [0, 1, 2, 3, 6, 7, 8, 9, 4, 5, 10, 11, 12]) .nil) (.two .nil (.two (.two (.ord [0, 1, 2, 3, 6, 7, 8, 9, 4, 5, 10, 11, 12]) .nil) (.two .nil (.two (.two (.ord [0, 1, 2, 3, 6, 7, 8, 9, 4, 5, 10, 11, 12]) .nil) .nil)))))))))))))) (.two .nil (.cut ⟨[(5, Sh.str)], []⟩ .nil (.two (.two .nil (.one (.loop ⟨[(5, Sh.str), (6, Sh.int .i64)], []⟩ (.two .nil (.two (.one (.cut ⟨[(5, Sh.str)], []⟩ .nil .nil)) .nil))))) .nil))))) [Value.agg #[Value.int .i64 e_0, Value.bool e_1, Value.slice e_2A e_2n e_2c, Value.slice e_3A e_3n e_3c, Value.string e_4, Value.slice e_5A e_5n e_5c]] h R (by kernel_rfl)
    (Eq.mp (show ref17_show_vc e_0 e_1 e_2A e_2n e_2c e_3A e_3n e_3c e_4 e_5A e_5n e_5c h R = fnV Tryz.prog Tryz.f50 (fun _ => false) (.two .nil (.two (.two .nil (.one (.two .nil (.two .nil (.two .nil (.two .nil (.two .nil (.two (.two (.ord [0, 1, 2, 3, 6, 7, 8, 9, 4, 5, 10, 11, 12]) .nil) (.two .nil (.two (.two (.ord [0, 1, 2, 3, 6, 7, 8, 9, 4, 5, 10, 11, 12]) .nil) (.two .nil (.two (.two (.ord [0, 1, 2, 3, 6, 7, 8, 9, 4, 5, 10, 11, 12]) .nil) (.two .nil (.two (.two (.ord [0, 1, 2, 3, 6, 7, 8, 9, 4, 5, 10, 11, 12]) .nil) .nil)))))))))))))) (.two .nil (.cut ⟨[(5, Sh.str)], []⟩ .nil (.two (.two .nil (.one (.loop ⟨[(5, Sh.str), (6, Sh.int .i64)], []⟩ (.two .nil (.two (.one (.cut ⟨[(5, Sh.str)], []⟩ .nil .nil)) .nil))))) .nil))))) [Value.agg #[Value.int .i64 e_0, Value.bool e_1, Value.slice e_2A e_2n e_2c, Value.slice e_3A e_3n e_3c, Value.string e_4, Value.slice e_5A e_5n e_5c]] h R by kernel_rfl) hv)

def ref03_Of_vc (num : Int) (den : Int) (h : Heap) (R : Value → Heap → Prop) : Prop :=
 Br ((den : Int) == 0)
  (R (Value.tuple #[Value.agg #[Value.bool false, Value.slice none 0 0, Value.slice none 0 0], Value.bool false]) h)
  (CallsU Tryz.prog 103 [Value.int .i64 num] h fun v h_1 =>
 ∃ t12_0 : Bool, ∃ t12_1A : Option Addr, ∃ t12_1n t12_1c : Nat, v = Value.agg #[Value.bool t12_0, Value.slice t12_1A t12_1n t12_1c] ∧
 CallsU Tryz.prog 103 [Value.int .i64 den] h_1 fun v_1 h_2 =>
 ∃ t14_0 : Bool, ∃ t14_1A : Option Addr, ∃ t14_1n t14_1c : Nat, v_1 = Value.agg #[Value.bool t14_0, Value.slice t14_1A t14_1n t14_1c] ∧
 CallsU Tryz.prog 79 [Value.bool (!(t12_0 == t14_0)), Value.slice t12_1A t12_1n t12_1c, Value.slice t14_1A t14_1n t14_1c] h_2 fun v_2 h_3 =>
 ∃ t24_0 : Bool, ∃ t24_1A : Option Addr, ∃ t24_1n t24_1c : Nat, ∃ t24_2A : Option Addr, ∃ t24_2n t24_2c : Nat, v_2 = Value.agg #[Value.bool t24_0, Value.slice t24_1A t24_1n t24_1c, Value.slice t24_2A t24_2n t24_2c] ∧
 R (Value.tuple #[Value.agg #[Value.bool t24_0, Value.slice t24_1A t24_1n t24_1c, Value.slice t24_2A t24_2n t24_2c], Value.bool true]) h_3)

set_option maxRecDepth 100000 in
theorem ref03_Of_ok {num : Int} {den : Int} {h : Heap} {R : Value → Heap → Prop} (hv : ref03_Of_vc num den h R) : CallsU Tryz.prog 63 [Value.int .i64 num, Value.int .i64 den] h R :=
  fn_sound Tryz.func63 (by kernel_rfl) (by kernel_rfl) (by kernel_rfl) (fun _ => false) .nil [Value.int .i64 num, Value.int .i64 den] h R (by kernel_rfl)
    (Eq.mp (show ref03_Of_vc num den h R = fnV Tryz.prog Tryz.f63 (fun _ => false) .nil [Value.int .i64 num, Value.int .i64 den] h R by kernel_rfl) hv)

def ref17_right_vc (e_0 : Int) (e_1 : Bool) (e_2A : Option Addr) (e_2n e_2c : Nat) (e_3A : Option Addr) (e_3n e_3c : Nat) (e_4 : ByteArray) (_e_5A : Option Addr) (e_5n _e_5c : Nat) (h : Heap) (R : Value → Heap → Prop) : Prop :=
 CallsU Tryz.prog 107 [Value.int .i64 0] h fun v h_1 =>
 ∃ t9_0 : Bool, ∃ t9_1A : Option Addr, ∃ t9_1n t9_1c : Nat, ∃ t9_2A : Option Addr, ∃ t9_2n t9_2c : Nat, v = Value.agg #[Value.bool t9_0, Value.slice t9_1A t9_1n t9_1c, Value.slice t9_2A t9_2n t9_2c] ∧
 LeH h h_1 ∧
 CallsU Tryz.prog 47 [Value.agg #[Value.bool e_1, Value.slice e_2A e_2n e_2c, Value.slice e_3A e_3n e_3c], Value.agg #[Value.bool t9_0, Value.slice t9_1A t9_1n t9_1c, Value.slice t9_2A t9_2n t9_2c]] h_1 fun v_1 h_2 =>
 ∃ t10 : Int, v_1 = Value.int .i64 t10 ∧
 Br ((e_0 : Int) == 1)
  (CallsU Tryz.prog 83 [Value.agg #[Value.bool e_1, Value.slice e_2A e_2n e_2c, Value.slice e_3A e_3n e_3c]] h_2 fun v_2 h_3 =>
 ∃ t22_0 : Int, ∃ t22_1 : Bool, v_2 = Value.tuple #[Value.int .i64 t22_0, Value.bool t22_1] ∧
 Br (t22_1)
  (Br (e_4.toList == (⟨#[]⟩ : ByteArray).toList)
  (R (Value.bool ((((e_5n : Nat) : Int) : Int) == 0)) h_3)
  (R (Value.bool false) h_3))
  (R (Value.bool false) h_3))
  (Br ((e_0 : Int) == 2)
  (CallsU Tryz.prog 108 [Value.string e_4] h_2 fun v_3 h_4 =>
 ∃ t39 : Bool, v_3 = Value.bool t39 ∧
 Br (t39)
  (Br ((t10 : Int) == 0)
  (R (Value.bool ((((e_5n : Nat) : Int) : Int) == 0)) h_4)
  (R (Value.bool false) h_4))
  (R (Value.bool false) h_4))
  (∃ C : Bool → Heap → Prop, (∀ (t47 : Bool) (h_5 : Heap), C t47 h_5 →
 Br (t47)
  (Br ((t10 : Int) == 0)
  (Br (e_4.toList == (⟨#[]⟩ : ByteArray).toList)
  (R (Value.bool ((((e_5n : Nat) : Int) : Int) == 2)) h_5)
  (R (Value.bool false) h_5))
  (R (Value.bool false) h_5))
  (Br ((e_0 : Int) == 7)
  (Br ((t10 : Int) == 0)
  (Br (e_4.toList == (⟨#[]⟩ : ByteArray).toList)
  (R (Value.bool ((((e_5n : Nat) : Int) : Int) == 1)) h_5)
  (R (Value.bool false) h_5))
  (R (Value.bool false) h_5))
  (∃ C_1 : Bool → Heap → Prop, (∀ (t74 : Bool) (h_6 : Heap), C_1 t74 h_6 →
 Br (t74)
  (Br ((t10 : Int) == 0)
  (Br (e_4.toList == (⟨#[]⟩ : ByteArray).toList)
  (Br (decide (((e_5n : Nat) : Int) ≥ 1))
  (R (Value.bool (decide (((e_5n : Nat) : Int) ≤ 8))) h_6)
  (R (Value.bool false) h_6))
  (R (Value.bool false) h_6))
  (R (Value.bool false) h_6))
  (R (Value.bool false) h_6)) ∧
 Br ((e_0 : Int) == 8)
  (C_1 ((e_0 : Int) == 8) h_5)
  (C_1 ((e_0 : Int) == 9) h_5)))) ∧
 Br ((e_0 : Int) == 3)
  (C ((e_0 : Int) == 3) h_2)
  (Br ((e_0 : Int) == 4)
  (C ((e_0 : Int) == 4) h_2)
  (Br ((e_0 : Int) == 5)
  (C ((e_0 : Int) == 5) h_2)
  (C ((e_0 : Int) == 6) h_2)))))

set_option maxRecDepth 100000 in
theorem ref17_right_ok {e_0 : Int} {e_1 : Bool} {e_2A : Option Addr} {e_2n e_2c : Nat} {e_3A : Option Addr} {e_3n e_3c : Nat} {e_4 : ByteArray} {e_5A : Option Addr} {e_5n e_5c : Nat} {h : Heap} {R : Value → Heap → Prop} (hv : ref17_right_vc e_0 e_1 e_2A e_2n e_2c e_3A e_3n e_3c e_4 e_5A e_5n e_5c h R) : CallsU Tryz.prog 65 [Value.agg #[Value.int .i64 e_0, Value.bool e_1, Value.slice e_2A e_2n e_2c, Value.slice e_3A e_3n e_3c, Value.string e_4, Value.slice e_5A e_5n e_5c]] h R :=
  fn_sound Tryz.func65 (by kernel_rfl) (by kernel_rfl) (by kernel_rfl) (fun _ => false) (.two .nil (.two (.ord [0, 1, 2, 3, 4, 5]) (.two .nil (.two (.two .nil (.one (.two .nil (.two .nil (.two .nil (.two .nil (.cut ⟨[(47, Sh.bool)], []⟩ .nil (.two .nil (.two .nil (.two .nil (.cut ⟨[(74, Sh.bool)], []⟩ .nil .nil))))))))))) .nil)))) [Value.agg #[Value.int .i64 e_0, Value.bool e_1, Value.slice e_2A e_2n e_2c, Value.slice e_3A e_3n e_3c, Value.string e_4, Value.slice e_5A e_5n e_5c]] h R (by kernel_rfl)
    (Eq.mp (show ref17_right_vc e_0 e_1 e_2A e_2n e_2c e_3A e_3n e_3c e_4 e_5A e_5n e_5c h R = fnV Tryz.prog Tryz.f65 (fun _ => false) (.two .nil (.two (.ord [0, 1, 2, 3, 4, 5]) (.two .nil (.two (.two .nil (.one (.two .nil (.two .nil (.two .nil (.two .nil (.cut ⟨[(47, Sh.bool)], []⟩ .nil (.two .nil (.two .nil (.two .nil (.cut ⟨[(74, Sh.bool)], []⟩ .nil .nil))))))))))) .nil)))) [Value.agg #[Value.int .i64 e_0, Value.bool e_1, Value.slice e_2A e_2n e_2c, Value.slice e_3A e_3n e_3c, Value.string e_4, Value.slice e_5A e_5n e_5c]] h R by kernel_rfl) hv)

def ref02_Cmp_vc (a_0 : Bool) (a_1A : Option Addr) (a_1n a_1c : Nat) (b_0 : Bool) (b_1A : Option Addr) (b_1n b_1c : Nat) (h : Heap) (R : Value → Heap → Prop) : Prop :=
 CallsU Tryz.prog 123 [Value.agg #[Value.bool a_0, Value.slice a_1A a_1n a_1c]] h fun v h_1 =>
 ∃ t8_0 : Bool, ∃ t8_1A : Option Addr, ∃ t8_1n t8_1c : Nat, v = Value.agg #[Value.bool t8_0, Value.slice t8_1A t8_1n t8_1c] ∧
 LeH h h_1 ∧
 CallsU Tryz.prog 123 [Value.agg #[Value.bool b_0, Value.slice b_1A b_1n b_1c]] h_1 fun v_1 h_2 =>
 ∃ t10_0 : Bool, ∃ t10_1A : Option Addr, ∃ t10_1n t10_1c : Nat, v_1 = Value.agg #[Value.bool t10_0, Value.slice t10_1A t10_1n t10_1c] ∧
 ∃ C : Bool → Heap → Prop, (∀ (t11 : Bool) (h_3 : Heap), C t11 h_3 →
 Br (t11)
  (R (Value.int .i64 (-1)) h_3)
  (∃ C_1 : Bool → Heap → Prop, (∀ (t19 : Bool) (h_4 : Heap), C_1 t19 h_4 →
 Br (t19)
  (R (Value.int .i64 1) h_4)
  (Br (t8_0)
  (CallsU Tryz.prog 124 [Value.slice t10_1A t10_1n t10_1c, Value.slice t8_1A t8_1n t8_1c] h_4 fun v_2 h_5 =>
 ∃ t34 : Int, v_2 = Value.int .i64 t34 ∧
 R (Value.int .i64 t34) h_5)
  (CallsU Tryz.prog 124 [Value.slice t8_1A t8_1n t8_1c, Value.slice t10_1A t10_1n t10_1c] h_4 fun v_3 h_6 =>
 ∃ t39 : Int, v_3 = Value.int .i64 t39 ∧
 R (Value.int .i64 t39) h_6))) ∧
 Br (!t8_0)
  (C_1 t10_0 h_3)
  (C_1 false h_3))) ∧
 Br (t8_0)
  (C (!t10_0) h_2)
  (C false h_2)

set_option maxRecDepth 100000 in
theorem ref02_Cmp_ok {a_0 : Bool} {a_1A : Option Addr} {a_1n a_1c : Nat} {b_0 : Bool} {b_1A : Option Addr} {b_1n b_1c : Nat} {h : Heap} {R : Value → Heap → Prop} (hv : ref02_Cmp_vc a_0 a_1A a_1n a_1c b_0 b_1A b_1n b_1c h R) : CallsU Tryz.prog 75 [Value.agg #[Value.bool a_0, Value.slice a_1A a_1n a_1c], Value.agg #[Value.bool b_0, Value.slice b_1A b_1n b_1c]] h R :=
  fn_sound Tryz.func75 (by kernel_rfl) (by kernel_rfl) (by kernel_rfl) (fun _ => false) (.two .nil (.two (.ord [0, 2, 1, 3, 4, 5, 6, 7]) (.two (.one (.cut ⟨[(11, Sh.bool)], []⟩ .nil (.two .nil (.cut ⟨[(19, Sh.bool)], []⟩ .nil .nil)))) .nil))) [Value.agg #[Value.bool a_0, Value.slice a_1A a_1n a_1c], Value.agg #[Value.bool b_0, Value.slice b_1A b_1n b_1c]] h R (by kernel_rfl)
    (Eq.mp (show ref02_Cmp_vc a_0 a_1A a_1n a_1c b_0 b_1A b_1n b_1c h R = fnV Tryz.prog Tryz.f75 (fun _ => false) (.two .nil (.two (.ord [0, 2, 1, 3, 4, 5, 6, 7]) (.two (.one (.cut ⟨[(11, Sh.bool)], []⟩ .nil (.two .nil (.cut ⟨[(19, Sh.bool)], []⟩ .nil .nil)))) .nil))) [Value.agg #[Value.bool a_0, Value.slice a_1A a_1n a_1c], Value.agg #[Value.bool b_0, Value.slice b_1A b_1n b_1c]] h R by kernel_rfl) hv)

def ref02_Mul_vc (a_0 : Bool) (a_1A : Option Addr) (a_1n a_1c : Nat) (b_0 : Bool) (b_1A : Option Addr) (b_1n b_1c : Nat) (h : Heap) (R : Value → Heap → Prop) : Prop :=
 CallsU Tryz.prog 126 [Value.slice a_1A a_1n a_1c, Value.slice b_1A b_1n b_1c] h fun v h_1 =>
 ∃ t14A : Option Addr, ∃ t14n t14c : Nat, v = Value.slice t14A t14n t14c ∧
 LeH h h_1 ∧
 CallsU Tryz.prog 125 [Value.bool (!(a_0 == b_0)), Value.slice t14A t14n t14c] h_1 fun v_1 h_2 =>
 ∃ t15_0 : Bool, ∃ t15_1A : Option Addr, ∃ t15_1n t15_1c : Nat, v_1 = Value.agg #[Value.bool t15_0, Value.slice t15_1A t15_1n t15_1c] ∧
 R (Value.agg #[Value.bool t15_0, Value.slice t15_1A t15_1n t15_1c]) h_2

set_option maxRecDepth 100000 in
theorem ref02_Mul_ok {a_0 : Bool} {a_1A : Option Addr} {a_1n a_1c : Nat} {b_0 : Bool} {b_1A : Option Addr} {b_1n b_1c : Nat} {h : Heap} {R : Value → Heap → Prop} (hv : ref02_Mul_vc a_0 a_1A a_1n a_1c b_0 b_1A b_1n b_1c h R) : CallsU Tryz.prog 76 [Value.agg #[Value.bool a_0, Value.slice a_1A a_1n a_1c], Value.agg #[Value.bool b_0, Value.slice b_1A b_1n b_1c]] h R :=
  fn_sound Tryz.func76 (by kernel_rfl) (by kernel_rfl) (by kernel_rfl) (fun _ => false) (.two .nil (.two (.ord [0, 1, 2, 3, 4, 5, 6, 7, 8, 9, 10, 11]) .nil)) [Value.agg #[Value.bool a_0, Value.slice a_1A a_1n a_1c], Value.agg #[Value.bool b_0, Value.slice b_1A b_1n b_1c]] h R (by kernel_rfl)
    (Eq.mp (show ref02_Mul_vc a_0 a_1A a_1n a_1c b_0 b_1A b_1n b_1c h R = fnV Tryz.prog Tryz.f76 (fun _ => false) (.two .nil (.two (.ord [0, 1, 2, 3, 4, 5, 6, 7, 8, 9, 10, 11]) .nil)) [Value.agg #[Value.bool a_0, Value.slice a_1A a_1n a_1c], Value.agg #[Value.bool b_0, Value.slice b_1A b_1n b_1c]] h R by kernel_rfl) hv)

def ref03_Zero_vc (_a_0 : Bool) (a_1A : Option Addr) (a_1n a_1c : Nat) (a_2A : Option Addr) (a_2n a_2c : Nat) (h : Heap) (R : Value → Heap → Prop) : Prop :=
 CallsU Tryz.prog 127 [Value.slice a_1A a_1n a_1c] h fun v h_1 =>
 ∃ t6A : Option Addr, ∃ t6n t6c : Nat, v = Value.slice t6A t6n t6c ∧
 Br ((((t6n : Nat) : Int) : Int) == 0)
  (R (Value.bool true) h_1)
  (CallsU Tryz.prog 127 [Value.slice a_2A a_2n a_2c] h_1 fun v_1 h_2 =>
 ∃ t12A : Option Addr, ∃ t12n t12c : Nat, v_1 = Value.slice t12A t12n t12c ∧
 R (Value.bool ((((t12n : Nat) : Int) : Int) == 0)) h_2)

set_option maxRecDepth 100000 in
theorem ref03_Zero_ok {a_0 : Bool} {a_1A : Option Addr} {a_1n a_1c : Nat} {a_2A : Option Addr} {a_2n a_2c : Nat} {h : Heap} {R : Value → Heap → Prop} (hv : ref03_Zero_vc a_0 a_1A a_1n a_1c a_2A a_2n a_2c h R) : CallsU Tryz.prog 77 [Value.agg #[Value.bool a_0, Value.slice a_1A a_1n a_1c, Value.slice a_2A a_2n a_2c]] h R :=
  fn_sound Tryz.func77 (by kernel_rfl) (by kernel_rfl) (by kernel_rfl) (fun _ => false) .nil [Value.agg #[Value.bool a_0, Value.slice a_1A a_1n a_1c, Value.slice a_2A a_2n a_2c]] h R (by kernel_rfl)
    (Eq.mp (show ref03_Zero_vc a_0 a_1A a_1n a_1c a_2A a_2n a_2c h R = fnV Tryz.prog Tryz.f77 (fun _ => false) .nil [Value.agg #[Value.bool a_0, Value.slice a_1A a_1n a_1c, Value.slice a_2A a_2n a_2c]] h R by kernel_rfl) hv)

def ref03_Whole_vc (n : Int) (h : Heap) (R : Value → Heap → Prop) : Prop :=
 CallsU Tryz.prog 103 [Value.int .i64 n] h fun v h_1 =>
 ∃ t4_0 : Bool, ∃ t4_1A : Option Addr, ∃ t4_1n t4_1c : Nat, v = Value.agg #[Value.bool t4_0, Value.slice t4_1A t4_1n t4_1c] ∧
 CallsU Tryz.prog 128 [Value.int .u64 1] h_1 fun v_1 h_2 =>
 ∃ t5A : Option Addr, ∃ t5n t5c : Nat, v_1 = Value.slice t5A t5n t5c ∧
 R (Value.agg #[Value.bool t4_0, Value.slice t4_1A t4_1n t4_1c, Value.slice t5A t5n t5c]) h_2

set_option maxRecDepth 100000 in
theorem ref03_Whole_ok {n : Int} {h : Heap} {R : Value → Heap → Prop} (hv : ref03_Whole_vc n h R) : CallsU Tryz.prog 78 [Value.int .i64 n] h R :=
  fn_sound Tryz.func78 (by kernel_rfl) (by kernel_rfl) (by kernel_rfl) (fun _ => false) .nil [Value.int .i64 n] h R (by kernel_rfl)
    (Eq.mp (show ref03_Whole_vc n h R = fnV Tryz.prog Tryz.f78 (fun _ => false) .nil [Value.int .i64 n] h R by kernel_rfl) hv)

def ref03_reduce_vc (neg : Bool) (nA : Option Addr) (nn nc : Nat) (dA : Option Addr) (dn dc : Nat) (h : Heap) (R : Value → Heap → Prop) : Prop :=
 CallsU Tryz.prog 129 [Value.slice nA nn nc, Value.slice dA dn dc] h fun v h_1 =>
 ∃ t16A : Option Addr, ∃ t16n t16c : Nat, v = Value.slice t16A t16n t16c ∧
 CallsU Tryz.prog 130 [Value.slice nA nn nc, Value.slice t16A t16n t16c] h_1 fun v_1 h_2 =>
 ∃ t20_0A : Option Addr, ∃ t20_0n t20_0c : Nat, ∃ t20_1A : Option Addr, ∃ t20_1n t20_1c : Nat, ∃ t20_2 : Bool, v_1 = Value.tuple #[Value.slice t20_0A t20_0n t20_0c, Value.slice t20_1A t20_1n t20_1c, Value.bool t20_2] ∧
 CallsU Tryz.prog 130 [Value.slice dA dn dc, Value.slice t16A t16n t16c] h_2 fun v_2 h_3 =>
 ∃ t27_0A : Option Addr, ∃ t27_0n t27_0c : Nat, ∃ t27_1A : Option Addr, ∃ t27_1n t27_1c : Nat, ∃ t27_2 : Bool, v_2 = Value.tuple #[Value.slice t27_0A t27_0n t27_0c, Value.slice t27_1A t27_1n t27_1c, Value.bool t27_2] ∧
 CallsU Tryz.prog 123 [Value.agg #[Value.bool neg, Value.slice t20_0A t20_0n t20_0c]] h_3 fun v_3 h_4 =>
 ∃ t34_0 : Bool, ∃ t34_1A : Option Addr, ∃ t34_1n t34_1c : Nat, v_3 = Value.agg #[Value.bool t34_0, Value.slice t34_1A t34_1n t34_1c] ∧
 R (Value.agg #[Value.bool t34_0, Value.slice t34_1A t34_1n t34_1c, Value.slice t27_0A t27_0n t27_0c]) h_4

set_option maxRecDepth 100000 in
theorem ref03_reduce_ok {neg : Bool} {nA : Option Addr} {nn nc : Nat} {dA : Option Addr} {dn dc : Nat} {h : Heap} {R : Value → Heap → Prop} (hv : ref03_reduce_vc neg nA nn nc dA dn dc h R) : CallsU Tryz.prog 79 [Value.bool neg, Value.slice nA nn nc, Value.slice dA dn dc] h R :=
  fn_sound Tryz.func79 (by kernel_rfl) (by kernel_rfl) (by kernel_rfl) (fun _ => false) .nil [Value.bool neg, Value.slice nA nn nc, Value.slice dA dn dc] h R (by kernel_rfl)
    (Eq.mp (show ref03_reduce_vc neg nA nn nc dA dn dc h R = fnV Tryz.prog Tryz.f79 (fun _ => false) .nil [Value.bool neg, Value.slice nA nn nc, Value.slice dA dn dc] h R by kernel_rfl) hv)

def ref17_units_vc (r_0 : Bool) (r_1A : Option Addr) (r_1n r_1c : Nat) (r_2A : Option Addr) (r_2n r_2c : Nat) (h : Heap) (R : Value → Heap → Prop) : Prop :=
 CallsU Tryz.prog 107 [Value.int .i64 10000] h fun v h_1 =>
 ∃ t8_0 : Bool, ∃ t8_1A : Option Addr, ∃ t8_1n t8_1c : Nat, ∃ t8_2A : Option Addr, ∃ t8_2n t8_2c : Nat, v = Value.agg #[Value.bool t8_0, Value.slice t8_1A t8_1n t8_1c, Value.slice t8_2A t8_2n t8_2c] ∧
 LeH h h_1 ∧
 CallsU Tryz.prog 137 [Value.agg #[Value.bool r_0, Value.slice r_1A r_1n r_1c, Value.slice r_2A r_2n r_2c], Value.agg #[Value.bool t8_0, Value.slice t8_1A t8_1n t8_1c, Value.slice t8_2A t8_2n t8_2c]] h_1 fun v_1 h_2 =>
 ∃ t9_0 : Bool, ∃ t9_1A : Option Addr, ∃ t9_1n t9_1c : Nat, ∃ t9_2A : Option Addr, ∃ t9_2n t9_2c : Nat, v_1 = Value.agg #[Value.bool t9_0, Value.slice t9_1A t9_1n t9_1c, Value.slice t9_2A t9_2n t9_2c] ∧
 CallsU Tryz.prog 48 [Value.agg #[Value.bool t9_0, Value.slice t9_1A t9_1n t9_1c, Value.slice t9_2A t9_2n t9_2c]] h_2 fun v_2 h_3 =>
 ∃ t10_0 : Bool, ∃ t10_1A : Option Addr, ∃ t10_1n t10_1c : Nat, ∃ t10_2A : Option Addr, ∃ t10_2n t10_2c : Nat, v_2 = Value.agg #[Value.bool t10_0, Value.slice t10_1A t10_1n t10_1c, Value.slice t10_2A t10_2n t10_2c] ∧
 CallsU Tryz.prog 138 [Value.agg #[Value.bool t10_0, Value.slice t10_1A t10_1n t10_1c]] h_3 fun v_3 h_4 =>
 ∃ t14_0 : Int, ∃ t14_1 : Bool, v_3 = Value.tuple #[Value.int .i64 t14_0, Value.bool t14_1] ∧
 Br (!t14_1)
  (LeH h_4 h_4 ∧
 R (Value.tuple #[Value.int .i64 0, Value.bool false]) h_4)
  (CallsU Tryz.prog 107 [Value.int .i64 t14_0] h_4 fun v_4 h_5 =>
 ∃ t22_0 : Bool, ∃ t22_1A : Option Addr, ∃ t22_1n t22_1c : Nat, ∃ t22_2A : Option Addr, ∃ t22_2n t22_2c : Nat, v_4 = Value.agg #[Value.bool t22_0, Value.slice t22_1A t22_1n t22_1c, Value.slice t22_2A t22_2n t22_2c] ∧
 LeH h_4 h_5 ∧
 CallsU Tryz.prog 47 [Value.agg #[Value.bool t10_0, Value.slice t10_1A t10_1n t10_1c, Value.slice t10_2A t10_2n t10_2c], Value.agg #[Value.bool t22_0, Value.slice t22_1A t22_1n t22_1c, Value.slice t22_2A t22_2n t22_2c]] h_5 fun v_5 h_6 =>
 ∃ t23 : Int, v_5 = Value.int .i64 t23 ∧
 Br ((t23 : Int) != 0)
  (R (Value.tuple #[Value.int .i64 0, Value.bool false]) h_6)
  (Br (decide (t14_0 < 0))
  (R (Value.tuple #[Value.int .i64 0, Value.bool false]) h_6)
  (Br (decide (t14_0 > 9999999999999))
  (R (Value.tuple #[Value.int .i64 0, Value.bool false]) h_6)
  (R (Value.tuple #[Value.int .i64 t14_0, Value.bool true]) h_6))))

set_option maxRecDepth 100000 in
theorem ref17_units_ok {r_0 : Bool} {r_1A : Option Addr} {r_1n r_1c : Nat} {r_2A : Option Addr} {r_2n r_2c : Nat} {h : Heap} {R : Value → Heap → Prop} (hv : ref17_units_vc r_0 r_1A r_1n r_1c r_2A r_2n r_2c h R) : CallsU Tryz.prog 83 [Value.agg #[Value.bool r_0, Value.slice r_1A r_1n r_1c, Value.slice r_2A r_2n r_2c]] h R :=
  fn_sound Tryz.func83 (by kernel_rfl) (by kernel_rfl) (by kernel_rfl) (fun _ => false) (.two .nil (.two (.ord [0, 1, 2, 3, 4, 5]) (.two .nil (.two (.two (.ord [0, 1, 2, 3, 4, 5, 6, 7, 8, 9, 10, 11, 12, 13, 14, 15, 16]) .nil) .nil)))) [Value.agg #[Value.bool r_0, Value.slice r_1A r_1n r_1c, Value.slice r_2A r_2n r_2c]] h R (by kernel_rfl)
    (Eq.mp (show ref17_units_vc r_0 r_1A r_1n r_1c r_2A r_2n r_2c h R = fnV Tryz.prog Tryz.f83 (fun _ => false) (.two .nil (.two (.ord [0, 1, 2, 3, 4, 5]) (.two .nil (.two (.two (.ord [0, 1, 2, 3, 4, 5, 6, 7, 8, 9, 10, 11, 12, 13, 14, 15, 16]) .nil) .nil)))) [Value.agg #[Value.bool r_0, Value.slice r_1A r_1n r_1c, Value.slice r_2A r_2n r_2c]] h R by kernel_rfl) hv)

def ref17_number_vc (n : Int) (h : Heap) (R : Value → Heap → Prop) : Prop :=
 ∀ t6 : Int, t6 = IntKind.i64.wrap (Int.tdiv n 10000) →
 CallsU Tryz.prog 103 [Value.int .i64 t6] h fun v h_1 =>
 ∃ t7_0 : Bool, ∃ t7_1A : Option Addr, ∃ t7_1n t7_1c : Nat, v = Value.agg #[Value.bool t7_0, Value.slice t7_1A t7_1n t7_1c] ∧
 CallsU Tryz.prog 139 [Value.agg #[Value.bool t7_0, Value.slice t7_1A t7_1n t7_1c]] h_1 fun v_1 h_2 =>
 ∃ t8 : ByteArray, v_1 = Value.string t8 ∧
 ∀ t10 : Int, t10 = (Int.tmod n 10000) →
 Br ((t10 : Int) == 0)
  (R (Value.string t8) h_2)
  (∀ t14 : Int, t14 = (Int.tmod n 10000) →
 ∀ t15 : Int, t15 = IntKind.i64.wrap (10000 + t14) →
 CallsU Tryz.prog 103 [Value.int .i64 t15] h_2 fun v_2 h_3 =>
 ∃ t16_0 : Bool, ∃ t16_1A : Option Addr, ∃ t16_1n t16_1c : Nat, v_2 = Value.agg #[Value.bool t16_0, Value.slice t16_1A t16_1n t16_1c] ∧
 CallsU Tryz.prog 139 [Value.agg #[Value.bool t16_0, Value.slice t16_1A t16_1n t16_1c]] h_3 fun v_3 h_4 =>
 ∃ t17 : ByteArray, v_3 = Value.string t17 ∧
 ((0 : Nat) : Int) ≤ (1 : Int) ∧ 1 ≤ ((t17.size : Nat) : Int) ∧
 ∃ J : Nat → ByteArray → Heap → Prop, (∃ m, J m (ByteArray.extract t17 1 t17.size) h_4) ∧
 ∀ (m : Nat) (f : ByteArray) (h_5 : Heap), J m f h_5 →
 ∀ t22 : Int, t22 = IntKind.i64.wrap (((f.size : Nat) : Int) - 1) →
 ∃ c : UInt8, 0 ≤ t22 ∧ f[(Int.toNat t22 : Nat)]? = some c ∧
 Br (((c.toNat : Int) : Int) == 48)
  (∀ t28 : Int, t28 = IntKind.i64.wrap (((f.size : Nat) : Int) - 1) →
 ((0 : Nat) : Int) ≤ t28 ∧ t28 ≤ ((f.size : Nat) : Int) ∧
 ∃ m_1, m_1 < m ∧ J m_1 (ByteArray.extract f 0 (Int.toNat t28)) h_5)
  (((t8.size + (⟨#[46]⟩ : ByteArray).size : Nat) : Int) ≤ 9223372036854775807 ∧
 (((t8 ++ (⟨#[46]⟩ : ByteArray)).size + f.size : Nat) : Int) ≤ 9223372036854775807 ∧
 R (Value.string ((t8 ++ (⟨#[46]⟩ : ByteArray)) ++ f)) h_5))

set_option maxRecDepth 100000 in
theorem ref17_number_ok {n : Int} {h : Heap} {R : Value → Heap → Prop} (hv : ref17_number_vc n h R) : CallsU Tryz.prog 84 [Value.int .i64 n] h R :=
  fn_sound Tryz.func84 (by kernel_rfl) (by kernel_rfl) (by kernel_rfl) (fun _ => false) (.two .nil (.two .nil (.two .nil (.two .nil (.two (.one (.loop ⟨[(4, Sh.str)], []⟩ .nil)) .nil))))) [Value.int .i64 n] h R (by kernel_rfl)
    (Eq.mp (show ref17_number_vc n h R = fnV Tryz.prog Tryz.f84 (fun _ => false) (.two .nil (.two .nil (.two .nil (.two .nil (.two (.one (.loop ⟨[(4, Sh.str)], []⟩ .nil)) .nil))))) [Value.int .i64 n] h R by kernel_rfl) hv)

def ref17_within_vc (e_0 : Int) (e_1 : Bool) (e_2A : Option Addr) (e_2n e_2c : Nat) (e_3A : Option Addr) (e_3n e_3c : Nat) (e_4 : ByteArray) (e_5A : Option Addr) (e_5n e_5c : Nat) (least : Int) (h : Heap) (R : Value → Heap → Prop) : Prop :=
 CallsU Tryz.prog 140 [Value.int .i64 e_0] h fun v h_1 =>
 ∃ t7 : Int, v = Value.int .i64 t7 ∧
 Br (decide (t7 < least))
  (CallsU Tryz.prog 50 [Value.agg #[Value.int .i64 e_0, Value.bool e_1, Value.slice e_2A e_2n e_2c, Value.slice e_3A e_3n e_3c, Value.string e_4, Value.slice e_5A e_5n e_5c]] h_1 fun v_1 h_2 =>
 ∃ t11 : ByteArray, v_1 = Value.string t11 ∧
 (((⟨#[40]⟩ : ByteArray).size + t11.size : Nat) : Int) ≤ 9223372036854775807 ∧
 ((((⟨#[40]⟩ : ByteArray) ++ t11).size + (⟨#[41]⟩ : ByteArray).size : Nat) : Int) ≤ 9223372036854775807 ∧
 R (Value.string (((⟨#[40]⟩ : ByteArray) ++ t11) ++ (⟨#[41]⟩ : ByteArray))) h_2)
  (CallsU Tryz.prog 50 [Value.agg #[Value.int .i64 e_0, Value.bool e_1, Value.slice e_2A e_2n e_2c, Value.slice e_3A e_3n e_3c, Value.string e_4, Value.slice e_5A e_5n e_5c]] h_1 fun v_2 h_3 =>
 ∃ t15 : ByteArray, v_2 = Value.string t15 ∧
 R (Value.string t15) h_3)

set_option maxRecDepth 100000 in
theorem ref17_within_ok {e_0 : Int} {e_1 : Bool} {e_2A : Option Addr} {e_2n e_2c : Nat} {e_3A : Option Addr} {e_3n e_3c : Nat} {e_4 : ByteArray} {e_5A : Option Addr} {e_5n e_5c : Nat} {least : Int} {h : Heap} {R : Value → Heap → Prop} (hv : ref17_within_vc e_0 e_1 e_2A e_2n e_2c e_3A e_3n e_3c e_4 e_5A e_5n e_5c least h R) : CallsU Tryz.prog 85 [Value.agg #[Value.int .i64 e_0, Value.bool e_1, Value.slice e_2A e_2n e_2c, Value.slice e_3A e_3n e_3c, Value.string e_4, Value.slice e_5A e_5n e_5c], Value.int .i64 least] h R :=
  fn_sound Tryz.func85 (by kernel_rfl) (by kernel_rfl) (by kernel_rfl) (fun _ => false) .nil [Value.agg #[Value.int .i64 e_0, Value.bool e_1, Value.slice e_2A e_2n e_2c, Value.slice e_3A e_3n e_3c, Value.string e_4, Value.slice e_5A e_5n e_5c], Value.int .i64 least] h R (by kernel_rfl)
    (Eq.mp (show ref17_within_vc e_0 e_1 e_2A e_2n e_2c e_3A e_3n e_3c e_4 e_5A e_5n e_5c least h R = fnV Tryz.prog Tryz.f85 (fun _ => false) .nil [Value.agg #[Value.int .i64 e_0, Value.bool e_1, Value.slice e_2A e_2n e_2c, Value.slice e_3A e_3n e_3c, Value.string e_4, Value.slice e_5A e_5n e_5c], Value.int .i64 least] h R by kernel_rfl) hv)

def ref02_Of_vc (n : Int) (h : Heap) (R : Value → Heap → Prop) : Prop :=
 Br (decide (n < 0))
  (∀ t6 : Int, t6 = IntKind.i64.wrap (n + 1) →
 ∀ t7 : Int, t7 = IntKind.i64.wrap (0 - t6) →
 ∀ t9 : Int, t9 = IntKind.u64.wrap ((IntKind.u64.wrap t7) + 1) →
 CallsU Tryz.prog 128 [Value.int .u64 t9] h fun v h_1 =>
 ∃ t10A : Option Addr, ∃ t10n t10c : Nat, v = Value.slice t10A t10n t10c ∧
 R (Value.agg #[Value.bool true, Value.slice t10A t10n t10c]) h_1)
  (CallsU Tryz.prog 128 [Value.int .u64 (IntKind.u64.wrap n)] h fun v_1 h_2 =>
 ∃ t14A : Option Addr, ∃ t14n t14c : Nat, v_1 = Value.slice t14A t14n t14c ∧
 R (Value.agg #[Value.bool false, Value.slice t14A t14n t14c]) h_2)

set_option maxRecDepth 100000 in
theorem ref02_Of_ok {n : Int} {h : Heap} {R : Value → Heap → Prop} (hv : ref02_Of_vc n h R) : CallsU Tryz.prog 103 [Value.int .i64 n] h R :=
  fn_sound Tryz.func103 (by kernel_rfl) (by kernel_rfl) (by kernel_rfl) (fun _ => false) .nil [Value.int .i64 n] h R (by kernel_rfl)
    (Eq.mp (show ref02_Of_vc n h R = fnV Tryz.prog Tryz.f103 (fun _ => false) .nil [Value.int .i64 n] h R by kernel_rfl) hv)

def ref17_whole_vc (n : Int) (h : Heap) (R : Value → Heap → Prop) : Prop :=
 CallsU Tryz.prog 63 [Value.int .i64 n, Value.int .i64 1] h fun v h_1 =>
 ∃ t7_0_0 : Bool, ∃ t7_0_1A : Option Addr, ∃ t7_0_1n t7_0_1c : Nat, ∃ t7_0_2A : Option Addr, ∃ t7_0_2n t7_0_2c : Nat, ∃ t7_1 : Bool, v = Value.tuple #[Value.agg #[Value.bool t7_0_0, Value.slice t7_0_1A t7_0_1n t7_0_1c, Value.slice t7_0_2A t7_0_2n t7_0_2c], Value.bool t7_1] ∧
 R (Value.agg #[Value.bool t7_0_0, Value.slice t7_0_1A t7_0_1n t7_0_1c, Value.slice t7_0_2A t7_0_2n t7_0_2c]) h_1

set_option maxRecDepth 100000 in
theorem ref17_whole_ok {n : Int} {h : Heap} {R : Value → Heap → Prop} (hv : ref17_whole_vc n h R) : CallsU Tryz.prog 107 [Value.int .i64 n] h R :=
  fn_sound Tryz.func107 (by kernel_rfl) (by kernel_rfl) (by kernel_rfl) (fun _ => false) .nil [Value.int .i64 n] h R (by kernel_rfl)
    (Eq.mp (show ref17_whole_vc n h R = fnV Tryz.prog Tryz.f107 (fun _ => false) .nil [Value.int .i64 n] h R by kernel_rfl) hv)

def ref17_Name_vc (s : ByteArray) (h : Heap) (R : Value → Heap → Prop) : Prop :=
 ∃ C : Bool → Heap → Prop, (∀ (t28 : Bool) (h_1 : Heap), C t28 h_1 →
 Br (t28)
  (R (Value.bool false) h_1)
  (∃ J : Nat → Int → Heap → Prop, (∃ m, J m 0 h_1) ∧
 ∀ (m : Nat) (i : Int) (h_2 : Heap), J m i h_2 →
 Br (decide (i < ((s.size : Nat) : Int)))
  (∃ c : UInt8, 0 ≤ i ∧ s[(Int.toNat i : Nat)]? = some c ∧
 CallsU Tryz.prog 156 [Value.int .u8 (c.toNat : Int)] h_2 fun v h_3 =>
 ∃ t38 : Bool, v = Value.bool t38 ∧
 Br (!t38)
  (∃ c_1 : UInt8, 0 ≤ i ∧ s[(Int.toNat i : Nat)]? = some c_1 ∧
 Br (((c_1.toNat : Int) : Int) != 95)
  (∃ c_2 : UInt8, 0 ≤ i ∧ s[(Int.toNat i : Nat)]? = some c_2 ∧
 Br (decide ((c_2.toNat : Int) < 97))
  (R (Value.bool false) h_3)
  (∃ c_3 : UInt8, 0 ≤ i ∧ s[(Int.toNat i : Nat)]? = some c_3 ∧
 Br (decide ((c_3.toNat : Int) > 122))
  (R (Value.bool false) h_3)
  (∀ t34 : Int, t34 = IntKind.i64.wrap (i + 1) →
 ∃ m_1, m_1 < m ∧ J m_1 t34 h_3)))
  (∀ t34_1 : Int, t34_1 = IntKind.i64.wrap (i + 1) →
 ∃ m_1, m_1 < m ∧ J m_1 t34_1 h_3))
  (∀ t34_2 : Int, t34_2 = IntKind.i64.wrap (i + 1) →
 ∃ m_1, m_1 < m ∧ J m_1 t34_2 h_3))
  (R (Value.bool true) h_2))) ∧
 Br (s.toList == (⟨#[]⟩ : ByteArray).toList)
  (C true h)
  (Br (decide (((s.size : Nat) : Int) > 24))
  (C true h)
  (Br (s.toList == (⟨#[109, 105, 110]⟩ : ByteArray).toList)
  (C true h)
  (Br (s.toList == (⟨#[109, 97, 120]⟩ : ByteArray).toList)
  (C true h)
  (∃ c_4 : UInt8, 0 ≤ (0 : Int) ∧ s[(0 : Nat)]? = some c_4 ∧
 Br (decide ((c_4.toNat : Int) < 97))
  (C true h)
  (∃ c_5 : UInt8, 0 ≤ (0 : Int) ∧ s[(0 : Nat)]? = some c_5 ∧
 C (decide ((c_5.toNat : Int) > 122)) h)))))

set_option maxRecDepth 100000 in
theorem ref17_Name_ok {s : ByteArray} {h : Heap} {R : Value → Heap → Prop} (hv : ref17_Name_vc s h R) : CallsU Tryz.prog 108 [Value.string s] h R :=
  fn_sound Tryz.func108 (by kernel_rfl) (by kernel_rfl) (by kernel_rfl) (fun _ => false) (.two .nil (.two (.cut ⟨[(28, Sh.bool)], []⟩ .nil .nil) (.two (.two .nil (.one (.loop ⟨[(3, Sh.int .i64)], []⟩ .nil))) .nil))) [Value.string s] h R (by kernel_rfl)
    (Eq.mp (show ref17_Name_vc s h R = fnV Tryz.prog Tryz.f108 (fun _ => false) (.two .nil (.two (.cut ⟨[(28, Sh.bool)], []⟩ .nil .nil) (.two (.two .nil (.one (.loop ⟨[(3, Sh.int .i64)], []⟩ .nil))) .nil))) [Value.string s] h R by kernel_rfl) hv)

def ref02_Norm_vc (a_0 : Bool) (a_1A : Option Addr) (a_1n a_1c : Nat) (h : Heap) (R : Value → Heap → Prop) : Prop :=
 CallsU Tryz.prog 125 [Value.bool a_0, Value.slice a_1A a_1n a_1c] h fun v h_1 =>
 ∃ t7_0 : Bool, ∃ t7_1A : Option Addr, ∃ t7_1n t7_1c : Nat, v = Value.agg #[Value.bool t7_0, Value.slice t7_1A t7_1n t7_1c] ∧
 R (Value.agg #[Value.bool t7_0, Value.slice t7_1A t7_1n t7_1c]) h_1

set_option maxRecDepth 100000 in
theorem ref02_Norm_ok {a_0 : Bool} {a_1A : Option Addr} {a_1n a_1c : Nat} {h : Heap} {R : Value → Heap → Prop} (hv : ref02_Norm_vc a_0 a_1A a_1n a_1c h R) : CallsU Tryz.prog 123 [Value.agg #[Value.bool a_0, Value.slice a_1A a_1n a_1c]] h R :=
  fn_sound Tryz.func123 (by kernel_rfl) (by kernel_rfl) (by kernel_rfl) (fun _ => false) .nil [Value.agg #[Value.bool a_0, Value.slice a_1A a_1n a_1c]] h R (by kernel_rfl)
    (Eq.mp (show ref02_Norm_vc a_0 a_1A a_1n a_1c h R = fnV Tryz.prog Tryz.f123 (fun _ => false) .nil [Value.agg #[Value.bool a_0, Value.slice a_1A a_1n a_1c]] h R by kernel_rfl) hv)

def ref01_Cmp_vc (aA : Option Addr) (an ac : Nat) (bA : Option Addr) (bn bc : Nat) (h : Heap) (R : Value → Heap → Prop) : Prop :=
 ∀ t11 : Int, t11 = IntKind.i64.wrap ((if decide (((bn : Nat) : Int) > ((an : Nat) : Int)) then ((bn : Nat) : Int) else ((an : Nat) : Int)) - 1) →
 ∃ J : Nat → Int → Heap → Prop, (∃ m, J m t11 h) ∧
 ∀ (m : Nat) (i : Int) (h_1 : Heap), J m i h_1 →
 Br (decide (i ≥ 0))
  (CallsU Tryz.prog 170 [Value.slice aA an ac, Value.int .i64 i] h_1 fun v h_2 =>
 ∃ t18 : Int, v = Value.int .u64 t18 ∧
 CallsU Tryz.prog 170 [Value.slice bA bn bc, Value.int .i64 i] h_2 fun v_1 h_3 =>
 ∃ t21 : Int, v_1 = Value.int .u64 t21 ∧
 Br (decide (t18 < t21))
  (R (Value.int .i64 (-1)) h_3)
  (CallsU Tryz.prog 170 [Value.slice aA an ac, Value.int .i64 i] h_3 fun v_2 h_4 =>
 ∃ t25 : Int, v_2 = Value.int .u64 t25 ∧
 CallsU Tryz.prog 170 [Value.slice bA bn bc, Value.int .i64 i] h_4 fun v_3 h_5 =>
 ∃ t28 : Int, v_3 = Value.int .u64 t28 ∧
 Br (decide (t25 > t28))
  (R (Value.int .i64 1) h_5)
  (∀ t15 : Int, t15 = IntKind.i64.wrap (i - 1) →
 ∃ m_1, m_1 < m ∧ J m_1 t15 h_5)))
  (R (Value.int .i64 0) h_1)

set_option maxRecDepth 100000 in
theorem ref01_Cmp_ok {aA : Option Addr} {an ac : Nat} {bA : Option Addr} {bn bc : Nat} {h : Heap} {R : Value → Heap → Prop} (hv : ref01_Cmp_vc aA an ac bA bn bc h R) : CallsU Tryz.prog 124 [Value.slice aA an ac, Value.slice bA bn bc] h R :=
  fn_sound Tryz.func124 (by kernel_rfl) (by kernel_rfl) (by kernel_rfl) (fun _ => false) (.two .nil (.two (.two .nil (.one (.loop ⟨[(5, Sh.int .i64)], []⟩ .nil))) .nil)) [Value.slice aA an ac, Value.slice bA bn bc] h R (by kernel_rfl)
    (Eq.mp (show ref01_Cmp_vc aA an ac bA bn bc h R = fnV Tryz.prog Tryz.f124 (fun _ => false) (.two .nil (.two (.two .nil (.one (.loop ⟨[(5, Sh.int .i64)], []⟩ .nil))) .nil)) [Value.slice aA an ac, Value.slice bA bn bc] h R by kernel_rfl) hv)

def ref02_make1_vc (neg : Bool) (mA : Option Addr) (mn mc : Nat) (h : Heap) (R : Value → Heap → Prop) : Prop :=
 CallsU Tryz.prog 127 [Value.slice mA mn mc] h fun v h_1 =>
 ∃ t6A : Option Addr, ∃ t6n t6c : Nat, v = Value.slice t6A t6n t6c ∧
 Br (neg)
  (R (Value.agg #[Value.bool (decide (((t6n : Nat) : Int) > 0)), Value.slice t6A t6n t6c]) h_1)
  (R (Value.agg #[Value.bool false, Value.slice t6A t6n t6c]) h_1)

set_option maxRecDepth 100000 in
theorem ref02_make1_ok {neg : Bool} {mA : Option Addr} {mn mc : Nat} {h : Heap} {R : Value → Heap → Prop} (hv : ref02_make1_vc neg mA mn mc h R) : CallsU Tryz.prog 125 [Value.bool neg, Value.slice mA mn mc] h R :=
  fn_sound Tryz.func125 (by kernel_rfl) (by kernel_rfl) (by kernel_rfl) (fun _ => false) .nil [Value.bool neg, Value.slice mA mn mc] h R (by kernel_rfl)
    (Eq.mp (show ref02_make1_vc neg mA mn mc h R = fnV Tryz.prog Tryz.f125 (fun _ => false) .nil [Value.bool neg, Value.slice mA mn mc] h R by kernel_rfl) hv)

def ref01_Mul_vc (aA : Option Addr) (an ac : Nat) (bA : Option Addr) (bn bc : Nat) (h : Heap) (R : Value → Heap → Prop) : Prop :=
 ∀ t14 : Int, t14 = IntKind.i64.wrap (((an : Nat) : Int) + ((bn : Nat) : Int)) →
 0 ≤ t14 ∧ t14 ≤ t14 ∧ t14 * 4 ≤ 140737488355328 ∧ t14 ≤ 9223372036854775807 ∧
 ∀ (g : Nat) (h_1 : Heap), h g = none → h_1 = Heap.put h g ⟨repV [Value.int .u32 0] (Int.toNat t14), 104, (0, 0)⟩ →
 ∃ J : Nat → Int → Heap → Prop, (∃ m, J m 0 h_1) ∧
 ∀ (m : Nat) (i : Int) (h_2 : Heap), J m i h_2 →
 Br (decide (i < ((an : Nat) : Int)))
  (∃ J_1 : Nat → Int → Int → Heap → Prop, (∃ m_2, J_1 m_2 0 0 h_2) ∧
 ∀ (m_2 : Nat) (carry : Int) (k : Int) (h_3 : Heap), J_1 m_2 carry k h_3 →
 Br (decide (k < ((bn : Nat) : Int)))
  (CallsU Tryz.prog 170 [Value.slice aA an ac, Value.int .i64 i] h_3 fun v h_4 =>
 ∃ t30 : Int, v = Value.int .u64 t30 ∧
 CallsU Tryz.prog 170 [Value.slice bA bn bc, Value.int .i64 k] h_4 fun v_1 h_5 =>
 ∃ t33 : Int, v_1 = Value.int .u64 t33 ∧
 ∀ t34 : Int, t34 = IntKind.u64.wrap (t30 * t33) →
 ∀ t38 : Int, t38 = IntKind.i64.wrap (i + k) →
 CallsU Tryz.prog 170 [Value.slice (some ⟨g, 0, none⟩) (Int.toNat t14) (Int.toNat t14), Value.int .i64 t38] h_5 fun v_2 h_6 =>
 ∃ t39 : Int, v_2 = Value.int .u64 t39 ∧
 ∀ t40 : Int, t40 = IntKind.u64.wrap (t34 + t39) →
 ∀ t42 : Int, t42 = IntKind.u64.wrap (t40 + carry) →
 ∀ t46 : Int, t46 = IntKind.i64.wrap (i + k) →
 ∀ t48 : Int, t48 = (Int.tmod t42 4294967296) →
 ∃ ad : Addr, some ⟨g, 0, none⟩ = some ad ∧ 0 ≤ t46 ∧ t46 < (((Int.toNat t14) : Nat) : Int) ∧
 ∃ b : Blk, h_6 (Addr.block (Addr.add ad (Int.toNat t46 * 1))) = some b ∧ b.fz = (0, 0) ∧ Addr.spot (Addr.add ad (Int.toNat t46 * 1)) = none ∧ Addr.off (Addr.add ad (Int.toNat t46 * 1)) + 1 ≤ b.cells.length ∧
 ∀ h_7 : Heap, h_7 = Heap.put h_6 (Addr.block (Addr.add ad (Int.toNat t46 * 1))) { b with cells := setSeg b.cells (Addr.off (Addr.add ad (Int.toNat t46 * 1))) [Value.int .u32 (IntKind.u32.wrap t48)] } →
 ∀ t52 : Int, t52 = IntKind.u64.wrap (Int.tdiv t42 4294967296) →
 ∀ t27 : Int, t27 = IntKind.i64.wrap (k + 1) →
 ∃ m_3, m_3 < m_2 ∧ J_1 m_3 t52 t27 h_7)
  (∀ t57 : Int, t57 = IntKind.i64.wrap (i + ((bn : Nat) : Int)) →
 ∃ ad_1 : Addr, some ⟨g, 0, none⟩ = some ad_1 ∧ 0 ≤ t57 ∧ t57 < (((Int.toNat t14) : Nat) : Int) ∧
 ∃ b_1 : Blk, h_3 (Addr.block (Addr.add ad_1 (Int.toNat t57 * 1))) = some b_1 ∧ b_1.fz = (0, 0) ∧ Addr.spot (Addr.add ad_1 (Int.toNat t57 * 1)) = none ∧ Addr.off (Addr.add ad_1 (Int.toNat t57 * 1)) + 1 ≤ b_1.cells.length ∧
 ∀ h_8 : Heap, h_8 = Heap.put h_3 (Addr.block (Addr.add ad_1 (Int.toNat t57 * 1))) { b_1 with cells := setSeg b_1.cells (Addr.off (Addr.add ad_1 (Int.toNat t57 * 1))) [Value.int .u32 (IntKind.u32.wrap carry)] } →
 ∀ t21 : Int, t21 = IntKind.i64.wrap (i + 1) →
 ∃ m_1, m_1 < m ∧ J m_1 t21 h_8))
  (CallsU Tryz.prog 127 [Value.slice (some ⟨g, 0, none⟩) (Int.toNat t14) (Int.toNat t14)] h_2 fun v_3 h_9 =>
 ∃ t62A : Option Addr, ∃ t62n t62c : Nat, v_3 = Value.slice t62A t62n t62c ∧
 R (Value.slice t62A t62n t62c) h_9)

set_option maxRecDepth 100000 in
theorem ref01_Mul_ok {aA : Option Addr} {an ac : Nat} {bA : Option Addr} {bn bc : Nat} {h : Heap} {R : Value → Heap → Prop} (hv : ref01_Mul_vc aA an ac bA bn bc h R) : CallsU Tryz.prog 126 [Value.slice aA an ac, Value.slice bA bn bc] h R :=
  fn_sound Tryz.func126 (by kernel_rfl) (by kernel_rfl) (by kernel_rfl) (fun _ => false) (.two .nil (.two .nil (.two (.two .nil (.one (.loop ⟨[(6, Sh.int .i64)], []⟩ (.two .nil (.two (.one (.two .nil (.two (.two .nil (.one (.loop ⟨[(7, Sh.int .u64), (8, Sh.int .i64)], []⟩ .nil))) .nil))) .nil))))) .nil))) [Value.slice aA an ac, Value.slice bA bn bc] h R (by kernel_rfl)
    (Eq.mp (show ref01_Mul_vc aA an ac bA bn bc h R = fnV Tryz.prog Tryz.f126 (fun _ => false) (.two .nil (.two .nil (.two (.two .nil (.one (.loop ⟨[(6, Sh.int .i64)], []⟩ (.two .nil (.two (.one (.two .nil (.two (.two .nil (.one (.loop ⟨[(7, Sh.int .u64), (8, Sh.int .i64)], []⟩ .nil))) .nil))) .nil))))) .nil))) [Value.slice aA an ac, Value.slice bA bn bc] h R by kernel_rfl) hv)

def ref01_Norm_vc (aA : Option Addr) (an ac : Nat) (h : Heap) (R : Value → Heap → Prop) : Prop :=
 ∃ J : Nat → Int → Heap → Prop, (∃ m, J m ((an : Nat) : Int) h) ∧
 ∀ (m : Nat) (n : Int) (h_1 : Heap), J m n h_1 →
 Br (decide (n > 0))
  (∀ t12 : Int, t12 = IntKind.i64.wrap (n - 1) →
 ∃ ad : Addr, aA = some ad ∧ 0 ≤ t12 ∧ t12 < ((an : Nat) : Int) ∧
 ∃ t14 : Int, LdN h_1 (Addr.add ad (Int.toNat t12 * 1)) [Value.int .u32 t14] ∧
 Br ((t14 : Int) == 0)
  (∀ t18 : Int, t18 = IntKind.i64.wrap (n - 1) →
 ∃ m_1, m_1 < m ∧ J m_1 t18 h_1)
  (((0 : Nat) : Int) ≤ n ∧ n ≤ ((ac : Nat) : Int) ∧
 ∃ xs : List Value, RdS h_1 aA ((Int.toNat n) * 1) xs ∧ (∀ x ∈ xs, Go.Vcg.one x = true) ∧
 (0 + (Int.toNat n) ≤ 0 → Br (decide ((Int.toNat n) * 1 = 0)) (R (Value.slice none (0 + (Int.toNat n)) 0) h_1)
 (∃ (ad_1 : Addr) (b : Blk), none = some ad_1 ∧ ad_1.spot = none ∧ h_1 ad_1.block = some b ∧ b.fz = (0, 0) ∧ ad_1.off + 0 * 1 + (Int.toNat n) * 1 ≤ b.cells.length ∧
 ∀ h_3 : Heap, h_3 = Heap.put h_1 ad_1.block { b with cells := setSeg b.cells (ad_1.off + 0 * 1) xs } →
 R (Value.slice none (0 + (Int.toNat n)) 0) h_3)) ∧
 (0 < 0 + (Int.toNat n) → ∃ olds : List Value, RdS h_1 none (0 * 1) olds ∧ (0 + (Int.toNat n)) * 4 ≤ 140737488355328 ∧
 ∀ (g cap : Nat) (h_4 : Heap), h_1 g = none → 0 + (Int.toNat n) ≤ cap → h_4 = Heap.put h_1 g ⟨olds ++ xs ++ repV [Value.int .u32 0] (cap - (0 + (Int.toNat n))), 104, (0, 0)⟩ →
 R (Value.slice (some ⟨g, 0, none⟩) (0 + (Int.toNat n)) cap) h_4)))
  (((0 : Nat) : Int) ≤ n ∧ n ≤ ((ac : Nat) : Int) ∧
 ∃ xs_1 : List Value, RdS h_1 aA ((Int.toNat n) * 1) xs_1 ∧ (∀ x ∈ xs_1, Go.Vcg.one x = true) ∧
 (0 + (Int.toNat n) ≤ 0 → Br (decide ((Int.toNat n) * 1 = 0)) (R (Value.slice none (0 + (Int.toNat n)) 0) h_1)
 (∃ (ad_2 : Addr) (b_1 : Blk), none = some ad_2 ∧ ad_2.spot = none ∧ h_1 ad_2.block = some b_1 ∧ b_1.fz = (0, 0) ∧ ad_2.off + 0 * 1 + (Int.toNat n) * 1 ≤ b_1.cells.length ∧
 ∀ h_6 : Heap, h_6 = Heap.put h_1 ad_2.block { b_1 with cells := setSeg b_1.cells (ad_2.off + 0 * 1) xs_1 } →
 R (Value.slice none (0 + (Int.toNat n)) 0) h_6)) ∧
 (0 < 0 + (Int.toNat n) → ∃ olds_1 : List Value, RdS h_1 none (0 * 1) olds_1 ∧ (0 + (Int.toNat n)) * 4 ≤ 140737488355328 ∧
 ∀ (g_1 cap_1 : Nat) (h_7 : Heap), h_1 g_1 = none → 0 + (Int.toNat n) ≤ cap_1 → h_7 = Heap.put h_1 g_1 ⟨olds_1 ++ xs_1 ++ repV [Value.int .u32 0] (cap_1 - (0 + (Int.toNat n))), 104, (0, 0)⟩ →
 R (Value.slice (some ⟨g_1, 0, none⟩) (0 + (Int.toNat n)) cap_1) h_7))

set_option maxRecDepth 100000 in
theorem ref01_Norm_ok {aA : Option Addr} {an ac : Nat} {h : Heap} {R : Value → Heap → Prop} (hv : ref01_Norm_vc aA an ac h R) : CallsU Tryz.prog 127 [Value.slice aA an ac] h R :=
  fn_sound Tryz.func127 (by kernel_rfl) (by kernel_rfl) (by kernel_rfl) (fun _ => false) (.two .nil (.two .nil (.two (.one (.loop ⟨[(3, Sh.int .i64)], []⟩ .nil)) .nil))) [Value.slice aA an ac] h R (by kernel_rfl)
    (Eq.mp (show ref01_Norm_vc aA an ac h R = fnV Tryz.prog Tryz.f127 (fun _ => false) (.two .nil (.two .nil (.two (.one (.loop ⟨[(3, Sh.int .i64)], []⟩ .nil)) .nil))) [Value.slice aA an ac] h R by kernel_rfl) hv)

def ref01_Of_vc (n : Int) (h : Heap) (R : Value → Heap → Prop) : Prop :=
 ∃ J : Nat → Int → Option Addr → Nat → Nat → Heap → Prop, (∃ m, J m n none 0 0 h) ∧
 ∀ (m : Nat) (n_1 : Int) (outA : Option Addr) (outn outc : Nat) (h_1 : Heap), J m n_1 outA outn outc h_1 →
 Br (decide (n_1 > 0))
  (∀ t8 : Int, t8 = (Int.tmod n_1 4294967296) →
 ∀ (g : Nat) (h_2 : Heap), h_1 g = none → h_2 = Heap.put h_1 g ⟨[Value.int .u32 (IntKind.u32.wrap t8)], 104, (0, 0)⟩ →
 ∃ xs : List Value, RdS h_2 (some ⟨g, 0, none⟩) (1 * 1) xs ∧ (∀ x ∈ xs, Go.Vcg.one x = true) ∧
 (outn + 1 ≤ outc → ∃ (ad : Addr) (b : Blk), outA = some ad ∧ ad.spot = none ∧ h_2 ad.block = some b ∧ b.fz = (0, 0) ∧ ad.off + outn * 1 + 1 * 1 ≤ b.cells.length ∧
 ∀ h_4 : Heap, h_4 = Heap.put h_2 ad.block { b with cells := setSeg b.cells (ad.off + outn * 1) xs } →
 ∀ t13 : Int, t13 = IntKind.u64.wrap (Int.tdiv n_1 4294967296) →
 ∃ m_1, m_1 < m ∧ J m_1 t13 outA (outn + 1) outc h_4) ∧
 (outc < outn + 1 → ∃ olds : List Value, RdS h_2 outA (outn * 1) olds ∧ (outn + 1) * 4 ≤ 140737488355328 ∧
 ∀ (g_1 cap : Nat) (h_5 : Heap), h_2 g_1 = none → outn + 1 ≤ cap → h_5 = Heap.put h_2 g_1 ⟨olds ++ xs ++ repV [Value.int .u32 0] (cap - (outn + 1)), 104, (0, 0)⟩ →
 ∀ t13_1 : Int, t13_1 = IntKind.u64.wrap (Int.tdiv n_1 4294967296) →
 ∃ m_1, m_1 < m ∧ J m_1 t13_1 (some ⟨g_1, 0, none⟩) (outn + 1) cap h_5))
  (R (Value.slice outA outn outc) h_1)

set_option maxRecDepth 100000 in
theorem ref01_Of_ok {n : Int} {h : Heap} {R : Value → Heap → Prop} (hv : ref01_Of_vc n h R) : CallsU Tryz.prog 128 [Value.int .u64 n] h R :=
  fn_sound Tryz.func128 (by kernel_rfl) (by kernel_rfl) (by kernel_rfl) (fun _ => false) (.two .nil (.two .nil (.two (.one (.loop ⟨[(0, Sh.int .u64), (3, Sh.slice)], []⟩ .nil)) .nil))) [Value.int .u64 n] h R (by kernel_rfl)
    (Eq.mp (show ref01_Of_vc n h R = fnV Tryz.prog Tryz.f128 (fun _ => false) (.two .nil (.two .nil (.two (.one (.loop ⟨[(0, Sh.int .u64), (3, Sh.slice)], []⟩ .nil)) .nil))) [Value.int .u64 n] h R by kernel_rfl) hv)

def ref01_Gcd_vc (aA : Option Addr) (an ac : Nat) (bA : Option Addr) (bn bc : Nat) (h : Heap) (R : Value → Heap → Prop) : Prop :=
 CallsU Tryz.prog 127 [Value.slice aA an ac] h fun v h_1 =>
 ∃ t11A : Option Addr, ∃ t11n t11c : Nat, v = Value.slice t11A t11n t11c ∧
 CallsU Tryz.prog 127 [Value.slice bA bn bc] h_1 fun v_1 h_2 =>
 ∃ t13A : Option Addr, ∃ t13n t13c : Nat, v_1 = Value.slice t13A t13n t13c ∧
 ∃ J : Nat → Option Addr → Nat → Nat → Option Addr → Nat → Nat → Heap → Prop, (∃ m, J m t11A t11n t11c t13A t13n t13c h_2) ∧
 ∀ (m : Nat) (xA : Option Addr) (xn xc : Nat) (yA : Option Addr) (yn yc : Nat) (h_3 : Heap), J m xA xn xc yA yn yc h_3 →
 Br (decide (((yn : Nat) : Int) > 0))
  (CallsU Tryz.prog 130 [Value.slice xA xn xc, Value.slice yA yn yc] h_3 fun v_2 h_4 =>
 ∃ t20_0A : Option Addr, ∃ t20_0n t20_0c : Nat, ∃ t20_1A : Option Addr, ∃ t20_1n t20_1c : Nat, ∃ t20_2 : Bool, v_2 = Value.tuple #[Value.slice t20_0A t20_0n t20_0c, Value.slice t20_1A t20_1n t20_1c, Value.bool t20_2] ∧
 ∃ m_1, m_1 < m ∧ J m_1 yA yn yc t20_1A t20_1n t20_1c h_4)
  (R (Value.slice xA xn xc) h_3)

set_option maxRecDepth 100000 in
theorem ref01_Gcd_ok {aA : Option Addr} {an ac : Nat} {bA : Option Addr} {bn bc : Nat} {h : Heap} {R : Value → Heap → Prop} (hv : ref01_Gcd_vc aA an ac bA bn bc h R) : CallsU Tryz.prog 129 [Value.slice aA an ac, Value.slice bA bn bc] h R :=
  fn_sound Tryz.func129 (by kernel_rfl) (by kernel_rfl) (by kernel_rfl) (fun _ => false) (.two .nil (.two .nil (.two (.one (.loop ⟨[(5, Sh.slice), (6, Sh.slice)], []⟩ .nil)) .nil))) [Value.slice aA an ac, Value.slice bA bn bc] h R (by kernel_rfl)
    (Eq.mp (show ref01_Gcd_vc aA an ac bA bn bc h R = fnV Tryz.prog Tryz.f129 (fun _ => false) (.two .nil (.two .nil (.two (.one (.loop ⟨[(5, Sh.slice), (6, Sh.slice)], []⟩ .nil)) .nil))) [Value.slice aA an ac, Value.slice bA bn bc] h R by kernel_rfl) hv)

def ref01_DivMod_vc (aA : Option Addr) (an ac : Nat) (bA : Option Addr) (bn bc : Nat) (h : Heap) (R : Value → Heap → Prop) : Prop :=
 CallsU Tryz.prog 171 [Value.slice bA bn bc] h fun v h_1 =>
 ∃ t15 : Int, v = Value.int .i64 t15 ∧
 Br ((t15 : Int) == 0)
  (R (Value.tuple #[Value.slice none 0 0, Value.slice none 0 0, Value.bool false]) h_1)
  (CallsU Tryz.prog 127 [Value.slice aA an ac] h_1 fun v_1 h_2 =>
 ∃ t18A : Option Addr, ∃ t18n t18c : Nat, v_1 = Value.slice t18A t18n t18c ∧
 CallsU Tryz.prog 171 [Value.slice t18A t18n t18c] h_2 fun v_2 h_3 =>
 ∃ t20 : Int, v_2 = Value.int .i64 t20 ∧
 CallsU Tryz.prog 171 [Value.slice bA bn bc] h_3 fun v_3 h_4 =>
 ∃ t22 : Int, v_3 = Value.int .i64 t22 ∧
 ∀ t23 : Int, t23 = IntKind.i64.wrap (t20 - t22) →
 Br (decide (t23 < 0))
  (R (Value.tuple #[Value.slice none 0 0, Value.slice t18A t18n t18c, Value.bool true]) h_4)
  (∀ t28 : Int, t28 = IntKind.i64.wrap (Int.tdiv t23 32) →
 ∀ t29 : Int, t29 = IntKind.i64.wrap (t28 + 1) →
 0 ≤ t29 ∧ t29 ≤ t29 ∧ t29 * 4 ≤ 140737488355328 ∧ t29 ≤ 9223372036854775807 ∧
 ∀ (g : Nat) (h_5 : Heap), h_4 g = none → h_5 = Heap.put h_4 g ⟨repV [Value.int .u32 0] (Int.toNat t29), 104, (0, 0)⟩ →
 CallsU Tryz.prog 172 [Value.slice bA bn bc, Value.int .i64 t23] h_5 fun v_4 h_6 =>
 ∃ t33A : Option Addr, ∃ t33n t33c : Nat, v_4 = Value.slice t33A t33n t33c ∧
 ∃ J : Nat → Option Addr → Nat → Nat → Option Addr → Nat → Nat → Int → Heap → Prop, (∃ m, J m t18A t18n t18c t33A t33n t33c t23 h_6) ∧
 ∀ (m : Nat) (restA : Option Addr) (restn restc : Nat) (partA : Option Addr) (partn partc : Nat) (k : Int) (h_7 : Heap), J m restA restn restc partA partn partc k h_7 →
 Br (decide (k ≥ 0))
  (CallsU Tryz.prog 173 [Value.slice restA restn restc, Value.slice partA partn partc] h_7 fun v_5 h_8 =>
 ∃ t42_0A : Option Addr, ∃ t42_0n t42_0c : Nat, ∃ t42_1 : Bool, v_5 = Value.tuple #[Value.slice t42_0A t42_0n t42_0c, Value.bool t42_1] ∧
 Br (t42_1)
  (∀ t49 : Int, t49 = IntKind.i64.wrap (Int.tdiv k 32) →
 ∀ t52 : Int, t52 = IntKind.i64.wrap (Int.tdiv k 32) →
 ∃ ad : Addr, some ⟨g, 0, none⟩ = some ad ∧ 0 ≤ t52 ∧ t52 < (((Int.toNat t29) : Nat) : Int) ∧
 ∃ t54 : Int, LdN h_8 (Addr.add ad (Int.toNat t52 * 1)) [Value.int .u32 t54] ∧
 ∀ t56 : Int, t56 = (Int.tmod k 32) →
 Br (decide (IntKind.u64.wrap t56 < 0)) False
  (∀ t58 : Int, t58 = IntKind.u32.wrap (1 * 2 ^ (min (Int.toNat (IntKind.u64.wrap t56)) 32 : Nat)) →
 ∀ t59 : Int, t59 = IntKind.u32.wrap (t54 + t58) →
 ∃ ad_1 : Addr, some ⟨g, 0, none⟩ = some ad_1 ∧ 0 ≤ t49 ∧ t49 < (((Int.toNat t29) : Nat) : Int) ∧
 ∃ b : Blk, h_8 (Addr.block (Addr.add ad_1 (Int.toNat t49 * 1))) = some b ∧ b.fz = (0, 0) ∧ Addr.spot (Addr.add ad_1 (Int.toNat t49 * 1)) = none ∧ Addr.off (Addr.add ad_1 (Int.toNat t49 * 1)) + 1 ≤ b.cells.length ∧
 ∀ h_9 : Heap, h_9 = Heap.put h_8 (Addr.block (Addr.add ad_1 (Int.toNat t49 * 1))) { b with cells := setSeg b.cells (Addr.off (Addr.add ad_1 (Int.toNat t49 * 1))) [Value.int .u32 t59] } →
 CallsU Tryz.prog 174 [Value.slice partA partn partc] h_9 fun v_6 h_10 =>
 ∃ t62A : Option Addr, ∃ t62n t62c : Nat, v_6 = Value.slice t62A t62n t62c ∧
 ∀ t38 : Int, t38 = IntKind.i64.wrap (k - 1) →
 ∃ m_1, m_1 < m ∧ J m_1 t42_0A t42_0n t42_0c t62A t62n t62c t38 h_10))
  (CallsU Tryz.prog 174 [Value.slice partA partn partc] h_8 fun v_7 h_11 =>
 ∃ t62A_1 : Option Addr, ∃ t62n_1 t62c_1 : Nat, v_7 = Value.slice t62A_1 t62n_1 t62c_1 ∧
 ∀ t38_1 : Int, t38_1 = IntKind.i64.wrap (k - 1) →
 ∃ m_1, m_1 < m ∧ J m_1 restA restn restc t62A_1 t62n_1 t62c_1 t38_1 h_11))
  (CallsU Tryz.prog 127 [Value.slice (some ⟨g, 0, none⟩) (Int.toNat t29) (Int.toNat t29)] h_7 fun v_8 h_12 =>
 ∃ t64A : Option Addr, ∃ t64n t64c : Nat, v_8 = Value.slice t64A t64n t64c ∧
 R (Value.tuple #[Value.slice t64A t64n t64c, Value.slice restA restn restc, Value.bool true]) h_12)))

set_option maxRecDepth 100000 in
theorem ref01_DivMod_ok {aA : Option Addr} {an ac : Nat} {bA : Option Addr} {bn bc : Nat} {h : Heap} {R : Value → Heap → Prop} (hv : ref01_DivMod_vc aA an ac bA bn bc h R) : CallsU Tryz.prog 130 [Value.slice aA an ac, Value.slice bA bn bc] h R :=
  fn_sound Tryz.func130 (by kernel_rfl) (by kernel_rfl) (by kernel_rfl) (fun _ => false) (.two .nil (.two .nil (.two .nil (.two .nil (.two .nil (.two .nil (.two .nil (.two (.two .nil (.one (.loop ⟨[(7, Sh.slice), (10, Sh.slice), (11, Sh.int .i64)], []⟩ .nil))) .nil)))))))) [Value.slice aA an ac, Value.slice bA bn bc] h R (by kernel_rfl)
    (Eq.mp (show ref01_DivMod_vc aA an ac bA bn bc h R = fnV Tryz.prog Tryz.f130 (fun _ => false) (.two .nil (.two .nil (.two .nil (.two .nil (.two .nil (.two .nil (.two .nil (.two (.two .nil (.one (.loop ⟨[(7, Sh.slice), (10, Sh.slice), (11, Sh.int .i64)], []⟩ .nil))) .nil)))))))) [Value.slice aA an ac, Value.slice bA bn bc] h R by kernel_rfl) hv)

def ref03_Mul_vc (a_0 : Bool) (a_1A : Option Addr) (a_1n a_1c : Nat) (a_2A : Option Addr) (a_2n a_2c : Nat) (b_0 : Bool) (b_1A : Option Addr) (b_1n b_1c : Nat) (b_2A : Option Addr) (b_2n b_2c : Nat) (h : Heap) (R : Value → Heap → Prop) : Prop :=
 CallsU Tryz.prog 48 [Value.agg #[Value.bool a_0, Value.slice a_1A a_1n a_1c, Value.slice a_2A a_2n a_2c]] h fun v h_1 =>
 ∃ t8_0 : Bool, ∃ t8_1A : Option Addr, ∃ t8_1n t8_1c : Nat, ∃ t8_2A : Option Addr, ∃ t8_2n t8_2c : Nat, v = Value.agg #[Value.bool t8_0, Value.slice t8_1A t8_1n t8_1c, Value.slice t8_2A t8_2n t8_2c] ∧
 LeH h h_1 ∧
 CallsU Tryz.prog 48 [Value.agg #[Value.bool b_0, Value.slice b_1A b_1n b_1c, Value.slice b_2A b_2n b_2c]] h_1 fun v_1 h_2 =>
 ∃ t10_0 : Bool, ∃ t10_1A : Option Addr, ∃ t10_1n t10_1c : Nat, ∃ t10_2A : Option Addr, ∃ t10_2n t10_2c : Nat, v_1 = Value.agg #[Value.bool t10_0, Value.slice t10_1A t10_1n t10_1c, Value.slice t10_2A t10_2n t10_2c] ∧
 CallsU Tryz.prog 126 [Value.slice t8_1A t8_1n t8_1c, Value.slice t10_1A t10_1n t10_1c] h_2 fun v_2 h_3 =>
 ∃ t24A : Option Addr, ∃ t24n t24c : Nat, v_2 = Value.slice t24A t24n t24c ∧
 LeH h_2 h_3 ∧
 CallsU Tryz.prog 126 [Value.slice t8_2A t8_2n t8_2c, Value.slice t10_2A t10_2n t10_2c] h_3 fun v_3 h_4 =>
 ∃ t29A : Option Addr, ∃ t29n t29c : Nat, v_3 = Value.slice t29A t29n t29c ∧
 LeH h_3 h_4 ∧
 CallsU Tryz.prog 79 [Value.bool (!(t8_0 == t10_0)), Value.slice t24A t24n t24c, Value.slice t29A t29n t29c] h_4 fun v_4 h_5 =>
 ∃ t30_0 : Bool, ∃ t30_1A : Option Addr, ∃ t30_1n t30_1c : Nat, ∃ t30_2A : Option Addr, ∃ t30_2n t30_2c : Nat, v_4 = Value.agg #[Value.bool t30_0, Value.slice t30_1A t30_1n t30_1c, Value.slice t30_2A t30_2n t30_2c] ∧
 R (Value.agg #[Value.bool t30_0, Value.slice t30_1A t30_1n t30_1c, Value.slice t30_2A t30_2n t30_2c]) h_5

set_option maxRecDepth 100000 in
theorem ref03_Mul_ok {a_0 : Bool} {a_1A : Option Addr} {a_1n a_1c : Nat} {a_2A : Option Addr} {a_2n a_2c : Nat} {b_0 : Bool} {b_1A : Option Addr} {b_1n b_1c : Nat} {b_2A : Option Addr} {b_2n b_2c : Nat} {h : Heap} {R : Value → Heap → Prop} (hv : ref03_Mul_vc a_0 a_1A a_1n a_1c a_2A a_2n a_2c b_0 b_1A b_1n b_1c b_2A b_2n b_2c h R) : CallsU Tryz.prog 137 [Value.agg #[Value.bool a_0, Value.slice a_1A a_1n a_1c, Value.slice a_2A a_2n a_2c], Value.agg #[Value.bool b_0, Value.slice b_1A b_1n b_1c, Value.slice b_2A b_2n b_2c]] h R :=
  fn_sound Tryz.func137 (by kernel_rfl) (by kernel_rfl) (by kernel_rfl) (fun _ => false) (.two .nil (.two (.ord [0, 2, 1, 3, 4, 5, 6, 7]) (.two (.ord [0, 1, 2, 3, 4, 5, 6, 7, 8, 9, 10, 11, 12, 14, 15, 16, 17, 13, 18, 19, 20]) .nil))) [Value.agg #[Value.bool a_0, Value.slice a_1A a_1n a_1c, Value.slice a_2A a_2n a_2c], Value.agg #[Value.bool b_0, Value.slice b_1A b_1n b_1c, Value.slice b_2A b_2n b_2c]] h R (by kernel_rfl)
    (Eq.mp (show ref03_Mul_vc a_0 a_1A a_1n a_1c a_2A a_2n a_2c b_0 b_1A b_1n b_1c b_2A b_2n b_2c h R = fnV Tryz.prog Tryz.f137 (fun _ => false) (.two .nil (.two (.ord [0, 2, 1, 3, 4, 5, 6, 7]) (.two (.ord [0, 1, 2, 3, 4, 5, 6, 7, 8, 9, 10, 11, 12, 14, 15, 16, 17, 13, 18, 19, 20]) .nil))) [Value.agg #[Value.bool a_0, Value.slice a_1A a_1n a_1c, Value.slice a_2A a_2n a_2c], Value.agg #[Value.bool b_0, Value.slice b_1A b_1n b_1c, Value.slice b_2A b_2n b_2c]] h R by kernel_rfl) hv)

def ref02_Small_vc (a_0 : Bool) (a_1A : Option Addr) (a_1n a_1c : Nat) (h : Heap) (R : Value → Heap → Prop) : Prop :=
 CallsU Tryz.prog 123 [Value.agg #[Value.bool a_0, Value.slice a_1A a_1n a_1c]] h fun v h_1 =>
 ∃ t8_0 : Bool, ∃ t8_1A : Option Addr, ∃ t8_1n t8_1c : Nat, v = Value.agg #[Value.bool t8_0, Value.slice t8_1A t8_1n t8_1c] ∧
 Br (decide (((t8_1n : Nat) : Int) > 2))
  (R (Value.tuple #[Value.int .i64 0, Value.bool false]) h_1)
  (∀ t16 : Int, t16 = IntKind.i64.wrap (((t8_1n : Nat) : Int) - 1) →
 ∃ J : Nat → Int → Int → Heap → Prop, (∃ m, J m 0 t16 h_1) ∧
 ∀ (m : Nat) (n : Int) (i : Int) (h_2 : Heap), J m n i h_2 →
 Br (decide (i ≥ 0))
  (∀ t22 : Int, t22 = IntKind.u64.wrap (n * 4294967296) →
 ∃ ad : Addr, t8_1A = some ad ∧ 0 ≤ i ∧ i < ((t8_1n : Nat) : Int) ∧
 ∃ t27 : Int, LdN h_2 (Addr.add ad (Int.toNat i * 1)) [Value.int .u32 t27] ∧
 ∀ t29 : Int, t29 = IntKind.u64.wrap (t22 + (IntKind.u64.wrap t27)) →
 ∀ t20 : Int, t20 = IntKind.i64.wrap (i - 1) →
 ∃ m_1, m_1 < m ∧ J m_1 t29 t20 h_2)
  (∃ C : Heap → Prop, (∀  (h_3 : Heap), C h_3 →
 Br (!t8_0)
  (Br (decide (n ≤ 9223372036854775807))
  (R (Value.tuple #[Value.int .i64 (IntKind.i64.wrap n), Value.bool true]) h_3)
  (R (Value.tuple #[Value.int .i64 0, Value.bool false]) h_3))
  (R (Value.tuple #[Value.int .i64 0, Value.bool false]) h_3)) ∧
 Br (t8_0)
  (Br (decide (n ≤ 9223372036854775808))
  (∀ t37 : Int, t37 = IntKind.u64.wrap (n - 1) →
 ∀ t39 : Int, t39 = IntKind.i64.wrap (0 - (IntKind.i64.wrap t37)) →
 ∀ t40 : Int, t40 = IntKind.i64.wrap (t39 - 1) →
 R (Value.tuple #[Value.int .i64 t40, Value.bool true]) h_2)
  (C h_2))
  (C h_2)))

set_option maxRecDepth 100000 in
theorem ref02_Small_ok {a_0 : Bool} {a_1A : Option Addr} {a_1n a_1c : Nat} {h : Heap} {R : Value → Heap → Prop} (hv : ref02_Small_vc a_0 a_1A a_1n a_1c h R) : CallsU Tryz.prog 138 [Value.agg #[Value.bool a_0, Value.slice a_1A a_1n a_1c]] h R :=
  fn_sound Tryz.func138 (by kernel_rfl) (by kernel_rfl) (by kernel_rfl) (fun _ => false) (.two .nil (.two .nil (.two .nil (.two .nil (.two (.two .nil (.one (.loop ⟨[(5, Sh.int .u64), (6, Sh.int .i64)], []⟩ .nil))) (.cut ⟨[], []⟩ .nil .nil)))))) [Value.agg #[Value.bool a_0, Value.slice a_1A a_1n a_1c]] h R (by kernel_rfl)
    (Eq.mp (show ref02_Small_vc a_0 a_1A a_1n a_1c h R = fnV Tryz.prog Tryz.f138 (fun _ => false) (.two .nil (.two .nil (.two .nil (.two .nil (.two (.two .nil (.one (.loop ⟨[(5, Sh.int .u64), (6, Sh.int .i64)], []⟩ .nil))) (.cut ⟨[], []⟩ .nil .nil)))))) [Value.agg #[Value.bool a_0, Value.slice a_1A a_1n a_1c]] h R by kernel_rfl) hv)

def ref02_Text_vc (a_0 : Bool) (a_1A : Option Addr) (a_1n a_1c : Nat) (h : Heap) (R : Value → Heap → Prop) : Prop :=
 CallsU Tryz.prog 123 [Value.agg #[Value.bool a_0, Value.slice a_1A a_1n a_1c]] h fun v h_1 =>
 ∃ t5_0 : Bool, ∃ t5_1A : Option Addr, ∃ t5_1n t5_1c : Nat, v = Value.agg #[Value.bool t5_0, Value.slice t5_1A t5_1n t5_1c] ∧
 Br (t5_0)
  (CallsU Tryz.prog 182 [Value.slice t5_1A t5_1n t5_1c] h_1 fun v_1 h_2 =>
 ∃ t10 : ByteArray, v_1 = Value.string t10 ∧
 (((⟨#[45]⟩ : ByteArray).size + t10.size : Nat) : Int) ≤ 9223372036854775807 ∧
 R (Value.string ((⟨#[45]⟩ : ByteArray) ++ t10)) h_2)
  (CallsU Tryz.prog 182 [Value.slice t5_1A t5_1n t5_1c] h_1 fun v_2 h_3 =>
 ∃ t14 : ByteArray, v_2 = Value.string t14 ∧
 R (Value.string t14) h_3)

set_option maxRecDepth 100000 in
theorem ref02_Text_ok {a_0 : Bool} {a_1A : Option Addr} {a_1n a_1c : Nat} {h : Heap} {R : Value → Heap → Prop} (hv : ref02_Text_vc a_0 a_1A a_1n a_1c h R) : CallsU Tryz.prog 139 [Value.agg #[Value.bool a_0, Value.slice a_1A a_1n a_1c]] h R :=
  fn_sound Tryz.func139 (by kernel_rfl) (by kernel_rfl) (by kernel_rfl) (fun _ => false) .nil [Value.agg #[Value.bool a_0, Value.slice a_1A a_1n a_1c]] h R (by kernel_rfl)
    (Eq.mp (show ref02_Text_vc a_0 a_1A a_1n a_1c h R = fnV Tryz.prog Tryz.f139 (fun _ => false) .nil [Value.agg #[Value.bool a_0, Value.slice a_1A a_1n a_1c]] h R by kernel_rfl) hv)

def ref17_rank_vc (kind : Int) (h : Heap) (R : Value → Heap → Prop) : Prop :=
 Br ((kind : Int) == 3)
  (Br ((kind : Int) == 3)
  (R (Value.int .i64 1) h)
  (Br ((kind : Int) == 5)
  (Br ((kind : Int) == 5)
  (R (Value.int .i64 2) h)
  (R (Value.int .i64 3) h))
  (Br ((kind : Int) == 6)
  (R (Value.int .i64 2) h)
  (R (Value.int .i64 3) h))))
  (Br ((kind : Int) == 4)
  (R (Value.int .i64 1) h)
  (Br ((kind : Int) == 5)
  (Br ((kind : Int) == 5)
  (R (Value.int .i64 2) h)
  (R (Value.int .i64 3) h))
  (Br ((kind : Int) == 6)
  (R (Value.int .i64 2) h)
  (R (Value.int .i64 3) h))))

set_option maxRecDepth 100000 in
theorem ref17_rank_ok {kind : Int} {h : Heap} {R : Value → Heap → Prop} (hv : ref17_rank_vc kind h R) : CallsU Tryz.prog 140 [Value.int .i64 kind] h R :=
  fn_sound Tryz.func140 (by kernel_rfl) (by kernel_rfl) (by kernel_rfl) (fun _ => false) .nil [Value.int .i64 kind] h R (by kernel_rfl)
    (Eq.mp (show ref17_rank_vc kind h R = fnV Tryz.prog Tryz.f140 (fun _ => false) .nil [Value.int .i64 kind] h R by kernel_rfl) hv)

def ref17_digit_vc (b : Int) (h : Heap) (R : Value → Heap → Prop) : Prop :=
 Br (decide (b ≥ 48))
  (R (Value.bool (decide (b ≤ 57))) h)
  (R (Value.bool false) h)

set_option maxRecDepth 100000 in
theorem ref17_digit_ok {b : Int} {h : Heap} {R : Value → Heap → Prop} (hv : ref17_digit_vc b h R) : CallsU Tryz.prog 156 [Value.int .u8 b] h R :=
  fn_sound Tryz.func156 (by kernel_rfl) (by kernel_rfl) (by kernel_rfl) (fun _ => false) .nil [Value.int .u8 b] h R (by kernel_rfl)
    (Eq.mp (show ref17_digit_vc b h R = fnV Tryz.prog Tryz.f156 (fun _ => false) .nil [Value.int .u8 b] h R by kernel_rfl) hv)

def ref01_limb_vc (aA : Option Addr) (an _ac : Nat) (i : Int) (h : Heap) (R : Value → Heap → Prop) : Prop :=
 Br (decide (i < 0))
  (R (Value.int .u64 0) h)
  (Br (decide (i ≥ ((an : Nat) : Int)))
  (R (Value.int .u64 0) h)
  (∃ ad : Addr, aA = some ad ∧ 0 ≤ i ∧ i < ((an : Nat) : Int) ∧
 ∃ t16 : Int, LdN h (Addr.add ad (Int.toNat i * 1)) [Value.int .u32 t16] ∧
 R (Value.int .u64 (IntKind.u64.wrap t16)) h))

set_option maxRecDepth 100000 in
theorem ref01_limb_ok {aA : Option Addr} {an ac : Nat} {i : Int} {h : Heap} {R : Value → Heap → Prop} (hv : ref01_limb_vc aA an ac i h R) : CallsU Tryz.prog 170 [Value.slice aA an ac, Value.int .i64 i] h R :=
  fn_sound Tryz.func170 (by kernel_rfl) (by kernel_rfl) (by kernel_rfl) (fun _ => false) .nil [Value.slice aA an ac, Value.int .i64 i] h R (by kernel_rfl)
    (Eq.mp (show ref01_limb_vc aA an ac i h R = fnV Tryz.prog Tryz.f170 (fun _ => false) .nil [Value.slice aA an ac, Value.int .i64 i] h R by kernel_rfl) hv)

def ref01_Bits_vc (aA : Option Addr) (an ac : Nat) (h : Heap) (R : Value → Heap → Prop) : Prop :=
 CallsU Tryz.prog 127 [Value.slice aA an ac] h fun v h_1 =>
 ∃ t7A : Option Addr, ∃ t7n t7c : Nat, v = Value.slice t7A t7n t7c ∧
 Br ((((t7n : Nat) : Int) : Int) == 0)
  (R (Value.int .i64 0) h_1)
  (∀ t13 : Int, t13 = IntKind.i64.wrap (((t7n : Nat) : Int) - 1) →
 ∀ t14 : Int, t14 = IntKind.i64.wrap (32 * t13) →
 ∀ t18 : Int, t18 = IntKind.i64.wrap (((t7n : Nat) : Int) - 1) →
 ∃ ad : Addr, t7A = some ad ∧ 0 ≤ t18 ∧ t18 < ((t7n : Nat) : Int) ∧
 ∃ t20 : Int, LdN h_1 (Addr.add ad (Int.toNat t18 * 1)) [Value.int .u32 t20] ∧
 ∃ J : Nat → Int → Int → Heap → Prop, (∃ m, J m t14 t20 h_1) ∧
 ∀ (m : Nat) (n : Int) (t : Int) (h_2 : Heap), J m n t h_2 →
 Br (decide (t > 0))
  (∀ t26 : Int, t26 = IntKind.i64.wrap (n + 1) →
 ∀ t24 : Int, t24 = IntKind.u32.wrap (Int.tdiv t 2) →
 ∃ m_1, m_1 < m ∧ J m_1 t26 t24 h_2)
  (R (Value.int .i64 n) h_2))

set_option maxRecDepth 100000 in
theorem ref01_Bits_ok {aA : Option Addr} {an ac : Nat} {h : Heap} {R : Value → Heap → Prop} (hv : ref01_Bits_vc aA an ac h R) : CallsU Tryz.prog 171 [Value.slice aA an ac] h R :=
  fn_sound Tryz.func171 (by kernel_rfl) (by kernel_rfl) (by kernel_rfl) (fun _ => false) (.two .nil (.two .nil (.two .nil (.two .nil (.two (.two .nil (.one (.loop ⟨[(4, Sh.int .i64), (5, Sh.int .u32)], []⟩ .nil))) .nil))))) [Value.slice aA an ac] h R (by kernel_rfl)
    (Eq.mp (show ref01_Bits_vc aA an ac h R = fnV Tryz.prog Tryz.f171 (fun _ => false) (.two .nil (.two .nil (.two .nil (.two .nil (.two (.two .nil (.one (.loop ⟨[(4, Sh.int .i64), (5, Sh.int .u32)], []⟩ .nil))) .nil))))) [Value.slice aA an ac] h R by kernel_rfl) hv)

def ref01_Shift_vc (aA : Option Addr) (an ac : Nat) (n : Int) (h : Heap) (R : Value → Heap → Prop) : Prop :=
 ∀ t10 : Int, t10 = IntKind.i64.wrap (Int.tdiv n 32) →
 0 ≤ t10 ∧ t10 ≤ t10 ∧ t10 * 4 ≤ 140737488355328 ∧ t10 ≤ 9223372036854775807 ∧
 ∀ (g : Nat) (h_1 : Heap), h g = none → h_1 = Heap.put h g ⟨repV [Value.int .u32 0] (Int.toNat t10), 104, (0, 0)⟩ →
 ∃ J : Nat → Option Addr → Nat → Nat → Int → Int → Heap → Prop, (∃ m, J m (some ⟨g, 0, none⟩) (Int.toNat t10) (Int.toNat t10) 0 0 h_1) ∧
 ∀ (m : Nat) (outA : Option Addr) (outn outc : Nat) (carry : Int) (i : Int) (h_2 : Heap), J m outA outn outc carry i h_2 →
 Br (decide (i ≤ ((an : Nat) : Int)))
  (CallsU Tryz.prog 170 [Value.slice aA an ac, Value.int .i64 i] h_2 fun v h_3 =>
 ∃ t20 : Int, v = Value.int .u64 t20 ∧
 ∀ t22 : Int, t22 = (Int.tmod n 32) →
 Br (decide (IntKind.u64.wrap t22 < 0)) False
  (∀ t24 : Int, t24 = IntKind.u64.wrap (t20 * 2 ^ (min (Int.toNat (IntKind.u64.wrap t22)) 64 : Nat)) →
 ∀ t26 : Int, t26 = IntKind.u64.wrap (t24 + carry) →
 ∀ t29 : Int, t29 = (Int.tmod t26 4294967296) →
 ∀ (g_1 : Nat) (h_4 : Heap), h_3 g_1 = none → h_4 = Heap.put h_3 g_1 ⟨[Value.int .u32 (IntKind.u32.wrap t29)], 104, (0, 0)⟩ →
 ∃ xs : List Value, RdS h_4 (some ⟨g_1, 0, none⟩) (1 * 1) xs ∧ (∀ x ∈ xs, Go.Vcg.one x = true) ∧
 (outn + 1 ≤ outc → ∃ (ad : Addr) (b : Blk), outA = some ad ∧ ad.spot = none ∧ h_4 ad.block = some b ∧ b.fz = (0, 0) ∧ ad.off + outn * 1 + 1 * 1 ≤ b.cells.length ∧
 ∀ h_6 : Heap, h_6 = Heap.put h_4 ad.block { b with cells := setSeg b.cells (ad.off + outn * 1) xs } →
 ∀ t34 : Int, t34 = IntKind.u64.wrap (Int.tdiv t26 4294967296) →
 ∀ t17 : Int, t17 = IntKind.i64.wrap (i + 1) →
 ∃ m_1, m_1 < m ∧ J m_1 outA (outn + 1) outc t34 t17 h_6) ∧
 (outc < outn + 1 → ∃ olds : List Value, RdS h_4 outA (outn * 1) olds ∧ (outn + 1) * 4 ≤ 140737488355328 ∧
 ∀ (g_2 cap : Nat) (h_7 : Heap), h_4 g_2 = none → outn + 1 ≤ cap → h_7 = Heap.put h_4 g_2 ⟨olds ++ xs ++ repV [Value.int .u32 0] (cap - (outn + 1)), 104, (0, 0)⟩ →
 ∀ t34_1 : Int, t34_1 = IntKind.u64.wrap (Int.tdiv t26 4294967296) →
 ∀ t17_1 : Int, t17_1 = IntKind.i64.wrap (i + 1) →
 ∃ m_1, m_1 < m ∧ J m_1 (some ⟨g_2, 0, none⟩) (outn + 1) cap t34_1 t17_1 h_7)))
  (CallsU Tryz.prog 127 [Value.slice outA outn outc] h_2 fun v_2 h_8 =>
 ∃ t36A : Option Addr, ∃ t36n t36c : Nat, v_2 = Value.slice t36A t36n t36c ∧
 R (Value.slice t36A t36n t36c) h_8)

set_option maxRecDepth 100000 in
theorem ref01_Shift_ok {aA : Option Addr} {an ac : Nat} {n : Int} {h : Heap} {R : Value → Heap → Prop} (hv : ref01_Shift_vc aA an ac n h R) : CallsU Tryz.prog 172 [Value.slice aA an ac, Value.int .i64 n] h R :=
  fn_sound Tryz.func172 (by kernel_rfl) (by kernel_rfl) (by kernel_rfl) (fun _ => false) (.two .nil (.two .nil (.two .nil (.two (.two .nil (.one (.loop ⟨[(5, Sh.slice), (6, Sh.int .u64), (7, Sh.int .i64)], []⟩ .nil))) .nil)))) [Value.slice aA an ac, Value.int .i64 n] h R (by kernel_rfl)
    (Eq.mp (show ref01_Shift_vc aA an ac n h R = fnV Tryz.prog Tryz.f172 (fun _ => false) (.two .nil (.two .nil (.two .nil (.two (.two .nil (.one (.loop ⟨[(5, Sh.slice), (6, Sh.int .u64), (7, Sh.int .i64)], []⟩ .nil))) .nil)))) [Value.slice aA an ac, Value.int .i64 n] h R by kernel_rfl) hv)

def ref01_Sub_vc (aA : Option Addr) (an ac : Nat) (bA : Option Addr) (bn bc : Nat) (h : Heap) (R : Value → Heap → Prop) : Prop :=
 CallsU Tryz.prog 124 [Value.slice aA an ac, Value.slice bA bn bc] h fun v h_1 =>
 ∃ t12 : Int, v = Value.int .i64 t12 ∧
 Br (decide (t12 < 0))
  (R (Value.tuple #[Value.slice none 0 0, Value.bool false]) h_1)
  (∃ J : Nat → Option Addr → Nat → Nat → Int → Int → Heap → Prop, (∃ m, J m none 0 0 0 0 h_1) ∧
 ∀ (m : Nat) (outA : Option Addr) (outn outc : Nat) (borrow : Int) (i : Int) (h_2 : Heap), J m outA outn outc borrow i h_2 →
 Br (decide (i < (if decide (((bn : Nat) : Int) > ((an : Nat) : Int)) then ((bn : Nat) : Int) else ((an : Nat) : Int))))
  (CallsU Tryz.prog 170 [Value.slice aA an ac, Value.int .i64 i] h_2 fun v_1 h_3 =>
 ∃ t25 : Int, v_1 = Value.int .u64 t25 ∧
 ∀ t26 : Int, t26 = IntKind.u64.wrap (4294967296 + t25) →
 CallsU Tryz.prog 170 [Value.slice bA bn bc, Value.int .i64 i] h_3 fun v_2 h_4 =>
 ∃ t29 : Int, v_2 = Value.int .u64 t29 ∧
 ∀ t30 : Int, t30 = IntKind.u64.wrap (t26 - t29) →
 ∀ t32 : Int, t32 = IntKind.u64.wrap (t30 - borrow) →
 ∀ t35 : Int, t35 = (Int.tmod t32 4294967296) →
 ∀ (g : Nat) (h_5 : Heap), h_4 g = none → h_5 = Heap.put h_4 g ⟨[Value.int .u32 (IntKind.u32.wrap t35)], 104, (0, 0)⟩ →
 ∃ xs : List Value, RdS h_5 (some ⟨g, 0, none⟩) (1 * 1) xs ∧ (∀ x ∈ xs, Go.Vcg.one x = true) ∧
 (outn + 1 ≤ outc → ∃ (ad : Addr) (b : Blk), outA = some ad ∧ ad.spot = none ∧ h_5 ad.block = some b ∧ b.fz = (0, 0) ∧ ad.off + outn * 1 + 1 * 1 ≤ b.cells.length ∧
 ∀ h_7 : Heap, h_7 = Heap.put h_5 ad.block { b with cells := setSeg b.cells (ad.off + outn * 1) xs } →
 ∀ t40 : Int, t40 = IntKind.u64.wrap (Int.tdiv t32 4294967296) →
 ∀ t41 : Int, t41 = IntKind.u64.wrap (1 - t40) →
 ∀ t22 : Int, t22 = IntKind.i64.wrap (i + 1) →
 ∃ m_1, m_1 < m ∧ J m_1 outA (outn + 1) outc t41 t22 h_7) ∧
 (outc < outn + 1 → ∃ olds : List Value, RdS h_5 outA (outn * 1) olds ∧ (outn + 1) * 4 ≤ 140737488355328 ∧
 ∀ (g_1 cap : Nat) (h_8 : Heap), h_5 g_1 = none → outn + 1 ≤ cap → h_8 = Heap.put h_5 g_1 ⟨olds ++ xs ++ repV [Value.int .u32 0] (cap - (outn + 1)), 104, (0, 0)⟩ →
 ∀ t40_1 : Int, t40_1 = IntKind.u64.wrap (Int.tdiv t32 4294967296) →
 ∀ t41_1 : Int, t41_1 = IntKind.u64.wrap (1 - t40_1) →
 ∀ t22_1 : Int, t22_1 = IntKind.i64.wrap (i + 1) →
 ∃ m_1, m_1 < m ∧ J m_1 (some ⟨g_1, 0, none⟩) (outn + 1) cap t41_1 t22_1 h_8))
  (CallsU Tryz.prog 127 [Value.slice outA outn outc] h_2 fun v_4 h_9 =>
 ∃ t43A : Option Addr, ∃ t43n t43c : Nat, v_4 = Value.slice t43A t43n t43c ∧
 R (Value.tuple #[Value.slice t43A t43n t43c, Value.bool true]) h_9))

set_option maxRecDepth 100000 in
theorem ref01_Sub_ok {aA : Option Addr} {an ac : Nat} {bA : Option Addr} {bn bc : Nat} {h : Heap} {R : Value → Heap → Prop} (hv : ref01_Sub_vc aA an ac bA bn bc h R) : CallsU Tryz.prog 173 [Value.slice aA an ac, Value.slice bA bn bc] h R :=
  fn_sound Tryz.func173 (by kernel_rfl) (by kernel_rfl) (by kernel_rfl) (fun _ => false) (.two .nil (.two .nil (.two .nil (.two .nil (.two (.two .nil (.one (.loop ⟨[(6, Sh.slice), (7, Sh.int .u64), (8, Sh.int .i64)], []⟩ .nil))) .nil))))) [Value.slice aA an ac, Value.slice bA bn bc] h R (by kernel_rfl)
    (Eq.mp (show ref01_Sub_vc aA an ac bA bn bc h R = fnV Tryz.prog Tryz.f173 (fun _ => false) (.two .nil (.two .nil (.two .nil (.two .nil (.two (.two .nil (.one (.loop ⟨[(6, Sh.slice), (7, Sh.int .u64), (8, Sh.int .i64)], []⟩ .nil))) .nil))))) [Value.slice aA an ac, Value.slice bA bn bc] h R by kernel_rfl) hv)

def ref01_Half_vc (aA : Option Addr) (an ac : Nat) (h : Heap) (R : Value → Heap → Prop) : Prop :=
 ∃ J : Nat → Option Addr → Nat → Nat → Int → Heap → Prop, (∃ m, J m none 0 0 0 h) ∧
 ∀ (m : Nat) (outA : Option Addr) (outn outc : Nat) (i : Int) (h_1 : Heap), J m outA outn outc i h_1 →
 Br (decide (i < ((an : Nat) : Int)))
  (CallsU Tryz.prog 170 [Value.slice aA an ac, Value.int .i64 i] h_1 fun v h_2 =>
 ∃ t14 : Int, v = Value.int .u64 t14 ∧
 ∀ t15 : Int, t15 = IntKind.u64.wrap (Int.tdiv t14 2) →
 ∀ t18 : Int, t18 = IntKind.i64.wrap (i + 1) →
 CallsU Tryz.prog 170 [Value.slice aA an ac, Value.int .i64 t18] h_2 fun v_1 h_3 =>
 ∃ t19 : Int, v_1 = Value.int .u64 t19 ∧
 ∀ t20 : Int, t20 = (Int.tmod t19 2) →
 ∀ t21 : Int, t21 = IntKind.u64.wrap (t20 * 2147483648) →
 ∀ t22 : Int, t22 = IntKind.u64.wrap (t15 + t21) →
 ∀ (g : Nat) (h_4 : Heap), h_3 g = none → h_4 = Heap.put h_3 g ⟨[Value.int .u32 (IntKind.u32.wrap t22)], 104, (0, 0)⟩ →
 ∃ xs : List Value, RdS h_4 (some ⟨g, 0, none⟩) (1 * 1) xs ∧ (∀ x ∈ xs, Go.Vcg.one x = true) ∧
 (outn + 1 ≤ outc → ∃ (ad : Addr) (b : Blk), outA = some ad ∧ ad.spot = none ∧ h_4 ad.block = some b ∧ b.fz = (0, 0) ∧ ad.off + outn * 1 + 1 * 1 ≤ b.cells.length ∧
 ∀ h_6 : Heap, h_6 = Heap.put h_4 ad.block { b with cells := setSeg b.cells (ad.off + outn * 1) xs } →
 ∀ t10 : Int, t10 = IntKind.i64.wrap (i + 1) →
 ∃ m_1, m_1 < m ∧ J m_1 outA (outn + 1) outc t10 h_6) ∧
 (outc < outn + 1 → ∃ olds : List Value, RdS h_4 outA (outn * 1) olds ∧ (outn + 1) * 4 ≤ 140737488355328 ∧
 ∀ (g_1 cap : Nat) (h_7 : Heap), h_4 g_1 = none → outn + 1 ≤ cap → h_7 = Heap.put h_4 g_1 ⟨olds ++ xs ++ repV [Value.int .u32 0] (cap - (outn + 1)), 104, (0, 0)⟩ →
 ∀ t10_1 : Int, t10_1 = IntKind.i64.wrap (i + 1) →
 ∃ m_1, m_1 < m ∧ J m_1 (some ⟨g_1, 0, none⟩) (outn + 1) cap t10_1 h_7))
  (CallsU Tryz.prog 127 [Value.slice outA outn outc] h_1 fun v_3 h_8 =>
 ∃ t27A : Option Addr, ∃ t27n t27c : Nat, v_3 = Value.slice t27A t27n t27c ∧
 R (Value.slice t27A t27n t27c) h_8)

set_option maxRecDepth 100000 in
theorem ref01_Half_ok {aA : Option Addr} {an ac : Nat} {h : Heap} {R : Value → Heap → Prop} (hv : ref01_Half_vc aA an ac h R) : CallsU Tryz.prog 174 [Value.slice aA an ac] h R :=
  fn_sound Tryz.func174 (by kernel_rfl) (by kernel_rfl) (by kernel_rfl) (fun _ => false) (.two .nil (.two .nil (.two (.two .nil (.one (.loop ⟨[(3, Sh.slice), (4, Sh.int .i64)], []⟩ .nil))) .nil))) [Value.slice aA an ac] h R (by kernel_rfl)
    (Eq.mp (show ref01_Half_vc aA an ac h R = fnV Tryz.prog Tryz.f174 (fun _ => false) (.two .nil (.two .nil (.two (.two .nil (.one (.loop ⟨[(3, Sh.slice), (4, Sh.int .i64)], []⟩ .nil))) .nil))) [Value.slice aA an ac] h R by kernel_rfl) hv)

def ref01_Text_vc (aA : Option Addr) (an ac : Nat) (h : Heap) (R : Value → Heap → Prop) : Prop :=
 CallsU Tryz.prog 127 [Value.slice aA an ac] h fun v h_1 =>
 ∃ t8A : Option Addr, ∃ t8n t8c : Nat, v = Value.slice t8A t8n t8c ∧
 ∃ J : Nat → ByteArray → Option Addr → Nat → Nat → Heap → Prop, (∃ m, J m (⟨#[]⟩ : ByteArray) t8A t8n t8c h_1) ∧
 ∀ (m : Nat) (s : ByteArray) (leftA : Option Addr) (leftn leftc : Nat) (h_2 : Heap), J m s leftA leftn leftc h_2 →
 Br (decide (((leftn : Nat) : Int) > 0))
  (CallsU Tryz.prog 199 [Value.slice leftA leftn leftc, Value.int .u64 10] h_2 fun v_1 h_3 =>
 ∃ t14_0A : Option Addr, ∃ t14_0n t14_0c : Nat, ∃ t14_1 : Int, v_1 = Value.tuple #[Value.slice t14_0A t14_0n t14_0c, Value.int .u64 t14_1] ∧
 ∀ t18 : Int, t18 = IntKind.u64.wrap (48 + t14_1) →
 ∀ (g : Nat) (h_4 : Heap), h_3 g = none → h_4 = Heap.put h_3 g ⟨[Value.int .u8 (IntKind.u8.wrap t18)], 5, (0, 0)⟩ →
 ∃ ns : List Int, RdS h_4 (some ⟨g, 0, none⟩) 1 (List.map (Value.int .u8) ns) ∧
 (((⟨(List.map (fun n => UInt8.ofNat (Int.toNat n)) ns).toArray⟩ : ByteArray).size + s.size : Nat) : Int) ≤ 9223372036854775807 ∧
 ∃ m_1, m_1 < m ∧ J m_1 ((⟨(List.map (fun n => UInt8.ofNat (Int.toNat n)) ns).toArray⟩ : ByteArray) ++ s) t14_0A t14_0n t14_0c h_4)
  (Br (s.toList == (⟨#[]⟩ : ByteArray).toList)
  (R (Value.string (⟨#[48]⟩ : ByteArray)) h_2)
  (R (Value.string s) h_2))

set_option maxRecDepth 100000 in
theorem ref01_Text_ok {aA : Option Addr} {an ac : Nat} {h : Heap} {R : Value → Heap → Prop} (hv : ref01_Text_vc aA an ac h R) : CallsU Tryz.prog 182 [Value.slice aA an ac] h R :=
  fn_sound Tryz.func182 (by kernel_rfl) (by kernel_rfl) (by kernel_rfl) (fun _ => false) (.two .nil (.two .nil (.two .nil (.two (.one (.loop ⟨[(3, Sh.str), (4, Sh.slice)], []⟩ .nil)) .nil)))) [Value.slice aA an ac] h R (by kernel_rfl)
    (Eq.mp (show ref01_Text_vc aA an ac h R = fnV Tryz.prog Tryz.f182 (fun _ => false) (.two .nil (.two .nil (.two .nil (.two (.one (.loop ⟨[(3, Sh.str), (4, Sh.slice)], []⟩ .nil)) .nil)))) [Value.slice aA an ac] h R by kernel_rfl) hv)

def ref01_small_vc (aA : Option Addr) (an ac : Nat) (d : Int) (h : Heap) (R : Value → Heap → Prop) : Prop :=
 0 ≤ ((an : Nat) : Int) ∧ ((an : Nat) : Int) ≤ ((an : Nat) : Int) ∧ ((an : Nat) : Int) * 4 ≤ 140737488355328 ∧ ((an : Nat) : Int) ≤ 9223372036854775807 ∧
 ∀ (g : Nat) (h_1 : Heap), h g = none → h_1 = Heap.put h g ⟨repV [Value.int .u32 0] (Int.toNat ((an : Nat) : Int)), 104, (0, 0)⟩ →
 ∀ t15 : Int, t15 = IntKind.i64.wrap (((an : Nat) : Int) - 1) →
 ∃ J : Nat → Int → Int → Heap → Prop, (∃ m, J m 0 t15 h_1) ∧
 ∀ (m : Nat) (rest : Int) (i : Int) (h_2 : Heap), J m rest i h_2 →
 Br (decide (i ≥ 0))
  (∀ t21 : Int, t21 = IntKind.u64.wrap (rest * 4294967296) →
 CallsU Tryz.prog 170 [Value.slice aA an ac, Value.int .i64 i] h_2 fun v h_3 =>
 ∃ t24 : Int, v = Value.int .u64 t24 ∧
 ∀ t25 : Int, t25 = IntKind.u64.wrap (t21 + t24) →
 Br (decide (d = 0)) False
  (∀ t30 : Int, t30 = IntKind.u64.wrap (Int.tdiv t25 d) →
 ∃ ad : Addr, some ⟨g, 0, none⟩ = some ad ∧ 0 ≤ i ∧ i < (((Int.toNat ((an : Nat) : Int)) : Nat) : Int) ∧
 ∃ b : Blk, h_3 (Addr.block (Addr.add ad (Int.toNat i * 1))) = some b ∧ b.fz = (0, 0) ∧ Addr.spot (Addr.add ad (Int.toNat i * 1)) = none ∧ Addr.off (Addr.add ad (Int.toNat i * 1)) + 1 ≤ b.cells.length ∧
 ∀ h_4 : Heap, h_4 = Heap.put h_3 (Addr.block (Addr.add ad (Int.toNat i * 1))) { b with cells := setSeg b.cells (Addr.off (Addr.add ad (Int.toNat i * 1))) [Value.int .u32 (IntKind.u32.wrap t30)] } →
 Br (decide (d = 0)) False
  (∀ t35 : Int, t35 = (Int.tmod t25 d) →
 ∀ t19 : Int, t19 = IntKind.i64.wrap (i - 1) →
 ∃ m_1, m_1 < m ∧ J m_1 t35 t19 h_4)))
  (CallsU Tryz.prog 127 [Value.slice (some ⟨g, 0, none⟩) (Int.toNat ((an : Nat) : Int)) (Int.toNat ((an : Nat) : Int))] h_2 fun v_1 h_5 =>
 ∃ t37A : Option Addr, ∃ t37n t37c : Nat, v_1 = Value.slice t37A t37n t37c ∧
 R (Value.tuple #[Value.slice t37A t37n t37c, Value.int .u64 rest]) h_5)

set_option maxRecDepth 100000 in
theorem ref01_small_ok {aA : Option Addr} {an ac : Nat} {d : Int} {h : Heap} {R : Value → Heap → Prop} (hv : ref01_small_vc aA an ac d h R) : CallsU Tryz.prog 199 [Value.slice aA an ac, Value.int .u64 d] h R :=
  fn_sound Tryz.func199 (by kernel_rfl) (by kernel_rfl) (by kernel_rfl) (fun _ => false) (.two .nil (.two .nil (.two .nil (.two (.two .nil (.one (.loop ⟨[(7, Sh.int .u64), (8, Sh.int .i64)], []⟩ .nil))) .nil)))) [Value.slice aA an ac, Value.int .u64 d] h R (by kernel_rfl)
    (Eq.mp (show ref01_small_vc aA an ac d h R = fnV Tryz.prog Tryz.f199 (fun _ => false) (.two .nil (.two .nil (.two .nil (.two (.two .nil (.one (.loop ⟨[(7, Sh.int .u64), (8, Sh.int .i64)], []⟩ .nil))) .nil)))) [Value.slice aA an ac, Value.int .u64 d] h R by kernel_rfl) hv)

end Go.Proofs.YtdpdaphholileaaGreatDoor

/-
  Contracts: sampling.Accept; draws.
-/
namespace Go.Proofs.YtdpdaphholileaaGreatDoor
open Go Go.Vcg
attribute [local irreducible] Br

/-! ### draws -/
theorem getD_some {l : List Int} {i : Nat} (h : i < l.length) : l[i]? = some (l.getD i 0) := by simp [h]

end Go.Proofs.YtdpdaphholileaaGreatDoor

/-
  Contracts: draws.Sample, sampling.Draw; references 53: SameInts, Check.
-/
namespace Go.Proofs.YtdpdaphholileaaGreatDoor
open Go Go.Vcg
attribute [local irreducible] Br

/-! ### references of 53 -/
end Go.Proofs.YtdpdaphholileaaGreatDoor

/- Made by vcgen.py: verification conditions of functions, each held against the calculator by the kernel. -/
namespace Go.Proofs.YtdpdaphholileaaGreatDoor
open Go Go.Vcg

def law17_FormulaPrints_vc (e_0 : Int) (e_1 : Bool) (e_2A : Option Addr) (e_2n e_2c : Nat) (e_3A : Option Addr) (e_3n e_3c : Nat) (e_4 : ByteArray) (e_5A : Option Addr) (e_5n e_5c : Nat) (h : Heap) (R : Value → Heap → Prop) : Prop :=
 CallsU Tryz.prog 11 [Value.agg #[Value.int .i64 e_0, Value.bool e_1, Value.slice e_2A e_2n e_2c, Value.slice e_3A e_3n e_3c, Value.string e_4, Value.slice e_5A e_5n e_5c]] h fun v h_1 =>
 ∃ t8 : Bool, v = Value.bool t8 ∧
 Br (!t8)
  (CallsU Tryz.prog 12 [] h_1 fun v_1 h_2 =>
 ∃ t10 : Bool, v_1 = Value.bool t10 ∧
 R (Value.bool t10) h_2)
  (CallsU Tryz.prog 22 [Value.agg #[Value.int .i64 e_0, Value.bool e_1, Value.slice e_2A e_2n e_2c, Value.slice e_3A e_3n e_3c, Value.string e_4, Value.slice e_5A e_5n e_5c]] h_1 fun v_2 h_3 =>
 ∃ t13_0 : ByteArray, ∃ t13_1 : Int, v_2 = Value.tuple #[Value.string t13_0, Value.int .i64 t13_1] ∧
 CallsU Tryz.prog 23 [Value.agg #[Value.int .i64 e_0, Value.bool e_1, Value.slice e_2A e_2n e_2c, Value.slice e_3A e_3n e_3c, Value.string e_4, Value.slice e_5A e_5n e_5c]] h_3 fun v_3 h_4 =>
 ∃ t18_0 : ByteArray, ∃ t18_1 : Int, v_3 = Value.tuple #[Value.string t18_0, Value.int .i64 t18_1] ∧
 Br (t13_0.toList == t18_0.toList)
  (Br ((t13_1 : Int) == t18_1)
  (CallsU Tryz.prog 12 [] h_4 fun v_4 h_5 =>
 ∃ t30 : Bool, v_4 = Value.bool t30 ∧
 R (Value.bool t30) h_5)
  (R (Value.bool false) h_4))
  (R (Value.bool false) h_4))

set_option maxRecDepth 100000 in
theorem law17_FormulaPrints_ok {e_0 : Int} {e_1 : Bool} {e_2A : Option Addr} {e_2n e_2c : Nat} {e_3A : Option Addr} {e_3n e_3c : Nat} {e_4 : ByteArray} {e_5A : Option Addr} {e_5n e_5c : Nat} {h : Heap} {R : Value → Heap → Prop} (hv : law17_FormulaPrints_vc e_0 e_1 e_2A e_2n e_2c e_3A e_3n e_3c e_4 e_5A e_5n e_5c h R) : CallsU Tryz.prog 5 [Value.agg #[Value.int .i64 e_0, Value.bool e_1, Value.slice e_2A e_2n e_2c, Value.slice e_3A e_3n e_3c, Value.string e_4, Value.slice e_5A e_5n e_5c]] h R :=
  fn_sound Tryz.func5 (by kernel_rfl) (by kernel_rfl) (by kernel_rfl) (fun _ => false) .nil [Value.agg #[Value.int .i64 e_0, Value.bool e_1, Value.slice e_2A e_2n e_2c, Value.slice e_3A e_3n e_3c, Value.string e_4, Value.slice e_5A e_5n e_5c]] h R (by kernel_rfl)
    (Eq.mp (show law17_FormulaPrints_vc e_0 e_1 e_2A e_2n e_2c e_3A e_3n e_3c e_4 e_5A e_5n e_5c h R = fnV Tryz.prog Tryz.f5 (fun _ => false) .nil [Value.agg #[Value.int .i64 e_0, Value.bool e_1, Value.slice e_2A e_2n e_2c, Value.slice e_3A e_3n e_3c, Value.string e_4, Value.slice e_5A e_5n e_5c]] h R by kernel_rfl) hv)

set_option maxRecDepth 100000 in
def law17_awake_vc  (h : Heap) (R : Value → Heap → Prop) : Prop :=
 CallsU Tryz.prog 18 [Value.string (⟨#[97, 43, 50, 42, 98, 45, 49, 46, 53, 48]⟩ : ByteArray)] h fun v h_1 =>
 ∃ t20_0_0 : Int, ∃ t20_0_1 : Bool, ∃ t20_0_2A : Option Addr, ∃ t20_0_2n t20_0_2c : Nat, ∃ t20_0_3A : Option Addr, ∃ t20_0_3n t20_0_3c : Nat, ∃ t20_0_4 : ByteArray, ∃ t20_0_5A : Option Addr, ∃ t20_0_5n t20_0_5c : Nat, ∃ t20_1 : Int, v = Value.tuple #[Value.agg #[Value.int .i64 t20_0_0, Value.bool t20_0_1, Value.slice t20_0_2A t20_0_2n t20_0_2c, Value.slice t20_0_3A t20_0_3n t20_0_3c, Value.string t20_0_4, Value.slice t20_0_5A t20_0_5n t20_0_5c], Value.int .i64 t20_1] ∧
 CallsU Tryz.prog 22 [Value.agg #[Value.int .i64 t20_0_0, Value.bool t20_0_1, Value.slice t20_0_2A t20_0_2n t20_0_2c, Value.slice t20_0_3A t20_0_3n t20_0_3c, Value.string t20_0_4, Value.slice t20_0_5A t20_0_5n t20_0_5c]] h_1 fun v_1 h_2 =>
 ∃ t25_0 : ByteArray, ∃ t25_1 : Int, v_1 = Value.tuple #[Value.string t25_0, Value.int .i64 t25_1] ∧
 CallsU Tryz.prog 18 [Value.string (⟨#[49, 32, 43]⟩ : ByteArray)] h_2 fun v_2 h_3 =>
 ∃ t29_0_0 : Int, ∃ t29_0_1 : Bool, ∃ t29_0_2A : Option Addr, ∃ t29_0_2n t29_0_2c : Nat, ∃ t29_0_3A : Option Addr, ∃ t29_0_3n t29_0_3c : Nat, ∃ t29_0_4 : ByteArray, ∃ t29_0_5A : Option Addr, ∃ t29_0_5n t29_0_5c : Nat, ∃ t29_1 : Int, v_2 = Value.tuple #[Value.agg #[Value.int .i64 t29_0_0, Value.bool t29_0_1, Value.slice t29_0_2A t29_0_2n t29_0_2c, Value.slice t29_0_3A t29_0_3n t29_0_3c, Value.string t29_0_4, Value.slice t29_0_5A t29_0_5n t29_0_5c], Value.int .i64 t29_1] ∧
 CallsU Tryz.prog 18 [Value.string (⟨#[48, 48, 55]⟩ : ByteArray)] h_3 fun v_3 h_4 =>
 ∃ t33_0_0 : Int, ∃ t33_0_1 : Bool, ∃ t33_0_2A : Option Addr, ∃ t33_0_2n t33_0_2c : Nat, ∃ t33_0_3A : Option Addr, ∃ t33_0_3n t33_0_3c : Nat, ∃ t33_0_4 : ByteArray, ∃ t33_0_5A : Option Addr, ∃ t33_0_5n t33_0_5c : Nat, ∃ t33_1 : Int, v_3 = Value.tuple #[Value.agg #[Value.int .i64 t33_0_0, Value.bool t33_0_1, Value.slice t33_0_2A t33_0_2n t33_0_2c, Value.slice t33_0_3A t33_0_3n t33_0_3c, Value.string t33_0_4, Value.slice t33_0_5A t33_0_5n t33_0_5c], Value.int .i64 t33_1] ∧
 CallsU Tryz.prog 18 [Value.string (⟨#[97, 32, 47, 32, 98, 32, 45, 32, 109, 97, 120, 40, 97, 44, 32, 52, 41]⟩ : ByteArray)] h_4 fun v_4 h_5 =>
 ∃ t37_0_0 : Int, ∃ t37_0_1 : Bool, ∃ t37_0_2A : Option Addr, ∃ t37_0_2n t37_0_2c : Nat, ∃ t37_0_3A : Option Addr, ∃ t37_0_3n t37_0_3c : Nat, ∃ t37_0_4 : ByteArray, ∃ t37_0_5A : Option Addr, ∃ t37_0_5n t37_0_5c : Nat, ∃ t37_1 : Int, v_4 = Value.tuple #[Value.agg #[Value.int .i64 t37_0_0, Value.bool t37_0_1, Value.slice t37_0_2A t37_0_2n t37_0_2c, Value.slice t37_0_3A t37_0_3n t37_0_3c, Value.string t37_0_4, Value.slice t37_0_5A t37_0_5n t37_0_5c], Value.int .i64 t37_1] ∧
 CallsU Tryz.prog 33 [Value.int .i64 3, Value.int .i64 1] h_5 fun v_5 h_6 =>
 ∃ t40_0 : Bool, ∃ t40_1A : Option Addr, ∃ t40_1n t40_1c : Nat, ∃ t40_2A : Option Addr, ∃ t40_2n t40_2c : Nat, v_5 = Value.agg #[Value.bool t40_0, Value.slice t40_1A t40_1n t40_1c, Value.slice t40_2A t40_2n t40_2c] ∧
 CallsU Tryz.prog 33 [Value.int .i64 1, Value.int .i64 2] h_6 fun v_6 h_7 =>
 ∃ t42_0 : Bool, ∃ t42_1A : Option Addr, ∃ t42_1n t42_1c : Nat, ∃ t42_2A : Option Addr, ∃ t42_2n t42_2c : Nat, v_6 = Value.agg #[Value.bool t42_0, Value.slice t42_1A t42_1n t42_1c, Value.slice t42_2A t42_2n t42_2c] ∧
 CallsU Tryz.prog 33 [Value.int .i64 9, Value.int .i64 1] h_7 fun v_7 h_8 =>
 ∃ t44_0 : Bool, ∃ t44_1A : Option Addr, ∃ t44_1n t44_1c : Nat, ∃ t44_2A : Option Addr, ∃ t44_2n t44_2c : Nat, v_7 = Value.agg #[Value.bool t44_0, Value.slice t44_1A t44_1n t44_1c, Value.slice t44_2A t44_2n t44_2c] ∧
 ∀ (g : Nat) (h_9 : Heap), h_8 g = none → h_9 = Heap.put h_8 g ⟨[Value.string (⟨#[97]⟩ : ByteArray), Value.bool t40_0, Value.slice t40_1A t40_1n t40_1c, Value.slice t40_2A t40_2n t40_2c, Value.string (⟨#[98]⟩ : ByteArray), Value.bool t42_0, Value.slice t42_1A t42_1n t42_1c, Value.slice t42_2A t42_2n t42_2c, Value.string (⟨#[97]⟩ : ByteArray), Value.bool t44_0, Value.slice t44_1A t44_1n t44_1c, Value.slice t44_2A t44_2n t44_2c], 56, (0, 0)⟩ →
 CallsU Tryz.prog 25 [Value.agg #[Value.int .i64 t37_0_0, Value.bool t37_0_1, Value.slice t37_0_2A t37_0_2n t37_0_2c, Value.slice t37_0_3A t37_0_3n t37_0_3c, Value.string t37_0_4, Value.slice t37_0_5A t37_0_5n t37_0_5c], Value.slice (some ⟨g, 0, none⟩) 3 3] h_9 fun v_8 h_10 =>
 ∃ t50_0_0 : Bool, ∃ t50_0_1A : Option Addr, ∃ t50_0_1n t50_0_1c : Nat, ∃ t50_0_2A : Option Addr, ∃ t50_0_2n t50_0_2c : Nat, ∃ t50_1 : Int, v_8 = Value.tuple #[Value.agg #[Value.bool t50_0_0, Value.slice t50_0_1A t50_0_1n t50_0_1c, Value.slice t50_0_2A t50_0_2n t50_0_2c], Value.int .i64 t50_1] ∧
 CallsU Tryz.prog 18 [Value.string (⟨#[97, 47, 40, 98, 45, 48, 46, 53, 41]⟩ : ByteArray)] h_10 fun v_9 h_11 =>
 ∃ t54_0_0 : Int, ∃ t54_0_1 : Bool, ∃ t54_0_2A : Option Addr, ∃ t54_0_2n t54_0_2c : Nat, ∃ t54_0_3A : Option Addr, ∃ t54_0_3n t54_0_3c : Nat, ∃ t54_0_4 : ByteArray, ∃ t54_0_5A : Option Addr, ∃ t54_0_5n t54_0_5c : Nat, ∃ t54_1 : Int, v_9 = Value.tuple #[Value.agg #[Value.int .i64 t54_0_0, Value.bool t54_0_1, Value.slice t54_0_2A t54_0_2n t54_0_2c, Value.slice t54_0_3A t54_0_3n t54_0_3c, Value.string t54_0_4, Value.slice t54_0_5A t54_0_5n t54_0_5c], Value.int .i64 t54_1] ∧
 CallsU Tryz.prog 25 [Value.agg #[Value.int .i64 t54_0_0, Value.bool t54_0_1, Value.slice t54_0_2A t54_0_2n t54_0_2c, Value.slice t54_0_3A t54_0_3n t54_0_3c, Value.string t54_0_4, Value.slice t54_0_5A t54_0_5n t54_0_5c], Value.slice (some ⟨g, 0, none⟩) 3 3] h_11 fun v_10 h_12 =>
 ∃ t60_0_0 : Bool, ∃ t60_0_1A : Option Addr, ∃ t60_0_1n t60_0_1c : Nat, ∃ t60_0_2A : Option Addr, ∃ t60_0_2n t60_0_2c : Nat, ∃ t60_1 : Int, v_10 = Value.tuple #[Value.agg #[Value.bool t60_0_0, Value.slice t60_0_1A t60_0_1n t60_0_1c, Value.slice t60_0_2A t60_0_2n t60_0_2c], Value.int .i64 t60_1] ∧
 ∃ C : Bool → Heap → Prop, (∀ (t96 : Bool) (h_13 : Heap), C t96 h_13 →
 Br (t96)
  (R (Value.bool false) h_13)
  (CallsU Tryz.prog 16 [Value.agg #[Value.int .i64 t37_0_0, Value.bool t37_0_1, Value.slice t37_0_2A t37_0_2n t37_0_2c, Value.slice t37_0_3A t37_0_3n t37_0_3c, Value.string t37_0_4, Value.slice t37_0_5A t37_0_5n t37_0_5c]] h_13 fun v_11 h_14 =>
 ∃ t98A : Option Addr, ∃ t98n t98c : Nat, v_11 = Value.slice t98A t98n t98c ∧
 Br ((t20_0_0 : Int) == 4)
  (Br ((((t98n : Nat) : Int) : Int) == 2)
  (∃ ad : Addr, t98A = some ad ∧ 0 ≤ (0 : Int) ∧ (0 : Int) < ((t98n : Nat) : Int) ∧
 ∃ t110 : ByteArray, LdN h_14 (Addr.add ad (0 * 1)) [Value.string t110] ∧
 Br (t110.toList == (⟨#[97]⟩ : ByteArray).toList)
  (∃ ad_1 : Addr, t98A = some ad_1 ∧ 0 ≤ (1 : Int) ∧ (1 : Int) < ((t98n : Nat) : Int) ∧
 ∃ t116 : ByteArray, LdN h_14 (Addr.add ad_1 (1 * 1)) [Value.string t116] ∧
 Br (t116.toList == (⟨#[98]⟩ : ByteArray).toList)
  (CallsU Tryz.prog 33 [Value.int .i64 2, Value.int .i64 1] h_14 fun v_12 h_15 =>
 ∃ t121_0 : Bool, ∃ t121_1A : Option Addr, ∃ t121_1n t121_1c : Nat, ∃ t121_2A : Option Addr, ∃ t121_2n t121_2c : Nat, v_12 = Value.agg #[Value.bool t121_0, Value.slice t121_1A t121_1n t121_1c, Value.slice t121_2A t121_2n t121_2c] ∧
 LeH h_14 h_15 ∧
 CallsU Tryz.prog 29 [Value.agg #[Value.bool t50_0_0, Value.slice t50_0_1A t50_0_1n t50_0_1c, Value.slice t50_0_2A t50_0_2n t50_0_2c], Value.agg #[Value.bool t121_0, Value.slice t121_1A t121_1n t121_1c, Value.slice t121_2A t121_2n t121_2c]] h_15 fun v_13 h_16 =>
 ∃ t122 : Int, v_13 = Value.int .i64 t122 ∧
 Br ((t122 : Int) == 0)
  (CallsU Tryz.prog 13 [Value.agg #[Value.int .i64 0, Value.bool false, Value.slice none 0 0, Value.slice none 0 0, Value.string ByteArray.empty, Value.slice none 0 0]] h_16 fun v_14 h_17 =>
 ∃ t127 : Int, v_14 = Value.int .i64 t127 ∧
 Br ((t127 : Int) == 1)
  (CallsU Tryz.prog 13 [Value.agg #[Value.int .i64 t20_0_0, Value.bool t20_0_1, Value.slice t20_0_2A t20_0_2n t20_0_2c, Value.slice t20_0_3A t20_0_3n t20_0_3c, Value.string t20_0_4, Value.slice t20_0_5A t20_0_5n t20_0_5c]] h_17 fun v_15 h_18 =>
 ∃ t132 : Int, v_15 = Value.int .i64 t132 ∧
 R (Value.bool ((t132 : Int) == 0)) h_18)
  (R (Value.bool false) h_17))
  (R (Value.bool false) h_16))
  (LeH h_14 h_14 ∧
 R (Value.bool false) h_14))
  (LeH h_14 h_14 ∧
 R (Value.bool false) h_14))
  (LeH h_14 h_14 ∧
 R (Value.bool false) h_14))
  (LeH h_14 h_14 ∧
 R (Value.bool false) h_14))) ∧
 Br ((t20_1 : Int) != 0)
  (C true h_12)
  (Br ((t25_1 : Int) != 0)
  (C true h_12)
  (Br ((t29_1 : Int) != 4)
  (C true h_12)
  (Br ((t33_1 : Int) != 2)
  (C true h_12)
  (Br ((t37_1 : Int) != 0)
  (C true h_12)
  (Br ((t50_1 : Int) != 0)
  (C true h_12)
  (Br ((t54_1 : Int) != 0)
  (C true h_12)
  (Br ((t60_1 : Int) != 10)
  (C true h_12)
  (C (!(t25_0.toList == (⟨#[97, 32, 43, 32, 50, 32, 42, 32, 98, 32, 45, 32, 49, 46, 53]⟩ : ByteArray).toList)) h_12))))))))

set_option maxRecDepth 100000 in
theorem law17_awake_ok  {h : Heap} {R : Value → Heap → Prop} (hv : law17_awake_vc  h R) : CallsU Tryz.prog 12 [] h R :=
  fn_sound Tryz.func12 (by kernel_rfl) (by kernel_rfl) (by kernel_rfl) (fun _ => false) (.two .nil (.two .nil (.two .nil (.two .nil (.two .nil (.two .nil (.two .nil (.two .nil (.two .nil (.two .nil (.two (.cut ⟨[(96, Sh.bool)], []⟩ .nil .nil) (.two .nil (.two (.ord [0, 1, 2, 3, 4, 5, 6, 7, 8, 9, 10, 11, 12, 13, 14, 15, 16, 17, 18, 19, 20, 21, 22, 23, 24, 25, 26, 27, 28, 29, 30, 31, 32, 33, 34, 35, 36]) .nil))))))))))))) [] h R (by kernel_rfl)
    (Eq.mp (show law17_awake_vc  h R = fnV Tryz.prog Tryz.f12 (fun _ => false) (.two .nil (.two .nil (.two .nil (.two .nil (.two .nil (.two .nil (.two .nil (.two .nil (.two .nil (.two .nil (.two (.cut ⟨[(96, Sh.bool)], []⟩ .nil .nil) (.two .nil (.two (.ord [0, 1, 2, 3, 4, 5, 6, 7, 8, 9, 10, 11, 12, 13, 14, 15, 16, 17, 18, 19, 20, 21, 22, 23, 24, 25, 26, 27, 28, 29, 30, 31, 32, 33, 34, 35, 36]) .nil))))))))))))) [] h R by kernel_rfl) hv)

def law17_part_vc (n : Int) (d : Int) (h : Heap) (R : Value → Heap → Prop) : Prop :=
 CallsU Tryz.prog 63 [Value.int .i64 n, Value.int .i64 d] h fun v h_1 =>
 ∃ t10_0_0 : Bool, ∃ t10_0_1A : Option Addr, ∃ t10_0_1n t10_0_1c : Nat, ∃ t10_0_2A : Option Addr, ∃ t10_0_2n t10_0_2c : Nat, ∃ t10_1 : Bool, v = Value.tuple #[Value.agg #[Value.bool t10_0_0, Value.slice t10_0_1A t10_0_1n t10_0_1c, Value.slice t10_0_2A t10_0_2n t10_0_2c], Value.bool t10_1] ∧
 R (Value.agg #[Value.bool t10_0_0, Value.slice t10_0_1A t10_0_1n t10_0_1c, Value.slice t10_0_2A t10_0_2n t10_0_2c]) h_1

set_option maxRecDepth 100000 in
theorem law17_part_ok {n : Int} {d : Int} {h : Heap} {R : Value → Heap → Prop} (hv : law17_part_vc n d h R) : CallsU Tryz.prog 33 [Value.int .i64 n, Value.int .i64 d] h R :=
  fn_sound Tryz.func33 (by kernel_rfl) (by kernel_rfl) (by kernel_rfl) (fun _ => false) .nil [Value.int .i64 n, Value.int .i64 d] h R (by kernel_rfl)
    (Eq.mp (show law17_part_vc n d h R = fnV Tryz.prog Tryz.f33 (fun _ => false) .nil [Value.int .i64 n, Value.int .i64 d] h R by kernel_rfl) hv)

end Go.Proofs.YtdpdaphholileaaGreatDoor

/-
  Contracts: references 01.Of, 02.Of, 03.Whole; the chapter's examples.
-/
namespace Go.Proofs.YtdpdaphholileaaGreatDoor
open Go Go.Vcg
attribute [local irreducible] Br

theorem lv_one1 (y : Nat) : Go.Vcg.one (lv y) = true := rfl

theorem Sl.u32 {h : Heap} {A : Option Addr} {n c : Nat} {xs : List Nat} (u : Sl lv h A n c xs) (hlt : ∀ x ∈ xs, x < 4294967296) : U32 h A n c xs := ⟨u.len, u.cap, hlt, u.mem⟩

theorem r1of_c (n : Nat) (hn : n < 18446744073709551616) (h : Heap) :
    CallsU Tryz.prog 128 [.int .u64 n] h fun r h' => ∃ A m c, r = .slice A m c ∧ m ≤ 2 ∧ NmN h' A m c n ∧ Le h h' := by
  apply ref01_Of_ok
  have hB : B32 = 4294967296 := rfl
  refine ⟨fun m x oA on oc h' => ∃ gs : List Nat, x = (m : Int) ∧ val gs + B32 ^ gs.length * m = n ∧ (∀ y ∈ gs, y < 4294967296) ∧ (m = 0 → Nrm gs) ∧ gs.length ≤ 2 ∧ OwnE lv 104 h h' oA on oc gs ∧ Le h h', ⟨n, [], rfl, by simp [val], by simp, fun _ => nrm_nil, by simp, OwnE.nil h, Le.refl h⟩, ?_⟩
  rintro m _ oA on oc h1 ⟨gs, rfl, hval, hlt, hnz, hlen, own, hle⟩
  have hon := own.1
  refine Br.mk (fun q => ?_) (fun q => ?_)
  · have q' : 0 < m := by simp at q; omega
    have hl1 : gs.length ≤ 1 := by
      rcases Nat.lt_or_ge gs.length 2 with a | a
      · omega
      · exfalso
        have e : gs.length = 2 := by omega
        rw [e, hB] at hval
        omega
    have hm : m ≤ n := by
      have : 1 * m ≤ B32 ^ gs.length * m := Nat.mul_le_mul_right _ (Nat.pow_pos (by decide))
      omega
    rintro _ rfl g0 _ hg0 rfl
    have e1 : IntKind.u32.wrap (Int.tmod (m : Int) 4294967296) = ((m % 4294967296 : Nat) : Int) := by
      rw [Int.tmod_eq_emod_of_nonneg (by omega), wrap_u32_mod]; omega
    rw [e1]
    refine own.app (x := m % 4294967296) (z := 0) (bs := 4) (K := fun A c hh => ∀ t : Int, t = IntKind.u64.wrap (Int.tdiv (m : Int) 4294967296) → ∃ m', m' < m ∧ ∃ gs : List Nat, t = (m' : Int) ∧ val gs + B32 ^ gs.length * m' = n ∧ (∀ y ∈ gs, y < 4294967296) ∧ (m' = 0 → Nrm gs) ∧ gs.length ≤ 2 ∧ OwnE lv 104 h hh A (on + 1) c gs ∧ Le h hh) hle lv_one1 rfl rfl hg0 (by omega) ?_
    intro A' c' h' o l _
    rintro _ rfl
    have e2 : IntKind.u64.wrap (Int.tdiv (m : Int) 4294967296) = ((m / 4294967296 : Nat) : Int) := by
      rw [Int.tdiv_eq_ediv_of_nonneg (by omega), wrap_u64_mod]; omega
    rw [e2]
    refine ⟨_, Nat.div_lt_self q' (by decide), gs ++ [m % 4294967296], rfl, ?_, ?_, ?_, by simp; omega, o, l⟩
    · rw [val_append, List.length_append, List.length_singleton, Nat.pow_succ, ← hval]
      simp only [val, Nat.mul_zero, Nat.add_zero]
      have h2 := Nat.mod_add_div m 4294967296
      rw [hB] at *
      generalize 4294967296 ^ gs.length = M at *
      rw [Nat.mul_assoc, Nat.add_assoc, ← Nat.mul_add, h2]
    · intro y hy
      rcases List.mem_append.1 hy with a | a
      · exact hlt y a
      · rw [List.mem_singleton.1 a]; exact Nat.mod_lt _ (by decide)
    · intro e
      simp only [Nrm, List.getLast?_append, List.getLast?_singleton, Option.some_or, ne_eq, Option.some.injEq]
      omega
  · have q' : m = 0 := by simp at q; omega
    subst q'
    rw [Nat.mul_zero, Nat.add_zero] at hval
    exact ⟨_, _, _, rfl, by omega, ⟨gs, own.sl.u32 hlt, hval, hnz rfl⟩, hle⟩

theorem r2of_c (z : Int) (h1 : -9223372036854775808 ≤ z) (h2 : z < 9223372036854775808) (h : Heap) :
    CallsU Tryz.prog 103 [.int .i64 z] h fun r h' => ∃ s' A' k c', r = .agg #[.bool s', .slice A' k c'] ∧ NmI h' s' A' k c' z ∧ k ≤ 2 ∧ Le h h' := by
  apply ref02_Of_ok
  refine Br.mk (fun q => ?_) (fun q => ?_)
  · have hz : z < 0 := by simpa using q
    rintro _ rfl _ rfl _ rfl
    have e : IntKind.u64.wrap (IntKind.u64.wrap (IntKind.i64.wrap (0 - IntKind.i64.wrap (z + 1))) + 1) = ((z.natAbs : Nat) : Int) := by
      rw [wrap_i64 (x := z + 1) (by omega) (by omega), wrap_i64 (by omega) (by omega), wrap_u64 (x := 0 - (z + 1)) (by omega) (by omega), wrap_u64 (by omega) (by omega)]; omega
    rw [e]
    refine (r1of_c z.natAbs (by omega) h).mono ?_
    rintro _ h1 ⟨A, m, c, rfl, hm, hN, hl⟩
    exact ⟨_, _, _, rfl, _, _, _, _, rfl, ⟨hN, by simp [hz]⟩, hm, hl⟩
  · have hz : 0 ≤ z := by simpa using q
    rw [wu (n := z.natAbs) (by omega) (by omega)]
    refine (r1of_c z.natAbs (by omega) h).mono ?_
    rintro _ h1 ⟨A, m, c, rfl, hm, hN, hl⟩
    exact ⟨_, _, _, rfl, _, _, _, _, rfl, ⟨hN, by simp; omega⟩, hm, hl⟩

theorem whole_c (z : Int) (h1 : -9223372036854775808 ≤ z) (h2 : z < 9223372036854775808) (h : Heap) :
    CallsU Tryz.prog 78 [.int .i64 z] h fun r h' => ∃ s' A' n' c' B' m' d', r = .agg #[.bool s', .slice A' n' c', .slice B' m' d'] ∧ NmQ h' s' A' n' c' B' m' d' (z : Rat) ∧ n' ≤ 2 ∧ m' ≤ 2 ∧ Le h h' := by
  apply ref03_Whole_ok
  refine (r2of_c z h1 h2 h).mono ?_
  rintro _ h1 ⟨s, A, k, c, rfl, hI, hk, hl⟩
  refine ⟨_, _, _, _, rfl, (r1of_c 1 (by omega) h1).mono ?_⟩
  rintro _ h2 ⟨B, m, d, rfl, hm, hN, hl2⟩
  exact ⟨_, _, _, rfl, _, _, _, _, _, _, _, rfl, ⟨hI.mono hl2, hN⟩, hk, hm, hl.trans hl2⟩

end Go.Proofs.YtdpdaphholileaaGreatDoor

/-
  Contracts: reference 01: limb, Norm, Cmp, Add, Sub, Mul, Half, Shift, Bits.
-/
namespace Go.Proofs.YtdpdaphholileaaGreatDoor
open Go Go.Vcg
attribute [local irreducible] Br

theorem limb_c {h : Heap} {A : Option Addr} {n c : Nat} {xs : List Nat} (u : U32 h A n c xs) (i : Nat) :
    CallsU Tryz.prog 170 [.slice A n c, .int .i64 i] h fun r h' => r = .int .u64 (xs.getD i 0) ∧ h = h' := by
  apply ref01_limb_ok
  refine Br.mk (fun q => by simp at q; omega) (fun _ => Br.mk (fun q => ?_) (fun q => ?_))
  · have q' : n ≤ i := by have := of_decide_eq_true q; omega
    rw [getD_ge (by rw [u.len]; exact q')]
    exact ⟨rfl, rfl⟩
  · have q' : i < n := by have := of_decide_eq_false q; omega
    obtain ⟨ad, hA, hl⟩ := u.get q'
    have hlt := u.getD_lt i
    rw [Int.toNat_natCast]
    refine ⟨ad, hA, by omega, by omega, _, hl, ?_⟩
    rw [wu (n := xs.getD i 0) rfl (by omega)]
    exact ⟨rfl, rfl⟩

/-- append of limbs to an empty slice. -/
theorem app_none {h : Heap} {A : Option Addr} {c : Nat} {xs : List Nat} {m : Nat} (u : U32 h A m c xs) (hm : m ≤ 35184372088832) {K : Option Addr → Nat → Nat → Heap → Prop}
    (k0 : m = 0 → K none 0 0 h) (k1 : ∀ (g cap : Nat), h g = none → m ≤ cap → 0 < m → K (some ⟨g, 0, none⟩) m cap (h.put g ⟨(xs ++ List.replicate (cap - m) 0).map lv, 104, (0, 0)⟩)) :
    ∃ ys : List Value, RdS h A (m * 1) ys ∧ (∀ x ∈ ys, Go.Vcg.one x = true) ∧
      (0 + m ≤ 0 → Br (decide (m * 1 = 0)) (K none (0 + m) 0 h) (∃ (ad : Addr) (b : Blk), none = some ad ∧ ad.spot = none ∧ h ad.block = some b ∧ b.fz = (0, 0) ∧ ad.off + 0 * 1 + m * 1 ≤ b.cells.length ∧
        ∀ h' : Heap, h' = Heap.put h ad.block { b with cells := setSeg b.cells (ad.off + 0 * 1) ys } → K none (0 + m) 0 h')) ∧
      (0 < 0 + m → ∃ olds : List Value, RdS h none (0 * 1) olds ∧ (0 + m) * 4 ≤ 140737488355328 ∧
        ∀ (g cap : Nat) (h' : Heap), h g = none → 0 + m ≤ cap → h' = Heap.put h g ⟨olds ++ ys ++ repV [Value.int .u32 0] (cap - (0 + m)), 104, (0, 0)⟩ → K (some ⟨g, 0, none⟩) (0 + m) cap h') := by
  rw [Nat.zero_add]
  refine ⟨xs.map lv, u.rds, lv_one _, fun h0 => Br.mk (fun _ => ?_) (fun q => ?_), fun hp => ?_⟩
  · have : m = 0 := by omega
    subst this
    exact k0 rfl
  · exfalso
    have : m = 0 := by omega
    subst this
    simp at q
  · refine ⟨[], ⟨rfl, fun q => absurd q (Nat.lt_irrefl 0)⟩, by omega, ?_⟩
    rintro g cap h' hg hc rfl
    rw [repV_lv, List.nil_append, ← List.map_append]
    exact k1 g cap hg hc hp

theorem r1norm_c {h : Heap} {A : Option Addr} {n c v : Nat} (u : IsN h A n c v) (hn : n ≤ 35184372088832) :
    CallsU Tryz.prog 127 [.slice A n c] h fun r h' => ∃ A' m c', r = .slice A' m c' ∧ m ≤ n ∧ NmN h' A' m c' v ∧ Le h h' := by
  apply ref01_Norm_ok
  obtain ⟨xs, u, rfl⟩ := u
  have hc := u.cap
  refine ⟨fun m k h' => h = h' ∧ k = (m : Int) ∧ m ≤ n ∧ trimL xs = trimL (xs.take m), ⟨n, rfl, rfl, Nat.le_refl _, by rw [List.take_of_length_le (Nat.le_of_eq u.len)]⟩, ?_⟩
  rintro m k h' ⟨rfl, rfl, hm, ht⟩
  have fin : Nrm (xs.take m) → ∃ ys : List Value, RdS h A (m * 1) ys ∧ (∀ x ∈ ys, Go.Vcg.one x = true) ∧
      (0 + m ≤ 0 → Br (decide (m * 1 = 0)) ((fun r h' => ∃ A' m c', r = .slice A' m c' ∧ m ≤ n ∧ NmN h' A' m c' (val xs) ∧ Le h h') (Value.slice none (0 + m) 0) h) (∃ (ad : Addr) (b : Blk), none = some ad ∧ ad.spot = none ∧ h ad.block = some b ∧ b.fz = (0, 0) ∧ ad.off + 0 * 1 + m * 1 ≤ b.cells.length ∧
        ∀ h_3 : Heap, h_3 = Heap.put h ad.block { b with cells := setSeg b.cells (ad.off + 0 * 1) ys } → (fun r h' => ∃ A' m c', r = .slice A' m c' ∧ m ≤ n ∧ NmN h' A' m c' (val xs) ∧ Le h h') (Value.slice none (0 + m) 0) h_3)) ∧
      (0 < 0 + m → ∃ olds : List Value, RdS h none (0 * 1) olds ∧ (0 + m) * 4 ≤ 140737488355328 ∧
        ∀ (g cap : Nat) (h_4 : Heap), h g = none → 0 + m ≤ cap → h_4 = Heap.put h g ⟨olds ++ ys ++ repV [Value.int .u32 0] (cap - (0 + m)), 104, (0, 0)⟩ → (fun r h' => ∃ A' m c', r = .slice A' m c' ∧ m ≤ n ∧ NmN h' A' m c' (val xs) ∧ Le h h') (Value.slice (some ⟨g, 0, none⟩) (0 + m) cap) h_4) := by
    intro hN
    have hval : val (xs.take m) = val xs := by rw [← trimL_val xs, ht, trimL_of_nrm hN]
    refine app_none (K := fun A m c h' => (fun r h' => ∃ A' m c', r = .slice A' m c' ∧ m ≤ n ∧ NmN h' A' m c' (val xs) ∧ Le h h') (Value.slice A m c) h') (u.take hm) (by omega) (fun e => ?_) (fun g cap hg hcap hp => ?_)
    · subst e
      exact ⟨_, _, _, rfl, Nat.zero_le _, ⟨[], U32.nil _ _ _, by rw [← hval]; rfl, nrm_nil⟩, Le.refl _⟩
    · refine ⟨_, _, _, rfl, hm, ⟨xs.take m, ?_, hval, hN⟩, Le.new hg _⟩
      have := U32.of_blk (m := m) (k := cap) (h := h.put g ⟨(xs.take m ++ List.replicate (cap - m) 0).map lv, 104, (0, 0)⟩) (Heap.put_same _ _ _) (fun x hx => ?_) (by simp [u.len]; omega) hcap
      · rwa [List.take_left' (by simp [u.len]; omega)] at this
      · rcases List.mem_append.1 hx with a | a
        · exact u.lt x (List.mem_of_mem_take a)
        · rw [(List.mem_replicate.1 a).2]; decide
  refine Br.mk (fun hp => ?_) (fun hp => ?_)
  · have hp' : 0 < m := by simp at hp; omega
    obtain ⟨m, rfl⟩ : ∃ q, m = q + 1 := ⟨m - 1, by omega⟩
    rintro _ rfl
    rw [wi (n := m) (by omega) (by omega)]
    obtain ⟨ad, hA, hl⟩ := u.get (i := m) (by omega)
    rw [Int.toNat_natCast, Int.toNat_natCast]
    refine ⟨ad, hA, by omega, by omega, _, hl, Br.mk (fun h0 => ?_) (fun h0 => ?_)⟩
    · rintro _ rfl
      refine ⟨m, by omega, rfl, rfl, by omega, ?_⟩
      rw [ht, take_last (by rw [u.len]; omega)]
      have : xs.getD m 0 = 0 := by have := beq_iff_eq.1 h0; omega
      rw [this, trimL_snoc_zero]
    · have hnz : xs.getD m 0 ≠ 0 := by
        have := beq_eq_false_iff_ne.1 h0
        omega
      refine ⟨by omega, by omega, fin ?_⟩
      rw [take_last (by rw [u.len]; omega)]
      simpa [Nrm] using hnz
  · have hp' : m = 0 := by simp at hp; omega
    subst hp'
    rw [Int.toNat_natCast]
    exact ⟨by omega, by omega, fin (by simp [Nrm])⟩

theorem max_ite (n m : Nat) : (if decide (((m : Nat) : Int) > ((n : Nat) : Int)) then ((m : Nat) : Int) else ((n : Nat) : Int)) = ((max n m : Nat) : Int) := by
  simp only [decide_eq_true_eq]
  split <;> omega

theorem val_take_le (xs : List Nat) {k : Nat} (h : xs.length ≤ k) : val (xs.take k) = val xs := by rw [List.take_of_length_le h]

theorem val_take_lt' {xs : List Nat} (h : ∀ x ∈ xs, x < B32) (k : Nat) : val (xs.take k) < B32 ^ k := by
  rcases Nat.lt_or_ge k xs.length with q | q
  · exact val_take_lt h (by omega)
  · rw [val_take_le _ q]
    exact Nat.lt_of_lt_of_le (val_lt h) (Nat.pow_le_pow_right (by decide) q)

/-! ### Cmp -/
theorem cmp_step {X Y H a b M : Nat} (hX : X < M) (hab : a < b) : X + M * a + H < Y + M * b + H := by
  have : M * (a + 1) ≤ M * b := Nat.mul_le_mul_left _ hab
  rw [Nat.mul_add] at this
  omega

theorem r1cmp_c {h : Heap} {A B : Option Addr} {n c m d x y : Nat} (ux : IsN h A n c x) (uy : IsN h B m d y) (hn : n ≤ 1099511627776) (hm : m ≤ 1099511627776) :
    CallsU Tryz.prog 124 [.slice A n c, .slice B m d] h fun v h' => v = .int .i64 (cmpI x y) ∧ h = h' := by
  apply ref01_Cmp_ok
  obtain ⟨xs, u, rfl⟩ := ux
  obtain ⟨ys, w, rfl⟩ := uy
  unfold ref01_Cmp_vc
  rw [max_ite]
  rintro _ rfl
  rw [wrap_i64 (by omega) (by omega)]
  refine ⟨fun q i h' => ∃ H : Nat, i = (q : Int) - 1 ∧ q ≤ max n m ∧ h = h' ∧ val xs = val (xs.take q) + H ∧ val ys = val (ys.take q) + H, ⟨max n m, 0, rfl, Nat.le_refl _, rfl, ?_, ?_⟩, ?_⟩
  · rw [val_take_le _ (by rw [u.len]; omega)]; rfl
  · rw [val_take_le _ (by rw [w.len]; omega)]; rfl
  rintro q _ _ ⟨H, rfl, hq, rfl, hx, hy⟩
  refine Br.mk (fun b => ?_) (fun b => ?_)
  · have b' : 0 < q := by have := of_decide_eq_true b; omega
    obtain ⟨q, rfl⟩ : ∃ t, q = t + 1 := ⟨q - 1, by omega⟩
    rw [show ((q + 1 : Nat) : Int) - 1 = (q : Int) from by omega]
    have lx := val_take_lt' (xs := xs) u.lt q
    have ly := val_take_lt' (xs := ys) w.lt q
    rw [val_take_succ'] at hx hy
    refine (limb_c u q).mono ?_
    rintro _ _ ⟨rfl, rfl⟩
    refine ⟨_, rfl, (limb_c w q).mono ?_⟩
    rintro _ _ ⟨rfl, rfl⟩
    refine ⟨_, rfl, Br.mk (fun b1 => ?_) (fun b1 => ?_)⟩
    · have b2 : xs.getD q 0 < ys.getD q 0 := by have := of_decide_eq_true b1; omega
      rw [cmpI_lt]
      · exact ⟨rfl, rfl⟩
      · rw [hx, hy]; exact cmp_step lx b2
    · have b2 : ys.getD q 0 ≤ xs.getD q 0 := by have := of_decide_eq_false b1; omega
      refine (limb_c u q).mono ?_
      rintro _ _ ⟨rfl, rfl⟩
      refine ⟨_, rfl, (limb_c w q).mono ?_⟩
      rintro _ _ ⟨rfl, rfl⟩
      refine ⟨_, rfl, Br.mk (fun b3 => ?_) (fun b3 => ?_)⟩
      · have b4 : ys.getD q 0 < xs.getD q 0 := by have := of_decide_eq_true b3; omega
        rw [cmpI_gt]
        · exact ⟨rfl, rfl⟩
        · rw [hx, hy]; exact cmp_step ly b4
      · have b4 : xs.getD q 0 = ys.getD q 0 := by have := of_decide_eq_false b3; omega
        rintro _ rfl
        rw [wrap_i64 (by omega) (by omega)]
        refine ⟨q, by omega, H + B32 ^ q * xs.getD q 0, rfl, by omega, rfl, by omega, by rw [b4]; omega⟩
  · have b' : q = 0 := by have := of_decide_eq_false b; omega
    subst b'
    have : val xs = val ys := by simp [val] at hx hy; omega
    rw [this, cmpI_eq]
    exact ⟨rfl, rfl⟩

theorem own_is {h h' : Heap} {A : Option Addr} {n c : Nat} {gs : List Nat} (o : OwnE lv 104 h h' A n c gs) (hlt : ∀ x ∈ gs, x < 4294967296) : IsN h' A n c (val gs) := ⟨gs, o.sl.u32 hlt, rfl⟩

theorem mem_snoc32 {gs : List Nat} {y : Nat} (h : ∀ x ∈ gs, x < 4294967296) (hy : y < 4294967296) : ∀ x ∈ gs ++ [y], x < 4294967296 := fun x hx => by
  rcases List.mem_append.1 hx with a | a
  · exact h x a
  · rw [List.mem_singleton.1 a]; exact hy

theorem val_snoc32 (gs : List Nat) (y : Nat) : val (gs ++ [y]) = val gs + B32 ^ gs.length * y := by
  rw [val_append]
  simp [val]

theorem w32t {a : Int} {n : Nat} (h : a = n) : IntKind.u32.wrap (Int.tmod a 4294967296) = ((n % B32 : Nat) : Int) := by
  subst h
  rw [Int.tmod_eq_emod_of_nonneg (by omega), wrap_u32_mod]
  unfold B32
  omega

theorem wdiv {a : Int} {n : Nat} (h : a = n) (hn : n < 18446744073709551616) : IntKind.u64.wrap (Int.tdiv a 4294967296) = ((n / B32 : Nat) : Int) := by
  subst h
  rw [Int.tdiv_eq_ediv_of_nonneg (by omega), wrap_u64_mod]
  unfold B32
  omega

theorem modB (t : Nat) : t % B32 < 4294967296 := Nat.mod_lt _ (by decide)

/-! ### Add -/
/-! ### Sub -/
def SubI (h : Heap) (xs ys : List Nat) (M : Nat) (m : Nat) (oA : Option Addr) (on oc : Nat) (borrow i : Int) (h' : Heap) : Prop :=
  ∃ (k bN : Nat) (gs : List Nat), m = M - k ∧ i = (k : Int) ∧ borrow = (bN : Int) ∧ bN ≤ 1 ∧ k ≤ M ∧ gs.length = k ∧ (∀ x ∈ gs, x < 4294967296) ∧
    val gs + val (ys.take k) = val (xs.take k) + B32 ^ k * bN ∧ OwnE lv 104 h h' oA on oc gs ∧ Le h h'

theorem rsub_step {G X Y b p q x y t : Nat} (h : G + Y = X + p * b) (ht : B32 + x = t + y + b) (hb : t / B32 ≤ 1) (hq : q = p * B32) : (G + p * (t % B32)) + (Y + p * y) = (X + p * x) + q * (1 - t / B32) := by
  have h1 := Nat.mod_add_div t B32
  subst hq
  rcases Nat.le_one_iff_eq_zero_or_eq_one.1 hb with e0 | e0
  · rw [e0] at h1 ⊢
    simp only [Nat.sub_zero, Nat.mul_one, Nat.mul_zero, Nat.add_zero] at *
    generalize t % B32 = r at *
    subst h1
    have : p * B32 + p * x = p * r + p * y + p * b := by rw [← Nat.mul_add, ht]; rw [Nat.mul_add, Nat.mul_add]
    omega
  · rw [e0] at h1 ⊢
    simp only [Nat.sub_self, Nat.mul_one, Nat.mul_zero, Nat.add_zero] at *
    generalize t % B32 = r at *
    have hr : x = r + y + b := by omega
    subst hr
    rw [Nat.mul_add, Nat.mul_add]
    omega

theorem r1sub_c {h : Heap} {A B : Option Addr} {n c m d x y : Nat} (ux : IsN h A n c x) (uy : IsN h B m d y) (hn : n ≤ 1099511627776) (hm : m ≤ 1099511627776) :
    CallsU Tryz.prog 173 [.slice A n c, .slice B m d] h fun r h' => (x < y ∧ r = .tuple #[.slice none 0 0, .bool false] ∧ h = h') ∨ (y ≤ x ∧ ∃ A' k c', r = .tuple #[.slice A' k c', .bool true] ∧ NmN h' A' k c' (x - y) ∧ Le h h') := by
  apply ref01_Sub_ok
  refine (r1cmp_c ux uy hn hm).mono ?_
  rintro _ _ ⟨rfl, rfl⟩
  refine ⟨_, rfl, Br.mk (fun b => ?_) (fun b => ?_)⟩
  · have b' := of_decide_eq_true b
    refine Or.inl ⟨?_, rfl, rfl⟩
    unfold cmpI at b'
    split at b'
    · omega
    · split at b' <;> omega
  · have b' := of_decide_eq_false b
    have hyx : y ≤ x := by
      unfold cmpI at b'
      split at b'
      · omega
      · omega
    obtain ⟨xs, u, rfl⟩ := ux
    obtain ⟨ys, w, rfl⟩ := uy
    have hB : B32 = 4294967296 := rfl
    refine ⟨SubI h xs ys (max n m), ⟨_, 0, 0, [], rfl, rfl, rfl, by omega, by omega, rfl, by simp, by simp [val], OwnE.nil h, Le.refl h⟩, ?_⟩
    rintro _ oA on oc _ _ h1 ⟨k, bN, gs, rfl, rfl, rfl, hb, hk, hgl, hlt, hv, own, hle⟩
    have hon := own.1
    rw [max_ite]
    refine Br.mk (fun q => ?_) (fun q => ?_)
    · have q' : k < max n m := by have := of_decide_eq_true q; omega
      have lx := u.getD_lt k
      have ly := w.getD_lt k
      refine (limb_c (u.mono hle) k).mono ?_
      rintro _ _ ⟨rfl, rfl⟩
      refine ⟨_, rfl, ?_⟩
      rintro _ rfl
      rw [wu (n := 4294967296 + xs.getD k 0) (by omega) (by omega)]
      refine (limb_c (w.mono hle) k).mono ?_
      rintro _ _ ⟨rfl, rfl⟩
      refine ⟨_, rfl, ?_⟩
      rintro _ rfl _ rfl _ rfl g0 _ hg0 rfl
      rw [wu (a := ((4294967296 + xs.getD k 0 : Nat) : Int) - ((ys.getD k 0 : Nat) : Int)) (n := 4294967296 + xs.getD k 0 - ys.getD k 0) (by omega) (by omega), wu (a := ((4294967296 + xs.getD k 0 - ys.getD k 0 : Nat) : Int) - (bN : Int)) (n := 4294967296 + xs.getD k 0 - ys.getD k 0 - bN) (by omega) (by omega), w32t rfl]
      have ht : B32 + xs.getD k 0 = (4294967296 + xs.getD k 0 - ys.getD k 0 - bN) + ys.getD k 0 + bN := by rw [hB]; omega
      have htl : 4294967296 + xs.getD k 0 - ys.getD k 0 - bN < 2 * 4294967296 := by omega
      generalize 4294967296 + xs.getD k 0 - ys.getD k 0 - bN = t at ht htl ⊢
      refine own.app (x := t % B32) (z := 0) (bs := 4) (K := fun A c hh => ∀ t40 : Int, t40 = IntKind.u64.wrap (Int.tdiv (t : Int) 4294967296) → ∀ t41 : Int, t41 = IntKind.u64.wrap (1 - t40) → ∀ t22 : Int, t22 = IntKind.i64.wrap ((k : Int) + 1) → ∃ m', m' < max n m - k ∧ SubI h xs ys (max n m) m' A (on + 1) c t41 t22 hh) hle lv_one1 rfl rfl hg0 (by omega) ?_
      intro A' c' h' o l _
      rintro _ rfl _ rfl _ rfl
      have hd : t / B32 ≤ 1 := by rw [hB]; omega
      rw [wdiv rfl (by omega), wi (n := k + 1) (by omega) (by omega), wu (a := 1 - ((t / B32 : Nat) : Int)) (n := 1 - t / B32) (by omega) (Nat.lt_of_le_of_lt (Nat.sub_le 1 _) (by decide))]
      refine ⟨_, by omega, k + 1, 1 - t / B32, gs ++ [t % B32], rfl, rfl, rfl, Nat.sub_le 1 _, by omega, by simp [hgl], mem_snoc32 hlt (modB t), ?_, o, l⟩
      rw [val_snoc32, hgl, val_take_succ', val_take_succ']
      exact rsub_step hv ht hd (Nat.pow_succ _ _)
    · have q' : k = max n m := by have := of_decide_eq_false q; omega
      have hg := val_lt (l := gs) hlt
      rw [hgl] at hg
      rw [val_take_le ys (by rw [w.len]; omega), val_take_le xs (by rw [u.len]; omega)] at hv
      have b0 : bN = 0 := by
        rcases Nat.eq_zero_or_pos bN with e | e
        · exact e
        · exfalso
          have : bN = 1 := by omega
          subst this
          omega
      subst b0
      refine (r1norm_c (own_is own hlt) (by omega)).mono ?_
      rintro _ h2 ⟨A', k', c', rfl, _, hN, hl⟩
      rw [show val gs = val xs - val ys from by omega] at hN
      exact ⟨_, _, _, rfl, Or.inr ⟨hyx, _, _, _, rfl, hN, hle.trans hl⟩⟩
end Go.Proofs.YtdpdaphholileaaGreatDoor
