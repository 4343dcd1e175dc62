/-
  Gathered texts of this proof: VcM, Cn13, Cn14.
-/
import Derived.Test.YtdpdaphholileaaGreatDoorG02
import Derived.Test.YtdpdaphholileaaGreatDoorChecked
import Derived.Test.YtdpdaphholileaaGreatDoorG04
import Derived.Test.YtdpdaphholileaaGreatDoorG08
import Derived.Test.YtdpdaphholileaaGreatDoorG06

/- Made by vcgen.py: verification conditions of functions, each held against the calculator by the kernel. -/
namespace Go.Proofs.YtdpdaphholileaaGreatDoor
open Go Go.Vcg

def ref17_Small_vc (e_0 : Int) (e_1 : Bool) (e_2A : Option Addr) (e_2n e_2c : Nat) (e_3A : Option Addr) (e_3n e_3c : Nat) (e_4 : ByteArray) (e_5A : Option Addr) (e_5n e_5c : Nat) (h : Heap) (R : Value → Heap → Prop) : Prop :=
 CallsU Tryz.prog 34 [Value.agg #[Value.int .i64 e_0, Value.bool e_1, Value.slice e_2A e_2n e_2c, Value.slice e_3A e_3n e_3c, Value.string e_4, Value.slice e_5A e_5n e_5c], Value.int .i64 60, Value.int .i64 20] h fun v h_1 =>
 ∃ t4 : Int, v = Value.int .i64 t4 ∧
 R (Value.bool (decide (t4 ≥ 0))) h_1

set_option maxRecDepth 100000 in
theorem ref17_Small_ok {e_0 : Int} {e_1 : Bool} {e_2A : Option Addr} {e_2n e_2c : Nat} {e_3A : Option Addr} {e_3n e_3c : Nat} {e_4 : ByteArray} {e_5A : Option Addr} {e_5n e_5c : Nat} {h : Heap} {R : Value → Heap → Prop} (hv : ref17_Small_vc e_0 e_1 e_2A e_2n e_2c e_3A e_3n e_3c e_4 e_5A e_5n e_5c h R) : CallsU Tryz.prog 11 [Value.agg #[Value.int .i64 e_0, Value.bool e_1, Value.slice e_2A e_2n e_2c, Value.slice e_3A e_3n e_3c, Value.string e_4, Value.slice e_5A e_5n e_5c]] h R :=
  fn_sound Tryz.func11 (by kernel_rfl) (by kernel_rfl) (by kernel_rfl) (fun _ => false) .nil [Value.agg #[Value.int .i64 e_0, Value.bool e_1, Value.slice e_2A e_2n e_2c, Value.slice e_3A e_3n e_3c, Value.string e_4, Value.slice e_5A e_5n e_5c]] h R (by kernel_rfl)
    (Eq.mp (show ref17_Small_vc e_0 e_1 e_2A e_2n e_2c e_3A e_3n e_3c e_4 e_5A e_5n e_5c h R = fnV Tryz.prog Tryz.f11 (fun _ => false) .nil [Value.agg #[Value.int .i64 e_0, Value.bool e_1, Value.slice e_2A e_2n e_2c, Value.slice e_3A e_3n e_3c, Value.string e_4, Value.slice e_5A e_5n e_5c]] h R by kernel_rfl) hv)

def ref17_Check_vc (e_0 : Int) (e_1 : Bool) (e_2A : Option Addr) (e_2n e_2c : Nat) (e_3A : Option Addr) (e_3n e_3c : Nat) (e_4 : ByteArray) (e_5A : Option Addr) (e_5n e_5c : Nat) (h : Heap) (R : Value → Heap → Prop) : Prop :=
 CallsU Tryz.prog 36 [Value.agg #[Value.int .i64 e_0, Value.bool e_1, Value.slice e_2A e_2n e_2c, Value.slice e_3A e_3n e_3c, Value.string e_4, Value.slice e_5A e_5n e_5c], Value.int .i64 1] h fun v h_1 =>
 ∃ t4 : Int, v = Value.int .i64 t4 ∧
 R (Value.int .i64 t4) h_1

set_option maxRecDepth 100000 in
theorem ref17_Check_ok {e_0 : Int} {e_1 : Bool} {e_2A : Option Addr} {e_2n e_2c : Nat} {e_3A : Option Addr} {e_3n e_3c : Nat} {e_4 : ByteArray} {e_5A : Option Addr} {e_5n e_5c : Nat} {h : Heap} {R : Value → Heap → Prop} (hv : ref17_Check_vc e_0 e_1 e_2A e_2n e_2c e_3A e_3n e_3c e_4 e_5A e_5n e_5c h R) : CallsU Tryz.prog 14 [Value.agg #[Value.int .i64 e_0, Value.bool e_1, Value.slice e_2A e_2n e_2c, Value.slice e_3A e_3n e_3c, Value.string e_4, Value.slice e_5A e_5n e_5c]] h R :=
  fn_sound Tryz.func14 (by kernel_rfl) (by kernel_rfl) (by kernel_rfl) (fun _ => false) .nil [Value.agg #[Value.int .i64 e_0, Value.bool e_1, Value.slice e_2A e_2n e_2c, Value.slice e_3A e_3n e_3c, Value.string e_4, Value.slice e_5A e_5n e_5c]] h R (by kernel_rfl)
    (Eq.mp (show ref17_Check_vc e_0 e_1 e_2A e_2n e_2c e_3A e_3n e_3c e_4 e_5A e_5n e_5c h R = fnV Tryz.prog Tryz.f14 (fun _ => false) .nil [Value.agg #[Value.int .i64 e_0, Value.bool e_1, Value.slice e_2A e_2n e_2c, Value.slice e_3A e_3n e_3c, Value.string e_4, Value.slice e_5A e_5n e_5c]] h R by kernel_rfl) hv)

def ref17_Names_vc (e_0 : Int) (e_1 : Bool) (e_2A : Option Addr) (e_2n e_2c : Nat) (e_3A : Option Addr) (e_3n e_3c : Nat) (e_4 : ByteArray) (e_5A : Option Addr) (e_5n e_5c : Nat) (h : Heap) (R : Value → Heap → Prop) : Prop :=
 CallsU Tryz.prog 40 [Value.slice none 0 0, Value.agg #[Value.int .i64 e_0, Value.bool e_1, Value.slice e_2A e_2n e_2c, Value.slice e_3A e_3n e_3c, Value.string e_4, Value.slice e_5A e_5n e_5c]] h fun v h_1 =>
 ∃ t4A : Option Addr, ∃ t4n t4c : Nat, v = Value.slice t4A t4n t4c ∧
 R (Value.slice t4A t4n t4c) h_1

set_option maxRecDepth 100000 in
theorem ref17_Names_ok {e_0 : Int} {e_1 : Bool} {e_2A : Option Addr} {e_2n e_2c : Nat} {e_3A : Option Addr} {e_3n e_3c : Nat} {e_4 : ByteArray} {e_5A : Option Addr} {e_5n e_5c : Nat} {h : Heap} {R : Value → Heap → Prop} (hv : ref17_Names_vc e_0 e_1 e_2A e_2n e_2c e_3A e_3n e_3c e_4 e_5A e_5n e_5c h R) : CallsU Tryz.prog 17 [Value.agg #[Value.int .i64 e_0, Value.bool e_1, Value.slice e_2A e_2n e_2c, Value.slice e_3A e_3n e_3c, Value.string e_4, Value.slice e_5A e_5n e_5c]] h R :=
  fn_sound Tryz.func17 (by kernel_rfl) (by kernel_rfl) (by kernel_rfl) (fun _ => false) .nil [Value.agg #[Value.int .i64 e_0, Value.bool e_1, Value.slice e_2A e_2n e_2c, Value.slice e_3A e_3n e_3c, Value.string e_4, Value.slice e_5A e_5n e_5c]] h R (by kernel_rfl)
    (Eq.mp (show ref17_Names_vc e_0 e_1 e_2A e_2n e_2c e_3A e_3n e_3c e_4 e_5A e_5n e_5c h R = fnV Tryz.prog Tryz.f17 (fun _ => false) .nil [Value.agg #[Value.int .i64 e_0, Value.bool e_1, Value.slice e_2A e_2n e_2c, Value.slice e_3A e_3n e_3c, Value.string e_4, Value.slice e_5A e_5n e_5c]] h R by kernel_rfl) hv)

def ref17_Brief_vc (envA : Option Addr) (envn _envc : Nat) (h : Heap) (R : Value → Heap → Prop) : Prop :=
 ∃ J : Nat → Int → Heap → Prop, (∃ m, J m 0 h) ∧
 ∀ (m : Nat) (i : Int) (h_1 : Heap), J m i h_1 →
 ∃ C : Bool → Heap → Prop, (∀ (t11 : Bool) (h_2 : Heap), C t11 h_2 →
 Br (t11)
  (∃ ad : Addr, envA = some ad ∧ 0 ≤ i ∧ i < ((envn : Nat) : Int) ∧
 ∃ t18 : ByteArray, LdN h_2 (Addr.add (Addr.add ad (Int.toNat i * 4)) 0) [Value.string t18] ∧
 Br (decide (((t18.size : Nat) : Int) > 60))
  (R (Value.bool false) h_2)
  (∃ ad_1 : Addr, envA = some ad_1 ∧ 0 ≤ i ∧ i < ((envn : Nat) : Int) ∧
 ∃ t28A : Option Addr, ∃ t28n t28c : Nat, LdN h_2 (Addr.add (Addr.add (Addr.add (Addr.add ad_1 (Int.toNat i * 4)) 1) 0) 1) [Value.slice t28A t28n t28c] ∧
 Br (decide (((t28n : Nat) : Int) > 2))
  (R (Value.bool false) h_2)
  (∃ ad_2 : Addr, envA = some ad_2 ∧ 0 ≤ i ∧ i < ((envn : Nat) : Int) ∧
 ∃ t38A : Option Addr, ∃ t38n t38c : Nat, LdN h_2 (Addr.add (Addr.add (Addr.add ad_2 (Int.toNat i * 4)) 1) 2) [Value.slice t38A t38n t38c] ∧
 Br (decide (((t38n : Nat) : Int) > 2))
  (R (Value.bool false) h_2)
  (∀ t13 : Int, t13 = IntKind.i64.wrap (i + 1) →
 ∃ m_1, m_1 < m ∧ J m_1 t13 h_2))))
  (R (Value.bool (decide (((envn : Nat) : Int) ≤ 20))) h_2)) ∧
 Br (decide (i < ((envn : Nat) : Int)))
  (C (decide (i ≤ 20)) h_1)
  (C false h_1)

set_option maxRecDepth 100000 in
theorem ref17_Brief_ok {envA : Option Addr} {envn envc : Nat} {h : Heap} {R : Value → Heap → Prop} (hv : ref17_Brief_vc envA envn envc h R) : CallsU Tryz.prog 24 [Value.slice envA envn envc] h R :=
  fn_sound Tryz.func24 (by kernel_rfl) (by kernel_rfl) (by kernel_rfl) (fun _ => false) (.two .nil (.two (.two .nil (.one (.loop ⟨[(3, Sh.int .i64)], []⟩ (.two (.cut ⟨[(11, Sh.bool)], []⟩ .nil .nil) .nil)))) .nil)) [Value.slice envA envn envc] h R (by kernel_rfl)
    (Eq.mp (show ref17_Brief_vc envA envn envc h R = fnV Tryz.prog Tryz.f24 (fun _ => false) (.two .nil (.two (.two .nil (.one (.loop ⟨[(3, Sh.int .i64)], []⟩ (.two (.cut ⟨[(11, Sh.bool)], []⟩ .nil .nil) .nil)))) .nil)) [Value.slice envA envn envc] h R by kernel_rfl) hv)

def ref08_SameRatio_vc (a_0 : Bool) (a_1A : Option Addr) (a_1n a_1c : Nat) (a_2A : Option Addr) (a_2n a_2c : Nat) (b_0 : Bool) (b_1A : Option Addr) (b_1n b_1c : Nat) (b_2A : Option Addr) (b_2n b_2c : Nat) (h : Heap) (R : Value → Heap → Prop) : Prop :=
 CallsU Tryz.prog 53 [Value.agg #[Value.bool a_0, Value.slice a_1A a_1n a_1c], Value.agg #[Value.bool b_0, Value.slice b_1A b_1n b_1c]] h fun v h_1 =>
 ∃ t9 : Bool, v = Value.bool t9 ∧
 Br (t9)
  (CallsU Tryz.prog 54 [Value.slice a_2A a_2n a_2c, Value.slice b_2A b_2n b_2c] h_1 fun v_1 h_2 =>
 ∃ t15 : Bool, v_1 = Value.bool t15 ∧
 R (Value.bool t15) h_2)
  (R (Value.bool false) h_1)

set_option maxRecDepth 100000 in
theorem ref08_SameRatio_ok {a_0 : Bool} {a_1A : Option Addr} {a_1n a_1c : Nat} {a_2A : Option Addr} {a_2n a_2c : Nat} {b_0 : Bool} {b_1A : Option Addr} {b_1n b_1c : Nat} {b_2A : Option Addr} {b_2n b_2c : Nat} {h : Heap} {R : Value → Heap → Prop} (hv : ref08_SameRatio_vc a_0 a_1A a_1n a_1c a_2A a_2n a_2c b_0 b_1A b_1n b_1c b_2A b_2n b_2c h R) : CallsU Tryz.prog 27 [Value.agg #[Value.bool a_0, Value.slice a_1A a_1n a_1c, Value.slice a_2A a_2n a_2c], Value.agg #[Value.bool b_0, Value.slice b_1A b_1n b_1c, Value.slice b_2A b_2n b_2c]] h R :=
  fn_sound Tryz.func27 (by kernel_rfl) (by kernel_rfl) (by kernel_rfl) (fun _ => false) .nil [Value.agg #[Value.bool a_0, Value.slice a_1A a_1n a_1c, Value.slice a_2A a_2n a_2c], Value.agg #[Value.bool b_0, Value.slice b_1A b_1n b_1c, Value.slice b_2A b_2n b_2c]] h R (by kernel_rfl)
    (Eq.mp (show ref08_SameRatio_vc a_0 a_1A a_1n a_1c a_2A a_2n a_2c b_0 b_1A b_1n b_1c b_2A b_2n b_2c h R = fnV Tryz.prog Tryz.f27 (fun _ => false) .nil [Value.agg #[Value.bool a_0, Value.slice a_1A a_1n a_1c, Value.slice a_2A a_2n a_2c], Value.agg #[Value.bool b_0, Value.slice b_1A b_1n b_1c, Value.slice b_2A b_2n b_2c]] h R by kernel_rfl) hv)

def ref17_Left_vc (_e_0 : Int) (_e_1 : Bool) (_e_2A : Option Addr) (e_2n _e_2c : Nat) (_e_3A : Option Addr) (e_3n _e_3c : Nat) (e_4 : ByteArray) (e_5A : Option Addr) (e_5n _e_5c : Nat) (most : Int) (deep : Int) (h : Heap) (R : Value → Heap → Prop) : Prop :=
 ∃ C : Bool → Heap → Prop, (∀ (t34 : Bool) (h_1 : Heap), C t34 h_1 →
 Br (t34)
  (R (Value.int .i64 (-1)) h_1)
  (∀ t36 : Int, t36 = IntKind.i64.wrap (most - 1) →
 ∃ J : Nat → Int → Int → Heap → Prop, (∃ m, J m t36 0 h_1) ∧
 ∀ (m : Nat) (most_1 : Int) (i : Int) (h_2 : Heap), J m most_1 i h_2 →
 ∃ C_1 : Bool → Heap → Prop, (∀ (t45 : Bool) (h_3 : Heap), C_1 t45 h_3 →
 Br (t45)
  (∃ ad : Addr, e_5A = some ad ∧ 0 ≤ i ∧ i < ((e_5n : Nat) : Int) ∧
 ∃ t52_0 : Int, ∃ t52_1 : Bool, ∃ t52_2A : Option Addr, ∃ t52_2n t52_2c : Nat, ∃ t52_3A : Option Addr, ∃ t52_3n t52_3c : Nat, ∃ t52_4 : ByteArray, ∃ t52_5A : Option Addr, ∃ t52_5n t52_5c : Nat, LdN h_3 (Addr.add ad (Int.toNat i * 6)) [Value.int .i64 t52_0, Value.bool t52_1, Value.slice t52_2A t52_2n t52_2c, Value.slice t52_3A t52_3n t52_3c, Value.string t52_4, Value.slice t52_5A t52_5n t52_5c] ∧
 ∀ t55 : Int, t55 = IntKind.i64.wrap (deep - 1) →
 CallsU Tryz.prog 34 [Value.agg #[Value.int .i64 t52_0, Value.bool t52_1, Value.slice t52_2A t52_2n t52_2c, Value.slice t52_3A t52_3n t52_3c, Value.string t52_4, Value.slice t52_5A t52_5n t52_5c], Value.int .i64 most_1, Value.int .i64 t55] h_3 fun v h_4 =>
 ∃ t56 : Int, v = Value.int .i64 t56 ∧
 ∀ t47 : Int, t47 = IntKind.i64.wrap (i + 1) →
 ∃ m_1, m_1 < m ∧ J m_1 t56 t47 h_4)
  (R (Value.int .i64 most_1) h_3)) ∧
 Br (decide (i < ((e_5n : Nat) : Int)))
  (C_1 (decide (most_1 ≥ 0)) h_2)
  (C_1 false h_2))) ∧
 Br (decide (most < 1))
  (C true h)
  (Br (decide (deep < 1))
  (C true h)
  (Br (decide (((e_4.size : Nat) : Int) > 60))
  (C true h)
  (Br (decide (((e_2n : Nat) : Int) > 4))
  (C true h)
  (C (decide (((e_3n : Nat) : Int) > 4)) h))))

set_option maxRecDepth 100000 in
theorem ref17_Left_ok {e_0 : Int} {e_1 : Bool} {e_2A : Option Addr} {e_2n e_2c : Nat} {e_3A : Option Addr} {e_3n e_3c : Nat} {e_4 : ByteArray} {e_5A : Option Addr} {e_5n e_5c : Nat} {most : Int} {deep : Int} {h : Heap} {R : Value → Heap → Prop} (hv : ref17_Left_vc e_0 e_1 e_2A e_2n e_2c e_3A e_3n e_3c e_4 e_5A e_5n e_5c most deep h R) : CallsU Tryz.prog 34 [Value.agg #[Value.int .i64 e_0, Value.bool e_1, Value.slice e_2A e_2n e_2c, Value.slice e_3A e_3n e_3c, Value.string e_4, Value.slice e_5A e_5n e_5c], Value.int .i64 most, Value.int .i64 deep] h R :=
  fn_sound Tryz.func34 (by kernel_rfl) (by kernel_rfl) (by kernel_rfl) (fun _ => false) (.two .nil (.two (.cut ⟨[(34, Sh.bool)], []⟩ .nil .nil) (.two .nil (.two (.two .nil (.one (.loop ⟨[(1, Sh.int .i64), (7, Sh.int .i64)], []⟩ (.two (.cut ⟨[(45, Sh.bool)], []⟩ .nil .nil) .nil)))) .nil)))) [Value.agg #[Value.int .i64 e_0, Value.bool e_1, Value.slice e_2A e_2n e_2c, Value.slice e_3A e_3n e_3c, Value.string e_4, Value.slice e_5A e_5n e_5c], Value.int .i64 most, Value.int .i64 deep] h R (by kernel_rfl)
    (Eq.mp (show ref17_Left_vc e_0 e_1 e_2A e_2n e_2c e_3A e_3n e_3c e_4 e_5A e_5n e_5c most deep h R = fnV Tryz.prog Tryz.f34 (fun _ => false) (.two .nil (.two (.cut ⟨[(34, Sh.bool)], []⟩ .nil .nil) (.two .nil (.two (.two .nil (.one (.loop ⟨[(1, Sh.int .i64), (7, Sh.int .i64)], []⟩ (.two (.cut ⟨[(45, Sh.bool)], []⟩ .nil .nil) .nil)))) .nil)))) [Value.agg #[Value.int .i64 e_0, Value.bool e_1, Value.slice e_2A e_2n e_2c, Value.slice e_3A e_3n e_3c, Value.string e_4, Value.slice e_5A e_5n e_5c], Value.int .i64 most, Value.int .i64 deep] h R by kernel_rfl) hv)

def ref17_check_vc (e_0 : Int) (e_1 : Bool) (e_2A : Option Addr) (e_2n e_2c : Nat) (e_3A : Option Addr) (e_3n e_3c : Nat) (e_4 : ByteArray) (e_5A : Option Addr) (e_5n e_5c : Nat) (level : Int) (h : Heap) (R : Value → Heap → Prop) : Prop :=
 Br (decide (level > 12))
  (R (Value.int .i64 5) h)
  (CallsU Tryz.prog 65 [Value.agg #[Value.int .i64 e_0, Value.bool e_1, Value.slice e_2A e_2n e_2c, Value.slice e_3A e_3n e_3c, Value.string e_4, Value.slice e_5A e_5n e_5c]] h fun v h_1 =>
 ∃ t10 : Bool, v = Value.bool t10 ∧
 Br (!t10)
  (R (Value.int .i64 1) h_1)
  (∃ J : Nat → Int → Heap → Prop, (∃ m, J m 0 h_1) ∧
 ∀ (m : Nat) (i : Int) (h_2 : Heap), J m i h_2 →
 Br (decide (i < ((e_5n : Nat) : Int)))
  (∃ ad : Addr, e_5A = some ad ∧ 0 ≤ i ∧ i < ((e_5n : Nat) : Int) ∧
 ∃ t23_0 : Int, ∃ t23_1 : Bool, ∃ t23_2A : Option Addr, ∃ t23_2n t23_2c : Nat, ∃ t23_3A : Option Addr, ∃ t23_3n t23_3c : Nat, ∃ t23_4 : ByteArray, ∃ t23_5A : Option Addr, ∃ t23_5n t23_5c : Nat, LdN h_2 (Addr.add ad (Int.toNat i * 6)) [Value.int .i64 t23_0, Value.bool t23_1, Value.slice t23_2A t23_2n t23_2c, Value.slice t23_3A t23_3n t23_3c, Value.string t23_4, Value.slice t23_5A t23_5n t23_5c] ∧
 ∀ t25 : Int, t25 = IntKind.i64.wrap (level + 1) →
 CallsU Tryz.prog 36 [Value.agg #[Value.int .i64 t23_0, Value.bool t23_1, Value.slice t23_2A t23_2n t23_2c, Value.slice t23_3A t23_3n t23_3c, Value.string t23_4, Value.slice t23_5A t23_5n t23_5c], Value.int .i64 t25] h_2 fun v_1 h_3 =>
 ∃ t26 : Int, v_1 = Value.int .i64 t26 ∧
 Br ((t26 : Int) != 0)
  (R (Value.int .i64 t26) h_3)
  (∀ t18 : Int, t18 = IntKind.i64.wrap (i + 1) →
 ∃ m_1, m_1 < m ∧ J m_1 t18 h_3))
  (R (Value.int .i64 0) h_2)))

set_option maxRecDepth 100000 in
theorem ref17_check_ok {e_0 : Int} {e_1 : Bool} {e_2A : Option Addr} {e_2n e_2c : Nat} {e_3A : Option Addr} {e_3n e_3c : Nat} {e_4 : ByteArray} {e_5A : Option Addr} {e_5n e_5c : Nat} {level : Int} {h : Heap} {R : Value → Heap → Prop} (hv : ref17_check_vc e_0 e_1 e_2A e_2n e_2c e_3A e_3n e_3c e_4 e_5A e_5n e_5c level h R) : CallsU Tryz.prog 36 [Value.agg #[Value.int .i64 e_0, Value.bool e_1, Value.slice e_2A e_2n e_2c, Value.slice e_3A e_3n e_3c, Value.string e_4, Value.slice e_5A e_5n e_5c], Value.int .i64 level] h R :=
  fn_sound Tryz.func36 (by kernel_rfl) (by kernel_rfl) (by kernel_rfl) (fun _ => false) (.two .nil (.two .nil (.two .nil (.two (.two .nil (.one (.loop ⟨[(5, Sh.int .i64)], []⟩ .nil))) .nil)))) [Value.agg #[Value.int .i64 e_0, Value.bool e_1, Value.slice e_2A e_2n e_2c, Value.slice e_3A e_3n e_3c, Value.string e_4, Value.slice e_5A e_5n e_5c], Value.int .i64 level] h R (by kernel_rfl)
    (Eq.mp (show ref17_check_vc e_0 e_1 e_2A e_2n e_2c e_3A e_3n e_3c e_4 e_5A e_5n e_5c level h R = fnV Tryz.prog Tryz.f36 (fun _ => false) (.two .nil (.two .nil (.two .nil (.two (.two .nil (.one (.loop ⟨[(5, Sh.int .i64)], []⟩ .nil))) .nil)))) [Value.agg #[Value.int .i64 e_0, Value.bool e_1, Value.slice e_2A e_2n e_2c, Value.slice e_3A e_3n e_3c, Value.string e_4, Value.slice e_5A e_5n e_5c], Value.int .i64 level] h R by kernel_rfl) hv)

def ref17_names_vc (lA : Option Addr) (ln lc : Nat) (e_0 : Int) (_e_1 : Bool) (_e_2A : Option Addr) (_e_2n _e_2c : Nat) (_e_3A : Option Addr) (_e_3n _e_3c : Nat) (e_4 : ByteArray) (e_5A : Option Addr) (e_5n _e_5c : Nat) (h : Heap) (R : Value → Heap → Prop) : Prop :=
 ∃ C : Option Addr → Nat → Nat → Heap → Prop, (∀ (lA_1 : Option Addr) (ln_1 lc_1 : Nat) (h_1 : Heap), C lA_1 ln_1 lc_1 h_1 →
 ∃ J : Nat → Option Addr → Nat → Nat → Int → Heap → Prop, (∃ m, J m lA_1 ln_1 lc_1 0 h_1) ∧
 ∀ (m : Nat) (lA_2 : Option Addr) (ln_2 lc_2 : Nat) (i : Int) (h_2 : Heap), J m lA_2 ln_2 lc_2 i h_2 →
 Br (decide (i < ((e_5n : Nat) : Int)))
  (∃ ad : Addr, e_5A = some ad ∧ 0 ≤ i ∧ i < ((e_5n : Nat) : Int) ∧
 ∃ t25_0 : Int, ∃ t25_1 : Bool, ∃ t25_2A : Option Addr, ∃ t25_2n t25_2c : Nat, ∃ t25_3A : Option Addr, ∃ t25_3n t25_3c : Nat, ∃ t25_4 : ByteArray, ∃ t25_5A : Option Addr, ∃ t25_5n t25_5c : Nat, LdN h_2 (Addr.add ad (Int.toNat i * 6)) [Value.int .i64 t25_0, Value.bool t25_1, Value.slice t25_2A t25_2n t25_2c, Value.slice t25_3A t25_3n t25_3c, Value.string t25_4, Value.slice t25_5A t25_5n t25_5c] ∧
 CallsU Tryz.prog 40 [Value.slice lA_2 ln_2 lc_2, Value.agg #[Value.int .i64 t25_0, Value.bool t25_1, Value.slice t25_2A t25_2n t25_2c, Value.slice t25_3A t25_3n t25_3c, Value.string t25_4, Value.slice t25_5A t25_5n t25_5c]] h_2 fun v h_3 =>
 ∃ t26A : Option Addr, ∃ t26n t26c : Nat, v = Value.slice t26A t26n t26c ∧
 ∀ t19 : Int, t19 = IntKind.i64.wrap (i + 1) →
 ∃ m_1, m_1 < m ∧ J m_1 t26A t26n t26c t19 h_3)
  (R (Value.slice lA_2 ln_2 lc_2) h_2)) ∧
 Br ((e_0 : Int) == 2)
  (CallsU Tryz.prog 68 [Value.slice lA ln lc, Value.string e_4] h fun v_1 h_4 =>
 ∃ t12A : Option Addr, ∃ t12n t12c : Nat, v_1 = Value.slice t12A t12n t12c ∧
 C t12A t12n t12c h_4)
  (C lA ln lc h)

set_option maxRecDepth 100000 in
theorem ref17_names_ok {lA : Option Addr} {ln lc : Nat} {e_0 : Int} {e_1 : Bool} {e_2A : Option Addr} {e_2n e_2c : Nat} {e_3A : Option Addr} {e_3n e_3c : Nat} {e_4 : ByteArray} {e_5A : Option Addr} {e_5n e_5c : Nat} {h : Heap} {R : Value → Heap → Prop} (hv : ref17_names_vc lA ln lc e_0 e_1 e_2A e_2n e_2c e_3A e_3n e_3c e_4 e_5A e_5n e_5c h R) : CallsU Tryz.prog 40 [Value.slice lA ln lc, Value.agg #[Value.int .i64 e_0, Value.bool e_1, Value.slice e_2A e_2n e_2c, Value.slice e_3A e_3n e_3c, Value.string e_4, Value.slice e_5A e_5n e_5c]] h R :=
  fn_sound Tryz.func40 (by kernel_rfl) (by kernel_rfl) (by kernel_rfl) (fun _ => false) (.two .nil (.cut ⟨[(0, Sh.slice)], []⟩ .nil (.two (.two .nil (.one (.loop ⟨[(0, Sh.slice), (5, Sh.int .i64)], []⟩ .nil))) .nil))) [Value.slice lA ln lc, Value.agg #[Value.int .i64 e_0, Value.bool e_1, Value.slice e_2A e_2n e_2c, Value.slice e_3A e_3n e_3c, Value.string e_4, Value.slice e_5A e_5n e_5c]] h R (by kernel_rfl)
    (Eq.mp (show ref17_names_vc lA ln lc e_0 e_1 e_2A e_2n e_2c e_3A e_3n e_3c e_4 e_5A e_5n e_5c h R = fnV Tryz.prog Tryz.f40 (fun _ => false) (.two .nil (.cut ⟨[(0, Sh.slice)], []⟩ .nil (.two (.two .nil (.one (.loop ⟨[(0, Sh.slice), (5, Sh.int .i64)], []⟩ .nil))) .nil))) [Value.slice lA ln lc, Value.agg #[Value.int .i64 e_0, Value.bool e_1, Value.slice e_2A e_2n e_2c, Value.slice e_3A e_3n e_3c, Value.string e_4, Value.slice e_5A e_5n e_5c]] h R by kernel_rfl) hv)

def ref03_Cmp_vc (a_0 : Bool) (a_1A : Option Addr) (a_1n a_1c : Nat) (a_2A : Option Addr) (a_2n a_2c : Nat) (b_0 : Bool) (b_1A : Option Addr) (b_1n b_1c : Nat) (b_2A : Option Addr) (b_2n b_2c : Nat) (h : Heap) (R : Value → Heap → Prop) : Prop :=
 CallsU Tryz.prog 48 [Value.agg #[Value.bool a_0, Value.slice a_1A a_1n a_1c, Value.slice a_2A a_2n a_2c]] h fun v h_1 =>
 ∃ t8_0 : Bool, ∃ t8_1A : Option Addr, ∃ t8_1n t8_1c : Nat, ∃ t8_2A : Option Addr, ∃ t8_2n t8_2c : Nat, v = Value.agg #[Value.bool t8_0, Value.slice t8_1A t8_1n t8_1c, Value.slice t8_2A t8_2n t8_2c] ∧
 LeH h h_1 ∧
 CallsU Tryz.prog 48 [Value.agg #[Value.bool b_0, Value.slice b_1A b_1n b_1c, Value.slice b_2A b_2n b_2c]] h_1 fun v_1 h_2 =>
 ∃ t10_0 : Bool, ∃ t10_1A : Option Addr, ∃ t10_1n t10_1c : Nat, ∃ t10_2A : Option Addr, ∃ t10_2n t10_2c : Nat, v_1 = Value.agg #[Value.bool t10_0, Value.slice t10_1A t10_1n t10_1c, Value.slice t10_2A t10_2n t10_2c] ∧
 CallsU Tryz.prog 76 [Value.agg #[Value.bool t8_0, Value.slice t8_1A t8_1n t8_1c], Value.agg #[Value.bool false, Value.slice t10_2A t10_2n t10_2c]] h_2 fun v_2 h_3 =>
 ∃ t16_0 : Bool, ∃ t16_1A : Option Addr, ∃ t16_1n t16_1c : Nat, v_2 = Value.agg #[Value.bool t16_0, Value.slice t16_1A t16_1n t16_1c] ∧
 LeH h_2 h_3 ∧
 CallsU Tryz.prog 76 [Value.agg #[Value.bool t10_0, Value.slice t10_1A t10_1n t10_1c], Value.agg #[Value.bool false, Value.slice t8_2A t8_2n t8_2c]] h_3 fun v_3 h_4 =>
 ∃ t22_0 : Bool, ∃ t22_1A : Option Addr, ∃ t22_1n t22_1c : Nat, v_3 = Value.agg #[Value.bool t22_0, Value.slice t22_1A t22_1n t22_1c] ∧
 CallsU Tryz.prog 75 [Value.agg #[Value.bool t16_0, Value.slice t16_1A t16_1n t16_1c], Value.agg #[Value.bool t22_0, Value.slice t22_1A t22_1n t22_1c]] h_4 fun v_4 h_5 =>
 ∃ t23 : Int, v_4 = Value.int .i64 t23 ∧
 R (Value.int .i64 t23) h_5

set_option maxRecDepth 100000 in
theorem ref03_Cmp_ok {a_0 : Bool} {a_1A : Option Addr} {a_1n a_1c : Nat} {a_2A : Option Addr} {a_2n a_2c : Nat} {b_0 : Bool} {b_1A : Option Addr} {b_1n b_1c : Nat} {b_2A : Option Addr} {b_2n b_2c : Nat} {h : Heap} {R : Value → Heap → Prop} (hv : ref03_Cmp_vc a_0 a_1A a_1n a_1c a_2A a_2n a_2c b_0 b_1A b_1n b_1c b_2A b_2n b_2c h R) : CallsU Tryz.prog 47 [Value.agg #[Value.bool a_0, Value.slice a_1A a_1n a_1c, Value.slice a_2A a_2n a_2c], Value.agg #[Value.bool b_0, Value.slice b_1A b_1n b_1c, Value.slice b_2A b_2n b_2c]] h R :=
  fn_sound Tryz.func47 (by kernel_rfl) (by kernel_rfl) (by kernel_rfl) (fun _ => false) (.two .nil (.two (.ord [0, 2, 1, 3, 4, 5, 6, 7]) (.two (.ord [0, 1, 2, 3, 4, 6, 7, 8, 9, 10, 5, 11, 12, 13]) .nil))) [Value.agg #[Value.bool a_0, Value.slice a_1A a_1n a_1c, Value.slice a_2A a_2n a_2c], Value.agg #[Value.bool b_0, Value.slice b_1A b_1n b_1c, Value.slice b_2A b_2n b_2c]] h R (by kernel_rfl)
    (Eq.mp (show ref03_Cmp_vc a_0 a_1A a_1n a_1c a_2A a_2n a_2c b_0 b_1A b_1n b_1c b_2A b_2n b_2c h R = fnV Tryz.prog Tryz.f47 (fun _ => false) (.two .nil (.two (.ord [0, 2, 1, 3, 4, 5, 6, 7]) (.two (.ord [0, 1, 2, 3, 4, 6, 7, 8, 9, 10, 5, 11, 12, 13]) .nil))) [Value.agg #[Value.bool a_0, Value.slice a_1A a_1n a_1c, Value.slice a_2A a_2n a_2c], Value.agg #[Value.bool b_0, Value.slice b_1A b_1n b_1c, Value.slice b_2A b_2n b_2c]] h R by kernel_rfl) hv)

def ref03_Norm_vc (a_0 : Bool) (a_1A : Option Addr) (a_1n a_1c : Nat) (a_2A : Option Addr) (a_2n a_2c : Nat) (h : Heap) (R : Value → Heap → Prop) : Prop :=
 CallsU Tryz.prog 77 [Value.agg #[Value.bool a_0, Value.slice a_1A a_1n a_1c, Value.slice a_2A a_2n a_2c]] h fun v h_1 =>
 ∃ t4 : Bool, v = Value.bool t4 ∧
 Br (t4)
  (CallsU Tryz.prog 78 [Value.int .i64 0] h_1 fun v_1 h_2 =>
 ∃ t5_0 : Bool, ∃ t5_1A : Option Addr, ∃ t5_1n t5_1c : Nat, ∃ t5_2A : Option Addr, ∃ t5_2n t5_2c : Nat, v_1 = Value.agg #[Value.bool t5_0, Value.slice t5_1A t5_1n t5_1c, Value.slice t5_2A t5_2n t5_2c] ∧
 R (Value.agg #[Value.bool t5_0, Value.slice t5_1A t5_1n t5_1c, Value.slice t5_2A t5_2n t5_2c]) h_2)
  (CallsU Tryz.prog 79 [Value.bool a_0, Value.slice a_1A a_1n a_1c, Value.slice a_2A a_2n a_2c] h_1 fun v_2 h_3 =>
 ∃ t14_0 : Bool, ∃ t14_1A : Option Addr, ∃ t14_1n t14_1c : Nat, ∃ t14_2A : Option Addr, ∃ t14_2n t14_2c : Nat, v_2 = Value.agg #[Value.bool t14_0, Value.slice t14_1A t14_1n t14_1c, Value.slice t14_2A t14_2n t14_2c] ∧
 R (Value.agg #[Value.bool t14_0, Value.slice t14_1A t14_1n t14_1c, Value.slice t14_2A t14_2n t14_2c]) h_3)

set_option maxRecDepth 100000 in
theorem ref03_Norm_ok {a_0 : Bool} {a_1A : Option Addr} {a_1n a_1c : Nat} {a_2A : Option Addr} {a_2n a_2c : Nat} {h : Heap} {R : Value → Heap → Prop} (hv : ref03_Norm_vc a_0 a_1A a_1n a_1c a_2A a_2n a_2c h R) : CallsU Tryz.prog 48 [Value.agg #[Value.bool a_0, Value.slice a_1A a_1n a_1c, Value.slice a_2A a_2n a_2c]] h R :=
  fn_sound Tryz.func48 (by kernel_rfl) (by kernel_rfl) (by kernel_rfl) (fun _ => false) .nil [Value.agg #[Value.bool a_0, Value.slice a_1A a_1n a_1c, Value.slice a_2A a_2n a_2c]] h R (by kernel_rfl)
    (Eq.mp (show ref03_Norm_vc a_0 a_1A a_1n a_1c a_2A a_2n a_2c h R = fnV Tryz.prog Tryz.f48 (fun _ => false) .nil [Value.agg #[Value.bool a_0, Value.slice a_1A a_1n a_1c, Value.slice a_2A a_2n a_2c]] h R by kernel_rfl) hv)

def ref02_Same_vc (a_0 : Bool) (a_1A : Option Addr) (a_1n _a_1c : Nat) (b_0 : Bool) (b_1A : Option Addr) (b_1n _b_1c : Nat) (h : Heap) (R : Value → Heap → Prop) : Prop :=
 ∃ C : Bool → Heap → Prop, (∀ (t19 : Bool) (h_1 : Heap), C t19 h_1 →
 Br (t19)
  (R (Value.bool false) h_1)
  (∃ J : Nat → Int → Heap → Prop, (∃ m, J m 0 h_1) ∧
 ∀ (m : Nat) (i : Int) (h_2 : Heap), J m i h_2 →
 Br (decide (i < ((a_1n : Nat) : Int)))
  (∃ ad : Addr, a_1A = some ad ∧ 0 ≤ i ∧ i < ((a_1n : Nat) : Int) ∧
 ∃ t31 : Int, LdN h_2 (Addr.add ad (Int.toNat i * 1)) [Value.int .u32 t31] ∧
 ∃ ad_1 : Addr, b_1A = some ad_1 ∧ 0 ≤ i ∧ i < ((b_1n : Nat) : Int) ∧
 ∃ t36 : Int, LdN h_2 (Addr.add ad_1 (Int.toNat i * 1)) [Value.int .u32 t36] ∧
 Br ((t31 : Int) != t36)
  (R (Value.bool false) h_2)
  (∀ t26 : Int, t26 = IntKind.i64.wrap (i + 1) →
 ∃ m_1, m_1 < m ∧ J m_1 t26 h_2))
  (R (Value.bool true) h_2))) ∧
 Br (!(a_0 == b_0))
  (C true h)
  (C ((((a_1n : Nat) : Int) : Int) != ((b_1n : Nat) : Int)) h)

set_option maxRecDepth 100000 in
theorem ref02_Same_ok {a_0 : Bool} {a_1A : Option Addr} {a_1n a_1c : Nat} {b_0 : Bool} {b_1A : Option Addr} {b_1n b_1c : Nat} {h : Heap} {R : Value → Heap → Prop} (hv : ref02_Same_vc a_0 a_1A a_1n a_1c b_0 b_1A b_1n b_1c h R) : CallsU Tryz.prog 53 [Value.agg #[Value.bool a_0, Value.slice a_1A a_1n a_1c], Value.agg #[Value.bool b_0, Value.slice b_1A b_1n b_1c]] h R :=
  fn_sound Tryz.func53 (by kernel_rfl) (by kernel_rfl) (by kernel_rfl) (fun _ => false) (.two .nil (.two (.cut ⟨[(19, Sh.bool)], []⟩ .nil .nil) (.two (.two .nil (.one (.loop ⟨[(5, Sh.int .i64)], []⟩ (.two .nil (.two (.one (.two (.ord [0, 1, 2, 3, 4, 5, 6, 7, 8, 9, 10]) .nil)) .nil))))) .nil))) [Value.agg #[Value.bool a_0, Value.slice a_1A a_1n a_1c], Value.agg #[Value.bool b_0, Value.slice b_1A b_1n b_1c]] h R (by kernel_rfl)
    (Eq.mp (show ref02_Same_vc a_0 a_1A a_1n a_1c b_0 b_1A b_1n b_1c h R = fnV Tryz.prog Tryz.f53 (fun _ => false) (.two .nil (.two (.cut ⟨[(19, Sh.bool)], []⟩ .nil .nil) (.two (.two .nil (.one (.loop ⟨[(5, Sh.int .i64)], []⟩ (.two .nil (.two (.one (.two (.ord [0, 1, 2, 3, 4, 5, 6, 7, 8, 9, 10]) .nil)) .nil))))) .nil))) [Value.agg #[Value.bool a_0, Value.slice a_1A a_1n a_1c], Value.agg #[Value.bool b_0, Value.slice b_1A b_1n b_1c]] h R by kernel_rfl) hv)

def ref08_sameNat_vc (aA : Option Addr) (an _ac : Nat) (bA : Option Addr) (bn _bc : Nat) (h : Heap) (R : Value → Heap → Prop) : Prop :=
 Br ((((an : Nat) : Int) : Int) != ((bn : Nat) : Int))
  (R (Value.bool false) h)
  (∃ J : Nat → Int → Heap → Prop, (∃ m, J m 0 h) ∧
 ∀ (m : Nat) (i : Int) (h_1 : Heap), J m i h_1 →
 Br (decide (i < ((an : Nat) : Int)))
  (∃ ad : Addr, aA = some ad ∧ 0 ≤ i ∧ i < ((an : Nat) : Int) ∧
 ∃ t20 : Int, LdN h_1 (Addr.add ad (Int.toNat i * 1)) [Value.int .u32 t20] ∧
 ∃ ad_1 : Addr, bA = some ad_1 ∧ 0 ≤ i ∧ i < ((bn : Nat) : Int) ∧
 ∃ t24 : Int, LdN h_1 (Addr.add ad_1 (Int.toNat i * 1)) [Value.int .u32 t24] ∧
 Br ((t20 : Int) != t24)
  (R (Value.bool false) h_1)
  (∀ t16 : Int, t16 = IntKind.i64.wrap (i + 1) →
 ∃ m_1, m_1 < m ∧ J m_1 t16 h_1))
  (R (Value.bool true) h_1))

set_option maxRecDepth 100000 in
theorem ref08_sameNat_ok {aA : Option Addr} {an ac : Nat} {bA : Option Addr} {bn bc : Nat} {h : Heap} {R : Value → Heap → Prop} (hv : ref08_sameNat_vc aA an ac bA bn bc h R) : CallsU Tryz.prog 54 [Value.slice aA an ac, Value.slice bA bn bc] h R :=
  fn_sound Tryz.func54 (by kernel_rfl) (by kernel_rfl) (by kernel_rfl) (fun _ => false) (.two .nil (.two .nil (.two (.two .nil (.one (.loop ⟨[(5, Sh.int .i64)], []⟩ (.two .nil (.two (.one (.two (.ord [0, 1, 2, 3, 4, 5, 6, 7, 8]) .nil)) .nil))))) .nil))) [Value.slice aA an ac, Value.slice bA bn bc] h R (by kernel_rfl)
    (Eq.mp (show ref08_sameNat_vc aA an ac bA bn bc h R = fnV Tryz.prog Tryz.f54 (fun _ => false) (.two .nil (.two .nil (.two (.two .nil (.one (.loop ⟨[(5, Sh.int .i64)], []⟩ (.two .nil (.two (.one (.two (.ord [0, 1, 2, 3, 4, 5, 6, 7, 8]) .nil)) .nil))))) .nil))) [Value.slice aA an ac, Value.slice bA bn bc] h R by kernel_rfl) hv)

def ref03_Of_vc (num : Int) (den : Int) (h : Heap) (R : Value → Heap → Prop) : Prop :=
 Br ((den : Int) == 0)
  (R (Value.tuple #[Value.agg #[Value.bool false, Value.slice none 0 0, Value.slice none 0 0], Value.bool false]) h)
  (CallsU Tryz.prog 103 [Value.int .i64 num] h fun v h_1 =>
 ∃ t12_0 : Bool, ∃ t12_1A : Option Addr, ∃ t12_1n t12_1c : Nat, v = Value.agg #[Value.bool t12_0, Value.slice t12_1A t12_1n t12_1c] ∧
 CallsU Tryz.prog 103 [Value.int .i64 den] h_1 fun v_1 h_2 =>
 ∃ t14_0 : Bool, ∃ t14_1A : Option Addr, ∃ t14_1n t14_1c : Nat, v_1 = Value.agg #[Value.bool t14_0, Value.slice t14_1A t14_1n t14_1c] ∧
 CallsU Tryz.prog 79 [Value.bool (!(t12_0 == t14_0)), Value.slice t12_1A t12_1n t12_1c, Value.slice t14_1A t14_1n t14_1c] h_2 fun v_2 h_3 =>
 ∃ t24_0 : Bool, ∃ t24_1A : Option Addr, ∃ t24_1n t24_1c : Nat, ∃ t24_2A : Option Addr, ∃ t24_2n t24_2c : Nat, v_2 = Value.agg #[Value.bool t24_0, Value.slice t24_1A t24_1n t24_1c, Value.slice t24_2A t24_2n t24_2c] ∧
 R (Value.tuple #[Value.agg #[Value.bool t24_0, Value.slice t24_1A t24_1n t24_1c, Value.slice t24_2A t24_2n t24_2c], Value.bool true]) h_3)

set_option maxRecDepth 100000 in
theorem ref03_Of_ok {num : Int} {den : Int} {h : Heap} {R : Value → Heap → Prop} (hv : ref03_Of_vc num den h R) : CallsU Tryz.prog 63 [Value.int .i64 num, Value.int .i64 den] h R :=
  fn_sound Tryz.func63 (by kernel_rfl) (by kernel_rfl) (by kernel_rfl) (fun _ => false) .nil [Value.int .i64 num, Value.int .i64 den] h R (by kernel_rfl)
    (Eq.mp (show ref03_Of_vc num den h R = fnV Tryz.prog Tryz.f63 (fun _ => false) .nil [Value.int .i64 num, Value.int .i64 den] h R by kernel_rfl) hv)

def ref17_right_vc (e_0 : Int) (e_1 : Bool) (e_2A : Option Addr) (e_2n e_2c : Nat) (e_3A : Option Addr) (e_3n e_3c : Nat) (e_4 : ByteArray) (_e_5A : Option Addr) (e_5n _e_5c : Nat) (h : Heap) (R : Value → Heap → Prop) : Prop :=
 CallsU Tryz.prog 107 [Value.int .i64 0] h fun v h_1 =>
 ∃ t9_0 : Bool, ∃ t9_1A : Option Addr, ∃ t9_1n t9_1c : Nat, ∃ t9_2A : Option Addr, ∃ t9_2n t9_2c : Nat, v = Value.agg #[Value.bool t9_0, Value.slice t9_1A t9_1n t9_1c, Value.slice t9_2A t9_2n t9_2c] ∧
 LeH h h_1 ∧
 CallsU Tryz.prog 47 [Value.agg #[Value.bool e_1, Value.slice e_2A e_2n e_2c, Value.slice e_3A e_3n e_3c], Value.agg #[Value.bool t9_0, Value.slice t9_1A t9_1n t9_1c, Value.slice t9_2A t9_2n t9_2c]] h_1 fun v_1 h_2 =>
 ∃ t10 : Int, v_1 = Value.int .i64 t10 ∧
 Br ((e_0 : Int) == 1)
  (CallsU Tryz.prog 83 [Value.agg #[Value.bool e_1, Value.slice e_2A e_2n e_2c, Value.slice e_3A e_3n e_3c]] h_2 fun v_2 h_3 =>
 ∃ t22_0 : Int, ∃ t22_1 : Bool, v_2 = Value.tuple #[Value.int .i64 t22_0, Value.bool t22_1] ∧
 Br (t22_1)
  (Br (e_4.toList == (⟨#[]⟩ : ByteArray).toList)
  (R (Value.bool ((((e_5n : Nat) : Int) : Int) == 0)) h_3)
  (R (Value.bool false) h_3))
  (R (Value.bool false) h_3))
  (Br ((e_0 : Int) == 2)
  (CallsU Tryz.prog 108 [Value.string e_4] h_2 fun v_3 h_4 =>
 ∃ t39 : Bool, v_3 = Value.bool t39 ∧
 Br (t39)
  (Br ((t10 : Int) == 0)
  (R (Value.bool ((((e_5n : Nat) : Int) : Int) == 0)) h_4)
  (R (Value.bool false) h_4))
  (R (Value.bool false) h_4))
  (∃ C : Bool → Heap → Prop, (∀ (t47 : Bool) (h_5 : Heap), C t47 h_5 →
 Br (t47)
  (Br ((t10 : Int) == 0)
  (Br (e_4.toList == (⟨#[]⟩ : ByteArray).toList)
  (R (Value.bool ((((e_5n : Nat) : Int) : Int) == 2)) h_5)
  (R (Value.bool false) h_5))
  (R (Value.bool false) h_5))
  (Br ((e_0 : Int) == 7)
  (Br ((t10 : Int) == 0)
  (Br (e_4.toList == (⟨#[]⟩ : ByteArray).toList)
  (R (Value.bool ((((e_5n : Nat) : Int) : Int) == 1)) h_5)
  (R (Value.bool false) h_5))
  (R (Value.bool false) h_5))
  (∃ C_1 : Bool → Heap → Prop, (∀ (t74 : Bool) (h_6 : Heap), C_1 t74 h_6 →
 Br (t74)
  (Br ((t10 : Int) == 0)
  (Br (e_4.toList == (⟨#[]⟩ : ByteArray).toList)
  (Br (decide (((e_5n : Nat) : Int) ≥ 1))
  (R (Value.bool (decide (((e_5n : Nat) : Int) ≤ 8))) h_6)
  (R (Value.bool false) h_6))
  (R (Value.bool false) h_6))
  (R (Value.bool false) h_6))
  (R (Value.bool false) h_6)) ∧
 Br ((e_0 : Int) == 8)
  (C_1 ((e_0 : Int) == 8) h_5)
  (C_1 ((e_0 : Int) == 9) h_5)))) ∧
 Br ((e_0 : Int) == 3)
  (C ((e_0 : Int) == 3) h_2)
  (Br ((e_0 : Int) == 4)
  (C ((e_0 : Int) == 4) h_2)
  (Br ((e_0 : Int) == 5)
  (C ((e_0 : Int) == 5) h_2)
  (C ((e_0 : Int) == 6) h_2)))))

set_option maxRecDepth 100000 in
theorem ref17_right_ok {e_0 : Int} {e_1 : Bool} {e_2A : Option Addr} {e_2n e_2c : Nat} {e_3A : Option Addr} {e_3n e_3c : Nat} {e_4 : ByteArray} {e_5A : Option Addr} {e_5n e_5c : Nat} {h : Heap} {R : Value → Heap → Prop} (hv : ref17_right_vc e_0 e_1 e_2A e_2n e_2c e_3A e_3n e_3c e_4 e_5A e_5n e_5c h R) : CallsU Tryz.prog 65 [Value.agg #[Value.int .i64 e_0, Value.bool e_1, Value.slice e_2A e_2n e_2c, Value.slice e_3A e_3n e_3c, Value.string e_4, Value.slice e_5A e_5n e_5c]] h R :=
  fn_sound Tryz.func65 (by kernel_rfl) (by kernel_rfl) (by kernel_rfl) (fun _ => false) (.two .nil (.two (.ord [0, 1, 2, 3, 4, 5]) (.two .nil (.two (.two .nil (.one (.two .nil (.two .nil (.two .nil (.two .nil (.cut ⟨[(47, Sh.bool)], []⟩ .nil (.two .nil (.two .nil (.two .nil (.cut ⟨[(74, Sh.bool)], []⟩ .nil .nil))))))))))) .nil)))) [Value.agg #[Value.int .i64 e_0, Value.bool e_1, Value.slice e_2A e_2n e_2c, Value.slice e_3A e_3n e_3c, Value.string e_4, Value.slice e_5A e_5n e_5c]] h R (by kernel_rfl)
    (Eq.mp (show ref17_right_vc e_0 e_1 e_2A e_2n e_2c e_3A e_3n e_3c e_4 e_5A e_5n e_5c h R = fnV Tryz.prog Tryz.f65 (fun _ => false) (.two .nil (.two (.ord [0, 1, 2, 3, 4, 5]) (.two .nil (.two (.two .nil (.one (.two .nil (.two .nil (.two .nil (.two .nil (.cut ⟨[(47, Sh.bool)], []⟩ .nil (.two .nil (.two .nil (.two .nil (.cut ⟨[(74, Sh.bool)], []⟩ .nil .nil))))))))))) .nil)))) [Value.agg #[Value.int .i64 e_0, Value.bool e_1, Value.slice e_2A e_2n e_2c, Value.slice e_3A e_3n e_3c, Value.string e_4, Value.slice e_5A e_5n e_5c]] h R by kernel_rfl) hv)

def ref17_Insert_vc (lA : Option Addr) (ln lc : Nat) (s : ByteArray) (h : Heap) (R : Value → Heap → Prop) : Prop :=
 ∃ J : Nat → Option Addr → Nat → Nat → Int → Heap → Prop, (∃ m, J m none 0 0 0 h) ∧
 ∀ (m : Nat) (outA : Option Addr) (outn outc : Nat) (i : Int) (h_1 : Heap), J m outA outn outc i h_1 →
 ∃ C : Bool → Heap → Prop, (∀ (t18 : Bool) (h_2 : Heap), C t18 h_2 →
 Br (t18)
  (∃ ad : Addr, lA = some ad ∧ 0 ≤ i ∧ i < ((ln : Nat) : Int) ∧
 ∃ t23 : ByteArray, LdN h_2 (Addr.add ad (Int.toNat i * 1)) [Value.string t23] ∧
 ∀ (g : Nat) (h_3 : Heap), h_2 g = none → h_3 = Heap.put h_2 g ⟨[Value.string t23], 9, (0, 0)⟩ →
 ∃ xs : List Value, RdS h_3 (some ⟨g, 0, none⟩) (1 * 1) xs ∧ (∀ x ∈ xs, Go.Vcg.one x = true) ∧
 (outn + 1 ≤ outc → ∃ (ad_1 : Addr) (b : Blk), outA = some ad_1 ∧ ad_1.spot = none ∧ h_3 ad_1.block = some b ∧ b.fz = (0, 0) ∧ ad_1.off + outn * 1 + 1 * 1 ≤ b.cells.length ∧
 ∀ h_5 : Heap, h_5 = Heap.put h_3 ad_1.block { b with cells := setSeg b.cells (ad_1.off + outn * 1) xs } →
 ∀ t27 : Int, t27 = IntKind.i64.wrap (i + 1) →
 ∃ m_1, m_1 < m ∧ J m_1 outA (outn + 1) outc t27 h_5) ∧
 (outc < outn + 1 → ∃ olds : List Value, RdS h_3 outA (outn * 1) olds ∧ (outn + 1) * 16 ≤ 140737488355328 ∧
 ∀ (g_1 cap : Nat) (h_6 : Heap), h_3 g_1 = none → outn + 1 ≤ cap → h_6 = Heap.put h_3 g_1 ⟨olds ++ xs ++ repV [Value.string ByteArray.empty] (cap - (outn + 1)), 9, (0, 0)⟩ →
 ∀ t27_1 : Int, t27_1 = IntKind.i64.wrap (i + 1) →
 ∃ m_1, m_1 < m ∧ J m_1 (some ⟨g_1, 0, none⟩) (outn + 1) cap t27_1 h_6))
  (∃ C_1 : Option Addr → Nat → Nat → Heap → Prop, (∀ (outA_1 : Option Addr) (outn_1 outc_1 : Nat) (h_7 : Heap), C_1 outA_1 outn_1 outc_1 h_7 →
 Br (decide (i < ((ln : Nat) : Int)))
  (∃ ad_2 : Addr, lA = some ad_2 ∧ 0 ≤ i ∧ i < ((ln : Nat) : Int) ∧
 ∃ t40 : ByteArray, LdN h_7 (Addr.add ad_2 (Int.toNat i * 1)) [Value.string t40] ∧
 Br (t40.toList == s.toList)
  (∀ t45 : Int, t45 = IntKind.i64.wrap (i + 1) →
 ((0 : Nat) : Int) ≤ t45 ∧ t45 ≤ ((ln : Nat) : Int) ∧
 ∃ xs_1 : List Value, RdS h_7 (if lc = (Int.toNat t45) then lA else Option.map (fun x => Addr.add x ((Int.toNat t45) * 1)) lA) ((ln - (Int.toNat t45)) * 1) xs_1 ∧ (∀ x ∈ xs_1, Go.Vcg.one x = true) ∧
 (outn_1 + (ln - (Int.toNat t45)) ≤ outc_1 → Br (decide ((ln - (Int.toNat t45)) * 1 = 0)) (R (Value.slice outA_1 (outn_1 + (ln - (Int.toNat t45))) outc_1) h_7)
 (∃ (ad_3 : Addr) (b_1 : Blk), outA_1 = some ad_3 ∧ ad_3.spot = none ∧ h_7 ad_3.block = some b_1 ∧ b_1.fz = (0, 0) ∧ ad_3.off + outn_1 * 1 + (ln - (Int.toNat t45)) * 1 ≤ b_1.cells.length ∧
 ∀ h_9 : Heap, h_9 = Heap.put h_7 ad_3.block { b_1 with cells := setSeg b_1.cells (ad_3.off + outn_1 * 1) xs_1 } →
 R (Value.slice outA_1 (outn_1 + (ln - (Int.toNat t45))) outc_1) h_9)) ∧
 (outc_1 < outn_1 + (ln - (Int.toNat t45)) → ∃ olds_1 : List Value, RdS h_7 outA_1 (outn_1 * 1) olds_1 ∧ (outn_1 + (ln - (Int.toNat t45))) * 16 ≤ 140737488355328 ∧
 ∀ (g_2 cap_1 : Nat) (h_10 : Heap), h_7 g_2 = none → outn_1 + (ln - (Int.toNat t45)) ≤ cap_1 → h_10 = Heap.put h_7 g_2 ⟨olds_1 ++ xs_1 ++ repV [Value.string ByteArray.empty] (cap_1 - (outn_1 + (ln - (Int.toNat t45)))), 9, (0, 0)⟩ →
 R (Value.slice (some ⟨g_2, 0, none⟩) (outn_1 + (ln - (Int.toNat t45))) cap_1) h_10))
  (((0 : Nat) : Int) ≤ i ∧ i ≤ ((ln : Nat) : Int) ∧
 ∃ xs_2 : List Value, RdS h_7 (if lc = (Int.toNat i) then lA else Option.map (fun x => Addr.add x ((Int.toNat i) * 1)) lA) ((ln - (Int.toNat i)) * 1) xs_2 ∧ (∀ x ∈ xs_2, Go.Vcg.one x = true) ∧
 (outn_1 + (ln - (Int.toNat i)) ≤ outc_1 → Br (decide ((ln - (Int.toNat i)) * 1 = 0)) (R (Value.slice outA_1 (outn_1 + (ln - (Int.toNat i))) outc_1) h_7)
 (∃ (ad_4 : Addr) (b_2 : Blk), outA_1 = some ad_4 ∧ ad_4.spot = none ∧ h_7 ad_4.block = some b_2 ∧ b_2.fz = (0, 0) ∧ ad_4.off + outn_1 * 1 + (ln - (Int.toNat i)) * 1 ≤ b_2.cells.length ∧
 ∀ h_12 : Heap, h_12 = Heap.put h_7 ad_4.block { b_2 with cells := setSeg b_2.cells (ad_4.off + outn_1 * 1) xs_2 } →
 R (Value.slice outA_1 (outn_1 + (ln - (Int.toNat i))) outc_1) h_12)) ∧
 (outc_1 < outn_1 + (ln - (Int.toNat i)) → ∃ olds_2 : List Value, RdS h_7 outA_1 (outn_1 * 1) olds_2 ∧ (outn_1 + (ln - (Int.toNat i))) * 16 ≤ 140737488355328 ∧
 ∀ (g_3 cap_2 : Nat) (h_13 : Heap), h_7 g_3 = none → outn_1 + (ln - (Int.toNat i)) ≤ cap_2 → h_13 = Heap.put h_7 g_3 ⟨olds_2 ++ xs_2 ++ repV [Value.string ByteArray.empty] (cap_2 - (outn_1 + (ln - (Int.toNat i)))), 9, (0, 0)⟩ →
 R (Value.slice (some ⟨g_3, 0, none⟩) (outn_1 + (ln - (Int.toNat i))) cap_2) h_13)))
  (((0 : Nat) : Int) ≤ i ∧ i ≤ ((ln : Nat) : Int) ∧
 ∃ xs_3 : List Value, RdS h_7 (if lc = (Int.toNat i) then lA else Option.map (fun x => Addr.add x ((Int.toNat i) * 1)) lA) ((ln - (Int.toNat i)) * 1) xs_3 ∧ (∀ x ∈ xs_3, Go.Vcg.one x = true) ∧
 (outn_1 + (ln - (Int.toNat i)) ≤ outc_1 → Br (decide ((ln - (Int.toNat i)) * 1 = 0)) (R (Value.slice outA_1 (outn_1 + (ln - (Int.toNat i))) outc_1) h_7)
 (∃ (ad_5 : Addr) (b_3 : Blk), outA_1 = some ad_5 ∧ ad_5.spot = none ∧ h_7 ad_5.block = some b_3 ∧ b_3.fz = (0, 0) ∧ ad_5.off + outn_1 * 1 + (ln - (Int.toNat i)) * 1 ≤ b_3.cells.length ∧
 ∀ h_15 : Heap, h_15 = Heap.put h_7 ad_5.block { b_3 with cells := setSeg b_3.cells (ad_5.off + outn_1 * 1) xs_3 } →
 R (Value.slice outA_1 (outn_1 + (ln - (Int.toNat i))) outc_1) h_15)) ∧
 (outc_1 < outn_1 + (ln - (Int.toNat i)) → ∃ olds_3 : List Value, RdS h_7 outA_1 (outn_1 * 1) olds_3 ∧ (outn_1 + (ln - (Int.toNat i))) * 16 ≤ 140737488355328 ∧
 ∀ (g_4 cap_3 : Nat) (h_16 : Heap), h_7 g_4 = none → outn_1 + (ln - (Int.toNat i)) ≤ cap_3 → h_16 = Heap.put h_7 g_4 ⟨olds_3 ++ xs_3 ++ repV [Value.string ByteArray.empty] (cap_3 - (outn_1 + (ln - (Int.toNat i)))), 9, (0, 0)⟩ →
 R (Value.slice (some ⟨g_4, 0, none⟩) (outn_1 + (ln - (Int.toNat i))) cap_3) h_16))) ∧
 ∀ (g_5 : Nat) (h_17 : Heap), h_2 g_5 = none → h_17 = Heap.put h_2 g_5 ⟨[Value.string s], 9, (0, 0)⟩ →
 ∃ xs_4 : List Value, RdS h_17 (some ⟨g_5, 0, none⟩) (1 * 1) xs_4 ∧ (∀ x ∈ xs_4, Go.Vcg.one x = true) ∧
 (outn + 1 ≤ outc → ∃ (ad_6 : Addr) (b_4 : Blk), outA = some ad_6 ∧ ad_6.spot = none ∧ h_17 ad_6.block = some b_4 ∧ b_4.fz = (0, 0) ∧ ad_6.off + outn * 1 + 1 * 1 ≤ b_4.cells.length ∧
 ∀ h_19 : Heap, h_19 = Heap.put h_17 ad_6.block { b_4 with cells := setSeg b_4.cells (ad_6.off + outn * 1) xs_4 } →
 C_1 outA (outn + 1) outc h_19) ∧
 (outc < outn + 1 → ∃ olds_4 : List Value, RdS h_17 outA (outn * 1) olds_4 ∧ (outn + 1) * 16 ≤ 140737488355328 ∧
 ∀ (g_6 cap_4 : Nat) (h_20 : Heap), h_17 g_6 = none → outn + 1 ≤ cap_4 → h_20 = Heap.put h_17 g_6 ⟨olds_4 ++ xs_4 ++ repV [Value.string ByteArray.empty] (cap_4 - (outn + 1)), 9, (0, 0)⟩ →
 C_1 (some ⟨g_6, 0, none⟩) (outn + 1) cap_4 h_20))) ∧
 Br (decide (i < ((ln : Nat) : Int)))
  (∃ ad_7 : Addr, lA = some ad_7 ∧ 0 ≤ i ∧ i < ((ln : Nat) : Int) ∧
 ∃ t15 : ByteArray, LdN h_1 (Addr.add ad_7 (Int.toNat i * 1)) [Value.string t15] ∧
 C (Op.bytesLess t15.toList s.toList) h_1)
  (C false h_1)

set_option maxRecDepth 100000 in
theorem ref17_Insert_ok {lA : Option Addr} {ln lc : Nat} {s : ByteArray} {h : Heap} {R : Value → Heap → Prop} (hv : ref17_Insert_vc lA ln lc s h R) : CallsU Tryz.prog 68 [Value.slice lA ln lc, Value.string s] h R :=
  fn_sound Tryz.func68 (by kernel_rfl) (by kernel_rfl) (by kernel_rfl) (fun _ => false) (.two .nil (.two .nil (.two .nil (.two (.one (.loop ⟨[(5, Sh.slice), (6, Sh.int .i64)], []⟩ (.two (.cut ⟨[(18, Sh.bool)], []⟩ .nil .nil) .nil))) (.cut ⟨[(5, Sh.slice)], []⟩ .nil .nil))))) [Value.slice lA ln lc, Value.string s] h R (by kernel_rfl)
    (Eq.mp (show ref17_Insert_vc lA ln lc s h R = fnV Tryz.prog Tryz.f68 (fun _ => false) (.two .nil (.two .nil (.two .nil (.two (.one (.loop ⟨[(5, Sh.slice), (6, Sh.int .i64)], []⟩ (.two (.cut ⟨[(18, Sh.bool)], []⟩ .nil .nil) .nil))) (.cut ⟨[(5, Sh.slice)], []⟩ .nil .nil))))) [Value.slice lA ln lc, Value.string s] h R by kernel_rfl) hv)

def ref02_Cmp_vc (a_0 : Bool) (a_1A : Option Addr) (a_1n a_1c : Nat) (b_0 : Bool) (b_1A : Option Addr) (b_1n b_1c : Nat) (h : Heap) (R : Value → Heap → Prop) : Prop :=
 CallsU Tryz.prog 123 [Value.agg #[Value.bool a_0, Value.slice a_1A a_1n a_1c]] h fun v h_1 =>
 ∃ t8_0 : Bool, ∃ t8_1A : Option Addr, ∃ t8_1n t8_1c : Nat, v = Value.agg #[Value.bool t8_0, Value.slice t8_1A t8_1n t8_1c] ∧
 LeH h h_1 ∧
 CallsU Tryz.prog 123 [Value.agg #[Value.bool b_0, Value.slice b_1A b_1n b_1c]] h_1 fun v_1 h_2 =>
 ∃ t10_0 : Bool, ∃ t10_1A : Option Addr, ∃ t10_1n t10_1c : Nat, v_1 = Value.agg #[Value.bool t10_0, Value.slice t10_1A t10_1n t10_1c] ∧
 ∃ C : Bool → Heap → Prop, (∀ (t11 : Bool) (h_3 : Heap), C t11 h_3 →
 Br (t11)
  (R (Value.int .i64 (-1)) h_3)
  (∃ C_1 : Bool → Heap → Prop, (∀ (t19 : Bool) (h_4 : Heap), C_1 t19 h_4 →
 Br (t19)
  (R (Value.int .i64 1) h_4)
  (Br (t8_0)
  (CallsU Tryz.prog 124 [Value.slice t10_1A t10_1n t10_1c, Value.slice t8_1A t8_1n t8_1c] h_4 fun v_2 h_5 =>
 ∃ t34 : Int, v_2 = Value.int .i64 t34 ∧
 R (Value.int .i64 t34) h_5)
  (CallsU Tryz.prog 124 [Value.slice t8_1A t8_1n t8_1c, Value.slice t10_1A t10_1n t10_1c] h_4 fun v_3 h_6 =>
 ∃ t39 : Int, v_3 = Value.int .i64 t39 ∧
 R (Value.int .i64 t39) h_6))) ∧
 Br (!t8_0)
  (C_1 t10_0 h_3)
  (C_1 false h_3))) ∧
 Br (t8_0)
  (C (!t10_0) h_2)
  (C false h_2)

set_option maxRecDepth 100000 in
theorem ref02_Cmp_ok {a_0 : Bool} {a_1A : Option Addr} {a_1n a_1c : Nat} {b_0 : Bool} {b_1A : Option Addr} {b_1n b_1c : Nat} {h : Heap} {R : Value → Heap → Prop} (hv : ref02_Cmp_vc a_0 a_1A a_1n a_1c b_0 b_1A b_1n b_1c h R) : CallsU Tryz.prog 75 [Value.agg #[Value.bool a_0, Value.slice a_1A a_1n a_1c], Value.agg #[Value.bool b_0, Value.slice b_1A b_1n b_1c]] h R :=
  fn_sound Tryz.func75 (by kernel_rfl) (by kernel_rfl) (by kernel_rfl) (fun _ => false) (.two .nil (.two (.ord [0, 2, 1, 3, 4, 5, 6, 7]) (.two (.one (.cut ⟨[(11, Sh.bool)], []⟩ .nil (.two .nil (.cut ⟨[(19, Sh.bool)], []⟩ .nil .nil)))) .nil))) [Value.agg #[Value.bool a_0, Value.slice a_1A a_1n a_1c], Value.agg #[Value.bool b_0, Value.slice b_1A b_1n b_1c]] h R (by kernel_rfl)
    (Eq.mp (show ref02_Cmp_vc a_0 a_1A a_1n a_1c b_0 b_1A b_1n b_1c h R = fnV Tryz.prog Tryz.f75 (fun _ => false) (.two .nil (.two (.ord [0, 2, 1, 3, 4, 5, 6, 7]) (.two (.one (.cut ⟨[(11, Sh.bool)], []⟩ .nil (.two .nil (.cut ⟨[(19, Sh.bool)], []⟩ .nil .nil)))) .nil))) [Value.agg #[Value.bool a_0, Value.slice a_1A a_1n a_1c], Value.agg #[Value.bool b_0, Value.slice b_1A b_1n b_1c]] h R by kernel_rfl) hv)

def ref02_Mul_vc (a_0 : Bool) (a_1A : Option Addr) (a_1n a_1c : Nat) (b_0 : Bool) (b_1A : Option Addr) (b_1n b_1c : Nat) (h : Heap) (R : Value → Heap → Prop) : Prop :=
 CallsU Tryz.prog 126 [Value.slice a_1A a_1n a_1c, Value.slice b_1A b_1n b_1c] h fun v h_1 =>
 ∃ t14A : Option Addr, ∃ t14n t14c : Nat, v = Value.slice t14A t14n t14c ∧
 LeH h h_1 ∧
 CallsU Tryz.prog 125 [Value.bool (!(a_0 == b_0)), Value.slice t14A t14n t14c] h_1 fun v_1 h_2 =>
 ∃ t15_0 : Bool, ∃ t15_1A : Option Addr, ∃ t15_1n t15_1c : Nat, v_1 = Value.agg #[Value.bool t15_0, Value.slice t15_1A t15_1n t15_1c] ∧
 R (Value.agg #[Value.bool t15_0, Value.slice t15_1A t15_1n t15_1c]) h_2

set_option maxRecDepth 100000 in
theorem ref02_Mul_ok {a_0 : Bool} {a_1A : Option Addr} {a_1n a_1c : Nat} {b_0 : Bool} {b_1A : Option Addr} {b_1n b_1c : Nat} {h : Heap} {R : Value → Heap → Prop} (hv : ref02_Mul_vc a_0 a_1A a_1n a_1c b_0 b_1A b_1n b_1c h R) : CallsU Tryz.prog 76 [Value.agg #[Value.bool a_0, Value.slice a_1A a_1n a_1c], Value.agg #[Value.bool b_0, Value.slice b_1A b_1n b_1c]] h R :=
  fn_sound Tryz.func76 (by kernel_rfl) (by kernel_rfl) (by kernel_rfl) (fun _ => false) (.two .nil (.two (.ord [0, 1, 2, 3, 4, 5, 6, 7, 8, 9, 10, 11]) .nil)) [Value.agg #[Value.bool a_0, Value.slice a_1A a_1n a_1c], Value.agg #[Value.bool b_0, Value.slice b_1A b_1n b_1c]] h R (by kernel_rfl)
    (Eq.mp (show ref02_Mul_vc a_0 a_1A a_1n a_1c b_0 b_1A b_1n b_1c h R = fnV Tryz.prog Tryz.f76 (fun _ => false) (.two .nil (.two (.ord [0, 1, 2, 3, 4, 5, 6, 7, 8, 9, 10, 11]) .nil)) [Value.agg #[Value.bool a_0, Value.slice a_1A a_1n a_1c], Value.agg #[Value.bool b_0, Value.slice b_1A b_1n b_1c]] h R by kernel_rfl) hv)

def ref03_Zero_vc (_a_0 : Bool) (a_1A : Option Addr) (a_1n a_1c : Nat) (a_2A : Option Addr) (a_2n a_2c : Nat) (h : Heap) (R : Value → Heap → Prop) : Prop :=
 CallsU Tryz.prog 127 [Value.slice a_1A a_1n a_1c] h fun v h_1 =>
 ∃ t6A : Option Addr, ∃ t6n t6c : Nat, v = Value.slice t6A t6n t6c ∧
 Br ((((t6n : Nat) : Int) : Int) == 0)
  (R (Value.bool true) h_1)
  (CallsU Tryz.prog 127 [Value.slice a_2A a_2n a_2c] h_1 fun v_1 h_2 =>
 ∃ t12A : Option Addr, ∃ t12n t12c : Nat, v_1 = Value.slice t12A t12n t12c ∧
 R (Value.bool ((((t12n : Nat) : Int) : Int) == 0)) h_2)

set_option maxRecDepth 100000 in
theorem ref03_Zero_ok {a_0 : Bool} {a_1A : Option Addr} {a_1n a_1c : Nat} {a_2A : Option Addr} {a_2n a_2c : Nat} {h : Heap} {R : Value → Heap → Prop} (hv : ref03_Zero_vc a_0 a_1A a_1n a_1c a_2A a_2n a_2c h R) : CallsU Tryz.prog 77 [Value.agg #[Value.bool a_0, Value.slice a_1A a_1n a_1c, Value.slice a_2A a_2n a_2c]] h R :=
  fn_sound Tryz.func77 (by kernel_rfl) (by kernel_rfl) (by kernel_rfl) (fun _ => false) .nil [Value.agg #[Value.bool a_0, Value.slice a_1A a_1n a_1c, Value.slice a_2A a_2n a_2c]] h R (by kernel_rfl)
    (Eq.mp (show ref03_Zero_vc a_0 a_1A a_1n a_1c a_2A a_2n a_2c h R = fnV Tryz.prog Tryz.f77 (fun _ => false) .nil [Value.agg #[Value.bool a_0, Value.slice a_1A a_1n a_1c, Value.slice a_2A a_2n a_2c]] h R by kernel_rfl) hv)

def ref03_Whole_vc (n : Int) (h : Heap) (R : Value → Heap → Prop) : Prop :=
 CallsU Tryz.prog 103 [Value.int .i64 n] h fun v h_1 =>
 ∃ t4_0 : Bool, ∃ t4_1A : Option Addr, ∃ t4_1n t4_1c : Nat, v = Value.agg #[Value.bool t4_0, Value.slice t4_1A t4_1n t4_1c] ∧
 CallsU Tryz.prog 128 [Value.int .u64 1] h_1 fun v_1 h_2 =>
 ∃ t5A : Option Addr, ∃ t5n t5c : Nat, v_1 = Value.slice t5A t5n t5c ∧
 R (Value.agg #[Value.bool t4_0, Value.slice t4_1A t4_1n t4_1c, Value.slice t5A t5n t5c]) h_2

set_option maxRecDepth 100000 in
theorem ref03_Whole_ok {n : Int} {h : Heap} {R : Value → Heap → Prop} (hv : ref03_Whole_vc n h R) : CallsU Tryz.prog 78 [Value.int .i64 n] h R :=
  fn_sound Tryz.func78 (by kernel_rfl) (by kernel_rfl) (by kernel_rfl) (fun _ => false) .nil [Value.int .i64 n] h R (by kernel_rfl)
    (Eq.mp (show ref03_Whole_vc n h R = fnV Tryz.prog Tryz.f78 (fun _ => false) .nil [Value.int .i64 n] h R by kernel_rfl) hv)

def ref03_reduce_vc (neg : Bool) (nA : Option Addr) (nn nc : Nat) (dA : Option Addr) (dn dc : Nat) (h : Heap) (R : Value → Heap → Prop) : Prop :=
 CallsU Tryz.prog 129 [Value.slice nA nn nc, Value.slice dA dn dc] h fun v h_1 =>
 ∃ t16A : Option Addr, ∃ t16n t16c : Nat, v = Value.slice t16A t16n t16c ∧
 CallsU Tryz.prog 130 [Value.slice nA nn nc, Value.slice t16A t16n t16c] h_1 fun v_1 h_2 =>
 ∃ t20_0A : Option Addr, ∃ t20_0n t20_0c : Nat, ∃ t20_1A : Option Addr, ∃ t20_1n t20_1c : Nat, ∃ t20_2 : Bool, v_1 = Value.tuple #[Value.slice t20_0A t20_0n t20_0c, Value.slice t20_1A t20_1n t20_1c, Value.bool t20_2] ∧
 CallsU Tryz.prog 130 [Value.slice dA dn dc, Value.slice t16A t16n t16c] h_2 fun v_2 h_3 =>
 ∃ t27_0A : Option Addr, ∃ t27_0n t27_0c : Nat, ∃ t27_1A : Option Addr, ∃ t27_1n t27_1c : Nat, ∃ t27_2 : Bool, v_2 = Value.tuple #[Value.slice t27_0A t27_0n t27_0c, Value.slice t27_1A t27_1n t27_1c, Value.bool t27_2] ∧
 CallsU Tryz.prog 123 [Value.agg #[Value.bool neg, Value.slice t20_0A t20_0n t20_0c]] h_3 fun v_3 h_4 =>
 ∃ t34_0 : Bool, ∃ t34_1A : Option Addr, ∃ t34_1n t34_1c : Nat, v_3 = Value.agg #[Value.bool t34_0, Value.slice t34_1A t34_1n t34_1c] ∧
 R (Value.agg #[Value.bool t34_0, Value.slice t34_1A t34_1n t34_1c, Value.slice t27_0A t27_0n t27_0c]) h_4

set_option maxRecDepth 100000 in
theorem ref03_reduce_ok {neg : Bool} {nA : Option Addr} {nn nc : Nat} {dA : Option Addr} {dn dc : Nat} {h : Heap} {R : Value → Heap → Prop} (hv : ref03_reduce_vc neg nA nn nc dA dn dc h R) : CallsU Tryz.prog 79 [Value.bool neg, Value.slice nA nn nc, Value.slice dA dn dc] h R :=
  fn_sound Tryz.func79 (by kernel_rfl) (by kernel_rfl) (by kernel_rfl) (fun _ => false) .nil [Value.bool neg, Value.slice nA nn nc, Value.slice dA dn dc] h R (by kernel_rfl)
    (Eq.mp (show ref03_reduce_vc neg nA nn nc dA dn dc h R = fnV Tryz.prog Tryz.f79 (fun _ => false) .nil [Value.bool neg, Value.slice nA nn nc, Value.slice dA dn dc] h R by kernel_rfl) hv)

def ref17_units_vc (r_0 : Bool) (r_1A : Option Addr) (r_1n r_1c : Nat) (r_2A : Option Addr) (r_2n r_2c : Nat) (h : Heap) (R : Value → Heap → Prop) : Prop :=
 CallsU Tryz.prog 107 [Value.int .i64 10000] h fun v h_1 =>
 ∃ t8_0 : Bool, ∃ t8_1A : Option Addr, ∃ t8_1n t8_1c : Nat, ∃ t8_2A : Option Addr, ∃ t8_2n t8_2c : Nat, v = Value.agg #[Value.bool t8_0, Value.slice t8_1A t8_1n t8_1c, Value.slice t8_2A t8_2n t8_2c] ∧
 LeH h h_1 ∧
 CallsU Tryz.prog 137 [Value.agg #[Value.bool r_0, Value.slice r_1A r_1n r_1c, Value.slice r_2A r_2n r_2c], Value.agg #[Value.bool t8_0, Value.slice t8_1A t8_1n t8_1c, Value.slice t8_2A t8_2n t8_2c]] h_1 fun v_1 h_2 =>
 ∃ t9_0 : Bool, ∃ t9_1A : Option Addr, ∃ t9_1n t9_1c : Nat, ∃ t9_2A : Option Addr, ∃ t9_2n t9_2c : Nat, v_1 = Value.agg #[Value.bool t9_0, Value.slice t9_1A t9_1n t9_1c, Value.slice t9_2A t9_2n t9_2c] ∧
 CallsU Tryz.prog 48 [Value.agg #[Value.bool t9_0, Value.slice t9_1A t9_1n t9_1c, Value.slice t9_2A t9_2n t9_2c]] h_2 fun v_2 h_3 =>
 ∃ t10_0 : Bool, ∃ t10_1A : Option Addr, ∃ t10_1n t10_1c : Nat, ∃ t10_2A : Option Addr, ∃ t10_2n t10_2c : Nat, v_2 = Value.agg #[Value.bool t10_0, Value.slice t10_1A t10_1n t10_1c, Value.slice t10_2A t10_2n t10_2c] ∧
 CallsU Tryz.prog 138 [Value.agg #[Value.bool t10_0, Value.slice t10_1A t10_1n t10_1c]] h_3 fun v_3 h_4 =>
 ∃ t14_0 : Int, ∃ t14_1 : Bool, v_3 = Value.tuple #[Value.int .i64 t14_0, Value.bool t14_1] ∧
 Br (!t14_1)
  (LeH h_4 h_4 ∧
 R (Value.tuple #[Value.int .i64 0, Value.bool false]) h_4)
  (CallsU Tryz.prog 107 [Value.int .i64 t14_0] h_4 fun v_4 h_5 =>
 ∃ t22_0 : Bool, ∃ t22_1A : Option Addr, ∃ t22_1n t22_1c : Nat, ∃ t22_2A : Option Addr, ∃ t22_2n t22_2c : Nat, v_4 = Value.agg #[Value.bool t22_0, Value.slice t22_1A t22_1n t22_1c, Value.slice t22_2A t22_2n t22_2c] ∧
 LeH h_4 h_5 ∧
 CallsU Tryz.prog 47 [Value.agg #[Value.bool t10_0, Value.slice t10_1A t10_1n t10_1c, Value.slice t10_2A t10_2n t10_2c], Value.agg #[Value.bool t22_0, Value.slice t22_1A t22_1n t22_1c, Value.slice t22_2A t22_2n t22_2c]] h_5 fun v_5 h_6 =>
 ∃ t23 : Int, v_5 = Value.int .i64 t23 ∧
 Br ((t23 : Int) != 0)
  (R (Value.tuple #[Value.int .i64 0, Value.bool false]) h_6)
  (Br (decide (t14_0 < 0))
  (R (Value.tuple #[Value.int .i64 0, Value.bool false]) h_6)
  (Br (decide (t14_0 > 9999999999999))
  (R (Value.tuple #[Value.int .i64 0, Value.bool false]) h_6)
  (R (Value.tuple #[Value.int .i64 t14_0, Value.bool true]) h_6))))

set_option maxRecDepth 100000 in
theorem ref17_units_ok {r_0 : Bool} {r_1A : Option Addr} {r_1n r_1c : Nat} {r_2A : Option Addr} {r_2n r_2c : Nat} {h : Heap} {R : Value → Heap → Prop} (hv : ref17_units_vc r_0 r_1A r_1n r_1c r_2A r_2n r_2c h R) : CallsU Tryz.prog 83 [Value.agg #[Value.bool r_0, Value.slice r_1A r_1n r_1c, Value.slice r_2A r_2n r_2c]] h R :=
  fn_sound Tryz.func83 (by kernel_rfl) (by kernel_rfl) (by kernel_rfl) (fun _ => false) (.two .nil (.two (.ord [0, 1, 2, 3, 4, 5]) (.two .nil (.two (.two (.ord [0, 1, 2, 3, 4, 5, 6, 7, 8, 9, 10, 11, 12, 13, 14, 15, 16]) .nil) .nil)))) [Value.agg #[Value.bool r_0, Value.slice r_1A r_1n r_1c, Value.slice r_2A r_2n r_2c]] h R (by kernel_rfl)
    (Eq.mp (show ref17_units_vc r_0 r_1A r_1n r_1c r_2A r_2n r_2c h R = fnV Tryz.prog Tryz.f83 (fun _ => false) (.two .nil (.two (.ord [0, 1, 2, 3, 4, 5]) (.two .nil (.two (.two (.ord [0, 1, 2, 3, 4, 5, 6, 7, 8, 9, 10, 11, 12, 13, 14, 15, 16]) .nil) .nil)))) [Value.agg #[Value.bool r_0, Value.slice r_1A r_1n r_1c, Value.slice r_2A r_2n r_2c]] h R by kernel_rfl) hv)

def ref02_Of_vc (n : Int) (h : Heap) (R : Value → Heap → Prop) : Prop :=
 Br (decide (n < 0))
  (∀ t6 : Int, t6 = IntKind.i64.wrap (n + 1) →
 ∀ t7 : Int, t7 = IntKind.i64.wrap (0 - t6) →
 ∀ t9 : Int, t9 = IntKind.u64.wrap ((IntKind.u64.wrap t7) + 1) →
 CallsU Tryz.prog 128 [Value.int .u64 t9] h fun v h_1 =>
 ∃ t10A : Option Addr, ∃ t10n t10c : Nat, v = Value.slice t10A t10n t10c ∧
 R (Value.agg #[Value.bool true, Value.slice t10A t10n t10c]) h_1)
  (CallsU Tryz.prog 128 [Value.int .u64 (IntKind.u64.wrap n)] h fun v_1 h_2 =>
 ∃ t14A : Option Addr, ∃ t14n t14c : Nat, v_1 = Value.slice t14A t14n t14c ∧
 R (Value.agg #[Value.bool false, Value.slice t14A t14n t14c]) h_2)

set_option maxRecDepth 100000 in
theorem ref02_Of_ok {n : Int} {h : Heap} {R : Value → Heap → Prop} (hv : ref02_Of_vc n h R) : CallsU Tryz.prog 103 [Value.int .i64 n] h R :=
  fn_sound Tryz.func103 (by kernel_rfl) (by kernel_rfl) (by kernel_rfl) (fun _ => false) .nil [Value.int .i64 n] h R (by kernel_rfl)
    (Eq.mp (show ref02_Of_vc n h R = fnV Tryz.prog Tryz.f103 (fun _ => false) .nil [Value.int .i64 n] h R by kernel_rfl) hv)

def ref17_whole_vc (n : Int) (h : Heap) (R : Value → Heap → Prop) : Prop :=
 CallsU Tryz.prog 63 [Value.int .i64 n, Value.int .i64 1] h fun v h_1 =>
 ∃ t7_0_0 : Bool, ∃ t7_0_1A : Option Addr, ∃ t7_0_1n t7_0_1c : Nat, ∃ t7_0_2A : Option Addr, ∃ t7_0_2n t7_0_2c : Nat, ∃ t7_1 : Bool, v = Value.tuple #[Value.agg #[Value.bool t7_0_0, Value.slice t7_0_1A t7_0_1n t7_0_1c, Value.slice t7_0_2A t7_0_2n t7_0_2c], Value.bool t7_1] ∧
 R (Value.agg #[Value.bool t7_0_0, Value.slice t7_0_1A t7_0_1n t7_0_1c, Value.slice t7_0_2A t7_0_2n t7_0_2c]) h_1

set_option maxRecDepth 100000 in
theorem ref17_whole_ok {n : Int} {h : Heap} {R : Value → Heap → Prop} (hv : ref17_whole_vc n h R) : CallsU Tryz.prog 107 [Value.int .i64 n] h R :=
  fn_sound Tryz.func107 (by kernel_rfl) (by kernel_rfl) (by kernel_rfl) (fun _ => false) .nil [Value.int .i64 n] h R (by kernel_rfl)
    (Eq.mp (show ref17_whole_vc n h R = fnV Tryz.prog Tryz.f107 (fun _ => false) .nil [Value.int .i64 n] h R by kernel_rfl) hv)

def ref17_Name_vc (s : ByteArray) (h : Heap) (R : Value → Heap → Prop) : Prop :=
 ∃ C : Bool → Heap → Prop, (∀ (t28 : Bool) (h_1 : Heap), C t28 h_1 →
 Br (t28)
  (R (Value.bool false) h_1)
  (∃ J : Nat → Int → Heap → Prop, (∃ m, J m 0 h_1) ∧
 ∀ (m : Nat) (i : Int) (h_2 : Heap), J m i h_2 →
 Br (decide (i < ((s.size : Nat) : Int)))
  (∃ c : UInt8, 0 ≤ i ∧ s[(Int.toNat i : Nat)]? = some c ∧
 CallsU Tryz.prog 156 [Value.int .u8 (c.toNat : Int)] h_2 fun v h_3 =>
 ∃ t38 : Bool, v = Value.bool t38 ∧
 Br (!t38)
  (∃ c_1 : UInt8, 0 ≤ i ∧ s[(Int.toNat i : Nat)]? = some c_1 ∧
 Br (((c_1.toNat : Int) : Int) != 95)
  (∃ c_2 : UInt8, 0 ≤ i ∧ s[(Int.toNat i : Nat)]? = some c_2 ∧
 Br (decide ((c_2.toNat : Int) < 97))
  (R (Value.bool false) h_3)
  (∃ c_3 : UInt8, 0 ≤ i ∧ s[(Int.toNat i : Nat)]? = some c_3 ∧
 Br (decide ((c_3.toNat : Int) > 122))
  (R (Value.bool false) h_3)
  (∀ t34 : Int, t34 = IntKind.i64.wrap (i + 1) →
 ∃ m_1, m_1 < m ∧ J m_1 t34 h_3)))
  (∀ t34_1 : Int, t34_1 = IntKind.i64.wrap (i + 1) →
 ∃ m_1, m_1 < m ∧ J m_1 t34_1 h_3))
  (∀ t34_2 : Int, t34_2 = IntKind.i64.wrap (i + 1) →
 ∃ m_1, m_1 < m ∧ J m_1 t34_2 h_3))
  (R (Value.bool true) h_2))) ∧
 Br (s.toList == (⟨#[]⟩ : ByteArray).toList)
  (C true h)
  (Br (decide (((s.size : Nat) : Int) > 24))
  (C true h)
  (Br (s.toList == (⟨#[109, 105, 110]⟩ : ByteArray).toList)
  (C true h)
  (Br (s.toList == (⟨#[109, 97, 120]⟩ : ByteArray).toList)
  (C true h)
  (∃ c_4 : UInt8, 0 ≤ (0 : Int) ∧ s[(0 : Nat)]? = some c_4 ∧
 Br (decide ((c_4.toNat : Int) < 97))
  (C true h)
  (∃ c_5 : UInt8, 0 ≤ (0 : Int) ∧ s[(0 : Nat)]? = some c_5 ∧
 C (decide ((c_5.toNat : Int) > 122)) h)))))

set_option maxRecDepth 100000 in
theorem ref17_Name_ok {s : ByteArray} {h : Heap} {R : Value → Heap → Prop} (hv : ref17_Name_vc s h R) : CallsU Tryz.prog 108 [Value.string s] h R :=
  fn_sound Tryz.func108 (by kernel_rfl) (by kernel_rfl) (by kernel_rfl) (fun _ => false) (.two .nil (.two (.cut ⟨[(28, Sh.bool)], []⟩ .nil .nil) (.two (.two .nil (.one (.loop ⟨[(3, Sh.int .i64)], []⟩ .nil))) .nil))) [Value.string s] h R (by kernel_rfl)
    (Eq.mp (show ref17_Name_vc s h R = fnV Tryz.prog Tryz.f108 (fun _ => false) (.two .nil (.two (.cut ⟨[(28, Sh.bool)], []⟩ .nil .nil) (.two (.two .nil (.one (.loop ⟨[(3, Sh.int .i64)], []⟩ .nil))) .nil))) [Value.string s] h R by kernel_rfl) hv)

def ref02_Norm_vc (a_0 : Bool) (a_1A : Option Addr) (a_1n a_1c : Nat) (h : Heap) (R : Value → Heap → Prop) : Prop :=
 CallsU Tryz.prog 125 [Value.bool a_0, Value.slice a_1A a_1n a_1c] h fun v h_1 =>
 ∃ t7_0 : Bool, ∃ t7_1A : Option Addr, ∃ t7_1n t7_1c : Nat, v = Value.agg #[Value.bool t7_0, Value.slice t7_1A t7_1n t7_1c] ∧
 R (Value.agg #[Value.bool t7_0, Value.slice t7_1A t7_1n t7_1c]) h_1

set_option maxRecDepth 100000 in
theorem ref02_Norm_ok {a_0 : Bool} {a_1A : Option Addr} {a_1n a_1c : Nat} {h : Heap} {R : Value → Heap → Prop} (hv : ref02_Norm_vc a_0 a_1A a_1n a_1c h R) : CallsU Tryz.prog 123 [Value.agg #[Value.bool a_0, Value.slice a_1A a_1n a_1c]] h R :=
  fn_sound Tryz.func123 (by kernel_rfl) (by kernel_rfl) (by kernel_rfl) (fun _ => false) .nil [Value.agg #[Value.bool a_0, Value.slice a_1A a_1n a_1c]] h R (by kernel_rfl)
    (Eq.mp (show ref02_Norm_vc a_0 a_1A a_1n a_1c h R = fnV Tryz.prog Tryz.f123 (fun _ => false) .nil [Value.agg #[Value.bool a_0, Value.slice a_1A a_1n a_1c]] h R by kernel_rfl) hv)

def ref01_Cmp_vc (aA : Option Addr) (an ac : Nat) (bA : Option Addr) (bn bc : Nat) (h : Heap) (R : Value → Heap → Prop) : Prop :=
 ∀ t11 : Int, t11 = IntKind.i64.wrap ((if decide (((bn : Nat) : Int) > ((an : Nat) : Int)) then ((bn : Nat) : Int) else ((an : Nat) : Int)) - 1) →
 ∃ J : Nat → Int → Heap → Prop, (∃ m, J m t11 h) ∧
 ∀ (m : Nat) (i : Int) (h_1 : Heap), J m i h_1 →
 Br (decide (i ≥ 0))
  (CallsU Tryz.prog 170 [Value.slice aA an ac, Value.int .i64 i] h_1 fun v h_2 =>
 ∃ t18 : Int, v = Value.int .u64 t18 ∧
 CallsU Tryz.prog 170 [Value.slice bA bn bc, Value.int .i64 i] h_2 fun v_1 h_3 =>
 ∃ t21 : Int, v_1 = Value.int .u64 t21 ∧
 Br (decide (t18 < t21))
  (R (Value.int .i64 (-1)) h_3)
  (CallsU Tryz.prog 170 [Value.slice aA an ac, Value.int .i64 i] h_3 fun v_2 h_4 =>
 ∃ t25 : Int, v_2 = Value.int .u64 t25 ∧
 CallsU Tryz.prog 170 [Value.slice bA bn bc, Value.int .i64 i] h_4 fun v_3 h_5 =>
 ∃ t28 : Int, v_3 = Value.int .u64 t28 ∧
 Br (decide (t25 > t28))
  (R (Value.int .i64 1) h_5)
  (∀ t15 : Int, t15 = IntKind.i64.wrap (i - 1) →
 ∃ m_1, m_1 < m ∧ J m_1 t15 h_5)))
  (R (Value.int .i64 0) h_1)

set_option maxRecDepth 100000 in
theorem ref01_Cmp_ok {aA : Option Addr} {an ac : Nat} {bA : Option Addr} {bn bc : Nat} {h : Heap} {R : Value → Heap → Prop} (hv : ref01_Cmp_vc aA an ac bA bn bc h R) : CallsU Tryz.prog 124 [Value.slice aA an ac, Value.slice bA bn bc] h R :=
  fn_sound Tryz.func124 (by kernel_rfl) (by kernel_rfl) (by kernel_rfl) (fun _ => false) (.two .nil (.two (.two .nil (.one (.loop ⟨[(5, Sh.int .i64)], []⟩ .nil))) .nil)) [Value.slice aA an ac, Value.slice bA bn bc] h R (by kernel_rfl)
    (Eq.mp (show ref01_Cmp_vc aA an ac bA bn bc h R = fnV Tryz.prog Tryz.f124 (fun _ => false) (.two .nil (.two (.two .nil (.one (.loop ⟨[(5, Sh.int .i64)], []⟩ .nil))) .nil)) [Value.slice aA an ac, Value.slice bA bn bc] h R by kernel_rfl) hv)

def ref02_make1_vc (neg : Bool) (mA : Option Addr) (mn mc : Nat) (h : Heap) (R : Value → Heap → Prop) : Prop :=
 CallsU Tryz.prog 127 [Value.slice mA mn mc] h fun v h_1 =>
 ∃ t6A : Option Addr, ∃ t6n t6c : Nat, v = Value.slice t6A t6n t6c ∧
 Br (neg)
  (R (Value.agg #[Value.bool (decide (((t6n : Nat) : Int) > 0)), Value.slice t6A t6n t6c]) h_1)
  (R (Value.agg #[Value.bool false, Value.slice t6A t6n t6c]) h_1)

set_option maxRecDepth 100000 in
theorem ref02_make1_ok {neg : Bool} {mA : Option Addr} {mn mc : Nat} {h : Heap} {R : Value → Heap → Prop} (hv : ref02_make1_vc neg mA mn mc h R) : CallsU Tryz.prog 125 [Value.bool neg, Value.slice mA mn mc] h R :=
  fn_sound Tryz.func125 (by kernel_rfl) (by kernel_rfl) (by kernel_rfl) (fun _ => false) .nil [Value.bool neg, Value.slice mA mn mc] h R (by kernel_rfl)
    (Eq.mp (show ref02_make1_vc neg mA mn mc h R = fnV Tryz.prog Tryz.f125 (fun _ => false) .nil [Value.bool neg, Value.slice mA mn mc] h R by kernel_rfl) hv)

def ref01_Mul_vc (aA : Option Addr) (an ac : Nat) (bA : Option Addr) (bn bc : Nat) (h : Heap) (R : Value → Heap → Prop) : Prop :=
 ∀ t14 : Int, t14 = IntKind.i64.wrap (((an : Nat) : Int) + ((bn : Nat) : Int)) →
 0 ≤ t14 ∧ t14 ≤ t14 ∧ t14 * 4 ≤ 140737488355328 ∧ t14 ≤ 9223372036854775807 ∧
 ∀ (g : Nat) (h_1 : Heap), h g = none → h_1 = Heap.put h g ⟨repV [Value.int .u32 0] (Int.toNat t14), 104, (0, 0)⟩ →
 ∃ J : Nat → Int → Heap → Prop, (∃ m, J m 0 h_1) ∧
 ∀ (m : Nat) (i : Int) (h_2 : Heap), J m i h_2 →
 Br (decide (i < ((an : Nat) : Int)))
  (∃ J_1 : Nat → Int → Int → Heap → Prop, (∃ m_2, J_1 m_2 0 0 h_2) ∧
 ∀ (m_2 : Nat) (carry : Int) (k : Int) (h_3 : Heap), J_1 m_2 carry k h_3 →
 Br (decide (k < ((bn : Nat) : Int)))
  (CallsU Tryz.prog 170 [Value.slice aA an ac, Value.int .i64 i] h_3 fun v h_4 =>
 ∃ t30 : Int, v = Value.int .u64 t30 ∧
 CallsU Tryz.prog 170 [Value.slice bA bn bc, Value.int .i64 k] h_4 fun v_1 h_5 =>
 ∃ t33 : Int, v_1 = Value.int .u64 t33 ∧
 ∀ t34 : Int, t34 = IntKind.u64.wrap (t30 * t33) →
 ∀ t38 : Int, t38 = IntKind.i64.wrap (i + k) →
 CallsU Tryz.prog 170 [Value.slice (some ⟨g, 0, none⟩) (Int.toNat t14) (Int.toNat t14), Value.int .i64 t38] h_5 fun v_2 h_6 =>
 ∃ t39 : Int, v_2 = Value.int .u64 t39 ∧
 ∀ t40 : Int, t40 = IntKind.u64.wrap (t34 + t39) →
 ∀ t42 : Int, t42 = IntKind.u64.wrap (t40 + carry) →
 ∀ t46 : Int, t46 = IntKind.i64.wrap (i + k) →
 ∀ t48 : Int, t48 = (Int.tmod t42 4294967296) →
 ∃ ad : Addr, some ⟨g, 0, none⟩ = some ad ∧ 0 ≤ t46 ∧ t46 < (((Int.toNat t14) : Nat) : Int) ∧
 ∃ b : Blk, h_6 (Addr.block (Addr.add ad (Int.toNat t46 * 1))) = some b ∧ b.fz = (0, 0) ∧ Addr.spot (Addr.add ad (Int.toNat t46 * 1)) = none ∧ Addr.off (Addr.add ad (Int.toNat t46 * 1)) + 1 ≤ b.cells.length ∧
 ∀ h_7 : Heap, h_7 = Heap.put h_6 (Addr.block (Addr.add ad (Int.toNat t46 * 1))) { b with cells := setSeg b.cells (Addr.off (Addr.add ad (Int.toNat t46 * 1))) [Value.int .u32 (IntKind.u32.wrap t48)] } →
 ∀ t52 : Int, t52 = IntKind.u64.wrap (Int.tdiv t42 4294967296) →
 ∀ t27 : Int, t27 = IntKind.i64.wrap (k + 1) →
 ∃ m_3, m_3 < m_2 ∧ J_1 m_3 t52 t27 h_7)
  (∀ t57 : Int, t57 = IntKind.i64.wrap (i + ((bn : Nat) : Int)) →
 ∃ ad_1 : Addr, some ⟨g, 0, none⟩ = some ad_1 ∧ 0 ≤ t57 ∧ t57 < (((Int.toNat t14) : Nat) : Int) ∧
 ∃ b_1 : Blk, h_3 (Addr.block (Addr.add ad_1 (Int.toNat t57 * 1))) = some b_1 ∧ b_1.fz = (0, 0) ∧ Addr.spot (Addr.add ad_1 (Int.toNat t57 * 1)) = none ∧ Addr.off (Addr.add ad_1 (Int.toNat t57 * 1)) + 1 ≤ b_1.cells.length ∧
 ∀ h_8 : Heap, h_8 = Heap.put h_3 (Addr.block (Addr.add ad_1 (Int.toNat t57 * 1))) { b_1 with cells := setSeg b_1.cells (Addr.off (Addr.add ad_1 (Int.toNat t57 * 1))) [Value.int .u32 (IntKind.u32.wrap carry)] } →
 ∀ t21 : Int, t21 = IntKind.i64.wrap (i + 1) →
 ∃ m_1, m_1 < m ∧ J m_1 t21 h_8))
  (CallsU Tryz.prog 127 [Value.slice (some ⟨g, 0, none⟩) (Int.toNat t14) (Int.toNat t14)] h_2 fun v_3 h_9 =>
 ∃ t62A : Option Addr, ∃ t62n t62c : Nat, v_3 = Value.slice t62A t62n t62c ∧
 R (Value.slice t62A t62n t62c) h_9)

set_option maxRecDepth 100000 in
theorem ref01_Mul_ok {aA : Option Addr} {an ac : Nat} {bA : Option Addr} {bn bc : Nat} {h : Heap} {R : Value → Heap → Prop} (hv : ref01_Mul_vc aA an ac bA bn bc h R) : CallsU Tryz.prog 126 [Value.slice aA an ac, Value.slice bA bn bc] h R :=
  fn_sound Tryz.func126 (by kernel_rfl) (by kernel_rfl) (by kernel_rfl) (fun _ => false) (.two .nil (.two .nil (.two (.two .nil (.one (.loop ⟨[(6, Sh.int .i64)], []⟩ (.two .nil (.two (.one (.two .nil (.two (.two .nil (.one (.loop ⟨[(7, Sh.int .u64), (8, Sh.int .i64)], []⟩ .nil))) .nil))) .nil))))) .nil))) [Value.slice aA an ac, Value.slice bA bn bc] h R (by kernel_rfl)
    (Eq.mp (show ref01_Mul_vc aA an ac bA bn bc h R = fnV Tryz.prog Tryz.f126 (fun _ => false) (.two .nil (.two .nil (.two (.two .nil (.one (.loop ⟨[(6, Sh.int .i64)], []⟩ (.two .nil (.two (.one (.two .nil (.two (.two .nil (.one (.loop ⟨[(7, Sh.int .u64), (8, Sh.int .i64)], []⟩ .nil))) .nil))) .nil))))) .nil))) [Value.slice aA an ac, Value.slice bA bn bc] h R by kernel_rfl) hv)

def ref01_Norm_vc (aA : Option Addr) (an ac : Nat) (h : Heap) (R : Value → Heap → Prop) : Prop :=
 ∃ J : Nat → Int → Heap → Prop, (∃ m, J m ((an : Nat) : Int) h) ∧
 ∀ (m : Nat) (n : Int) (h_1 : Heap), J m n h_1 →
 Br (decide (n > 0))
  (∀ t12 : Int, t12 = IntKind.i64.wrap (n - 1) →
 ∃ ad : Addr, aA = some ad ∧ 0 ≤ t12 ∧ t12 < ((an : Nat) : Int) ∧
 ∃ t14 : Int, LdN h_1 (Addr.add ad (Int.toNat t12 * 1)) [Value.int .u32 t14] ∧
 Br ((t14 : Int) == 0)
  (∀ t18 : Int, t18 = IntKind.i64.wrap (n - 1) →
 ∃ m_1, m_1 < m ∧ J m_1 t18 h_1)
  (((0 : Nat) : Int) ≤ n ∧ n ≤ ((ac : Nat) : Int) ∧
 ∃ xs : List Value, RdS h_1 aA ((Int.toNat n) * 1) xs ∧ (∀ x ∈ xs, Go.Vcg.one x = true) ∧
 (0 + (Int.toNat n) ≤ 0 → Br (decide ((Int.toNat n) * 1 = 0)) (R (Value.slice none (0 + (Int.toNat n)) 0) h_1)
 (∃ (ad_1 : Addr) (b : Blk), none = some ad_1 ∧ ad_1.spot = none ∧ h_1 ad_1.block = some b ∧ b.fz = (0, 0) ∧ ad_1.off + 0 * 1 + (Int.toNat n) * 1 ≤ b.cells.length ∧
 ∀ h_3 : Heap, h_3 = Heap.put h_1 ad_1.block { b with cells := setSeg b.cells (ad_1.off + 0 * 1) xs } →
 R (Value.slice none (0 + (Int.toNat n)) 0) h_3)) ∧
 (0 < 0 + (Int.toNat n) → ∃ olds : List Value, RdS h_1 none (0 * 1) olds ∧ (0 + (Int.toNat n)) * 4 ≤ 140737488355328 ∧
 ∀ (g cap : Nat) (h_4 : Heap), h_1 g = none → 0 + (Int.toNat n) ≤ cap → h_4 = Heap.put h_1 g ⟨olds ++ xs ++ repV [Value.int .u32 0] (cap - (0 + (Int.toNat n))), 104, (0, 0)⟩ →
 R (Value.slice (some ⟨g, 0, none⟩) (0 + (Int.toNat n)) cap) h_4)))
  (((0 : Nat) : Int) ≤ n ∧ n ≤ ((ac : Nat) : Int) ∧
 ∃ xs_1 : List Value, RdS h_1 aA ((Int.toNat n) * 1) xs_1 ∧ (∀ x ∈ xs_1, Go.Vcg.one x = true) ∧
 (0 + (Int.toNat n) ≤ 0 → Br (decide ((Int.toNat n) * 1 = 0)) (R (Value.slice none (0 + (Int.toNat n)) 0) h_1)
 (∃ (ad_2 : Addr) (b_1 : Blk), none = some ad_2 ∧ ad_2.spot = none ∧ h_1 ad_2.block = some b_1 ∧ b_1.fz = (0, 0) ∧ ad_2.off + 0 * 1 + (Int.toNat n) * 1 ≤ b_1.cells.length ∧
 ∀ h_6 : Heap, h_6 = Heap.put h_1 ad_2.block { b_1 with cells := setSeg b_1.cells (ad_2.off + 0 * 1) xs_1 } →
 R (Value.slice none (0 + (Int.toNat n)) 0) h_6)) ∧
 (0 < 0 + (Int.toNat n) → ∃ olds_1 : List Value, RdS h_1 none (0 * 1) olds_1 ∧ (0 + (Int.toNat n)) * 4 ≤ 140737488355328 ∧
 ∀ (g_1 cap_1 : Nat) (h_7 : Heap), h_1 g_1 = none → 0 + (Int.toNat n) ≤ cap_1 → h_7 = Heap.put h_1 g_1 ⟨olds_1 ++ xs_1 ++ repV [Value.int .u32 0] (cap_1 - (0 + (Int.toNat n))), 104, (0, 0)⟩ →
 R (Value.slice (some ⟨g_1, 0, none⟩) (0 + (Int.toNat n)) cap_1) h_7))

set_option maxRecDepth 100000 in
theorem ref01_Norm_ok {aA : Option Addr} {an ac : Nat} {h : Heap} {R : Value → Heap → Prop} (hv : ref01_Norm_vc aA an ac h R) : CallsU Tryz.prog 127 [Value.slice aA an ac] h R :=
  fn_sound Tryz.func127 (by kernel_rfl) (by kernel_rfl) (by kernel_rfl) (fun _ => false) (.two .nil (.two .nil (.two (.one (.loop ⟨[(3, Sh.int .i64)], []⟩ .nil)) .nil))) [Value.slice aA an ac] h R (by kernel_rfl)
    (Eq.mp (show ref01_Norm_vc aA an ac h R = fnV Tryz.prog Tryz.f127 (fun _ => false) (.two .nil (.two .nil (.two (.one (.loop ⟨[(3, Sh.int .i64)], []⟩ .nil)) .nil))) [Value.slice aA an ac] h R by kernel_rfl) hv)

def ref01_Of_vc (n : Int) (h : Heap) (R : Value → Heap → Prop) : Prop :=
 ∃ J : Nat → Int → Option Addr → Nat → Nat → Heap → Prop, (∃ m, J m n none 0 0 h) ∧
 ∀ (m : Nat) (n_1 : Int) (outA : Option Addr) (outn outc : Nat) (h_1 : Heap), J m n_1 outA outn outc h_1 →
 Br (decide (n_1 > 0))
  (∀ t8 : Int, t8 = (Int.tmod n_1 4294967296) →
 ∀ (g : Nat) (h_2 : Heap), h_1 g = none → h_2 = Heap.put h_1 g ⟨[Value.int .u32 (IntKind.u32.wrap t8)], 104, (0, 0)⟩ →
 ∃ xs : List Value, RdS h_2 (some ⟨g, 0, none⟩) (1 * 1) xs ∧ (∀ x ∈ xs, Go.Vcg.one x = true) ∧
 (outn + 1 ≤ outc → ∃ (ad : Addr) (b : Blk), outA = some ad ∧ ad.spot = none ∧ h_2 ad.block = some b ∧ b.fz = (0, 0) ∧ ad.off + outn * 1 + 1 * 1 ≤ b.cells.length ∧
 ∀ h_4 : Heap, h_4 = Heap.put h_2 ad.block { b with cells := setSeg b.cells (ad.off + outn * 1) xs } →
 ∀ t13 : Int, t13 = IntKind.u64.wrap (Int.tdiv n_1 4294967296) →
 ∃ m_1, m_1 < m ∧ J m_1 t13 outA (outn + 1) outc h_4) ∧
 (outc < outn + 1 → ∃ olds : List Value, RdS h_2 outA (outn * 1) olds ∧ (outn + 1) * 4 ≤ 140737488355328 ∧
 ∀ (g_1 cap : Nat) (h_5 : Heap), h_2 g_1 = none → outn + 1 ≤ cap → h_5 = Heap.put h_2 g_1 ⟨olds ++ xs ++ repV [Value.int .u32 0] (cap - (outn + 1)), 104, (0, 0)⟩ →
 ∀ t13_1 : Int, t13_1 = IntKind.u64.wrap (Int.tdiv n_1 4294967296) →
 ∃ m_1, m_1 < m ∧ J m_1 t13_1 (some ⟨g_1, 0, none⟩) (outn + 1) cap h_5))
  (R (Value.slice outA outn outc) h_1)

set_option maxRecDepth 100000 in
theorem ref01_Of_ok {n : Int} {h : Heap} {R : Value → Heap → Prop} (hv : ref01_Of_vc n h R) : CallsU Tryz.prog 128 [Value.int .u64 n] h R :=
  fn_sound Tryz.func128 (by kernel_rfl) (by kernel_rfl) (by kernel_rfl) (fun _ => false) (.two .nil (.two .nil (.two (.one (.loop ⟨[(0, Sh.int .u64), (3, Sh.slice)], []⟩ .nil)) .nil))) [Value.int .u64 n] h R (by kernel_rfl)
    (Eq.mp (show ref01_Of_vc n h R = fnV Tryz.prog Tryz.f128 (fun _ => false) (.two .nil (.two .nil (.two (.one (.loop ⟨[(0, Sh.int .u64), (3, Sh.slice)], []⟩ .nil)) .nil))) [Value.int .u64 n] h R by kernel_rfl) hv)

def ref01_Gcd_vc (aA : Option Addr) (an ac : Nat) (bA : Option Addr) (bn bc : Nat) (h : Heap) (R : Value → Heap → Prop) : Prop :=
 CallsU Tryz.prog 127 [Value.slice aA an ac] h fun v h_1 =>
 ∃ t11A : Option Addr, ∃ t11n t11c : Nat, v = Value.slice t11A t11n t11c ∧
 CallsU Tryz.prog 127 [Value.slice bA bn bc] h_1 fun v_1 h_2 =>
 ∃ t13A : Option Addr, ∃ t13n t13c : Nat, v_1 = Value.slice t13A t13n t13c ∧
 ∃ J : Nat → Option Addr → Nat → Nat → Option Addr → Nat → Nat → Heap → Prop, (∃ m, J m t11A t11n t11c t13A t13n t13c h_2) ∧
 ∀ (m : Nat) (xA : Option Addr) (xn xc : Nat) (yA : Option Addr) (yn yc : Nat) (h_3 : Heap), J m xA xn xc yA yn yc h_3 →
 Br (decide (((yn : Nat) : Int) > 0))
  (CallsU Tryz.prog 130 [Value.slice xA xn xc, Value.slice yA yn yc] h_3 fun v_2 h_4 =>
 ∃ t20_0A : Option Addr, ∃ t20_0n t20_0c : Nat, ∃ t20_1A : Option Addr, ∃ t20_1n t20_1c : Nat, ∃ t20_2 : Bool, v_2 = Value.tuple #[Value.slice t20_0A t20_0n t20_0c, Value.slice t20_1A t20_1n t20_1c, Value.bool t20_2] ∧
 ∃ m_1, m_1 < m ∧ J m_1 yA yn yc t20_1A t20_1n t20_1c h_4)
  (R (Value.slice xA xn xc) h_3)

set_option maxRecDepth 100000 in
theorem ref01_Gcd_ok {aA : Option Addr} {an ac : Nat} {bA : Option Addr} {bn bc : Nat} {h : Heap} {R : Value → Heap → Prop} (hv : ref01_Gcd_vc aA an ac bA bn bc h R) : CallsU Tryz.prog 129 [Value.slice aA an ac, Value.slice bA bn bc] h R :=
  fn_sound Tryz.func129 (by kernel_rfl) (by kernel_rfl) (by kernel_rfl) (fun _ => false) (.two .nil (.two .nil (.two (.one (.loop ⟨[(5, Sh.slice), (6, Sh.slice)], []⟩ .nil)) .nil))) [Value.slice aA an ac, Value.slice bA bn bc] h R (by kernel_rfl)
    (Eq.mp (show ref01_Gcd_vc aA an ac bA bn bc h R = fnV Tryz.prog Tryz.f129 (fun _ => false) (.two .nil (.two .nil (.two (.one (.loop ⟨[(5, Sh.slice), (6, Sh.slice)], []⟩ .nil)) .nil))) [Value.slice aA an ac, Value.slice bA bn bc] h R by kernel_rfl) hv)

def ref01_DivMod_vc (aA : Option Addr) (an ac : Nat) (bA : Option Addr) (bn bc : Nat) (h : Heap) (R : Value → Heap → Prop) : Prop :=
 CallsU Tryz.prog 171 [Value.slice bA bn bc] h fun v h_1 =>
 ∃ t15 : Int, v = Value.int .i64 t15 ∧
 Br ((t15 : Int) == 0)
  (R (Value.tuple #[Value.slice none 0 0, Value.slice none 0 0, Value.bool false]) h_1)
  (CallsU Tryz.prog 127 [Value.slice aA an ac] h_1 fun v_1 h_2 =>
 ∃ t18A : Option Addr, ∃ t18n t18c : Nat, v_1 = Value.slice t18A t18n t18c ∧
 CallsU Tryz.prog 171 [Value.slice t18A t18n t18c] h_2 fun v_2 h_3 =>
 ∃ t20 : Int, v_2 = Value.int .i64 t20 ∧
 CallsU Tryz.prog 171 [Value.slice bA bn bc] h_3 fun v_3 h_4 =>
 ∃ t22 : Int, v_3 = Value.int .i64 t22 ∧
 ∀ t23 : Int, t23 = IntKind.i64.wrap (t20 - t22) →
 Br (decide (t23 < 0))
  (R (Value.tuple #[Value.slice none 0 0, Value.slice t18A t18n t18c, Value.bool true]) h_4)
  (∀ t28 : Int, t28 = IntKind.i64.wrap (Int.tdiv t23 32) →
 ∀ t29 : Int, t29 = IntKind.i64.wrap (t28 + 1) →
 0 ≤ t29 ∧ t29 ≤ t29 ∧ t29 * 4 ≤ 140737488355328 ∧ t29 ≤ 9223372036854775807 ∧
 ∀ (g : Nat) (h_5 : Heap), h_4 g = none → h_5 = Heap.put h_4 g ⟨repV [Value.int .u32 0] (Int.toNat t29), 104, (0, 0)⟩ →
 CallsU Tryz.prog 172 [Value.slice bA bn bc, Value.int .i64 t23] h_5 fun v_4 h_6 =>
 ∃ t33A : Option Addr, ∃ t33n t33c : Nat, v_4 = Value.slice t33A t33n t33c ∧
 ∃ J : Nat → Option Addr → Nat → Nat → Option Addr → Nat → Nat → Int → Heap → Prop, (∃ m, J m t18A t18n t18c t33A t33n t33c t23 h_6) ∧
 ∀ (m : Nat) (restA : Option Addr) (restn restc : Nat) (partA : Option Addr) (partn partc : Nat) (k : Int) (h_7 : Heap), J m restA restn restc partA partn partc k h_7 →
 Br (decide (k ≥ 0))
  (CallsU Tryz.prog 173 [Value.slice restA restn restc, Value.slice partA partn partc] h_7 fun v_5 h_8 =>
 ∃ t42_0A : Option Addr, ∃ t42_0n t42_0c : Nat, ∃ t42_1 : Bool, v_5 = Value.tuple #[Value.slice t42_0A t42_0n t42_0c, Value.bool t42_1] ∧
 Br (t42_1)
  (∀ t49 : Int, t49 = IntKind.i64.wrap (Int.tdiv k 32) →
 ∀ t52 : Int, t52 = IntKind.i64.wrap (Int.tdiv k 32) →
 ∃ ad : Addr, some ⟨g, 0, none⟩ = some ad ∧ 0 ≤ t52 ∧ t52 < (((Int.toNat t29) : Nat) : Int) ∧
 ∃ t54 : Int, LdN h_8 (Addr.add ad (Int.toNat t52 * 1)) [Value.int .u32 t54] ∧
 ∀ t56 : Int, t56 = (Int.tmod k 32) →
 Br (decide (IntKind.u64.wrap t56 < 0)) False
  (∀ t58 : Int, t58 = IntKind.u32.wrap (1 * 2 ^ (min (Int.toNat (IntKind.u64.wrap t56)) 32 : Nat)) →
 ∀ t59 : Int, t59 = IntKind.u32.wrap (t54 + t58) →
 ∃ ad_1 : Addr, some ⟨g, 0, none⟩ = some ad_1 ∧ 0 ≤ t49 ∧ t49 < (((Int.toNat t29) : Nat) : Int) ∧
 ∃ b : Blk, h_8 (Addr.block (Addr.add ad_1 (Int.toNat t49 * 1))) = some b ∧ b.fz = (0, 0) ∧ Addr.spot (Addr.add ad_1 (Int.toNat t49 * 1)) = none ∧ Addr.off (Addr.add ad_1 (Int.toNat t49 * 1)) + 1 ≤ b.cells.length ∧
 ∀ h_9 : Heap, h_9 = Heap.put h_8 (Addr.block (Addr.add ad_1 (Int.toNat t49 * 1))) { b with cells := setSeg b.cells (Addr.off (Addr.add ad_1 (Int.toNat t49 * 1))) [Value.int .u32 t59] } →
 CallsU Tryz.prog 174 [Value.slice partA partn partc] h_9 fun v_6 h_10 =>
 ∃ t62A : Option Addr, ∃ t62n t62c : Nat, v_6 = Value.slice t62A t62n t62c ∧
 ∀ t38 : Int, t38 = IntKind.i64.wrap (k - 1) →
 ∃ m_1, m_1 < m ∧ J m_1 t42_0A t42_0n t42_0c t62A t62n t62c t38 h_10))
  (CallsU Tryz.prog 174 [Value.slice partA partn partc] h_8 fun v_7 h_11 =>
 ∃ t62A_1 : Option Addr, ∃ t62n_1 t62c_1 : Nat, v_7 = Value.slice t62A_1 t62n_1 t62c_1 ∧
 ∀ t38_1 : Int, t38_1 = IntKind.i64.wrap (k - 1) →
 ∃ m_1, m_1 < m ∧ J m_1 restA restn restc t62A_1 t62n_1 t62c_1 t38_1 h_11))
  (CallsU Tryz.prog 127 [Value.slice (some ⟨g, 0, none⟩) (Int.toNat t29) (Int.toNat t29)] h_7 fun v_8 h_12 =>
 ∃ t64A : Option Addr, ∃ t64n t64c : Nat, v_8 = Value.slice t64A t64n t64c ∧
 R (Value.tuple #[Value.slice t64A t64n t64c, Value.slice restA restn restc, Value.bool true]) h_12)))

set_option maxRecDepth 100000 in
theorem ref01_DivMod_ok {aA : Option Addr} {an ac : Nat} {bA : Option Addr} {bn bc : Nat} {h : Heap} {R : Value → Heap → Prop} (hv : ref01_DivMod_vc aA an ac bA bn bc h R) : CallsU Tryz.prog 130 [Value.slice aA an ac, Value.slice bA bn bc] h R :=
  fn_sound Tryz.func130 (by kernel_rfl) (by kernel_rfl) (by kernel_rfl) (fun _ => false) (.two .nil (.two .nil (.two .nil (.two .nil (.two .nil (.two .nil (.two .nil (.two (.two .nil (.one (.loop ⟨[(7, Sh.slice), (10, Sh.slice), (11, Sh.int .i64)], []⟩ .nil))) .nil)))))))) [Value.slice aA an ac, Value.slice bA bn bc] h R (by kernel_rfl)
    (Eq.mp (show ref01_DivMod_vc aA an ac bA bn bc h R = fnV Tryz.prog Tryz.f130 (fun _ => false) (.two .nil (.two .nil (.two .nil (.two .nil (.two .nil (.two .nil (.two .nil (.two (.two .nil (.one (.loop ⟨[(7, Sh.slice), (10, Sh.slice), (11, Sh.int .i64)], []⟩ .nil))) .nil)))))))) [Value.slice aA an ac, Value.slice bA bn bc] h R by kernel_rfl) hv)

def ref03_Mul_vc (a_0 : Bool) (a_1A : Option Addr) (a_1n a_1c : Nat) (a_2A : Option Addr) (a_2n a_2c : Nat) (b_0 : Bool) (b_1A : Option Addr) (b_1n b_1c : Nat) (b_2A : Option Addr) (b_2n b_2c : Nat) (h : Heap) (R : Value → Heap → Prop) : Prop :=
 CallsU Tryz.prog 48 [Value.agg #[Value.bool a_0, Value.slice a_1A a_1n a_1c, Value.slice a_2A a_2n a_2c]] h fun v h_1 =>
 ∃ t8_0 : Bool, ∃ t8_1A : Option Addr, ∃ t8_1n t8_1c : Nat, ∃ t8_2A : Option Addr, ∃ t8_2n t8_2c : Nat, v = Value.agg #[Value.bool t8_0, Value.slice t8_1A t8_1n t8_1c, Value.slice t8_2A t8_2n t8_2c] ∧
 LeH h h_1 ∧
 CallsU Tryz.prog 48 [Value.agg #[Value.bool b_0, Value.slice b_1A b_1n b_1c, Value.slice b_2A b_2n b_2c]] h_1 fun v_1 h_2 =>
 ∃ t10_0 : Bool, ∃ t10_1A : Option Addr, ∃ t10_1n t10_1c : Nat, ∃ t10_2A : Option Addr, ∃ t10_2n t10_2c : Nat, v_1 = Value.agg #[Value.bool t10_0, Value.slice t10_1A t10_1n t10_1c, Value.slice t10_2A t10_2n t10_2c] ∧
 CallsU Tryz.prog 126 [Value.slice t8_1A t8_1n t8_1c, Value.slice t10_1A t10_1n t10_1c] h_2 fun v_2 h_3 =>
 ∃ t24A : Option Addr, ∃ t24n t24c : Nat, v_2 = Value.slice t24A t24n t24c ∧
 LeH h_2 h_3 ∧
 CallsU Tryz.prog 126 [Value.slice t8_2A t8_2n t8_2c, Value.slice t10_2A t10_2n t10_2c] h_3 fun v_3 h_4 =>
 ∃ t29A : Option Addr, ∃ t29n t29c : Nat, v_3 = Value.slice t29A t29n t29c ∧
 LeH h_3 h_4 ∧
 CallsU Tryz.prog 79 [Value.bool (!(t8_0 == t10_0)), Value.slice t24A t24n t24c, Value.slice t29A t29n t29c] h_4 fun v_4 h_5 =>
 ∃ t30_0 : Bool, ∃ t30_1A : Option Addr, ∃ t30_1n t30_1c : Nat, ∃ t30_2A : Option Addr, ∃ t30_2n t30_2c : Nat, v_4 = Value.agg #[Value.bool t30_0, Value.slice t30_1A t30_1n t30_1c, Value.slice t30_2A t30_2n t30_2c] ∧
 R (Value.agg #[Value.bool t30_0, Value.slice t30_1A t30_1n t30_1c, Value.slice t30_2A t30_2n t30_2c]) h_5

set_option maxRecDepth 100000 in
theorem ref03_Mul_ok {a_0 : Bool} {a_1A : Option Addr} {a_1n a_1c : Nat} {a_2A : Option Addr} {a_2n a_2c : Nat} {b_0 : Bool} {b_1A : Option Addr} {b_1n b_1c : Nat} {b_2A : Option Addr} {b_2n b_2c : Nat} {h : Heap} {R : Value → Heap → Prop} (hv : ref03_Mul_vc a_0 a_1A a_1n a_1c a_2A a_2n a_2c b_0 b_1A b_1n b_1c b_2A b_2n b_2c h R) : CallsU Tryz.prog 137 [Value.agg #[Value.bool a_0, Value.slice a_1A a_1n a_1c, Value.slice a_2A a_2n a_2c], Value.agg #[Value.bool b_0, Value.slice b_1A b_1n b_1c, Value.slice b_2A b_2n b_2c]] h R :=
  fn_sound Tryz.func137 (by kernel_rfl) (by kernel_rfl) (by kernel_rfl) (fun _ => false) (.two .nil (.two (.ord [0, 2, 1, 3, 4, 5, 6, 7]) (.two (.ord [0, 1, 2, 3, 4, 5, 6, 7, 8, 9, 10, 11, 12, 14, 15, 16, 17, 13, 18, 19, 20]) .nil))) [Value.agg #[Value.bool a_0, Value.slice a_1A a_1n a_1c, Value.slice a_2A a_2n a_2c], Value.agg #[Value.bool b_0, Value.slice b_1A b_1n b_1c, Value.slice b_2A b_2n b_2c]] h R (by kernel_rfl)
    (Eq.mp (show ref03_Mul_vc a_0 a_1A a_1n a_1c a_2A a_2n a_2c b_0 b_1A b_1n b_1c b_2A b_2n b_2c h R = fnV Tryz.prog Tryz.f137 (fun _ => false) (.two .nil (.two (.ord [0, 2, 1, 3, 4, 5, 6, 7]) (.two (.ord [0, 1, 2, 3, 4, 5, 6, 7, 8, 9, 10, 11, 12, 14, 15, 16, 17, 13, 18, 19, 20]) .nil))) [Value.agg #[Value.bool a_0, Value.slice a_1A a_1n a_1c, Value.slice a_2A a_2n a_2c], Value.agg #[Value.bool b_0, Value.slice b_1A b_1n b_1c, Value.slice b_2A b_2n b_2c]] h R by kernel_rfl) hv)

def ref02_Small_vc (a_0 : Bool) (a_1A : Option Addr) (a_1n a_1c : Nat) (h : Heap) (R : Value → Heap → Prop) : Prop :=
 CallsU Tryz.prog 123 [Value.agg #[Value.bool a_0, Value.slice a_1A a_1n a_1c]] h fun v h_1 =>
 ∃ t8_0 : Bool, ∃ t8_1A : Option Addr, ∃ t8_1n t8_1c : Nat, v = Value.agg #[Value.bool t8_0, Value.slice t8_1A t8_1n t8_1c] ∧
 Br (decide (((t8_1n : Nat) : Int) > 2))
  (R (Value.tuple #[Value.int .i64 0, Value.bool false]) h_1)
  (∀ t16 : Int, t16 = IntKind.i64.wrap (((t8_1n : Nat) : Int) - 1) →
 ∃ J : Nat → Int → Int → Heap → Prop, (∃ m, J m 0 t16 h_1) ∧
 ∀ (m : Nat) (n : Int) (i : Int) (h_2 : Heap), J m n i h_2 →
 Br (decide (i ≥ 0))
  (∀ t22 : Int, t22 = IntKind.u64.wrap (n * 4294967296) →
 ∃ ad : Addr, t8_1A = some ad ∧ 0 ≤ i ∧ i < ((t8_1n : Nat) : Int) ∧
 ∃ t27 : Int, LdN h_2 (Addr.add ad (Int.toNat i * 1)) [Value.int .u32 t27] ∧
 ∀ t29 : Int, t29 = IntKind.u64.wrap (t22 + (IntKind.u64.wrap t27)) →
 ∀ t20 : Int, t20 = IntKind.i64.wrap (i - 1) →
 ∃ m_1, m_1 < m ∧ J m_1 t29 t20 h_2)
  (∃ C : Heap → Prop, (∀  (h_3 : Heap), C h_3 →
 Br (!t8_0)
  (Br (decide (n ≤ 9223372036854775807))
  (R (Value.tuple #[Value.int .i64 (IntKind.i64.wrap n), Value.bool true]) h_3)
  (R (Value.tuple #[Value.int .i64 0, Value.bool false]) h_3))
  (R (Value.tuple #[Value.int .i64 0, Value.bool false]) h_3)) ∧
 Br (t8_0)
  (Br (decide (n ≤ 9223372036854775808))
  (∀ t37 : Int, t37 = IntKind.u64.wrap (n - 1) →
 ∀ t39 : Int, t39 = IntKind.i64.wrap (0 - (IntKind.i64.wrap t37)) →
 ∀ t40 : Int, t40 = IntKind.i64.wrap (t39 - 1) →
 R (Value.tuple #[Value.int .i64 t40, Value.bool true]) h_2)
  (C h_2))
  (C h_2)))

set_option maxRecDepth 100000 in
theorem ref02_Small_ok {a_0 : Bool} {a_1A : Option Addr} {a_1n a_1c : Nat} {h : Heap} {R : Value → Heap → Prop} (hv : ref02_Small_vc a_0 a_1A a_1n a_1c h R) : CallsU Tryz.prog 138 [Value.agg #[Value.bool a_0, Value.slice a_1A a_1n a_1c]] h R :=
  fn_sound Tryz.func138 (by kernel_rfl) (by kernel_rfl) (by kernel_rfl) (fun _ => false) (.two .nil (.two .nil (.two .nil (.two .nil (.two (.two .nil (.one (.loop ⟨[(5, Sh.int .u64), (6, Sh.int .i64)], []⟩ .nil))) (.cut ⟨[], []⟩ .nil .nil)))))) [Value.agg #[Value.bool a_0, Value.slice a_1A a_1n a_1c]] h R (by kernel_rfl)
    (Eq.mp (show ref02_Small_vc a_0 a_1A a_1n a_1c h R = fnV Tryz.prog Tryz.f138 (fun _ => false) (.two .nil (.two .nil (.two .nil (.two .nil (.two (.two .nil (.one (.loop ⟨[(5, Sh.int .u64), (6, Sh.int .i64)], []⟩ .nil))) (.cut ⟨[], []⟩ .nil .nil)))))) [Value.agg #[Value.bool a_0, Value.slice a_1A a_1n a_1c]] h R by kernel_rfl) hv)

def ref17_digit_vc (b : Int) (h : Heap) (R : Value → Heap → Prop) : Prop :=
 Br (decide (b ≥ 48))
  (R (Value.bool (decide (b ≤ 57))) h)
  (R (Value.bool false) h)

set_option maxRecDepth 100000 in
theorem ref17_digit_ok {b : Int} {h : Heap} {R : Value → Heap → Prop} (hv : ref17_digit_vc b h R) : CallsU Tryz.prog 156 [Value.int .u8 b] h R :=
  fn_sound Tryz.func156 (by kernel_rfl) (by kernel_rfl) (by kernel_rfl) (fun _ => false) .nil [Value.int .u8 b] h R (by kernel_rfl)
    (Eq.mp (show ref17_digit_vc b h R = fnV Tryz.prog Tryz.f156 (fun _ => false) .nil [Value.int .u8 b] h R by kernel_rfl) hv)

def ref01_limb_vc (aA : Option Addr) (an _ac : Nat) (i : Int) (h : Heap) (R : Value → Heap → Prop) : Prop :=
 Br (decide (i < 0))
  (R (Value.int .u64 0) h)
  (Br (decide (i ≥ ((an : Nat) : Int)))
  (R (Value.int .u64 0) h)
  (∃ ad : Addr, aA = some ad ∧ 0 ≤ i ∧ i < ((an : Nat) : Int) ∧
 ∃ t16 : Int, LdN h (Addr.add ad (Int.toNat i * 1)) [Value.int .u32 t16] ∧
 R (Value.int .u64 (IntKind.u64.wrap t16)) h))

set_option maxRecDepth 100000 in
theorem ref01_limb_ok {aA : Option Addr} {an ac : Nat} {i : Int} {h : Heap} {R : Value → Heap → Prop} (hv : ref01_limb_vc aA an ac i h R) : CallsU Tryz.prog 170 [Value.slice aA an ac, Value.int .i64 i] h R :=
  fn_sound Tryz.func170 (by kernel_rfl) (by kernel_rfl) (by kernel_rfl) (fun _ => false) .nil [Value.slice aA an ac, Value.int .i64 i] h R (by kernel_rfl)
    (Eq.mp (show ref01_limb_vc aA an ac i h R = fnV Tryz.prog Tryz.f170 (fun _ => false) .nil [Value.slice aA an ac, Value.int .i64 i] h R by kernel_rfl) hv)

def ref01_Bits_vc (aA : Option Addr) (an ac : Nat) (h : Heap) (R : Value → Heap → Prop) : Prop :=
 CallsU Tryz.prog 127 [Value.slice aA an ac] h fun v h_1 =>
 ∃ t7A : Option Addr, ∃ t7n t7c : Nat, v = Value.slice t7A t7n t7c ∧
 Br ((((t7n : Nat) : Int) : Int) == 0)
  (R (Value.int .i64 0) h_1)
  (∀ t13 : Int, t13 = IntKind.i64.wrap (((t7n : Nat) : Int) - 1) →
 ∀ t14 : Int, t14 = IntKind.i64.wrap (32 * t13) →
 ∀ t18 : Int, t18 = IntKind.i64.wrap (((t7n : Nat) : Int) - 1) →
 ∃ ad : Addr, t7A = some ad ∧ 0 ≤ t18 ∧ t18 < ((t7n : Nat) : Int) ∧
 ∃ t20 : Int, LdN h_1 (Addr.add ad (Int.toNat t18 * 1)) [Value.int .u32 t20] ∧
 ∃ J : Nat → Int → Int → Heap → Prop, (∃ m, J m t14 t20 h_1) ∧
 ∀ (m : Nat) (n : Int) (t : Int) (h_2 : Heap), J m n t h_2 →
 Br (decide (t > 0))
  (∀ t26 : Int, t26 = IntKind.i64.wrap (n + 1) →
 ∀ t24 : Int, t24 = IntKind.u32.wrap (Int.tdiv t 2) →
 ∃ m_1, m_1 < m ∧ J m_1 t26 t24 h_2)
  (R (Value.int .i64 n) h_2))

set_option maxRecDepth 100000 in
theorem ref01_Bits_ok {aA : Option Addr} {an ac : Nat} {h : Heap} {R : Value → Heap → Prop} (hv : ref01_Bits_vc aA an ac h R) : CallsU Tryz.prog 171 [Value.slice aA an ac] h R :=
  fn_sound Tryz.func171 (by kernel_rfl) (by kernel_rfl) (by kernel_rfl) (fun _ => false) (.two .nil (.two .nil (.two .nil (.two .nil (.two (.two .nil (.one (.loop ⟨[(4, Sh.int .i64), (5, Sh.int .u32)], []⟩ .nil))) .nil))))) [Value.slice aA an ac] h R (by kernel_rfl)
    (Eq.mp (show ref01_Bits_vc aA an ac h R = fnV Tryz.prog Tryz.f171 (fun _ => false) (.two .nil (.two .nil (.two .nil (.two .nil (.two (.two .nil (.one (.loop ⟨[(4, Sh.int .i64), (5, Sh.int .u32)], []⟩ .nil))) .nil))))) [Value.slice aA an ac] h R by kernel_rfl) hv)

def ref01_Shift_vc (aA : Option Addr) (an ac : Nat) (n : Int) (h : Heap) (R : Value → Heap → Prop) : Prop :=
 ∀ t10 : Int, t10 = IntKind.i64.wrap (Int.tdiv n 32) →
 0 ≤ t10 ∧ t10 ≤ t10 ∧ t10 * 4 ≤ 140737488355328 ∧ t10 ≤ 9223372036854775807 ∧
 ∀ (g : Nat) (h_1 : Heap), h g = none → h_1 = Heap.put h g ⟨repV [Value.int .u32 0] (Int.toNat t10), 104, (0, 0)⟩ →
 ∃ J : Nat → Option Addr → Nat → Nat → Int → Int → Heap → Prop, (∃ m, J m (some ⟨g, 0, none⟩) (Int.toNat t10) (Int.toNat t10) 0 0 h_1) ∧
 ∀ (m : Nat) (outA : Option Addr) (outn outc : Nat) (carry : Int) (i : Int) (h_2 : Heap), J m outA outn outc carry i h_2 →
 Br (decide (i ≤ ((an : Nat) : Int)))
  (CallsU Tryz.prog 170 [Value.slice aA an ac, Value.int .i64 i] h_2 fun v h_3 =>
 ∃ t20 : Int, v = Value.int .u64 t20 ∧
 ∀ t22 : Int, t22 = (Int.tmod n 32) →
 Br (decide (IntKind.u64.wrap t22 < 0)) False
  (∀ t24 : Int, t24 = IntKind.u64.wrap (t20 * 2 ^ (min (Int.toNat (IntKind.u64.wrap t22)) 64 : Nat)) →
 ∀ t26 : Int, t26 = IntKind.u64.wrap (t24 + carry) →
 ∀ t29 : Int, t29 = (Int.tmod t26 4294967296) →
 ∀ (g_1 : Nat) (h_4 : Heap), h_3 g_1 = none → h_4 = Heap.put h_3 g_1 ⟨[Value.int .u32 (IntKind.u32.wrap t29)], 104, (0, 0)⟩ →
 ∃ xs : List Value, RdS h_4 (some ⟨g_1, 0, none⟩) (1 * 1) xs ∧ (∀ x ∈ xs, Go.Vcg.one x = true) ∧
 (outn + 1 ≤ outc → ∃ (ad : Addr) (b : Blk), outA = some ad ∧ ad.spot = none ∧ h_4 ad.block = some b ∧ b.fz = (0, 0) ∧ ad.off + outn * 1 + 1 * 1 ≤ b.cells.length ∧
 ∀ h_6 : Heap, h_6 = Heap.put h_4 ad.block { b with cells := setSeg b.cells (ad.off + outn * 1) xs } →
 ∀ t34 : Int, t34 = IntKind.u64.wrap (Int.tdiv t26 4294967296) →
 ∀ t17 : Int, t17 = IntKind.i64.wrap (i + 1) →
 ∃ m_1, m_1 < m ∧ J m_1 outA (outn + 1) outc t34 t17 h_6) ∧
 (outc < outn + 1 → ∃ olds : List Value, RdS h_4 outA (outn * 1) olds ∧ (outn + 1) * 4 ≤ 140737488355328 ∧
 ∀ (g_2 cap : Nat) (h_7 : Heap), h_4 g_2 = none → outn + 1 ≤ cap → h_7 = Heap.put h_4 g_2 ⟨olds ++ xs ++ repV [Value.int .u32 0] (cap - (outn + 1)), 104, (0, 0)⟩ →
 ∀ t34_1 : Int, t34_1 = IntKind.u64.wrap (Int.tdiv t26 4294967296) →
 ∀ t17_1 : Int, t17_1 = IntKind.i64.wrap (i + 1) →
 ∃ m_1, m_1 < m ∧ J m_1 (some ⟨g_2, 0, none⟩) (outn + 1) cap t34_1 t17_1 h_7)))
  (CallsU Tryz.prog 127 [Value.slice outA outn outc] h_2 fun v_2 h_8 =>
 ∃ t36A : Option Addr, ∃ t36n t36c : Nat, v_2 = Value.slice t36A t36n t36c ∧
 R (Value.slice t36A t36n t36c) h_8)

set_option maxRecDepth 100000 in
theorem ref01_Shift_ok {aA : Option Addr} {an ac : Nat} {n : Int} {h : Heap} {R : Value → Heap → Prop} (hv : ref01_Shift_vc aA an ac n h R) : CallsU Tryz.prog 172 [Value.slice aA an ac, Value.int .i64 n] h R :=
  fn_sound Tryz.func172 (by kernel_rfl) (by kernel_rfl) (by kernel_rfl) (fun _ => false) (.two .nil (.two .nil (.two .nil (.two (.two .nil (.one (.loop ⟨[(5, Sh.slice), (6, Sh.int .u64), (7, Sh.int .i64)], []⟩ .nil))) .nil)))) [Value.slice aA an ac, Value.int .i64 n] h R (by kernel_rfl)
    (Eq.mp (show ref01_Shift_vc aA an ac n h R = fnV Tryz.prog Tryz.f172 (fun _ => false) (.two .nil (.two .nil (.two .nil (.two (.two .nil (.one (.loop ⟨[(5, Sh.slice), (6, Sh.int .u64), (7, Sh.int .i64)], []⟩ .nil))) .nil)))) [Value.slice aA an ac, Value.int .i64 n] h R by kernel_rfl) hv)

def ref01_Sub_vc (aA : Option Addr) (an ac : Nat) (bA : Option Addr) (bn bc : Nat) (h : Heap) (R : Value → Heap → Prop) : Prop :=
 CallsU Tryz.prog 124 [Value.slice aA an ac, Value.slice bA bn bc] h fun v h_1 =>
 ∃ t12 : Int, v = Value.int .i64 t12 ∧
 Br (decide (t12 < 0))
  (R (Value.tuple #[Value.slice none 0 0, Value.bool false]) h_1)
  (∃ J : Nat → Option Addr → Nat → Nat → Int → Int → Heap → Prop, (∃ m, J m none 0 0 0 0 h_1) ∧
 ∀ (m : Nat) (outA : Option Addr) (outn outc : Nat) (borrow : Int) (i : Int) (h_2 : Heap), J m outA outn outc borrow i h_2 →
 Br (decide (i < (if decide (((bn : Nat) : Int) > ((an : Nat) : Int)) then ((bn : Nat) : Int) else ((an : Nat) : Int))))
  (CallsU Tryz.prog 170 [Value.slice aA an ac, Value.int .i64 i] h_2 fun v_1 h_3 =>
 ∃ t25 : Int, v_1 = Value.int .u64 t25 ∧
 ∀ t26 : Int, t26 = IntKind.u64.wrap (4294967296 + t25) →
 CallsU Tryz.prog 170 [Value.slice bA bn bc, Value.int .i64 i] h_3 fun v_2 h_4 =>
 ∃ t29 : Int, v_2 = Value.int .u64 t29 ∧
 ∀ t30 : Int, t30 = IntKind.u64.wrap (t26 - t29) →
 ∀ t32 : Int, t32 = IntKind.u64.wrap (t30 - borrow) →
 ∀ t35 : Int, t35 = (Int.tmod t32 4294967296) →
 ∀ (g : Nat) (h_5 : Heap), h_4 g = none → h_5 = Heap.put h_4 g ⟨[Value.int .u32 (IntKind.u32.wrap t35)], 104, (0, 0)⟩ →
 ∃ xs : List Value, RdS h_5 (some ⟨g, 0, none⟩) (1 * 1) xs ∧ (∀ x ∈ xs, Go.Vcg.one x = true) ∧
 (outn + 1 ≤ outc → ∃ (ad : Addr) (b : Blk), outA = some ad ∧ ad.spot = none ∧ h_5 ad.block = some b ∧ b.fz = (0, 0) ∧ ad.off + outn * 1 + 1 * 1 ≤ b.cells.length ∧
 ∀ h_7 : Heap, h_7 = Heap.put h_5 ad.block { b with cells := setSeg b.cells (ad.off + outn * 1) xs } →
 ∀ t40 : Int, t40 = IntKind.u64.wrap (Int.tdiv t32 4294967296) →
 ∀ t41 : Int, t41 = IntKind.u64.wrap (1 - t40) →
 ∀ t22 : Int, t22 = IntKind.i64.wrap (i + 1) →
 ∃ m_1, m_1 < m ∧ J m_1 outA (outn + 1) outc t41 t22 h_7) ∧
 (outc < outn + 1 → ∃ olds : List Value, RdS h_5 outA (outn * 1) olds ∧ (outn + 1) * 4 ≤ 140737488355328 ∧
 ∀ (g_1 cap : Nat) (h_8 : Heap), h_5 g_1 = none → outn + 1 ≤ cap → h_8 = Heap.put h_5 g_1 ⟨olds ++ xs ++ repV [Value.int .u32 0] (cap - (outn + 1)), 104, (0, 0)⟩ →
 ∀ t40_1 : Int, t40_1 = IntKind.u64.wrap (Int.tdiv t32 4294967296) →
 ∀ t41_1 : Int, t41_1 = IntKind.u64.wrap (1 - t40_1) →
 ∀ t22_1 : Int, t22_1 = IntKind.i64.wrap (i + 1) →
 ∃ m_1, m_1 < m ∧ J m_1 (some ⟨g_1, 0, none⟩) (outn + 1) cap t41_1 t22_1 h_8))
  (CallsU Tryz.prog 127 [Value.slice outA outn outc] h_2 fun v_4 h_9 =>
 ∃ t43A : Option Addr, ∃ t43n t43c : Nat, v_4 = Value.slice t43A t43n t43c ∧
 R (Value.tuple #[Value.slice t43A t43n t43c, Value.bool true]) h_9))

set_option maxRecDepth 100000 in
theorem ref01_Sub_ok {aA : Option Addr} {an ac : Nat} {bA : Option Addr} {bn bc : Nat} {h : Heap} {R : Value → Heap → Prop} (hv : ref01_Sub_vc aA an ac bA bn bc h R) : CallsU Tryz.prog 173 [Value.slice aA an ac, Value.slice bA bn bc] h R :=
  fn_sound Tryz.func173 (by kernel_rfl) (by kernel_rfl) (by kernel_rfl) (fun _ => false) (.two .nil (.two .nil (.two .nil (.two .nil (.two (.two .nil (.one (.loop ⟨[(6, Sh.slice), (7, Sh.int .u64), (8, Sh.int .i64)], []⟩ .nil))) .nil))))) [Value.slice aA an ac, Value.slice bA bn bc] h R (by kernel_rfl)
    (Eq.mp (show ref01_Sub_vc aA an ac bA bn bc h R = fnV Tryz.prog Tryz.f173 (fun _ => false) (.two .nil (.two .nil (.two .nil (.two .nil (.two (.two .nil (.one (.loop ⟨[(6, Sh.slice), (7, Sh.int .u64), (8, Sh.int .i64)], []⟩ .nil))) .nil))))) [Value.slice aA an ac, Value.slice bA bn bc] h R by kernel_rfl) hv)

def ref01_Half_vc (aA : Option Addr) (an ac : Nat) (h : Heap) (R : Value → Heap → Prop) : Prop :=
 ∃ J : Nat → Option Addr → Nat → Nat → Int → Heap → Prop, (∃ m, J m none 0 0 0 h) ∧
 ∀ (m : Nat) (outA : Option Addr) (outn outc : Nat) (i : Int) (h_1 : Heap), J m outA outn outc i h_1 →
 Br (decide (i < ((an : Nat) : Int)))
  (CallsU Tryz.prog 170 [Value.slice aA an ac, Value.int .i64 i] h_1 fun v h_2 =>
 ∃ t14 : Int, v = Value.int .u64 t14 ∧
 ∀ t15 : Int, t15 = IntKind.u64.wrap (Int.tdiv t14 2) →
 ∀ t18 : Int, t18 = IntKind.i64.wrap (i + 1) →
 CallsU Tryz.prog 170 [Value.slice aA an ac, Value.int .i64 t18] h_2 fun v_1 h_3 =>
 ∃ t19 : Int, v_1 = Value.int .u64 t19 ∧
 ∀ t20 : Int, t20 = (Int.tmod t19 2) →
 ∀ t21 : Int, t21 = IntKind.u64.wrap (t20 * 2147483648) →
 ∀ t22 : Int, t22 = IntKind.u64.wrap (t15 + t21) →
 ∀ (g : Nat) (h_4 : Heap), h_3 g = none → h_4 = Heap.put h_3 g ⟨[Value.int .u32 (IntKind.u32.wrap t22)], 104, (0, 0)⟩ →
 ∃ xs : List Value, RdS h_4 (some ⟨g, 0, none⟩) (1 * 1) xs ∧ (∀ x ∈ xs, Go.Vcg.one x = true) ∧
 (outn + 1 ≤ outc → ∃ (ad : Addr) (b : Blk), outA = some ad ∧ ad.spot = none ∧ h_4 ad.block = some b ∧ b.fz = (0, 0) ∧ ad.off + outn * 1 + 1 * 1 ≤ b.cells.length ∧
 ∀ h_6 : Heap, h_6 = Heap.put h_4 ad.block { b with cells := setSeg b.cells (ad.off + outn * 1) xs } →
 ∀ t10 : Int, t10 = IntKind.i64.wrap (i + 1) →
 ∃ m_1, m_1 < m ∧ J m_1 outA (outn + 1) outc t10 h_6) ∧
 (outc < outn + 1 → ∃ olds : List Value, RdS h_4 outA (outn * 1) olds ∧ (outn + 1) * 4 ≤ 140737488355328 ∧
 ∀ (g_1 cap : Nat) (h_7 : Heap), h_4 g_1 = none → outn + 1 ≤ cap → h_7 = Heap.put h_4 g_1 ⟨olds ++ xs ++ repV [Value.int .u32 0] (cap - (outn + 1)), 104, (0, 0)⟩ →
 ∀ t10_1 : Int, t10_1 = IntKind.i64.wrap (i + 1) →
 ∃ m_1, m_1 < m ∧ J m_1 (some ⟨g_1, 0, none⟩) (outn + 1) cap t10_1 h_7))
  (CallsU Tryz.prog 127 [Value.slice outA outn outc] h_1 fun v_3 h_8 =>
 ∃ t27A : Option Addr, ∃ t27n t27c : Nat, v_3 = Value.slice t27A t27n t27c ∧
 R (Value.slice t27A t27n t27c) h_8)

set_option maxRecDepth 100000 in
theorem ref01_Half_ok {aA : Option Addr} {an ac : Nat} {h : Heap} {R : Value → Heap → Prop} (hv : ref01_Half_vc aA an ac h R) : CallsU Tryz.prog 174 [Value.slice aA an ac] h R :=
  fn_sound Tryz.func174 (by kernel_rfl) (by kernel_rfl) (by kernel_rfl) (fun _ => false) (.two .nil (.two .nil (.two (.two .nil (.one (.loop ⟨[(3, Sh.slice), (4, Sh.int .i64)], []⟩ .nil))) .nil))) [Value.slice aA an ac] h R (by kernel_rfl)
    (Eq.mp (show ref01_Half_vc aA an ac h R = fnV Tryz.prog Tryz.f174 (fun _ => false) (.two .nil (.two .nil (.two (.two .nil (.one (.loop ⟨[(3, Sh.slice), (4, Sh.int .i64)], []⟩ .nil))) .nil))) [Value.slice aA an ac] h R by kernel_rfl) hv)

end Go.Proofs.YtdpdaphholileaaGreatDoor

/-
  Contracts: sampling.Accept; draws.
-/
namespace Go.Proofs.YtdpdaphholileaaGreatDoor
open Go Go.Vcg
attribute [local irreducible] Br

/-! ### draws -/
theorem getD_some {l : List Int} {i : Nat} (h : i < l.length) : l[i]? = some (l.getD i 0) := by simp [h]

end Go.Proofs.YtdpdaphholileaaGreatDoor

/-
  Contracts: draws.Sample, sampling.Draw; references 53: SameInts, Check.
-/
namespace Go.Proofs.YtdpdaphholileaaGreatDoor
open Go Go.Vcg
attribute [local irreducible] Br

/-! ### references of 53 -/
end Go.Proofs.YtdpdaphholileaaGreatDoor
