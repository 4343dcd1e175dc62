/- Made by vcgen.py: verification conditions of functions, each held against the calculator by the kernel. -/
import Derived.Test.YtfhipkdcekffaaaGreatDoorVcg4
import Derived.Test.YtfhipkdcekffaaaGreatDoorChecked
namespace Go.Proofs.YtfhipkdcekffaaaGreatDoor
open Go Go.Vcg

def sampling_Exactly_vc (p_0 : Int) (p_1 : Int) (lot : Int) (defective : Int) (found : Int) (h : Heap) (R : Value → Heap → Prop) : Prop :=
 ∃ C : Bool → Heap → Prop, (∀ (t32 : Bool) (h_1 : Heap), C t32 h_1 →
 Br (t32)
  (R (Value.tuple #[Value.agg #[Value.bool false, Value.slice none 0 0, Value.slice none 0 0], Value.int .i64 3]) h_1)
  (CallsU Tryz.prog 25 [Value.int .i64 p_0, Value.int .i64 lot, Value.int .i64 defective, Value.int .i64 found] h_1 fun v h_2 =>
 ∃ t39A : Option Addr, ∃ t39n t39c : Nat, v = Value.slice t39A t39n t39c ∧
 CallsU Tryz.prog 26 [Value.int .i64 lot, Value.int .i64 p_0] h_2 fun v_1 h_3 =>
 ∃ t43A : Option Addr, ∃ t43n t43c : Nat, v_1 = Value.slice t43A t43n t43c ∧
 CallsU Tryz.prog 24 [Value.slice t39A t39n t39c, Value.slice t43A t43n t43c] h_3 fun v_2 h_4 =>
 ∃ t44_0 : Bool, ∃ t44_1A : Option Addr, ∃ t44_1n t44_1c : Nat, ∃ t44_2A : Option Addr, ∃ t44_2n t44_2c : Nat, v_2 = Value.agg #[Value.bool t44_0, Value.slice t44_1A t44_1n t44_1c, Value.slice t44_2A t44_2n t44_2c] ∧
 R (Value.tuple #[Value.agg #[Value.bool t44_0, Value.slice t44_1A t44_1n t44_1c, Value.slice t44_2A t44_2n t44_2c], Value.int .i64 0]) h_4)) ∧
 CallsU Tryz.prog 21 [Value.agg #[Value.int .i64 p_0, Value.int .i64 p_1], Value.int .i64 lot] h fun v_3 h_5 =>
 ∃ t12 : Int, v_3 = Value.int .i64 t12 ∧
 Br ((t12 : Int) != 0)
  (C true h_5)
  (Br (decide (defective < 0))
  (C true h_5)
  (Br (decide (defective > lot))
  (C true h_5)
  (Br (decide (found < 0))
  (C true h_5)
  (C (decide (found > p_0)) h_5))))

set_option maxRecDepth 100000 in
theorem sampling_Exactly_ok {p_0 : Int} {p_1 : Int} {lot : Int} {defective : Int} {found : Int} {h : Heap} {R : Value → Heap → Prop} (hv : sampling_Exactly_vc p_0 p_1 lot defective found h R) : CallsU Tryz.prog 8 [Value.agg #[Value.int .i64 p_0, Value.int .i64 p_1], Value.int .i64 lot, Value.int .i64 defective, Value.int .i64 found] h R :=
  fn_sound Tryz.func8 (by kernel_rfl) (by kernel_rfl) (by kernel_rfl) (fun _ => false) (.two .nil (.two (.cut ⟨[(32, Sh.bool)], []⟩ .nil .nil) (.two (.ord [0, 1, 2, 3, 4, 6, 7, 8, 5, 9, 10, 11, 12]) .nil))) [Value.agg #[Value.int .i64 p_0, Value.int .i64 p_1], Value.int .i64 lot, Value.int .i64 defective, Value.int .i64 found] h R (by kernel_rfl)
    (Eq.mp (show sampling_Exactly_vc p_0 p_1 lot defective found h R = fnV Tryz.prog Tryz.f8 (fun _ => false) (.two .nil (.two (.cut ⟨[(32, Sh.bool)], []⟩ .nil .nil) (.two (.ord [0, 1, 2, 3, 4, 6, 7, 8, 5, 9, 10, 11, 12]) .nil))) [Value.agg #[Value.int .i64 p_0, Value.int .i64 p_1], Value.int .i64 lot, Value.int .i64 defective, Value.int .i64 found] h R by kernel_rfl) hv)

def sampling_Accept_vc (p_0 : Int) (p_1 : Int) (lot : Int) (defective : Int) (h : Heap) (R : Value → Heap → Prop) : Prop :=
 ∃ C : Bool → Heap → Prop, (∀ (t22 : Bool) (h_1 : Heap), C t22 h_1 →
 Br (t22)
  (R (Value.tuple #[Value.agg #[Value.bool false, Value.slice none 0 0, Value.slice none 0 0], Value.int .i64 3]) h_1)
  (CallsU Tryz.prog 30 [Value.int .u64 0] h_1 fun v h_2 =>
 ∃ t24A : Option Addr, ∃ t24n t24c : Nat, v = Value.slice t24A t24n t24c ∧
 ∀ t27 : Int, t27 = IntKind.i64.wrap (p_1 + 1) →
 ∃ J : Nat → Option Addr → Nat → Nat → Int → Heap → Prop, (∃ m, J m t24A t24n t24c 0 h_2) ∧
 ∀ (m : Nat) (sumA : Option Addr) (sumn sumc : Nat) (t28 : Int) (h_3 : Heap), J m sumA sumn sumc t28 h_3 →
 Br (decide (t28 < t27))
  (CallsU Tryz.prog 25 [Value.int .i64 p_0, Value.int .i64 lot, Value.int .i64 defective, Value.int .i64 t28] h_3 fun v_1 h_4 =>
 ∃ t37A : Option Addr, ∃ t37n t37c : Nat, v_1 = Value.slice t37A t37n t37c ∧
 CallsU Tryz.prog 31 [Value.slice sumA sumn sumc, Value.slice t37A t37n t37c] h_4 fun v_2 h_5 =>
 ∃ t38A : Option Addr, ∃ t38n t38c : Nat, v_2 = Value.slice t38A t38n t38c ∧
 ∀ t39 : Int, t39 = IntKind.i64.wrap (t28 + 1) →
 ∃ m_1, m_1 < m ∧ J m_1 t38A t38n t38c t39 h_5)
  (CallsU Tryz.prog 26 [Value.int .i64 lot, Value.int .i64 p_0] h_3 fun v_3 h_6 =>
 ∃ t44A : Option Addr, ∃ t44n t44c : Nat, v_3 = Value.slice t44A t44n t44c ∧
 CallsU Tryz.prog 24 [Value.slice sumA sumn sumc, Value.slice t44A t44n t44c] h_6 fun v_4 h_7 =>
 ∃ t45_0 : Bool, ∃ t45_1A : Option Addr, ∃ t45_1n t45_1c : Nat, ∃ t45_2A : Option Addr, ∃ t45_2n t45_2c : Nat, v_4 = Value.agg #[Value.bool t45_0, Value.slice t45_1A t45_1n t45_1c, Value.slice t45_2A t45_2n t45_2c] ∧
 R (Value.tuple #[Value.agg #[Value.bool t45_0, Value.slice t45_1A t45_1n t45_1c, Value.slice t45_2A t45_2n t45_2c], Value.int .i64 0]) h_7))) ∧
 CallsU Tryz.prog 21 [Value.agg #[Value.int .i64 p_0, Value.int .i64 p_1], Value.int .i64 lot] h fun v_5 h_8 =>
 ∃ t12 : Int, v_5 = Value.int .i64 t12 ∧
 Br ((t12 : Int) != 0)
  (C true h_8)
  (Br (decide (defective < 0))
  (C true h_8)
  (C (decide (defective > lot)) h_8))

set_option maxRecDepth 100000 in
theorem sampling_Accept_ok {p_0 : Int} {p_1 : Int} {lot : Int} {defective : Int} {h : Heap} {R : Value → Heap → Prop} (hv : sampling_Accept_vc p_0 p_1 lot defective h R) : CallsU Tryz.prog 10 [Value.agg #[Value.int .i64 p_0, Value.int .i64 p_1], Value.int .i64 lot, Value.int .i64 defective] h R :=
  fn_sound Tryz.func10 (by kernel_rfl) (by kernel_rfl) (by kernel_rfl) (fun _ => false) (.two .nil (.two (.cut ⟨[(22, Sh.bool)], []⟩ .nil .nil) (.two .nil (.two (.two .nil (.one (.loop ⟨[(8, Sh.slice), (28, Sh.int .i64)], []⟩ .nil))) .nil)))) [Value.agg #[Value.int .i64 p_0, Value.int .i64 p_1], Value.int .i64 lot, Value.int .i64 defective] h R (by kernel_rfl)
    (Eq.mp (show sampling_Accept_vc p_0 p_1 lot defective h R = fnV Tryz.prog Tryz.f10 (fun _ => false) (.two .nil (.two (.cut ⟨[(22, Sh.bool)], []⟩ .nil .nil) (.two .nil (.two (.two .nil (.one (.loop ⟨[(8, Sh.slice), (28, Sh.int .i64)], []⟩ .nil))) .nil)))) [Value.agg #[Value.int .i64 p_0, Value.int .i64 p_1], Value.int .i64 lot, Value.int .i64 defective] h R by kernel_rfl) hv)

def sampling_Decide_vc (p_0 : Int) (p_1 : Int) (found : Int) (h : Heap) (R : Value → Heap → Prop) : Prop :=
 CallsU Tryz.prog 21 [Value.agg #[Value.int .i64 p_0, Value.int .i64 p_1], Value.int .i64 p_0] h fun v h_1 =>
 ∃ t9 : Int, v = Value.int .i64 t9 ∧
 Br ((t9 : Int) != 0)
  (R (Value.tuple #[Value.bool false, Value.int .i64 3]) h_1)
  (Br (decide (found < 0))
  (R (Value.tuple #[Value.bool false, Value.int .i64 3]) h_1)
  (Br (decide (found > p_0))
  (R (Value.tuple #[Value.bool false, Value.int .i64 3]) h_1)
  (R (Value.tuple #[Value.bool (decide (found ≤ p_1)), Value.int .i64 0]) h_1)))

set_option maxRecDepth 100000 in
theorem sampling_Decide_ok {p_0 : Int} {p_1 : Int} {found : Int} {h : Heap} {R : Value → Heap → Prop} (hv : sampling_Decide_vc p_0 p_1 found h R) : CallsU Tryz.prog 15 [Value.agg #[Value.int .i64 p_0, Value.int .i64 p_1], Value.int .i64 found] h R :=
  fn_sound Tryz.func15 (by kernel_rfl) (by kernel_rfl) (by kernel_rfl) (fun _ => false) .nil [Value.agg #[Value.int .i64 p_0, Value.int .i64 p_1], Value.int .i64 found] h R (by kernel_rfl)
    (Eq.mp (show sampling_Decide_vc p_0 p_1 found h R = fnV Tryz.prog Tryz.f15 (fun _ => false) .nil [Value.agg #[Value.int .i64 p_0, Value.int .i64 p_1], Value.int .i64 found] h R by kernel_rfl) hv)

def sampling_Draw_vc (d : Int) (p_0 : Int) (p_1 : Int) (lot : Int) (h : Heap) (R : Value → Heap → Prop) : Prop :=
 CallsU Tryz.prog 21 [Value.agg #[Value.int .i64 p_0, Value.int .i64 p_1], Value.int .i64 lot] h fun v h_1 =>
 ∃ t14 : Int, v = Value.int .i64 t14 ∧
 Br ((t14 : Int) != 0)
  (R (Value.tuple #[Value.int .u64 0, Value.slice none 0 0, Value.int .i64 t14]) h_1)
  (CallsU Tryz.prog 45 [Value.int .u64 d, Value.int .i64 lot, Value.int .i64 p_0] h_1 fun v_1 h_2 =>
 ∃ t23_0 : Int, ∃ t23_1A : Option Addr, ∃ t23_1n t23_1c : Nat, v_1 = Value.tuple #[Value.int .u64 t23_0, Value.slice t23_1A t23_1n t23_1c] ∧
 R (Value.tuple #[Value.int .u64 t23_0, Value.slice t23_1A t23_1n t23_1c, Value.int .i64 0]) h_2)

set_option maxRecDepth 100000 in
theorem sampling_Draw_ok {d : Int} {p_0 : Int} {p_1 : Int} {lot : Int} {h : Heap} {R : Value → Heap → Prop} (hv : sampling_Draw_vc d p_0 p_1 lot h R) : CallsU Tryz.prog 20 [Value.int .u64 d, Value.agg #[Value.int .i64 p_0, Value.int .i64 p_1], Value.int .i64 lot] h R :=
  fn_sound Tryz.func20 (by kernel_rfl) (by kernel_rfl) (by kernel_rfl) (fun _ => false) .nil [Value.int .u64 d, Value.agg #[Value.int .i64 p_0, Value.int .i64 p_1], Value.int .i64 lot] h R (by kernel_rfl)
    (Eq.mp (show sampling_Draw_vc d p_0 p_1 lot h R = fnV Tryz.prog Tryz.f20 (fun _ => false) .nil [Value.int .u64 d, Value.agg #[Value.int .i64 p_0, Value.int .i64 p_1], Value.int .i64 lot] h R by kernel_rfl) hv)

def sampling_Check_vc (p_0 : Int) (p_1 : Int) (lot : Int) (h : Heap) (R : Value → Heap → Prop) : Prop :=
 Br (decide (p_0 < 1))
  (R (Value.int .i64 3) h)
  (Br (decide (p_0 > lot))
  (R (Value.int .i64 3) h)
  (Br (decide (lot > 200))
  (R (Value.int .i64 3) h)
  (Br (decide (p_1 < 0))
  (R (Value.int .i64 3) h)
  (Br (decide (p_1 ≥ p_0))
  (R (Value.int .i64 3) h)
  (R (Value.int .i64 0) h)))))

set_option maxRecDepth 100000 in
theorem sampling_Check_ok {p_0 : Int} {p_1 : Int} {lot : Int} {h : Heap} {R : Value → Heap → Prop} (hv : sampling_Check_vc p_0 p_1 lot h R) : CallsU Tryz.prog 21 [Value.agg #[Value.int .i64 p_0, Value.int .i64 p_1], Value.int .i64 lot] h R :=
  fn_sound Tryz.func21 (by kernel_rfl) (by kernel_rfl) (by kernel_rfl) (fun _ => false) .nil [Value.agg #[Value.int .i64 p_0, Value.int .i64 p_1], Value.int .i64 lot] h R (by kernel_rfl)
    (Eq.mp (show sampling_Check_vc p_0 p_1 lot h R = fnV Tryz.prog Tryz.f21 (fun _ => false) .nil [Value.agg #[Value.int .i64 p_0, Value.int .i64 p_1], Value.int .i64 lot] h R by kernel_rfl) hv)

def sampling_share_vc (aA : Option Addr) (an ac : Nat) (bA : Option Addr) (bn bc : Nat) (h : Heap) (R : Value → Heap → Prop) : Prop :=
 CallsU Tryz.prog 46 [Value.agg #[Value.bool false, Value.slice aA an ac, Value.slice bA bn bc]] h fun v h_1 =>
 ∃ t9_0 : Bool, ∃ t9_1A : Option Addr, ∃ t9_1n t9_1c : Nat, ∃ t9_2A : Option Addr, ∃ t9_2n t9_2c : Nat, v = Value.agg #[Value.bool t9_0, Value.slice t9_1A t9_1n t9_1c, Value.slice t9_2A t9_2n t9_2c] ∧
 R (Value.agg #[Value.bool t9_0, Value.slice t9_1A t9_1n t9_1c, Value.slice t9_2A t9_2n t9_2c]) h_1

set_option maxRecDepth 100000 in
theorem sampling_share_ok {aA : Option Addr} {an ac : Nat} {bA : Option Addr} {bn bc : Nat} {h : Heap} {R : Value → Heap → Prop} (hv : sampling_share_vc aA an ac bA bn bc h R) : CallsU Tryz.prog 24 [Value.slice aA an ac, Value.slice bA bn bc] h R :=
  fn_sound Tryz.func24 (by kernel_rfl) (by kernel_rfl) (by kernel_rfl) (fun _ => false) .nil [Value.slice aA an ac, Value.slice bA bn bc] h R (by kernel_rfl)
    (Eq.mp (show sampling_share_vc aA an ac bA bn bc h R = fnV Tryz.prog Tryz.f24 (fun _ => false) .nil [Value.slice aA an ac, Value.slice bA bn bc] h R by kernel_rfl) hv)

def sampling_sets_vc (n : Int) (lot : Int) (defective : Int) (found : Int) (h : Heap) (R : Value → Heap → Prop) : Prop :=
 CallsU Tryz.prog 26 [Value.int .i64 defective, Value.int .i64 found] h fun v h_1 =>
 ∃ t11A : Option Addr, ∃ t11n t11c : Nat, v = Value.slice t11A t11n t11c ∧
 ∀ t14 : Int, t14 = IntKind.i64.wrap (lot - defective) →
 ∀ t17 : Int, t17 = IntKind.i64.wrap (n - found) →
 CallsU Tryz.prog 26 [Value.int .i64 t14, Value.int .i64 t17] h_1 fun v_1 h_2 =>
 ∃ t18A : Option Addr, ∃ t18n t18c : Nat, v_1 = Value.slice t18A t18n t18c ∧
 CallsU Tryz.prog 43 [Value.slice t11A t11n t11c, Value.slice t18A t18n t18c] h_2 fun v_2 h_3 =>
 ∃ t19A : Option Addr, ∃ t19n t19c : Nat, v_2 = Value.slice t19A t19n t19c ∧
 R (Value.slice t19A t19n t19c) h_3

set_option maxRecDepth 100000 in
theorem sampling_sets_ok {n : Int} {lot : Int} {defective : Int} {found : Int} {h : Heap} {R : Value → Heap → Prop} (hv : sampling_sets_vc n lot defective found h R) : CallsU Tryz.prog 25 [Value.int .i64 n, Value.int .i64 lot, Value.int .i64 defective, Value.int .i64 found] h R :=
  fn_sound Tryz.func25 (by kernel_rfl) (by kernel_rfl) (by kernel_rfl) (fun _ => false) .nil [Value.int .i64 n, Value.int .i64 lot, Value.int .i64 defective, Value.int .i64 found] h R (by kernel_rfl)
    (Eq.mp (show sampling_sets_vc n lot defective found h R = fnV Tryz.prog Tryz.f25 (fun _ => false) .nil [Value.int .i64 n, Value.int .i64 lot, Value.int .i64 defective, Value.int .i64 found] h R by kernel_rfl) hv)

def sampling_choose_vc (n : Int) (k : Int) (h : Heap) (R : Value → Heap → Prop) : Prop :=
 Br (decide (k > n))
  (CallsU Tryz.prog 30 [Value.int .u64 0] h fun v h_1 =>
 ∃ t10A : Option Addr, ∃ t10n t10c : Nat, v = Value.slice t10A t10n t10c ∧
 R (Value.slice t10A t10n t10c) h_1)
  (∀ t14 : Int, t14 = IntKind.i64.wrap (n - k) →
 CallsU Tryz.prog 30 [Value.int .u64 1] h fun v_1 h_2 =>
 ∃ t16A : Option Addr, ∃ t16n t16c : Nat, v_1 = Value.slice t16A t16n t16c ∧
 ∃ J : Nat → Option Addr → Nat → Nat → Int → Heap → Prop, (∃ m, J m t16A t16n t16c 1 h_2) ∧
 ∀ (m : Nat) (rA : Option Addr) (rn rc : Nat) (i : Int) (h_3 : Heap), J m rA rn rc i h_3 →
 Br (decide (i ≤ (if decide (t14 < k) then t14 else k)))
  (∀ t25 : Int, t25 = IntKind.i64.wrap (n - (if decide (t14 < k) then t14 else k)) →
 ∀ t27 : Int, t27 = IntKind.i64.wrap (t25 + i) →
 CallsU Tryz.prog 30 [Value.int .u64 (IntKind.u64.wrap t27)] h_3 fun v_2 h_4 =>
 ∃ t29A : Option Addr, ∃ t29n t29c : Nat, v_2 = Value.slice t29A t29n t29c ∧
 CallsU Tryz.prog 43 [Value.slice rA rn rc, Value.slice t29A t29n t29c] h_4 fun v_3 h_5 =>
 ∃ t30A : Option Addr, ∃ t30n t30c : Nat, v_3 = Value.slice t30A t30n t30c ∧
 CallsU Tryz.prog 30 [Value.int .u64 (IntKind.u64.wrap i)] h_5 fun v_4 h_6 =>
 ∃ t35A : Option Addr, ∃ t35n t35c : Nat, v_4 = Value.slice t35A t35n t35c ∧
 CallsU Tryz.prog 50 [Value.slice t30A t30n t30c, Value.slice t35A t35n t35c] h_6 fun v_5 h_7 =>
 ∃ t36_0A : Option Addr, ∃ t36_0n t36_0c : Nat, ∃ t36_1A : Option Addr, ∃ t36_1n t36_1c : Nat, ∃ t36_2 : Bool, v_5 = Value.tuple #[Value.slice t36_0A t36_0n t36_0c, Value.slice t36_1A t36_1n t36_1c, Value.bool t36_2] ∧
 ∀ t21 : Int, t21 = IntKind.i64.wrap (i + 1) →
 ∃ m_1, m_1 < m ∧ J m_1 t36_0A t36_0n t36_0c t21 h_7)
  (R (Value.slice rA rn rc) h_3))

set_option maxRecDepth 100000 in
theorem sampling_choose_ok {n : Int} {k : Int} {h : Heap} {R : Value → Heap → Prop} (hv : sampling_choose_vc n k h R) : CallsU Tryz.prog 26 [Value.int .i64 n, Value.int .i64 k] h R :=
  fn_sound Tryz.func26 (by kernel_rfl) (by kernel_rfl) (by kernel_rfl) (fun _ => false) (.two .nil (.two .nil (.two .nil (.two .nil (.two (.two .nil (.one (.loop ⟨[(5, Sh.slice), (6, Sh.int .i64)], []⟩ .nil))) .nil))))) [Value.int .i64 n, Value.int .i64 k] h R (by kernel_rfl)
    (Eq.mp (show sampling_choose_vc n k h R = fnV Tryz.prog Tryz.f26 (fun _ => false) (.two .nil (.two .nil (.two .nil (.two .nil (.two (.two .nil (.one (.loop ⟨[(5, Sh.slice), (6, Sh.int .i64)], []⟩ .nil))) .nil))))) [Value.int .i64 n, Value.int .i64 k] h R by kernel_rfl) hv)

def draws_Sample_vc (d : Int) (n : Int) (k : Int) (h : Heap) (R : Value → Heap → Prop) : Prop :=
 CallsU Tryz.prog 64 [Value.int .u64 d, Value.int .i64 n] h fun v h_1 =>
 ∃ t12_0 : Int, ∃ t12_1A : Option Addr, ∃ t12_1n t12_1c : Nat, v = Value.tuple #[Value.int .u64 t12_0, Value.slice t12_1A t12_1n t12_1c] ∧
 ((0 : Nat) : Int) ≤ (if decide (((t12_1n : Nat) : Int) < (if decide ((0 : Int) > k) then 0 else k)) then ((t12_1n : Nat) : Int) else (if decide ((0 : Int) > k) then 0 else k)) ∧ (if decide (((t12_1n : Nat) : Int) < (if decide ((0 : Int) > k) then 0 else k)) then ((t12_1n : Nat) : Int) else (if decide ((0 : Int) > k) then 0 else k)) ≤ ((t12_1c : Nat) : Int) ∧
 CallsU Tryz.prog 65 [Value.slice t12_1A (Int.toNat (if decide (((t12_1n : Nat) : Int) < (if decide ((0 : Int) > k) then 0 else k)) then ((t12_1n : Nat) : Int) else (if decide ((0 : Int) > k) then 0 else k))) t12_1c] h_1 fun v_1 h_2 =>
 v_1 = Value.tuple #[] ∧
 R (Value.tuple #[Value.int .u64 t12_0, Value.slice t12_1A (Int.toNat (if decide (((t12_1n : Nat) : Int) < (if decide ((0 : Int) > k) then 0 else k)) then ((t12_1n : Nat) : Int) else (if decide ((0 : Int) > k) then 0 else k))) t12_1c]) h_2

set_option maxRecDepth 100000 in
theorem draws_Sample_ok {d : Int} {n : Int} {k : Int} {h : Heap} {R : Value → Heap → Prop} (hv : draws_Sample_vc d n k h R) : CallsU Tryz.prog 45 [Value.int .u64 d, Value.int .i64 n, Value.int .i64 k] h R :=
  fn_sound Tryz.func45 (by kernel_rfl) (by kernel_rfl) (by kernel_rfl) (fun _ => false) .nil [Value.int .u64 d, Value.int .i64 n, Value.int .i64 k] h R (by kernel_rfl)
    (Eq.mp (show draws_Sample_vc d n k h R = fnV Tryz.prog Tryz.f45 (fun _ => false) .nil [Value.int .u64 d, Value.int .i64 n, Value.int .i64 k] h R by kernel_rfl) hv)

def draws_Shuffle_vc (d : Int) (n : Int) (h : Heap) (R : Value → Heap → Prop) : Prop :=
 0 ≤ (if decide ((1000 : Int) < (if decide ((0 : Int) > n) then 0 else n)) then 1000 else (if decide ((0 : Int) > n) then 0 else n)) ∧ (if decide ((1000 : Int) < (if decide ((0 : Int) > n) then 0 else n)) then 1000 else (if decide ((0 : Int) > n) then 0 else n)) ≤ (if decide ((1000 : Int) < (if decide ((0 : Int) > n) then 0 else n)) then 1000 else (if decide ((0 : Int) > n) then 0 else n)) ∧ (if decide ((1000 : Int) < (if decide ((0 : Int) > n) then 0 else n)) then 1000 else (if decide ((0 : Int) > n) then 0 else n)) * 8 ≤ 140737488355328 ∧ (if decide ((1000 : Int) < (if decide ((0 : Int) > n) then 0 else n)) then 1000 else (if decide ((0 : Int) > n) then 0 else n)) ≤ 9223372036854775807 ∧
 ∀ (g : Nat) (h_1 : Heap), h g = none → h_1 = Heap.put h g ⟨repV [Value.int .i64 0] (Int.toNat (if decide ((1000 : Int) < (if decide ((0 : Int) > n) then 0 else n)) then 1000 else (if decide ((0 : Int) > n) then 0 else n))), 3, (0, 0)⟩ →
 ∃ J : Nat → Int → Heap → Prop, (∃ m, J m 0 h_1) ∧
 ∀ (m : Nat) (t17 : Int) (h_2 : Heap), J m t17 h_2 →
 Br (decide (t17 < (((Int.toNat (if decide ((1000 : Int) < (if decide ((0 : Int) > n) then 0 else n)) then 1000 else (if decide ((0 : Int) > n) then 0 else n))) : Nat) : Int)))
  (∃ ad : Addr, some ⟨g, 0, none⟩ = some ad ∧ 0 ≤ t17 ∧ t17 < (((Int.toNat (if decide ((1000 : Int) < (if decide ((0 : Int) > n) then 0 else n)) then 1000 else (if decide ((0 : Int) > n) then 0 else n))) : Nat) : Int) ∧
 ∃ b : Blk, h_2 (Addr.block (Addr.add ad (Int.toNat t17 * 1))) = some b ∧ b.fz = (0, 0) ∧ Addr.spot (Addr.add ad (Int.toNat t17 * 1)) = none ∧ Addr.off (Addr.add ad (Int.toNat t17 * 1)) + 1 ≤ b.cells.length ∧
 ∀ h_3 : Heap, h_3 = Heap.put h_2 (Addr.block (Addr.add ad (Int.toNat t17 * 1))) { b with cells := setSeg b.cells (Addr.off (Addr.add ad (Int.toNat t17 * 1))) [Value.int .i64 t17] } →
 ∀ t24 : Int, t24 = IntKind.i64.wrap (t17 + 1) →
 ∃ m_1, m_1 < m ∧ J m_1 t24 h_3)
  (∀ t26 : Int, t26 = IntKind.i64.wrap ((if decide ((1000 : Int) < (if decide ((0 : Int) > n) then 0 else n)) then 1000 else (if decide ((0 : Int) > n) then 0 else n)) - 1) →
 ∃ J_1 : Nat → Int → Int → Heap → Prop, (∃ m_2, J_1 m_2 d t26 h_2) ∧
 ∀ (m_2 : Nat) (d_1 : Int) (i : Int) (h_4 : Heap), J_1 m_2 d_1 i h_4 →
 Br (decide (i ≥ 1))
  (∀ t34 : Int, t34 = IntKind.i64.wrap (i + 1) →
 CallsU Tryz.prog 86 [Value.int .u64 d_1, Value.int .i64 t34] h_4 fun v h_5 =>
 ∃ t35_0 : Int, ∃ t35_1 : Int, v = Value.tuple #[Value.int .u64 t35_0, Value.int .i64 t35_1] ∧
 ∃ ad_1 : Addr, some ⟨g, 0, none⟩ = some ad_1 ∧ 0 ≤ t35_1 ∧ t35_1 < (((Int.toNat (if decide ((1000 : Int) < (if decide ((0 : Int) > n) then 0 else n)) then 1000 else (if decide ((0 : Int) > n) then 0 else n))) : Nat) : Int) ∧
 ∃ t45 : Int, LdN h_5 (Addr.add ad_1 (Int.toNat t35_1 * 1)) [Value.int .i64 t45] ∧
 ∃ ad_2 : Addr, some ⟨g, 0, none⟩ = some ad_2 ∧ 0 ≤ i ∧ i < (((Int.toNat (if decide ((1000 : Int) < (if decide ((0 : Int) > n) then 0 else n)) then 1000 else (if decide ((0 : Int) > n) then 0 else n))) : Nat) : Int) ∧
 ∃ t49 : Int, LdN h_5 (Addr.add ad_2 (Int.toNat i * 1)) [Value.int .i64 t49] ∧
 ∃ ad_3 : Addr, some ⟨g, 0, none⟩ = some ad_3 ∧ 0 ≤ i ∧ i < (((Int.toNat (if decide ((1000 : Int) < (if decide ((0 : Int) > n) then 0 else n)) then 1000 else (if decide ((0 : Int) > n) then 0 else n))) : Nat) : Int) ∧
 ∃ b_1 : Blk, h_5 (Addr.block (Addr.add ad_3 (Int.toNat i * 1))) = some b_1 ∧ b_1.fz = (0, 0) ∧ Addr.spot (Addr.add ad_3 (Int.toNat i * 1)) = none ∧ Addr.off (Addr.add ad_3 (Int.toNat i * 1)) + 1 ≤ b_1.cells.length ∧
 ∀ h_6 : Heap, h_6 = Heap.put h_5 (Addr.block (Addr.add ad_3 (Int.toNat i * 1))) { b_1 with cells := setSeg b_1.cells (Addr.off (Addr.add ad_3 (Int.toNat i * 1))) [Value.int .i64 t45] } →
 ∃ ad_4 : Addr, some ⟨g, 0, none⟩ = some ad_4 ∧ 0 ≤ t35_1 ∧ t35_1 < (((Int.toNat (if decide ((1000 : Int) < (if decide ((0 : Int) > n) then 0 else n)) then 1000 else (if decide ((0 : Int) > n) then 0 else n))) : Nat) : Int) ∧
 ∃ b_2 : Blk, h_6 (Addr.block (Addr.add ad_4 (Int.toNat t35_1 * 1))) = some b_2 ∧ b_2.fz = (0, 0) ∧ Addr.spot (Addr.add ad_4 (Int.toNat t35_1 * 1)) = none ∧ Addr.off (Addr.add ad_4 (Int.toNat t35_1 * 1)) + 1 ≤ b_2.cells.length ∧
 ∀ h_7 : Heap, h_7 = Heap.put h_6 (Addr.block (Addr.add ad_4 (Int.toNat t35_1 * 1))) { b_2 with cells := setSeg b_2.cells (Addr.off (Addr.add ad_4 (Int.toNat t35_1 * 1))) [Value.int .i64 t49] } →
 ∀ t30 : Int, t30 = IntKind.i64.wrap (i - 1) →
 ∃ m_3, m_3 < m_2 ∧ J_1 m_3 t35_0 t30 h_7)
  (R (Value.tuple #[Value.int .u64 d_1, Value.slice (some ⟨g, 0, none⟩) (Int.toNat (if decide ((1000 : Int) < (if decide ((0 : Int) > n) then 0 else n)) then 1000 else (if decide ((0 : Int) > n) then 0 else n))) (Int.toNat (if decide ((1000 : Int) < (if decide ((0 : Int) > n) then 0 else n)) then 1000 else (if decide ((0 : Int) > n) then 0 else n)))]) h_4))

set_option maxRecDepth 100000 in
theorem draws_Shuffle_ok {d : Int} {n : Int} {h : Heap} {R : Value → Heap → Prop} (hv : draws_Shuffle_vc d n h R) : CallsU Tryz.prog 64 [Value.int .u64 d, Value.int .i64 n] h R :=
  fn_sound Tryz.func64 (by kernel_rfl) (by kernel_rfl) (by kernel_rfl) (fun _ => false) (.two .nil (.two .nil (.two .nil (.two (.two .nil (.one (.loop ⟨[(17, Sh.int .i64)], []⟩ .nil))) (.two (.two .nil (.one (.loop ⟨[(0, Sh.int .u64), (8, Sh.int .i64)], []⟩ (.two .nil (.two (.one (.two .nil (.two .nil (.ord [0, 1, 2, 3, 4, 5, 6, 7, 8, 9, 10, 11, 12, 13, 14, 15])))) .nil))))) .nil))))) [Value.int .u64 d, Value.int .i64 n] h R (by kernel_rfl)
    (Eq.mp (show draws_Shuffle_vc d n h R = fnV Tryz.prog Tryz.f64 (fun _ => false) (.two .nil (.two .nil (.two .nil (.two (.two .nil (.one (.loop ⟨[(17, Sh.int .i64)], []⟩ .nil))) (.two (.two .nil (.one (.loop ⟨[(0, Sh.int .u64), (8, Sh.int .i64)], []⟩ (.two .nil (.two (.one (.two .nil (.two .nil (.ord [0, 1, 2, 3, 4, 5, 6, 7, 8, 9, 10, 11, 12, 13, 14, 15])))) .nil))))) .nil))))) [Value.int .u64 d, Value.int .i64 n] h R by kernel_rfl) hv)

def draws_Below_vc (d : Int) (n : Int) (h : Heap) (R : Value → Heap → Prop) : Prop :=
 CallsU Tryz.prog 100 [Value.int .u64 d] h fun v h_1 =>
 ∃ t9_0 : Int, ∃ t9_1 : Int, v = Value.tuple #[Value.int .u64 t9_0, Value.int .i64 t9_1] ∧
 Br (decide (n < 1))
  (R (Value.tuple #[Value.int .u64 t9_0, Value.int .i64 0]) h_1)
  (Br (decide (n = 0)) False
  (∀ t18 : Int, t18 = (Int.tmod t9_1 n) →
 R (Value.tuple #[Value.int .u64 t9_0, Value.int .i64 t18]) h_1))

set_option maxRecDepth 100000 in
theorem draws_Below_ok {d : Int} {n : Int} {h : Heap} {R : Value → Heap → Prop} (hv : draws_Below_vc d n h R) : CallsU Tryz.prog 86 [Value.int .u64 d, Value.int .i64 n] h R :=
  fn_sound Tryz.func86 (by kernel_rfl) (by kernel_rfl) (by kernel_rfl) (fun _ => false) (.two .nil (.two .nil (.two .nil (.two (.ord [0, 1, 2, 3, 4, 5]) .nil)))) [Value.int .u64 d, Value.int .i64 n] h R (by kernel_rfl)
    (Eq.mp (show draws_Below_vc d n h R = fnV Tryz.prog Tryz.f86 (fun _ => false) (.two .nil (.two .nil (.two .nil (.two (.ord [0, 1, 2, 3, 4, 5]) .nil)))) [Value.int .u64 d, Value.int .i64 n] h R by kernel_rfl) hv)

def draws_Next_vc (d : Int) (h : Heap) (R : Value → Heap → Prop) : Prop :=
 ∀ t5 : Int, t5 = IntKind.u64.wrap (d * 6364136223846793005) →
 ∀ t6 : Int, t6 = IntKind.u64.wrap (t5 + 1442695040888963407) →
 ∀ t9 : Int, t9 = (Int.fdiv t6 (2 ^ (33 : Nat))) →
 R (Value.tuple #[Value.int .u64 t6, Value.int .i64 (IntKind.i64.wrap t9)]) h

set_option maxRecDepth 100000 in
theorem draws_Next_ok {d : Int} {h : Heap} {R : Value → Heap → Prop} (hv : draws_Next_vc d h R) : CallsU Tryz.prog 100 [Value.int .u64 d] h R :=
  fn_sound Tryz.func100 (by kernel_rfl) (by kernel_rfl) (by kernel_rfl) (fun _ => false) .nil [Value.int .u64 d] h R (by kernel_rfl)
    (Eq.mp (show draws_Next_vc d h R = fnV Tryz.prog Tryz.f100 (fun _ => false) .nil [Value.int .u64 d] h R by kernel_rfl) hv)

end Go.Proofs.YtfhipkdcekffaaaGreatDoor
