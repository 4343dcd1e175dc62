/- Made by vcgen.py: verification conditions of functions, each held against the calculator by the kernel. -/
import Derived.Test.YtfhipkdcekffaaaGreatDoorVcg4
import Derived.Test.YtfhipkdcekffaaaGreatDoorChecked
namespace Go.Proofs.YtfhipkdcekffaaaGreatDoor
open Go Go.Vcg

def ref53_Exactly_vc (p_0 : Int) (p_1 : Int) (lot : Int) (defective : Int) (found : Int) (h : Heap) (R : Value → Heap → Prop) : Prop :=
 ∃ C : Bool → Heap → Prop, (∀ (t33 : Bool) (h_1 : Heap), C t33 h_1 →
 Br (t33)
  (R (Value.tuple #[Value.agg #[Value.bool false, Value.slice none 0 0, Value.slice none 0 0], Value.int .i64 3]) h_1)
  (∀ t40 : Int, t40 = IntKind.i64.wrap (lot - defective) →
 ∀ t44 : Int, t44 = IntKind.i64.wrap (p_0 - found) →
 CallsU Tryz.prog 28 [Value.int .i64 defective, Value.int .i64 found] h_1 fun v h_2 =>
 ∃ t37A : Option Addr, ∃ t37n t37c : Nat, v = Value.slice t37A t37n t37c ∧
 CallsU Tryz.prog 28 [Value.int .i64 t40, Value.int .i64 t44] h_2 fun v_1 h_3 =>
 ∃ t45A : Option Addr, ∃ t45n t45c : Nat, v_1 = Value.slice t45A t45n t45c ∧
 CallsU Tryz.prog 27 [Value.slice t37A t37n t37c, Value.slice t45A t45n t45c] h_3 fun v_2 h_4 =>
 ∃ t46A : Option Addr, ∃ t46n t46c : Nat, v_2 = Value.slice t46A t46n t46c ∧
 CallsU Tryz.prog 28 [Value.int .i64 lot, Value.int .i64 p_0] h_4 fun v_3 h_5 =>
 ∃ t52A : Option Addr, ∃ t52n t52c : Nat, v_3 = Value.slice t52A t52n t52c ∧
 CallsU Tryz.prog 29 [Value.agg #[Value.bool false, Value.slice t46A t46n t46c, Value.slice t52A t52n t52c]] h_5 fun v_4 h_6 =>
 ∃ t54_0 : Bool, ∃ t54_1A : Option Addr, ∃ t54_1n t54_1c : Nat, ∃ t54_2A : Option Addr, ∃ t54_2n t54_2c : Nat, v_4 = Value.agg #[Value.bool t54_0, Value.slice t54_1A t54_1n t54_1c, Value.slice t54_2A t54_2n t54_2c] ∧
 R (Value.tuple #[Value.agg #[Value.bool t54_0, Value.slice t54_1A t54_1n t54_1c, Value.slice t54_2A t54_2n t54_2c], Value.int .i64 0]) h_6)) ∧
 CallsU Tryz.prog 13 [Value.agg #[Value.int .i64 p_0, Value.int .i64 p_1], Value.int .i64 lot] h fun v_5 h_7 =>
 ∃ t13 : Int, v_5 = Value.int .i64 t13 ∧
 Br ((t13 : Int) != 0)
  (C true h_7)
  (Br (decide (defective < 0))
  (C true h_7)
  (Br (decide (defective > lot))
  (C true h_7)
  (Br (decide (found < 0))
  (C true h_7)
  (C (decide (found > p_0)) h_7))))

set_option maxRecDepth 100000 in
theorem ref53_Exactly_ok {p_0 : Int} {p_1 : Int} {lot : Int} {defective : Int} {found : Int} {h : Heap} {R : Value → Heap → Prop} (hv : ref53_Exactly_vc p_0 p_1 lot defective found h R) : CallsU Tryz.prog 9 [Value.agg #[Value.int .i64 p_0, Value.int .i64 p_1], Value.int .i64 lot, Value.int .i64 defective, Value.int .i64 found] h R :=
  fn_sound Tryz.func9 (by kernel_rfl) (by kernel_rfl) (by kernel_rfl) (fun _ => false) (.two .nil (.two (.cut ⟨[(33, Sh.bool)], []⟩ .nil .nil) (.two (.ord [0, 1, 3, 4, 5, 6, 7, 8, 9, 2, 10, 11, 12]) .nil))) [Value.agg #[Value.int .i64 p_0, Value.int .i64 p_1], Value.int .i64 lot, Value.int .i64 defective, Value.int .i64 found] h R (by kernel_rfl)
    (Eq.mp (show ref53_Exactly_vc p_0 p_1 lot defective found h R = fnV Tryz.prog Tryz.f9 (fun _ => false) (.two .nil (.two (.cut ⟨[(33, Sh.bool)], []⟩ .nil .nil) (.two (.ord [0, 1, 3, 4, 5, 6, 7, 8, 9, 2, 10, 11, 12]) .nil))) [Value.agg #[Value.int .i64 p_0, Value.int .i64 p_1], Value.int .i64 lot, Value.int .i64 defective, Value.int .i64 found] h R by kernel_rfl) hv)

def ref53_Accept_vc (p_0 : Int) (p_1 : Int) (lot : Int) (defective : Int) (h : Heap) (R : Value → Heap → Prop) : Prop :=
 ∃ C : Bool → Heap → Prop, (∀ (t24 : Bool) (h_1 : Heap), C t24 h_1 →
 Br (t24)
  (R (Value.tuple #[Value.agg #[Value.bool false, Value.slice none 0 0, Value.slice none 0 0], Value.int .i64 3]) h_1)
  (CallsU Tryz.prog 14 [Value.int .i64 0] h_1 fun v h_2 =>
 ∃ t26_0 : Bool, ∃ t26_1A : Option Addr, ∃ t26_1n t26_1c : Nat, ∃ t26_2A : Option Addr, ∃ t26_2n t26_2c : Nat, v = Value.agg #[Value.bool t26_0, Value.slice t26_1A t26_1n t26_1c, Value.slice t26_2A t26_2n t26_2c] ∧
 ∃ J : Nat → Int → Bool → Option Addr → Nat → Nat → Option Addr → Nat → Nat → Heap → Prop, (∃ m, J m 0 t26_0 t26_1A t26_1n t26_1c t26_2A t26_2n t26_2c h_2) ∧
 ∀ (m : Nat) (i : Int) (out_0 : Bool) (out_1A : Option Addr) (out_1n out_1c : Nat) (out_2A : Option Addr) (out_2n out_2c : Nat) (h_3 : Heap), J m i out_0 out_1A out_1n out_1c out_2A out_2n out_2c h_3 →
 Br (decide (i ≤ p_1))
  (CallsU Tryz.prog 9 [Value.agg #[Value.int .i64 p_0, Value.int .i64 p_1], Value.int .i64 lot, Value.int .i64 defective, Value.int .i64 i] h_3 fun v_1 h_4 =>
 ∃ t38_0_0 : Bool, ∃ t38_0_1A : Option Addr, ∃ t38_0_1n t38_0_1c : Nat, ∃ t38_0_2A : Option Addr, ∃ t38_0_2n t38_0_2c : Nat, ∃ t38_1 : Int, v_1 = Value.tuple #[Value.agg #[Value.bool t38_0_0, Value.slice t38_0_1A t38_0_1n t38_0_1c, Value.slice t38_0_2A t38_0_2n t38_0_2c], Value.int .i64 t38_1] ∧
 CallsU Tryz.prog 32 [Value.agg #[Value.bool out_0, Value.slice out_1A out_1n out_1c, Value.slice out_2A out_2n out_2c], Value.agg #[Value.bool t38_0_0, Value.slice t38_0_1A t38_0_1n t38_0_1c, Value.slice t38_0_2A t38_0_2n t38_0_2c]] h_4 fun v_2 h_5 =>
 ∃ t43_0 : Bool, ∃ t43_1A : Option Addr, ∃ t43_1n t43_1c : Nat, ∃ t43_2A : Option Addr, ∃ t43_2n t43_2c : Nat, v_2 = Value.agg #[Value.bool t43_0, Value.slice t43_1A t43_1n t43_1c, Value.slice t43_2A t43_2n t43_2c] ∧
 ∀ t32 : Int, t32 = IntKind.i64.wrap (i + 1) →
 ∃ m_1, m_1 < m ∧ J m_1 t32 t43_0 t43_1A t43_1n t43_1c t43_2A t43_2n t43_2c h_5)
  (R (Value.tuple #[Value.agg #[Value.bool out_0, Value.slice out_1A out_1n out_1c, Value.slice out_2A out_2n out_2c], Value.int .i64 0]) h_3))) ∧
 CallsU Tryz.prog 13 [Value.agg #[Value.int .i64 p_0, Value.int .i64 p_1], Value.int .i64 lot] h fun v_3 h_6 =>
 ∃ t14 : Int, v_3 = Value.int .i64 t14 ∧
 Br ((t14 : Int) != 0)
  (C true h_6)
  (Br (decide (defective < 0))
  (C true h_6)
  (C (decide (defective > lot)) h_6))

set_option maxRecDepth 100000 in
theorem ref53_Accept_ok {p_0 : Int} {p_1 : Int} {lot : Int} {defective : Int} {h : Heap} {R : Value → Heap → Prop} (hv : ref53_Accept_vc p_0 p_1 lot defective h R) : CallsU Tryz.prog 11 [Value.agg #[Value.int .i64 p_0, Value.int .i64 p_1], Value.int .i64 lot, Value.int .i64 defective] h R :=
  fn_sound Tryz.func11 (by kernel_rfl) (by kernel_rfl) (by kernel_rfl) (fun _ => false) (.two .nil (.two (.cut ⟨[(24, Sh.bool)], []⟩ .nil .nil) (.two .nil (.two (.two .nil (.one (.loop ⟨[(9, Sh.int .i64)], [(2, [Sh.bool, Sh.slice, Sh.slice])]⟩ .nil))) .nil)))) [Value.agg #[Value.int .i64 p_0, Value.int .i64 p_1], Value.int .i64 lot, Value.int .i64 defective] h R (by kernel_rfl)
    (Eq.mp (show ref53_Accept_vc p_0 p_1 lot defective h R = fnV Tryz.prog Tryz.f11 (fun _ => false) (.two .nil (.two (.cut ⟨[(24, Sh.bool)], []⟩ .nil .nil) (.two .nil (.two (.two .nil (.one (.loop ⟨[(9, Sh.int .i64)], [(2, [Sh.bool, Sh.slice, Sh.slice])]⟩ .nil))) .nil)))) [Value.agg #[Value.int .i64 p_0, Value.int .i64 p_1], Value.int .i64 lot, Value.int .i64 defective] h R by kernel_rfl) hv)

def ref03_Same_vc (a_0 : Bool) (a_1A : Option Addr) (a_1n a_1c : Nat) (a_2A : Option Addr) (a_2n a_2c : Nat) (b_0 : Bool) (b_1A : Option Addr) (b_1n b_1c : Nat) (b_2A : Option Addr) (b_2n b_2c : Nat) (h : Heap) (R : Value → Heap → Prop) : Prop :=
 CallsU Tryz.prog 33 [Value.agg #[Value.bool a_0, Value.slice a_1A a_1n a_1c], Value.agg #[Value.bool b_0, Value.slice b_1A b_1n b_1c]] h fun v h_1 =>
 ∃ t9 : Bool, v = Value.bool t9 ∧
 Br (t9)
  (CallsU Tryz.prog 34 [Value.slice a_2A a_2n a_2c, Value.slice b_2A b_2n b_2c] h_1 fun v_1 h_2 =>
 ∃ t15 : Bool, v_1 = Value.bool t15 ∧
 R (Value.bool t15) h_2)
  (R (Value.bool false) h_1)

set_option maxRecDepth 100000 in
theorem ref03_Same_ok {a_0 : Bool} {a_1A : Option Addr} {a_1n a_1c : Nat} {a_2A : Option Addr} {a_2n a_2c : Nat} {b_0 : Bool} {b_1A : Option Addr} {b_1n b_1c : Nat} {b_2A : Option Addr} {b_2n b_2c : Nat} {h : Heap} {R : Value → Heap → Prop} (hv : ref03_Same_vc a_0 a_1A a_1n a_1c a_2A a_2n a_2c b_0 b_1A b_1n b_1c b_2A b_2n b_2c h R) : CallsU Tryz.prog 12 [Value.agg #[Value.bool a_0, Value.slice a_1A a_1n a_1c, Value.slice a_2A a_2n a_2c], Value.agg #[Value.bool b_0, Value.slice b_1A b_1n b_1c, Value.slice b_2A b_2n b_2c]] h R :=
  fn_sound Tryz.func12 (by kernel_rfl) (by kernel_rfl) (by kernel_rfl) (fun _ => false) .nil [Value.agg #[Value.bool a_0, Value.slice a_1A a_1n a_1c, Value.slice a_2A a_2n a_2c], Value.agg #[Value.bool b_0, Value.slice b_1A b_1n b_1c, Value.slice b_2A b_2n b_2c]] h R (by kernel_rfl)
    (Eq.mp (show ref03_Same_vc a_0 a_1A a_1n a_1c a_2A a_2n a_2c b_0 b_1A b_1n b_1c b_2A b_2n b_2c h R = fnV Tryz.prog Tryz.f12 (fun _ => false) .nil [Value.agg #[Value.bool a_0, Value.slice a_1A a_1n a_1c, Value.slice a_2A a_2n a_2c], Value.agg #[Value.bool b_0, Value.slice b_1A b_1n b_1c, Value.slice b_2A b_2n b_2c]] h R by kernel_rfl) hv)

def ref53_Check_vc (p_0 : Int) (p_1 : Int) (lot : Int) (h : Heap) (R : Value → Heap → Prop) : Prop :=
 Br (decide (p_0 < 1))
  (R (Value.int .i64 3) h)
  (Br (decide (p_0 > lot))
  (R (Value.int .i64 3) h)
  (Br (decide (lot > 200))
  (R (Value.int .i64 3) h)
  (Br (decide (p_1 < 0))
  (R (Value.int .i64 3) h)
  (Br (decide (p_1 ≥ p_0))
  (R (Value.int .i64 3) h)
  (R (Value.int .i64 0) h)))))

set_option maxRecDepth 100000 in
theorem ref53_Check_ok {p_0 : Int} {p_1 : Int} {lot : Int} {h : Heap} {R : Value → Heap → Prop} (hv : ref53_Check_vc p_0 p_1 lot h R) : CallsU Tryz.prog 13 [Value.agg #[Value.int .i64 p_0, Value.int .i64 p_1], Value.int .i64 lot] h R :=
  fn_sound Tryz.func13 (by kernel_rfl) (by kernel_rfl) (by kernel_rfl) (fun _ => false) .nil [Value.agg #[Value.int .i64 p_0, Value.int .i64 p_1], Value.int .i64 lot] h R (by kernel_rfl)
    (Eq.mp (show ref53_Check_vc p_0 p_1 lot h R = fnV Tryz.prog Tryz.f13 (fun _ => false) .nil [Value.agg #[Value.int .i64 p_0, Value.int .i64 p_1], Value.int .i64 lot] h R by kernel_rfl) hv)

def ref03_Whole_vc (n : Int) (h : Heap) (R : Value → Heap → Prop) : Prop :=
 CallsU Tryz.prog 35 [Value.int .i64 n] h fun v h_1 =>
 ∃ t4_0 : Bool, ∃ t4_1A : Option Addr, ∃ t4_1n t4_1c : Nat, v = Value.agg #[Value.bool t4_0, Value.slice t4_1A t4_1n t4_1c] ∧
 CallsU Tryz.prog 36 [Value.int .u64 1] h_1 fun v_1 h_2 =>
 ∃ t5A : Option Addr, ∃ t5n t5c : Nat, v_1 = Value.slice t5A t5n t5c ∧
 R (Value.agg #[Value.bool t4_0, Value.slice t4_1A t4_1n t4_1c, Value.slice t5A t5n t5c]) h_2

set_option maxRecDepth 100000 in
theorem ref03_Whole_ok {n : Int} {h : Heap} {R : Value → Heap → Prop} (hv : ref03_Whole_vc n h R) : CallsU Tryz.prog 14 [Value.int .i64 n] h R :=
  fn_sound Tryz.func14 (by kernel_rfl) (by kernel_rfl) (by kernel_rfl) (fun _ => false) .nil [Value.int .i64 n] h R (by kernel_rfl)
    (Eq.mp (show ref03_Whole_vc n h R = fnV Tryz.prog Tryz.f14 (fun _ => false) .nil [Value.int .i64 n] h R by kernel_rfl) hv)

def ref53_SameInts_vc (aA : Option Addr) (an _ac : Nat) (bA : Option Addr) (bn _bc : Nat) (h : Heap) (R : Value → Heap → Prop) : Prop :=
 Br ((((an : Nat) : Int) : Int) != ((bn : Nat) : Int))
  (R (Value.bool false) h)
  (∃ J : Nat → Int → Heap → Prop, (∃ m, J m 0 h) ∧
 ∀ (m : Nat) (i : Int) (h_1 : Heap), J m i h_1 →
 Br (decide (i < ((an : Nat) : Int)))
  (∃ ad : Addr, aA = some ad ∧ 0 ≤ i ∧ i < ((an : Nat) : Int) ∧
 ∃ t20 : Int, LdN h_1 (Addr.add ad (Int.toNat i * 1)) [Value.int .i64 t20] ∧
 ∃ ad_1 : Addr, bA = some ad_1 ∧ 0 ≤ i ∧ i < ((bn : Nat) : Int) ∧
 ∃ t24 : Int, LdN h_1 (Addr.add ad_1 (Int.toNat i * 1)) [Value.int .i64 t24] ∧
 Br ((t20 : Int) != t24)
  (R (Value.bool false) h_1)
  (∀ t16 : Int, t16 = IntKind.i64.wrap (i + 1) →
 ∃ m_1, m_1 < m ∧ J m_1 t16 h_1))
  (R (Value.bool true) h_1))

set_option maxRecDepth 100000 in
theorem ref53_SameInts_ok {aA : Option Addr} {an ac : Nat} {bA : Option Addr} {bn bc : Nat} {h : Heap} {R : Value → Heap → Prop} (hv : ref53_SameInts_vc aA an ac bA bn bc h R) : CallsU Tryz.prog 23 [Value.slice aA an ac, Value.slice bA bn bc] h R :=
  fn_sound Tryz.func23 (by kernel_rfl) (by kernel_rfl) (by kernel_rfl) (fun _ => false) (.two .nil (.two .nil (.two (.two .nil (.one (.loop ⟨[(5, Sh.int .i64)], []⟩ (.two .nil (.two (.one (.two (.ord [0, 1, 2, 3, 4, 5, 6, 7, 8]) .nil)) .nil))))) .nil))) [Value.slice aA an ac, Value.slice bA bn bc] h R (by kernel_rfl)
    (Eq.mp (show ref53_SameInts_vc aA an ac bA bn bc h R = fnV Tryz.prog Tryz.f23 (fun _ => false) (.two .nil (.two .nil (.two (.two .nil (.one (.loop ⟨[(5, Sh.int .i64)], []⟩ (.two .nil (.two (.one (.two (.ord [0, 1, 2, 3, 4, 5, 6, 7, 8]) .nil)) .nil))))) .nil))) [Value.slice aA an ac, Value.slice bA bn bc] h R by kernel_rfl) hv)

def ref01_Mul_vc (aA : Option Addr) (an ac : Nat) (bA : Option Addr) (bn bc : Nat) (h : Heap) (R : Value → Heap → Prop) : Prop :=
 ∀ t14 : Int, t14 = IntKind.i64.wrap (((an : Nat) : Int) + ((bn : Nat) : Int)) →
 0 ≤ t14 ∧ t14 ≤ t14 ∧ t14 * 4 ≤ 140737488355328 ∧ t14 ≤ 9223372036854775807 ∧
 ∀ (g : Nat) (h_1 : Heap), h g = none → h_1 = Heap.put h g ⟨repV [Value.int .u32 0] (Int.toNat t14), 76, (0, 0)⟩ →
 ∃ J : Nat → Int → Heap → Prop, (∃ m, J m 0 h_1) ∧
 ∀ (m : Nat) (i : Int) (h_2 : Heap), J m i h_2 →
 Br (decide (i < ((an : Nat) : Int)))
  (∃ J_1 : Nat → Int → Int → Heap → Prop, (∃ m_2, J_1 m_2 0 0 h_2) ∧
 ∀ (m_2 : Nat) (carry : Int) (k : Int) (h_3 : Heap), J_1 m_2 carry k h_3 →
 Br (decide (k < ((bn : Nat) : Int)))
  (CallsU Tryz.prog 51 [Value.slice aA an ac, Value.int .i64 i] h_3 fun v h_4 =>
 ∃ t30 : Int, v = Value.int .u64 t30 ∧
 CallsU Tryz.prog 51 [Value.slice bA bn bc, Value.int .i64 k] h_4 fun v_1 h_5 =>
 ∃ t33 : Int, v_1 = Value.int .u64 t33 ∧
 ∀ t34 : Int, t34 = IntKind.u64.wrap (t30 * t33) →
 ∀ t38 : Int, t38 = IntKind.i64.wrap (i + k) →
 CallsU Tryz.prog 51 [Value.slice (some ⟨g, 0, none⟩) (Int.toNat t14) (Int.toNat t14), Value.int .i64 t38] h_5 fun v_2 h_6 =>
 ∃ t39 : Int, v_2 = Value.int .u64 t39 ∧
 ∀ t40 : Int, t40 = IntKind.u64.wrap (t34 + t39) →
 ∀ t42 : Int, t42 = IntKind.u64.wrap (t40 + carry) →
 ∀ t46 : Int, t46 = IntKind.i64.wrap (i + k) →
 ∀ t48 : Int, t48 = (Int.tmod t42 4294967296) →
 ∃ ad : Addr, some ⟨g, 0, none⟩ = some ad ∧ 0 ≤ t46 ∧ t46 < (((Int.toNat t14) : Nat) : Int) ∧
 ∃ b : Blk, h_6 (Addr.block (Addr.add ad (Int.toNat t46 * 1))) = some b ∧ b.fz = (0, 0) ∧ Addr.spot (Addr.add ad (Int.toNat t46 * 1)) = none ∧ Addr.off (Addr.add ad (Int.toNat t46 * 1)) + 1 ≤ b.cells.length ∧
 ∀ h_7 : Heap, h_7 = Heap.put h_6 (Addr.block (Addr.add ad (Int.toNat t46 * 1))) { b with cells := setSeg b.cells (Addr.off (Addr.add ad (Int.toNat t46 * 1))) [Value.int .u32 (IntKind.u32.wrap t48)] } →
 ∀ t52 : Int, t52 = IntKind.u64.wrap (Int.tdiv t42 4294967296) →
 ∀ t27 : Int, t27 = IntKind.i64.wrap (k + 1) →
 ∃ m_3, m_3 < m_2 ∧ J_1 m_3 t52 t27 h_7)
  (∀ t57 : Int, t57 = IntKind.i64.wrap (i + ((bn : Nat) : Int)) →
 ∃ ad_1 : Addr, some ⟨g, 0, none⟩ = some ad_1 ∧ 0 ≤ t57 ∧ t57 < (((Int.toNat t14) : Nat) : Int) ∧
 ∃ b_1 : Blk, h_3 (Addr.block (Addr.add ad_1 (Int.toNat t57 * 1))) = some b_1 ∧ b_1.fz = (0, 0) ∧ Addr.spot (Addr.add ad_1 (Int.toNat t57 * 1)) = none ∧ Addr.off (Addr.add ad_1 (Int.toNat t57 * 1)) + 1 ≤ b_1.cells.length ∧
 ∀ h_8 : Heap, h_8 = Heap.put h_3 (Addr.block (Addr.add ad_1 (Int.toNat t57 * 1))) { b_1 with cells := setSeg b_1.cells (Addr.off (Addr.add ad_1 (Int.toNat t57 * 1))) [Value.int .u32 (IntKind.u32.wrap carry)] } →
 ∀ t21 : Int, t21 = IntKind.i64.wrap (i + 1) →
 ∃ m_1, m_1 < m ∧ J m_1 t21 h_8))
  (CallsU Tryz.prog 52 [Value.slice (some ⟨g, 0, none⟩) (Int.toNat t14) (Int.toNat t14)] h_2 fun v_3 h_9 =>
 ∃ t62A : Option Addr, ∃ t62n t62c : Nat, v_3 = Value.slice t62A t62n t62c ∧
 R (Value.slice t62A t62n t62c) h_9)

set_option maxRecDepth 100000 in
theorem ref01_Mul_ok {aA : Option Addr} {an ac : Nat} {bA : Option Addr} {bn bc : Nat} {h : Heap} {R : Value → Heap → Prop} (hv : ref01_Mul_vc aA an ac bA bn bc h R) : CallsU Tryz.prog 27 [Value.slice aA an ac, Value.slice bA bn bc] h R :=
  fn_sound Tryz.func27 (by kernel_rfl) (by kernel_rfl) (by kernel_rfl) (fun _ => false) (.two .nil (.two .nil (.two (.two .nil (.one (.loop ⟨[(6, Sh.int .i64)], []⟩ (.two .nil (.two (.one (.two .nil (.two (.two .nil (.one (.loop ⟨[(7, Sh.int .u64), (8, Sh.int .i64)], []⟩ .nil))) .nil))) .nil))))) .nil))) [Value.slice aA an ac, Value.slice bA bn bc] h R (by kernel_rfl)
    (Eq.mp (show ref01_Mul_vc aA an ac bA bn bc h R = fnV Tryz.prog Tryz.f27 (fun _ => false) (.two .nil (.two .nil (.two (.two .nil (.one (.loop ⟨[(6, Sh.int .i64)], []⟩ (.two .nil (.two (.one (.two .nil (.two (.two .nil (.one (.loop ⟨[(7, Sh.int .u64), (8, Sh.int .i64)], []⟩ .nil))) .nil))) .nil))))) .nil))) [Value.slice aA an ac, Value.slice bA bn bc] h R by kernel_rfl) hv)

def ref53_choose_vc (n : Int) (k : Int) (h : Heap) (R : Value → Heap → Prop) : Prop :=
 ∃ C : Bool → Heap → Prop, (∀ (t13 : Bool) (h_1 : Heap), C t13 h_1 →
 Br (t13)
  (CallsU Tryz.prog 36 [Value.int .u64 0] h_1 fun v h_2 =>
 ∃ t14A : Option Addr, ∃ t14n t14c : Nat, v = Value.slice t14A t14n t14c ∧
 R (Value.slice t14A t14n t14c) h_2)
  (CallsU Tryz.prog 36 [Value.int .u64 1] h_1 fun v_1 h_3 =>
 ∃ t15A : Option Addr, ∃ t15n t15c : Nat, v_1 = Value.slice t15A t15n t15c ∧
 ∃ J : Nat → Option Addr → Nat → Nat → Int → Heap → Prop, (∃ m, J m t15A t15n t15c 1 h_3) ∧
 ∀ (m : Nat) (outA : Option Addr) (outn outc : Nat) (i : Int) (h_4 : Heap), J m outA outn outc i h_4 →
 Br (decide (i ≤ k))
  (∀ t24 : Int, t24 = IntKind.i64.wrap (n - k) →
 ∀ t26 : Int, t26 = IntKind.i64.wrap (t24 + i) →
 CallsU Tryz.prog 36 [Value.int .u64 (IntKind.u64.wrap t26)] h_4 fun v_2 h_5 =>
 ∃ t28A : Option Addr, ∃ t28n t28c : Nat, v_2 = Value.slice t28A t28n t28c ∧
 CallsU Tryz.prog 27 [Value.slice outA outn outc, Value.slice t28A t28n t28c] h_5 fun v_3 h_6 =>
 ∃ t29A : Option Addr, ∃ t29n t29c : Nat, v_3 = Value.slice t29A t29n t29c ∧
 CallsU Tryz.prog 36 [Value.int .u64 (IntKind.u64.wrap i)] h_6 fun v_4 h_7 =>
 ∃ t34A : Option Addr, ∃ t34n t34c : Nat, v_4 = Value.slice t34A t34n t34c ∧
 CallsU Tryz.prog 53 [Value.slice t29A t29n t29c, Value.slice t34A t34n t34c] h_7 fun v_5 h_8 =>
 ∃ t35_0A : Option Addr, ∃ t35_0n t35_0c : Nat, ∃ t35_1A : Option Addr, ∃ t35_1n t35_1c : Nat, ∃ t35_2 : Bool, v_5 = Value.tuple #[Value.slice t35_0A t35_0n t35_0c, Value.slice t35_1A t35_1n t35_1c, Value.bool t35_2] ∧
 ∀ t20 : Int, t20 = IntKind.i64.wrap (i + 1) →
 ∃ m_1, m_1 < m ∧ J m_1 t35_0A t35_0n t35_0c t20 h_8)
  (R (Value.slice outA outn outc) h_4))) ∧
 Br (decide (k < 0))
  (C true h)
  (C (decide (k > n)) h)

set_option maxRecDepth 100000 in
theorem ref53_choose_ok {n : Int} {k : Int} {h : Heap} {R : Value → Heap → Prop} (hv : ref53_choose_vc n k h R) : CallsU Tryz.prog 28 [Value.int .i64 n, Value.int .i64 k] h R :=
  fn_sound Tryz.func28 (by kernel_rfl) (by kernel_rfl) (by kernel_rfl) (fun _ => false) (.two .nil (.two (.cut ⟨[(13, Sh.bool)], []⟩ .nil .nil) (.two .nil (.two (.two .nil (.one (.loop ⟨[(5, Sh.slice), (6, Sh.int .i64)], []⟩ .nil))) .nil)))) [Value.int .i64 n, Value.int .i64 k] h R (by kernel_rfl)
    (Eq.mp (show ref53_choose_vc n k h R = fnV Tryz.prog Tryz.f28 (fun _ => false) (.two .nil (.two (.cut ⟨[(13, Sh.bool)], []⟩ .nil .nil) (.two .nil (.two (.two .nil (.one (.loop ⟨[(5, Sh.slice), (6, Sh.int .i64)], []⟩ .nil))) .nil)))) [Value.int .i64 n, Value.int .i64 k] h R by kernel_rfl) hv)

def ref03_Norm_vc (a_0 : Bool) (a_1A : Option Addr) (a_1n a_1c : Nat) (a_2A : Option Addr) (a_2n a_2c : Nat) (h : Heap) (R : Value → Heap → Prop) : Prop :=
 CallsU Tryz.prog 54 [Value.agg #[Value.bool a_0, Value.slice a_1A a_1n a_1c, Value.slice a_2A a_2n a_2c]] h fun v h_1 =>
 ∃ t4 : Bool, v = Value.bool t4 ∧
 Br (t4)
  (CallsU Tryz.prog 14 [Value.int .i64 0] h_1 fun v_1 h_2 =>
 ∃ t5_0 : Bool, ∃ t5_1A : Option Addr, ∃ t5_1n t5_1c : Nat, ∃ t5_2A : Option Addr, ∃ t5_2n t5_2c : Nat, v_1 = Value.agg #[Value.bool t5_0, Value.slice t5_1A t5_1n t5_1c, Value.slice t5_2A t5_2n t5_2c] ∧
 R (Value.agg #[Value.bool t5_0, Value.slice t5_1A t5_1n t5_1c, Value.slice t5_2A t5_2n t5_2c]) h_2)
  (CallsU Tryz.prog 55 [Value.bool a_0, Value.slice a_1A a_1n a_1c, Value.slice a_2A a_2n a_2c] h_1 fun v_2 h_3 =>
 ∃ t14_0 : Bool, ∃ t14_1A : Option Addr, ∃ t14_1n t14_1c : Nat, ∃ t14_2A : Option Addr, ∃ t14_2n t14_2c : Nat, v_2 = Value.agg #[Value.bool t14_0, Value.slice t14_1A t14_1n t14_1c, Value.slice t14_2A t14_2n t14_2c] ∧
 R (Value.agg #[Value.bool t14_0, Value.slice t14_1A t14_1n t14_1c, Value.slice t14_2A t14_2n t14_2c]) h_3)

set_option maxRecDepth 100000 in
theorem ref03_Norm_ok {a_0 : Bool} {a_1A : Option Addr} {a_1n a_1c : Nat} {a_2A : Option Addr} {a_2n a_2c : Nat} {h : Heap} {R : Value → Heap → Prop} (hv : ref03_Norm_vc a_0 a_1A a_1n a_1c a_2A a_2n a_2c h R) : CallsU Tryz.prog 29 [Value.agg #[Value.bool a_0, Value.slice a_1A a_1n a_1c, Value.slice a_2A a_2n a_2c]] h R :=
  fn_sound Tryz.func29 (by kernel_rfl) (by kernel_rfl) (by kernel_rfl) (fun _ => false) .nil [Value.agg #[Value.bool a_0, Value.slice a_1A a_1n a_1c, Value.slice a_2A a_2n a_2c]] h R (by kernel_rfl)
    (Eq.mp (show ref03_Norm_vc a_0 a_1A a_1n a_1c a_2A a_2n a_2c h R = fnV Tryz.prog Tryz.f29 (fun _ => false) .nil [Value.agg #[Value.bool a_0, Value.slice a_1A a_1n a_1c, Value.slice a_2A a_2n a_2c]] h R by kernel_rfl) hv)

def ref03_Add_vc (a_0 : Bool) (a_1A : Option Addr) (a_1n a_1c : Nat) (a_2A : Option Addr) (a_2n a_2c : Nat) (b_0 : Bool) (b_1A : Option Addr) (b_1n b_1c : Nat) (b_2A : Option Addr) (b_2n b_2c : Nat) (h : Heap) (R : Value → Heap → Prop) : Prop :=
 CallsU Tryz.prog 29 [Value.agg #[Value.bool a_0, Value.slice a_1A a_1n a_1c, Value.slice a_2A a_2n a_2c]] h fun v h_1 =>
 ∃ t9_0 : Bool, ∃ t9_1A : Option Addr, ∃ t9_1n t9_1c : Nat, ∃ t9_2A : Option Addr, ∃ t9_2n t9_2c : Nat, v = Value.agg #[Value.bool t9_0, Value.slice t9_1A t9_1n t9_1c, Value.slice t9_2A t9_2n t9_2c] ∧
 CallsU Tryz.prog 29 [Value.agg #[Value.bool b_0, Value.slice b_1A b_1n b_1c, Value.slice b_2A b_2n b_2c]] h_1 fun v_1 h_2 =>
 ∃ t11_0 : Bool, ∃ t11_1A : Option Addr, ∃ t11_1n t11_1c : Nat, ∃ t11_2A : Option Addr, ∃ t11_2n t11_2c : Nat, v_1 = Value.agg #[Value.bool t11_0, Value.slice t11_1A t11_1n t11_1c, Value.slice t11_2A t11_2n t11_2c] ∧
 CallsU Tryz.prog 58 [Value.agg #[Value.bool t9_0, Value.slice t9_1A t9_1n t9_1c], Value.agg #[Value.bool false, Value.slice t11_2A t11_2n t11_2c]] h_2 fun v_2 h_3 =>
 ∃ t17_0 : Bool, ∃ t17_1A : Option Addr, ∃ t17_1n t17_1c : Nat, v_2 = Value.agg #[Value.bool t17_0, Value.slice t17_1A t17_1n t17_1c] ∧
 CallsU Tryz.prog 58 [Value.agg #[Value.bool t11_0, Value.slice t11_1A t11_1n t11_1c], Value.agg #[Value.bool false, Value.slice t9_2A t9_2n t9_2c]] h_3 fun v_3 h_4 =>
 ∃ t23_0 : Bool, ∃ t23_1A : Option Addr, ∃ t23_1n t23_1c : Nat, v_3 = Value.agg #[Value.bool t23_0, Value.slice t23_1A t23_1n t23_1c] ∧
 CallsU Tryz.prog 57 [Value.agg #[Value.bool t17_0, Value.slice t17_1A t17_1n t17_1c], Value.agg #[Value.bool t23_0, Value.slice t23_1A t23_1n t23_1c]] h_4 fun v_4 h_5 =>
 ∃ t24_0 : Bool, ∃ t24_1A : Option Addr, ∃ t24_1n t24_1c : Nat, v_4 = Value.agg #[Value.bool t24_0, Value.slice t24_1A t24_1n t24_1c] ∧
 CallsU Tryz.prog 27 [Value.slice t9_2A t9_2n t9_2c, Value.slice t11_2A t11_2n t11_2c] h_5 fun v_5 h_6 =>
 ∃ t33A : Option Addr, ∃ t33n t33c : Nat, v_5 = Value.slice t33A t33n t33c ∧
 CallsU Tryz.prog 55 [Value.bool t24_0, Value.slice t24_1A t24_1n t24_1c, Value.slice t33A t33n t33c] h_6 fun v_6 h_7 =>
 ∃ t34_0 : Bool, ∃ t34_1A : Option Addr, ∃ t34_1n t34_1c : Nat, ∃ t34_2A : Option Addr, ∃ t34_2n t34_2c : Nat, v_6 = Value.agg #[Value.bool t34_0, Value.slice t34_1A t34_1n t34_1c, Value.slice t34_2A t34_2n t34_2c] ∧
 R (Value.agg #[Value.bool t34_0, Value.slice t34_1A t34_1n t34_1c, Value.slice t34_2A t34_2n t34_2c]) h_7

set_option maxRecDepth 100000 in
theorem ref03_Add_ok {a_0 : Bool} {a_1A : Option Addr} {a_1n a_1c : Nat} {a_2A : Option Addr} {a_2n a_2c : Nat} {b_0 : Bool} {b_1A : Option Addr} {b_1n b_1c : Nat} {b_2A : Option Addr} {b_2n b_2c : Nat} {h : Heap} {R : Value → Heap → Prop} (hv : ref03_Add_vc a_0 a_1A a_1n a_1c a_2A a_2n a_2c b_0 b_1A b_1n b_1c b_2A b_2n b_2c h R) : CallsU Tryz.prog 32 [Value.agg #[Value.bool a_0, Value.slice a_1A a_1n a_1c, Value.slice a_2A a_2n a_2c], Value.agg #[Value.bool b_0, Value.slice b_1A b_1n b_1c, Value.slice b_2A b_2n b_2c]] h R :=
  fn_sound Tryz.func32 (by kernel_rfl) (by kernel_rfl) (by kernel_rfl) (fun _ => false) (.two .nil (.two (.ord [0, 2, 1, 3, 4, 5, 6, 7]) (.two (.ord [0, 1, 2, 3, 4, 6, 7, 8, 9, 10, 5, 11, 12, 13, 14]) (.two (.ord [0, 1, 2, 3, 4, 5, 6, 7, 8, 9, 10]) .nil)))) [Value.agg #[Value.bool a_0, Value.slice a_1A a_1n a_1c, Value.slice a_2A a_2n a_2c], Value.agg #[Value.bool b_0, Value.slice b_1A b_1n b_1c, Value.slice b_2A b_2n b_2c]] h R (by kernel_rfl)
    (Eq.mp (show ref03_Add_vc a_0 a_1A a_1n a_1c a_2A a_2n a_2c b_0 b_1A b_1n b_1c b_2A b_2n b_2c h R = fnV Tryz.prog Tryz.f32 (fun _ => false) (.two .nil (.two (.ord [0, 2, 1, 3, 4, 5, 6, 7]) (.two (.ord [0, 1, 2, 3, 4, 6, 7, 8, 9, 10, 5, 11, 12, 13, 14]) (.two (.ord [0, 1, 2, 3, 4, 5, 6, 7, 8, 9, 10]) .nil)))) [Value.agg #[Value.bool a_0, Value.slice a_1A a_1n a_1c, Value.slice a_2A a_2n a_2c], Value.agg #[Value.bool b_0, Value.slice b_1A b_1n b_1c, Value.slice b_2A b_2n b_2c]] h R by kernel_rfl) hv)

def ref03_SameInt_vc (a_0 : Bool) (a_1A : Option Addr) (a_1n a_1c : Nat) (b_0 : Bool) (b_1A : Option Addr) (b_1n b_1c : Nat) (h : Heap) (R : Value → Heap → Prop) : Prop :=
 Br (a_0 == b_0)
  (CallsU Tryz.prog 34 [Value.slice a_1A a_1n a_1c, Value.slice b_1A b_1n b_1c] h fun v h_1 =>
 ∃ t15 : Bool, v = Value.bool t15 ∧
 R (Value.bool t15) h_1)
  (R (Value.bool false) h)

set_option maxRecDepth 100000 in
theorem ref03_SameInt_ok {a_0 : Bool} {a_1A : Option Addr} {a_1n a_1c : Nat} {b_0 : Bool} {b_1A : Option Addr} {b_1n b_1c : Nat} {h : Heap} {R : Value → Heap → Prop} (hv : ref03_SameInt_vc a_0 a_1A a_1n a_1c b_0 b_1A b_1n b_1c h R) : CallsU Tryz.prog 33 [Value.agg #[Value.bool a_0, Value.slice a_1A a_1n a_1c], Value.agg #[Value.bool b_0, Value.slice b_1A b_1n b_1c]] h R :=
  fn_sound Tryz.func33 (by kernel_rfl) (by kernel_rfl) (by kernel_rfl) (fun _ => false) .nil [Value.agg #[Value.bool a_0, Value.slice a_1A a_1n a_1c], Value.agg #[Value.bool b_0, Value.slice b_1A b_1n b_1c]] h R (by kernel_rfl)
    (Eq.mp (show ref03_SameInt_vc a_0 a_1A a_1n a_1c b_0 b_1A b_1n b_1c h R = fnV Tryz.prog Tryz.f33 (fun _ => false) .nil [Value.agg #[Value.bool a_0, Value.slice a_1A a_1n a_1c], Value.agg #[Value.bool b_0, Value.slice b_1A b_1n b_1c]] h R by kernel_rfl) hv)

def ref03_limbs_vc (aA : Option Addr) (an _ac : Nat) (bA : Option Addr) (bn _bc : Nat) (h : Heap) (R : Value → Heap → Prop) : Prop :=
 Br ((((an : Nat) : Int) : Int) != ((bn : Nat) : Int))
  (R (Value.bool false) h)
  (∃ J : Nat → Int → Heap → Prop, (∃ m, J m 0 h) ∧
 ∀ (m : Nat) (i : Int) (h_1 : Heap), J m i h_1 →
 Br (decide (i < ((an : Nat) : Int)))
  (∃ ad : Addr, aA = some ad ∧ 0 ≤ i ∧ i < ((an : Nat) : Int) ∧
 ∃ t20 : Int, LdN h_1 (Addr.add ad (Int.toNat i * 1)) [Value.int .u32 t20] ∧
 ∃ ad_1 : Addr, bA = some ad_1 ∧ 0 ≤ i ∧ i < ((bn : Nat) : Int) ∧
 ∃ t24 : Int, LdN h_1 (Addr.add ad_1 (Int.toNat i * 1)) [Value.int .u32 t24] ∧
 Br ((t20 : Int) != t24)
  (R (Value.bool false) h_1)
  (∀ t16 : Int, t16 = IntKind.i64.wrap (i + 1) →
 ∃ m_1, m_1 < m ∧ J m_1 t16 h_1))
  (R (Value.bool true) h_1))

set_option maxRecDepth 100000 in
theorem ref03_limbs_ok {aA : Option Addr} {an ac : Nat} {bA : Option Addr} {bn bc : Nat} {h : Heap} {R : Value → Heap → Prop} (hv : ref03_limbs_vc aA an ac bA bn bc h R) : CallsU Tryz.prog 34 [Value.slice aA an ac, Value.slice bA bn bc] h R :=
  fn_sound Tryz.func34 (by kernel_rfl) (by kernel_rfl) (by kernel_rfl) (fun _ => false) (.two .nil (.two .nil (.two (.two .nil (.one (.loop ⟨[(5, Sh.int .i64)], []⟩ (.two .nil (.two (.one (.two (.ord [0, 1, 2, 3, 4, 5, 6, 7, 8]) .nil)) .nil))))) .nil))) [Value.slice aA an ac, Value.slice bA bn bc] h R (by kernel_rfl)
    (Eq.mp (show ref03_limbs_vc aA an ac bA bn bc h R = fnV Tryz.prog Tryz.f34 (fun _ => false) (.two .nil (.two .nil (.two (.two .nil (.one (.loop ⟨[(5, Sh.int .i64)], []⟩ (.two .nil (.two (.one (.two (.ord [0, 1, 2, 3, 4, 5, 6, 7, 8]) .nil)) .nil))))) .nil))) [Value.slice aA an ac, Value.slice bA bn bc] h R by kernel_rfl) hv)

def ref02_Of_vc (n : Int) (h : Heap) (R : Value → Heap → Prop) : Prop :=
 Br (decide (n < 0))
  (∀ t6 : Int, t6 = IntKind.i64.wrap (n + 1) →
 ∀ t7 : Int, t7 = IntKind.i64.wrap (0 - t6) →
 ∀ t9 : Int, t9 = IntKind.u64.wrap ((IntKind.u64.wrap t7) + 1) →
 CallsU Tryz.prog 36 [Value.int .u64 t9] h fun v h_1 =>
 ∃ t10A : Option Addr, ∃ t10n t10c : Nat, v = Value.slice t10A t10n t10c ∧
 R (Value.agg #[Value.bool true, Value.slice t10A t10n t10c]) h_1)
  (CallsU Tryz.prog 36 [Value.int .u64 (IntKind.u64.wrap n)] h fun v_1 h_2 =>
 ∃ t14A : Option Addr, ∃ t14n t14c : Nat, v_1 = Value.slice t14A t14n t14c ∧
 R (Value.agg #[Value.bool false, Value.slice t14A t14n t14c]) h_2)

set_option maxRecDepth 100000 in
theorem ref02_Of_ok {n : Int} {h : Heap} {R : Value → Heap → Prop} (hv : ref02_Of_vc n h R) : CallsU Tryz.prog 35 [Value.int .i64 n] h R :=
  fn_sound Tryz.func35 (by kernel_rfl) (by kernel_rfl) (by kernel_rfl) (fun _ => false) .nil [Value.int .i64 n] h R (by kernel_rfl)
    (Eq.mp (show ref02_Of_vc n h R = fnV Tryz.prog Tryz.f35 (fun _ => false) .nil [Value.int .i64 n] h R by kernel_rfl) hv)

def ref01_Of_vc (n : Int) (h : Heap) (R : Value → Heap → Prop) : Prop :=
 ∃ J : Nat → Int → Option Addr → Nat → Nat → Heap → Prop, (∃ m, J m n none 0 0 h) ∧
 ∀ (m : Nat) (n_1 : Int) (outA : Option Addr) (outn outc : Nat) (h_1 : Heap), J m n_1 outA outn outc h_1 →
 Br (decide (n_1 > 0))
  (∀ t8 : Int, t8 = (Int.tmod n_1 4294967296) →
 ∀ (g : Nat) (h_2 : Heap), h_1 g = none → h_2 = Heap.put h_1 g ⟨[Value.int .u32 (IntKind.u32.wrap t8)], 76, (0, 0)⟩ →
 ∃ xs : List Value, RdS h_2 (some ⟨g, 0, none⟩) (1 * 1) xs ∧ (∀ x ∈ xs, one x = true) ∧
 (outn + 1 ≤ outc → ∃ (ad : Addr) (b : Blk), outA = some ad ∧ ad.spot = none ∧ h_2 ad.block = some b ∧ b.fz = (0, 0) ∧ ad.off + outn * 1 + 1 * 1 ≤ b.cells.length ∧
 ∀ h_4 : Heap, h_4 = Heap.put h_2 ad.block { b with cells := setSeg b.cells (ad.off + outn * 1) xs } →
 ∀ t13 : Int, t13 = IntKind.u64.wrap (Int.tdiv n_1 4294967296) →
 ∃ m_1, m_1 < m ∧ J m_1 t13 outA (outn + 1) outc h_4) ∧
 (outc < outn + 1 → ∃ olds : List Value, RdS h_2 outA (outn * 1) olds ∧ (outn + 1) * 4 ≤ 140737488355328 ∧
 ∀ (g_1 cap : Nat) (h_5 : Heap), h_2 g_1 = none → outn + 1 ≤ cap → h_5 = Heap.put h_2 g_1 ⟨olds ++ xs ++ repV [Value.int .u32 0] (cap - (outn + 1)), 76, (0, 0)⟩ →
 ∀ t13_1 : Int, t13_1 = IntKind.u64.wrap (Int.tdiv n_1 4294967296) →
 ∃ m_1, m_1 < m ∧ J m_1 t13_1 (some ⟨g_1, 0, none⟩) (outn + 1) cap h_5))
  (R (Value.slice outA outn outc) h_1)

set_option maxRecDepth 100000 in
theorem ref01_Of_ok {n : Int} {h : Heap} {R : Value → Heap → Prop} (hv : ref01_Of_vc n h R) : CallsU Tryz.prog 36 [Value.int .u64 n] h R :=
  fn_sound Tryz.func36 (by kernel_rfl) (by kernel_rfl) (by kernel_rfl) (fun _ => false) (.two .nil (.two .nil (.two (.one (.loop ⟨[(0, Sh.int .u64), (3, Sh.slice)], []⟩ .nil)) .nil))) [Value.int .u64 n] h R (by kernel_rfl)
    (Eq.mp (show ref01_Of_vc n h R = fnV Tryz.prog Tryz.f36 (fun _ => false) (.two .nil (.two .nil (.two (.one (.loop ⟨[(0, Sh.int .u64), (3, Sh.slice)], []⟩ .nil)) .nil))) [Value.int .u64 n] h R by kernel_rfl) hv)

def ref01_limb_vc (aA : Option Addr) (an _ac : Nat) (i : Int) (h : Heap) (R : Value → Heap → Prop) : Prop :=
 Br (decide (i < 0))
  (R (Value.int .u64 0) h)
  (Br (decide (i ≥ ((an : Nat) : Int)))
  (R (Value.int .u64 0) h)
  (∃ ad : Addr, aA = some ad ∧ 0 ≤ i ∧ i < ((an : Nat) : Int) ∧
 ∃ t16 : Int, LdN h (Addr.add ad (Int.toNat i * 1)) [Value.int .u32 t16] ∧
 R (Value.int .u64 (IntKind.u64.wrap t16)) h))

set_option maxRecDepth 100000 in
theorem ref01_limb_ok {aA : Option Addr} {an ac : Nat} {i : Int} {h : Heap} {R : Value → Heap → Prop} (hv : ref01_limb_vc aA an ac i h R) : CallsU Tryz.prog 51 [Value.slice aA an ac, Value.int .i64 i] h R :=
  fn_sound Tryz.func51 (by kernel_rfl) (by kernel_rfl) (by kernel_rfl) (fun _ => false) .nil [Value.slice aA an ac, Value.int .i64 i] h R (by kernel_rfl)
    (Eq.mp (show ref01_limb_vc aA an ac i h R = fnV Tryz.prog Tryz.f51 (fun _ => false) .nil [Value.slice aA an ac, Value.int .i64 i] h R by kernel_rfl) hv)

def ref01_Norm_vc (aA : Option Addr) (an ac : Nat) (h : Heap) (R : Value → Heap → Prop) : Prop :=
 ∃ J : Nat → Int → Heap → Prop, (∃ m, J m ((an : Nat) : Int) h) ∧
 ∀ (m : Nat) (n : Int) (h_1 : Heap), J m n h_1 →
 Br (decide (n > 0))
  (∀ t12 : Int, t12 = IntKind.i64.wrap (n - 1) →
 ∃ ad : Addr, aA = some ad ∧ 0 ≤ t12 ∧ t12 < ((an : Nat) : Int) ∧
 ∃ t14 : Int, LdN h_1 (Addr.add ad (Int.toNat t12 * 1)) [Value.int .u32 t14] ∧
 Br ((t14 : Int) == 0)
  (∀ t18 : Int, t18 = IntKind.i64.wrap (n - 1) →
 ∃ m_1, m_1 < m ∧ J m_1 t18 h_1)
  (((0 : Nat) : Int) ≤ n ∧ n ≤ ((ac : Nat) : Int) ∧
 ∃ xs : List Value, RdS h_1 aA ((Int.toNat n) * 1) xs ∧ (∀ x ∈ xs, one x = true) ∧
 (0 + (Int.toNat n) ≤ 0 → Br (decide ((Int.toNat n) * 1 = 0)) (R (Value.slice none (0 + (Int.toNat n)) 0) h_1)
 (∃ (ad_1 : Addr) (b : Blk), none = some ad_1 ∧ ad_1.spot = none ∧ h_1 ad_1.block = some b ∧ b.fz = (0, 0) ∧ ad_1.off + 0 * 1 + (Int.toNat n) * 1 ≤ b.cells.length ∧
 ∀ h_3 : Heap, h_3 = Heap.put h_1 ad_1.block { b with cells := setSeg b.cells (ad_1.off + 0 * 1) xs } →
 R (Value.slice none (0 + (Int.toNat n)) 0) h_3)) ∧
 (0 < 0 + (Int.toNat n) → ∃ olds : List Value, RdS h_1 none (0 * 1) olds ∧ (0 + (Int.toNat n)) * 4 ≤ 140737488355328 ∧
 ∀ (g cap : Nat) (h_4 : Heap), h_1 g = none → 0 + (Int.toNat n) ≤ cap → h_4 = Heap.put h_1 g ⟨olds ++ xs ++ repV [Value.int .u32 0] (cap - (0 + (Int.toNat n))), 76, (0, 0)⟩ →
 R (Value.slice (some ⟨g, 0, none⟩) (0 + (Int.toNat n)) cap) h_4)))
  (((0 : Nat) : Int) ≤ n ∧ n ≤ ((ac : Nat) : Int) ∧
 ∃ xs_1 : List Value, RdS h_1 aA ((Int.toNat n) * 1) xs_1 ∧ (∀ x ∈ xs_1, one x = true) ∧
 (0 + (Int.toNat n) ≤ 0 → Br (decide ((Int.toNat n) * 1 = 0)) (R (Value.slice none (0 + (Int.toNat n)) 0) h_1)
 (∃ (ad_2 : Addr) (b_1 : Blk), none = some ad_2 ∧ ad_2.spot = none ∧ h_1 ad_2.block = some b_1 ∧ b_1.fz = (0, 0) ∧ ad_2.off + 0 * 1 + (Int.toNat n) * 1 ≤ b_1.cells.length ∧
 ∀ h_6 : Heap, h_6 = Heap.put h_1 ad_2.block { b_1 with cells := setSeg b_1.cells (ad_2.off + 0 * 1) xs_1 } →
 R (Value.slice none (0 + (Int.toNat n)) 0) h_6)) ∧
 (0 < 0 + (Int.toNat n) → ∃ olds_1 : List Value, RdS h_1 none (0 * 1) olds_1 ∧ (0 + (Int.toNat n)) * 4 ≤ 140737488355328 ∧
 ∀ (g_1 cap_1 : Nat) (h_7 : Heap), h_1 g_1 = none → 0 + (Int.toNat n) ≤ cap_1 → h_7 = Heap.put h_1 g_1 ⟨olds_1 ++ xs_1 ++ repV [Value.int .u32 0] (cap_1 - (0 + (Int.toNat n))), 76, (0, 0)⟩ →
 R (Value.slice (some ⟨g_1, 0, none⟩) (0 + (Int.toNat n)) cap_1) h_7))

set_option maxRecDepth 100000 in
theorem ref01_Norm_ok {aA : Option Addr} {an ac : Nat} {h : Heap} {R : Value → Heap → Prop} (hv : ref01_Norm_vc aA an ac h R) : CallsU Tryz.prog 52 [Value.slice aA an ac] h R :=
  fn_sound Tryz.func52 (by kernel_rfl) (by kernel_rfl) (by kernel_rfl) (fun _ => false) (.two .nil (.two .nil (.two (.one (.loop ⟨[(3, Sh.int .i64)], []⟩ .nil)) .nil))) [Value.slice aA an ac] h R (by kernel_rfl)
    (Eq.mp (show ref01_Norm_vc aA an ac h R = fnV Tryz.prog Tryz.f52 (fun _ => false) (.two .nil (.two .nil (.two (.one (.loop ⟨[(3, Sh.int .i64)], []⟩ .nil)) .nil))) [Value.slice aA an ac] h R by kernel_rfl) hv)

def ref01_DivMod_vc (aA : Option Addr) (an ac : Nat) (bA : Option Addr) (bn bc : Nat) (h : Heap) (R : Value → Heap → Prop) : Prop :=
 CallsU Tryz.prog 78 [Value.slice bA bn bc] h fun v h_1 =>
 ∃ t15 : Int, v = Value.int .i64 t15 ∧
 Br ((t15 : Int) == 0)
  (R (Value.tuple #[Value.slice none 0 0, Value.slice none 0 0, Value.bool false]) h_1)
  (CallsU Tryz.prog 52 [Value.slice aA an ac] h_1 fun v_1 h_2 =>
 ∃ t18A : Option Addr, ∃ t18n t18c : Nat, v_1 = Value.slice t18A t18n t18c ∧
 CallsU Tryz.prog 78 [Value.slice t18A t18n t18c] h_2 fun v_2 h_3 =>
 ∃ t20 : Int, v_2 = Value.int .i64 t20 ∧
 CallsU Tryz.prog 78 [Value.slice bA bn bc] h_3 fun v_3 h_4 =>
 ∃ t22 : Int, v_3 = Value.int .i64 t22 ∧
 ∀ t23 : Int, t23 = IntKind.i64.wrap (t20 - t22) →
 Br (decide (t23 < 0))
  (R (Value.tuple #[Value.slice none 0 0, Value.slice t18A t18n t18c, Value.bool true]) h_4)
  (∀ t28 : Int, t28 = IntKind.i64.wrap (Int.tdiv t23 32) →
 ∀ t29 : Int, t29 = IntKind.i64.wrap (t28 + 1) →
 0 ≤ t29 ∧ t29 ≤ t29 ∧ t29 * 4 ≤ 140737488355328 ∧ t29 ≤ 9223372036854775807 ∧
 ∀ (g : Nat) (h_5 : Heap), h_4 g = none → h_5 = Heap.put h_4 g ⟨repV [Value.int .u32 0] (Int.toNat t29), 76, (0, 0)⟩ →
 CallsU Tryz.prog 79 [Value.slice bA bn bc, Value.int .i64 t23] h_5 fun v_4 h_6 =>
 ∃ t33A : Option Addr, ∃ t33n t33c : Nat, v_4 = Value.slice t33A t33n t33c ∧
 ∃ J : Nat → Option Addr → Nat → Nat → Option Addr → Nat → Nat → Int → Heap → Prop, (∃ m, J m t18A t18n t18c t33A t33n t33c t23 h_6) ∧
 ∀ (m : Nat) (restA : Option Addr) (restn restc : Nat) (partA : Option Addr) (partn partc : Nat) (k : Int) (h_7 : Heap), J m restA restn restc partA partn partc k h_7 →
 Br (decide (k ≥ 0))
  (CallsU Tryz.prog 80 [Value.slice restA restn restc, Value.slice partA partn partc] h_7 fun v_5 h_8 =>
 ∃ t42_0A : Option Addr, ∃ t42_0n t42_0c : Nat, ∃ t42_1 : Bool, v_5 = Value.tuple #[Value.slice t42_0A t42_0n t42_0c, Value.bool t42_1] ∧
 Br (t42_1)
  (∀ t49 : Int, t49 = IntKind.i64.wrap (Int.tdiv k 32) →
 ∀ t52 : Int, t52 = IntKind.i64.wrap (Int.tdiv k 32) →
 ∃ ad : Addr, some ⟨g, 0, none⟩ = some ad ∧ 0 ≤ t52 ∧ t52 < (((Int.toNat t29) : Nat) : Int) ∧
 ∃ t54 : Int, LdN h_8 (Addr.add ad (Int.toNat t52 * 1)) [Value.int .u32 t54] ∧
 ∀ t56 : Int, t56 = (Int.tmod k 32) →
 Br (decide (IntKind.u64.wrap t56 < 0)) False
  (∀ t58 : Int, t58 = IntKind.u32.wrap (1 * 2 ^ (min (Int.toNat (IntKind.u64.wrap t56)) 32 : Nat)) →
 ∀ t59 : Int, t59 = IntKind.u32.wrap (t54 + t58) →
 ∃ ad_1 : Addr, some ⟨g, 0, none⟩ = some ad_1 ∧ 0 ≤ t49 ∧ t49 < (((Int.toNat t29) : Nat) : Int) ∧
 ∃ b : Blk, h_8 (Addr.block (Addr.add ad_1 (Int.toNat t49 * 1))) = some b ∧ b.fz = (0, 0) ∧ Addr.spot (Addr.add ad_1 (Int.toNat t49 * 1)) = none ∧ Addr.off (Addr.add ad_1 (Int.toNat t49 * 1)) + 1 ≤ b.cells.length ∧
 ∀ h_9 : Heap, h_9 = Heap.put h_8 (Addr.block (Addr.add ad_1 (Int.toNat t49 * 1))) { b with cells := setSeg b.cells (Addr.off (Addr.add ad_1 (Int.toNat t49 * 1))) [Value.int .u32 t59] } →
 CallsU Tryz.prog 81 [Value.slice partA partn partc] h_9 fun v_6 h_10 =>
 ∃ t62A : Option Addr, ∃ t62n t62c : Nat, v_6 = Value.slice t62A t62n t62c ∧
 ∀ t38 : Int, t38 = IntKind.i64.wrap (k - 1) →
 ∃ m_1, m_1 < m ∧ J m_1 t42_0A t42_0n t42_0c t62A t62n t62c t38 h_10))
  (CallsU Tryz.prog 81 [Value.slice partA partn partc] h_8 fun v_7 h_11 =>
 ∃ t62A_1 : Option Addr, ∃ t62n_1 t62c_1 : Nat, v_7 = Value.slice t62A_1 t62n_1 t62c_1 ∧
 ∀ t38_1 : Int, t38_1 = IntKind.i64.wrap (k - 1) →
 ∃ m_1, m_1 < m ∧ J m_1 restA restn restc t62A_1 t62n_1 t62c_1 t38_1 h_11))
  (CallsU Tryz.prog 52 [Value.slice (some ⟨g, 0, none⟩) (Int.toNat t29) (Int.toNat t29)] h_7 fun v_8 h_12 =>
 ∃ t64A : Option Addr, ∃ t64n t64c : Nat, v_8 = Value.slice t64A t64n t64c ∧
 R (Value.tuple #[Value.slice t64A t64n t64c, Value.slice restA restn restc, Value.bool true]) h_12)))

set_option maxRecDepth 100000 in
theorem ref01_DivMod_ok {aA : Option Addr} {an ac : Nat} {bA : Option Addr} {bn bc : Nat} {h : Heap} {R : Value → Heap → Prop} (hv : ref01_DivMod_vc aA an ac bA bn bc h R) : CallsU Tryz.prog 53 [Value.slice aA an ac, Value.slice bA bn bc] h R :=
  fn_sound Tryz.func53 (by kernel_rfl) (by kernel_rfl) (by kernel_rfl) (fun _ => false) (.two .nil (.two .nil (.two .nil (.two .nil (.two .nil (.two .nil (.two .nil (.two (.two .nil (.one (.loop ⟨[(7, Sh.slice), (10, Sh.slice), (11, Sh.int .i64)], []⟩ .nil))) .nil)))))))) [Value.slice aA an ac, Value.slice bA bn bc] h R (by kernel_rfl)
    (Eq.mp (show ref01_DivMod_vc aA an ac bA bn bc h R = fnV Tryz.prog Tryz.f53 (fun _ => false) (.two .nil (.two .nil (.two .nil (.two .nil (.two .nil (.two .nil (.two .nil (.two (.two .nil (.one (.loop ⟨[(7, Sh.slice), (10, Sh.slice), (11, Sh.int .i64)], []⟩ .nil))) .nil)))))))) [Value.slice aA an ac, Value.slice bA bn bc] h R by kernel_rfl) hv)

def ref03_Zero_vc (_a_0 : Bool) (a_1A : Option Addr) (a_1n a_1c : Nat) (a_2A : Option Addr) (a_2n a_2c : Nat) (h : Heap) (R : Value → Heap → Prop) : Prop :=
 CallsU Tryz.prog 52 [Value.slice a_1A a_1n a_1c] h fun v h_1 =>
 ∃ t6A : Option Addr, ∃ t6n t6c : Nat, v = Value.slice t6A t6n t6c ∧
 Br ((((t6n : Nat) : Int) : Int) == 0)
  (R (Value.bool true) h_1)
  (CallsU Tryz.prog 52 [Value.slice a_2A a_2n a_2c] h_1 fun v_1 h_2 =>
 ∃ t12A : Option Addr, ∃ t12n t12c : Nat, v_1 = Value.slice t12A t12n t12c ∧
 R (Value.bool ((((t12n : Nat) : Int) : Int) == 0)) h_2)

set_option maxRecDepth 100000 in
theorem ref03_Zero_ok {a_0 : Bool} {a_1A : Option Addr} {a_1n a_1c : Nat} {a_2A : Option Addr} {a_2n a_2c : Nat} {h : Heap} {R : Value → Heap → Prop} (hv : ref03_Zero_vc a_0 a_1A a_1n a_1c a_2A a_2n a_2c h R) : CallsU Tryz.prog 54 [Value.agg #[Value.bool a_0, Value.slice a_1A a_1n a_1c, Value.slice a_2A a_2n a_2c]] h R :=
  fn_sound Tryz.func54 (by kernel_rfl) (by kernel_rfl) (by kernel_rfl) (fun _ => false) .nil [Value.agg #[Value.bool a_0, Value.slice a_1A a_1n a_1c, Value.slice a_2A a_2n a_2c]] h R (by kernel_rfl)
    (Eq.mp (show ref03_Zero_vc a_0 a_1A a_1n a_1c a_2A a_2n a_2c h R = fnV Tryz.prog Tryz.f54 (fun _ => false) .nil [Value.agg #[Value.bool a_0, Value.slice a_1A a_1n a_1c, Value.slice a_2A a_2n a_2c]] h R by kernel_rfl) hv)

def ref03_reduce_vc (neg : Bool) (nA : Option Addr) (nn nc : Nat) (dA : Option Addr) (dn dc : Nat) (h : Heap) (R : Value → Heap → Prop) : Prop :=
 CallsU Tryz.prog 82 [Value.slice nA nn nc, Value.slice dA dn dc] h fun v h_1 =>
 ∃ t16A : Option Addr, ∃ t16n t16c : Nat, v = Value.slice t16A t16n t16c ∧
 CallsU Tryz.prog 53 [Value.slice nA nn nc, Value.slice t16A t16n t16c] h_1 fun v_1 h_2 =>
 ∃ t20_0A : Option Addr, ∃ t20_0n t20_0c : Nat, ∃ t20_1A : Option Addr, ∃ t20_1n t20_1c : Nat, ∃ t20_2 : Bool, v_1 = Value.tuple #[Value.slice t20_0A t20_0n t20_0c, Value.slice t20_1A t20_1n t20_1c, Value.bool t20_2] ∧
 CallsU Tryz.prog 53 [Value.slice dA dn dc, Value.slice t16A t16n t16c] h_2 fun v_2 h_3 =>
 ∃ t27_0A : Option Addr, ∃ t27_0n t27_0c : Nat, ∃ t27_1A : Option Addr, ∃ t27_1n t27_1c : Nat, ∃ t27_2 : Bool, v_2 = Value.tuple #[Value.slice t27_0A t27_0n t27_0c, Value.slice t27_1A t27_1n t27_1c, Value.bool t27_2] ∧
 CallsU Tryz.prog 83 [Value.agg #[Value.bool neg, Value.slice t20_0A t20_0n t20_0c]] h_3 fun v_3 h_4 =>
 ∃ t34_0 : Bool, ∃ t34_1A : Option Addr, ∃ t34_1n t34_1c : Nat, v_3 = Value.agg #[Value.bool t34_0, Value.slice t34_1A t34_1n t34_1c] ∧
 R (Value.agg #[Value.bool t34_0, Value.slice t34_1A t34_1n t34_1c, Value.slice t27_0A t27_0n t27_0c]) h_4

set_option maxRecDepth 100000 in
theorem ref03_reduce_ok {neg : Bool} {nA : Option Addr} {nn nc : Nat} {dA : Option Addr} {dn dc : Nat} {h : Heap} {R : Value → Heap → Prop} (hv : ref03_reduce_vc neg nA nn nc dA dn dc h R) : CallsU Tryz.prog 55 [Value.bool neg, Value.slice nA nn nc, Value.slice dA dn dc] h R :=
  fn_sound Tryz.func55 (by kernel_rfl) (by kernel_rfl) (by kernel_rfl) (fun _ => false) .nil [Value.bool neg, Value.slice nA nn nc, Value.slice dA dn dc] h R (by kernel_rfl)
    (Eq.mp (show ref03_reduce_vc neg nA nn nc dA dn dc h R = fnV Tryz.prog Tryz.f55 (fun _ => false) .nil [Value.bool neg, Value.slice nA nn nc, Value.slice dA dn dc] h R by kernel_rfl) hv)

def ref02_Add_vc (a_0 : Bool) (a_1A : Option Addr) (a_1n a_1c : Nat) (b_0 : Bool) (b_1A : Option Addr) (b_1n b_1c : Nat) (h : Heap) (R : Value → Heap → Prop) : Prop :=
 Br (a_0 == b_0)
  (CallsU Tryz.prog 85 [Value.slice a_1A a_1n a_1c, Value.slice b_1A b_1n b_1c] h fun v h_1 =>
 ∃ t20A : Option Addr, ∃ t20n t20c : Nat, v = Value.slice t20A t20n t20c ∧
 CallsU Tryz.prog 84 [Value.bool a_0, Value.slice t20A t20n t20c] h_1 fun v_1 h_2 =>
 ∃ t21_0 : Bool, ∃ t21_1A : Option Addr, ∃ t21_1n t21_1c : Nat, v_1 = Value.agg #[Value.bool t21_0, Value.slice t21_1A t21_1n t21_1c] ∧
 R (Value.agg #[Value.bool t21_0, Value.slice t21_1A t21_1n t21_1c]) h_2)
  (CallsU Tryz.prog 80 [Value.slice a_1A a_1n a_1c, Value.slice b_1A b_1n b_1c] h fun v_2 h_3 =>
 ∃ t27_0A : Option Addr, ∃ t27_0n t27_0c : Nat, ∃ t27_1 : Bool, v_2 = Value.tuple #[Value.slice t27_0A t27_0n t27_0c, Value.bool t27_1] ∧
 Br (t27_1)
  (CallsU Tryz.prog 84 [Value.bool a_0, Value.slice t27_0A t27_0n t27_0c] h_3 fun v_3 h_4 =>
 ∃ t34_0 : Bool, ∃ t34_1A : Option Addr, ∃ t34_1n t34_1c : Nat, v_3 = Value.agg #[Value.bool t34_0, Value.slice t34_1A t34_1n t34_1c] ∧
 R (Value.agg #[Value.bool t34_0, Value.slice t34_1A t34_1n t34_1c]) h_4)
  (CallsU Tryz.prog 80 [Value.slice b_1A b_1n b_1c, Value.slice a_1A a_1n a_1c] h_3 fun v_4 h_5 =>
 ∃ t40_0A : Option Addr, ∃ t40_0n t40_0c : Nat, ∃ t40_1 : Bool, v_4 = Value.tuple #[Value.slice t40_0A t40_0n t40_0c, Value.bool t40_1] ∧
 CallsU Tryz.prog 84 [Value.bool b_0, Value.slice t40_0A t40_0n t40_0c] h_5 fun v_5 h_6 =>
 ∃ t46_0 : Bool, ∃ t46_1A : Option Addr, ∃ t46_1n t46_1c : Nat, v_5 = Value.agg #[Value.bool t46_0, Value.slice t46_1A t46_1n t46_1c] ∧
 R (Value.agg #[Value.bool t46_0, Value.slice t46_1A t46_1n t46_1c]) h_6))

set_option maxRecDepth 100000 in
theorem ref02_Add_ok {a_0 : Bool} {a_1A : Option Addr} {a_1n a_1c : Nat} {b_0 : Bool} {b_1A : Option Addr} {b_1n b_1c : Nat} {h : Heap} {R : Value → Heap → Prop} (hv : ref02_Add_vc a_0 a_1A a_1n a_1c b_0 b_1A b_1n b_1c h R) : CallsU Tryz.prog 57 [Value.agg #[Value.bool a_0, Value.slice a_1A a_1n a_1c], Value.agg #[Value.bool b_0, Value.slice b_1A b_1n b_1c]] h R :=
  fn_sound Tryz.func57 (by kernel_rfl) (by kernel_rfl) (by kernel_rfl) (fun _ => false) (.two .nil (.two (.two .nil (.two (.two (.ord [0, 1, 2, 3, 4, 5, 6, 7, 8]) .nil) .nil)) .nil)) [Value.agg #[Value.bool a_0, Value.slice a_1A a_1n a_1c], Value.agg #[Value.bool b_0, Value.slice b_1A b_1n b_1c]] h R (by kernel_rfl)
    (Eq.mp (show ref02_Add_vc a_0 a_1A a_1n a_1c b_0 b_1A b_1n b_1c h R = fnV Tryz.prog Tryz.f57 (fun _ => false) (.two .nil (.two (.two .nil (.two (.two (.ord [0, 1, 2, 3, 4, 5, 6, 7, 8]) .nil) .nil)) .nil)) [Value.agg #[Value.bool a_0, Value.slice a_1A a_1n a_1c], Value.agg #[Value.bool b_0, Value.slice b_1A b_1n b_1c]] h R by kernel_rfl) hv)

def ref02_Mul_vc (a_0 : Bool) (a_1A : Option Addr) (a_1n a_1c : Nat) (b_0 : Bool) (b_1A : Option Addr) (b_1n b_1c : Nat) (h : Heap) (R : Value → Heap → Prop) : Prop :=
 CallsU Tryz.prog 27 [Value.slice a_1A a_1n a_1c, Value.slice b_1A b_1n b_1c] h fun v h_1 =>
 ∃ t14A : Option Addr, ∃ t14n t14c : Nat, v = Value.slice t14A t14n t14c ∧
 CallsU Tryz.prog 84 [Value.bool (!(a_0 == b_0)), Value.slice t14A t14n t14c] h_1 fun v_1 h_2 =>
 ∃ t15_0 : Bool, ∃ t15_1A : Option Addr, ∃ t15_1n t15_1c : Nat, v_1 = Value.agg #[Value.bool t15_0, Value.slice t15_1A t15_1n t15_1c] ∧
 R (Value.agg #[Value.bool t15_0, Value.slice t15_1A t15_1n t15_1c]) h_2

set_option maxRecDepth 100000 in
theorem ref02_Mul_ok {a_0 : Bool} {a_1A : Option Addr} {a_1n a_1c : Nat} {b_0 : Bool} {b_1A : Option Addr} {b_1n b_1c : Nat} {h : Heap} {R : Value → Heap → Prop} (hv : ref02_Mul_vc a_0 a_1A a_1n a_1c b_0 b_1A b_1n b_1c h R) : CallsU Tryz.prog 58 [Value.agg #[Value.bool a_0, Value.slice a_1A a_1n a_1c], Value.agg #[Value.bool b_0, Value.slice b_1A b_1n b_1c]] h R :=
  fn_sound Tryz.func58 (by kernel_rfl) (by kernel_rfl) (by kernel_rfl) (fun _ => false) (.two .nil (.two (.ord [0, 1, 2, 3, 4, 5, 6, 7, 8, 9, 10, 11]) .nil)) [Value.agg #[Value.bool a_0, Value.slice a_1A a_1n a_1c], Value.agg #[Value.bool b_0, Value.slice b_1A b_1n b_1c]] h R (by kernel_rfl)
    (Eq.mp (show ref02_Mul_vc a_0 a_1A a_1n a_1c b_0 b_1A b_1n b_1c h R = fnV Tryz.prog Tryz.f58 (fun _ => false) (.two .nil (.two (.ord [0, 1, 2, 3, 4, 5, 6, 7, 8, 9, 10, 11]) .nil)) [Value.agg #[Value.bool a_0, Value.slice a_1A a_1n a_1c], Value.agg #[Value.bool b_0, Value.slice b_1A b_1n b_1c]] h R by kernel_rfl) hv)

def ref01_Bits_vc (aA : Option Addr) (an ac : Nat) (h : Heap) (R : Value → Heap → Prop) : Prop :=
 CallsU Tryz.prog 52 [Value.slice aA an ac] h fun v h_1 =>
 ∃ t7A : Option Addr, ∃ t7n t7c : Nat, v = Value.slice t7A t7n t7c ∧
 Br ((((t7n : Nat) : Int) : Int) == 0)
  (R (Value.int .i64 0) h_1)
  (∀ t13 : Int, t13 = IntKind.i64.wrap (((t7n : Nat) : Int) - 1) →
 ∀ t14 : Int, t14 = IntKind.i64.wrap (32 * t13) →
 ∀ t18 : Int, t18 = IntKind.i64.wrap (((t7n : Nat) : Int) - 1) →
 ∃ ad : Addr, t7A = some ad ∧ 0 ≤ t18 ∧ t18 < ((t7n : Nat) : Int) ∧
 ∃ t20 : Int, LdN h_1 (Addr.add ad (Int.toNat t18 * 1)) [Value.int .u32 t20] ∧
 ∃ J : Nat → Int → Int → Heap → Prop, (∃ m, J m t14 t20 h_1) ∧
 ∀ (m : Nat) (n : Int) (t : Int) (h_2 : Heap), J m n t h_2 →
 Br (decide (t > 0))
  (∀ t26 : Int, t26 = IntKind.i64.wrap (n + 1) →
 ∀ t24 : Int, t24 = IntKind.u32.wrap (Int.tdiv t 2) →
 ∃ m_1, m_1 < m ∧ J m_1 t26 t24 h_2)
  (R (Value.int .i64 n) h_2))

set_option maxRecDepth 100000 in
theorem ref01_Bits_ok {aA : Option Addr} {an ac : Nat} {h : Heap} {R : Value → Heap → Prop} (hv : ref01_Bits_vc aA an ac h R) : CallsU Tryz.prog 78 [Value.slice aA an ac] h R :=
  fn_sound Tryz.func78 (by kernel_rfl) (by kernel_rfl) (by kernel_rfl) (fun _ => false) (.two .nil (.two .nil (.two .nil (.two .nil (.two (.two .nil (.one (.loop ⟨[(4, Sh.int .i64), (5, Sh.int .u32)], []⟩ .nil))) .nil))))) [Value.slice aA an ac] h R (by kernel_rfl)
    (Eq.mp (show ref01_Bits_vc aA an ac h R = fnV Tryz.prog Tryz.f78 (fun _ => false) (.two .nil (.two .nil (.two .nil (.two .nil (.two (.two .nil (.one (.loop ⟨[(4, Sh.int .i64), (5, Sh.int .u32)], []⟩ .nil))) .nil))))) [Value.slice aA an ac] h R by kernel_rfl) hv)

def ref01_Shift_vc (aA : Option Addr) (an ac : Nat) (n : Int) (h : Heap) (R : Value → Heap → Prop) : Prop :=
 ∀ t10 : Int, t10 = IntKind.i64.wrap (Int.tdiv n 32) →
 0 ≤ t10 ∧ t10 ≤ t10 ∧ t10 * 4 ≤ 140737488355328 ∧ t10 ≤ 9223372036854775807 ∧
 ∀ (g : Nat) (h_1 : Heap), h g = none → h_1 = Heap.put h g ⟨repV [Value.int .u32 0] (Int.toNat t10), 76, (0, 0)⟩ →
 ∃ J : Nat → Option Addr → Nat → Nat → Int → Int → Heap → Prop, (∃ m, J m (some ⟨g, 0, none⟩) (Int.toNat t10) (Int.toNat t10) 0 0 h_1) ∧
 ∀ (m : Nat) (outA : Option Addr) (outn outc : Nat) (carry : Int) (i : Int) (h_2 : Heap), J m outA outn outc carry i h_2 →
 Br (decide (i ≤ ((an : Nat) : Int)))
  (CallsU Tryz.prog 51 [Value.slice aA an ac, Value.int .i64 i] h_2 fun v h_3 =>
 ∃ t20 : Int, v = Value.int .u64 t20 ∧
 ∀ t22 : Int, t22 = (Int.tmod n 32) →
 Br (decide (IntKind.u64.wrap t22 < 0)) False
  (∀ t24 : Int, t24 = IntKind.u64.wrap (t20 * 2 ^ (min (Int.toNat (IntKind.u64.wrap t22)) 64 : Nat)) →
 ∀ t26 : Int, t26 = IntKind.u64.wrap (t24 + carry) →
 ∀ t29 : Int, t29 = (Int.tmod t26 4294967296) →
 ∀ (g_1 : Nat) (h_4 : Heap), h_3 g_1 = none → h_4 = Heap.put h_3 g_1 ⟨[Value.int .u32 (IntKind.u32.wrap t29)], 76, (0, 0)⟩ →
 ∃ xs : List Value, RdS h_4 (some ⟨g_1, 0, none⟩) (1 * 1) xs ∧ (∀ x ∈ xs, one x = true) ∧
 (outn + 1 ≤ outc → ∃ (ad : Addr) (b : Blk), outA = some ad ∧ ad.spot = none ∧ h_4 ad.block = some b ∧ b.fz = (0, 0) ∧ ad.off + outn * 1 + 1 * 1 ≤ b.cells.length ∧
 ∀ h_6 : Heap, h_6 = Heap.put h_4 ad.block { b with cells := setSeg b.cells (ad.off + outn * 1) xs } →
 ∀ t34 : Int, t34 = IntKind.u64.wrap (Int.tdiv t26 4294967296) →
 ∀ t17 : Int, t17 = IntKind.i64.wrap (i + 1) →
 ∃ m_1, m_1 < m ∧ J m_1 outA (outn + 1) outc t34 t17 h_6) ∧
 (outc < outn + 1 → ∃ olds : List Value, RdS h_4 outA (outn * 1) olds ∧ (outn + 1) * 4 ≤ 140737488355328 ∧
 ∀ (g_2 cap : Nat) (h_7 : Heap), h_4 g_2 = none → outn + 1 ≤ cap → h_7 = Heap.put h_4 g_2 ⟨olds ++ xs ++ repV [Value.int .u32 0] (cap - (outn + 1)), 76, (0, 0)⟩ →
 ∀ t34_1 : Int, t34_1 = IntKind.u64.wrap (Int.tdiv t26 4294967296) →
 ∀ t17_1 : Int, t17_1 = IntKind.i64.wrap (i + 1) →
 ∃ m_1, m_1 < m ∧ J m_1 (some ⟨g_2, 0, none⟩) (outn + 1) cap t34_1 t17_1 h_7)))
  (CallsU Tryz.prog 52 [Value.slice outA outn outc] h_2 fun v_2 h_8 =>
 ∃ t36A : Option Addr, ∃ t36n t36c : Nat, v_2 = Value.slice t36A t36n t36c ∧
 R (Value.slice t36A t36n t36c) h_8)

set_option maxRecDepth 100000 in
theorem ref01_Shift_ok {aA : Option Addr} {an ac : Nat} {n : Int} {h : Heap} {R : Value → Heap → Prop} (hv : ref01_Shift_vc aA an ac n h R) : CallsU Tryz.prog 79 [Value.slice aA an ac, Value.int .i64 n] h R :=
  fn_sound Tryz.func79 (by kernel_rfl) (by kernel_rfl) (by kernel_rfl) (fun _ => false) (.two .nil (.two .nil (.two .nil (.two (.two .nil (.one (.loop ⟨[(5, Sh.slice), (6, Sh.int .u64), (7, Sh.int .i64)], []⟩ .nil))) .nil)))) [Value.slice aA an ac, Value.int .i64 n] h R (by kernel_rfl)
    (Eq.mp (show ref01_Shift_vc aA an ac n h R = fnV Tryz.prog Tryz.f79 (fun _ => false) (.two .nil (.two .nil (.two .nil (.two (.two .nil (.one (.loop ⟨[(5, Sh.slice), (6, Sh.int .u64), (7, Sh.int .i64)], []⟩ .nil))) .nil)))) [Value.slice aA an ac, Value.int .i64 n] h R by kernel_rfl) hv)

def ref01_Sub_vc (aA : Option Addr) (an ac : Nat) (bA : Option Addr) (bn bc : Nat) (h : Heap) (R : Value → Heap → Prop) : Prop :=
 CallsU Tryz.prog 99 [Value.slice aA an ac, Value.slice bA bn bc] h fun v h_1 =>
 ∃ t12 : Int, v = Value.int .i64 t12 ∧
 Br (decide (t12 < 0))
  (R (Value.tuple #[Value.slice none 0 0, Value.bool false]) h_1)
  (∃ J : Nat → Option Addr → Nat → Nat → Int → Int → Heap → Prop, (∃ m, J m none 0 0 0 0 h_1) ∧
 ∀ (m : Nat) (outA : Option Addr) (outn outc : Nat) (borrow : Int) (i : Int) (h_2 : Heap), J m outA outn outc borrow i h_2 →
 Br (decide (i < (if decide (((bn : Nat) : Int) > ((an : Nat) : Int)) then ((bn : Nat) : Int) else ((an : Nat) : Int))))
  (CallsU Tryz.prog 51 [Value.slice aA an ac, Value.int .i64 i] h_2 fun v_1 h_3 =>
 ∃ t25 : Int, v_1 = Value.int .u64 t25 ∧
 ∀ t26 : Int, t26 = IntKind.u64.wrap (4294967296 + t25) →
 CallsU Tryz.prog 51 [Value.slice bA bn bc, Value.int .i64 i] h_3 fun v_2 h_4 =>
 ∃ t29 : Int, v_2 = Value.int .u64 t29 ∧
 ∀ t30 : Int, t30 = IntKind.u64.wrap (t26 - t29) →
 ∀ t32 : Int, t32 = IntKind.u64.wrap (t30 - borrow) →
 ∀ t35 : Int, t35 = (Int.tmod t32 4294967296) →
 ∀ (g : Nat) (h_5 : Heap), h_4 g = none → h_5 = Heap.put h_4 g ⟨[Value.int .u32 (IntKind.u32.wrap t35)], 76, (0, 0)⟩ →
 ∃ xs : List Value, RdS h_5 (some ⟨g, 0, none⟩) (1 * 1) xs ∧ (∀ x ∈ xs, one x = true) ∧
 (outn + 1 ≤ outc → ∃ (ad : Addr) (b : Blk), outA = some ad ∧ ad.spot = none ∧ h_5 ad.block = some b ∧ b.fz = (0, 0) ∧ ad.off + outn * 1 + 1 * 1 ≤ b.cells.length ∧
 ∀ h_7 : Heap, h_7 = Heap.put h_5 ad.block { b with cells := setSeg b.cells (ad.off + outn * 1) xs } →
 ∀ t40 : Int, t40 = IntKind.u64.wrap (Int.tdiv t32 4294967296) →
 ∀ t41 : Int, t41 = IntKind.u64.wrap (1 - t40) →
 ∀ t22 : Int, t22 = IntKind.i64.wrap (i + 1) →
 ∃ m_1, m_1 < m ∧ J m_1 outA (outn + 1) outc t41 t22 h_7) ∧
 (outc < outn + 1 → ∃ olds : List Value, RdS h_5 outA (outn * 1) olds ∧ (outn + 1) * 4 ≤ 140737488355328 ∧
 ∀ (g_1 cap : Nat) (h_8 : Heap), h_5 g_1 = none → outn + 1 ≤ cap → h_8 = Heap.put h_5 g_1 ⟨olds ++ xs ++ repV [Value.int .u32 0] (cap - (outn + 1)), 76, (0, 0)⟩ →
 ∀ t40_1 : Int, t40_1 = IntKind.u64.wrap (Int.tdiv t32 4294967296) →
 ∀ t41_1 : Int, t41_1 = IntKind.u64.wrap (1 - t40_1) →
 ∀ t22_1 : Int, t22_1 = IntKind.i64.wrap (i + 1) →
 ∃ m_1, m_1 < m ∧ J m_1 (some ⟨g_1, 0, none⟩) (outn + 1) cap t41_1 t22_1 h_8))
  (CallsU Tryz.prog 52 [Value.slice outA outn outc] h_2 fun v_4 h_9 =>
 ∃ t43A : Option Addr, ∃ t43n t43c : Nat, v_4 = Value.slice t43A t43n t43c ∧
 R (Value.tuple #[Value.slice t43A t43n t43c, Value.bool true]) h_9))

set_option maxRecDepth 100000 in
theorem ref01_Sub_ok {aA : Option Addr} {an ac : Nat} {bA : Option Addr} {bn bc : Nat} {h : Heap} {R : Value → Heap → Prop} (hv : ref01_Sub_vc aA an ac bA bn bc h R) : CallsU Tryz.prog 80 [Value.slice aA an ac, Value.slice bA bn bc] h R :=
  fn_sound Tryz.func80 (by kernel_rfl) (by kernel_rfl) (by kernel_rfl) (fun _ => false) (.two .nil (.two .nil (.two .nil (.two .nil (.two (.two .nil (.one (.loop ⟨[(6, Sh.slice), (7, Sh.int .u64), (8, Sh.int .i64)], []⟩ .nil))) .nil))))) [Value.slice aA an ac, Value.slice bA bn bc] h R (by kernel_rfl)
    (Eq.mp (show ref01_Sub_vc aA an ac bA bn bc h R = fnV Tryz.prog Tryz.f80 (fun _ => false) (.two .nil (.two .nil (.two .nil (.two .nil (.two (.two .nil (.one (.loop ⟨[(6, Sh.slice), (7, Sh.int .u64), (8, Sh.int .i64)], []⟩ .nil))) .nil))))) [Value.slice aA an ac, Value.slice bA bn bc] h R by kernel_rfl) hv)

def ref01_Half_vc (aA : Option Addr) (an ac : Nat) (h : Heap) (R : Value → Heap → Prop) : Prop :=
 ∃ J : Nat → Option Addr → Nat → Nat → Int → Heap → Prop, (∃ m, J m none 0 0 0 h) ∧
 ∀ (m : Nat) (outA : Option Addr) (outn outc : Nat) (i : Int) (h_1 : Heap), J m outA outn outc i h_1 →
 Br (decide (i < ((an : Nat) : Int)))
  (CallsU Tryz.prog 51 [Value.slice aA an ac, Value.int .i64 i] h_1 fun v h_2 =>
 ∃ t14 : Int, v = Value.int .u64 t14 ∧
 ∀ t15 : Int, t15 = IntKind.u64.wrap (Int.tdiv t14 2) →
 ∀ t18 : Int, t18 = IntKind.i64.wrap (i + 1) →
 CallsU Tryz.prog 51 [Value.slice aA an ac, Value.int .i64 t18] h_2 fun v_1 h_3 =>
 ∃ t19 : Int, v_1 = Value.int .u64 t19 ∧
 ∀ t20 : Int, t20 = (Int.tmod t19 2) →
 ∀ t21 : Int, t21 = IntKind.u64.wrap (t20 * 2147483648) →
 ∀ t22 : Int, t22 = IntKind.u64.wrap (t15 + t21) →
 ∀ (g : Nat) (h_4 : Heap), h_3 g = none → h_4 = Heap.put h_3 g ⟨[Value.int .u32 (IntKind.u32.wrap t22)], 76, (0, 0)⟩ →
 ∃ xs : List Value, RdS h_4 (some ⟨g, 0, none⟩) (1 * 1) xs ∧ (∀ x ∈ xs, one x = true) ∧
 (outn + 1 ≤ outc → ∃ (ad : Addr) (b : Blk), outA = some ad ∧ ad.spot = none ∧ h_4 ad.block = some b ∧ b.fz = (0, 0) ∧ ad.off + outn * 1 + 1 * 1 ≤ b.cells.length ∧
 ∀ h_6 : Heap, h_6 = Heap.put h_4 ad.block { b with cells := setSeg b.cells (ad.off + outn * 1) xs } →
 ∀ t10 : Int, t10 = IntKind.i64.wrap (i + 1) →
 ∃ m_1, m_1 < m ∧ J m_1 outA (outn + 1) outc t10 h_6) ∧
 (outc < outn + 1 → ∃ olds : List Value, RdS h_4 outA (outn * 1) olds ∧ (outn + 1) * 4 ≤ 140737488355328 ∧
 ∀ (g_1 cap : Nat) (h_7 : Heap), h_4 g_1 = none → outn + 1 ≤ cap → h_7 = Heap.put h_4 g_1 ⟨olds ++ xs ++ repV [Value.int .u32 0] (cap - (outn + 1)), 76, (0, 0)⟩ →
 ∀ t10_1 : Int, t10_1 = IntKind.i64.wrap (i + 1) →
 ∃ m_1, m_1 < m ∧ J m_1 (some ⟨g_1, 0, none⟩) (outn + 1) cap t10_1 h_7))
  (CallsU Tryz.prog 52 [Value.slice outA outn outc] h_1 fun v_3 h_8 =>
 ∃ t27A : Option Addr, ∃ t27n t27c : Nat, v_3 = Value.slice t27A t27n t27c ∧
 R (Value.slice t27A t27n t27c) h_8)

set_option maxRecDepth 100000 in
theorem ref01_Half_ok {aA : Option Addr} {an ac : Nat} {h : Heap} {R : Value → Heap → Prop} (hv : ref01_Half_vc aA an ac h R) : CallsU Tryz.prog 81 [Value.slice aA an ac] h R :=
  fn_sound Tryz.func81 (by kernel_rfl) (by kernel_rfl) (by kernel_rfl) (fun _ => false) (.two .nil (.two .nil (.two (.two .nil (.one (.loop ⟨[(3, Sh.slice), (4, Sh.int .i64)], []⟩ .nil))) .nil))) [Value.slice aA an ac] h R (by kernel_rfl)
    (Eq.mp (show ref01_Half_vc aA an ac h R = fnV Tryz.prog Tryz.f81 (fun _ => false) (.two .nil (.two .nil (.two (.two .nil (.one (.loop ⟨[(3, Sh.slice), (4, Sh.int .i64)], []⟩ .nil))) .nil))) [Value.slice aA an ac] h R by kernel_rfl) hv)

def ref01_Gcd_vc (aA : Option Addr) (an ac : Nat) (bA : Option Addr) (bn bc : Nat) (h : Heap) (R : Value → Heap → Prop) : Prop :=
 CallsU Tryz.prog 52 [Value.slice aA an ac] h fun v h_1 =>
 ∃ t11A : Option Addr, ∃ t11n t11c : Nat, v = Value.slice t11A t11n t11c ∧
 CallsU Tryz.prog 52 [Value.slice bA bn bc] h_1 fun v_1 h_2 =>
 ∃ t13A : Option Addr, ∃ t13n t13c : Nat, v_1 = Value.slice t13A t13n t13c ∧
 ∃ J : Nat → Option Addr → Nat → Nat → Option Addr → Nat → Nat → Heap → Prop, (∃ m, J m t11A t11n t11c t13A t13n t13c h_2) ∧
 ∀ (m : Nat) (xA : Option Addr) (xn xc : Nat) (yA : Option Addr) (yn yc : Nat) (h_3 : Heap), J m xA xn xc yA yn yc h_3 →
 Br (decide (((yn : Nat) : Int) > 0))
  (CallsU Tryz.prog 53 [Value.slice xA xn xc, Value.slice yA yn yc] h_3 fun v_2 h_4 =>
 ∃ t20_0A : Option Addr, ∃ t20_0n t20_0c : Nat, ∃ t20_1A : Option Addr, ∃ t20_1n t20_1c : Nat, ∃ t20_2 : Bool, v_2 = Value.tuple #[Value.slice t20_0A t20_0n t20_0c, Value.slice t20_1A t20_1n t20_1c, Value.bool t20_2] ∧
 ∃ m_1, m_1 < m ∧ J m_1 yA yn yc t20_1A t20_1n t20_1c h_4)
  (R (Value.slice xA xn xc) h_3)

set_option maxRecDepth 100000 in
theorem ref01_Gcd_ok {aA : Option Addr} {an ac : Nat} {bA : Option Addr} {bn bc : Nat} {h : Heap} {R : Value → Heap → Prop} (hv : ref01_Gcd_vc aA an ac bA bn bc h R) : CallsU Tryz.prog 82 [Value.slice aA an ac, Value.slice bA bn bc] h R :=
  fn_sound Tryz.func82 (by kernel_rfl) (by kernel_rfl) (by kernel_rfl) (fun _ => false) (.two .nil (.two .nil (.two (.one (.loop ⟨[(5, Sh.slice), (6, Sh.slice)], []⟩ .nil)) .nil))) [Value.slice aA an ac, Value.slice bA bn bc] h R (by kernel_rfl)
    (Eq.mp (show ref01_Gcd_vc aA an ac bA bn bc h R = fnV Tryz.prog Tryz.f82 (fun _ => false) (.two .nil (.two .nil (.two (.one (.loop ⟨[(5, Sh.slice), (6, Sh.slice)], []⟩ .nil)) .nil))) [Value.slice aA an ac, Value.slice bA bn bc] h R by kernel_rfl) hv)

def ref02_Norm_vc (a_0 : Bool) (a_1A : Option Addr) (a_1n a_1c : Nat) (h : Heap) (R : Value → Heap → Prop) : Prop :=
 CallsU Tryz.prog 84 [Value.bool a_0, Value.slice a_1A a_1n a_1c] h fun v h_1 =>
 ∃ t7_0 : Bool, ∃ t7_1A : Option Addr, ∃ t7_1n t7_1c : Nat, v = Value.agg #[Value.bool t7_0, Value.slice t7_1A t7_1n t7_1c] ∧
 R (Value.agg #[Value.bool t7_0, Value.slice t7_1A t7_1n t7_1c]) h_1

set_option maxRecDepth 100000 in
theorem ref02_Norm_ok {a_0 : Bool} {a_1A : Option Addr} {a_1n a_1c : Nat} {h : Heap} {R : Value → Heap → Prop} (hv : ref02_Norm_vc a_0 a_1A a_1n a_1c h R) : CallsU Tryz.prog 83 [Value.agg #[Value.bool a_0, Value.slice a_1A a_1n a_1c]] h R :=
  fn_sound Tryz.func83 (by kernel_rfl) (by kernel_rfl) (by kernel_rfl) (fun _ => false) .nil [Value.agg #[Value.bool a_0, Value.slice a_1A a_1n a_1c]] h R (by kernel_rfl)
    (Eq.mp (show ref02_Norm_vc a_0 a_1A a_1n a_1c h R = fnV Tryz.prog Tryz.f83 (fun _ => false) .nil [Value.agg #[Value.bool a_0, Value.slice a_1A a_1n a_1c]] h R by kernel_rfl) hv)

def ref02_make1_vc (neg : Bool) (mA : Option Addr) (mn mc : Nat) (h : Heap) (R : Value → Heap → Prop) : Prop :=
 CallsU Tryz.prog 52 [Value.slice mA mn mc] h fun v h_1 =>
 ∃ t6A : Option Addr, ∃ t6n t6c : Nat, v = Value.slice t6A t6n t6c ∧
 Br (neg)
  (R (Value.agg #[Value.bool (decide (((t6n : Nat) : Int) > 0)), Value.slice t6A t6n t6c]) h_1)
  (R (Value.agg #[Value.bool false, Value.slice t6A t6n t6c]) h_1)

set_option maxRecDepth 100000 in
theorem ref02_make1_ok {neg : Bool} {mA : Option Addr} {mn mc : Nat} {h : Heap} {R : Value → Heap → Prop} (hv : ref02_make1_vc neg mA mn mc h R) : CallsU Tryz.prog 84 [Value.bool neg, Value.slice mA mn mc] h R :=
  fn_sound Tryz.func84 (by kernel_rfl) (by kernel_rfl) (by kernel_rfl) (fun _ => false) .nil [Value.bool neg, Value.slice mA mn mc] h R (by kernel_rfl)
    (Eq.mp (show ref02_make1_vc neg mA mn mc h R = fnV Tryz.prog Tryz.f84 (fun _ => false) .nil [Value.bool neg, Value.slice mA mn mc] h R by kernel_rfl) hv)

def ref01_Add_vc (aA : Option Addr) (an ac : Nat) (bA : Option Addr) (bn bc : Nat) (h : Heap) (R : Value → Heap → Prop) : Prop :=
 ∃ J : Nat → Option Addr → Nat → Nat → Int → Int → Heap → Prop, (∃ m, J m none 0 0 0 0 h) ∧
 ∀ (m : Nat) (outA : Option Addr) (outn outc : Nat) (carry : Int) (i : Int) (h_1 : Heap), J m outA outn outc carry i h_1 →
 ∃ C : Heap → Prop, (∀  (h_2 : Heap), C h_2 →
 CallsU Tryz.prog 51 [Value.slice aA an ac, Value.int .i64 i] h_2 fun v h_3 =>
 ∃ t24 : Int, v = Value.int .u64 t24 ∧
 CallsU Tryz.prog 51 [Value.slice bA bn bc, Value.int .i64 i] h_3 fun v_1 h_4 =>
 ∃ t27 : Int, v_1 = Value.int .u64 t27 ∧
 ∀ t28 : Int, t28 = IntKind.u64.wrap (t24 + t27) →
 ∀ t30 : Int, t30 = IntKind.u64.wrap (t28 + carry) →
 ∀ t33 : Int, t33 = (Int.tmod t30 4294967296) →
 ∀ (g : Nat) (h_5 : Heap), h_4 g = none → h_5 = Heap.put h_4 g ⟨[Value.int .u32 (IntKind.u32.wrap t33)], 76, (0, 0)⟩ →
 ∃ xs : List Value, RdS h_5 (some ⟨g, 0, none⟩) (1 * 1) xs ∧ (∀ x ∈ xs, one x = true) ∧
 (outn + 1 ≤ outc → ∃ (ad : Addr) (b : Blk), outA = some ad ∧ ad.spot = none ∧ h_5 ad.block = some b ∧ b.fz = (0, 0) ∧ ad.off + outn * 1 + 1 * 1 ≤ b.cells.length ∧
 ∀ h_7 : Heap, h_7 = Heap.put h_5 ad.block { b with cells := setSeg b.cells (ad.off + outn * 1) xs } →
 ∀ t38 : Int, t38 = IntKind.u64.wrap (Int.tdiv t30 4294967296) →
 ∀ t21 : Int, t21 = IntKind.i64.wrap (i + 1) →
 ∃ m_1, m_1 < m ∧ J m_1 outA (outn + 1) outc t38 t21 h_7) ∧
 (outc < outn + 1 → ∃ olds : List Value, RdS h_5 outA (outn * 1) olds ∧ (outn + 1) * 4 ≤ 140737488355328 ∧
 ∀ (g_1 cap : Nat) (h_8 : Heap), h_5 g_1 = none → outn + 1 ≤ cap → h_8 = Heap.put h_5 g_1 ⟨olds ++ xs ++ repV [Value.int .u32 0] (cap - (outn + 1)), 76, (0, 0)⟩ →
 ∀ t38_1 : Int, t38_1 = IntKind.u64.wrap (Int.tdiv t30 4294967296) →
 ∀ t21_1 : Int, t21_1 = IntKind.i64.wrap (i + 1) →
 ∃ m_1, m_1 < m ∧ J m_1 (some ⟨g_1, 0, none⟩) (outn + 1) cap t38_1 t21_1 h_8)) ∧
 Br (decide (i < (if decide (((bn : Nat) : Int) > ((an : Nat) : Int)) then ((bn : Nat) : Int) else ((an : Nat) : Int))))
  (C h_1)
  (Br (decide (carry > 0))
  (C h_1)
  (CallsU Tryz.prog 52 [Value.slice outA outn outc] h_1 fun v_3 h_9 =>
 ∃ t40A : Option Addr, ∃ t40n t40c : Nat, v_3 = Value.slice t40A t40n t40c ∧
 R (Value.slice t40A t40n t40c) h_9))

set_option maxRecDepth 100000 in
theorem ref01_Add_ok {aA : Option Addr} {an ac : Nat} {bA : Option Addr} {bn bc : Nat} {h : Heap} {R : Value → Heap → Prop} (hv : ref01_Add_vc aA an ac bA bn bc h R) : CallsU Tryz.prog 85 [Value.slice aA an ac, Value.slice bA bn bc] h R :=
  fn_sound Tryz.func85 (by kernel_rfl) (by kernel_rfl) (by kernel_rfl) (fun _ => false) (.two .nil (.two .nil (.two .nil (.two (.two .nil (.one (.loop ⟨[(5, Sh.slice), (6, Sh.int .u64), (7, Sh.int .i64)], []⟩ (.cut ⟨[], []⟩ .nil .nil)))) .nil)))) [Value.slice aA an ac, Value.slice bA bn bc] h R (by kernel_rfl)
    (Eq.mp (show ref01_Add_vc aA an ac bA bn bc h R = fnV Tryz.prog Tryz.f85 (fun _ => false) (.two .nil (.two .nil (.two .nil (.two (.two .nil (.one (.loop ⟨[(5, Sh.slice), (6, Sh.int .u64), (7, Sh.int .i64)], []⟩ (.cut ⟨[], []⟩ .nil .nil)))) .nil)))) [Value.slice aA an ac, Value.slice bA bn bc] h R by kernel_rfl) hv)

def ref01_Cmp_vc (aA : Option Addr) (an ac : Nat) (bA : Option Addr) (bn bc : Nat) (h : Heap) (R : Value → Heap → Prop) : Prop :=
 ∀ t11 : Int, t11 = IntKind.i64.wrap ((if decide (((bn : Nat) : Int) > ((an : Nat) : Int)) then ((bn : Nat) : Int) else ((an : Nat) : Int)) - 1) →
 ∃ J : Nat → Int → Heap → Prop, (∃ m, J m t11 h) ∧
 ∀ (m : Nat) (i : Int) (h_1 : Heap), J m i h_1 →
 Br (decide (i ≥ 0))
  (CallsU Tryz.prog 51 [Value.slice aA an ac, Value.int .i64 i] h_1 fun v h_2 =>
 ∃ t18 : Int, v = Value.int .u64 t18 ∧
 CallsU Tryz.prog 51 [Value.slice bA bn bc, Value.int .i64 i] h_2 fun v_1 h_3 =>
 ∃ t21 : Int, v_1 = Value.int .u64 t21 ∧
 Br (decide (t18 < t21))
  (R (Value.int .i64 (-1)) h_3)
  (CallsU Tryz.prog 51 [Value.slice aA an ac, Value.int .i64 i] h_3 fun v_2 h_4 =>
 ∃ t25 : Int, v_2 = Value.int .u64 t25 ∧
 CallsU Tryz.prog 51 [Value.slice bA bn bc, Value.int .i64 i] h_4 fun v_3 h_5 =>
 ∃ t28 : Int, v_3 = Value.int .u64 t28 ∧
 Br (decide (t25 > t28))
  (R (Value.int .i64 1) h_5)
  (∀ t15 : Int, t15 = IntKind.i64.wrap (i - 1) →
 ∃ m_1, m_1 < m ∧ J m_1 t15 h_5)))
  (R (Value.int .i64 0) h_1)

set_option maxRecDepth 100000 in
theorem ref01_Cmp_ok {aA : Option Addr} {an ac : Nat} {bA : Option Addr} {bn bc : Nat} {h : Heap} {R : Value → Heap → Prop} (hv : ref01_Cmp_vc aA an ac bA bn bc h R) : CallsU Tryz.prog 99 [Value.slice aA an ac, Value.slice bA bn bc] h R :=
  fn_sound Tryz.func99 (by kernel_rfl) (by kernel_rfl) (by kernel_rfl) (fun _ => false) (.two .nil (.two (.two .nil (.one (.loop ⟨[(5, Sh.int .i64)], []⟩ .nil))) .nil)) [Value.slice aA an ac, Value.slice bA bn bc] h R (by kernel_rfl)
    (Eq.mp (show ref01_Cmp_vc aA an ac bA bn bc h R = fnV Tryz.prog Tryz.f99 (fun _ => false) (.two .nil (.two (.two .nil (.one (.loop ⟨[(5, Sh.int .i64)], []⟩ .nil))) .nil)) [Value.slice aA an ac, Value.slice bA bn bc] h R by kernel_rfl) hv)

end Go.Proofs.YtfhipkdcekffaaaGreatDoor
