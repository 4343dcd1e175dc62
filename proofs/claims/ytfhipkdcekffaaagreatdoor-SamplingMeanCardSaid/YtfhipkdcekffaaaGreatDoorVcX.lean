/- Made by vcgen.py: verification conditions of functions, each held against the calculator by the kernel. -/
import Derived.Test.YtfhipkdcekffaaaGreatDoorVcg4
import Derived.Test.YtfhipkdcekffaaaGreatDoorChecked
namespace Go.Proofs.YtfhipkdcekffaaaGreatDoor
open Go Go.Vcg

def natural_Text_vc (aA : Option Addr) (an ac : Nat) (h : Heap) (R : Value → Heap → Prop) : Prop :=
 CallsU Tryz.prog 56 [Value.slice aA an ac] h fun v h_1 =>
 ∃ t7A : Option Addr, ∃ t7n t7c : Nat, v = Value.slice t7A t7n t7c ∧
 Br ((((t7n : Nat) : Int) : Int) == 0)
  (R (Value.string (⟨#[48]⟩ : ByteArray)) h_1)
  (∃ J : Nat → Option Addr → Nat → Nat → Option Addr → Nat → Nat → Heap → Prop, (∃ m, J m t7A t7n t7c none 0 0 h_1) ∧
 ∀ (m : Nat) (aA_1 : Option Addr) (an_1 ac_1 : Nat) (groupsA : Option Addr) (groupsn groupsc : Nat) (h_2 : Heap), J m aA_1 an_1 ac_1 groupsA groupsn groupsc h_2 →
 Br (decide (((an_1 : Nat) : Int) > 0))
  (CallsU Tryz.prog 68 [Value.slice aA_1 an_1 ac_1, Value.int .u32 1000000000] h_2 fun v_1 h_3 =>
 ∃ t16_0A : Option Addr, ∃ t16_0n t16_0c : Nat, ∃ t16_1 : Int, v_1 = Value.tuple #[Value.slice t16_0A t16_0n t16_0c, Value.int .u32 t16_1] ∧
 CallsU Tryz.prog 69 [Value.int .u64 (IntKind.u64.wrap t16_1), Value.int .i64 10] h_3 fun v_2 h_4 =>
 ∃ t21 : ByteArray, v_2 = Value.string t21 ∧
 Br (decide (((t16_0n : Nat) : Int) > 0))
  (∀ t27 : Int, t27 = IntKind.i64.wrap (9 - ((t21.size : Nat) : Int)) →
 CallsU Tryz.prog 70 [Value.string (⟨#[48]⟩ : ByteArray), Value.int .i64 t27] h_4 fun v_3 h_5 =>
 ∃ t28 : ByteArray, v_3 = Value.string t28 ∧
 ((t28.size + t21.size : Nat) : Int) ≤ 9223372036854775807 ∧
 ∀ (g : Nat) (h_6 : Heap), h_5 g = none → h_6 = Heap.put h_5 g ⟨[Value.string (t28 ++ t21)], 9, (0, 0)⟩ →
 ∃ xs : List Value, RdS h_6 (some ⟨g, 0, none⟩) (1 * 1) xs ∧ (∀ x ∈ xs, one x = true) ∧
 (groupsn + 1 ≤ groupsc → ∃ (ad : Addr) (b : Blk), groupsA = some ad ∧ ad.spot = none ∧ h_6 ad.block = some b ∧ b.fz = (0, 0) ∧ ad.off + groupsn * 1 + 1 * 1 ≤ b.cells.length ∧
 ∀ h_8 : Heap, h_8 = Heap.put h_6 ad.block { b with cells := setSeg b.cells (ad.off + groupsn * 1) xs } →
 ∃ m_1, m_1 < m ∧ J m_1 t16_0A t16_0n t16_0c groupsA (groupsn + 1) groupsc h_8) ∧
 (groupsc < groupsn + 1 → ∃ olds : List Value, RdS h_6 groupsA (groupsn * 1) olds ∧ (groupsn + 1) * 16 ≤ 140737488355328 ∧
 ∀ (g_1 cap : Nat) (h_9 : Heap), h_6 g_1 = none → groupsn + 1 ≤ cap → h_9 = Heap.put h_6 g_1 ⟨olds ++ xs ++ repV [Value.string ByteArray.empty] (cap - (groupsn + 1)), 9, (0, 0)⟩ →
 ∃ m_1, m_1 < m ∧ J m_1 t16_0A t16_0n t16_0c (some ⟨g_1, 0, none⟩) (groupsn + 1) cap h_9))
  (∀ (g_2 : Nat) (h_10 : Heap), h_4 g_2 = none → h_10 = Heap.put h_4 g_2 ⟨[Value.string t21], 9, (0, 0)⟩ →
 ∃ xs_1 : List Value, RdS h_10 (some ⟨g_2, 0, none⟩) (1 * 1) xs_1 ∧ (∀ x ∈ xs_1, one x = true) ∧
 (groupsn + 1 ≤ groupsc → ∃ (ad_1 : Addr) (b_1 : Blk), groupsA = some ad_1 ∧ ad_1.spot = none ∧ h_10 ad_1.block = some b_1 ∧ b_1.fz = (0, 0) ∧ ad_1.off + groupsn * 1 + 1 * 1 ≤ b_1.cells.length ∧
 ∀ h_12 : Heap, h_12 = Heap.put h_10 ad_1.block { b_1 with cells := setSeg b_1.cells (ad_1.off + groupsn * 1) xs_1 } →
 ∃ m_1, m_1 < m ∧ J m_1 t16_0A t16_0n t16_0c groupsA (groupsn + 1) groupsc h_12) ∧
 (groupsc < groupsn + 1 → ∃ olds_1 : List Value, RdS h_10 groupsA (groupsn * 1) olds_1 ∧ (groupsn + 1) * 16 ≤ 140737488355328 ∧
 ∀ (g_3 cap_1 : Nat) (h_13 : Heap), h_10 g_3 = none → groupsn + 1 ≤ cap_1 → h_13 = Heap.put h_10 g_3 ⟨olds_1 ++ xs_1 ++ repV [Value.string ByteArray.empty] (cap_1 - (groupsn + 1)), 9, (0, 0)⟩ →
 ∃ m_1, m_1 < m ∧ J m_1 t16_0A t16_0n t16_0c (some ⟨g_3, 0, none⟩) (groupsn + 1) cap_1 h_13)))
  (CallsU Tryz.prog 71 [Value.slice groupsA groupsn groupsc] h_2 fun v_6 h_14 =>
 v_6 = Value.tuple #[] ∧
 CallsU Tryz.prog 72 [Value.slice groupsA groupsn groupsc, Value.string (⟨#[]⟩ : ByteArray)] h_14 fun v_7 h_15 =>
 ∃ t38 : ByteArray, v_7 = Value.string t38 ∧
 R (Value.string t38) h_15))

set_option maxRecDepth 100000 in
theorem natural_Text_ok {aA : Option Addr} {an ac : Nat} {h : Heap} {R : Value → Heap → Prop} (hv : natural_Text_vc aA an ac h R) : CallsU Tryz.prog 49 [Value.slice aA an ac] h R :=
  fn_sound Tryz.func49 (by kernel_rfl) (by kernel_rfl) (by kernel_rfl) (fun _ => false) (.two .nil (.two .nil (.two .nil (.two .nil (.two (.one (.loop ⟨[(0, Sh.slice), (3, Sh.slice)], []⟩ .nil)) .nil))))) [Value.slice aA an ac] h R (by kernel_rfl)
    (Eq.mp (show natural_Text_vc aA an ac h R = fnV Tryz.prog Tryz.f49 (fun _ => false) (.two .nil (.two .nil (.two .nil (.two .nil (.two (.one (.loop ⟨[(0, Sh.slice), (3, Sh.slice)], []⟩ .nil)) .nil))))) [Value.slice aA an ac] h R by kernel_rfl) hv)

def strconv_FormatUint_vc (i : Int) (base : Int) (h : Heap) (R : Value → Heap → Prop) : Prop :=
 CallsU Tryz.prog 91 [Value.int .u64 i, Value.int .i64 base] h fun v h_1 =>
 ∃ t7 : ByteArray, v = Value.string t7 ∧
 R (Value.string t7) h_1

set_option maxRecDepth 100000 in
theorem strconv_FormatUint_ok {i : Int} {base : Int} {h : Heap} {R : Value → Heap → Prop} (hv : strconv_FormatUint_vc i base h R) : CallsU Tryz.prog 69 [Value.int .u64 i, Value.int .i64 base] h R :=
  fn_sound Tryz.func69 (by kernel_rfl) (by kernel_rfl) (by kernel_rfl) (fun _ => false) .nil [Value.int .u64 i, Value.int .i64 base] h R (by kernel_rfl)
    (Eq.mp (show strconv_FormatUint_vc i base h R = fnV Tryz.prog Tryz.f69 (fun _ => false) .nil [Value.int .u64 i, Value.int .i64 base] h R by kernel_rfl) hv)

end Go.Proofs.YtfhipkdcekffaaaGreatDoor
