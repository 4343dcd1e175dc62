/- Made by vcgen.py: verification conditions of functions, each held against the calculator by the kernel. -/
import Derived.Test.YtfhipkdcekffaaaDoorVcg4
import Derived.Test.YtfhipkdcekffaaaDoorChecked
namespace Go.Proofs.YtfhipkdcekffaaaDoor
open Go Go.Vcg

def ref53_Decide_vc (p_0 : Int) (p_1 : Int) (found : Int) (h : Heap) (R : Value → Heap → Prop) : Prop :=
 CallsU Tryd.prog 12 [Value.agg #[Value.int .i64 p_0, Value.int .i64 p_1], Value.int .i64 p_0] h fun v h_1 =>
 ∃ t9 : Int, v = Value.int .i64 t9 ∧
 Br ((t9 : Int) != 0)
  (R (Value.tuple #[Value.bool false, Value.int .i64 3]) h_1)
  (Br (decide (found < 0))
  (R (Value.tuple #[Value.bool false, Value.int .i64 3]) h_1)
  (Br (decide (found > p_0))
  (R (Value.tuple #[Value.bool false, Value.int .i64 3]) h_1)
  (R (Value.tuple #[Value.bool (decide (found ≤ p_1)), Value.int .i64 0]) h_1)))

set_option maxRecDepth 100000 in
theorem ref53_Decide_ok {p_0 : Int} {p_1 : Int} {found : Int} {h : Heap} {R : Value → Heap → Prop} (hv : ref53_Decide_vc p_0 p_1 found h R) : CallsU Tryd.prog 10 [Value.agg #[Value.int .i64 p_0, Value.int .i64 p_1], Value.int .i64 found] h R :=
  fn_sound Tryd.func10 (by kernel_rfl) (by kernel_rfl) (by kernel_rfl) (fun _ => false) .nil [Value.agg #[Value.int .i64 p_0, Value.int .i64 p_1], Value.int .i64 found] h R (by kernel_rfl)
    (Eq.mp (show ref53_Decide_vc p_0 p_1 found h R = fnV Tryd.prog Tryd.f10 (fun _ => false) .nil [Value.agg #[Value.int .i64 p_0, Value.int .i64 p_1], Value.int .i64 found] h R by kernel_rfl) hv)

def ref53_Check_vc (p_0 : Int) (p_1 : Int) (lot : Int) (h : Heap) (R : Value → Heap → Prop) : Prop :=
 Br (decide (p_0 < 1))
  (R (Value.int .i64 3) h)
  (Br (decide (p_0 > lot))
  (R (Value.int .i64 3) h)
  (Br (decide (lot > 200))
  (R (Value.int .i64 3) h)
  (Br (decide (p_1 < 0))
  (R (Value.int .i64 3) h)
  (Br (decide (p_1 ≥ p_0))
  (R (Value.int .i64 3) h)
  (R (Value.int .i64 0) h)))))

set_option maxRecDepth 100000 in
theorem ref53_Check_ok {p_0 : Int} {p_1 : Int} {lot : Int} {h : Heap} {R : Value → Heap → Prop} (hv : ref53_Check_vc p_0 p_1 lot h R) : CallsU Tryd.prog 12 [Value.agg #[Value.int .i64 p_0, Value.int .i64 p_1], Value.int .i64 lot] h R :=
  fn_sound Tryd.func12 (by kernel_rfl) (by kernel_rfl) (by kernel_rfl) (fun _ => false) .nil [Value.agg #[Value.int .i64 p_0, Value.int .i64 p_1], Value.int .i64 lot] h R (by kernel_rfl)
    (Eq.mp (show ref53_Check_vc p_0 p_1 lot h R = fnV Tryd.prog Tryd.f12 (fun _ => false) .nil [Value.agg #[Value.int .i64 p_0, Value.int .i64 p_1], Value.int .i64 lot] h R by kernel_rfl) hv)

def ref53_Draw_vc (d : Int) (p_0 : Int) (p_1 : Int) (lot : Int) (h : Heap) (R : Value → Heap → Prop) : Prop :=
 CallsU Tryd.prog 12 [Value.agg #[Value.int .i64 p_0, Value.int .i64 p_1], Value.int .i64 lot] h fun v h_1 =>
 ∃ t13 : Int, v = Value.int .i64 t13 ∧
 Br ((t13 : Int) != 0)
  (R (Value.tuple #[Value.int .u64 0, Value.slice none 0 0, Value.int .i64 3]) h_1)
  (CallsU Tryd.prog 25 [Value.int .u64 d, Value.int .i64 lot, Value.int .i64 p_0] h_1 fun v_1 h_2 =>
 ∃ t20_0 : Int, ∃ t20_1A : Option Addr, ∃ t20_1n t20_1c : Nat, v_1 = Value.tuple #[Value.int .u64 t20_0, Value.slice t20_1A t20_1n t20_1c] ∧
 R (Value.tuple #[Value.int .u64 t20_0, Value.slice t20_1A t20_1n t20_1c, Value.int .i64 0]) h_2)

set_option maxRecDepth 100000 in
theorem ref53_Draw_ok {d : Int} {p_0 : Int} {p_1 : Int} {lot : Int} {h : Heap} {R : Value → Heap → Prop} (hv : ref53_Draw_vc d p_0 p_1 lot h R) : CallsU Tryd.prog 15 [Value.int .u64 d, Value.agg #[Value.int .i64 p_0, Value.int .i64 p_1], Value.int .i64 lot] h R :=
  fn_sound Tryd.func15 (by kernel_rfl) (by kernel_rfl) (by kernel_rfl) (fun _ => false) .nil [Value.int .u64 d, Value.agg #[Value.int .i64 p_0, Value.int .i64 p_1], Value.int .i64 lot] h R (by kernel_rfl)
    (Eq.mp (show ref53_Draw_vc d p_0 p_1 lot h R = fnV Tryd.prog Tryd.f15 (fun _ => false) .nil [Value.int .u64 d, Value.agg #[Value.int .i64 p_0, Value.int .i64 p_1], Value.int .i64 lot] h R by kernel_rfl) hv)

def ref53_SameInts_vc (aA : Option Addr) (an _ac : Nat) (bA : Option Addr) (bn _bc : Nat) (h : Heap) (R : Value → Heap → Prop) : Prop :=
 Br ((((an : Nat) : Int) : Int) != ((bn : Nat) : Int))
  (R (Value.bool false) h)
  (∃ J : Nat → Int → Heap → Prop, (∃ m, J m 0 h) ∧
 ∀ (m : Nat) (i : Int) (h_1 : Heap), J m i h_1 →
 Br (decide (i < ((an : Nat) : Int)))
  (∃ ad : Addr, aA = some ad ∧ 0 ≤ i ∧ i < ((an : Nat) : Int) ∧
 ∃ t20 : Int, LdN h_1 (Addr.add ad (Int.toNat i * 1)) [Value.int .i64 t20] ∧
 ∃ ad_1 : Addr, bA = some ad_1 ∧ 0 ≤ i ∧ i < ((bn : Nat) : Int) ∧
 ∃ t24 : Int, LdN h_1 (Addr.add ad_1 (Int.toNat i * 1)) [Value.int .i64 t24] ∧
 Br ((t20 : Int) != t24)
  (R (Value.bool false) h_1)
  (∀ t16 : Int, t16 = IntKind.i64.wrap (i + 1) →
 ∃ m_1, m_1 < m ∧ J m_1 t16 h_1))
  (R (Value.bool true) h_1))

set_option maxRecDepth 100000 in
theorem ref53_SameInts_ok {aA : Option Addr} {an ac : Nat} {bA : Option Addr} {bn bc : Nat} {h : Heap} {R : Value → Heap → Prop} (hv : ref53_SameInts_vc aA an ac bA bn bc h R) : CallsU Tryd.prog 16 [Value.slice aA an ac, Value.slice bA bn bc] h R :=
  fn_sound Tryd.func16 (by kernel_rfl) (by kernel_rfl) (by kernel_rfl) (fun _ => false) (.two .nil (.two .nil (.two (.two .nil (.one (.loop ⟨[(5, Sh.int .i64)], []⟩ (.two .nil (.two (.one (.two (.ord [0, 1, 2, 3, 4, 5, 6, 7, 8]) .nil)) .nil))))) .nil))) [Value.slice aA an ac, Value.slice bA bn bc] h R (by kernel_rfl)
    (Eq.mp (show ref53_SameInts_vc aA an ac bA bn bc h R = fnV Tryd.prog Tryd.f16 (fun _ => false) (.two .nil (.two .nil (.two (.two .nil (.one (.loop ⟨[(5, Sh.int .i64)], []⟩ (.two .nil (.two (.one (.two (.ord [0, 1, 2, 3, 4, 5, 6, 7, 8]) .nil)) .nil))))) .nil))) [Value.slice aA an ac, Value.slice bA bn bc] h R by kernel_rfl) hv)

def ref03_Whole_vc (n : Int) (h : Heap) (R : Value → Heap → Prop) : Prop :=
 CallsU Tryd.prog 35 [Value.int .i64 n] h fun v h_1 =>
 ∃ t4_0 : Bool, ∃ t4_1A : Option Addr, ∃ t4_1n t4_1c : Nat, v = Value.agg #[Value.bool t4_0, Value.slice t4_1A t4_1n t4_1c] ∧
 CallsU Tryd.prog 36 [Value.int .u64 1] h_1 fun v_1 h_2 =>
 ∃ t5A : Option Addr, ∃ t5n t5c : Nat, v_1 = Value.slice t5A t5n t5c ∧
 R (Value.agg #[Value.bool t4_0, Value.slice t4_1A t4_1n t4_1c, Value.slice t5A t5n t5c]) h_2

set_option maxRecDepth 100000 in
theorem ref03_Whole_ok {n : Int} {h : Heap} {R : Value → Heap → Prop} (hv : ref03_Whole_vc n h R) : CallsU Tryd.prog 19 [Value.int .i64 n] h R :=
  fn_sound Tryd.func19 (by kernel_rfl) (by kernel_rfl) (by kernel_rfl) (fun _ => false) .nil [Value.int .i64 n] h R (by kernel_rfl)
    (Eq.mp (show ref03_Whole_vc n h R = fnV Tryd.prog Tryd.f19 (fun _ => false) .nil [Value.int .i64 n] h R by kernel_rfl) hv)

def ref05_Sample_vc (d : Int) (n : Int) (k : Int) (h : Heap) (R : Value → Heap → Prop) : Prop :=
 CallsU Tryd.prog 45 [Value.int .u64 d, Value.int .i64 n] h fun v h_1 =>
 ∃ t15_0 : Int, ∃ t15_1A : Option Addr, ∃ t15_1n t15_1c : Nat, v = Value.tuple #[Value.int .u64 t15_0, Value.slice t15_1A t15_1n t15_1c] ∧
 CallsU Tryd.prog 46 [Value.int .i64 k, Value.int .i64 ((t15_1n : Nat) : Int)] h_1 fun v_1 h_2 =>
 ∃ t21 : Int, v_1 = Value.int .i64 t21 ∧
 ∃ J : Nat → Option Addr → Nat → Nat → Int → Heap → Prop, (∃ m, J m none 0 0 0 h_2) ∧
 ∀ (m : Nat) (outA : Option Addr) (outn outc : Nat) (i : Int) (h_3 : Heap), J m outA outn outc i h_3 →
 Br (decide (i < ((t15_1n : Nat) : Int)))
  (((0 : Nat) : Int) ≤ t21 ∧ t21 ≤ ((t15_1c : Nat) : Int) ∧
 CallsU Tryd.prog 47 [Value.slice t15_1A (Int.toNat t21) t15_1c, Value.int .i64 i] h_3 fun v_2 h_4 =>
 ∃ t32 : Bool, v_2 = Value.bool t32 ∧
 Br (t32)
  (∀ (g : Nat) (h_5 : Heap), h_4 g = none → h_5 = Heap.put h_4 g ⟨[Value.int .i64 i], 3, (0, 0)⟩ →
 ∃ xs : List Value, RdS h_5 (some ⟨g, 0, none⟩) (1 * 1) xs ∧ (∀ x ∈ xs, one x = true) ∧
 (outn + 1 ≤ outc → ∃ (ad : Addr) (b : Blk), outA = some ad ∧ ad.spot = none ∧ h_5 ad.block = some b ∧ b.fz = (0, 0) ∧ ad.off + outn * 1 + 1 * 1 ≤ b.cells.length ∧
 ∀ h_7 : Heap, h_7 = Heap.put h_5 ad.block { b with cells := setSeg b.cells (ad.off + outn * 1) xs } →
 ∀ t27 : Int, t27 = IntKind.i64.wrap (i + 1) →
 ∃ m_1, m_1 < m ∧ J m_1 outA (outn + 1) outc t27 h_7) ∧
 (outc < outn + 1 → ∃ olds : List Value, RdS h_5 outA (outn * 1) olds ∧ (outn + 1) * 8 ≤ 140737488355328 ∧
 ∀ (g_1 cap : Nat) (h_8 : Heap), h_5 g_1 = none → outn + 1 ≤ cap → h_8 = Heap.put h_5 g_1 ⟨olds ++ xs ++ repV [Value.int .i64 0] (cap - (outn + 1)), 3, (0, 0)⟩ →
 ∀ t27_1 : Int, t27_1 = IntKind.i64.wrap (i + 1) →
 ∃ m_1, m_1 < m ∧ J m_1 (some ⟨g_1, 0, none⟩) (outn + 1) cap t27_1 h_8))
  (∀ t27_2 : Int, t27_2 = IntKind.i64.wrap (i + 1) →
 ∃ m_1, m_1 < m ∧ J m_1 outA outn outc t27_2 h_4))
  (R (Value.tuple #[Value.int .u64 t15_0, Value.slice outA outn outc]) h_3)

set_option maxRecDepth 100000 in
theorem ref05_Sample_ok {d : Int} {n : Int} {k : Int} {h : Heap} {R : Value → Heap → Prop} (hv : ref05_Sample_vc d n k h R) : CallsU Tryd.prog 25 [Value.int .u64 d, Value.int .i64 n, Value.int .i64 k] h R :=
  fn_sound Tryd.func25 (by kernel_rfl) (by kernel_rfl) (by kernel_rfl) (fun _ => false) (.two .nil (.two .nil (.two .nil (.two .nil (.two (.two .nil (.one (.loop ⟨[(10, Sh.slice), (11, Sh.int .i64)], []⟩ .nil))) .nil))))) [Value.int .u64 d, Value.int .i64 n, Value.int .i64 k] h R (by kernel_rfl)
    (Eq.mp (show ref05_Sample_vc d n k h R = fnV Tryd.prog Tryd.f25 (fun _ => false) (.two .nil (.two .nil (.two .nil (.two .nil (.two (.two .nil (.one (.loop ⟨[(10, Sh.slice), (11, Sh.int .i64)], []⟩ .nil))) .nil))))) [Value.int .u64 d, Value.int .i64 n, Value.int .i64 k] h R by kernel_rfl) hv)

def ref02_Of_vc (n : Int) (h : Heap) (R : Value → Heap → Prop) : Prop :=
 Br (decide (n < 0))
  (∀ t6 : Int, t6 = IntKind.i64.wrap (n + 1) →
 ∀ t7 : Int, t7 = IntKind.i64.wrap (0 - t6) →
 ∀ t9 : Int, t9 = IntKind.u64.wrap ((IntKind.u64.wrap t7) + 1) →
 CallsU Tryd.prog 36 [Value.int .u64 t9] h fun v h_1 =>
 ∃ t10A : Option Addr, ∃ t10n t10c : Nat, v = Value.slice t10A t10n t10c ∧
 R (Value.agg #[Value.bool true, Value.slice t10A t10n t10c]) h_1)
  (CallsU Tryd.prog 36 [Value.int .u64 (IntKind.u64.wrap n)] h fun v_1 h_2 =>
 ∃ t14A : Option Addr, ∃ t14n t14c : Nat, v_1 = Value.slice t14A t14n t14c ∧
 R (Value.agg #[Value.bool false, Value.slice t14A t14n t14c]) h_2)

set_option maxRecDepth 100000 in
theorem ref02_Of_ok {n : Int} {h : Heap} {R : Value → Heap → Prop} (hv : ref02_Of_vc n h R) : CallsU Tryd.prog 35 [Value.int .i64 n] h R :=
  fn_sound Tryd.func35 (by kernel_rfl) (by kernel_rfl) (by kernel_rfl) (fun _ => false) .nil [Value.int .i64 n] h R (by kernel_rfl)
    (Eq.mp (show ref02_Of_vc n h R = fnV Tryd.prog Tryd.f35 (fun _ => false) .nil [Value.int .i64 n] h R by kernel_rfl) hv)

def ref01_Of_vc (n : Int) (h : Heap) (R : Value → Heap → Prop) : Prop :=
 ∃ J : Nat → Int → Option Addr → Nat → Nat → Heap → Prop, (∃ m, J m n none 0 0 h) ∧
 ∀ (m : Nat) (n_1 : Int) (outA : Option Addr) (outn outc : Nat) (h_1 : Heap), J m n_1 outA outn outc h_1 →
 Br (decide (n_1 > 0))
  (∀ t8 : Int, t8 = (Int.tmod n_1 4294967296) →
 ∀ (g : Nat) (h_2 : Heap), h_1 g = none → h_2 = Heap.put h_1 g ⟨[Value.int .u32 (IntKind.u32.wrap t8)], 77, (0, 0)⟩ →
 ∃ xs : List Value, RdS h_2 (some ⟨g, 0, none⟩) (1 * 1) xs ∧ (∀ x ∈ xs, one x = true) ∧
 (outn + 1 ≤ outc → ∃ (ad : Addr) (b : Blk), outA = some ad ∧ ad.spot = none ∧ h_2 ad.block = some b ∧ b.fz = (0, 0) ∧ ad.off + outn * 1 + 1 * 1 ≤ b.cells.length ∧
 ∀ h_4 : Heap, h_4 = Heap.put h_2 ad.block { b with cells := setSeg b.cells (ad.off + outn * 1) xs } →
 ∀ t13 : Int, t13 = IntKind.u64.wrap (Int.tdiv n_1 4294967296) →
 ∃ m_1, m_1 < m ∧ J m_1 t13 outA (outn + 1) outc h_4) ∧
 (outc < outn + 1 → ∃ olds : List Value, RdS h_2 outA (outn * 1) olds ∧ (outn + 1) * 4 ≤ 140737488355328 ∧
 ∀ (g_1 cap : Nat) (h_5 : Heap), h_2 g_1 = none → outn + 1 ≤ cap → h_5 = Heap.put h_2 g_1 ⟨olds ++ xs ++ repV [Value.int .u32 0] (cap - (outn + 1)), 77, (0, 0)⟩ →
 ∀ t13_1 : Int, t13_1 = IntKind.u64.wrap (Int.tdiv n_1 4294967296) →
 ∃ m_1, m_1 < m ∧ J m_1 t13_1 (some ⟨g_1, 0, none⟩) (outn + 1) cap h_5))
  (R (Value.slice outA outn outc) h_1)

set_option maxRecDepth 100000 in
theorem ref01_Of_ok {n : Int} {h : Heap} {R : Value → Heap → Prop} (hv : ref01_Of_vc n h R) : CallsU Tryd.prog 36 [Value.int .u64 n] h R :=
  fn_sound Tryd.func36 (by kernel_rfl) (by kernel_rfl) (by kernel_rfl) (fun _ => false) (.two .nil (.two .nil (.two (.one (.loop ⟨[(0, Sh.int .u64), (3, Sh.slice)], []⟩ .nil)) .nil))) [Value.int .u64 n] h R (by kernel_rfl)
    (Eq.mp (show ref01_Of_vc n h R = fnV Tryd.prog Tryd.f36 (fun _ => false) (.two .nil (.two .nil (.two (.one (.loop ⟨[(0, Sh.int .u64), (3, Sh.slice)], []⟩ .nil)) .nil))) [Value.int .u64 n] h R by kernel_rfl) hv)

def ref05_Shuffle_vc (d : Int) (n : Int) (h : Heap) (R : Value → Heap → Prop) : Prop :=
 CallsU Tryd.prog 46 [Value.int .i64 n, Value.int .i64 1000] h fun v h_1 =>
 ∃ t13 : Int, v = Value.int .i64 t13 ∧
 0 ≤ t13 ∧ t13 ≤ t13 ∧ t13 * 8 ≤ 140737488355328 ∧ t13 ≤ 9223372036854775807 ∧
 ∀ (g : Nat) (h_2 : Heap), h_1 g = none → h_2 = Heap.put h_1 g ⟨repV [Value.int .i64 0] (Int.toNat t13), 3, (0, 0)⟩ →
 ∃ J : Nat → Int → Heap → Prop, (∃ m, J m 0 h_2) ∧
 ∀ (m : Nat) (i : Int) (h_3 : Heap), J m i h_3 →
 Br (decide (i < t13))
  (∃ ad : Addr, some ⟨g, 0, none⟩ = some ad ∧ 0 ≤ i ∧ i < (((Int.toNat t13) : Nat) : Int) ∧
 ∃ b : Blk, h_3 (Addr.block (Addr.add ad (Int.toNat i * 1))) = some b ∧ b.fz = (0, 0) ∧ Addr.spot (Addr.add ad (Int.toNat i * 1)) = none ∧ Addr.off (Addr.add ad (Int.toNat i * 1)) + 1 ≤ b.cells.length ∧
 ∀ h_4 : Heap, h_4 = Heap.put h_3 (Addr.block (Addr.add ad (Int.toNat i * 1))) { b with cells := setSeg b.cells (Addr.off (Addr.add ad (Int.toNat i * 1))) [Value.int .i64 i] } →
 ∀ t20 : Int, t20 = IntKind.i64.wrap (i + 1) →
 ∃ m_1, m_1 < m ∧ J m_1 t20 h_4)
  (∀ t26 : Int, t26 = IntKind.i64.wrap (t13 - 1) →
 ∃ J_1 : Nat → Int → Int → Heap → Prop, (∃ m_2, J_1 m_2 d t26 h_3) ∧
 ∀ (m_2 : Nat) (d_1 : Int) (i_1 : Int) (h_5 : Heap), J_1 m_2 d_1 i_1 h_5 →
 Br (decide (i_1 ≥ 1))
  (∀ t34 : Int, t34 = IntKind.i64.wrap (i_1 + 1) →
 CallsU Tryd.prog 65 [Value.int .u64 d_1, Value.int .i64 t34] h_5 fun v_1 h_6 =>
 ∃ t35_0 : Int, ∃ t35_1 : Int, v_1 = Value.tuple #[Value.int .u64 t35_0, Value.int .i64 t35_1] ∧
 ∃ ad_1 : Addr, some ⟨g, 0, none⟩ = some ad_1 ∧ 0 ≤ i_1 ∧ i_1 < (((Int.toNat t13) : Nat) : Int) ∧
 ∃ t42 : Int, LdN h_6 (Addr.add ad_1 (Int.toNat i_1 * 1)) [Value.int .i64 t42] ∧
 ∃ ad_2 : Addr, some ⟨g, 0, none⟩ = some ad_2 ∧ 0 ≤ t35_1 ∧ t35_1 < (((Int.toNat t13) : Nat) : Int) ∧
 ∃ t48 : Int, LdN h_6 (Addr.add ad_2 (Int.toNat t35_1 * 1)) [Value.int .i64 t48] ∧
 ∃ ad_3 : Addr, some ⟨g, 0, none⟩ = some ad_3 ∧ 0 ≤ i_1 ∧ i_1 < (((Int.toNat t13) : Nat) : Int) ∧
 ∃ b_1 : Blk, h_6 (Addr.block (Addr.add ad_3 (Int.toNat i_1 * 1))) = some b_1 ∧ b_1.fz = (0, 0) ∧ Addr.spot (Addr.add ad_3 (Int.toNat i_1 * 1)) = none ∧ Addr.off (Addr.add ad_3 (Int.toNat i_1 * 1)) + 1 ≤ b_1.cells.length ∧
 ∀ h_7 : Heap, h_7 = Heap.put h_6 (Addr.block (Addr.add ad_3 (Int.toNat i_1 * 1))) { b_1 with cells := setSeg b_1.cells (Addr.off (Addr.add ad_3 (Int.toNat i_1 * 1))) [Value.int .i64 t48] } →
 ∃ ad_4 : Addr, some ⟨g, 0, none⟩ = some ad_4 ∧ 0 ≤ t35_1 ∧ t35_1 < (((Int.toNat t13) : Nat) : Int) ∧
 ∃ b_2 : Blk, h_7 (Addr.block (Addr.add ad_4 (Int.toNat t35_1 * 1))) = some b_2 ∧ b_2.fz = (0, 0) ∧ Addr.spot (Addr.add ad_4 (Int.toNat t35_1 * 1)) = none ∧ Addr.off (Addr.add ad_4 (Int.toNat t35_1 * 1)) + 1 ≤ b_2.cells.length ∧
 ∀ h_8 : Heap, h_8 = Heap.put h_7 (Addr.block (Addr.add ad_4 (Int.toNat t35_1 * 1))) { b_2 with cells := setSeg b_2.cells (Addr.off (Addr.add ad_4 (Int.toNat t35_1 * 1))) [Value.int .i64 t42] } →
 ∀ t30 : Int, t30 = IntKind.i64.wrap (i_1 - 1) →
 ∃ m_3, m_3 < m_2 ∧ J_1 m_3 t35_0 t30 h_8)
  (R (Value.tuple #[Value.int .u64 d_1, Value.slice (some ⟨g, 0, none⟩) (Int.toNat t13) (Int.toNat t13)]) h_5))

set_option maxRecDepth 100000 in
theorem ref05_Shuffle_ok {d : Int} {n : Int} {h : Heap} {R : Value → Heap → Prop} (hv : ref05_Shuffle_vc d n h R) : CallsU Tryd.prog 45 [Value.int .u64 d, Value.int .i64 n] h R :=
  fn_sound Tryd.func45 (by kernel_rfl) (by kernel_rfl) (by kernel_rfl) (fun _ => false) (.two .nil (.two .nil (.two .nil (.two (.two .nil (.one (.loop ⟨[(7, Sh.int .i64)], []⟩ .nil))) (.two (.two .nil (.one (.loop ⟨[(0, Sh.int .u64), (8, Sh.int .i64)], []⟩ .nil))) .nil))))) [Value.int .u64 d, Value.int .i64 n] h R (by kernel_rfl)
    (Eq.mp (show ref05_Shuffle_vc d n h R = fnV Tryd.prog Tryd.f45 (fun _ => false) (.two .nil (.two .nil (.two .nil (.two (.two .nil (.one (.loop ⟨[(7, Sh.int .i64)], []⟩ .nil))) (.two (.two .nil (.one (.loop ⟨[(0, Sh.int .u64), (8, Sh.int .i64)], []⟩ .nil))) .nil))))) [Value.int .u64 d, Value.int .i64 n] h R by kernel_rfl) hv)

def ref05_limited_vc (n : Int) (most : Int) (h : Heap) (R : Value → Heap → Prop) : Prop :=
 R (Value.int .i64 (if decide ((if decide (most < n) then most else n) > 0) then (if decide (most < n) then most else n) else 0)) h

set_option maxRecDepth 100000 in
theorem ref05_limited_ok {n : Int} {most : Int} {h : Heap} {R : Value → Heap → Prop} (hv : ref05_limited_vc n most h R) : CallsU Tryd.prog 46 [Value.int .i64 n, Value.int .i64 most] h R :=
  fn_sound Tryd.func46 (by kernel_rfl) (by kernel_rfl) (by kernel_rfl) (fun _ => false) .nil [Value.int .i64 n, Value.int .i64 most] h R (by kernel_rfl)
    (Eq.mp (show ref05_limited_vc n most h R = fnV Tryd.prog Tryd.f46 (fun _ => false) .nil [Value.int .i64 n, Value.int .i64 most] h R by kernel_rfl) hv)

def ref05_among_vc (lA : Option Addr) (ln _lc : Nat) (x_1 : Int) (h : Heap) (R : Value → Heap → Prop) : Prop :=
 ∃ J : Nat → Int → Heap → Prop, (∃ m, J m 0 h) ∧
 ∀ (m : Nat) (i : Int) (h_1 : Heap), J m i h_1 →
 Br (decide (i < ((ln : Nat) : Int)))
  (∃ ad : Addr, lA = some ad ∧ 0 ≤ i ∧ i < ((ln : Nat) : Int) ∧
 ∃ t15 : Int, LdN h_1 (Addr.add ad (Int.toNat i * 1)) [Value.int .i64 t15] ∧
 Br ((t15 : Int) == x_1)
  (R (Value.bool true) h_1)
  (∀ t11 : Int, t11 = IntKind.i64.wrap (i + 1) →
 ∃ m_1, m_1 < m ∧ J m_1 t11 h_1))
  (R (Value.bool false) h_1)

set_option maxRecDepth 100000 in
theorem ref05_among_ok {lA : Option Addr} {ln lc : Nat} {x_1 : Int} {h : Heap} {R : Value → Heap → Prop} (hv : ref05_among_vc lA ln lc x_1 h R) : CallsU Tryd.prog 47 [Value.slice lA ln lc, Value.int .i64 x_1] h R :=
  fn_sound Tryd.func47 (by kernel_rfl) (by kernel_rfl) (by kernel_rfl) (fun _ => false) (.two .nil (.two (.two .nil (.one (.loop ⟨[(5, Sh.int .i64)], []⟩ .nil))) .nil)) [Value.slice lA ln lc, Value.int .i64 x_1] h R (by kernel_rfl)
    (Eq.mp (show ref05_among_vc lA ln lc x_1 h R = fnV Tryd.prog Tryd.f47 (fun _ => false) (.two .nil (.two (.two .nil (.one (.loop ⟨[(5, Sh.int .i64)], []⟩ .nil))) .nil)) [Value.slice lA ln lc, Value.int .i64 x_1] h R by kernel_rfl) hv)

def ref05_Below_vc (d : Int) (n : Int) (h : Heap) (R : Value → Heap → Prop) : Prop :=
 CallsU Tryd.prog 92 [Value.int .u64 d] h fun v h_1 =>
 ∃ t10_0 : Int, ∃ t10_1 : Int, v = Value.tuple #[Value.int .u64 t10_0, Value.int .i64 t10_1] ∧
 Br (decide (n < 1))
  (R (Value.tuple #[Value.int .u64 t10_0, Value.int .i64 0]) h_1)
  (Br (decide (n = 0)) False
  (∀ t19 : Int, t19 = (Int.tmod t10_1 n) →
 R (Value.tuple #[Value.int .u64 t10_0, Value.int .i64 t19]) h_1))

set_option maxRecDepth 100000 in
theorem ref05_Below_ok {d : Int} {n : Int} {h : Heap} {R : Value → Heap → Prop} (hv : ref05_Below_vc d n h R) : CallsU Tryd.prog 65 [Value.int .u64 d, Value.int .i64 n] h R :=
  fn_sound Tryd.func65 (by kernel_rfl) (by kernel_rfl) (by kernel_rfl) (fun _ => false) (.two .nil (.two .nil (.two .nil (.two (.ord [0, 1, 2, 3, 4, 5]) .nil)))) [Value.int .u64 d, Value.int .i64 n] h R (by kernel_rfl)
    (Eq.mp (show ref05_Below_vc d n h R = fnV Tryd.prog Tryd.f65 (fun _ => false) (.two .nil (.two .nil (.two .nil (.two (.ord [0, 1, 2, 3, 4, 5]) .nil)))) [Value.int .u64 d, Value.int .i64 n] h R by kernel_rfl) hv)

def ref05_Next_vc (d : Int) (h : Heap) (R : Value → Heap → Prop) : Prop :=
 ∀ t6 : Int, t6 = IntKind.u64.wrap (d * 6364136223846793005) →
 ∀ t7 : Int, t7 = IntKind.u64.wrap (t6 + 1442695040888963407) →
 ∀ t10 : Int, t10 = IntKind.u64.wrap (Int.tdiv t7 8589934592) →
 R (Value.tuple #[Value.int .u64 t7, Value.int .i64 (IntKind.i64.wrap t10)]) h

set_option maxRecDepth 100000 in
theorem ref05_Next_ok {d : Int} {h : Heap} {R : Value → Heap → Prop} (hv : ref05_Next_vc d h R) : CallsU Tryd.prog 92 [Value.int .u64 d] h R :=
  fn_sound Tryd.func92 (by kernel_rfl) (by kernel_rfl) (by kernel_rfl) (fun _ => false) .nil [Value.int .u64 d] h R (by kernel_rfl)
    (Eq.mp (show ref05_Next_vc d h R = fnV Tryd.prog Tryd.f92 (fun _ => false) .nil [Value.int .u64 d] h R by kernel_rfl) hv)

end Go.Proofs.YtfhipkdcekffaaaDoor
