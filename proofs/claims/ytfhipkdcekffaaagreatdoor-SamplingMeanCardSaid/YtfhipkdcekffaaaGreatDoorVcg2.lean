/-
  The calculator itself: what an operation, a region, a code asks.
-/
import Derived.Test.YtfhipkdcekffaaaGreatDoorVcg1
namespace Go.Vcg
open Go

section
variable (P : Program) (nt : Nat)

def putK (d : Option Nat) (s : SV) (st : St) (K : St → Prop) : Prop :=
  match d with
  | none => K st
  | some d =>
    match Nat.blt d nt with
    | true => K (st.put d s)
    | false => False

def arith (k k' : IntKind) (z : Int) (K : Value → Prop) : Prop :=
  match decide (k = k') with
  | true => ∀ x : Int, x = z → K (.int k x)
  | false => False

def comp (k k' : IntKind) (b : Bool) (K : Value → Prop) : Prop :=
  match decide (k = k') with
  | true => K (.bool b)
  | false => False

def bitsOf (op : BinOp) (k : IntKind) (a b : Int) : Int :=
  match op with
  | .and => k.wrap ((BitVec.ofInt k.bits a &&& BitVec.ofInt k.bits b).toNat : Int)
  | .or => k.wrap ((BitVec.ofInt k.bits a ||| BitVec.ofInt k.bits b).toNat : Int)
  | .xor => k.wrap ((BitVec.ofInt k.bits a ^^^ BitVec.ofInt k.bits b).toNat : Int)
  | _ => k.wrap ((BitVec.ofInt k.bits a &&& ~~~BitVec.ofInt k.bits b).toNat : Int)

def isBoolT (t : TypeId) : Bool :=
  match P.underlying t with
  | some .bool => true
  | _ => false

def binR (op : BinOp) (t : TypeId) (x y : Value) (K : Value → Prop) : Prop :=
  match x, y with
  | .int k a, .int k' b =>
    match op with
    | .shl => Br (decide (b < 0)) False (∀ z : Int, z = k.wrap (a * 2 ^ (min b.toNat k.bits)) → K (.int k z))
    | .shr => Br (decide (b < 0)) False (∀ z : Int, z = a.fdiv (2 ^ (min b.toNat k.bits)) → K (.int k z))
    | .add => arith k k' (k.wrap (a + b)) K
    | .sub => arith k k' (k.wrap (a - b)) K
    | .mul => arith k k' (k.wrap (a * b)) K
    | .quo => Br (decide (b = 0)) False (arith k k' (k.wrap (a.tdiv b)) K)
    | .rem => Br (decide (b = 0)) False (arith k k' (a.tmod b) K)
    | .and => arith k k' (bitsOf .and k a b) K
    | .or => arith k k' (bitsOf .or k a b) K
    | .xor => arith k k' (bitsOf .xor k a b) K
    | .andNot => arith k k' (bitsOf .andNot k a b) K
    | .eql => comp k k' (a == b) K
    | .neq => comp k k' (a != b) K
    | .lss => comp k k' (decide (a < b)) K
    | .leq => comp k k' (decide (a ≤ b)) K
    | .gtr => comp k k' (decide (a > b)) K
    | .geq => comp k k' (decide (a ≥ b)) K
  | .bool a, .bool b =>
    match isBoolT P t with
    | true =>
      match op with
      | .eql => K (.bool (a == b))
      | .neq => K (.bool !(a == b))
      | _ => False
    | false => False
  | .string a, .string b =>
    match op with
    | .add => ((a.size + b.size : Nat) : Int) ≤ 9223372036854775807 ∧ K (.string (a ++ b))
    | .eql => K (.bool (a.toList == b.toList))
    | .neq => K (.bool !(a.toList == b.toList))
    | _ => False
  | _, _ => False

def unR (op : UnOp) (x : Value) (K : Value → Prop) : Prop :=
  match op, x with
  | .not, .bool b => K (.bool !b)
  | .neg, .int k n => ∀ z : Int, z = k.wrap (0 - n) → K (.int k z)
  | _, _ => False

def convR (src dst : TypeId) (x : Value) (K : Value → Prop) : Prop :=
  match P.underlying src, P.underlying dst, x with
  | some _, some (.int k), .int _ n => K (.int k (k.wrap n))
  | some _, some .string, .string s => K (.string s)
  | _, _, _ => False

/-- A part of a struct's or an array's value. -/
def partR (t : TypeId) (cs : List Value) (off : Nat) (K : Value → Prop) : Prop :=
  match tyAgg P t, tySize P t with
  | some ag, some n =>
    match Nat.ble (off + n) cs.length with
    | true => (match ag with | true => K (.agg ((cs.drop off).take n).toArray) | false => (match Nat.beq n 1 with | true => K ((cs.drop off).headD undef) | false => False))
    | false => False
  | _, _ => False

def fieldAt (s : TypeId) (i : Nat) : Option Field :=
  match P.underlying s with
  | some (.struct fs) => fs[i]?
  | _ => none

/-- A field's place: its cells are not none. -/
def fieldOff (s : TypeId) (i : Nat) : Option Nat :=
  match fieldAt P s i with
  | some f =>
    match tySize P f.type with
    | some (_ + 1) => some f.offset
    | _ => none
  | none => none

def elemOf (t : TypeId) : Option TypeId :=
  match P.underlying t with
  | some (.slice e) => some e
  | _ => none

def boundR (x : Option Value) (d lo hi : Nat) (K : Nat → Prop) : Prop :=
  match x with
  | none => K d
  | some (.int _ i) => (lo : Int) ≤ i ∧ i ≤ (hi : Int) ∧ K i.toNat
  | some _ => False

def sliceR (t : TypeId) (x : Value) (lo hi : Option Value) (K : Value → Prop) : Prop :=
  match P.underlying t, x with
  | some .string, .string s =>
    boundR hi s.size 0 s.size fun h => boundR lo 0 0 h fun l => K (.string (s.extract l h))
  | some (.slice e), .slice A n c =>
    match tySize P e with
    | some sz =>
      match lo with
      | none => boundR hi n 0 c fun h => K (.slice A h c)
      | some _ => boundR hi n 0 c fun h => boundR lo 0 0 h fun l => K (.slice (if c = l then A else A.map fun x => x.add (l * sz)) (h - l) (c - l))
    | none => False
  | _, _ => False

def placesOf : List Field → Option (List (Nat × Nat))
  | [] => some []
  | f :: r =>
    match tySize P f.type, placesOf r with
    | some n, some l => some ((f.offset, n) :: l)
    | _, _ => none

def fillL (place : Nat → Option (Nat × Nat)) (cells : List Value) : List (Nat × Value) → Option (List Value)
  | [] => some cells
  | (i, v) :: rest =>
    match place i with
    | none => none
    | some (off, size) =>
      match Nat.beq (vcells v).length size && Nat.ble (off + size) cells.length with
      | true => fillL place (setSeg cells off (vcells v)) rest
      | false => none

def partsV (st : St) : List (Nat × Operand) → Option (List (Nat × Value))
  | [] => some []
  | (i, x) :: r =>
    match ev st x, partsV st r with
    | some (.v a), some l => some ((i, a) :: l)
    | _, _ => none

def zeroCellsOf (t : TypeId) : Option (List Value) :=
  match P.info? t with
  | some i =>
    match i.zero with
    | some z => some (vcells z)
    | none => none
  | none => none

def buildV (t : TypeId) (parts : List (Nat × Value)) : Option (List Value) :=
  match zeroCellsOf P t, P.underlying t with
  | some z, some (.struct fs) =>
    match placesOf P fs.toList with
    | some pl => fillL (fun i => pl[i]?) z parts
    | none => none
  | some z, some (.array _ e) =>
    match tySize P e with
    | some sz => fillL (fun i => some (i * sz, sz)) z parts
    | none => none
  | _, _ => none

def repV (z : List Value) : Nat → List Value
  | 0 => []
  | n + 1 => z ++ repV z n

/-- A new block. -/
def newR (cells : List Value) (t : TypeId) (h : Heap) (K : Nat → Heap → Prop) : Prop :=
  ∀ (g : Nat) (h' : Heap), h g = none → h' = h.put g ⟨cells, t, (0, 0)⟩ → K g h'

/-- The cells of a slice: n elements of sz cells. -/
def RdS (h : Heap) (A : Option Addr) (n : Nat) (vs : List Value) : Prop :=
  vs.length = n ∧ (0 < n → ∃ ad, A = some ad ∧ LdN h ad vs)

/-- append: what is there, what comes; within the capacity, or into a new row. -/
def appendR (e : TypeId) (sz bytes : Nat) (z : List Value) (A : Option Addr) (n c : Nat) (A' : Option Addr) (m : Nat) (h : Heap) (K : Value → Heap → Prop) : Prop :=
  ∃ xs : List Value, RdS h A' (m * sz) xs ∧ (∀ x ∈ xs, one x = true) ∧
    (n + m ≤ c → Br (decide (m * sz = 0)) (K (.slice A (n + m) c) h) (∃ (ad : Addr) (b : Blk), A = some ad ∧ ad.spot = none ∧ h ad.block = some b ∧ b.fz = (0, 0) ∧ ad.off + n * sz + m * sz ≤ b.cells.length ∧
      ∀ h' : Heap, h' = h.put ad.block { b with cells := setSeg b.cells (ad.off + n * sz) xs } → K (.slice A (n + m) c) h')) ∧
    (c < n + m → ∃ olds : List Value, RdS h A (n * sz) olds ∧ (n + m) * bytes ≤ 140737488355328 ∧
      ∀ (g c' : Nat) (h' : Heap), h g = none → n + m ≤ c' → h' = h.put g ⟨olds ++ xs ++ repV z (c' - (n + m)), e, (0, 0)⟩ →
        K (.slice (some ⟨g, 0, none⟩) (n + m) c') h')

/-- copy: as many as both have. -/
def copyR (sz : Nat) (A : Option Addr) (n : Nat) (A' : Option Addr) (m : Nat) (h : Heap) (K : Value → Heap → Prop) : Prop :=
  ∃ xs : List Value, RdS h A' (min m n * sz) xs ∧ (∀ x ∈ xs, one x = true) ∧
    (min m n * sz = 0 → K (.int .i64 (min m n : Nat)) h) ∧
    (0 < min m n * sz → ∃ ad b, A = some ad ∧ ad.spot = none ∧ h ad.block = some b ∧ b.fz = (0, 0) ∧ ad.off + min m n * sz ≤ b.cells.length ∧
      ∀ h' : Heap, h' = h.put ad.block { b with cells := setSeg b.cells ad.off xs } → K (.int .i64 (min m n : Nat)) h')

def minL (lt : Int → Int → Bool) : Int → List Value → Option Int
  | x, [] => some x
  | x, .int _ y :: r => minL lt (if lt y x then y else x) r
  | _, _ => none

def builtR (b : Builtin) (ts : List TypeId) (args : List Value) (h : Heap) (K : Value → Heap → Prop) : Prop :=
  match b, ts, args with
  | .len, [t], [x] =>
    match P.underlying t, x with
    | some .string, .string s => K (.int .i64 (s.size : Int)) h
    | some (.array n _), _ => K (.int .i64 (n : Int)) h
    | some (.slice _), .slice _ n _ => K (.int .i64 (n : Int)) h
    | _, _ => False
  | .cap, [t], [x] =>
    match P.underlying t, x with
    | some (.slice _), .slice _ _ c => K (.int .i64 (c : Int)) h
    | _, _ => False
  | .min, _, .int k x :: r =>
    match minL (fun y x => decide (y < x)) x r with
    | some z => K (.int k z) h
    | none => False
  | .max, _, .int k x :: r =>
    match minL (fun y x => decide (y > x)) x r with
    | some z => K (.int k z) h
    | none => False
  | .append, [t, t'], [.slice A n c, .slice A' m _] =>
    match P.underlying t, P.underlying t' with
    | some (.slice e), some (.slice _) =>
      match P.info? e with
      | some i =>
        match i.zero with
        | some z =>
          match Nat.beq (vcells z).length i.size && Nat.ble 1 i.size && Nat.ble 1 i.bytes with
          | true => appendR e i.size i.bytes (vcells z) A n c A' m h K
          | false => False
        | none => False
      | none => False
    | _, _ => False
  | .copy, [t, _], [.slice A n _, .slice A' m _] =>
    match P.underlying t with
    | some (.slice e) =>
      match tySize P e with
      | some sz => copyR sz A n A' m h K
      | none => False
    | _ => False
  | _, _, _ => False

def compsOf (t : TypeId) : Option (Bool × List (Bool × List Sh)) :=
  match P.underlying t with
  | some (.tuple ts) => some (true, ts.toList.map (tyComp P))
  | some _ => some (false, [tyComp P t])
  | none => none

/-- What a call gives. -/
def resR (t : TypeId) (v : Value) (K : Value → Prop) : Prop :=
  match compsOf P t with
  | some (true, cs) => exC cs fun us => v = .tuple us.toArray ∧ K (.tuple us.toArray)
  | some (false, cs) => exC cs fun us => v = us.headD undef ∧ K (us.headD undef)
  | none => False

variable (vis : Nat → Bool) (mb : Nat → Bool)

def evO (st : St) : Option Operand → Option (Option Value)
  | none => some none
  | some l =>
    match ev st l with
    | some (.v a) => some (some a)
    | _ => none

def isVis (d : Option Nat) : Bool :=
  match d with
  | some d => vis d
  | none => true

def boxR (d : Option Nat) (t : TypeId) (cells : List Value) (st : St) (K : St → Prop) : Prop :=
  match allOne cells with
  | true =>
    match isVis vis d with
    | true => newR cells t st.h fun g h => putK nt d (.v (.pointer (some ⟨g, 0, none⟩))) (st.setH h) K
    | false => putK nt d (.bx st.nb 0) { st with nb := st.nb + 1, B := fun i => bif Nat.beq i st.nb then cells else st.B i } K
  | false => False

def opV (canSee : Bool) (o : Oper) (st : St) (K : St → Prop) : Prop :=
  match o.op with
  | .move x =>
    match ev st x with
    | some s => putK nt o.dst s st K
    | none => False
  | .assign x =>
    match ev st x with
    | some s => putK nt o.dst s st K
    | none => False
  | .pick c a b =>
    match ev st c with
    | some (.v (.bool t)) =>
      Br t (match ev st a with | some s => putK nt o.dst s st K | none => False) (match ev st b with | some s => putK nt o.dst s st K | none => False)
    | _ => False
  | .binOp op t x y _ =>
    match ev st x, ev st y with
    | some (.v a), some (.v b) => binR P op t a b fun z => putK nt o.dst (.v z) st K
    | _, _ => False
  | .unOp op _ x =>
    match ev st x with
    | some (.v a) => unR op a fun z => putK nt o.dst (.v z) st K
    | _ => False
  | .convert s d x =>
    match ev st x with
    | some (.v a) => convR P s d a fun z => putK nt o.dst (.v z) st K
    | _ => False
  | .nilCheck x =>
    match ev st x with
    | some (.bx i off) => putK nt o.dst (.bx i off) st K
    | some (.v (.pointer (some a))) => putK nt o.dst (.v (.pointer (some a))) st K
    | _ => False
  | .alloc t =>
    match zeroCellsOf P t with
    | some z => boxR nt vis o.dst t z st K
    | none => False
  | .box t x =>
    match ev st x with
    | some (.v a) => boxR nt vis o.dst t (vcells a) st K
    | _ => False
  | .build t ps =>
    match partsV st ps.toList with
    | some l =>
      match buildV P t l with
      | some cs => putK nt o.dst (.v (.agg cs.toArray)) st K
      | none => False
    | none => False
  | .buildSlice t len ps =>
    match elemOf P t with
    | some e =>
      match zeroCellsOf P e, tySize P e, partsV st ps.toList with
      | some z, some sz, some l =>
        match Nat.beq z.length sz && Nat.ble (len * sz) 10000, fillL (fun i => some (i * sz, sz)) (repV z len) l with
        | true, some cs => newR cs e st.h fun g h => putK nt o.dst (.v (.slice (some ⟨g, 0, none⟩) len len)) (st.setH h) K
        | _, _ => False
      | _, _, _ => False
    | none => False
  | .load t x =>
    match ev st x, tyAgg P t, tySize P t with
    | some (.bx i off), some ag, some n =>
      match Nat.blt i st.nb && (Nat.ble (off + n) (st.B i).length && (ag || Nat.beq n 1)) with
      | true => putK nt o.dst (.v (valOf ag (((st.B i).drop off).take n))) st K
      | false => False
    | some (.v (.pointer (some p))), some ag, some n =>
      match canSee && Nat.beq (tyShs P 12 t).length n && (ag || Nat.beq n 1) with
      | true => exL (tyShs P 12 t) fun vs => LdN st.h p vs ∧ putK nt o.dst (.v (valOf ag vs)) st K
      | false => False
    | _, _, _ => False
  | .store t x y =>
    match ev st x, ev st y, tySize P t with
    | some (.bx i off), some (.v a), some n =>
      match mb i && allOne (vcells a) && Nat.beq (vcells a).length n && Nat.ble (off + n) (st.B i).length with
      | true => putK nt o.dst (.v undef) (st.setB i (setSeg (st.B i) off (vcells a))) K
      | false => False
    | some (.v (.pointer (some p))), some (.v a), some n =>
      match allOne (vcells a) && Nat.beq (vcells a).length n with
      | true => ∃ b, st.h p.block = some b ∧ b.fz = (0, 0) ∧ p.spot = none ∧ p.off + n ≤ b.cells.length ∧
          ∀ h' : Heap, h' = st.h.put p.block { b with cells := setSeg b.cells p.off (vcells a) } → putK nt o.dst (.v undef) (st.setH h') K
      | false => False
    | _, _, _ => False
  | .fieldAddr s x i =>
    match ev st x, fieldOff P s i with
    | some (.bx id off), some fo => putK nt o.dst (.bx id (off + fo)) st K
    | some (.v (.pointer (some p))), some fo => putK nt o.dst (.v (.pointer (some (p.add fo)))) st K
    | _, _ => False
  | .field s x i =>
    match ev st x, fieldAt P s i with
    | some (.v (.agg cs)), some f => partR P f.type cs.toList f.offset fun z => putK nt o.dst (.v z) st K
    | _, _ => False
  | .indexAddr t x ix =>
    match ev st x, ev st ix, elemOf P t with
    | some (.v (.slice A n _)), some (.v (.int _ i)), some e =>
      match tySize P e with
      | some sz => ∃ ad, A = some ad ∧ 0 ≤ i ∧ i < (n : Int) ∧ putK nt o.dst (.v (.pointer (some (ad.add (i.toNat * sz))))) st K
      | none => False
    | _, _, _ => False
  | .index t x ix =>
    match ev st x, ev st ix, P.underlying t with
    | some (.v (.string s)), some (.v (.int _ i)), some .string => ∃ b : UInt8, 0 ≤ i ∧ s[i.toNat]? = some b ∧ putK nt o.dst (.v (.int .u8 b.toNat)) st K
    | _, _, _ => False
  | .slice t x lo hi none =>
    match ev st x, evO st lo, evO st hi with
    | some (.v a), some l, some u => sliceR P t a l u fun z => putK nt o.dst (.v z) st K
    | _, _, _ => False
  | .makeSlice t l c =>
    match ev st l, ev st c, elemOf P t with
    | some (.v (.int _ n)), some (.v (.int _ k)), some e =>
      match P.info? e, zeroCellsOf P e with
      | some i, some z =>
        match Nat.beq z.length i.size && Nat.ble 1 i.size with
        | true => 0 ≤ n ∧ n ≤ k ∧ k * (i.bytes : Int) ≤ 140737488355328 ∧ k ≤ 9223372036854775807 ∧
          newR (repV z k.toNat) e st.h fun g h => putK nt o.dst (.v (.slice (some ⟨g, 0, none⟩) n.toNat k.toNat)) (st.setH h) K
        | false => False
      | _, _ => False
    | _, _, _ => False
  | .extract x i =>
    match ev st x with
    | some (.v (.tuple vs)) =>
      match vs.toList[i]? with
      | some z => putK nt o.dst (.v z) st K
      | none => False
    | _ => False
  | .call c =>
    match c.callee, evs st c.args.toList with
    | .value (.func f), some args => CallsU P f args st.h fun v h => resR P o.type v fun z => putK nt o.dst (.v z) (st.setH h) K
    | .builtin b, some args => builtR P b c.argTypes.toList args st.h fun z h => putK nt o.dst (.v z) (st.setH h) K
    | _, _ => False
  | _ => False

/-- An operation with its guard. -/
def opG (ops : List Oper) (canSee : Bool) (o : Oper) (st : St) (K : St → Prop) : Prop :=
  match o.guard with
  | none => opV P nt vis mb canSee o st K
  | some (j, want) =>
    match (ops[j]?).bind (·.dst) with
    | none => False
    | some g =>
      match st.f g with
      | some (.v (.bool t)) =>
        Br t (match want with | true => opV P nt vis mb canSee o (st.put g (.v (.bool true))) K | false => putK nt o.dst (.v undef) (st.put g (.v (.bool true))) K)
          (match want with | false => opV P nt vis mb canSee o (st.put g (.v (.bool false))) K | true => putK nt o.dst (.v undef) (st.put g (.v (.bool false))) K)
      | some (.v (.tuple _)) => putK nt o.dst (.v undef) st K
      | _ => False

/-- Operations one behind the other. -/
def opsV (ops : List Oper) : List Oper → St → (St → Prop) → Prop
  | [], st, K => K st
  | o :: r, st, K => opG P nt vis mb ops true o st fun st' => opsV ops r st' K

end

/-! ### regions that draw -/

def memN (i : Nat) : List Nat → Bool
  | [] => false
  | j :: r => bif Nat.beq i j then true else memN i r

def insN (i : Nat) (l : List Nat) : List Nat := bif memN i l then l else i :: l

/-- The operations' places that must come ahead (edges that bind), transitively: a row for each operation. -/
def ancEs (rows : List (List Nat)) : List Edge → List Nat
  | [] => []
  | e :: r =>
    match Region.binds .any e with
    | true => insN e.on (((rows[e.on]?).getD []).foldr insN (ancEs rows r))
    | false => ancEs rows r

def ancs : List Oper → List (List Nat) → List (List Nat)
  | [], rows => rows
  | o :: r, rows => ancs r (rows ++ [ancEs rows o.after.toList])

/-- Operations that only compute. -/
def pureOp : Op → Bool
  | .move _ | .assign _ | .pick .. | .binOp .. | .unOp .. | .convert .. | .nilCheck _ | .build .. | .fieldAddr .. | .field .. | .indexAddr .. | .index .. | .slice .. | .extract .. => true
  | .call { callee := .builtin .len, .. } => true
  | .call { callee := .builtin .cap, .. } => true
  | .call { callee := .builtin .min, .. } => true
  | .call { callee := .builtin .max, .. } => true
  | _ => false

def isLoad : Op → Bool
  | .load .. => true
  | _ => false

def isStore : Op → Bool
  | .store .. => true
  | _ => false

/-- Operations that leave visible memory and boxes as they are, but for new ones: calls of Go functions do not (they may write what is visible). -/
def opTmps (ops : List Oper) (o : Oper) : List Nat :=
  o.dst.toList ++ (o.op.operands.toList.filterMap fun | .tmp t => some t | _ => none) ++ (match o.guard with | some (j, _) => ((ops[j]?).bind (·.dst)).toList | none => [])

/-- Two operations that share no slot that one of them writes. -/
def apartB (ops : List Oper) (x y : Oper) : Bool :=
  (match x.dst with | some d => !memN d (opTmps ops y) | none => true) && (match y.dst with | some d => !memN d (opTmps ops x) | none => true)

def guardJ (ops : List Oper) (o : Oper) : Option Nat :=
  match o.guard with
  | some (j, _) => (ops[j]?).bind (·.dst)
  | none => none

def isFCall : Op → Bool
  | .call { callee := .value (.func _), .. } => true
  | _ => false

/-- May x, ahead of y in the order that is looked at, come behind y in another one? -/
def mayPass (al : Oper → Bool) (ops : List Oper) (x y : Oper) : Bool :=
  apartB ops x y && (pureOp x.op || (isLoad x.op && !isStore y.op) || (isFCall x.op && al y && x.guard.isNone && y.guard.isNone) || (al x && al y && x.guard.isNone && y.guard.isNone))

def seesB (ops : List Oper) (anc : List (List Nat)) (i : Nat) : List Nat → Bool
  | [] => true
  | j :: r => (match ops[j]? with | some y => (pureOp y.op || isLoad y.op || memN i ((anc[j]?).getD [])) | none => false) && seesB ops anc i r

def passOk (al : Oper → Bool) (ops : List Oper) (anc : List (List Nat)) (i : Nat) : List Nat → Bool
  | [] => true
  | j :: r => (memN i ((anc[j]?).getD []) || (match ops[i]?, ops[j]? with | some x, some y => mayPass al ops x y | _, _ => false)) && passOk al ops anc i r

def orderOk (al : Oper → Bool) (ops : List Oper) (anc : List (List Nat)) : List Nat → Bool
  | [] => true
  | i :: r => passOk al ops anc i r && orderOk al ops anc r

/-- Edges that bind go back. -/
def backEs (i : Nat) : List Edge → Bool
  | [] => true
  | e :: r => (!Region.binds .any e || Nat.blt e.on i) && backEs i r

def backOk : Nat → List Oper → Bool
  | _, [] => true
  | i, o :: r => backEs i o.after.toList && backOk (i + 1) r

def nodupN : List Nat → Bool
  | [] => true
  | i :: r => !memN i r && nodupN r

def permOk (n : Nat) (L : List Nat) : Bool := Nat.beq L.length n && nodupN L && (List.range n).all (memN · L) && L.all (fun i => Nat.blt i n)

section
variable (P : Program) (nt : Nat) (vis : Nat → Bool) (mb : Nat → Bool)

/-- A new box that can be made. -/
def okAlloc (y : Oper) : Bool :=
  match y.op, y.dst with
  | .alloc t, some d => Nat.blt d nt && (match zeroCellsOf P t with | some z => allOne z | none => false)
  | _, _ => false

/-- A region that draws, looked at in the order L. -/
def drawV (ops : List Oper) (anc : List (List Nat)) : List Nat → St → (St → Prop) → Prop
  | [], st, K => K st
  | i :: r, st, K =>
    match ops[i]? with
    | some o => opG P nt vis mb ops (seesB ops anc i r) o st fun st' => drawV ops anc r st' K
    | none => False

def thenQ (next : St → Prop) (Q : Exit → St → Prop) : Exit → St → Prop
  | .normal, st => next st
  | e, st => Q e st

def blockQ (id : Nat) (Q : Exit → St → Prop) : Exit → St → Prop
  | .exit i, st =>
    match Nat.beq i id with
    | true => Q .normal st
    | false => Q (.exit i) st
  | e, st => Q e st

def V : Code → Ann → (Nat → Bool) → (Exit → St → Prop) → St → Prop
  | .skip, _, _, Q, st => Q .normal st
  | .ret, _, _, Q, st => Q .ret st
  | .exit id, _, _, Q, st => Q (.exit id) st
  | .region _ ops false, _, mb, Q, st => opsV P nt vis mb ops.toList ops.toList st (Q .normal)
  | .region _ ops true, .ord L, mb, Q, st =>
    match permOk ops.size L && backOk 0 ops.toList && orderOk (okAlloc P nt) ops.toList (ancs ops.toList []) L with
    | true => drawV P nt vis mb ops.toList (ancs ops.toList []) L st (Q .normal)
    | false => False
  | .seq a b, .two x y, mb, Q, st => V a x mb (thenQ (fun st' => V b y mb Q st') Q) st
  | .seq a b, .cut k x y, mb, Q, st =>
    ∃ C : FunT k.shs, (allL k.shs fun vs => ∀ h : Heap, appV k.shs C vs h → V b y mb Q (k.head a st vs h)) ∧
      V a x (k.mb st.nb mb) (thenQ (fun st' => k.app C st') Q) st
  | .seq a b, _, mb, Q, st => V a .nil mb (thenQ (fun st' => V b .nil mb Q st') Q) st
  | .cond c a b, .two x y, mb, Q, st =>
    match ev st c with
    | some (.v (.bool t)) => Br t (V a x mb Q st) (V b y mb Q st)
    | _ => False
  | .cond c a b, _, mb, Q, st =>
    match ev st c with
    | some (.v (.bool t)) => Br t (V a .nil mb Q st) (V b .nil mb Q st)
    | _ => False
  | .block id a, .one x, mb, Q, st => V a x mb (blockQ id Q) st
  | .block id a, _, mb, Q, st => V a .nil mb (blockQ id Q) st
  | .loop a, .loop k x, mb, Q, st =>
    ∃ J : Nat → FunT k.shs, (∃ m, k.app (J m) st) ∧
      ∀ m, allL k.shs fun vs => ∀ h : Heap, appV k.shs (J m) vs h →
        V a x (k.mb st.nb mb) (thenQ (fun st' => ∃ m', m' < m ∧ k.app (J m') st') Q) (k.head a st vs h)
  | _, _, _, _, _ => False

end

section
variable (P : Program)

/-- The results. -/
def resOne (st : St) : ResultVar → Option Value
  | .tmp t =>
    match st.f t with
    | some (.v x) => some x
    | _ => none
  | .cell t ty =>
    match st.f t, tyAgg P ty, tySize P ty with
    | some (.bx i off), some ag, some n =>
      match Nat.ble (off + n) (st.B i).length && (ag || Nat.beq n 1) with
      | true => some (valOf ag (((st.B i).drop off).take n))
      | false => none
    | _, _, _ => none

def resAll (st : St) : List ResultVar → Option (List Value)
  | [] => some []
  | r :: rs =>
    match resOne P st r, resAll st rs with
    | some x, some l => some (x :: l)
    | _, _ => none

def retQ (fn : Func) (R : Value → Heap → Prop) (st : St) : Prop :=
  match resAll P st fn.results.toList with
  | some [x] => R x st.h
  | some l => R (.tuple l.toArray) st.h
  | none => False

def endQ (fn : Func) (R : Value → Heap → Prop) : Exit → St → Prop
  | .normal, st => retQ P fn R st
  | .ret, st => retQ P fn R st
  | _, _ => False

def argF : List Value → Nat → Option SV
  | [], _ => none
  | v :: _, 0 => some (.v v)
  | _ :: r, n + 1 => argF r n

def st0 (args : List Value) (h : Heap) : St := { f := argF args, B := fun _ => [], nb := 0, h := h }

def fnV (fn : Func) (vis : Nat → Bool) (an : Ann) (args : List Value) (h : Heap) (R : Value → Heap → Prop) : Prop :=
  match fn.body with
  | some c => V P fn.ntmps vis c an (fun _ => true) (endQ P fn R) (st0 args h)
  | none => False

end
end Go.Vcg
