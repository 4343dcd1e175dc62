/-
  A calculator of verification conditions over the model's code: definitions. A heap of visible blocks, hidden boxes for local structs, typed payloads.
-/
import Derived.Orders
import Derived.WalkKit
namespace Go.Vcg
open Go

/-- A test on a Bool. -/
def Br (b : Bool) (X Y : Prop) : Prop :=
  match b with
  | true => X
  | false => Y

theorem Br.mk {b : Bool} {X Y : Prop} (h1 : b = true → X) (h2 : b = false → Y) : Br b X Y := by
  cases b
  · exact h2 rfl
  · exact h1 rfl

structure Blk where
  cells : List Value
  ty : TypeId
  fz : Nat × Nat

abbrev Heap := Nat → Option Blk

def Heap.put (h : Heap) (g : Nat) (b : Blk) : Heap := fun k => if k = g then some b else h k

def Sat (h : Heap) (w : World) : Prop := ∀ k b, h k = some b → w.heap[k]? = some (.cells b.cells.toArray b.ty b.fz)

structure Frm (h0 h : Heap) (w0 w : World) : Prop where
  size : w0.heap.size ≤ w.heap.size
  os : w.os = w0.os
  tape : w.tape = w0.tape
  output : w.output = w0.output
  keep : ∀ k, k < w0.heap.size → h0 k = none → h k = none ∧ w.heap[k]? = w0.heap[k]?

def Callable (P : Program) (f : FuncId) : Prop := ∃ fn, P.funcs[f]? = some fn ∧ fn.body.isNone = false ∧ (fn.name == "runtime.NumGoroutine") = false

def CallsU (P : Program) (f : FuncId) (args : List Value) (h : Heap) (R : Value → Heap → Prop) : Prop :=
  Callable P f ∧ ∀ w, Sat h w → Calls P f args.toArray w fun e w' => ∃ v h', e = .returned v ∧ R v h' ∧ Sat h' w' ∧ Frm h h' w w'

theorem CallsU.mono {P : Program} {f : FuncId} {args : List Value} {h : Heap} {R R' : Value → Heap → Prop} (c : CallsU P f args h R) (hr : ∀ v h', R v h' → R' v h') : CallsU P f args h R' :=
  ⟨c.1, fun w hw => (c.2 w hw).mono fun _ _ ⟨v, h', e, r, s, fr⟩ => ⟨v, h', e, hr _ _ r, s, fr⟩⟩

/-- A value of the frame: a plain value, or a pointer into a hidden box. -/
inductive SV where
  | v (x : Value)
  | bx (id off : Nat)

def SV.val (s : Nat → Nat) : SV → Value
  | .v x => x
  | .bx id off => .pointer (some ⟨s id, off, none⟩)

structure St where
  f : Nat → Option SV
  B : Nat → List Value
  nb : Nat
  h : Heap

def St.put (st : St) (d : Nat) (s : SV) : St := { st with f := fun t => bif Nat.beq t d then some s else st.f t }
def St.setB (st : St) (id : Nat) (cs : List Value) : St := { st with B := fun i => bif Nat.beq i id then cs else st.B i }
def St.setH (st : St) (h : Heap) : St := { st with h := h }

def ev (st : St) : Operand → Option SV
  | .tmp t => st.f t
  | .const v => some (.v v)
  | .global g => some (.v (.pointer (some ⟨g, 0, none⟩)))
  | .func f => some (.v (.func (.func f) #[] #[]))

/-- The operands' plain values. -/
def evs (st : St) : List Operand → Option (List Value)
  | [] => some []
  | x :: r =>
    match ev st x, evs st r with
    | some (.v a), some l => some (a :: l)
    | _, _ => none

inductive Sh where
  | int (k : IntKind)
  | bool
  | str
  | slice
  | ptr

def Sh.ex (s : Sh) (F : Value → Prop) : Prop :=
  match s with
  | .int k => ∃ n : Int, F (.int k n)
  | .bool => ∃ b : Bool, F (.bool b)
  | .str => ∃ s : ByteArray, F (.string s)
  | .slice => ∃ (A : Option Addr) (n c : Nat), F (.slice A n c)
  | .ptr => ∃ a : Option Addr, F (.pointer a)

def Sh.all (s : Sh) (F : Value → Prop) : Prop :=
  match s with
  | .int k => ∀ n : Int, F (.int k n)
  | .bool => ∀ b : Bool, F (.bool b)
  | .str => ∀ s : ByteArray, F (.string s)
  | .slice => ∀ (A : Option Addr) (n c : Nat), F (.slice A n c)
  | .ptr => ∀ a : Option Addr, F (.pointer a)

def exL : List Sh → (List Value → Prop) → Prop
  | [], F => F []
  | s :: r, F => s.ex fun v => exL r fun vs => F (v :: vs)

def allL : List Sh → (List Value → Prop) → Prop
  | [], F => F []
  | s :: r, F => s.all fun v => allL r fun vs => F (v :: vs)

/-- One component of a result: a struct's cells, or a plain value. -/
def exC : List (Bool × List Sh) → (List Value → Prop) → Prop
  | [], F => F []
  | (true, ss) :: r, F => exL ss fun vs => exC r fun us => F (.agg vs.toArray :: us)
  | (false, ss) :: r, F => exL ss fun vs => exC r fun us => F (vs.headD undef :: us)

def FunT : List Sh → Type
  | [] => Heap → Prop
  | .int _ :: r => Int → FunT r
  | .bool :: r => Bool → FunT r
  | .str :: r => ByteArray → FunT r
  | .slice :: r => Option Addr → Nat → Nat → FunT r
  | .ptr :: r => Option Addr → FunT r

def appV : (ss : List Sh) → FunT ss → List Value → Heap → Prop
  | [], J, [], h => J h
  | .int k :: r, J, .int k' n :: vs, h =>
    match decide (k = k') with
    | true => appV r (J n) vs h
    | false => False
  | .bool :: r, J, .bool b :: vs, h => appV r (J b) vs h
  | .str :: r, J, .string s :: vs, h => appV r (J s) vs h
  | .slice :: r, J, .slice A n c :: vs, h => appV r (J A n c) vs h
  | .ptr :: r, J, .pointer a :: vs, h => appV r (J a) vs h
  | _, _, _, _ => False

/-- What a loop or a cut generalizes: slots and whole boxes. -/
structure Keep where
  slots : List (Nat × Sh)
  boxes : List (Nat × List Sh)

def Keep.shs (k : Keep) : List Sh := k.slots.map (·.2) ++ (k.boxes.map (·.2)).flatten

/-- The values that a state holds at what is generalized. -/
def slotVals (st : St) : List (Nat × Sh) → Option (List Value)
  | [] => some []
  | (t, _) :: r =>
    match st.f t, slotVals st r with
    | some (.v x), some l => some (x :: l)
    | _, _ => none

def boxVals (st : St) : List (Nat × List Sh) → Option (List Value)
  | [] => some []
  | (id, ss) :: r =>
    match Nat.beq (st.B id).length ss.length, boxVals st r with
    | true, some l => some (st.B id ++ l)
    | _, _ => none

def Keep.vals (k : Keep) (st : St) : Option (List Value) :=
  match slotVals st k.slots, boxVals st k.boxes with
  | some a, some b => some (a ++ b)
  | _, _ => none

/-- The state at the head: what is generalized holds the values vs; what the code writes is forgotten. -/
def headF : List (Nat × Sh) → List Value → (Nat → Option SV) → Nat → Option SV
  | (s, _) :: r, v :: vs, f, t => bif Nat.beq t s then some (.v v) else headF r vs f t
  | _, _, f, t => f t

def headB : List (Nat × List Sh) → List Value → (Nat → List Value) → Nat → List Value
  | (i, ss) :: r, vs, B, id => bif Nat.beq id i then vs.take ss.length else headB r (vs.drop ss.length) B id
  | [], _, B, id => B id

def opsWrite (t : Nat) : List Oper → Bool
  | [] => false
  | o :: r =>
    match o.dst with
    | some d => bif Nat.beq t d then true else opsWrite t r
    | none => opsWrite t r

def writes (t : Nat) : Code → Bool
  | .region _ ops _ => opsWrite t ops.toList
  | .seq a b => writes t a || writes t b
  | .cond _ a b => writes t a || writes t b
  | .block _ a => writes t a
  | .loop a => writes t a
  | .skip => false
  | .exit _ => false
  | .ret => false
  | _ => true

def Keep.head (k : Keep) (c : Code) (st : St) (vs : List Value) (h : Heap) : St where
  f := headF k.slots (vs.take k.slots.length) fun t => bif writes t c then none else st.f t
  B := headB k.boxes (vs.drop k.slots.length) st.B
  nb := st.nb
  h := h

/-- The state at a way's end holds something that the relation J admits. -/
def Keep.app (k : Keep) (J : FunT k.shs) (st : St) : Prop :=
  match k.vals st with
  | some vs => appV k.shs J vs st.h
  | none => False

def inBoxes (id : Nat) : List (Nat × List Sh) → Bool
  | [] => false
  | (i, _) :: r => bif Nat.beq id i then true else inBoxes id r

/-- Which boxes may be written inside: those generalized, and new ones. -/
def Keep.mb (k : Keep) (nb : Nat) (mb : Nat → Bool) (id : Nat) : Bool := bif Nat.ble nb id then true else (mb id && inBoxes id k.boxes)

/-- Annotations of code: where loops and cuts generalize what; the order in which a region that draws is looked at. -/
inductive Ann where
  | nil
  | ord (L : List Nat)
  | two (a b : Ann)
  | one (a : Ann)
  | cut (k : Keep) (a b : Ann)
  | loop (k : Keep) (a : Ann)

/-! ### memory -/

/-- The cells from address p on read vs. -/
def LdN (h : Heap) (p : Addr) (vs : List Value) : Prop := p.spot = none ∧ ∃ b, h p.block = some b ∧ (b.cells.drop p.off).take vs.length = vs

/-- One cell. -/
def Ld (h : Heap) (p : Addr) (v : Value) : Prop := p.spot = none ∧ ∃ b, h p.block = some b ∧ b.cells[p.off]? = some v

def setSeg (l : List Value) (off : Nat) (vs : List Value) : List Value := l.take off ++ vs ++ l.drop (off + vs.length)

def vcells : Value → List Value
  | .agg cs => cs.toList
  | v => [v]

def one : Value → Bool
  | .agg _ => false
  | .tuple _ => false
  | _ => true

def allOne : List Value → Bool
  | [] => true
  | v :: r => one v && allOne r

def tyAgg (P : Program) (t : TypeId) : Option Bool :=
  match P.underlying t with
  | some (.struct _) => some true
  | some (.array _ _) => some true
  | some _ => some false
  | none => none

def tySize (P : Program) (t : TypeId) : Option Nat :=
  match P.info? t with
  | some i => some i.size
  | none => none

def leafSh : TypeDesc → Option Sh
  | .int k => some (.int k)
  | .bool => some .bool
  | .string => some .str
  | .slice _ => some .slice
  | .pointer _ => some .ptr
  | _ => none

def repL (l : List Sh) : Nat → List Sh
  | 0 => []
  | n + 1 => l ++ repL l n

/-- The leaves of a type. -/
def tyShs (P : Program) : Nat → TypeId → List Sh
  | 0, _ => []
  | d + 1, t =>
    match P.underlying t with
    | some (.struct fs) => fs.toList.foldr (fun f acc => tyShs P d f.type ++ acc) []
    | some (.array n e) => repL (tyShs P d e) n
    | some td =>
      match leafSh td with
      | some s => [s]
      | none => []
    | none => []

def tyComp (P : Program) (t : TypeId) : Bool × List Sh :=
  match tyAgg P t with
  | some true => (true, tyShs P 12 t)
  | _ => (false, tyShs P 12 t)

def valOf (ag : Bool) (vs : List Value) : Value :=
  match ag with
  | true => .agg vs.toArray
  | false => vs.headD undef

end Go.Vcg
