/-
 Gathered texts of this proof: Vcg1,Vcg2,Vcg3,Vcg5,Vcg6,Vcg7,Vcg8,Vcg9,Vcg10.
-/
import Derived.Orders
import Derived.WalkKit

namespace Go.Vcg
open Go
def Br (b:Bool) (X Y:Prop):Prop:=
 match b with
 | true=>X
 | false=>Y
theorem Br.mk {b:Bool} {X Y:Prop} (h1:b=true->X) (h2:b=false->Y):Br b X Y:=by
 cases b
 ·exact h2 rfl
 ·exact h1 rfl
structure Blk where
 cells:List Value
 ty:TypeId
 fz:Nat×Nat
abbrev Heap:=Nat->Option Blk
abbrev OA:=Option Addr
def Heap.put (h:Heap) (g:Nat) (b:Blk):Heap:=fun k=>if k=g then some b else h k
def codeL:List UInt8->Nat
 | []=>0
 | b::r=>b.toNat+1+257*codeL r
def itB (s:ByteArray) (p:Nat):Blk:=⟨[],0,(p+1,codeL s.data.toList)⟩
theorem codeL_inj : ∀ {a b:List UInt8},codeL a=codeL b->a=b
 | [],[],_=>rfl
 | [],y::s,h=>by simp only [codeL] at h;omega
 | x::r,[],h=>by simp only [codeL] at h;omega
 | x::r,y::s,h=>by
  simp only [codeL] at h
  have h1:=x.toNat_lt
  have h2:=y.toNat_lt
  have e1:x.toNat=y.toNat:=by omega
  have e2:codeL r=codeL s:=by omega
  rw [codeL_inj e2,UInt8.toNat_inj.1 e1]
theorem itB_inj {s s' : ByteArray} {p p' : Nat} (h:itB s p=itB s' p'):s=s' /\ p=p' := by
 simp only [itB,Blk.mk.injEq,true_and,Prod.mk.injEq] at h
 obtain ⟨h1,h2⟩:=h
 have:=codeL_inj h2
 cases s;cases s'
 simp only at this
 exact ⟨by rw [Array.toList_inj.1 this],by omega⟩
def plainB (b:Blk):Bool:= !b.cells.isEmpty||Nat.beq b.fz.1 0
theorem itB_not (s:ByteArray) (p:Nat):plainB (itB s p)=false:=rfl
structure SatB (w:World) (k:Nat) (b:Blk):Prop where
 lt:k<w.heap.size
 cells:plainB b=true->w.heap[k]?=some (.cells b.cells.toArray b.ty b.fz)
 iter : ∀ s p,b=itB s p->w.heap[k]?=some (.stringIter s p)
def Sat (h:Heap) (w:World):Prop:= ∀ k b,h k=some b->SatB w k b
theorem SatB.mk' {w:World} {k:Nat} {b:Blk} (hb:plainB b=true) (h:w.heap[k]?=some (.cells b.cells.toArray b.ty b.fz)):SatB w k b:=
 ⟨(Array.getElem?_eq_some_iff.1 h).1,fun _=>h,fun s p e=>by rw [e,itB_not] at hb;cases hb⟩
theorem SatB.mkIt {w:World} {k:Nat} {s:ByteArray} {p:Nat} (h:w.heap[k]?=some (.stringIter s p)):SatB w k (itB s p):=
 ⟨(Array.getElem?_eq_some_iff.1 h).1,(fun q=>by rw [itB_not] at q;cases q),fun s' p' e=>by obtain ⟨rfl,rfl⟩:=itB_inj e;exact h⟩
theorem SatB.same {w w' : World} {k:Nat} {b:Blk} (h:SatB w k b) (e:w'.heap[k]?=w.heap[k]?):SatB w' k b:=
 ⟨by
  have:=h.lt
  rw [Array.getElem?_eq_getElem this] at e
  exact (Array.getElem?_eq_some_iff.1 e).1,fun q=>by rw [e];exact h.cells q,fun s p q=>by rw [e];exact h.iter s p q⟩
theorem plain_fz {b:Blk} (h:b.fz=(0,0)):plainB b=true:=by
 unfold plainB
 rw [h]
 simp
theorem plain_take {b:Blk} {off:Nat} {vs:List Value} (h:(b.cells.drop off).take vs.length=vs) (hv:vs≠[]):plainB b=true:=by
 unfold plainB
 cases hc:b.cells with
 | nil=>rw [hc] at h;simp at h;exact absurd h.symm (by simpa using hv)
 | cons _ _=>rfl
structure Frm (h0 h:Heap) (w0 w:World):Prop where
 size:w0.heap.size<=w.heap.size
 os:w.os=w0.os
 tape:w.tape=w0.tape
 output:w.output=w0.output
 keep : ∀ k,k<w0.heap.size->h0 k=none->h k=none/\w.heap[k]?=w0.heap[k]?
def Callable (P:Program) (f:FuncId):Prop:= ∃ fn,P.funcs[f]?=some fn/\fn.body.isNone=false/\(fn.name == "runtime.NumGoroutine")=false
def CallsU (P:Program) (f:FuncId) (args:List Value) (h:Heap) (R:Value->Heap->Prop):Prop:=
 Callable P f/\ ∀ w,Sat h w->Calls P f args.toArray w fun e w' => ∃ v h', e = .returned v/\R v h' /\ Sat h' w' /\ Frm h h' w w'
theorem CallsU.mono {P:Program} {f:FuncId} {args:List Value} {h:Heap} {R R' : Value->Heap->Prop} (c:CallsU P f args h R) (hr : ∀ v h', R v h' -> R' v h'):CallsU P f args h R' :=
 ⟨c.1,fun w hw=>(c.2 w hw).mono fun _ _ ⟨v,h', e,r,s,fr⟩=>⟨v,h', e,hr _ _ r,s,fr⟩⟩
inductive SV where
 | v (x:Value)
 | bx (id off:Nat)
def SV.val (s:Nat->Nat):SV->Value
 | .v x=>x
 | .bx id off=> .pointer (some ⟨s id,off,none⟩)
structure St where
 f:Nat->Option SV
 B:Nat->List Value
 nb:Nat
 h:Heap
def St.put (st:St) (d:Nat) (s:SV):St:={ st with f:=fun t=>bif Nat.beq t d then some s else st.f t }
def St.setB (st:St) (id:Nat) (cs:List Value):St:={ st with B:=fun i=>bif Nat.beq i id then cs else st.B i }
def St.setH (st:St) (h:Heap):St:={ st with h:=h }
def ev (st:St):Operand->Option SV
 | .tmp t=>st.f t
 | .const v=>some (.v v)
 | .global g=>some (.v (.pointer (some ⟨g,0,none⟩)))
 | .func f=>some (.v (.func (.func f) #[] #[]))
def evs (st:St):List Operand->Option (List Value)
 | []=>some []
 | x::r=>
  match ev st x,evs st r with
  | some (.v a),some l=>some (a::l)
  | _,_=>none
inductive Sh where
 | int (k:IntKind)
 | bool
 | str
 | slice
 | ptr
 | any
def Sh.ex (s:Sh) (F:Value->Prop):Prop:=
 match s with
 | .int k=> ∃ n:Int,F (.int k n)
 | .bool=> ∃ b:Bool,F (.bool b)
 | .str=> ∃ s:ByteArray,F (.string s)
 | .slice=> ∃ (A:Option Addr) (n c:Nat),F (.slice A n c)
 | .ptr=> ∃ a:Option Addr,F (.pointer a)
 | .any=> ∃ v:Value,F v
def Sh.all (s:Sh) (F:Value->Prop):Prop:=
 match s with
 | .int k=> ∀ n:Int,F (.int k n)
 | .bool=> ∀ b:Bool,F (.bool b)
 | .str=> ∀ s:ByteArray,F (.string s)
 | .slice=> ∀ (A:Option Addr) (n c:Nat),F (.slice A n c)
 | .ptr=> ∀ a:Option Addr,F (.pointer a)
 | .any=> ∀ v:Value,F v
def exL:List Sh->(List Value->Prop)->Prop
 | [],F=>F []
 | s::r,F=>s.ex fun v=>exL r fun vs=>F (v::vs)
def allL:List Sh->(List Value->Prop)->Prop
 | [],F=>F []
 | s::r,F=>s.all fun v=>allL r fun vs=>F (v::vs)
def exC:List (Bool×List Sh)->(List Value->Prop)->Prop
 | [],F=>F []
 | (true,ss)::r,F=>exL ss fun vs=>exC r fun us=>F (.agg vs.toArray::us)
 | (false,ss)::r,F=>exL ss fun vs=>exC r fun us=>F (vs.headD undef::us)
def FunT:List Sh->Type
 | []=>Heap->Prop
 | .int _::r=>Int->FunT r
 | .bool::r=>Bool->FunT r
 | .str::r=>ByteArray->FunT r
 | .slice::r=>Option Addr->Nat->Nat->FunT r
 | .ptr::r=>Option Addr->FunT r
 | .any::r=>Value->FunT r
def appV:(ss:List Sh)->FunT ss->List Value->Heap->Prop
 | [],J,[],h=>J h
 | .int k::r,J,.int k' n::vs,h=>
  match decide (k=k') with
  | true=>appV r (J n) vs h
  | false=>False
 | .bool::r,J,.bool b::vs,h=>appV r (J b) vs h
 | .str::r,J,.string s::vs,h=>appV r (J s) vs h
 | .slice::r,J,.slice A n c::vs,h=>appV r (J A n c) vs h
 | .ptr::r,J,.pointer a::vs,h=>appV r (J a) vs h
 | .any::r,J,v::vs,h=>appV r (J v) vs h
 | _,_,_,_=>False
structure Keep where
 slots:List (Nat×Sh)
 boxes:List (Nat×List Sh)
def Keep.shs (k:Keep):List Sh:=k.slots.map (·.2)++(k.boxes.map (·.2)).flatten
def slotVals (st:St):List (Nat×Sh)->Option (List Value)
 | []=>some []
 | (t,_)::r=>
  match st.f t,slotVals st r with
  | some (.v x),some l=>some (x::l)
  | _,_=>none
def boxVals (st:St):List (Nat×List Sh)->Option (List Value)
 | []=>some []
 | (id,ss)::r=>
  match Nat.beq (st.B id).length ss.length,boxVals st r with
  | true,some l=>some (st.B id++l)
  | _,_=>none
def Keep.vals (k:Keep) (st:St):Option (List Value):=
 match slotVals st k.slots,boxVals st k.boxes with
 | some a,some b=>some (a++b)
 | _,_=>none
def headF:List (Nat×Sh)->List Value->(Nat->Option SV)->Nat->Option SV
 | (s,_)::r,v::vs,f,t=>bif Nat.beq t s then some (.v v) else headF r vs f t
 | _,_,f,t=>f t
def headB:List (Nat×List Sh)->List Value->(Nat->List Value)->Nat->List Value
 | (i,ss)::r,vs,B,id=>bif Nat.beq id i then vs.take ss.length else headB r (vs.drop ss.length) B id
 | [],_,B,id=>B id
def opsWrite (t:Nat):List Oper->Bool
 | []=>false
 | o::r=>
  match o.dst with
  | some d=>bif Nat.beq t d then true else opsWrite t r
  | none=>opsWrite t r
def writes (t:Nat):Code->Bool
 | .region _ ops _=>opsWrite t ops.toList
 | .seq a b=>writes t a||writes t b
 | .cond _ a b=>writes t a||writes t b
 | .block _ a=>writes t a
 | .loop a=>writes t a
 | .skip=>false
 | .exit _=>false
 | .ret=>false
 | _=>true
def Keep.head (k:Keep) (c:Code) (st:St) (vs:List Value) (h:Heap):St where
 f:=headF k.slots (vs.take k.slots.length) fun t=>bif writes t c then none else st.f t
 B:=headB k.boxes (vs.drop k.slots.length) st.B
 nb:=st.nb
 h:=h
def Keep.app (k:Keep) (J:FunT k.shs) (st:St):Prop:=
 match k.vals st with
 | some vs=>appV k.shs J vs st.h
 | none=>False
def inBoxes (id:Nat):List (Nat×List Sh)->Bool
 | []=>false
 | (i,_)::r=>bif Nat.beq id i then true else inBoxes id r
def Keep.mb (k:Keep) (nb:Nat) (mb:Nat->Bool) (id:Nat):Bool:=bif Nat.ble nb id then true else (mb id&&inBoxes id k.boxes)
inductive Ann where
 | nil
 | ord (L:List Nat)
 | two (a b:Ann)
 | one (a:Ann)
 | cut (k:Keep) (a b:Ann)
 | loop (k:Keep) (a:Ann)
 | all
def LdN (h:Heap) (p:Addr) (vs:List Value):Prop:=p.spot=none/\ ∃ b,h p.block=some b/\(b.cells.drop p.off).take vs.length=vs
def setSeg (l:List Value) (off:Nat) (vs:List Value):List Value:=l.take off++vs++l.drop (off+vs.length)
def vcells:Value->List Value
 | .agg cs=>cs.toList
 | v=>[v]
def one:Value->Bool
 | .agg _=>false
 | .tuple _=>false
 | _=>true
def allOne:List Value->Bool
 | []=>true
 | v::r=>one v&&allOne r
def tyAgg (P:Program) (t:TypeId):Option Bool:=
 match P.underlying t with
 | some (.struct _)=>some true
 | some (.array _ _)=>some true
 | some _=>some false
 | none=>none
def tySize (P:Program) (t:TypeId):Option Nat:=
 match P.info? t with
 | some i=>some i.size
 | none=>none
def leafSh:TypeDesc->Option Sh
 | .int k=>some (.int k)
 | .bool=>some .bool
 | .string=>some .str
 | .slice _=>some .slice
 | .pointer _=>some .ptr
 | .interface _=>some .any
 | _=>none
def repL (l:List Sh):Nat->List Sh
 | 0=>[]
 | n+1=>l++repL l n
def tyShs (P:Program):Nat->TypeId->List Sh
 | 0,_=>[]
 | d+1,t=>
  match P.underlying t with
  | some (.struct fs)=>fs.toList.foldr (fun f acc=>tyShs P d f.type++acc) []
  | some (.array n e)=>repL (tyShs P d e) n
  | some td=>
   match leafSh td with
   | some s=>[s]
   | none=>[]
  | none=>[]
def tyComp (P:Program) (t:TypeId):Bool×List Sh:=
 match tyAgg P t with
 | some true=>(true,tyShs P 12 t)
 | _=>(false,tyShs P 12 t)
def valOf (ag:Bool) (vs:List Value):Value:=
 match ag with
 | true=> .agg vs.toArray
 | false=>vs.headD undef
section
variable (P:Program) (nt:Nat)
def putK (d:Option Nat) (s:SV) (st:St) (K:St->Prop):Prop:=
 match d with
 | none=>K st
 | some d=>
  match Nat.blt d nt with
  | true=>K (st.put d s)
  | false=>False
def arith (k k' : IntKind) (z:Int) (K:Value->Prop):Prop:=
 match decide (k=k') with
 | true=> ∀ x:Int,x=z->K (.int k x)
 | false=>False
def comp (k k' : IntKind) (b:Bool) (K:Value->Prop):Prop:=
 match decide (k=k') with
 | true=>K (.bool b)
 | false=>False
def bitsOf (op:BinOp) (k:IntKind) (a b:Int):Int:=
 match op with
 | .and=>k.wrap ((BitVec.ofInt k.bits a &&& BitVec.ofInt k.bits b).toNat:Int)
 | .or=>k.wrap ((BitVec.ofInt k.bits a ||| BitVec.ofInt k.bits b).toNat:Int)
 | .xor=>k.wrap ((BitVec.ofInt k.bits a ^^^ BitVec.ofInt k.bits b).toNat:Int)
 | _=>k.wrap ((BitVec.ofInt k.bits a &&& ~~~BitVec.ofInt k.bits b).toNat:Int)
def isBoolT (t:TypeId):Bool:=
 match P.underlying t with
 | some .bool=>true
 | _=>false
def binR (op:BinOp) (t:TypeId) (x y:Value) (K:Value->Prop):Prop:=
 match x,y with
 | .int k a,.int k' b=>
  match op with
  | .shl=>Br (decide (b<0)) False (∀ z:Int,z=k.wrap (a*2^(min b.toNat k.bits))->K (.int k z))
  | .shr=>Br (decide (b<0)) False (∀ z:Int,z=a.fdiv (2^(min b.toNat k.bits))->K (.int k z))
  | .add=>arith k k' (k.wrap (a+b)) K
  | .sub=>arith k k' (k.wrap (a-b)) K
  | .mul=>arith k k' (k.wrap (a*b)) K
  | .quo=>Br (decide (b=0)) False (arith k k' (k.wrap (a.tdiv b)) K)
  | .rem=>Br (decide (b=0)) False (arith k k' (a.tmod b) K)
  | .and=>arith k k' (bitsOf .and k a b) K
  | .or=>arith k k' (bitsOf .or k a b) K
  | .xor=>arith k k' (bitsOf .xor k a b) K
  | .andNot=>arith k k' (bitsOf .andNot k a b) K
  | .eql=>comp k k' (a==b) K
  | .neq=>comp k k' (a != b) K
  | .lss=>comp k k' (decide (a<b)) K
  | .leq=>comp k k' (decide (a<=b)) K
  | .gtr=>comp k k' (decide (a>b)) K
  | .geq=>comp k k' (decide (a>=b)) K
 | .bool a,.bool b=>
  match isBoolT P t with
  | true=>
   match op with
   | .eql=>K (.bool (a==b))
   | .neq=>K (.bool !(a==b))
   | _=>False
  | false=>False
 | .string a,.string b=>
  match op with
  | .add=>((a.size+b.size:Nat):Int)<=9223372036854775807/\K (.string (a++b))
  | .eql=>K (.bool (a.toList==b.toList))
  | .neq=>K (.bool !(a.toList==b.toList))
  | .lss=>K (.bool (Op.bytesLess a.toList b.toList))
  | .leq=>K (.bool (Op.bytesLess a.toList b.toList||a.toList==b.toList))
  | .gtr=>K (.bool !(Op.bytesLess a.toList b.toList||a.toList==b.toList))
  | .geq=>K (.bool !(Op.bytesLess a.toList b.toList))
  | _=>False
 | _,_=>False
def isIfT (t:TypeId):Bool:=
 match P.underlying t with
 | some (.interface _)=>true
 | _=>false
def isC:Operand->Bool
 | .const _=>true
 | _=>false
def isNilI:Value->Bool
 | .nilIface=>true
 | _=>false
def isIf:Value->Bool
 | .nilIface=>true
 | .iface _ _=>true
 | _=>false
def nilR (op:BinOp) (a:Value) (K:Value->Prop):Prop:=
 match op with
 | .eql=>isIf a=true/\K (.bool (isNilI a))
 | .neq=>isIf a=true/\K (.bool !(isNilI a))
 | _=>False
def binQ (c:Bool) (op:BinOp) (t:TypeId) (x y:Value) (K:Value->Prop):Prop:=
 match y with
 | .nilIface=>
  match c&&isIfT P t with
  | true=>nilR op x K
  | false=>False
 | y=>binR P op t x y K
def unR (op:UnOp) (x:Value) (K:Value->Prop):Prop:=
 match op,x with
 | .not,.bool b=>K (.bool !b)
 | .neg,.int k n=> ∀ z:Int,z=k.wrap (0-n)->K (.int k z)
 | _,_=>False
def convR (src dst:TypeId) (x:Value) (K:Value->Prop):Prop:=
 match P.underlying src,P.underlying dst,x with
 | some _,some (.int k),.int _ n=>K (.int k (k.wrap n))
 | some _,some .string,.string s=>K (.string s)
 | some _,some .string,.int _ n=>K (.string (Utf8.encode n))
 | _,_,_=>False
def partR (t:TypeId) (cs:List Value) (off:Nat) (K:Value->Prop):Prop:=
 match tyAgg P t,tySize P t with
 | some ag,some n=>
  match Nat.ble (off+n) cs.length with
  | true=>(match ag with | true=>K (.agg ((cs.drop off).take n).toArray) | false=>(match Nat.beq n 1 with | true=>K ((cs.drop off).headD undef) | false=>False))
  | false=>False
 | _,_=>False
def fieldAt (s:TypeId) (i:Nat):Option Field:=
 match P.underlying s with
 | some (.struct fs)=>fs[i]?
 | _=>none
def fieldOff (s:TypeId) (i:Nat):Option Nat:=
 match fieldAt P s i with
 | some f=>
  match tySize P f.type with
  | some (_+1)=>some f.offset
  | _=>none
 | none=>none
def elemOf (t:TypeId):Option TypeId:=
 match P.underlying t with
 | some (.slice e)=>some e
 | _=>none
def arrOf (t:TypeId):Option (Nat×Nat):=
 match P.underlying t with
 | some (.array n e)=>
  match tySize P e with
  | some sz=>some (n,sz)
  | none=>none
 | _=>none
def boundR (x:Option Value) (d lo hi:Nat) (K:Nat->Prop):Prop:=
 match x with
 | none=>K d
 | some (.int _ i)=>(lo:Int)<=i/\i<=(hi:Int)/\K i.toNat
 | some _=>False
def sliceR (t:TypeId) (x:Value) (lo hi:Option Value) (K:Value->Prop):Prop:=
 match P.underlying t,x with
 | some .string,.string s=>
  boundR hi s.size 0 s.size fun h=>boundR lo 0 0 h fun l=>K (.string (s.extract l h))
 | some (.slice e),.slice A n c=>
  match tySize P e with
  | some sz=>
   match lo with
   | none=>boundR hi n 0 c fun h=>K (.slice A h c)
   | some _=>boundR hi n 0 c fun h=>boundR lo 0 0 h fun l=>K (.slice (if c=l then A else A.map fun x=>x.add (l*sz)) (h-l) (c-l))
  | none=>False
 | _,_=>False
def placesOf:List Field->Option (List (Nat×Nat))
 | []=>some []
 | f::r=>
  match tySize P f.type,placesOf r with
  | some n,some l=>some ((f.offset,n)::l)
  | _,_=>none
def fillL (place:Nat->Option (Nat×Nat)) (cells:List Value):List (Nat×Value)->Option (List Value)
 | []=>some cells
 | (i,v)::rest=>
  match place i with
  | none=>none
  | some (off,size)=>
   match Nat.beq (vcells v).length size&&Nat.ble (off+size) cells.length with
   | true=>fillL place (setSeg cells off (vcells v)) rest
   | false=>none
def partsV (st:St):List (Nat×Operand)->Option (List (Nat×Value))
 | []=>some []
 | (i,x)::r=>
  match ev st x,partsV st r with
  | some (.v a),some l=>some ((i,a)::l)
  | _,_=>none
def zeroCellsOf (t:TypeId):Option (List Value):=
 match P.info? t with
 | some i=>
  match i.zero with
  | some z=>some (vcells z)
  | none=>none
 | none=>none
def buildV (t:TypeId) (parts:List (Nat×Value)):Option (List Value):=
 match zeroCellsOf P t,P.underlying t with
 | some z,some (.struct fs)=>
  match placesOf P fs.toList with
  | some pl=>fillL (fun i=>pl[i]?) z parts
  | none=>none
 | some z,some (.array _ e)=>
  match tySize P e with
  | some sz=>fillL (fun i=>some (i*sz,sz)) z parts
  | none=>none
 | _,_=>none
def repV (z:List Value):Nat->List Value
 | 0=>[]
 | n+1=>z++repV z n
def newR (cells:List Value) (t:TypeId) (h:Heap) (K:Nat->Heap->Prop):Prop:=
 ∀ (g:Nat) (h' : Heap),h g=none->h' = h.put g ⟨cells,t,(0,0)⟩->K g h'
def RdS (h:Heap) (A:Option Addr) (n:Nat) (vs:List Value):Prop:=
 vs.length=n/\(0<n-> ∃ ad,A=some ad/\LdN h ad vs)
def appendR (e:TypeId) (sz bytes:Nat) (z:List Value) (A:Option Addr) (n c:Nat) (A' : Option Addr) (m:Nat) (h:Heap) (K:Value->Heap->Prop):Prop:=
 ∃ xs:List Value,RdS h A' (m*sz) xs/\(∀ x∈xs,Go.Vcg.one x=true)/\
  (n+m<=c->Br (decide (m*sz=0)) (K (.slice A (n+m) c) h) (∃ (ad:Addr) (b:Blk),A=some ad/\ad.spot=none/\h ad.block=some b/\b.fz=(0,0)/\ad.off+n*sz+m*sz<=b.cells.length/\
   ∀ h' : Heap,h' = h.put ad.block { b with cells:=setSeg b.cells (ad.off+n*sz) xs }->K (.slice A (n+m) c) h'))/\
  (c<n+m-> ∃ olds:List Value,RdS h A (n*sz) olds/\(n+m)*bytes<=140737488355328/\
   ∀ (g c' : Nat) (h' : Heap),h g=none->n+m<=c' -> h' = h.put g ⟨olds++xs++repV z (c' - (n+m)),e,(0,0)⟩->
    K (.slice (some ⟨g,0,none⟩) (n+m) c') h')
def strC (s:ByteArray):List Value:=s.data.toList.map fun b=>Value.int .u8 (b.toNat:Int)
def appendS (e:TypeId) (z:List Value) (A:Option Addr) (n c:Nat) (s:ByteArray) (h:Heap) (K:Value->Heap->Prop):Prop:=
 (n+s.size<=c->Br (decide (s.size=0)) (K (.slice A (n+s.size) c) h) (∃ (ad:Addr) (b:Blk),A=some ad/\ad.spot=none/\h ad.block=some b/\b.fz=(0,0)/\ad.off+n*1+s.size*1<=b.cells.length/\
  ∀ h' : Heap,h' = h.put ad.block { b with cells:=setSeg b.cells (ad.off+n*1) (strC s) }->K (.slice A (n+s.size) c) h'))/\
 (c<n+s.size-> ∃ olds:List Value,RdS h A (n*1) olds/\(n+s.size)*1<=140737488355328/\
  ∀ (g c' : Nat) (h' : Heap),h g=none->n+s.size<=c' -> h' = h.put g ⟨olds++strC s++repV z (c' - (n+s.size)),e,(0,0)⟩->
   K (.slice (some ⟨g,0,none⟩) (n+s.size) c') h')
def copyR (sz:Nat) (A:Option Addr) (n:Nat) (A' : Option Addr) (m:Nat) (h:Heap) (K:Value->Heap->Prop):Prop:=
 ∃ xs:List Value,RdS h A' (min m n*sz) xs/\(∀ x∈xs,Go.Vcg.one x=true)/\
  (min m n*sz=0->K (.int .i64 (min m n:Nat)) h)/\
  (0<min m n*sz-> ∃ ad b,A=some ad/\ad.spot=none/\h ad.block=some b/\b.fz=(0,0)/\ad.off+min m n*sz<=b.cells.length/\
   ∀ h' : Heap,h' = h.put ad.block { b with cells:=setSeg b.cells ad.off xs }->K (.int .i64 (min m n:Nat)) h')
def minL (lt:Int->Int->Bool):Int->List Value->Option Int
 | x,[]=>some x
 | x,.int _ y::r=>minL lt (if lt y x then y else x) r
 | _,_=>none
def builtR (b:Builtin) (ts:List TypeId) (args:List Value) (h:Heap) (K:Value->Heap->Prop):Prop:=
 match b,ts,args with
 | .len,[t],[x]=>
  match P.underlying t,x with
  | some .string,.string s=>K (.int .i64 (s.size:Int)) h
  | some (.array n _),_=>K (.int .i64 (n:Int)) h
  | some (.slice _),.slice _ n _=>K (.int .i64 (n:Int)) h
  | _,_=>False
 | .cap,[t],[x]=>
  match P.underlying t,x with
  | some (.slice _),.slice _ _ c=>K (.int .i64 (c:Int)) h
  | _,_=>False
 | .min,_,.int k x::r=>
  match minL (fun y x=>decide (y<x)) x r with
  | some z=>K (.int k z) h
  | none=>False
 | .max,_,.int k x::r=>
  match minL (fun y x=>decide (y>x)) x r with
  | some z=>K (.int k z) h
  | none=>False
 | .append,[t,t'],[.slice A n c,.slice A' m _]=>
  match P.underlying t,P.underlying t' with
  | some (.slice e),some (.slice _)=>
   match P.info? e with
   | some i=>
    match i.zero with
    | some z=>
     match Nat.beq (vcells z).length i.size&&Nat.ble 1 i.size&&Nat.ble 1 i.bytes with
     | true=>appendR e i.size i.bytes (vcells z) A n c A' m h K
     | false=>False
    | none=>False
   | none=>False
  | _,_=>False
 | .append,[t,t'],[.slice A n c,.string s]=>
  match P.underlying t,P.underlying t' with
  | some (.slice e),some .string=>
   match P.info? e with
   | some i=>
    match i.zero with
    | some z=>
     match Nat.beq (vcells z).length 1&&Nat.beq i.size 1&&Nat.beq i.bytes 1 with
     | true=>appendS e (vcells z) A n c s h K
     | false=>False
    | none=>False
   | none=>False
  | _,_=>False
 | .copy,[t,_],[.slice A n _,.slice A' m _]=>
  match P.underlying t with
  | some (.slice e)=>
   match tySize P e with
   | some sz=>copyR sz A n A' m h K
   | none=>False
  | _=>False
 | _,_,_=>False
def compsOf (t:TypeId):Option (Bool×List (Bool×List Sh)):=
 match P.underlying t with
 | some (.tuple ts)=>some (true,ts.toList.map (tyComp P))
 | some _=>some (false,[tyComp P t])
 | none=>none
def resR (t:TypeId) (v:Value) (K:Value->Prop):Prop:=
 match compsOf P t with
 | some (true,cs)=>exC cs fun us=>v = .tuple us.toArray/\K (.tuple us.toArray)
 | some (false,cs)=>exC cs fun us=>v=us.headD undef/\K (us.headD undef)
 | none=>False
variable (vis:Nat->Bool) (mb:Nat->Bool)
def evO (st:St):Option Operand->Option (Option Value)
 | none=>some none
 | some l=>
  match ev st l with
  | some (.v a)=>some (some a)
  | _=>none
def isVis (d:Option Nat):Bool:=
 match d with
 | some d=>vis d
 | none=>true
def boxR (d:Option Nat) (t:TypeId) (cells:List Value) (st:St) (K:St->Prop):Prop:=
 match allOne cells with
 | true=>
  match isVis vis d with
  | true=>newR cells t st.h fun g h=>putK nt d (.v (.pointer (some ⟨g,0,none⟩))) (st.setH h) K
  | false=>putK nt d (.bx st.nb 0) { st with nb:=st.nb+1,B:=fun i=>bif Nat.beq i st.nb then cells else st.B i } K
 | false=>False
def opV (canSee:Bool) (o:Oper) (st:St) (K:St->Prop):Prop:=
 match o.op with
 | .move x=>
  match ev st x with
  | some s=>putK nt o.dst s st K
  | none=>False
 | .assign x=>
  match ev st x with
  | some s=>putK nt o.dst s st K
  | none=>False
 | .pick c a b=>
  match ev st c with
  | some (.v (.bool t))=>
   Br t (match ev st a with | some s=>putK nt o.dst s st K | none=>False) (match ev st b with | some s=>putK nt o.dst s st K | none=>False)
  | _=>False
 | .binOp op t x y _=>
  match ev st x,ev st y with
  | some (.v a),some (.v b)=>binQ P (isC y) op t a b fun z=>putK nt o.dst (.v z) st K
  | _,_=>False
 | .unOp op _ x=>
  match ev st x with
  | some (.v a)=>unR op a fun z=>putK nt o.dst (.v z) st K
  | _=>False
 | .convert s d x=>
  match ev st x with
  | some (.v a)=>convR P s d a fun z=>putK nt o.dst (.v z) st K
  | _=>False
 | .nilCheck x=>
  match ev st x with
  | some (.bx i off)=>putK nt o.dst (.bx i off) st K
  | some (.v (.pointer (some a)))=>putK nt o.dst (.v (.pointer (some a))) st K
  | _=>False
 | .alloc t=>
  match zeroCellsOf P t with
  | some z=>boxR nt vis o.dst t z st K
  | none=>False
 | .box t x=>
  match ev st x with
  | some (.v a)=>boxR nt vis o.dst t (vcells a) st K
  | _=>False
 | .build t ps=>
  match partsV st ps.toList with
  | some l=>
   match buildV P t l with
   | some cs=>putK nt o.dst (.v (.agg cs.toArray)) st K
   | none=>False
  | none=>False
 | .buildSlice t len ps=>
  match elemOf P t with
  | some e=>
   match zeroCellsOf P e,tySize P e,partsV st ps.toList with
   | some z,some sz,some l=>
    match Nat.beq z.length sz&&Nat.ble (len*sz) 10000,fillL (fun i=>some (i*sz,sz)) (repV z len) l with
    | true,some cs=>newR cs e st.h fun g h=>putK nt o.dst (.v (.slice (some ⟨g,0,none⟩) len len)) (st.setH h) K
    | _,_=>False
   | _,_,_=>False
  | none=>False
 | .load t x=>
  match ev st x,tyAgg P t,tySize P t with
  | some (.bx i off),some ag,some n=>
   match Nat.blt i st.nb&&(Nat.ble (off+n) (st.B i).length&&(ag||Nat.beq n 1)) with
   | true=>putK nt o.dst (.v (valOf ag (((st.B i).drop off).take n))) st K
   | false=>False
  | some (.v (.pointer (some p))),some ag,some n=>
   match canSee&&Nat.beq (tyShs P 12 t).length n&&(ag||Nat.beq n 1)&&Nat.ble 1 n with
   | true=>exL (tyShs P 12 t) fun vs=>LdN st.h p vs/\putK nt o.dst (.v (valOf ag vs)) st K
   | false=>False
  | _,_,_=>False
 | .store t x y=>
  match ev st x,ev st y,tySize P t with
  | some (.bx i off),some (.v a),some n=>
   match mb i&&allOne (vcells a)&&Nat.beq (vcells a).length n&&Nat.ble (off+n) (st.B i).length with
   | true=>putK nt o.dst (.v undef) (st.setB i (setSeg (st.B i) off (vcells a))) K
   | false=>False
  | some (.v (.pointer (some p))),some (.v a),some n=>
   match allOne (vcells a)&&Nat.beq (vcells a).length n with
   | true=> ∃ b,st.h p.block=some b/\b.fz=(0,0)/\p.spot=none/\p.off+n<=b.cells.length/\
     ∀ h' : Heap,h' = st.h.put p.block { b with cells:=setSeg b.cells p.off (vcells a) }->putK nt o.dst (.v undef) (st.setH h') K
   | false=>False
  | _,_,_=>False
 | .fieldAddr s x i=>
  match ev st x,fieldOff P s i with
  | some (.bx id off),some fo=>putK nt o.dst (.bx id (off+fo)) st K
  | some (.v (.pointer (some p))),some fo=>putK nt o.dst (.v (.pointer (some (p.add fo)))) st K
  | _,_=>False
 | .field s x i=>
  match ev st x,fieldAt P s i with
  | some (.v (.agg cs)),some f=>partR P f.type cs.toList f.offset fun z=>putK nt o.dst (.v z) st K
  | _,_=>False
 | .indexAddr t x ix=>
  match ev st x,ev st ix,elemOf P t with
  | some (.v (.slice A n _)),some (.v (.int _ i)),some e=>
   match tySize P e with
   | some sz=> ∃ ad,A=some ad/\0<=i/\i<(n:Int)/\putK nt o.dst (.v (.pointer (some (ad.add (i.toNat*sz))))) st K
   | none=>False
  | some (.v (.pointer (some p))),some (.v (.int _ i)),none=>
   match arrOf P t with
   | some (n,sz)=>0<=i/\i<(n:Int)/\putK nt o.dst (.v (.pointer (some (p.add (i.toNat*sz))))) st K
   | none=>False
  | _,_,_=>False
 | .index t x ix=>
  match ev st x,ev st ix,P.underlying t with
  | some (.v (.string s)),some (.v (.int _ i)),some .string=> ∃ b:UInt8,0<=i/\s[i.toNat]?=some b/\putK nt o.dst (.v (.int .u8 b.toNat)) st K
  | _,_,_=>False
 | .slice t x lo hi none=>
  match ev st x,evO st lo,evO st hi with
  | some (.v a),some l,some u=>sliceR P t a l u fun z=>putK nt o.dst (.v z) st K
  | _,_,_=>False
 | .makeSlice t l c=>
  match ev st l,ev st c,elemOf P t with
  | some (.v (.int _ n)),some (.v (.int _ k)),some e=>
   match P.info? e,zeroCellsOf P e with
   | some i,some z=>
    match Nat.beq z.length i.size&&Nat.ble 1 i.size with
    | true=>0<=n/\n<=k/\k*(i.bytes:Int)<=140737488355328/\k<=9223372036854775807/\
     newR (repV z k.toNat) e st.h fun g h=>putK nt o.dst (.v (.slice (some ⟨g,0,none⟩) n.toNat k.toNat)) (st.setH h) K
    | false=>False
   | _,_=>False
  | _,_,_=>False
 | .extract x i=>
  match ev st x with
  | some (.v (.tuple vs))=>
   match vs.toList[i]? with
   | some z=>putK nt o.dst (.v z) st K
   | none=>False
  | _=>False
 | .call c=>
  match c.callee,evs st c.args.toList with
  | .value (.func f),some args=>CallsU P f args st.h fun v h=>resR P o.type v fun z=>putK nt o.dst (.v z) (st.setH h) K
  | .builtin b,some args=>builtR P b c.argTypes.toList args st.h fun z h=>putK nt o.dst (.v z) (st.setH h) K
  | _,_=>False
 | .range t x=>
  match ev st x,P.underlying t with
  | some (.v (.string s)),some .string=> ∀ (g:Nat) (h' : Heap),st.h g=none->h' = st.h.put g (itB s 0)->putK nt o.dst (.v (.pointer (some ⟨g,0,none⟩))) (st.setH h') K
  | _,_=>False
 | .next x true=>
  match ev st x with
  | some (.v (.pointer (some p)))=> ∃ (s:ByteArray) (i:Nat),p.off=0/\st.h p.block=some (itB s i)/\
    Br (decide (i<s.size)) (∀ h' : Heap,h' = st.h.put p.block (itB s (i+(Utf8.decode s i).2))->putK nt o.dst (.v (.tuple #[.bool true,.int .i64 (i:Int),.int .i32 ((Utf8.decode s i).1:Int)])) (st.setH h') K)
     (putK nt o.dst (.v (.tuple #[.bool false])) st K)
  | _=>False
 | _=>False
def opG (ops:List Oper) (canSee:Bool) (o:Oper) (st:St) (K:St->Prop):Prop:=
 match o.guard with
 | none=>opV P nt vis mb canSee o st K
 | some (j,want)=>
  match (ops[j]?).bind (·.dst) with
  | none=>False
  | some g=>
   match st.f g with
   | some (.v (.bool t))=>
    Br t (match want with | true=>opV P nt vis mb canSee o (st.put g (.v (.bool true))) K | false=>putK nt o.dst (.v undef) (st.put g (.v (.bool true))) K)
     (match want with | false=>opV P nt vis mb canSee o (st.put g (.v (.bool false))) K | true=>putK nt o.dst (.v undef) (st.put g (.v (.bool false))) K)
   | some (.v (.tuple _))=>putK nt o.dst (.v undef) st K
   | _=>False
def bytesOf (st:St) (o:Oper):Option (Option Addr×Nat):=
 match o.op,o.guard with
 | .convert s d x,none=>
  match P.underlying s,P.underlying d,ev st x with
  | some (.slice e),some .string,some (.v (.slice A n _))=>
   match P.underlying e with
   | some (.int .u8)=>some (A,n)
   | _=>none
  | _,_,_=>none
 | _,_=>none
def opsV (ops:List Oper):List Oper->St->(St->Prop)->Prop
 | [],st,K=>K st
 | o::r,st,K=>
  match bytesOf P st o with
  | some (A,n)=> ∃ ns:List Int,RdS st.h A n (ns.map (Value.int .u8))/\putK nt o.dst (.v (.string ⟨(ns.map fun n=>UInt8.ofNat n.toNat).toArray⟩)) st fun st' => opsV ops r st' K
  | none=>opG P nt vis mb ops true o st fun st' => opsV ops r st' K
end
def memN (i:Nat):List Nat->Bool
 | []=>false
 | j::r=>bif Nat.beq i j then true else memN i r
def insN (i:Nat) (l:List Nat):List Nat:=bif memN i l then l else i::l
def ancEs (rows:List (List Nat)):List Edge->List Nat
 | []=>[]
 | e::r=>
  match Region.binds .any e with
  | true=>insN e.on (((rows[e.on]?).getD []).foldr insN (ancEs rows r))
  | false=>ancEs rows r
def ancs:List Oper->List (List Nat)->List (List Nat)
 | [],rows=>rows
 | o::r,rows=>ancs r (rows++[ancEs rows o.after.toList])
def pureOp:Op->Bool
 | .move _ | .assign _ | .pick .. | .binOp .. | .unOp .. | .convert .. | .nilCheck _ | .build .. | .fieldAddr .. | .field .. | .indexAddr .. | .index .. | .slice .. | .extract .. => true
 | .call { callee:= .builtin .len,.. }=>true
 | .call { callee:= .builtin .cap,.. }=>true
 | .call { callee:= .builtin .min,.. }=>true
 | .call { callee:= .builtin .max,.. }=>true
 | _=>false
def isLoad:Op->Bool
 | .load .. => true
 | _=>false
def isStore:Op->Bool
 | .store .. => true
 | _=>false
def opTmps (ops:List Oper) (o:Oper):List Nat:=
 o.dst.toList++(o.op.operands.toList.filterMap fun | .tmp t=>some t | _=>none)++(match o.guard with | some (j,_)=>((ops[j]?).bind (·.dst)).toList | none=>[])
def apartB (ops:List Oper) (x y:Oper):Bool:=
 (match x.dst with | some d=> !memN d (opTmps ops y) | none=>true)&&(match y.dst with | some d=> !memN d (opTmps ops x) | none=>true)
def isFCall:Op->Bool
 | .call { callee:= .value (.func _),.. }=>true
 | _=>false
def mayPass (al:Oper->Bool) (ops:List Oper) (x y:Oper):Bool:=
 apartB ops x y&&(pureOp x.op||(isLoad x.op && !isStore y.op)||(isFCall x.op&&al y&&x.guard.isNone&&y.guard.isNone)||(al x&&al y&&x.guard.isNone&&y.guard.isNone)
  || (isLoad x.op&&isStore y.op&&x.guard.isNone&&y.guard.isNone)||(isStore x.op&&al y&&x.guard.isNone&&y.guard.isNone))
def hidA (vis:Nat->Bool) (o:Oper):Bool:=
 match o.op,o.dst with
 | .alloc _,some d=> !vis d
 | _,_=>false
def quiet (vis:Nat->Bool) (o:Oper):Bool:=pureOp o.op||isLoad o.op||hidA vis o
def LeH (h h' : Heap):Prop:= ∀ k b,h k=some b->h' k=some b
def andK (b:Bool) (X Y:Prop):Prop:=
 match b with
 | true=>X/\Y
 | false=>Y
def loose (p:Op->Bool) (anc:List (List Nat)) (i:Nat):Nat->List Oper->Bool
 | _,[]=>false
 | j,o::r=>(p o.op && !memN j ((anc[i]?).getD []) && !memN i ((anc[j]?).getD []))||loose p anc i (j+1) r
def isLA:Op->Bool
 | .load .. => true
 | .alloc _=>true
 | _=>false
def boxAt (st:St) (x:Operand):Option Nat:=
 match ev st x with
 | some (.bx k _)=>some k
 | _=>none
def ageB (ops:List Oper) (anc:List (List Nat)) (n0 i:Nat) (o:Oper) (st:St):Bool:=
 match o.op with
 | .load _ x=> !loose isStore anc i 0 ops||(match boxAt st x with | some k=>Nat.blt k n0 | none=>true)
 | .store _ x _=> !loose isLA anc i 0 ops||(match boxAt st x with | some k=>Nat.ble n0 k | none=>false)
 | _=>true
def ifB (b:Bool) (X:Prop):Prop:=
 match b with
 | true=>X
 | false=>False
def keepB (ops:List Oper) (anc:List (List Nat)) (i:Nat):Bool:=
 match ops[i]? with
 | some o=>isFCall o.op&&loose isLoad anc i 0 ops
 | none=>false
def seesB (vis:Nat->Bool) (ops:List Oper) (anc:List (List Nat)) (i:Nat):List Nat->Bool
 | []=>true
 | j::r=>(match ops[j]? with | some y=>(quiet vis y||memN i ((anc[j]?).getD [])||((isFCall y.op||isStore y.op) && !memN j ((anc[i]?).getD []))) | none=>false)&&seesB vis ops anc i r
def passOk (al:Oper->Bool) (ops:List Oper) (anc:List (List Nat)) (i:Nat):List Nat->Bool
 | []=>true
 | j::r=>(memN i ((anc[j]?).getD [])||(!memN j ((anc[i]?).getD [])&&(match ops[i]?,ops[j]? with | some x,some y=>mayPass al ops x y | _,_=>false)))&&passOk al ops anc i r
def orderOk (al:Oper->Bool) (ops:List Oper) (anc:List (List Nat)):List Nat->Bool
 | []=>true
 | i::r=>passOk al ops anc i r&&orderOk al ops anc r
def backEs (i:Nat):List Edge->Bool
 | []=>true
 | e::r=>(!Region.binds .any e||Nat.blt e.on i)&&backEs i r
def backOk:Nat->List Oper->Bool
 | _,[]=>true
 | i,o::r=>backEs i o.after.toList&&backOk (i+1) r
def nodupN:List Nat->Bool
 | []=>true
 | i::r=> !memN i r&&nodupN r
def permOk (n:Nat) (L:List Nat):Bool:=Nat.beq L.length n&&nodupN L&&(List.range n).all (memN · L)&&L.all (fun i=>Nat.blt i n)
section
variable (P:Program) (nt:Nat) (vis:Nat->Bool) (mb:Nat->Bool)
def okAlloc (y:Oper):Bool:=
 match y.op,y.dst with
 | .alloc t,some d=>Nat.blt d nt&&(match zeroCellsOf P t with | some z=>allOne z | none=>false)
 | _,_=>false
def drawV (ops:List Oper) (anc:List (List Nat)) (n0:Nat):List Nat->St->(St->Prop)->Prop
 | [],st,K=>K st
 | i::r,st,K=>
  match ops[i]? with
  | some o=>ifB (ageB ops anc n0 i o st) (opG P nt vis mb ops (seesB vis ops anc i r) o st fun st' => andK (keepB ops anc i) (LeH st.h st'.h) (drawV ops anc n0 r st' K))
  | none=>False
def freeB (row:List Nat):List Nat->Bool
 | []=>true
 | j::r=> !memN j row&&freeB row r
def eraN (i:Nat):List Nat->List Nat
 | []=>[]
 | j::r=>bif Nat.beq i j then r else j::eraN i r
def eachN (anc:List (List Nat)) (L:List Nat) (F:Nat->Prop):List Nat->Prop
 | []=>True
 | i::r=>
  match freeB ((anc[i]?).getD []) L with
  | true=>F i/\eachN anc L F r
  | false=>eachN anc L F r
def apartAll (ops:List Oper) (anc:List (List Nat)) (i:Nat) (x:Oper):List Nat->Bool
 | []=>true
 | j::r=>(Nat.beq i j||memN i ((anc[j]?).getD [])||(match ops[j]? with | some y=>apartB ops x y | none=>false))&&apartAll ops anc i x r
def firstB (ops:List Oper) (anc:List (List Nat)) (L:List Nat) (i:Nat):Bool:=
 match ops[i]? with
 | some x=>pureOp x.op&&freeB ((anc[i]?).getD []) L&&apartAll ops anc i x L
 | none=>false
def findN (p:Nat->Bool):List Nat->Option Nat
 | []=>none
 | i::r=>bif p i then some i else findN p r
def drawA (ops:List Oper) (anc:List (List Nat)):Nat->List Nat->St->(St->Prop)->Prop
 | 0,_,st,K=>K st
 | n+1,L,st,K=>
  match findN (firstB ops anc L) L with
  | some i=>
   match ops[i]? with
   | some o=>opG P nt vis mb ops true o st fun st' => drawA ops anc n (eraN i L) st' K
   | none=>False
  | none=>eachN anc L (fun i=>
   match ops[i]? with
   | some o=>opG P nt vis mb ops true o st fun st' => drawA ops anc n (eraN i L) st' K
   | none=>False) L
def thenQ (next:St->Prop) (Q:Exit->St->Prop):Exit->St->Prop
 | .normal,st=>next st
 | e,st=>Q e st
def blockQ (id:Nat) (Q:Exit->St->Prop):Exit->St->Prop
 | .exit i,st=>
  match Nat.beq i id with
  | true=>Q .normal st
  | false=>Q (.exit i) st
 | e,st=>Q e st
def V:Code->Ann->(Nat->Bool)->(Exit->St->Prop)->St->Prop
 | .skip,_,_,Q,st=>Q .normal st
 | .ret,_,_,Q,st=>Q .ret st
 | .exit id,_,_,Q,st=>Q (.exit id) st
 | .region _ ops false,_,mb,Q,st=>opsV P nt vis mb ops.toList ops.toList st (Q .normal)
 | .region _ ops true,.ord L,mb,Q,st=>
  match permOk ops.size L&&backOk 0 ops.toList&&orderOk (okAlloc P nt) ops.toList (ancs ops.toList []) L with
  | true=>drawV P nt vis mb ops.toList (ancs ops.toList []) st.nb L st (Q .normal)
  | false=>False
 | .region _ ops true,.all,mb,Q,st=>
  match backOk 0 ops.toList with
  | true=>drawA P nt vis mb ops.toList (ancs ops.toList []) ops.size (List.range ops.size) st (Q .normal)
  | false=>False
 | .seq a b,.two x y,mb,Q,st=>V a x mb (thenQ (fun st' => V b y mb Q st') Q) st
 | .seq a b,.cut k x y,mb,Q,st=>
  ∃ C:FunT k.shs,(allL k.shs fun vs=> ∀ h:Heap,appV k.shs C vs h->V b y mb Q (k.head a st vs h))/\
   V a x (k.mb st.nb mb) (thenQ (fun st' => k.app C st') Q) st
 | .seq a b,_,mb,Q,st=>V a .nil mb (thenQ (fun st' => V b .nil mb Q st') Q) st
 | .cond c a b,.two x y,mb,Q,st=>
  match ev st c with
  | some (.v (.bool t))=>Br t (V a x mb Q st) (V b y mb Q st)
  | _=>False
 | .cond c a b,_,mb,Q,st=>
  match ev st c with
  | some (.v (.bool t))=>Br t (V a .nil mb Q st) (V b .nil mb Q st)
  | _=>False
 | .block id a,.one x,mb,Q,st=>V a x mb (blockQ id Q) st
 | .block id a,_,mb,Q,st=>V a .nil mb (blockQ id Q) st
 | .loop a,.loop k x,mb,Q,st=>
  ∃ J:Nat->FunT k.shs,(∃ m,k.app (J m) st)/\
   ∀ m,allL k.shs fun vs=> ∀ h:Heap,appV k.shs (J m) vs h->
    V a x (k.mb st.nb mb) (thenQ (fun st' => ∃ m', m' < m/\k.app (J m') st') Q) (k.head a st vs h)
 | _,_,_,_,_=>False
end
section
variable (P:Program)
def resOne (st:St):ResultVar->Option Value
 | .tmp t=>
  match st.f t with
  | some (.v x)=>some x
  | _=>none
 | .cell t ty=>
  match st.f t,tyAgg P ty,tySize P ty with
  | some (.bx i off),some ag,some n=>
   match Nat.ble (off+n) (st.B i).length&&(ag||Nat.beq n 1) with
   | true=>some (valOf ag (((st.B i).drop off).take n))
   | false=>none
  | _,_,_=>none
def resAll (st:St):List ResultVar->Option (List Value)
 | []=>some []
 | r::rs=>
  match resOne P st r,resAll st rs with
  | some x,some l=>some (x::l)
  | _,_=>none
def retQ (fn:Func) (R:Value->Heap->Prop) (st:St):Prop:=
 match resAll P st fn.results.toList with
 | some [x]=>R x st.h
 | some l=>R (.tuple l.toArray) st.h
 | none=>False
def endQ (fn:Func) (R:Value->Heap->Prop):Exit->St->Prop
 | .normal,st=>retQ P fn R st
 | .ret,st=>retQ P fn R st
 | _,_=>False
def argF:List Value->Nat->Option SV
 | [],_=>none
 | v::_,0=>some (.v v)
 | _::r,n+1=>argF r n
def st0 (args:List Value) (h:Heap):St:={ f:=argF args,B:=fun _=>[],nb:=0,h:=h }
def fnV (fn:Func) (vis:Nat->Bool) (an:Ann) (args:List Value) (h:Heap) (R:Value->Heap->Prop):Prop:=
 match fn.body with
 | some c=>V P fn.ntmps vis c an (fun _=>true) (endQ P fn R) (st0 args h)
 | none=>False
end
theorem beq_ne {a b:Nat} (h:a≠b):Nat.beq a b=false:=by
 cases hb:Nat.beq a b with
 | false=>rfl
 | true=>exact absurd (Nat.eq_of_beq_eq_true hb) h
theorem beq_eq {a b:Nat} (h:Nat.beq a b=true):a=b:=Nat.eq_of_beq_eq_true h
structure Good (nt:Nat) (h0:Heap) (w0:World) (s:Nat->Nat) (st:St) (a:Act) (w:World):Prop where
 defers:a.defers=[]
 size:a.tmps.size=nt
 rep : ∀ t x,st.f t=some x->a.tmps.getD t undef=x.val s
 sat:Sat st.h w
 frm:Frm h0 st.h w0 w
 box : ∀ i,i<st.nb->w0.heap.size<=s i/\st.h (s i)=none/\ ∃ ty,w.heap[s i]?=some (.cells (st.B i).toArray ty (0,0))
 inj : ∀ i j,i<st.nb->j<st.nb->s i=s j->i=j
 wfb : ∀ t i off,st.f t=some (.bx i off)->i<st.nb
def SV.ok (st:St):SV->Prop
 | .v _=>True
 | .bx i _=>i<st.nb
structure Ext (W mb:Nat->Bool) (s:Nat->Nat) (st:St) (a:Act) (s' : Nat->Nat) (st' : St) (a' : Act):Prop where
 slots : ∀ t,W t=false->a'.tmps.getD t undef=a.tmps.getD t undef
 nb:st.nb<=st'.nb
 sig : ∀ i,i<st.nb->s' i=s i
 bx : ∀ i,i<st.nb->mb i=false->st'.B i=st.B i
theorem Ext.refl (W mb:Nat->Bool) (s:Nat->Nat) (st:St) (a:Act):Ext W mb s st a s st a:=⟨fun _ _=>rfl,Nat.le_refl _,fun _ _=>rfl,fun _ _ _=>rfl⟩
theorem Ext.trans {W W' mb:Nat->Bool} {s s1 s2:Nat->Nat} {st st1 st2:St} {a a1 a2:Act} (h:Ext W mb s st a s1 st1 a1) (k:Ext W' mb s1 st1 a1 s2 st2 a2) :
  Ext (fun t=>W t||W' t) mb s st a s2 st2 a2 where
 slots t ht:=by
  simp only [Bool.or_eq_false_iff] at ht
  rw [k.slots t ht.2,h.slots t ht.1]
 nb:=Nat.le_trans h.nb k.nb
 sig i hi:=by rw [k.sig i (Nat.lt_of_lt_of_le hi h.nb),h.sig i hi]
 bx i hi hb:=by rw [k.bx i (Nat.lt_of_lt_of_le hi h.nb) hb,h.bx i hi hb]
theorem Ext.mono {W W' mb:Nat->Bool} {s s1:Nat->Nat} {st st1:St} {a a1:Act} (h:Ext W mb s st a s1 st1 a1) (hw : ∀ t,W' t=false->W t=false):Ext W' mb s st a s1 st1 a1:=
 ⟨fun t ht=>h.slots t (hw t ht),h.nb,h.sig,h.bx⟩
def dstW (d:Option Nat) (t:Nat):Bool:=
 match d with
 | some d=>Nat.beq t d
 | none=>false
def NextP (nt:Nat) (h0:Heap) (w0:World) (K:St->Prop) (W mb:Nat->Bool) (s:Nat->Nat) (st:St) (a:Act) (a' : Act) (w' : World):Prop:=
 ∃ st' s', K st' /\ Good nt h0 w0 s' st' a' w' /\ Ext W mb s st a s' st' a'
section
variable {P:Program} {nt:Nat} {h0:Heap} {w0:World} {s:Nat->Nat} {st:St} {a:Act} {w:World} {K:St->Prop} {mb vis:Nat->Bool}
theorem ev_eval (g:Good nt h0 w0 s st a w) {x:Operand} {v:SV} (h:ev st x=some v):a.eval x=v.val s:=by
 cases x with
 | tmp t=>exact g.rep t v h
 | const c=>simp only [ev,Option.some.injEq] at h;subst h;rfl
 | global n=>simp only [ev,Option.some.injEq] at h;subst h;rfl
 | func f=>simp only [ev,Option.some.injEq] at h;subst h;rfl
theorem evs_eval (g:Good nt h0 w0 s st a w) : ∀ (l:List Operand) {vs:List Value},evs st l=some vs->l.map a.eval=vs
 | [],vs,h=>by simp only [evs,Option.some.injEq] at h;subst h;rfl
 | x::r,vs,h=>by
  simp only [evs] at h
  split at h
  ·rename_i y l hx hl
   simp only [Option.some.injEq] at h
   subst h
   simp only [List.map_cons,evs_eval g r hl,ev_eval g hx]
   rfl
  ·cases h
theorem tmps_put (a:Act) (d t:Nat) (v:Value) (hd:d<a.tmps.size):(a.put (some d) v).tmps.getD t undef=if t=d then v else a.tmps.getD t undef:=by
 simp only [Act.put]
 by_cases h:t=d
 ·subst h
  simp [hd]
 ·rw [if_neg h]
  simp only [Array.getD_eq_getD_getElem?,Array.getElem?_setIfInBounds]
  rw [if_neg (by omega)]
theorem ev_ok (g:Good nt h0 w0 s st a w) {x:Operand} {v:SV} (h:ev st x=some v):v.ok st:=by
 cases x with
 | tmp t=>
  cases v with
  | v _=>exact trivial
  | bx i off=>exact g.wfb t i off h
 | const c=>simp only [ev,Option.some.injEq] at h;subst h;exact trivial
 | global n=>simp only [ev,Option.some.injEq] at h;subst h;exact trivial
 | func f=>simp only [ev,Option.some.injEq] at h;subst h;exact trivial
theorem Good.put (g:Good nt h0 w0 s st a w) {d:Nat} (hd:d<nt) {v:SV} (hv:v.ok st):Good nt h0 w0 s (st.put d v) (a.put (some d) (v.val s)) w where
 defers:=g.defers
 size:=by simp [Act.put,g.size]
 rep t x hx:=by
  rw [tmps_put a d t _ (by rw [g.size];exact hd)]
  simp only [St.put] at hx
  by_cases h:t=d
  ·subst h
   simp only [Nat.beq_refl,cond_true,Option.some.injEq] at hx
   subst hx
   rw [if_pos rfl]
  ·have hb:Nat.beq t d=false:=beq_ne h
   rw [hb] at hx
   rw [if_neg h]
   exact g.rep t x hx
 sat:=g.sat
 frm:=g.frm
 box:=g.box
 inj:=g.inj
 wfb t i off hx:=by
  simp only [St.put] at hx
  by_cases h:t=d
  ·subst h
   simp only [Nat.beq_refl,cond_true,Option.some.injEq] at hx
   subst hx
   exact hv
  ·rw [beq_ne h] at hx
   exact g.wfb t i off hx
theorem putK_sound {d:Option Nat} {v:SV} {st1:St} {s1:Nat->Nat} {w1:World} (g:Good nt h0 w0 s1 st1 a w1) (e:Ext (fun _=>false) mb s st a s1 st1 a) (hv:v.ok st1)
  (hk:putK nt d v st1 K):NextP nt h0 w0 K (dstW d) mb s st a (a.put d (v.val s1)) w1:=by
 cases d with
 | none=>exact ⟨st1,s1,hk,g,e.mono fun _ _=>rfl⟩
 | some d=>
  simp only [putK] at hk
  split at hk
  ·rename_i hlt
   have hd:d<nt:=by simpa [Nat.blt_eq] using hlt
   refine ⟨st1.put d v,s1,hk,g.put hd hv,⟨fun t ht=> ?_,e.nb,e.sig,e.bx⟩⟩
   rw [tmps_put a d t _ (by rw [g.size];exact hd),if_neg]
   intro h
   subst h
   simp [dstW] at ht
  ·exact hk.elim
theorem wp_value {o:Oper} {v:SV} {st1:St} {s1:Nat->Nat} {w1:World} {Q:Exit->Act->World->Prop} (hr:(execOp a.eval o).run P w = .ok (.value (v.val s1)) w1)
  (g:Good nt h0 w0 s1 st1 a w1) (e:Ext (fun _=>false) mb s st a s1 st1 a) (hv:v.ok st1) (hk:putK nt o.dst v st1 K):o.wp P a w (NextP nt h0 w0 K (dstW o.dst) mb s st a) Q:=by
 simp only [Oper.wp,hr,Oper.upon]
 exact putK_sound g e hv hk
theorem wp_skip {o:Oper} {st1:St} {s1:Nat->Nat} {w1:World} {Q:Exit->Act->World->Prop} (hr:(execOp a.eval o).run P w = .ok .skip w1)
  (g:Good nt h0 w0 s1 st1 a w1) (e:Ext (fun _=>false) mb s st a s1 st1 a) (hk:putK nt o.dst (.v undef) st1 K):o.wp P a w (NextP nt h0 w0 K (dstW o.dst) mb s st a) Q:=by
 simp only [Oper.wp,hr,Oper.upon]
 exact putK_sound (v:= .v undef) g e trivial hk
end
theorem br_false {b:Bool} {X:Prop} (h:Br b False X):b=false/\X:=by
 cases b
 ·exact ⟨rfl,h⟩
 ·exact h.elim
section
variable {P:Program} (w:World)
theorem binR_run {op:BinOp} {t:TypeId} {x y:Value} {K:Value->Prop} (xo yo:Operand) (h:binR P op t x y K) :
  ∃ z,(do eqGuard op t xo yo x y;binOp op t x y:Sem Value).run P w = .ok z w/\K z:=by
 cases x<;>cases y<;>simp only [binR] at h<;>try exact h.elim
 case int.int k a k' b=>
  cases op<;>simp only [arith,comp] at h
  case shl=>
   obtain ⟨hb,h2⟩:=br_false h
   have hb' : ¬ b<0:=by simpa using hb
   exact ⟨_,by simp [eqGuard,binOp,Op.shift,hb'],h2 _ rfl⟩
  case shr=>
   obtain ⟨hb,h2⟩:=br_false h
   have hb' : ¬ b<0:=by simpa using hb
   exact ⟨_,by simp [eqGuard,binOp,Op.shift,hb'],h2 _ rfl⟩
  case quo=>
   obtain ⟨hb,h2⟩:=br_false h
   clear h
   have hb' : ¬ b=0:=by simpa using hb
   split at h2
   ·rename_i hk
    have hk' : k=k' := by simpa using hk
    subst hk'
    exact ⟨_,by simp [eqGuard,binOp,Op.intDiv,hb'],h2 _ rfl⟩
   ·exact h2.elim
  case rem=>
   obtain ⟨hb,h2⟩:=br_false h
   clear h
   have hb' : ¬ b=0:=by simpa using hb
   split at h2
   ·rename_i hk
    have hk' : k=k' := by simpa using hk
    subst hk'
    exact ⟨_,by simp [eqGuard,binOp,Op.intDiv,hb'],h2 _ rfl⟩
   ·exact h2.elim
  all_goals
   split at h
   ·rename_i hk
    have hk' : k=k' := by simpa using hk
    subst hk'
    first
     | exact ⟨_,by cases k<;>rfl,h _ rfl⟩
     | exact ⟨_,by cases k<;>rfl,h⟩
   ·exact h.elim
 case bool.bool a b=>
  split at h
  ·rename_i hb
   have hu:P.underlying t=some .bool:=by
    unfold isBoolT at hb
    split at hb
    ·assumption
    ·cases hb
   have he : ∀ d,(Op.equalIn (d+1) t (.bool a) (.bool b)).run P w = .ok (a==b) w:=fun d=>by simp [Op.equalIn,run_underlying hu]
   have he' : (Op.equalIn 10000 t (.bool a) (.bool b)).run P w = .ok (a==b) w:=he 9999
   have e1:(binOp .eql t (.bool a) (.bool b)).run P w = .ok (.bool (a==b)) w:=by
    simp only [binOp,Op.equal,Op.maxDepth,Sem.run_bind,he']
    rfl
   have e2:(binOp .neq t (.bool a) (.bool b)).run P w = .ok (.bool !(a==b)) w:=by
    simp only [binOp,Op.equal,Op.maxDepth,Sem.run_bind,he']
    rfl
   cases op<;>try exact h.elim
   ·refine ⟨_, ?_,h⟩
    have e0:(eqGuard .eql t xo yo (.bool a) (.bool b)).run P w = .ok () w:=rfl
    rw [Sem.run_bind,e0,Result.andThen_ok,e1]
   ·refine ⟨_, ?_,h⟩
    have e0:(eqGuard .neq t xo yo (.bool a) (.bool b)).run P w = .ok () w:=rfl
    rw [Sem.run_bind,e0,Result.andThen_ok,e2]
  ·exact h.elim
 case string.string a b=>
  cases op<;>try exact h.elim
  ·obtain ⟨h1,h2⟩:=h
   refine ⟨_, ?_,h2⟩
   have : ¬ ((a.size+b.size:Nat):Int)>IntKind.i64.max:=by
    have e:IntKind.i64.max=9223372036854775807:=by decide
    rw [e];omega
   simp only [eqGuard,binOp,Op.stringOp,if_neg this]
   rfl
  all_goals exact ⟨_,by simp [eqGuard,binOp,Op.stringOp],h⟩
theorem ifT_run {t:TypeId} {v:Value} (ht:isIfT P t=true) (hv:isIf v=true):(Op.equalIn 10000 t v .nilIface).run P w = .ok (isNilI v) w:=by
 have hu : ∃ ms,P.underlying t=some (.interface ms):=by
  unfold isIfT at ht
  split at ht
  ·rename_i ms e;exact ⟨ms,e⟩
  ·cases ht
 obtain ⟨ms,hu⟩:=hu
 have he : ∀ d,(Op.equalIn (d+1) t v .nilIface).run P w = .ok (isNilI v) w:=fun d=>by
  cases v<;>simp only [isIf] at hv<;>try (exact absurd hv (by decide))
  ·simp [Op.equalIn,run_underlying hu,isNilI]
  ·simp [Op.equalIn,run_underlying hu,isNilI]
 exact he 9999
theorem binQ_run {op:BinOp} {t:TypeId} {x y:Value} {K:Value->Prop} (xo yo:Operand) (h:binQ P (isC yo) op t x y K) :
  ∃ z,(do eqGuard op t xo yo x y;binOp op t x y:Sem Value).run P w = .ok z w/\K z:=by
 unfold binQ at h
 split at h
 ·split at h
  ·rename_i hc
   simp only [Bool.and_eq_true] at hc
   obtain ⟨h1,h2⟩:=hc
   have hg : ∀ op,isIf x=true->(eqGuard op t xo yo x .nilIface).run P w = .ok () w:=fun op hx=>by
    cases yo<;>simp only [isC] at h1<;>try (exact absurd h1 (by decide))
    cases x<;>simp only [isIf] at hx<;>try (exact absurd hx (by decide))
    ·cases op<;>simp [eqGuard]
    ·cases op<;>simp [eqGuard]
   have hb:isIf x=true->(binOp .eql t x .nilIface).run P w = .ok (.bool (isNilI x)) w/\(binOp .neq t x .nilIface).run P w = .ok (.bool !(isNilI x)) w:=fun hx=>by
    have:=ifT_run w h2 hx
    cases x<;>simp only [isIf] at hx<;>try (exact absurd hx (by decide))
    all_goals
     constructor
     ·simp only [binOp,Op.equal,Op.maxDepth,Sem.run_bind,this];rfl
     ·simp only [binOp,Op.equal,Op.maxDepth,Sem.run_bind,this];rfl
   cases op<;>simp only [nilR] at h<;>try exact h.elim
   ·exact ⟨_,by rw [Sem.run_bind,hg _ h.1,Result.andThen_ok,(hb h.1).1],h.2⟩
   ·exact ⟨_,by rw [Sem.run_bind,hg _ h.1,Result.andThen_ok,(hb h.1).2],h.2⟩
  ·exact h.elim
 ·exact binR_run w xo yo h
theorem unR_run {op:UnOp} {x:Value} {K:Value->Prop} (h:unR op x K) : ∃ z,(Op.unary op x).run P w = .ok z w/\K z:=by
 cases op<;>cases x<;>simp only [unR] at h<;>try exact h.elim
 ·exact ⟨_,by simp [Op.unary,Op.intArith],h _ rfl⟩
 ·exact ⟨_,by simp [Op.unary],h⟩
theorem convR_run {src dst:TypeId} {x:Value} {K:Value->Prop} (h:convR P src dst x K) : ∃ z,(convert src dst x).run P w = .ok z w/\K z:=by
 unfold convR at h
 split at h
 ·rename_i d k k' n hs hd
  exact ⟨_,by simp [convert,run_underlying hs,run_underlying hd,Conv.intToInt],h⟩
 ·rename_i d b hs hd
  exact ⟨_,by simp [convert,run_underlying hs,run_underlying hd],h⟩
 ·rename_i d k n hs hd
  exact ⟨_,by simp [convert,run_underlying hs,run_underlying hd,Conv.intToString],h⟩
 ·exact h.elim
end
def putB (w:World) (k:Nat) (o:Obj):World:={ w with heap:=w.heap.setIfInBounds k o }
def addB (w:World) (o:Obj):World:={ w with heap:=w.heap.push o }
theorem heap_putB (w:World) (k j:Nat) (o:Obj) (hk:k<w.heap.size):(putB w k o).heap[j]?=if j=k then some o else w.heap[j]?:=by
 simp only [putB,Array.getElem?_setIfInBounds]
 by_cases h:k=j
 ·subst h;simp [hk]
 ·rw [if_neg h,if_neg (fun e=>h e.symm)]
theorem heap_addB (w:World) (j:Nat) (o:Obj):(addB w o).heap[j]?=if j=w.heap.size then some o else w.heap[j]?:=by
 simp only [addB,Array.getElem?_push]
theorem lt_of_heap {w:World} {k:Nat} {o:Obj} (h:w.heap[k]?=some o):k<w.heap.size:=by
 rcases Nat.lt_or_ge k w.heap.size with hlt | hge
 ·exact hlt
 ·rw [Array.getElem?_eq_none hge] at h;cases h
theorem cell_add {w:World} {p:Addr} {cs:List Value} {ty:TypeId} {fz:Nat×Nat} (hb:w.heap[p.block]?=some (.cells cs.toArray ty fz)) (hp:p.spot=none) (i:Nat) :
  w.cell? (p.add i)=cs[p.off+i]?:=by
 unfold Addr.add
 split
 ·rename_i h0;subst h0;simp [World.cell?,hb,hp]
 ·simp [World.cell?,hb]
theorem frozen_add {w:World} {p:Addr} {cs:List Value} {ty:TypeId} (hb:w.heap[p.block]?=some (.cells cs.toArray ty (0,0))) (i:Nat):w.frozen? (p.add i)=false:=by
 unfold Addr.add
 split<;>simp [World.frozen?,hb]
theorem run_load_some {P:Program} {w:World} {p:Addr} {v:Value} (h:w.cell? p=some v):(load p).run P w = .ok v w:=by
 simp [load,Sem.run,h]
theorem take_drop_get {cs vs:List Value} {off:Nat} (h:(cs.drop off).take vs.length=vs) (i:Nat) (hi:i<vs.length):cs[off+i]?=some (vs[i]'hi):=by
 have h1:((cs.drop off).take vs.length)[i]?=vs[i]?:=by rw [h]
 rw [List.getElem?_take_of_lt hi,List.getElem?_drop] at h1
 rw [h1,List.getElem?_eq_getElem hi]
theorem run_loadCellsFrom {P:Program} {w:World} {p:Addr} {cs:List Value} {ty:TypeId} {fz:Nat×Nat} (hb:w.heap[p.block]?=some (.cells cs.toArray ty fz)) (hp:p.spot=none) :
  ∀ (n i:Nat) (acc:Array Value) (vs:List Value),(∀ j (hj:j<vs.length),cs[p.off+(i+j)]?=some (vs[j]'hj))->vs.length=n->
   (loadCellsFrom p i n acc).run P w = .ok (acc++vs.toArray) w
 | 0,i,acc,vs,hv,hn=>by
  have:vs=[]:=List.eq_nil_of_length_eq_zero hn
  subst this
  simp [loadCellsFrom]
 | n+1,i,acc,vs,hv,hn=>by
  match vs,hn with
  | v::vs', hn=>
   have h0:=hv 0 (by simp)
   simp only [Nat.add_zero,List.getElem_cons_zero] at h0
   have hl:(load (p.add i)).run P w = .ok v w:=run_load_some (by rw [cell_add hb hp];exact h0)
   have hr:=run_loadCellsFrom (P:=P) hb hp n (i+1) (acc.push v) vs' (fun j hj=>by
    have h1:=hv (j+1) (by simp;omega)
    rw [show i+(j+1)=i+1+j from by omega] at h1
    simpa using h1) (by simpa using hn)
   simp only [loadCellsFrom,Sem.run_bind,hl,Result.andThen_ok,hr]
   simp
theorem run_loadCells {P:Program} {w:World} {p:Addr} {cs vs:List Value} {ty:TypeId} {fz:Nat×Nat} (hb:w.heap[p.block]?=some (.cells cs.toArray ty fz)) (hp:p.spot=none)
  (hv:(cs.drop p.off).take vs.length=vs):(loadCells p vs.length).run P w = .ok vs.toArray w:=by
 have:=run_loadCellsFrom (P:=P) hb hp vs.length 0 #[] vs (fun j hj=>by simpa using take_drop_get hv j hj) rfl
 simpa [loadCells] using this
theorem agg_run {P:Program} {t:TypeId} {ag:Bool} (h:tyAgg P t=some ag) (w:World):(isAgg t).run P w = .ok ag w:=by
 unfold tyAgg at h
 unfold isAgg
 split at h
 ·rename_i fs hu;cases h;simp [run_underlying hu]
 ·rename_i n e hu;cases h;simp [run_underlying hu]
 ·rename_i d h1 h2 hu
  cases h
  simp only [Sem.run_bind,run_underlying hu,Result.andThen_ok]
  rfl
 ·cases h
theorem size_run {P:Program} {t:TypeId} {n:Nat} (h:tySize P t=some n) (w:World):(sizeOf t).run P w = .ok n w:=by
 unfold tySize at h
 split at h
 ·rename_i i hi;cases h;simp [sizeOf,typeInfo,hi]
 ·cases h
theorem run_loadVar {P:Program} {w:World} {t:TypeId} {ag:Bool} {p:Addr} {cs vs:List Value} {ty:TypeId} {fz:Nat×Nat} (ha:tyAgg P t=some ag) (hs:tySize P t=some vs.length)
  (hn:ag=true\/vs.length=1) (hb:w.heap[p.block]?=some (.cells cs.toArray ty fz)) (hp:p.spot=none) (hv:(cs.drop p.off).take vs.length=vs) :
  (loadVar t p).run P w = .ok (valOf ag vs) w:=by
 simp only [loadVar,Sem.run_bind,agg_run ha,Result.andThen_ok]
 cases ag with
 | true=>
  simp only [if_true,Sem.run_bind,size_run hs,Result.andThen_ok,run_loadCells hb hp hv]
  rfl
 | false=>
  have h1:vs.length=1:=by simpa using hn
  match vs,h1 with
  | [v],_=>
   have h0:=take_drop_get hv 0 (by simp)
   simp only [Nat.add_zero,List.getElem_cons_zero] at h0
   simp only [Bool.false_eq_true,if_false]
   have hc:w.cell? p=some v:=by simp [World.cell?,hb,hp,h0]
   rw [run_load_some hc]
   rfl
theorem one_store {v:Value} (h:one v=true) (P:Program) (w:World) (p:Addr) {u:Value} (hc:w.cell? p=some u) (hf:w.frozen? p=false):(store p v).run P w = .ok () (w.setCell p v):=by
 cases v<;>simp [one] at h<;>simp [store,Sem.run,hc,hf]
theorem setCell_putB {w:World} {p:Addr} {cs:List Value} {ty:TypeId} {fz:Nat×Nat} (hb:w.heap[p.block]?=some (.cells cs.toArray ty fz)) (hp:p.spot=none) (i:Nat) (v:Value) :
  w.setCell (p.add i) v=putB w p.block (.cells (cs.set (p.off+i) v).toArray ty fz):=by
 have hlt:=lt_of_heap hb
 have hg:w.heap[p.block] = .cells cs.toArray ty fz:=by simpa [Array.getElem?_eq_getElem hlt] using hb
 have e : ∀ q:Addr,q.block=p.block->q.off=p.off+i->q.spot=none->w.setCell q v=putB w p.block (.cells (cs.set (p.off+i) v).toArray ty fz):=by
  intro q h1 h2 h3
  unfold World.setCell putB
  congr 1
  apply Array.ext_getElem?
  intro j
  rw [h1,Array.getElem?_modify,Array.getElem?_setIfInBounds]
  by_cases hj:p.block=j
  ·subst hj
   simp [hg,h2,h3,hlt]
  ·simp [hj]
 unfold Addr.add
 split
 ·rename_i h0;subst h0;exact e p rfl rfl hp
 ·exact e _ rfl rfl rfl
theorem putB_putB (w:World) (k:Nat) (o o' : Obj):putB (putB w k o) k o' = putB w k o' := by
 unfold putB
 congr 1
 apply Array.ext_getElem?
 intro j
 simp only [Array.getElem?_setIfInBounds,Array.size_setIfInBounds]
 split<;>rfl
theorem putB_self {w:World} {k:Nat} {o:Obj} (h:w.heap[k]?=some o):putB w k o=w:=by
 have hlt:=lt_of_heap h
 have hg:w.heap[k]=o:=by simpa [Array.getElem?_eq_getElem hlt] using h
 have:w.heap.setIfInBounds k o=w.heap:=by
  apply Array.ext_getElem?
  intro j
  rw [Array.getElem?_setIfInBounds]
  split
  ·rename_i hj;subst hj;rw [h]
  ·rfl
 unfold putB
 rw [this]
theorem setSeg_nil (cs:List Value) (off:Nat):setSeg cs off []=cs:=by simp [setSeg]
theorem setSeg_cons (cs:List Value) (off:Nat) (v:Value) (vs:List Value) (h:off<cs.length):setSeg (cs.set off v) (off+1) vs=setSeg cs off (v::vs):=by
 unfold setSeg
 simp only [List.length_cons]
 have h1:(cs.set off v).take (off+1)=cs.take off++[v]:=by
  rw [List.take_succ_eq_append_getElem (by simpa using h),List.take_set_of_le (Nat.le_refl _)]
  simp
 have h2:(cs.set off v).drop (off+1+vs.length)=cs.drop (off+(vs.length+1)):=by
  rw [List.drop_set_of_lt (by omega)]
  congr 1
  omega
 rw [h1,h2]
 simp
theorem allOne_spec {l:List Value} (h:allOne l=true) : ∀ x∈l,one x=true:=by
 induction l with
 | nil=>intro x hx;cases hx
 | cons v r ih=>
  simp only [allOne,Bool.and_eq_true] at h
  intro x hx
  cases hx with
  | head=>exact h.1
  | tail _ hx=>exact ih h.2 x hx
theorem run_storeCells {P:Program} {p:Addr} {ty:TypeId} (hp:p.spot=none) : ∀ (vs cs:List Value) (w:World) (i:Nat),w.heap[p.block]?=some (.cells cs.toArray ty (0,0))->(∀ x∈vs,Go.Vcg.one x=true)->
  p.off+i+vs.length<=cs.length->(storeCells p vs i).run P w = .ok () (putB w p.block (.cells (setSeg cs (p.off+i) vs).toArray ty (0,0)))
 | [],cs,w,i,hb,_,_=>by
  rw [setSeg_nil,putB_self hb]
  simp [storeCells]
 | v::vs,cs,w,i,hb,h1,hl=>by
  simp only [List.length_cons] at hl
  have hc:w.cell? (p.add i)=some (cs[p.off+i]'(by omega)):=by rw [cell_add hb hp,List.getElem?_eq_getElem]
  have hs:=one_store (h1 v (by simp)) P w (p.add i) hc (frozen_add hb i)
  have hlt:=lt_of_heap hb
  have hb' : (putB w p.block (.cells (cs.set (p.off+i) v).toArray ty (0,0))).heap[p.block]?=some (.cells (cs.set (p.off+i) v).toArray ty (0,0)):=by
   rw [heap_putB _ _ _ _ hlt,if_pos rfl]
  have hr:=run_storeCells (P:=P) hp vs (cs.set (p.off+i) v) _ (i+1) hb' (fun x hx=>h1 x (by simp [hx])) (by simp;omega)
  simp only [storeCells,Sem.run_bind,hs,Result.andThen_ok,setCell_putB hb hp]
  rw [hr,putB_putB,<- Nat.add_assoc,setSeg_cons _ _ _ _ (by omega)]
theorem vcells_toList (v:Value):v.cells.toList=vcells v:=by cases v<;>rfl
theorem vcells_size (v:Value):v.cells.size=(vcells v).length:=by rw [<- vcells_toList];simp
theorem run_storeVar {P:Program} {p:Addr} {ty t:TypeId} {n:Nat} {cs:List Value} {v:Value} {w:World} (hs:tySize P t=some n) (hp:p.spot=none) (hb:w.heap[p.block]?=some (.cells cs.toArray ty (0,0)))
  (h1:allOne (vcells v)=true) (hn:(vcells v).length=n) (hl:p.off+n<=cs.length):(storeVar t p v).run P w = .ok () (putB w p.block (.cells (setSeg cs p.off (vcells v)).toArray ty (0,0))):=by
 have hr:=run_storeCells (P:=P) (ty:=ty) hp (vcells v) cs w 0 hb (allOne_spec h1) (by omega)
 simp only [storeVar,Sem.run_bind,size_run hs,Result.andThen_ok,vcells_size,hn,ne_eq,not_true,if_false]
 simpa [vcells_toList] using hr
theorem Frm.refl (h:Heap) (w:World):Frm h h w w:=⟨Nat.le_refl _,rfl,rfl,rfl,fun _ _ hk=>⟨hk,rfl⟩⟩
theorem Frm.trans {h0 h1 h2:Heap} {w0 w1 w2:World} (a:Frm h0 h1 w0 w1) (b:Frm h1 h2 w1 w2):Frm h0 h2 w0 w2 where
 size:=Nat.le_trans a.size b.size
 os:=b.os.trans a.os
 tape:=b.tape.trans a.tape
 output:=b.output.trans a.output
 keep k hk h:=by
  obtain ⟨h1,e1⟩:=a.keep k hk h
  obtain ⟨h2,e2⟩:=b.keep k (Nat.lt_of_lt_of_le hk a.size) h1
  exact ⟨h2,e2.trans e1⟩
theorem Heap.put_same (h:Heap) (g:Nat) (b:Blk):h.put g b g=some b:=by simp [Heap.put]
theorem Heap.put_ne (h:Heap) {g k:Nat} (b:Blk) (hk:k≠g):h.put g b k=h k:=by simp [Heap.put,hk]
section
variable {P:Program} {nt:Nat} {h0:Heap} {w0:World} {s:Nat->Nat} {st:St} {a:Act} {w:World} {mb:Nat->Bool}
theorem Good.lt (g:Good nt h0 w0 s st a w) {k:Nat} {b:Blk} (h:st.h k=some b):k<w.heap.size:=(g.sat k b h).lt
theorem Good.fresh (g:Good nt h0 w0 s st a w):st.h w.heap.size=none:=by
 cases h:st.h w.heap.size with
 | none=>rfl
 | some b=>exact absurd (g.lt h) (by omega)
theorem Good.drawn (g:Good nt h0 w0 s st a w) (n:Nat):Good nt h0 w0 s st a { w with drawn:=n }:=
 ⟨g.defers,g.size,g.rep,fun k b hb=>(g.sat k b hb).same rfl,⟨g.frm.size,g.frm.os,g.frm.tape,g.frm.output,g.frm.keep⟩,g.box,g.inj,g.wfb⟩
theorem Good.putVisO (g:Good nt h0 w0 s st a w) {k:Nat} {b b' : Blk} (hk:st.h k=some b) {o:Obj} (ho:SatB (putB w k o) k b') :
  Good nt h0 w0 s (st.setH (st.h.put k b')) a (putB w k o) where
 defers:=g.defers
 size:=g.size
 rep:=g.rep
 sat j c hj:=by
  simp only [St.setH] at hj
  by_cases h:j=k
  ·subst h
   rw [Heap.put_same,Option.some.injEq] at hj
   subst hj
   exact ho
  ·rw [Heap.put_ne _ _ h] at hj
   exact (g.sat j c hj).same (by rw [heap_putB _ _ _ _ (g.lt hk),if_neg h])
 frm:=by
  refine g.frm.trans (w1:=w) (h1:=st.h) ⟨by simp [putB],rfl,rfl,rfl,fun j hj hn=> ?_⟩
  have h:j≠k:=fun e=>by subst e;rw [hk] at hn;cases hn
  simp only [St.setH]
  rw [Heap.put_ne _ _ h,heap_putB _ _ _ _ (g.lt hk),if_neg h]
  exact ⟨hn,rfl⟩
 box i hi:=by
  obtain ⟨h1,h2,ty,h3⟩:=g.box i hi
  have h:s i≠k:=fun e=>by rw [e,hk] at h2;cases h2
  refine ⟨h1, ?_,ty, ?_⟩
  ·simp only [St.setH];rw [Heap.put_ne _ _ h];exact h2
  ·rw [heap_putB _ _ _ _ (g.lt hk),if_neg h];exact h3
 inj:=g.inj
 wfb:=g.wfb
theorem Good.putVis (g:Good nt h0 w0 s st a w) {k:Nat} {b b' : Blk} (hk:st.h k=some b) (hf:b'.fz=(0,0)) :
  Good nt h0 w0 s (st.setH (st.h.put k b')) a (putB w k (.cells b'.cells.toArray b'.ty b'.fz)):=
 g.putVisO hk (.mk' (plain_fz hf) (by rw [heap_putB _ _ _ _ (g.lt hk),if_pos rfl]))
theorem Good.putBox (g:Good nt h0 w0 s st a w) {i:Nat} (hi:i<st.nb) {ty:TypeId} (hb:w.heap[s i]?=some (.cells (st.B i).toArray ty (0,0))) (cs:List Value) :
  Good nt h0 w0 s (st.setB i cs) a (putB w (s i) (.cells cs.toArray ty (0,0))) where
 defers:=g.defers
 size:=g.size
 rep:=g.rep
 sat j c hj:=by
  have h:j≠s i:=fun e=>by
   subst e
   have:=(g.box i hi).2.1
   simp only [St.setB] at hj
   rw [this] at hj;cases hj
  exact (g.sat j c hj).same (by rw [heap_putB _ _ _ _ (lt_of_heap hb),if_neg h])
 frm:=by
  refine ⟨by simpa [putB] using g.frm.size,g.frm.os,g.frm.tape,g.frm.output,fun j hj hn=> ?_⟩
  have h:j≠s i:=fun e=>by have:=(g.box i hi).1;omega
  rw [heap_putB _ _ _ _ (lt_of_heap hb),if_neg h]
  exact g.frm.keep j hj hn
 box j hj:=by
  obtain ⟨h1,h2,ty', h3⟩:=g.box j hj
  by_cases e:j=i
  ·subst e
   refine ⟨h1,h2,ty, ?_⟩
   rw [heap_putB _ _ _ _ (lt_of_heap hb),if_pos rfl]
   simp [St.setB]
  ·have hne:s j≠s i:=fun q=>e (g.inj j i hj hi q)
   refine ⟨h1,h2,ty', ?_⟩
   rw [heap_putB _ _ _ _ (lt_of_heap hb),if_neg hne]
   simp only [St.setB,beq_ne e,cond_false]
   exact h3
 inj:=g.inj
 wfb:=g.wfb
theorem Good.newVisO (g:Good nt h0 w0 s st a w) (b:Blk) {o:Obj} (ho:SatB (addB w o) w.heap.size b):Good nt h0 w0 s (st.setH (st.h.put w.heap.size b)) a (addB w o) where
 defers:=g.defers
 size:=g.size
 rep:=g.rep
 sat j c hj:=by
  simp only [St.setH] at hj
  by_cases h:j=w.heap.size
  ·subst h
   rw [Heap.put_same,Option.some.injEq] at hj
   subst hj
   exact ho
  ·rw [Heap.put_ne _ _ h] at hj
   exact (g.sat j c hj).same (by rw [heap_addB,if_neg h])
 frm:=by
  refine g.frm.trans (w1:=w) (h1:=st.h) ⟨by simp [addB],rfl,rfl,rfl,fun j hj hn=> ?_⟩
  have h:j≠w.heap.size:=by omega
  simp only [St.setH]
  rw [Heap.put_ne _ _ h,heap_addB,if_neg h]
  exact ⟨hn,rfl⟩
 box i hi:=by
  obtain ⟨h1,h2,ty,h3⟩:=g.box i hi
  have h:s i≠w.heap.size:=fun e=>by have:=lt_of_heap h3;omega
  refine ⟨h1, ?_,ty, ?_⟩
  ·simp only [St.setH];rw [Heap.put_ne _ _ h];exact h2
  ·rw [heap_addB,if_neg h];exact h3
 inj:=g.inj
 wfb:=g.wfb
theorem Good.newVis (g:Good nt h0 w0 s st a w) (b:Blk) (hf:b.fz=(0,0)):Good nt h0 w0 s (st.setH (st.h.put w.heap.size b)) a (addB w (.cells b.cells.toArray b.ty b.fz)):=
 g.newVisO b (.mk' (plain_fz hf) (by rw [heap_addB,if_pos rfl]))
def sigP (s:Nat->Nat) (n g:Nat):Nat->Nat:=fun i=>if i=n then g else s i
theorem Good.newBox (g:Good nt h0 w0 s st a w) (cs:List Value) (ty:TypeId) :
  Good nt h0 w0 (sigP s st.nb w.heap.size) { st with nb:=st.nb+1,B:=fun i=>bif Nat.beq i st.nb then cs else st.B i } a (addB w (.cells cs.toArray ty (0,0))) where
 defers:=g.defers
 size:=g.size
 rep t x hx:=by
  rw [g.rep t x hx]
  cases x with
  | v _=>rfl
  | bx i off=>
   have:=g.wfb t i off hx
   simp only [SV.val,sigP]
   rw [if_neg (by omega)]
 sat j c hj:=by
  have h:j≠w.heap.size:=fun e=>by have:=g.lt hj;omega
  exact (g.sat j c hj).same (by rw [heap_addB,if_neg h])
 frm:=by
  refine ⟨by have:=g.frm.size;simp [addB];omega,g.frm.os,g.frm.tape,g.frm.output,fun j hj hn=> ?_⟩
  have h:j≠w.heap.size:=by have:=g.frm.size;omega
  rw [heap_addB,if_neg h]
  exact g.frm.keep j hj hn
 box i hi:=by
  by_cases e:i=st.nb
  ·subst e
   simp only [sigP,if_true]
   refine ⟨g.frm.size,g.fresh,ty, ?_⟩
   rw [heap_addB,if_pos rfl]
   simp
  ·obtain ⟨h1,h2,ty', h3⟩:=g.box i (by simp at hi;omega)
   have h:s i≠w.heap.size:=fun q=>by have:=lt_of_heap h3;omega
   simp only [sigP,if_neg e]
   refine ⟨h1,h2,ty', ?_⟩
   rw [heap_addB,if_neg h]
   simp only [beq_ne e,cond_false]
   exact h3
 inj i j hi hj e:=by
  simp only at hi hj
  simp only [sigP] at e
  have lt : ∀ k,k<st.nb->s k<w.heap.size:=fun k hk=>by
   obtain ⟨_,_,_,h3⟩:=g.box k hk
   exact lt_of_heap h3
  split at e<;>split at e
  ·omega
  ·have:=lt j (by omega);omega
  ·have:=lt i (by omega);omega
  ·exact g.inj i j (by omega) (by omega) e
 wfb t i off hx:=by
  have:=g.wfb t i off hx
  show i<st.nb+1
  omega
theorem ext_h (h:Heap):Ext (fun _=>false) mb s st a s (st.setH h) a:=⟨fun _ _=>rfl,Nat.le_refl _,fun _ _=>rfl,fun _ _ _=>rfl⟩
theorem ext_b {i:Nat} (hi:mb i=true) (cs:List Value):Ext (fun _=>false) mb s st a s (st.setB i cs) a:=
 ⟨fun _ _=>rfl,Nat.le_refl _,fun _ _=>rfl,fun j _ hb=>by
  have:j≠i:=fun e=>by subst e;rw [hi] at hb;cases hb
  simp [St.setB,beq_ne this]⟩
theorem ext_new (cs:List Value) (g:Nat):Ext (fun _=>false) mb s st a (sigP s st.nb g) { st with nb:=st.nb+1,B:=fun i=>bif Nat.beq i st.nb then cs else st.B i } a:=
 ⟨fun _ _=>rfl,Nat.le_succ _,fun i hi=>by simp only [sigP];rw [if_neg (by omega)],fun j hj _=>by
  have:j≠st.nb:=by omega
  simp [beq_ne this]⟩
theorem Good.call (g:Good nt h0 w0 s st a w) {h' : Heap} {w' : World} (hs:Sat h' w') (fr:Frm st.h h' w w'):Good nt h0 w0 s (st.setH h') a w' where
 defers:=g.defers
 size:=g.size
 rep:=g.rep
 sat:=hs
 frm:=g.frm.trans fr
 box i hi:=by
  obtain ⟨h1,h2,ty,h3⟩:=g.box i hi
  obtain ⟨k1,k2⟩:=fr.keep (s i) (lt_of_heap h3) h2
  exact ⟨h1,k1,ty,k2.trans h3⟩
 inj:=g.inj
 wfb:=g.wfb
end
theorem exL_get : ∀ (ss:List Sh) {F:List Value->Prop},exL ss F-> ∃ vs,vs.length=ss.length/\F vs
 | [],F,h=>⟨[],rfl,h⟩
 | sh::r,F,h=>by
  cases sh with
  | int k=>obtain ⟨n,h⟩:=h;obtain ⟨vs,hl,hF⟩:=exL_get r h;exact ⟨_,by simp [hl],hF⟩
  | bool=>obtain ⟨n,h⟩:=h;obtain ⟨vs,hl,hF⟩:=exL_get r h;exact ⟨_,by simp [hl],hF⟩
  | str=>obtain ⟨n,h⟩:=h;obtain ⟨vs,hl,hF⟩:=exL_get r h;exact ⟨_,by simp [hl],hF⟩
  | slice=>obtain ⟨A,n,c,h⟩:=h;obtain ⟨vs,hl,hF⟩:=exL_get r h;exact ⟨_,by simp [hl],hF⟩
  | ptr=>obtain ⟨n,h⟩:=h;obtain ⟨vs,hl,hF⟩:=exL_get r h;exact ⟨_,by simp [hl],hF⟩
  | any=>obtain ⟨n,h⟩:=h;obtain ⟨vs,hl,hF⟩:=exL_get r h;exact ⟨_,by simp [hl],hF⟩
theorem exC_get : ∀ (cs:List (Bool×List Sh)) {F:List Value->Prop},exC cs F-> ∃ us,F us
 | [],F,h=>⟨[],h⟩
 | (true,ss)::r,F,h=>by
  obtain ⟨vs,_,h⟩:=exL_get ss h
  obtain ⟨us,h⟩:=exC_get r h
  exact ⟨_,h⟩
 | (false,ss)::r,F,h=>by
  obtain ⟨vs,_,h⟩:=exL_get ss h
  obtain ⟨us,h⟩:=exC_get r h
  exact ⟨_,h⟩
section
variable {P:Program} {w:World}
theorem resR_get {t:TypeId} {v:Value} {K:Value->Prop} (h:resR P t v K):K v:=by
 unfold resR at h
 split at h
 ·obtain ⟨us,e,h2⟩:=exC_get _ h;rw [e];exact h2
 ·obtain ⟨us,e,h2⟩:=exC_get _ h;rw [e];exact h2
 ·exact h.elim
theorem zero_run {t:TypeId} {z:List Value} (h:zeroCellsOf P t=some z) : ∃ v i,P.info? t=some i/\i.zero=some v/\vcells v=z/\(zeroValue t).run P w = .ok v w:=by
 unfold zeroCellsOf at h
 split at h
 ·rename_i i hi
  split at h
  ·rename_i v hv
   simp only [Option.some.injEq] at h
   exact ⟨v,i,hi,hv,h,by simp [zeroValue,typeInfo,hi,hv]⟩
  ·cases h
 ·cases h
theorem run_newVar (t:TypeId) (v:Value):(newVar t v).run P w = .ok ⟨w.heap.size,0,none⟩ (addB w (.cells (vcells v).toArray t (0,0))):=by
 have:v.cells=(vcells v).toArray:=by rw [<- vcells_toList]
 simp only [newVar,newRow,newObj,Sem.run_bind]
 rw [this]
 rfl
theorem foldl_seg (off:Nat) : ∀ (l:List Value) (k:Nat) (cs:Array Value),off+k+l.length<=cs.size->
  (l.zipIdx k).foldl (fun cs (x:Value×Nat)=>cs.setIfInBounds (off+x.2) x.1) cs=(setSeg cs.toList (off+k) l).toArray
 | [],k,cs,_=>by simp [setSeg_nil]
 | v::l,k,cs,h=>by
  simp only [List.length_cons] at h
  simp only [List.zipIdx_cons,List.foldl_cons]
  rw [foldl_seg off l (k+1) _ (by simp;omega)]
  rw [show off+(k+1)=off+k+1 from by omega]
  have:(cs.setIfInBounds (off+k) v).toList=cs.toList.set (off+k) v:=by simp
  rw [this,setSeg_cons _ _ _ _ (by simp;omega)]
theorem fill_eq (place:Nat->Option (Nat×Nat)) : ∀ (parts:List (Nat×Value)) (cs r:List Value),fillL place cs parts=some r->Instr.fill place cs.toArray parts=some r.toArray
 | [],cs,r,h=>by simp only [fillL,Option.some.injEq] at h;subst h;rfl
 | (i,v)::rest,cs,r,h=>by
  simp only [fillL] at h
  split at h
  ·cases h
  ·rename_i off size hp
   split at h
   ·rename_i hc
    simp only [Bool.and_eq_true,Nat.ble_eq] at hc
    have h1:=beq_eq hc.1
    have h2:=hc.2
    have hs:v.cells.size=size:=by rw [vcells_size,h1]
    have hcond:(decide (v.cells.size≠size)||decide (off+v.cells.size>cs.toArray.size))=false:=by
     simp only [hs,ne_eq,not_true,decide_false,Bool.false_or,decide_eq_false_iff_not,List.size_toArray]
     omega
    have hf:v.cells.zipIdx.foldl (fun cs (x:Value×Nat)=>cs.setIfInBounds (off+x.2) x.1) cs.toArray=(setSeg cs off (vcells v)).toArray:=by
     rw [<- Array.foldl_toList,Array.toList_zipIdx]
     have:=foldl_seg off (vcells v) 0 cs.toArray (by simp;omega)
     rw [vcells_toList]
     simpa using this
    simp only [Instr.fill,hp]
    have ih:=fill_eq place rest _ r h
    simp only [hcond,Bool.false_eq_true,if_false]
    rw [<- ih,<- hf]
   ·cases h
theorem places_run : ∀ (fs:List Field) {pl:List (Nat×Nat)},placesOf P fs=some pl->
  (fs.mapM fun f=>(do pure (f.offset,<- sizeOf f.type):Sem (Nat×Nat))).run P w = .ok pl w
 | [],pl,h=>by simp only [placesOf,Option.some.injEq] at h;subst h;rfl
 | f::r,pl,h=>by
  simp only [placesOf] at h
  split at h
  ·rename_i n l hn hl
   simp only [Option.some.injEq] at h
   subst h
   have ih:=places_run r hl
   simp only [List.mapM_cons,Sem.run_bind,size_run hn,Result.andThen_ok,Sem.run_pure,ih]
  ·cases h
theorem partsV_eval {nt:Nat} {h0:Heap} {w0:World} {s:Nat->Nat} {st:St} {a:Act} (g:Good nt h0 w0 s st a w) : ∀ (ps:List (Nat×Operand)) {l:List (Nat×Value)},partsV st ps=some l->
  ps.map (fun x=>(x.1,a.eval x.2))=l
 | [],l,h=>by simp only [partsV,Option.some.injEq] at h;subst h;rfl
 | (i,x)::r,l,h=>by
  simp only [partsV] at h
  split at h
  ·rename_i y l' hx hl
   simp only [Option.some.injEq] at h
   subst h
   simp only [List.map_cons,partsV_eval g r hl,ev_eval g hx]
   rfl
  ·cases h
theorem build_run {t:TypeId} {l:List (Nat×Value)} {cs:List Value} (h:buildV P t l=some cs):(Instr.build t l.toArray).run P w = .ok (.agg cs.toArray) w:=by
 unfold buildV at h
 split at h
 ·rename_i z fs hz hu
  obtain ⟨v,i,_,_,hv,hr⟩:=zero_run (w:=w) hz
  split at h
  ·rename_i pl hpl
   have hf:=fill_eq _ _ _ _ h
   have hc:v.cells=z.toArray:=by rw [<- hv,<- vcells_toList]
   have hm:(fs.mapM fun f=>(do pure (f.offset,<- sizeOf f.type):Sem (Nat×Nat))).run P w = .ok pl.toArray w:=by
    rw [Array.mapM_eq_mapM_toList]
    simp only [map_eq_pure_bind,Sem.run_bind,places_run (w:=w) _ hpl,Result.andThen_ok,Sem.run_pure]
   have hf' : Instr.fill (fun i=>pl.toArray[i]?) z.toArray l=some cs.toArray:=by simpa using hf
   simp only [Instr.build,Sem.run_bind,hr,Result.andThen_ok,run_underlying hu,hm,hc,hf']
   rfl
  ·cases h
 ·rename_i z n e hz hu
  obtain ⟨v,i,_,_,hv,hr⟩:=zero_run (w:=w) hz
  split at h
  ·rename_i sz hsz
   have hf:=fill_eq _ _ _ _ h
   have hc:v.cells=z.toArray:=by rw [<- hv,<- vcells_toList]
   simp only [Instr.build,Sem.run_bind,hr,Result.andThen_ok,run_underlying hu,size_run hsz,hc,hf]
   rfl
  ·cases h
 ·cases h
theorem repV_length (z:List Value) (n:Nat):(repV z n).length=n*z.length:=by
 induction n with
 | zero=>simp [repV]
 | succ n ih=>simp [repV,ih,Nat.succ_mul,Nat.add_comm]
theorem repV_get (z:List Value) : ∀ (n i:Nat),i<n*z.length->(repV z n)[i]?=z[i%z.length]?
 | 0,i,h=>by simp at h
 | n+1,i,h=>by
  simp only [repV]
  by_cases hi:i<z.length
  ·rw [List.getElem?_append_left hi,Nat.mod_eq_of_lt hi]
  ·have hz:z.length<=i:=by omega
   rw [List.getElem?_append_right hz,repV_get z n (i-z.length) (by rw [Nat.succ_mul] at h;omega),Nat.mod_eq_sub_mod hz]
theorem made_eq (z:List Value) (n:Nat):(Array.range (n*z.length)).map (fun i=>z.toArray[i%z.toArray.size]!)=(repV z n).toArray:=by
 apply Array.ext_getElem?
 intro i
 by_cases hi:i<n*z.length
 ·have hpos:0<z.length:=by
   rcases Nat.eq_zero_or_pos z.length with h | h
   ·rw [h] at hi;simp at hi
   ·exact h
  have hm:i%z.length<z.length:=Nat.mod_lt _ hpos
  simp only [Array.getElem?_map,List.getElem?_toArray,repV_get z n i hi]
  rw [List.getElem?_eq_getElem hm]
  simp [hi,hm]
 ·have h1:(repV z n).length<=i:=by rw [repV_length];omega
  simp [hi,h1]
theorem zeroCells_eq (z:List Value) (n:Nat):Builtin.zeroCells z.toArray n=(repV z n).toArray:=by
 unfold Builtin.zeroCells
 have:=made_eq z n
 simpa using this
theorem makeSlice_run {t e:TypeId} {i:TypeInfo} {z:List Value} {kl kc:IntKind} {n c:Int} (ht:elemOf P t=some e) (hi:P.info? e=some i) (hz:zeroCellsOf P e=some z)
  (hzl:z.length=i.size) (h0:0<=n) (hnc:n<=c) (hb:c*(i.bytes:Int)<=140737488355328) (h63:c<=9223372036854775807) :
  (Instr.makeSlice t (.int kl n) (.int kc c)).run P w = .ok (.slice (some ⟨w.heap.size,0,none⟩) n.toNat c.toNat) (addB w (.cells (repV z c.toNat).toArray e (0,0))):=by
 have hu:P.underlying t=some (.slice e):=by
  unfold elemOf at ht
  split at ht
  ·rename_i e' hu;simp only [Option.some.injEq] at ht;subst ht;exact hu
  ·cases ht
 obtain ⟨v,i', hi', hz', hv,_⟩:=zero_run (w:=w) hz
 rw [hi] at hi'
 simp only [Option.some.injEq] at hi'
 subst hi'
 have hr:=run_make (P:=P) w t e i v hu hi hz' kl kc n c h0 hnc (by rw [Int.mul_comm];omega) h63
 rw [hr]
 have hc:v.cells=z.toArray:=by rw [<- hv,<- vcells_toList]
 have:madeCells v.cells (c.toNat*i.size)=(repV z c.toNat).toArray:=by
  rw [hc,<- hzl]
  exact made_eq z c.toNat
 rw [this]
 rfl
theorem bound_run {x:Option Value} {d lo hi:Nat} {K:Nat->Prop} (code:BoundsCode) (h:boundR x d lo hi K) (hlo:lo=0) :
  ∃ k,(match x with | some v=>Instr.sliceBound v hi code | none=>pure d).run P w = .ok k w/\K k:=by
 subst hlo
 cases x with
 | none=>exact ⟨d,rfl,h⟩
 | some v=>
  cases v<;>simp only [boundR] at h<;>try exact h.elim
  rename_i k n
  obtain ⟨h1,h2,h3⟩:=h
  have hc:0<=n/\n<=(hi:Int):=⟨by simpa using h1,h2⟩
  exact ⟨_,by simp [Instr.sliceBound,asIntOf,hc],h3⟩
theorem slice_run {t:TypeId} {x:Value} {lo hi:Option Value} {K:Value->Prop} (h:sliceR P t x lo hi K) : ∃ z,(Instr.sliceAt t x lo hi none).run P w = .ok z w/\K z:=by
 unfold sliceR at h
 split at h
 ·rename_i s hu
  obtain ⟨hh,hr1,h⟩:=bound_run (P:=P) (w:=w) .sliceAlen h rfl
  obtain ⟨l,hr2,h⟩:=bound_run (P:=P) (w:=w) .sliceB h rfl
  refine ⟨_, ?_,h⟩
  have hb:(Instr.sliceBounds false s.size s.size lo hi none).run P w = .ok (l,hh,s.size) w:=by
   cases hi<;>cases lo<;>simp only [Instr.sliceBounds,Sem.run_bind,Sem.run_pure,Result.andThen_ok]<;>simp_all
  simp only [Instr.sliceAt,Instr.slice,Sem.run_bind,run_underlying hu,Result.andThen_ok]
  simp [hb]
 ·rename_i e A n c hu
  split at h
  ·rename_i sz hsz
   split at h
   ·obtain ⟨hh,hr1,h⟩:=bound_run (P:=P) (w:=w) .sliceAcap h rfl
    refine ⟨_, ?_,h⟩
    have hb:(Instr.sliceBounds true n c none hi none).run P w = .ok (0,hh,c) w:=by
     cases hi<;>simp only [Instr.sliceBounds,Sem.run_bind,Sem.run_pure,Result.andThen_ok]<;>simp_all
    have hA:(if c=0 then A else A.map fun x=>x.add (0*sz))=A:=by
     split
     ·rfl
     ·cases A<;>simp [Addr.add]
    simp only [Instr.sliceAt,Instr.slice,Sem.run_bind,run_underlying hu,Result.andThen_ok,hb,size_run hsz,Sem.run_pure,Nat.sub_zero]
    rw [hA]
   ·rename_i v
    obtain ⟨hh,hr1,h⟩:=bound_run (P:=P) (w:=w) .sliceAcap h rfl
    obtain ⟨l,hr2,h⟩:=bound_run (P:=P) (w:=w) .sliceB h rfl
    refine ⟨_, ?_,h⟩
    have hb:(Instr.sliceBounds true n c (some v) hi none).run P w = .ok (l,hh,c) w:=by
     cases hi<;>simp only [Instr.sliceBounds,Sem.run_bind,Sem.run_pure,Result.andThen_ok]<;>simp_all
    simp only [Instr.sliceAt,Instr.slice,Sem.run_bind,run_underlying hu,Result.andThen_ok,hb,size_run hsz,Sem.run_pure]
  ·exact h.elim
 ·exact h.elim
theorem part_run {t:TypeId} {cs:List Value} {off:Nat} {K:Value->Prop} (h:partR P t cs off K) : ∃ z,(part t cs.toArray off).run P w = .ok z w/\K z:=by
 unfold partR at h
 split at h
 ·rename_i ag n ha hn
  split at h
  ·rename_i hle
   have hle' : off+n<=cs.length:=by simpa [Nat.ble_eq] using hle
   cases ag with
   | true=>
    refine ⟨_, ?_,h⟩
    simp only [part,Sem.run_bind,agg_run ha,Result.andThen_ok,if_true,size_run hn,Sem.run_pure]
    have:cs.toArray.extract off (off+n)=((cs.drop off).take n).toArray:=by simp [List.extract_eq_take_drop]
    rw [this]
   | false=>
    simp only at h
    split at h
    ·rename_i h1
     have h1' := beq_eq h1
     refine ⟨_, ?_,h⟩
     have hlt:off<cs.length:=by omega
     simp only [part,Sem.run_bind,agg_run ha,Result.andThen_ok,Bool.false_eq_true,if_false]
     have e:(cs.drop off).headD undef=cs[off]:=by
      rw [List.drop_eq_getElem_cons hlt]
      rfl
     rw [e]
     simp [hlt]
    ·exact h.elim
  ·exact h.elim
 ·exact h.elim
theorem firstCells_run {h:Heap} (hs:Sat h w) {A:Option Addr} {n sz:Nat} {vs:List Value} (l c:Nat) (hr:RdS h A (n*sz) vs):(Builtin.firstCells sz n (.slice A l c)).run P w = .ok vs.toArray w:=by
 cases A with
 | none=>
  have h0:n*sz=0:=by
   rcases Nat.eq_zero_or_pos (n*sz) with h | h
   ·exact h
   ·obtain ⟨ad,e,_⟩:=hr.2 h;cases e
  have:vs=[]:=List.eq_nil_of_length_eq_zero (by rw [hr.1,h0])
  subst this
  rfl
 | some a=>
  simp only [Builtin.firstCells]
  rcases Nat.eq_zero_or_pos (n*sz) with h0 | hpos
  ·have:vs=[]:=List.eq_nil_of_length_eq_zero (by rw [hr.1,h0])
   subst this
   rw [h0]
   rfl
  ·obtain ⟨ad,e,hp,b,hb,hv⟩:=hr.2 hpos
   simp only [Option.some.injEq] at e
   subst e
   have hne:vs≠[]:=fun q=>by rw [q] at hr;have:=hr.1;simp at this;omega
   rw [<- hr.1]
   exact run_loadCells ((hs _ _ hb).cells (plain_take hv hne)) hp hv
theorem append_stay {h:Heap} (hs:Sat h w) {t t' e e' ty:TypeId} {i:TypeInfo} (ht:P.underlying t=some (.slice e)) (ht' : P.underlying t' = some (.slice e')) (hi:P.info? e=some i)
  {A A' : Option Addr} {n c m c' : Nat} {xs:List Value} (hx:RdS h A' (m*i.size) xs) (h1 : ∀ x∈xs,Go.Vcg.one x=true) (hle:n+m<=c) {ad:Addr} {b:Blk} (hA:A=some ad) (hp:ad.spot=none) (hb:h ad.block=some b)
  (hf:b.fz=(0,0)) (hl:ad.off+n*i.size+m*i.size<=b.cells.length) :
  (Builtin.append_ #[t,t'] ty #[.slice A n c,.slice A' m c']).run P w = .ok (.slice A (n+m) c) (putB w ad.block (.cells (setSeg b.cells (ad.off+n*i.size) xs).toArray b.ty b.fz)):=by
 subst hA
 have hfc:=firstCells_run (P:=P) hs m c' hx
 have hsat:=(hs _ _ hb).cells (plain_fz hf)
 rw [hf] at hsat
 have hst:(storeCells (ad.add (n*i.size)) xs).run P w = .ok () (putB w ad.block (.cells (setSeg b.cells (ad.off+n*i.size) xs).toArray b.ty (0,0))):=by
  have hp' : (ad.add (n*i.size)).spot=none:=by unfold Addr.add;split<;>simp [hp]
  have ho:(ad.add (n*i.size)).off=ad.off+n*i.size:=by unfold Addr.add;split<;>simp_all
  have hbk:(ad.add (n*i.size)).block=ad.block:=by unfold Addr.add;split<;>rfl
  have:=run_storeCells (P:=P) (p:=ad.add (n*i.size)) (ty:=b.ty) hp' xs b.cells w 0 (by rw [hbk];exact hsat) h1 (by rw [ho,hx.1];omega)
  rw [hbk,ho,Nat.add_zero] at this
  exact this
 simp [Builtin.append_,run_underlying ht,run_underlying ht', sizeOf,typeInfo,hi,Builtin.lenOf,hle,hfc,hst,hf]
theorem append_none {h:Heap} (hs:Sat h w) {t t' e e' ty:TypeId} {i:TypeInfo} (ht:P.underlying t=some (.slice e)) (ht' : P.underlying t' = some (.slice e')) (hi:P.info? e=some i)
  {A A' : Option Addr} {n c m c' : Nat} {xs:List Value} (hx:RdS h A' (m*i.size) xs) (hle:n+m<=c) (h0:m*i.size=0) :
  (Builtin.append_ #[t,t'] ty #[.slice A n c,.slice A' m c']).run P w = .ok (.slice A (n+m) c) w:=by
 have hfc:=firstCells_run (P:=P) hs m c' hx
 have:xs=[]:=List.eq_nil_of_length_eq_zero (by rw [hx.1,h0])
 subst this
 cases A with
 | none=>simp [Builtin.append_,run_underlying ht,run_underlying ht', sizeOf,typeInfo,hi,Builtin.lenOf,hle,hfc]
 | some ad=>simp [Builtin.append_,run_underlying ht,run_underlying ht', sizeOf,typeInfo,hi,Builtin.lenOf,hle,hfc,storeCells]
theorem append_grow {h:Heap} (hs:Sat h w) {t t' e e' ty:TypeId} {i:TypeInfo} {z:Value} (ht:P.underlying t=some (.slice e)) (ht' : P.underlying t' = some (.slice e')) (hi:P.info? e=some i)
  (hz:i.zero=some z) {A A' : Option Addr} {n c m c' : Nat} {olds xs:List Value} (hx:RdS h A' (m*i.size) xs) (ho:RdS h A (n*i.size) olds) (hlt:c<n+m)
  (hb1:1<=i.bytes) (hb:(n+m)*i.bytes<=140737488355328) :
  ∃ k d,n+m<=k/\(Builtin.append_ #[t,t'] ty #[.slice A n c,.slice A' m c']).run P w = .ok (.slice (some ⟨w.heap.size,0,none⟩) (n+m) k)
   (addB { w with drawn:=d } (.cells (olds++xs++repV (vcells z) (k-(n+m))).toArray e (0,0))):=by
 have hw' : Sat h w.drew:=fun k b hb=>(hs k b hb).same rfl
 have hfx:=firstCells_run (P:=P) hw' m c' hx
 have hfo:=firstCells_run (P:=P) hw' n c ho
 have hn : ¬ (n+m<=c):=by omega
 have hnm:n+m<=140737488355328:=Nat.le_trans (Nat.le_mul_of_pos_right _ hb1) hb
 have h63' : ¬ (9223372036854775807<((n:Int)+(m:Int))):=by omega
 have h48' : ¬ (281474976710656<Builtin.nextslicecap (n+m) c*i.bytes):=by have:=growslice_fits (need:=n+m) (old:=c) (bytes:=i.bytes) (by omega) hb;omega
 have hq:(Question.appendCap (n+m) c e).forced=false:=rfl
 have hc:z.cells=(vcells z).toArray:=by rw [<- vcells_toList]
 have hzc:=zeroCells_eq (vcells z)
 refine ⟨(Question.appendCap (n+m) c e).cut (w.tape w.drawn (.appendCap (n+m) c e)),w.drawn+1, ?_, ?_⟩
 ·simp only [Question.cut];omega
 ·simp [Builtin.append_,run_underlying ht,run_underlying ht', sizeOf,typeInfo,hi,Builtin.lenOf,hn,h63', h48', hq,choose,Sem.run,hfx,hfo,zeroValue,hz,hc,hzc,newRow,newObj,addB]
  rfl
theorem strC_len (s:ByteArray):(strC s).length=s.size:=by rw [strC,List.length_map,Array.length_toList];rfl
theorem strC_one (s:ByteArray) : ∀ x∈strC s,one x=true:=by
 intro u hu
 simp only [strC,List.mem_map] at hu
 obtain ⟨b,_,rfl⟩:=hu
 rfl
theorem firstCells_str (size:Nat) (s:ByteArray):(Builtin.firstCells size s.size (.string s)).run P w = .ok (strC s).toArray w:=by
 simp [Builtin.firstCells,strC]
 apply Array.ext'
 simp
theorem appendS_stay {h:Heap} (hs:Sat h w) {t t' e ty:TypeId} {i:TypeInfo} (ht:P.underlying t=some (.slice e)) (ht' : P.underlying t' = some .string) (hi:P.info? e=some i) (hsz:i.size=1)
  {A:Option Addr} {n c:Nat} {s:ByteArray} (hle:n+s.size<=c) {ad:Addr} {b:Blk} (hA:A=some ad) (hp:ad.spot=none) (hb:h ad.block=some b)
  (hf:b.fz=(0,0)) (hl:ad.off+n*1+s.size*1<=b.cells.length) :
  (Builtin.append_ #[t,t'] ty #[.slice A n c,.string s]).run P w = .ok (.slice A (n+s.size) c) (putB w ad.block (.cells (setSeg b.cells (ad.off+n*1) (strC s)).toArray b.ty b.fz)):=by
 subst hA
 have hfc:=firstCells_str (P:=P) (w:=w) 1 s
 have hsat:=(hs _ _ hb).cells (plain_fz hf)
 rw [hf] at hsat
 have hst:(storeCells (ad.add (n*1)) (strC s)).run P w = .ok () (putB w ad.block (.cells (setSeg b.cells (ad.off+n*1) (strC s)).toArray b.ty (0,0))):=by
  have hp' : (ad.add (n*1)).spot=none:=by unfold Addr.add;split<;>simp [hp]
  have ho:(ad.add (n*1)).off=ad.off+n*1:=by unfold Addr.add;split<;>simp_all
  have hbk:(ad.add (n*1)).block=ad.block:=by unfold Addr.add;split<;>rfl
  have:=run_storeCells (P:=P) (p:=ad.add (n*1)) (ty:=b.ty) hp' (strC s) b.cells w 0 (by rw [hbk];exact hsat) (strC_one s) (by rw [ho,strC_len];omega)
  rw [hbk,ho,Nat.add_zero] at this
  exact this
 rw [Nat.mul_one] at hst ⊢
 simp [Builtin.append_,run_underlying ht,run_underlying ht', sizeOf,typeInfo,hi,hsz,Builtin.lenOf,hle,hfc,hst,hf]
theorem appendS_none {t t' e ty:TypeId} {i:TypeInfo} (ht:P.underlying t=some (.slice e)) (ht' : P.underlying t' = some .string) (hi:P.info? e=some i)
  {A:Option Addr} {n c:Nat} {s:ByteArray} (hle:n+s.size<=c) (h0:s.size=0) :
  (Builtin.append_ #[t,t'] ty #[.slice A n c,.string s]).run P w = .ok (.slice A (n+s.size) c) w:=by
 have hfc:=firstCells_str (P:=P) (w:=w) i.size s
 have:strC s=[]:=List.eq_nil_of_length_eq_zero (by rw [strC_len,h0])
 rw [this] at hfc
 cases A with
 | none=>simp [Builtin.append_,run_underlying ht,run_underlying ht', sizeOf,typeInfo,hi,Builtin.lenOf,hle,hfc]
 | some ad=>simp [Builtin.append_,run_underlying ht,run_underlying ht', sizeOf,typeInfo,hi,Builtin.lenOf,hle,hfc,storeCells]
theorem appendS_grow {h:Heap} (hs:Sat h w) {t t' e ty:TypeId} {i:TypeInfo} {z:Value} (ht:P.underlying t=some (.slice e)) (ht' : P.underlying t' = some .string) (hi:P.info? e=some i) (hsz:i.size=1) (hby:i.bytes=1)
  (hz:i.zero=some z) {A:Option Addr} {n c:Nat} {s:ByteArray} {olds:List Value} (ho:RdS h A (n*1) olds) (hlt:c<n+s.size) (hb:(n+s.size)*1<=140737488355328) :
  ∃ k d,n+s.size<=k/\(Builtin.append_ #[t,t'] ty #[.slice A n c,.string s]).run P w = .ok (.slice (some ⟨w.heap.size,0,none⟩) (n+s.size) k)
   (addB { w with drawn:=d } (.cells (olds++strC s++repV (vcells z) (k-(n+s.size))).toArray e (0,0))):=by
 have hw' : Sat h w.drew:=fun k b hb=>(hs k b hb).same rfl
 have hfx:=firstCells_str (P:=P) (w:=w.drew) 1 s
 have hfo:=firstCells_run (P:=P) hw' n c ho
 have hn : ¬ (n+s.size<=c):=by omega
 have h63' : ¬ (9223372036854775807<((n:Int)+(s.size:Int))):=by omega
 have h48' : ¬ (281474976710656<Builtin.nextslicecap (n+s.size) c*1):=by have:=growslice_fits (need:=n+s.size) (old:=c) (bytes:=1) (by omega) hb;omega
 have hq:(Question.appendCap (n+s.size) c e).forced=false:=rfl
 have hc:z.cells=(vcells z).toArray:=by rw [<- vcells_toList]
 have hzc:=zeroCells_eq (vcells z)
 rw [Nat.mul_one] at h48'
 refine ⟨(Question.appendCap (n+s.size) c e).cut (w.tape w.drawn (.appendCap (n+s.size) c e)),w.drawn+1, ?_, ?_⟩
 ·simp only [Question.cut];omega
 ·simp [Builtin.append_,run_underlying ht,run_underlying ht', sizeOf,typeInfo,hi,hsz,hby,Builtin.lenOf,hn,h63', h48', hq,choose,Sem.run,hfx,hfo,zeroValue,hz,hc,hzc,newRow,newObj,addB]
  rfl
end
theorem run_v {P:Program} {w w' : World} {m:Sem Value} {z:Value} (h:m.run P w = .ok z w'):(do pure (Next.value (<- m)):Sem Next).run P w = .ok (.value z) w' := by
 rw [Sem.run_bind,h];rfl
theorem run_u {P:Program} {w w' : World} {m:Sem Unit} (h:m.run P w = .ok () w'):(do m;pure Next.skip:Sem Next).run P w = .ok .skip w' := by
 rw [Sem.run_bind,h];rfl
section
variable {P:Program} {nt:Nat} {h0:Heap} {w0:World} {s:Nat->Nat} {st:St} {a:Act} {w:World} {K:St->Prop} {mb vis:Nat->Bool} {Q:Exit->Act->World->Prop}
 {dst:Option Tmp} {type:TypeId} {pos:String} {after:Array Edge} {guard:Option (Nat×Bool)}
theorem wp_plain {op:Op} {z:Value} (g:Good nt h0 w0 s st a w) (hr:(execOp a.eval ⟨dst,op,type,pos,after,guard⟩).run P w = .ok (.value z) w) (hk:putK nt dst (.v z) st K) :
  Oper.wp P ⟨dst,op,type,pos,after,guard⟩ a w (NextP nt h0 w0 K (dstW dst) mb s st a) Q:=
 wp_value (v:= .v z) hr g (Ext.refl _ _ _ _ _) trivial hk
theorem sound_copy (g:Good nt h0 w0 s st a w) {op:Op} {x:Operand} {v:SV} (hx:ev st x=some v) (hr:(execOp a.eval ⟨dst,op,type,pos,after,guard⟩).run P w = .ok (.value (a.eval x)) w) (hk:putK nt dst v st K) :
  Oper.wp P ⟨dst,op,type,pos,after,guard⟩ a w (NextP nt h0 w0 K (dstW dst) mb s st a) Q:=by
 rw [ev_eval g hx] at hr
 exact wp_value hr g (Ext.refl _ _ _ _ _) (ev_ok g hx) hk
theorem sound_box (g:Good nt h0 w0 s st a w) {op:Op} {t:TypeId} {cells:List Value}
  (hr:(execOp a.eval ⟨dst,op,type,pos,after,guard⟩).run P w = .ok (.value (.pointer (some ⟨w.heap.size,0,none⟩))) (addB w (.cells cells.toArray t (0,0)))) (hk:boxR nt vis dst t cells st K) :
  Oper.wp P ⟨dst,op,type,pos,after,guard⟩ a w (NextP nt h0 w0 K (dstW dst) mb s st a) Q:=by
 unfold boxR at hk
 split at hk
 ·split at hk
  ·have h:=hk w.heap.size _ g.fresh rfl
   exact wp_value (v:= .v (.pointer (some ⟨w.heap.size,0,none⟩))) hr (g.newVis ⟨cells,t,(0,0)⟩ rfl) (ext_h _) trivial h
  ·refine wp_value (v:= .bx st.nb 0) (s1:=sigP s st.nb w.heap.size) ?_ (g.newBox cells t) (ext_new cells _) (Nat.lt_succ_self _) hk
   rw [hr]
   simp [SV.val,sigP]
 ·exact hk.elim
theorem resolve_func (ρ:Operand->Value) (f:FuncId) (args:Array Operand) (ats:Array TypeId) (t:TypeId) (hf:ρ (.func f) = .func (.func f) #[] #[]) :
  (do let d <- resolve ρ { callee:= .value (.func f),args:=args,argTypes:=ats } t;invoke d.target d.args:Sem Next)=callFunc f (args.map ρ):=by
 simp only [resolve,Deferred.ofValue,hf]
 simp [invoke]
theorem callFunc_run {f:FuncId} (hc:Callable P f) (args:Array Value):(callFunc f args).run P w = .ok (.enter f args) w:=by
 obtain ⟨fn,h1,h2,h3⟩:=hc
 have h3' : fn.name ≠ "runtime.NumGoroutine" := by simpa using h3
 have h2' : fn.body≠none:=fun e=>by rw [e] at h2;cases h2
 simp [callFunc,h1,h2', h3']
theorem sound_call (g:Good nt h0 w0 s st a w) {f:FuncId} {as:Array Operand} {ats:Array TypeId} {args:List Value} (ha:evs st as.toList=some args)
  (hk:CallsU P f args st.h fun v h=>resR P type v fun z=>putK nt dst (.v z) (st.setH h) K) :
  Oper.wp P ⟨dst,.call { callee:= .value (.func f),args:=as,argTypes:=ats },type,pos,after,guard⟩ a w (NextP nt h0 w0 K (dstW dst) mb s st a) Q:=by
 obtain ⟨hc,hcall⟩:=hk
 have hargs:as.map a.eval=args.toArray:=by
  rw [<- evs_eval g _ ha]
  cases as
  simp
 have hrun:(execOp a.eval ⟨dst,.call { callee:= .value (.func f),args:=as,argTypes:=ats },type,pos,after,guard⟩).run P w = .ok (.enter f args.toArray) w:=by
  show (do let d <- resolve a.eval { callee:= .value (.func f),args:=as,argTypes:=ats } type;invoke d.target d.args:Sem Next).run P w=_
  rw [resolve_func a.eval f as ats type rfl,hargs]
  exact callFunc_run hc _
 simp only [Oper.wp,hrun,Oper.upon]
 refine (hcall w g.sat).mono ?_
 rintro e w' ⟨v,h', rfl,hr,hs,fr⟩
 exact putK_sound (v:= .v v) (g.call hs fr) (ext_h _) trivial (resR_get hr)
theorem builtin_exec {b:Builtin} {as:Array Operand} {ats:Array TypeId} {args:List Value} {z:Value} {w' : World} (g:Good nt h0 w0 s st a w) (ha:evs st as.toList=some args)
  (h:(builtin b ats type (as.map fun | .const _=>true | _=>false) args.toArray).run P w = .ok (.value z) w') :
  (execOp a.eval ⟨dst,.call { callee:= .builtin b,args:=as,argTypes:=ats },type,pos,after,guard⟩).run P w = .ok (.value z) w' := by
 have hargs:as.map a.eval=args.toArray:=by
  rw [<- evs_eval g _ ha]
  cases as
  simp
 show (do let d <- resolve a.eval { callee:= .builtin b,args:=as,argTypes:=ats } type;invoke d.target d.args:Sem Next).run P w=_
 simp only [resolve,pure_bind,invoke,hargs]
 exact h
theorem minL_run : ∀ (r:List Value) (k:IntKind) (x z:Int),minL (fun y x=>decide (y<x)) x r=some z->(r.foldlM Builtin.min2 (.int k x)).run P w = .ok (.int k z) w
 | [],k,x,z,h=>by simp only [minL,Option.some.injEq] at h;subst h;rfl
 | v::r,k,x,z,h=>by
  cases v<;>simp only [minL] at h<;>try cases h
  rename_i k' y
  simp only [decide_eq_true_eq] at h
  simp only [List.foldlM_cons,Builtin.min2,pure_bind]
  exact minL_run r k _ z h
theorem maxL_run : ∀ (r:List Value) (k:IntKind) (x z:Int),minL (fun y x=>decide (y>x)) x r=some z->(r.foldlM Builtin.max2 (.int k x)).run P w = .ok (.int k z) w
 | [],k,x,z,h=>by simp only [minL,Option.some.injEq] at h;subst h;rfl
 | v::r,k,x,z,h=>by
  cases v<;>simp only [minL] at h<;>try cases h
  rename_i k' y
  simp only [decide_eq_true_eq] at h
  simp only [List.foldlM_cons,Builtin.max2,pure_bind]
  exact maxL_run r k _ z h
theorem sound_builtin (g:Good nt h0 w0 s st a w) {b:Builtin} {as:Array Operand} {ats:Array TypeId} {args:List Value} (ha:evs st as.toList=some args)
  (hk:builtR P b ats.toList args st.h fun z h=>putK nt dst (.v z) (st.setH h) K) :
  Oper.wp P ⟨dst,.call { callee:= .builtin b,args:=as,argTypes:=ats },type,pos,after,guard⟩ a w (NextP nt h0 w0 K (dstW dst) mb s st a) Q:=by
 have same:st.setH st.h=st:=rfl
 unfold builtR at hk
 split at hk
 ·rename_i t x hts
  have hts' : ats = #[t]:=by rw [<- Array.toArray_toList (xs:=ats),hts]
  subst hts'
  split at hk
  ·rename_i sx hu
   exact wp_plain g (builtin_exec g ha (run_v (by simp [Builtin.len_,run_underlying hu,goInt]))) hk
  ·rename_i n e hu
   exact wp_plain g (builtin_exec g ha (run_v (by simp [Builtin.len_,run_underlying hu,goInt]))) hk
  ·rename_i e A n c hu
   exact wp_plain g (builtin_exec g ha (run_v (by simp [Builtin.len_,run_underlying hu,goInt]))) hk
  ·exact hk.elim
 ·rename_i t x hts
  have hts' : ats = #[t]:=by rw [<- Array.toArray_toList (xs:=ats),hts]
  subst hts'
  split at hk
  ·rename_i e A n c hu
   exact wp_plain g (builtin_exec g ha (run_v (by simp [Builtin.cap_,run_underlying hu,goInt]))) hk
  ·exact hk.elim
 ·rename_i k x r
  split at hk
  ·rename_i z hz
   exact wp_plain g (builtin_exec g ha (run_v (by simpa [Builtin.min_] using minL_run r k x z hz))) hk
  ·exact hk.elim
 ·rename_i k x r
  split at hk
  ·rename_i z hz
   exact wp_plain g (builtin_exec g ha (run_v (by simpa [Builtin.max_] using maxL_run r k x z hz))) hk
  ·exact hk.elim
 ·rename_i t t' A n c A' m c' hts
  have hts' : ats = #[t,t']:=by rw [<- Array.toArray_toList (xs:=ats),hts]
  subst hts'
  split at hk
  ·rename_i e e' hu hu'
   split at hk
   ·rename_i i hi
    split at hk
    ·rename_i z hz
     split at hk
     ·rename_i hc
      simp only [Bool.and_eq_true,Nat.ble_eq] at hc
      have hb1:=hc.2
      obtain ⟨xs,hx,h1,hstay,hgrow⟩:=hk
      rcases Nat.lt_or_ge c (n+m) with hlt | hle
      ·obtain ⟨olds,ho,hb,hK⟩:=hgrow hlt
       obtain ⟨k,d,hk1,hr⟩:=append_grow (P:=P) (ty:=type) g.sat hu hu' hi hz hx ho hlt hb1 hb (c' := c')
       have hK' := hK w.heap.size k _ g.fresh hk1 rfl
       exact wp_value (v:= .v (.slice (some ⟨w.heap.size,0,none⟩) (n+m) k)) (builtin_exec g ha (run_v hr)) ((g.drawn d).newVis _ rfl) (ext_h _) trivial hK'
      ·have hs:=hstay hle
       by_cases h0' : m*i.size=0
       ·rw [decide_eq_true h0'] at hs
        exact wp_plain g (builtin_exec g ha (run_v (append_none (P:=P) (ty:=type) g.sat hu hu' hi hx hle h0' (c' := c')))) hs
       ·rw [decide_eq_false h0'] at hs
        obtain ⟨ad,bb,hA,hp,hbb,hf,hl,hK⟩:=hs
        have hr:=append_stay (P:=P) (ty:=type) g.sat hu hu' hi hx h1 hle hA hp hbb hf hl (c' := c')
        exact wp_value (v:= .v (.slice A (n+m) c)) (builtin_exec g ha (run_v hr)) (g.putVis (b' := { bb with cells:=setSeg bb.cells (ad.off+n*i.size) xs }) hbb hf) (ext_h _) trivial (hK _ rfl)
     ·exact hk.elim
    ·exact hk.elim
   ·exact hk.elim
  ·exact hk.elim
 ·rename_i t t' A n c sx hts
  have hts' : ats = #[t,t']:=by rw [<- Array.toArray_toList (xs:=ats),hts]
  subst hts'
  split at hk
  ·rename_i e hu hu'
   split at hk
   ·rename_i i hi
    split at hk
    ·rename_i z hz
     split at hk
     ·rename_i hc
      simp only [Bool.and_eq_true,Nat.beq_eq] at hc
      obtain ⟨⟨_,hsz⟩,hby⟩:=hc
      obtain ⟨hstay,hgrow⟩:=hk
      rcases Nat.lt_or_ge c (n+sx.size) with hlt | hle
      ·obtain ⟨olds,ho,hb,hK⟩:=hgrow hlt
       obtain ⟨k,d,hk1,hr⟩:=appendS_grow (P:=P) (ty:=type) g.sat hu hu' hi hsz hby hz ho hlt hb
       have hK' := hK w.heap.size k _ g.fresh hk1 rfl
       exact wp_value (v:= .v (.slice (some ⟨w.heap.size,0,none⟩) (n+sx.size) k)) (builtin_exec g ha (run_v hr)) ((g.drawn d).newVis _ rfl) (ext_h _) trivial hK'
      ·have hs:=hstay hle
       by_cases h0' : sx.size=0
       ·rw [decide_eq_true h0'] at hs
        exact wp_plain g (builtin_exec g ha (run_v (appendS_none (P:=P) (ty:=type) hu hu' hi hle h0'))) hs
       ·rw [decide_eq_false h0'] at hs
        obtain ⟨ad,bb,hA,hp,hbb,hf,hl,hK⟩:=hs
        have hr:=appendS_stay (P:=P) (ty:=type) g.sat hu hu' hi hsz hle hA hp hbb hf hl
        exact wp_value (v:= .v (.slice A (n+sx.size) c)) (builtin_exec g ha (run_v hr)) (g.putVis (b' := { bb with cells:=setSeg bb.cells (ad.off+n*1) (strC sx) }) hbb hf) (ext_h _) trivial (hK _ rfl)
     ·exact hk.elim
    ·exact hk.elim
   ·exact hk.elim
  ·exact hk.elim
 ·rename_i t t' A n c A' m c' hts
  have hts' : ats = #[t,t']:=by rw [<- Array.toArray_toList (xs:=ats),hts]
  subst hts'
  split at hk
  ·rename_i e hu
   split at hk
   ·rename_i sz hsz
    obtain ⟨xs,hx,h1,hz,hp⟩:=hk
    have hfc:=firstCells_run (P:=P) g.sat m c' hx
    have hmin:Nat.min m n=min m n:=rfl
    rcases Nat.eq_zero_or_pos (min m n*sz) with h0' | hpos
    ·have:xs=[]:=List.eq_nil_of_length_eq_zero (by rw [hx.1,h0'])
     subst this
     refine wp_plain g (builtin_exec g ha (run_v ?_)) (hz h0')
     cases A with
     | none=>simp [Builtin.copy_,run_underlying hu,Builtin.lenOf,size_run hsz,hfc,goInt,hmin]
     | some ad=>simp [Builtin.copy_,run_underlying hu,Builtin.lenOf,size_run hsz,hfc,goInt,storeCells,hmin]
    ·obtain ⟨ad,bb,rfl,hsp,hbb,hf,hl,hK⟩:=hp hpos
     have hsat:=(g.sat _ _ hbb).cells (plain_fz hf)
     rw [hf] at hsat
     have hst:=run_storeCells (P:=P) (p:=ad) (ty:=bb.ty) hsp xs bb.cells w 0 hsat h1 (by rw [hx.1];omega)
     refine wp_value (v:= .v (.int .i64 (min m n:Nat))) (builtin_exec g ha (run_v ?_)) (g.putVis (b' := { bb with cells:=setSeg bb.cells ad.off xs }) hbb hf) (ext_h _) trivial (hK _ rfl)
     simp only [Nat.add_zero] at hst
     simp [Builtin.copy_,run_underlying hu,Builtin.lenOf,size_run hsz,hfc,goInt,hst,hf,hmin,SV.val]
   ·exact hk.elim
  ·exact hk.elim
 ·exact hk.elim
end
section
variable {P:Program} {nt:Nat} {h0:Heap} {w0:World} {s:Nat->Nat} {st:St} {a:Act} {w:World} {K:St->Prop} {mb vis:Nat->Bool} {Q:Exit->Act->World->Prop}
theorem field_at {t:TypeId} {i:Nat} {f:Field} (h:fieldAt P t i=some f) : ∃ fs,P.underlying t=some (.struct fs)/\fs[i]?=some f:=by
 unfold fieldAt at h
 split at h
 ·rename_i fs hu;exact ⟨fs,hu,h⟩
 ·cases h
theorem fieldOff_run {t:TypeId} {i fo:Nat} {p:Addr} (h:fieldOff P t i=some fo):(Instr.fieldAt t (.pointer (some p)) i).run P w = .ok (.pointer (some (p.add fo))) w:=by
 unfold fieldOff at h
 split at h
 ·rename_i f hf
  obtain ⟨fs,hu,hi⟩:=field_at hf
  split at h
  ·rename_i n hn
   simp only [Option.some.injEq] at h
   subst h
   simp [Instr.fieldAt,run_underlying hu,hi,Instr.sureAddr,fieldPlace,size_run hn]
  ·cases h
 ·cases h
theorem elem_of {t e:TypeId} (h:elemOf P t=some e):P.underlying t=some (.slice e):=by
 unfold elemOf at h
 split at h
 ·rename_i e' hu;simp only [Option.some.injEq] at h;subst h;exact hu
 ·cases h
theorem run_getIt {r p:Nat} {sx:ByteArray} (h:w.heap[r]?=some (.stringIter sx p)):(getObj r).run P w = .ok (.stringIter sx p) w:=by simp [getObj,Sem.run,h]
theorem run_setIt {r p:Nat} {sx:ByteArray} (o:Obj) (h:w.heap[r]?=some (.stringIter sx p)):(setObj r o).run P w = .ok () (putB w r o):=by simp [setObj,Sem.run,h,putB]
theorem arr_of {t:TypeId} {n sz:Nat} (h:arrOf P t=some (n,sz)) : ∃ e,P.underlying t=some (.array n e)/\tySize P e=some sz:=by
 unfold arrOf at h
 split at h
 ·rename_i n' e hu
  split at h
  ·rename_i sz' hs
   simp only [Option.some.injEq,Prod.mk.injEq] at h
   obtain ⟨rfl,rfl⟩:=h
   exact ⟨e,hu,hs⟩
  ·cases h
 ·cases h
theorem evO_eval (g:Good nt h0 w0 s st a w) {x:Option Operand} {v:Option Value} (h:evO st x=some v):x.map a.eval=v:=by
 cases x with
 | none=>simp only [evO,Option.some.injEq] at h;subst h;rfl
 | some y=>
  simp only [evO] at h
  split at h
  ·rename_i q hq;simp only [Option.some.injEq] at h;subst h;simp only [Option.map_some,ev_eval g hq];rfl
  ·cases h
theorem addr_add_box (b off n:Nat):(⟨b,off,none⟩:Addr).add n=⟨b,off+n,none⟩:=by
 unfold Addr.add
 split
 ·rename_i h;subst h;rfl
 ·rfl
theorem exec_build (ρ:Operand->Value) (dst:Option Tmp) (t:TypeId) (ps:Array (Nat×Operand)) (type:TypeId) (pos:String) (after:Array Edge) (guard:Option (Nat×Bool)) :
  execOp ρ ⟨dst,.build t ps,type,pos,after,guard⟩=(do pure (Next.value (<- Instr.build t (ps.map fun x=>(x.1,ρ x.2)))):Sem Next):=rfl
theorem exec_buildSlice (ρ:Operand->Value) (dst:Option Tmp) (t:TypeId) (n:Nat) (ps:Array (Nat×Operand)) (type:TypeId) (pos:String) (after:Array Edge) (guard:Option (Nat×Bool)) :
  execOp ρ ⟨dst,.buildSlice t n ps,type,pos,after,guard⟩=(do pure (Next.value (<- Instr.buildSlice t n (ps.map fun x=>(x.1,ρ x.2)))):Sem Next):=rfl
theorem parts_map (g:Good nt h0 w0 s st a w) {ps:Array (Nat×Operand)} {l:List (Nat×Value)} (hl:partsV st ps.toList=some l):(ps.map fun x=>(x.1,a.eval x.2))=l.toArray:=by
 rw [<- partsV_eval g _ hl]
 cases ps
 simp
theorem buildSlice_run {t e:TypeId} {z cs:List Value} {sz len:Nat} {l:List (Nat×Value)} (he:elemOf P t=some e) (hz:zeroCellsOf P e=some z) (hsz:tySize P e=some sz) (hzl:z.length=sz) (hle:len*sz<=10000)
  (hcs:fillL (fun i=>some (i*sz,sz)) (repV z len) l=some cs) :
  (Instr.buildSlice t len l.toArray).run P w = .ok (.slice (some ⟨w.heap.size,0,none⟩) len len) (addB w (.cells cs.toArray e (0,0))):=by
 obtain ⟨v,i,hi,_,hvz,hr⟩:=zero_run (w:=w) hz
 have hfl:=fill_eq _ _ _ _ hcs
 have hvc:v.cells=z.toArray:=by rw [<- hvz,<- vcells_toList]
 have hmade:=made_eq z len
 rw [hzl] at hmade
 have h24 : ¬ (len*sz>2^24):=by
  have e24:(2:Nat)^24=16777216:=rfl
  omega
 simp only [Instr.buildSlice,Sem.run_bind,run_underlying (elem_of he),Result.andThen_ok,size_run hsz,if_neg h24]
 by_cases h0' : len*sz=0
 ·have hz0:((Array.range (len*sz)).map fun x=>(#[]:Array Value)[x%(#[]:Array Value).size]!)=(repV z len).toArray:=by
   have:repV z len=[]:=List.eq_nil_of_length_eq_zero (by rw [repV_length,hzl,h0'])
   rw [this,h0']
   simp [Array.range_zero']
  simp only [if_pos h0', pure_bind]
  rw [hz0,hfl]
  rfl
 ·simp only [if_neg h0', Sem.run_bind,hr,Result.andThen_ok,Sem.run_pure,hvc]
  rw [hmade,hfl]
  rfl
set_option maxHeartbeats 1000000 in
theorem opV_sound (g:Good nt h0 w0 s st a w) {see:Bool} {o:Oper} (hv:opV P nt vis mb see o st K):o.wp P a w (NextP nt h0 w0 K (dstW o.dst) mb s st a) Q:=by
 obtain ⟨dst,op,type,pos,after,guard⟩:=o
 cases op<;>simp only [opV] at hv<;>try exact hv.elim
 case move x=>
  split at hv
  ·rename_i v hx;exact sound_copy g hx rfl hv
  ·exact hv.elim
 case assign x=>
  split at hv
  ·rename_i v hx;exact sound_copy g hx rfl hv
  ·exact hv.elim
 case pick c x y=>
  split at hv
  ·rename_i t hc
   have he:=ev_eval g hc
   cases t with
   | true=>
    simp only [Br] at hv
    split at hv
    ·rename_i v hx
     refine sound_copy g hx ?_ hv
     show (do pure (Next.value (if <- asBool (a.eval c) then a.eval x else a.eval y)):Sem Next).run P w=_
     rw [he]
     rfl
    ·exact hv.elim
   | false=>
    simp only [Br] at hv
    split at hv
    ·rename_i v hx
     refine sound_copy g hx ?_ hv
     show (do pure (Next.value (if <- asBool (a.eval c) then a.eval x else a.eval y)):Sem Next).run P w=_
     rw [he]
     rfl
    ·exact hv.elim
  ·exact hv.elim
 case binOp op t x y ty=>
  split at hv
  ·rename_i u v hx hy
   obtain ⟨z,hr,hk⟩:=binQ_run w x y hv
   refine wp_plain g (run_v (m:=do eqGuard op t x y (a.eval x) (a.eval y);binOp op t (a.eval x) (a.eval y)) ?_) hk
   rw [ev_eval g hx,ev_eval g hy]
   exact hr
  ·exact hv.elim
 case unOp op t x=>
  split at hv
  ·rename_i u hx
   obtain ⟨z,hr,hk⟩:=unR_run (P:=P) w hv
   refine wp_plain g (run_v (m:=Op.unary op (a.eval x)) ?_) hk
   rw [ev_eval g hx]
   exact hr
  ·exact hv.elim
 case convert src d x=>
  split at hv
  ·rename_i u hx
   obtain ⟨z,hr,hk⟩:=convR_run w hv
   refine wp_plain g (run_v (m:=convert src d (a.eval x)) ?_) hk
   rw [ev_eval g hx]
   exact hr
  ·exact hv.elim
 case nilCheck x=>
  split at hv
  ·rename_i i off hx
   refine sound_copy g hx ?_ hv
   simp only [execOp]
   rw [ev_eval g hx]
   rfl
  ·rename_i p hx
   refine sound_copy g hx ?_ hv
   simp only [execOp]
   rw [ev_eval g hx]
   rfl
  ·exact hv.elim
 case alloc t=>
  split at hv
  ·rename_i z hz
   obtain ⟨v,i,_,_,hvz,hr⟩:=zero_run (w:=w) hz
   refine sound_box g (run_v (m:=Instr.alloc t true (.tuple #[])) ?_) hv
   simp only [Instr.alloc,Sem.run_bind,hr,Result.andThen_ok,run_newVar,hvz]
   rfl
  ·exact hv.elim
 case box t x=>
  split at hv
  ·rename_i u hx
   refine sound_box g (run_v (m:=Instr.box t (a.eval x)) ?_) hv
   rw [ev_eval g hx]
   simp only [Instr.box,Sem.run_bind,run_newVar,Result.andThen_ok]
   rfl
  ·exact hv.elim
 case build t ps=>
  split at hv
  ·rename_i l hl
   split at hv
   ·rename_i cs hcs
    refine wp_plain g ?_ hv
    rw [exec_build,parts_map g hl]
    exact run_v (build_run hcs)
   ·exact hv.elim
  ·exact hv.elim
 case buildSlice t len ps=>
  split at hv
  ·rename_i e he
   split at hv
   ·rename_i z sz l hz hsz hl
    split at hv
    ·rename_i cs hc hcs
     simp only [Bool.and_eq_true,Nat.ble_eq] at hc
     have hzl:=beq_eq hc.1
     have hle:=hc.2
     have hk:=hv w.heap.size _ g.fresh rfl
     have hr:(execOp a.eval ⟨dst,.buildSlice t len ps,type,pos,after,guard⟩).run P w = .ok (.value (.slice (some ⟨w.heap.size,0,none⟩) len len)) (addB w (.cells cs.toArray e (0,0))):=by
      rw [exec_buildSlice,parts_map g hl]
      exact run_v (buildSlice_run he hz hsz hzl hle hcs)
     clear hv hcs hc hle
     exact wp_value (v:= .v (.slice (some ⟨w.heap.size,0,none⟩) len len)) hr (g.newVis ⟨cs,e,(0,0)⟩ rfl) (ext_h _) trivial hk
    ·exact hv.elim
   ·exact hv.elim
  ·exact hv.elim
 case load t x=>
  split at hv
  ·rename_i i off ag n hx ha hn
   split at hv
   ·rename_i hc
    simp only [Bool.and_eq_true,Bool.or_eq_true,Nat.ble_eq] at hc
    obtain ⟨_,hle,hag⟩:=hc
    have hi:i<st.nb:=ev_ok g hx
    obtain ⟨_,_,ty,hb⟩:=g.box i hi
    have hlen:(((st.B i).drop off).take n).length=n:=by simp;omega
    refine wp_plain g (run_v (m:=Instr.loadAt t (a.eval x)) ?_) hv
    rw [ev_eval g hx]
    simp only [SV.val,Instr.loadAt,Instr.sureAddr,pure_bind]
    exact run_loadVar (p:=⟨s i,off,none⟩) ha (by rw [hlen];exact hn) (by rcases hag with h | h;exact .inl h;exact .inr (by rw [hlen];exact beq_eq h)) hb rfl (by rw [hlen])
   ·exact hv.elim
  ·rename_i p ag n hx ha hn
   split at hv
   ·rename_i hc
    simp only [Bool.and_eq_true,Bool.or_eq_true,Nat.ble_eq] at hc
    obtain ⟨⟨⟨_,hl⟩,hag⟩,hn1⟩:=hc
    have hl' := beq_eq hl
    obtain ⟨vs,hvl,⟨hp,b,hb,hrd⟩,hk⟩:=exL_get _ hv
    have hlen:vs.length=n:=by rw [hvl,hl']
    have hne:vs≠[]:=fun q=>by rw [q] at hlen;simp at hlen;omega
    refine wp_plain g (run_v (m:=Instr.loadAt t (a.eval x)) ?_) hk
    rw [ev_eval g hx]
    simp only [SV.val,Instr.loadAt,Instr.sureAddr,pure_bind]
    exact run_loadVar ha (by rw [hlen];exact hn) (by rcases hag with h | h;exact .inl h;exact .inr (by rw [hlen];exact beq_eq h)) ((g.sat _ _ hb).cells (plain_take hrd hne)) hp hrd
   ·exact hv.elim
  ·exact hv.elim
 case store t x y=>
  split at hv
  ·rename_i i off u n hx hy hn
   split at hv
   ·rename_i hc
    simp only [Bool.and_eq_true,Nat.ble_eq] at hc
    obtain ⟨⟨⟨hm,h1⟩,hl⟩,hle⟩:=hc
    have hi:i<st.nb:=ev_ok g hx
    obtain ⟨_,_,ty,hb⟩:=g.box i hi
    refine wp_skip (run_u (m:=Instr.storeAt t (a.eval x) (a.eval y)) ?_) (g.putBox hi hb (setSeg (st.B i) off (vcells u))) (ext_b hm _) hv
    rw [ev_eval g hx,ev_eval g hy]
    simp only [SV.val,Instr.storeAt,Instr.sureAddr,pure_bind]
    exact run_storeVar (p:=⟨s i,off,none⟩) hn rfl hb h1 (beq_eq hl) hle
   ·exact hv.elim
  ·rename_i p u n hx hy hn
   split at hv
   ·rename_i hc
    simp only [Bool.and_eq_true] at hc
    obtain ⟨h1,hl⟩:=hc
    obtain ⟨b,hb,hf,hp,hle,hk⟩:=hv
    have hsat:=(g.sat _ _ hb).cells (plain_fz hf)
    refine wp_skip (run_u (m:=Instr.storeAt t (a.eval x) (a.eval y)) ?_) (g.putVis (b' := { b with cells:=setSeg b.cells p.off (vcells u) }) hb hf) (ext_h _) (hk _ rfl)
    rw [ev_eval g hx,ev_eval g hy]
    simp only [SV.val,Instr.storeAt,Instr.sureAddr,pure_bind]
    rw [hf] at hsat
    have:=run_storeVar (P:=P) hn hp hsat h1 (beq_eq hl) hle
    rw [this,hf]
   ·exact hv.elim
  ·exact hv.elim
 case fieldAddr t x i=>
  split at hv
  ·rename_i id off fo hx hfo
   have hi:id<st.nb:=ev_ok g hx
   refine wp_value (v:= .bx id (off+fo)) (run_v (m:=Instr.fieldAt t (a.eval x) i) ?_) g (Ext.refl _ _ _ _ _) hi hv
   rw [ev_eval g hx]
   simp only [SV.val]
   rw [fieldOff_run hfo,addr_add_box]
  ·rename_i p fo hx hfo
   refine wp_plain g (run_v (m:=Instr.fieldAt t (a.eval x) i) ?_) hv
   rw [ev_eval g hx]
   exact fieldOff_run hfo
  ·exact hv.elim
 case field t x i=>
  split at hv
  ·rename_i cs f hx hf
   obtain ⟨fs,hu,hi⟩:=field_at hf
   obtain ⟨z,hr,hk⟩:=part_run (P:=P) (w:=w) hv
   refine wp_plain g (run_v (m:=Instr.field t (a.eval x) i) ?_) hk
   rw [ev_eval g hx]
   simp only [SV.val,Instr.field,Sem.run_bind,run_underlying hu,Result.andThen_ok,hi,asAgg,pure_bind]
   simpa using hr
  ·exact hv.elim
 case indexAddr t x ix=>
  split at hv
  ·rename_i A n c k i e hx hix he
   split at hv
   ·rename_i sz hsz
    obtain ⟨ad,hA,h1,h2,hk⟩:=hv
    refine wp_plain g (run_v (m:=Instr.indexAt t (a.eval x) (a.eval ix)) ?_) hk
    rw [ev_eval g hx,ev_eval g hix]
    have hb:0<=i/\i<(n:Int):=⟨h1,h2⟩
    subst hA
    simp [SV.val,Instr.indexAt,asIntOf,run_underlying (elem_of he),hb,size_run hsz]
   ·exact hv.elim
  ·rename_i p k i hx hix he
   split at hv
   ·rename_i n sz hsz
    obtain ⟨h1,h2,hk⟩:=hv
    obtain ⟨e,hu,hes⟩:=arr_of hsz
    refine wp_plain g (run_v (m:=Instr.indexAt t (a.eval x) (a.eval ix)) ?_) hk
    rw [ev_eval g hx,ev_eval g hix]
    have hb:0<=i/\i<(n:Int):=⟨h1,h2⟩
    simp [SV.val,Instr.indexAt,asIntOf,run_underlying hu,hb,size_run hes,Instr.sureAddr]
   ·exact hv.elim
  ·exact hv.elim
 case index t x ix=>
  split at hv
  ·rename_i sx k i hx hix hu
   obtain ⟨b,h1,h2,hk⟩:=hv
   refine wp_plain g (run_v (m:=Instr.index t (a.eval x) (a.eval ix)) ?_) hk
   rw [ev_eval g hx,ev_eval g hix]
   simp [SV.val,Instr.index,asIntOf,run_underlying hu,h1,h2]
  ·exact hv.elim
 case slice t x lo hi mx=>
  cases mx with
  | some _=>exact hv.elim
  | none=>
   simp only at hv
   split at hv
   ·rename_i u l h hx hl hh
    obtain ⟨z,hr,hk⟩:=slice_run (P:=P) (w:=w) hv
    have el:=evO_eval g hl
    have eh:=evO_eval g hh
    refine wp_plain g (run_v (m:=Instr.sliceAt t (a.eval x) (lo.map a.eval) (hi.map a.eval) none) ?_) hk
    rw [ev_eval g hx,el,eh]
    exact hr
   ·exact hv.elim
 case makeSlice t l c=>
  split at hv
  ·rename_i k1 n k2 k e hl hc he
   split at hv
   ·rename_i i z hi hz
    split at hv
    ·rename_i hcc
     simp only [Bool.and_eq_true,Nat.ble_eq] at hcc
     obtain ⟨h1,h2,h3,h63,hk⟩:=hv
     have hk' := hk w.heap.size _ g.fresh rfl
     refine wp_value (v:= .v (.slice (some ⟨w.heap.size,0,none⟩) n.toNat k.toNat)) (run_v (m:=Instr.makeSlice t (a.eval l) (a.eval c)) ?_) (g.newVis ⟨repV z k.toNat,e,(0,0)⟩ rfl) (ext_h _) trivial hk'
     rw [ev_eval g hl,ev_eval g hc]
     exact makeSlice_run he hi hz (beq_eq hcc.1) h1 h2 h3 h63
    ·exact hv.elim
   ·exact hv.elim
  ·exact hv.elim
 case extract x i=>
  split at hv
  ·rename_i vs hx
   split at hv
   ·rename_i z hz
    refine wp_plain g (run_v (m:=Instr.extract (a.eval x) i) ?_) hv
    rw [ev_eval g hx]
    have hz' : vs[i]?=some z:=by simpa using hz
    simp [SV.val,Instr.extract,hz']
   ·exact hv.elim
  ·exact hv.elim
 case call c=>
  obtain ⟨callee,as,ats⟩:=c
  simp only at hv
  split at hv
  ·rename_i f args ha;exact sound_call g ha hv
  ·rename_i b args ha;exact sound_builtin g ha hv
  ·exact hv.elim
 case range t x=>
  split at hv
  ·rename_i sx hx hu
   have hk:=hv w.heap.size _ g.fresh rfl
   refine wp_value (v:= .v (.pointer (some ⟨w.heap.size,0,none⟩))) (w1:=addB w (.stringIter sx 0)) (run_v (m:=Instr.range t (a.eval x)) ?_) (g.newVisO (itB sx 0) (.mkIt (by rw [heap_addB,if_pos rfl]))) (ext_h _) trivial hk
   rw [ev_eval g hx]
   simp [SV.val,Instr.range,run_underlying hu,newObj,addB]
   rfl
  ·exact hv.elim
 case next x isS=>
  cases isS with
  | false=>exact hv.elim
  | true=>
   simp only at hv
   split at hv
   ·rename_i p hx
    obtain ⟨sx,i,hp,hb,hv⟩:=hv
    have hs:=(g.sat _ _ hb).iter sx i rfl
    have hlt:=(g.sat _ _ hb).lt
    obtain ⟨bk,off,spot⟩:=p
    simp only at hp hb hs hlt hv
    subst hp
    by_cases hi:i<sx.size
    ·rw [decide_eq_true hi] at hv
     have hk:=hv _ rfl
     refine wp_value (v:= .v (.tuple #[.bool true,.int .i64 (i:Int),.int .i32 ((Utf8.decode sx i).1:Int)])) (w1:=putB w bk (.stringIter sx (i+(Utf8.decode sx i).2))) (run_v (m:=Instr.next (a.eval x) true type) ?_)
      (g.putVisO (b' := itB sx (i+(Utf8.decode sx i).2)) hb (.mkIt (by rw [heap_putB _ _ _ _ hlt,if_pos rfl]))) (ext_h _) trivial hk
     rw [ev_eval g hx]
     simp [SV.val,Instr.next,run_getIt hs,run_setIt _ hs,hi,goInt]
    ·rw [decide_eq_false hi] at hv
     refine wp_plain g (run_v (m:=Instr.next (a.eval x) true type) ?_) hv
     rw [ev_eval g hx]
     simp [SV.val,Instr.next,run_getIt hs,hi]
   ·exact hv.elim
end
section
variable {P:Program} {nt:Nat} {h0:Heap} {w0:World} {s:Nat->Nat} {st:St} {a:Act} {w:World} {K:St->Prop} {mb vis:Nat->Bool} {Q:Exit->Act->World->Prop}
theorem put_same {st:St} {d:Nat} {x:SV} (h:st.f d=some x):st.put d x=st:=by
 obtain ⟨f,B,nb,hh⟩:=st
 simp only [St.put,St.mk.injEq,and_true]
 funext t
 by_cases e:t=d
 ·subst e;simp;exact h.symm
 ·simp [beq_ne e]
theorem yield_bool (g:Good nt h0 w0 s st a w) {ops:Array Oper} {j d:Nat} {t:Bool} (hj:(ops[j]?).bind (·.dst)=some d) (hf:st.f d=some (.v (.bool t))):yielded ops a.tmps j=some t:=by
 have hr:=g.rep d _ hf
 simp only [SV.val] at hr
 have hd:a.tmps[d]?=some (.bool t):=by
  rcases Nat.lt_or_ge d a.tmps.size with h | h
  ·simpa [Array.getD_eq_getD_getElem?,Array.getElem?_eq_getElem h] using hr
  ·simp [Array.getD_eq_getD_getElem?,Array.getElem?_eq_none h,undef] at hr
 simp [yielded,hj,hd]
theorem yield_tuple (g:Good nt h0 w0 s st a w) {ops:Array Oper} {j d:Nat} {vs:Array Value} (hj:(ops[j]?).bind (·.dst)=some d) (hf:st.f d=some (.v (.tuple vs))):yielded ops a.tmps j=none:=by
 have hr:=g.rep d _ hf
 simp only [SV.val] at hr
 have hd:a.tmps[d]?=some (.tuple vs)\/a.tmps[d]?=none:=by
  rcases Nat.lt_or_ge d a.tmps.size with h | h
  ·exact .inl (by simpa [Array.getD_eq_getD_getElem?,Array.getElem?_eq_getElem h] using hr)
  ·exact .inr (Array.getElem?_eq_none h)
 rcases hd with hd | hd<;>simp [yielded,hj,hd]
theorem opG_sound (g:Good nt h0 w0 s st a w) {ops:Array Oper} {see:Bool} {o:Oper} (hv:opG P nt vis mb ops.toList see o st K) :
  if Region.wanted o (yielded ops a.tmps)=true then o.wp P a w (NextP nt h0 w0 K (dstW o.dst) mb s st a) Q else NextP nt h0 w0 K (dstW o.dst) mb s st a (a.put o.dst undef) w:=by
 have skip:putK nt o.dst (.v undef) st K->NextP nt h0 w0 K (dstW o.dst) mb s st a (a.put o.dst undef) w:=fun h=>putK_sound (v:= .v undef) g (Ext.refl _ _ _ _ _) trivial h
 unfold opG at hv
 split at hv
 ·rename_i hg
  rw [if_pos (by simp [Region.wanted,hg])]
  exact opV_sound g hv
 ·rename_i j want hg
  split at hv
  ·exact hv.elim
  ·rename_i d hj
   have hj' : (ops[j]?).bind (·.dst)=some d:=by simpa using hj
   split at hv
   ·rename_i t hf
    have hy:=yield_bool g hj' hf
    cases t with
    | true=>
     simp only [Br,put_same hf] at hv
     cases want with
     | true=>
      rw [if_pos (by simp [Region.wanted,hg,hy])]
      exact opV_sound g hv
     | false=>
      rw [if_neg (by simp [Region.wanted,hg,hy])]
      exact skip hv
    | false=>
     simp only [Br,put_same hf] at hv
     cases want with
     | true=>
      rw [if_neg (by simp [Region.wanted,hg,hy])]
      exact skip hv
     | false=>
      rw [if_pos (by simp [Region.wanted,hg,hy])]
      exact opV_sound g hv
   ·rename_i vs hf
    have hy:=yield_tuple g hj' hf
    rw [if_neg (by simp [Region.wanted,hg,hy])]
    exact skip hv
   ·exact hv.elim
def PostP (nt:Nat) (h0:Heap) (w0:World) (Qv:Exit->St->Prop) (W mb:Nat->Bool) (sB:Nat->Nat) (stB:St) (aB:Act) (e:Exit) (a' : Act) (w' : World):Prop:=
 ∃ st' s', Qv e st' /\ Good nt h0 w0 s' st' a' w' /\ Ext W mb sB stB aB s' st' a'
theorem Ext.step {W mb:Nat->Bool} {d:Option Nat} {sB s1 s2:Nat->Nat} {stB st1 st2:St} {aB a1 a2:Act} (h:Ext W mb sB stB aB s1 st1 a1) (k:Ext (dstW d) mb s1 st1 a1 s2 st2 a2)
  (hd : ∀ t,W t=false->dstW d t=false):Ext W mb sB stB aB s2 st2 a2:=(h.trans k).mono fun t ht=>by rw [ht,hd t ht];rfl
theorem bytes_fold (ns:List Int) : ∀ (s:ByteArray),(forIn (ns.map (Value.int .u8)) s (fun c s=>(match c with | .int .u8 n=>pure (ForInStep.yield (s.push (UInt8.ofNat n.toNat))) | _=>stuck "bytesToString: byte expected" : Sem (ForInStep ByteArray)))).run P w = .ok ⟨s.data++(ns.map fun n=>UInt8.ofNat n.toNat).toArray⟩ w:=by
 induction ns with
 | nil=>intro s;simp
 | cons n r ih=>
  intro s
  simp only [List.map_cons,List.forIn_cons,pure_bind]
  rw [ih]
  simp [ByteArray.push]
theorem bytes_run (g:Good nt h0 w0 s st a w) {o:Oper} {A:Option Addr} {n:Nat} {ns:List Int} (hb:bytesOf P st o=some (A,n)) (hr:RdS st.h A n (ns.map (Value.int .u8))) {y:Nat->Option Bool} :
  Region.wanted o y=true/\(execOp a.eval o).run P w = .ok (.value (.string ⟨(ns.map fun n=>UInt8.ofNat n.toNat).toArray⟩)) w:=by
 obtain ⟨dst,op,type,pos,after,guard⟩:=o
 unfold bytesOf at hb
 split at hb
 ·rename_i src d x e1 e2
  simp only at e1 e2
  subst e1 e2
  split at hb
  ·rename_i e A' n' c hs hd hx
   split at hb
   ·rename_i he
    simp only [Option.some.injEq,Prod.mk.injEq] at hb
    obtain ⟨rfl,rfl⟩:=hb
    refine ⟨rfl,run_v (m:=convert src d (a.eval x)) ?_⟩
    rw [ev_eval g hx]
    simp only [SV.val,convert,Sem.run_bind,run_underlying hs,run_underlying hd,run_underlying he,Result.andThen_ok]
    cases A' with
    | none=>
     have h0:n' = 0:=by
      rcases Nat.eq_zero_or_pos n' with h | h
      ·exact h
      ·obtain ⟨ad,e,_⟩:=hr.2 h;cases e
     have:ns=[]:=by
      have:=hr.1
      rw [h0] at this
      simpa using this
     subst this
     rfl
    | some ad=>
     simp only [Conv.bytesToString,Sem.run_bind]
     have hl:(loadCells ad n').run P w = .ok (ns.map (Value.int .u8)).toArray w:=by
      have:=firstCells_run (P:=P) (w:=w) g.sat (n:=n') (sz:=1) n' c (by rw [Nat.mul_one];exact hr)
      simpa [Builtin.firstCells] using this
     rw [hl]
     simp only [Result.andThen_ok]
     have hf:=bytes_fold (P:=P) (w:=w) ns ByteArray.empty
     simp only [List.forIn_toArray]
     have hf2:(forIn (ns.map (Value.int .u8)) ByteArray.empty (fun c s=>(match c with | .int .u8 n=>pure (ForInStep.yield (s.push (UInt8.ofNat n.toNat))) | _=>stuck "bytesToString: byte expected" : Sem (ForInStep ByteArray)))).run P w = .ok ⟨(ns.map fun n=>UInt8.ofNat n.toNat).toArray⟩ w:=by
      rw [hf]
      have e0:ByteArray.empty.data = #[]:=rfl
      rw [e0,Array.empty_append]
     refine (congrArg (fun r=>Result.andThen r fun a w' => Sem.run P (pure (Value.string a)) w') (Eq.trans ?_ hf2)).trans rfl
     rfl
   ·cases hb
  ·cases hb
 ·cases hb
theorem opsV_sound {ops:Array Oper} {Qv:Exit->St->Prop} {W:Nat->Bool} {sB:Nat->Nat} {stB:St} {aB:Act} : ∀ (l:List Oper) (s:Nat->Nat) (st:St) (a:Act) (w:World),
  Good nt h0 w0 s st a w->Ext W mb sB stB aB s st a->(∀ t,W t=false->opsWrite t l=false)->opsV P nt vis mb ops.toList l st (Qv .normal)->
  wpList P ops (PostP nt h0 w0 Qv W mb sB stB aB) l a w
 | [],s,st,a,w,g,e,_,hv=>⟨st,s,hv,g,e⟩
 | o::r,s,st,a,w,g,e,hW,hv=>by
  have hd : ∀ t,W t=false->dstW o.dst t=false/\opsWrite t r=false:=fun t ht=>by
   have:=hW t ht
   simp only [opsWrite] at this
   split at this
   ·rename_i d hd
    rw [hd]
    simp only [dstW]
    cases hb:Nat.beq t d with
    | true=>rw [hb] at this;cases this
    | false=>rw [hb] at this;exact ⟨rfl,this⟩
   ·rename_i hd;rw [hd];exact ⟨rfl,this⟩
  have next : ∀ a' w', NextP nt h0 w0 (fun st' => opsV P nt vis mb ops.toList r st' (Qv .normal)) (dstW o.dst) mb s st a a' w' -> wpList P ops (PostP nt h0 w0 Qv W mb sB stB aB) r a' w' := by
   rintro a' w' ⟨st', s', hk,g', e'⟩
   exact opsV_sound r s' st' a' w' g' (e.step e' fun t ht=>(hd t ht).1) (fun t ht=>(hd t ht).2) hk
  simp only [opsV] at hv
  split at hv
  ·rename_i A n hby
   obtain ⟨ns,hr,hk⟩:=hv
   obtain ⟨hw,hrun⟩:=bytes_run g hby hr
   unfold wpList
   rw [if_pos (by exact hw)]
   exact .inl (Oper.wp_mono next (wp_plain g hrun hk))
  have h1:=opG_sound (Q:=PostP nt h0 w0 Qv W mb sB stB aB) g (ops:=ops) (see:=true) (o:=o) (K:=fun st' => opsV P nt vis mb ops.toList r st' (Qv .normal)) hv
  unfold wpList
  split
  ·rename_i hw
   rw [if_pos hw] at h1
   exact .inl (Oper.wp_mono next h1)
  ·rename_i hw
   rw [if_neg hw] at h1
   exact next _ _ h1
end
end Go.Vcg
