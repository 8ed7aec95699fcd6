/- DEFINITIONS of an abstract machine over values for the loaded program's code: what the soundness theorem of XAiSound speaks of. -/
import Derived.Below
import Derived.Deep.Draws
import Derived.Laws.OwnMore
import Derived.Orders
namespace Go.Proofs.Ytngefbdedbbplaa.Ai
open Go
set_option linter.unusedVariables false
set_option linter.unusedSimpArgs false

/-- Abstract values. Integers carry their kind; strings are lists of bytes; a slice that is only read is the list of its elements, each the list of its cells. -/
inductive PV where
  | undef
  | skip
  | bool (b : Bool)
  | int (k : IntKind) (n : Int)
  | str (s : List UInt8)
  | agg (cs : List PV)
  | tup (vs : List PV)
  | nil
  | nilp
  | isl (sz : Nat) (es : List (List PV))
  | iptr (cs : List PV)
  | osl (id ver : Nat)
  | optr (id ver sz i off : Nat)
  | fr (e sz : Nat) (es : List (List PV))
  /-- A function literal with what it has captured (by value). -/
  | fn (f : FuncId) (caps : List PV)
  /-- The slice that stands in cell 'off' of element 'i' of an own tree. -/
  | bsl (id ver sz i off : Nat)
  /-- A pointer into such a slice: its element 'j', from cell 'o' on. -/
  | bptr (id ver sz i off : Nat) (nsz j o : Nat)
  /-- A function literal that has captured own objects: captured pointers to boxes are 'optr'. -/
  | fno (f : FuncId) (caps : List PV)
  /-- A part of an own row: elements lo to hi (it only stands in slots). -/
  | vsl (id ver sz lo hi : Nat)
  /-- A slice that is only read, with its concrete value (it only stands in slots). -/
  | isv (v : Value) (sz : Nat) (es : List (List PV))

/-- What an own object holds. -/
inductive Body where
  | dead
  | box (cs : List PV)
  | row (e sz : Nat) (es : List (List PV))
  /-- A row with cells that are rows of their own. -/
  | tree (e sz : Nat) (es : List (List PV))
  /-- A tree some of whose cells hold references to own rows, or nothing that is known. -/
  | wild (e sz : Nat) (es : List (List PV))
  /-- An iterator over a string: its bytes, and where it stands. -/
  | iter (s : List UInt8) (pos : Nat)
  /-- A map from numbers: its keys in order of their coming, each with the value 'true'. -/
  | map (es : List (List PV))

abbrev Heap := List (Nat × Nat × Body)

structure St where
  T : List PV
  H : Heap

inductive Ex where
  | normal
  | exit (id : Nat)
  | ret

/-- What is known of a type. -/
structure TI where
  desc : TypeDesc
  size : Nat
  bytes : Nat
  zero : List PV
  isAgg : Bool
  /-- Whether slices of this type are made as trees. -/
  nest : Bool

def Heap.get : Heap → Nat → Nat × Body
  | [], _ => (0, .dead)
  | (i, v, b) :: r, id => if i = id then (v, b) else Heap.get r id

def Heap.put : Heap → Nat → Nat × Body → Heap
  | [], id, x => [(id, x.1, x.2)]
  | (i, v, b) :: r, id, x => if i = id then (i, x.1, x.2) :: r else (i, v, b) :: Heap.put r id x

/-- A new object under a key: its version is one more than what the key last had. -/
def Heap.new (h : Heap) (id : Nat) (b : Body) : Heap := h.put id ((h.get id).1 + 1, b)

def St.put (s : St) (d : Option Nat) (v : PV) : St :=
  match d with
  | some d => { s with T := s.T.set d v }
  | none => s

def ofConst : Value → PV
  | .bool b => .bool b
  | .int k n => if k.wrap n = n then .int k n else .undef
  | .string s => if s.data.toList.length ≤ 65536 then .str s.data.toList else .undef
  | .slice none 0 0 => .nil
  | .pointer none => .nilp
  | _ => .undef

def unv : PV → PV
  | .isv _ sz es => .isl sz es
  | p => p
def St.ev (s : St) : Operand → PV
  | .tmp t => unv (s.T.getD t .undef)
  | .const v => ofConst v
  | _ => .undef

/-- A value that fits one cell and is known. -/
def PV.cell : PV → Bool
  | .bool _ | .int _ _ | .str _ | .nil | .nilp | .isl _ _ | .iptr _ | .fn _ _ | .fno _ _ | .osl _ _ | .optr _ _ _ _ _ => true
  | _ => false

/-- No reference to an own object in it (contents of isl and iptr never hold one). -/
def PV.pure : PV → Bool
  | .bool _ | .int _ _ | .str _ | .nil | .nilp | .isl _ _ | .iptr _ | .fn _ _ => true
  | _ => false

def PV.cells : PV → List PV
  | .agg cs => cs
  | v => [v]

/-- Operations that ask something of the values: what they ask is answered by 'std'. -/
inductive Req where
  | bin (op : BinOp) (k : IntKind) (a b : Int)
  | sbin (op : BinOp) (a b : List UInt8)
  | shift (op : BinOp) (k : IntKind) (a : Int) (yk : IntKind) (b : Int)
  | neg (k : IntKind) (a : Int)
  | conv (k : IntKind) (a : Int)
  | minmax (mx : Bool) (k : IntKind) (a b : Int)
  | len (n : Nat)
  | index (es : List (List PV)) (i : Int)
  | oindex (n : Nat) (i : Int)
  | sindex (s : List UInt8) (i : Int)
  | sslice (s : List UInt8) (lo hi : Int)
  | islice (es : List (List PV)) (lo hi : Int)
  | oload (es : List (List PV)) (i off n : Nat)
  | ostore (es : List (List PV)) (i off : Nat) (cs : List PV)
  | append (es : List (List PV)) (more : List (List PV)) (bytes : Nat)
  | make (bytes : Nat) (z : List PV) (l c : Int)
  | call (f : FuncId) (own : Bool) (args : List PV)
  | pcall (f : FuncId) (args : List PV)
  | mcall (f : FuncId) (cs : List PV) (args : List PV)
  | xcall (f : FuncId) (args : List PV) (objs : List Body)
  | aeq (t : Nat) (neq : Bool) (cs cs' : List PV)
  | notnil (n : Nat)
  | tobytes (s : List UInt8)
  | snext (s : List UInt8) (pos : Nat)
  | tostr (es : List (List PV))
  | mput (t : Nat) (es : List (List PV)) (k : Int)
  | mget (t : Nat) (es : List (List PV)) (k : Int)
  | clean (es : List (List PV))

end Go.Proofs.Ytngefbdedbbplaa.Ai
