/- What abstract values and states stand for in a world; contracts; the meaning of requests. -/
import Derived.Test.YtngefbdedbbplaaAiEval
import Derived.Test.YtngefbdedbbplaaAiGood
import Derived.ChangeKeysEq
import Derived.Laws.Slices
import Derived.Laws.StructEq
namespace Go.Proofs.Ytngefbdedbbplaa.Ai
open Go Go.RowKit
set_option linter.unusedVariables false
set_option linter.unusedSimpArgs false

inductive All2 {α β : Type} (R : α → β → Prop) : List α → List β → Prop
  | nil : All2 R [] []
  | cons {a b az bs} : R a b → All2 R az bs → All2 R (a :: az) (b :: bs)

mutual
/-- A value of one cell that holds no reference to an own object; what it reaches lies in blocks of 'I'. -/
inductive RepI (w : World) (I : Nat → Prop) : PV → Value → Prop
  | bool (b : Bool) : RepI w I (.bool b) (.bool b)
  | int (k : IntKind) (n : Int) (h : k.wrap n = n) : RepI w I (.int k n) (.int k n)
  | str (s : List UInt8) (h : s.length ≤ maxLen) : RepI w I (.str s) (.string ⟨s.toArray⟩)
  | nil : RepI w I .nil (.slice none 0 0)
  | nilp : RepI w I .nilp (.pointer none)
  | isl0 (sz : Nat) (A : Option Addr) (c : Nat) (hm : c ≤ maxLen) : RepI w I (.isl sz []) (.slice A 0 c)
  | isl (sz : Nat) (es : List (List PV)) (g o c : Nat) (vs : List Value) (hl : ∀ e ∈ es, e.length = sz) (hr : RepIs w I es.flatten vs) (hI : I g)
      (hcell : ∀ j v, vs[j]? = some v → w.cell? ⟨g, o + j, none⟩ = some v) (hc : es.length ≤ c) (hm : c ≤ maxLen) : RepI w I (.isl sz es) (.slice (some ⟨g, o, none⟩) es.length c)
  | iptr (cs : List PV) (g o : Nat) (vs : List Value) (hr : RepIs w I cs vs) (hI : I g) (hcell : ∀ j v, vs[j]? = some v → w.cell? ⟨g, o + j, none⟩ = some v) :
      RepI w I (.iptr cs) (.pointer (some ⟨g, o, none⟩))
  | fn (f : FuncId) (caps : List PV) (vs : List Value) (h : RepCs w I caps vs) : RepI w I (.fn f caps) (.func (.func f) #[] vs.toArray)
/-- What a function literal has captured. -/
inductive RepCs (w : World) (I : Nat → Prop) : List PV → List Value → Prop
  | nil : RepCs w I [] []
  | one {p v ps vs} : RepI w I p v → RepCs w I ps vs → RepCs w I (p :: ps) (v :: vs)
  | agg {cs us ps vs} : RepIs w I cs us → RepCs w I ps vs → RepCs w I (.agg cs :: ps) (.agg us.toArray :: vs)
inductive RepIs (w : World) (I : Nat → Prop) : List PV → List Value → Prop
  | nil : RepIs w I [] []
  | cons {p v ps vs} : RepI w I p v → RepIs w I ps vs → RepIs w I (p :: ps) (v :: vs)
end

/-- Own objects: the version that a key last had, and the concrete value (a slice, or a pointer to a box) while it lives. -/
inductive Key where
  | o (id : Nat)
  | n (id p : Nat)
  deriving DecidableEq
instance : Coe Nat Key := ⟨Key.o⟩
def Key.id : Key → Nat
  | .o id => id
  | .n id _ => id

structure Own where
  cur : Nat → Nat
  val : Key → Option Value

def headOf : Value → Option Nat
  | .pointer (some a) => some a.block
  | .slice (some a) _ _ => some a.block
  | .map (some g) => some g
  | _ => none

/-- What a function literal has captured: a value that is only read, or a pointer to an own box. -/
inductive Cap1 (w : World) (I : Nat → Prop) (η : Own) : PV → Value → Prop
  | undef (c : Value) : Cap1 w I η .undef c
  | imm {p c} (h : RepI w I p c) : Cap1 w I η p c
  | optr (id ver sz i off : Nat) (c : Value) (hv : ver ≤ η.cur id)
      (h : ver = η.cur id → ∀ x, η.val id = some x → ∃ g, headOf x = some g ∧ c = .pointer (some ⟨g, i * sz + off, none⟩)) : Cap1 w I η (.optr id ver sz i off) c

inductive Rep1 (w : World) (I : Nat → Prop) (η : Own) : PV → Value → Prop
  | undef (c : Value) : Rep1 w I η .undef c
  | skip : Rep1 w I η .skip Go.undef
  | imm {p c} (h : RepI w I p c) : Rep1 w I η p c
  | isv (v : Value) (sz : Nat) (es : List (List PV)) (h : RepI w I (.isl sz es) v) : Rep1 w I η (.isv v sz es) v
  | osl (id ver : Nat) (c : Value) (hv : ver ≤ η.cur id) (h : ver = η.cur id → ∀ x, η.val id = some x → c = x) : Rep1 w I η (.osl id ver) c
  | optr (id ver sz i off : Nat) (c : Value) (hv : ver ≤ η.cur id)
      (h : ver = η.cur id → ∀ x, η.val id = some x → ∃ g, headOf x = some g ∧ c = .pointer (some ⟨g, i * sz + off, none⟩)) : Rep1 w I η (.optr id ver sz i off) c
  | vsl (id ver sz lo hi : Nat) (c : Value) (hv : ver ≤ η.cur id)
      (h : ver = η.cur id → ∀ x, η.val id = some x → ∃ A n cap, x = .slice A n cap ∧ lo ≤ hi ∧ hi ≤ n ∧ c = sliced A lo hi cap sz) : Rep1 w I η (.vsl id ver sz lo hi) c
  | fno (f : FuncId) (caps : List PV) (vs : List Value) (h : All2 (Cap1 w I η) caps vs) : Rep1 w I η (.fno f caps) (.func (.func f) #[] vs.toArray)
  | bsl (id ver sz i off : Nat) (c : Value) (hv : ver ≤ η.cur id) (h : ver = η.cur id → ∀ x, η.val (.n id (i * sz + off)) = some x → c = x) : Rep1 w I η (.bsl id ver sz i off) c
  | bptr (id ver sz i off nsz j o : Nat) (c : Value) (hv : ver ≤ η.cur id)
      (h : ver = η.cur id → ∀ x, η.val (.n id (i * sz + off)) = some x → ∃ g, headOf x = some g ∧ c = .pointer (some ⟨g, j * nsz + o, none⟩)) : Rep1 w I η (.bptr id ver sz i off nsz j o) c

inductive RepA (w : World) (I : Nat → Prop) (η : Own) : PV → Value → Prop
  | one {p c} (h : Rep1 w I η p c) : RepA w I η p c
  | agg (cs : List PV) (vs : List Value) (h : All2 (Rep1 w I η) cs vs) : RepA w I η (.agg cs) (.agg vs.toArray)

inductive Rep (w : World) (I : Nat → Prop) (η : Own) : PV → Value → Prop
  | one {p c} (h : RepA w I η p c) : Rep w I η p c
  | tup (cs : List PV) (vs : List Value) (h : All2 (RepA w I η) cs vs) : Rep w I η (.tup cs) (.tuple vs.toArray)

/-- The frame of a call: its heap's size when it began, the blocks that it may write besides, the world in which it began. -/
structure Ctx where
  B : Nat
  M : Nat → Prop
  w0 : World
  /-- What lies in these blocks, and what is new, may be reached by values that are only read. -/
  I : Nat → Prop := fun _ => True
  /-- Blocks that have been handed over and are not bound yet. -/
  Z : Nat → Prop := fun _ => False
  /-- The values of the objects that the caller has lent, by their keys. -/
  lent : Nat → Option Value := fun _ => none

structure Kept (κ : Ctx) (w : World) : Prop where
  os : w.os = κ.w0.os
  tape : w.tape = κ.w0.tape
  output : w.output = κ.w0.output
  size : κ.B ≤ w.heap.size
  block : ∀ k, k < κ.B → ¬ κ.M k → w.heap[k]? = κ.w0.heap[k]?

class NoZ (κ : Ctx) : Prop where
  out : ∀ g, ¬ κ.Z g
  /-- Objects are lent under keys 1 to 7. -/
  low : ∀ id, (id = 0 ∨ 8 ≤ id) → κ.lent id = none
  /-- What is asked of the world holds all along. -/
  good : ∃ T, T ≤ κ.B ∧ (∀ g, κ.M g → T ≤ g) ∧ ∀ w, Kept κ w → Good T w

/-- A block of cells that may be written to. -/
def plain (w : World) (g : Nat) : Prop := ∃ arr e, w.heap[g]? = some (.cells arr e (0, 0))

def imm (κ : Ctx) (η : Own) (w : World) (g : Nat) : Prop := g < w.heap.size ∧ ((κ.I g ∨ ((κ.B ≤ g ∨ κ.M g) ∧ plain w g)) ∧ ¬ κ.Z g) ∧ ∀ (k : Key) x, η.val k = some x → headOf x ≠ some g

/-- An own object's value lies in new memory or in what was lent; what was lent keeps its value while it keeps its version. -/
def Side (κ : Ctx) (id ver : Nat) (v : Value) : Prop := (∀ g, headOf v = some g → κ.B ≤ g ∨ κ.M g) ∧ ∀ u, κ.lent id = some u → ver = 0 → v = u
theorem Side.new {κ : Ctx} {id ver : Nat} {v : Value} (h : Side κ id ver v) : ∀ g, headOf v = some g → κ.B ≤ g ∨ κ.M g := h.1
theorem Side.same {κ : Ctx} {id ver : Nat} {v : Value} (h : Side κ id ver v) : ∀ u, κ.lent id = some u → ver = 0 → v = u := h.2
def OwnsK (κ : Ctx) (w : World) (id ver e sz : Nat) (v : Value) (n : Nat) (vals : List Value) : Prop := w.ownsRow 0 e sz v n vals ∧ Side κ id ver v
theorem OwnsK.row {κ : Ctx} {w : World} {id ver e sz : Nat} {v : Value} {n : Nat} {vals : List Value} (h : OwnsK κ w id ver e sz v n vals) : w.ownsRow 0 e sz v n vals := h.1
theorem OwnsK.side {κ : Ctx} {w : World} {id ver e sz : Nat} {v : Value} {n : Nat} {vals : List Value} (h : OwnsK κ w id ver e sz v n vals) : Side κ id ver v := h.2

/-- The cells of a tree, from cell p on: what is no row of its own is as ever. -/
def CellRep (κ : Ctx) (w : World) (η : Own) (id p : Nat) : PV → Value → Prop
  | .fr e sz es, v => η.val (.n id p) = some v ∧ ∃ vals, OwnsK κ w 0 1 e sz v es.length vals ∧ RepIs w (imm κ η w) es.flatten vals ∧ ∀ x ∈ es, x.length = sz
  | c, v => RepI w (imm κ η w) c v
def CellsRep (κ : Ctx) (w : World) (η : Own) (id : Nat) (cs : List PV) (vs : List Value) : Prop :=
  cs.length = vs.length ∧ ∀ p c v, cs[p]? = some c → vs[p]? = some v → CellRep κ w η id p c v

/-- The cells of a wild tree: what is no row of its own is as a value in a slot. -/
def WCell (κ : Ctx) (w : World) (η : Own) (id p : Nat) : PV → Value → Prop
  | .fr e sz es, v => η.val (.n id p) = some v ∧ ∃ vals, OwnsK κ w 0 1 e sz v es.length vals ∧ RepIs w (imm κ η w) es.flatten vals ∧ ∀ x ∈ es, x.length = sz
  | c, v => Rep1 w (imm κ η w) η c v
def WCells (κ : Ctx) (w : World) (η : Own) (id : Nat) (cs : List PV) (vs : List Value) : Prop :=
  cs.length = vs.length ∧ ∀ p c v, cs[p]? = some c → vs[p]? = some v → WCell κ w η id p c v

/-- A map's entries. -/
structure MapRep (ents : Array MapEntry) (es : List (List PV)) (ks : List Int) : Prop where
  es : es = ks.map fun k => [.int .i64 k]
  ents : ents.toList.map (fun e => (e.key, e.val)) = ks.map fun k => (Value.int .i64 k, Value.bool true)
def putM (ks : List Int) (k : Int) : List Int := if k ∈ ks then ks else ks ++ [k]

def ObjRep (κ : Ctx) (w : World) (η : Own) (id : Nat) : Nat × Body → Prop
  | (ver, .dead) => η.cur id = ver ∧ η.val id = none
  | (ver, .box cs) => η.cur id = ver ∧ ∃ g arr e, η.val id = some (.pointer (some ⟨g, 0, none⟩)) ∧ w.heap[g]? = some (.cells arr e (0, 0)) ∧ All2 (Rep1 w (imm κ η w) η) cs arr.toList ∧ Side κ id ver (.pointer (some ⟨g, 0, none⟩))
  | (ver, .row e sz es) => η.cur id = ver ∧ ∃ v vals, η.val id = some v ∧ OwnsK κ w id ver e sz v es.length vals ∧ RepIs w (imm κ η w) es.flatten vals ∧ ∀ x ∈ es, x.length = sz
  | (ver, .iter s pos) => η.cur id = ver ∧ ∃ g, η.val id = some (.pointer (some ⟨g, 0, none⟩)) ∧ w.heap[g]? = some (.stringIter ⟨s.toArray⟩ pos) ∧ κ.B ≤ g ∧ s.length ≤ maxLen
  | (ver, .map es) => η.cur id = ver ∧ ∃ g ents clock ks, η.val id = some (.map (some g)) ∧ w.heap[g]? = some (.map ents clock) ∧ κ.B ≤ g ∧ MapRep ents es ks
  | (ver, .tree e sz es) => η.cur id = ver ∧ ∃ v vals, η.val id = some v ∧ OwnsK κ w id ver e sz v es.length vals ∧ CellsRep κ w η id es.flatten vals ∧ ∀ x ∈ es, x.length = sz
  | (ver, .wild e sz es) => η.cur id = ver ∧ ∃ v vals, η.val id = some v ∧ OwnsK κ w id ver e sz v es.length vals ∧ WCells κ w η id es.flatten vals ∧ ∀ x ∈ es, x.length = sz

def Body.nest : Body → Option (List (List PV))
  | .tree _ _ es => some es
  | .wild _ _ es => some es
  | _ => none
/-- Rows within rows are those of trees. -/
def SubRep (η : Own) (id : Nat) (b : Body) : Prop :=
  ∀ p v, η.val (.n id p) = some v → ∃ es e' sz' es', b.nest = some es ∧ es.flatten[p]? = some (.fr e' sz' es')

structure Sim (κ : Ctx) (η : Own) (s : St) (a : Act) (w : World) : Prop where
  tmps : All2 (Rep w (imm κ η w) η) s.T a.tmps.toList
  defers : a.defers = []
  heap : ∀ id, ObjRep κ w η id (s.H.get id)
  apart : ∀ (id id' : Key) x x' g, η.val id = some x → η.val id' = some x' → headOf x = some g → headOf x' = some g → id = id'
  sub : ∀ id, SubRep η id (s.H.get id).2
  kept : Kept κ w

def Post (κ : Ctx) (Q : Ex → St → Prop) : Exit → Act → World → Prop
  | .normal, a, w => ∃ η s, Sim κ η s a w ∧ Q .normal s
  | .exit i, a, w => ∃ η s, Sim κ η s a w ∧ Q (.exit i) s
  | .ret, a, w => ∃ η s, Sim κ η s a w ∧ Q .ret s
  | _, _, _ => False

/-- From every concrete state that the abstract one stands for, the code ends well. -/
def W (P : Program) (κ : Ctx) (c : Code) (Q : Ex → St → Prop) (s : St) : Prop := ∀ η a w, Sim κ η s a w → c.wp P (Post κ Q) a w

inductive RepArg (w : World) (I : Nat → Prop) : PV → Value → Prop
  | one {p c} (h : RepI w I p c) : RepArg w I p c
  | agg (cs : List PV) (vs : List Value) (h : RepIs w I cs vs) : RepArg w I (.agg cs) (.agg vs.toArray)

/-- The cells of a struct that is handed back: own rows may stand in them. -/
inductive ResC (w : World) (I : Nat → Prop) (base : Nat) : List PV → List Value → List Nat → Prop
  | nil : ResC w I base [] [] []
  | imm {p v ps vs gs} (h : RepI w I p v) (t : ResC w I base ps vs gs) : ResC w I base (p :: ps) (v :: vs) gs
  | fr {e sz : Nat} {es : List (List PV)} {v : Value} {vals : List Value} {ps vs gs} (ho : w.ownsRow base e sz v es.length vals) (hr : RepIs w I es.flatten vals) (hl : ∀ x ∈ es, x.length = sz)
      (t : ResC w I base ps vs gs) : ResC w I base (.fr e sz es :: ps) (v :: vs) ((headOf v).toList ++ gs)

inductive Res1 (w : World) (I : Nat → Prop) (base : Nat) : PV → Value → List Nat → Prop
  | undef (v : Value) : Res1 w I base .undef v []
  | imm {p v} (h : RepI w I p v) : Res1 w I base p v []
  | agg (cs : List PV) (vs : List Value) (h : RepIs w I cs vs) : Res1 w I base (.agg cs) (.agg vs.toArray) []
  | fr (e sz : Nat) (es : List (List PV)) (v : Value) (vals : List Value) (ho : w.ownsRow base e sz v es.length vals) (hr : RepIs w I es.flatten vals) (hl : ∀ x ∈ es, x.length = sz) :
      Res1 w I base (.fr e sz es) v (headOf v).toList
  | aggO (cs : List PV) (vs : List Value) (gs : List Nat) (h : ResC w I base cs vs gs) : Res1 w I base (.agg cs) (.agg vs.toArray) gs

inductive ResL (w : World) (I : Nat → Prop) (base : Nat) : List PV → List Value → List Nat → Prop
  | nil : ResL w I base [] [] []
  | cons {p v ps vs g gs} : Res1 w I base p v g → ResL w I base ps vs gs → ResL w I base (p :: ps) (v :: vs) (g ++ gs)

inductive Res (w : World) (I : Nat → Prop) (base : Nat) : PV → Value → List Nat → Prop
  | one {p v gs} : Res1 w I base p v gs → Res w I base p v gs
  | tup {ps vs gs} : ResL w I base ps vs gs → Res w I base (.tup ps) (.tuple vs.toArray) gs

/-- What a call hands back: own rows lie in new blocks, each in one of its own; all else that is reached lies in blocks of 'R'. -/
def RepR (R : Nat → Prop) (base : Nat) (w : World) (r : PV) (v : Value) (gs : List Nat) : Prop :=
  gs.Nodup ∧ (∀ g ∈ gs, base ≤ g ∧ g < w.heap.size) ∧ Res w (fun g => R g ∧ g < w.heap.size ∧ g ∉ gs ∧ (base ≤ g → plain w g)) base r v gs

def Callable (P : Program) (f : FuncId) : Prop := ∃ fn, P.funcs[f]? = some fn ∧ (fn.name == "runtime.NumGoroutine") = false ∧ fn.body.isNone = false

/-- What a call's arguments may reach; the world is as it has to be. -/
def InR (w : World) (I : Nat → Prop) : Prop := (∀ g, I g → g < w.heap.size) ∧ ∃ T, T ≤ w.heap.size ∧ Good T w
def InM (w : World) (g : Nat) (I : Nat → Prop) : Prop := (∀ x, I x → x < w.heap.size ∧ x ≠ g) ∧ ∃ T, T ≤ w.heap.size ∧ T ≤ g ∧ Good T w

def OkG (al : Bool) (P : Program) (f : FuncId) (args : List PV) (Q : PV → Prop) : Prop :=
  Callable P f ∧ ∀ (w : World) (I : Nat → Prop) (vs : List Value), InR w I → All2 (RepArg w I) args vs →
    Calls P f vs.toArray w fun e w' => ∃ v r gs, e = .returned v ∧ Q r ∧ Below w.heap.size w w' ∧ RepR (fun g => (al = true ∧ I g) ∨ w.heap.size ≤ g) w.heap.size w' r v gs

/-- The contract of a function that writes to nothing that was there: its result lies in new memory. -/
def Ok (P : Program) (f : FuncId) (args : List PV) (Q : PV → Prop) : Prop := OkG false P f args Q
/-- The same for a function whose result may lie in its arguments' memory. -/
def OkA (P : Program) (f : FuncId) (args : List PV) (Q : PV → Prop) : Prop := OkG true P f args Q

/-- The contract of a method that writes to its receiver (a pointer to a struct that is an own object). -/
def OkM (P : Program) (f : FuncId) (cs args : List PV) (Q : PV → List PV → Prop) : Prop :=
  Callable P f ∧ ∀ (w : World) (g : Nat) (arr : Array Value) (e : TypeId) (I : Nat → Prop) (vs : List Value), InM w g I → w.heap[g]? = some (.cells arr e (0, 0)) →
    RepIs w I cs arr.toList → All2 (RepArg w I) args vs →
    Calls P f (.pointer (some ⟨g, 0, none⟩) :: vs).toArray w fun en w' => ∃ v r gs cs' arr' e', en = .returned v ∧ Q r cs' ∧ Kept { B := w.heap.size, M := (· = g), w0 := w } w' ∧
      RepR (fun x => I x ∨ w.heap.size ≤ x) w.heap.size w' r v gs ∧ w'.heap[g]? = some (.cells arr' e' (0, 0)) ∧ RepIs w' (fun x => (I x ∨ w.heap.size ≤ x) ∧ x < w'.heap.size ∧ x ∉ gs ∧ (w.heap.size ≤ x → plain w' x)) cs' arr'.toList

/-- Objects under the keys k, k + 1, .. -/
def lowH : Nat → List Body → Heap
  | _, [] => []
  | k, b :: r => (k, 0, b) :: lowH (k + 1) r
/-- The contract of a function to which own objects are lent: they lie under the keys 1, 2, .. -/
def OkX (P : Program) (f : FuncId) (args : List PV) (objs : List Body) (Q : PV → List Body → Prop) : Prop :=
  Callable P f ∧ ∀ (κ : Ctx) (η : Own) (vs : List Value) (w : World), NoZ κ → κ.w0 = w → κ.B = w.heap.size → Sim κ η ⟨args, lowH 1 objs⟩ { tmps := vs.toArray, defers := [] } w →
    Calls P f vs.toArray w fun en w' => ∃ v r η' objs', en = .returned v ∧ Q r objs' ∧ objs'.length = objs.length ∧ Sim κ η' ⟨[], lowH 1 objs'⟩ { tmps := #[], defers := [] } w' ∧ Res w' (imm κ η' w') 0 r v []

/-- An object as a value, in the answer of a call. -/
def bodyPV : Body → PV
  | .box cs => .agg cs
  | .row e sz es => .fr e sz es
  | .tree e sz es => .tup [.fr e sz es]
  | _ => .undef
def pvBody : PV → Option Body
  | .agg cs => some (.box cs)
  | .fr e sz es => some (.row e sz es)
  | .tup [.fr e sz es] => some (.tree e sz es)
  | _ => none

def sizeBound : Nat := 1099511627776

/-- No own row in a result. -/
def noFr1 : PV → Prop
  | .fr _ _ _ => False
  | _ => True
def noFr : PV → Prop
  | .tup vs => ∀ v ∈ vs, noFr1 v
  | v => noFr1 v

/-- (A remnant: every result fits.) -/
def frOk (_ : PV) : Prop := True
/-- A cell without its content. -/
def shape : PV → PV
  | .int k _ => .int k 0
  | .bool _ => .bool false
  | .str _ => .str []
  | _ => .undef

def fieldOk (P : Program) (t : Nat) (p : PV) : Bool :=
  P.plainKey t && match P.underlying t, p with
    | some (.int _), .int _ _ => true
    | some .bool, .bool _ => true
    | some .string, .str _ => true
    | _, _ => false

def aeqFields (P : Program) : List Field → Nat → List PV → Bool
  | [], _, [] => true
  | f :: fs, i, p :: ps => decide (f.name ≠ "_") && decide (f.offset = i) && fieldOk P f.type p && aeqFields P fs (i + 1) ps
  | _, _, _ => false

/-- A struct of plain fields that may be compared, with its cells' shapes. -/
def aeqKinds (P : Program) (t : Nat) (ks : List PV) : Bool :=
  !P.stoodInHeld t && !P.eqGuardType P.depth t && match P.underlying t with
    | some (.struct fs) => aeqFields P fs.toList 0 ks
    | _ => false

/-- What the requests mean. 'b': in a region that draws its order (then a length must be known to fit, a contract must leave a result). -/
def std (b : Bool) (P : Program) : Req → (PV → Prop) → Prop
  | .bin op k a b', K => match op with
    | .add => K (.int k (k.wrap (a + b')))
    | .sub => K (.int k (k.wrap (a - b')))
    | .mul => K (.int k (k.wrap (a * b')))
    | .quo => b' ≠ 0 ∧ K (.int k (k.wrap (a.tdiv b')))
    | .rem => b' ≠ 0 ∧ K (.int k (k.wrap (a.tmod b')))
    | .and => K (.int k (bits .and k a b'))
    | .or => K (.int k (bits .or k a b'))
    | .xor => K (.int k (bits .xor k a b'))
    | .andNot => K (.int k (bits .andNot k a b'))
    | .eql => (a = b' → K (.bool true)) ∧ (a ≠ b' → K (.bool false))
    | .neq => (a ≠ b' → K (.bool true)) ∧ (a = b' → K (.bool false))
    | .lss => (a < b' → K (.bool true)) ∧ (b' ≤ a → K (.bool false))
    | .leq => (a ≤ b' → K (.bool true)) ∧ (b' < a → K (.bool false))
    | .gtr => (b' < a → K (.bool true)) ∧ (a ≤ b' → K (.bool false))
    | .geq => (b' ≤ a → K (.bool true)) ∧ (a < b' → K (.bool false))
    | _ => False
  | .sbin op a b', K => match op with
    | .add => a.length + b'.length ≤ sizeBound ∧ K (.str (a ++ b'))
    | .eql => (a = b' → K (.bool true)) ∧ (a ≠ b' → K (.bool false))
    | .neq => (a ≠ b' → K (.bool true)) ∧ (a = b' → K (.bool false))
    | .lss => (Op.bytesLess a b' = true → K (.bool true)) ∧ (Op.bytesLess a b' = false → K (.bool false))
    | .geq => (Op.bytesLess a b' = false → K (.bool true)) ∧ (Op.bytesLess a b' = true → K (.bool false))
    | .leq => ((Op.bytesLess a b' || a == b') = true → K (.bool true)) ∧ ((Op.bytesLess a b' || a == b') = false → K (.bool false))
    | .gtr => ((Op.bytesLess a b' || a == b') = false → K (.bool true)) ∧ ((Op.bytesLess a b' || a == b') = true → K (.bool false))
    | _ => False
  | .shift op k a _ b', K => 0 ≤ b' ∧ b' ≤ k.bits ∧ match op with
    | .shl => K (.int k (k.wrap (a * 2 ^ b'.toNat)))
    | .shr => K (.int k (a / 2 ^ b'.toNat))
    | _ => False
  | .neg k a, K => K (.int k (k.wrap (-a)))
  | .conv k a, K => K (.int k (k.wrap a))
  | .minmax mx k a b', K => K (.int k (if mx then (if b' > a then b' else a) else (if b' < a then b' else a)))
  | .len n, K => if b then n ≤ maxLen ∧ K (.int .i64 n) else n ≤ maxLen → K (.int .i64 n)
  | .index es i, K => 0 ≤ i ∧ ∃ e, es[i.toNat]? = some e ∧ K (.iptr e)
  | .oindex n i, K => 0 ≤ i ∧ i.toNat < n ∧ K .undef
  | .sindex s i, K => 0 ≤ i ∧ ∃ b', s[i.toNat]? = some b' ∧ K (.int .u8 b'.toNat)
  | .sslice s lo hi, K => 0 ≤ lo ∧ lo ≤ hi ∧ hi.toNat ≤ s.length ∧ K (.str ((s.take hi.toNat).drop lo.toNat))
  | .islice es lo hi, K => 0 ≤ lo ∧ lo ≤ hi ∧ hi.toNat ≤ es.length ∧ K (.isl 0 ((es.take hi.toNat).drop lo.toNat))
  | .mput t es k, K => (∃ kt et, P.underlying t = some (.map kt et) ∧ P.underlying kt = some (.int .i64)) ∧ ∃ ks : List Int, es = (ks.map fun k => [PV.int .i64 k]) ∧ K (.isl 1 ((putM ks k).map fun k => [PV.int .i64 k]))
  | .mget t es k, K => (∃ kt et, P.underlying t = some (.map kt et) ∧ P.underlying kt = some (.int .i64) ∧ P.underlying et = some .bool ∧ ∀ w, (zeroValue et).run P w = .ok (.bool false) w) ∧ ∃ ks : List Int, es = (ks.map fun k => [PV.int .i64 k]) ∧ K (.bool (decide (k ∈ ks)))
  | .oload es i off n, K => ∃ e, es[i]? = some e ∧ off + n ≤ e.length ∧ K (.agg ((e.drop off).take n))
  | .ostore es i off cs, K => ∃ e, es[i]? = some e ∧ off + cs.length ≤ e.length ∧ K (.isl 0 (es.set i (splice e off cs)))
  | .append es more bytes, K => (es.length + more.length) * bytes ≤ 140737488355328 ∧ es.length + more.length ≤ sizeBound ∧ K (.isl 0 (es ++ more))
  | .make bytes z l c, K => 0 ≤ l ∧ l ≤ c ∧ bytes * c.toNat ≤ 140737488355328 ∧ c.toNat ≤ sizeBound ∧ K (.isl 0 (List.replicate l.toNat z))
  | .call f own args, K => ∃ Q, (if own then Ok P f args Q else OkA P f args Q) ∧ (b = true → ∃ r, Q r) ∧ ∀ r, Q r → K r
  | .pcall f args, K => b = false ∧ ∃ Q, OkA P f args Q ∧ ∀ r, Q r → K r
  | .mcall f cs args, K => ∃ Q, OkM P f cs args Q ∧ (b = true → ∃ r cs', Q r cs') ∧ ∀ r cs', Q r cs' → K (.tup [r, .agg cs'])
  | .xcall f args objs, K => b = false ∧ ∃ Q, OkX P f args objs Q ∧ ∀ r objs', Q r objs' → K (.tup (r :: objs'.map bodyPV))
  | .aeq t neq a b', K => (∃ ks, aeqKinds P t ks = true ∧ a.map shape = ks ∧ b'.map shape = ks) ∧ (a = b' → K (.bool (!neq))) ∧ (a ≠ b' → K (.bool neq))
  | .notnil n, K => 0 < n ∧ K .undef
  | .tobytes _, _ => False
  | .snext s pos, K => (s.length ≤ pos → K (.tup [.bool false])) ∧ ∀ x, s[pos]? = some x → x.toNat < 128 ∧ K (.tup [.bool true, .int .i64 pos, .int .i32 x.toNat])
  | .clean es, K => (∀ x ∈ es, ∀ c ∈ x, (∃ e z rs, c = .fr e z rs) ∨ c.pure = true) ∧ K .undef
  | .tostr es, K => ∃ l : List Int, es = l.map (fun n => [PV.int .u8 n]) ∧ K (.str (l.map fun n => UInt8.ofNat n.toNat))

theorem std_len {b : Bool} {P : Program} {n : Nat} {K : PV → Prop} (h : std b P (.len n) K) (hn : n ≤ maxLen) : K (.int .i64 n) := by
  cases b
  · exact h hn
  · exact h.2

theorem std_call {b own : Bool} {P : Program} {f : FuncId} {args : List PV} {K : PV → Prop} (h : std b P (.call f own args) K) : ∃ Q, (if own then Ok P f args Q else OkA P f args Q) ∧ ∀ r, Q r → K r := by
  obtain ⟨Q, h1, _, h2⟩ := h
  exact ⟨Q, h1, h2⟩

def descOk (P : Program) (t : Nat) (ti : TI) : Prop :=
  P.underlying t = some ti.desc ∧ (∃ i z, P.info? t = some i ∧ i.size = ti.size ∧ i.bytes = ti.bytes ∧ i.zero = some z ∧ (∀ w I, RepIs w I ti.zero z.cells.toList) ∧ ti.zero.length = ti.size) ∧
    ti.isAgg = (match ti.desc with | .struct _ | .array _ _ => true | _ => false)

/-- The table of types fits the program. -/
def EnvOk (P : Program) (G : Env) : Prop := ∀ t ti, G t = some ti → descOk P t ti

end Go.Proofs.Ytngefbdedbbplaa.Ai
