/- The abstract machine: what a region, a piece of code, a function's body does to abstract states. -/
import Derived.Test.YtngefbdedbbplaaAiDefs
namespace Go.Proofs.Ytngefbdedbbplaa.Ai
open Go
set_option linter.unusedVariables false
set_option linter.unusedSimpArgs false

abbrev Env := Nat → Option TI

def thaw (id ver sz : Nat) (es : List (List PV)) : PV → PV
  | .osl i v => if i = id then if v = ver then .isl sz es else .osl i v else .osl i v
  | x => x

/-- A value of one cell of which all is known. -/
def St.live (s : St) : PV → Bool
  | .osl id ver => match s.H.get id with
    | (v', .row _ _ _) => if v' = ver then true else false
    | _ => false
  | .optr id ver _ _ _ => match s.H.get id with
    | (_, .dead) => false
    | (v', _) => if v' = ver then true else false
  | .fno _ _ => true
  | v => v.pure

/-- A value as it is kept in contents: an own slice is given up and becomes one that is only read. -/
def toPure (v : PV) (s : St) : Option (PV × St) :=
  match v with
  | .osl id ver => match s.H.get id with
    | (v', .row _ sz es) => if v' = ver then some (.isl sz es, ⟨s.T.map (thaw id ver sz es), s.H.put id (ver, .dead)⟩) else none
    | _ => none
  | v => if v.pure then some (v, s) else none

def toPures : List PV → St → Option (List PV × St)
  | [], s => some ([], s)
  | v :: r, s => match toPure v s with
    | some (v', s') => match toPures r s' with
      | some (r', s'') => some (v' :: r', s'')
      | none => none
    | none => none

/-- A row within a row, as one that is only read. -/
def coolC : PV → PV
  | .fr _ sz es => .isl sz es
  | c => c
structure CoolFn where
  fn : List (List PV) → List (List PV)
  eq : ∀ es, fn es = es.map (·.map coolC)
theorem coolEx : Nonempty CoolFn := ⟨⟨_, fun _ => rfl⟩⟩
/-- The elements of a tree, as they are read from then on. -/
noncomputable def coolL (es : List (List PV)) : List (List PV) := (Classical.choice coolEx).fn es
theorem coolL_eq (es : List (List PV)) : coolL es = es.map (·.map coolC) := (Classical.choice coolEx).eq es

/-- A value as a callee sees it that only reads. -/
noncomputable def lend1 (s : St) : PV → Option (Bool × PV)
  | .osl id ver => match s.H.get id with
    | (v', .row _ sz es) => if v' = ver then some (true, .isl sz es) else none
    | (v', .tree _ sz es) => if v' = ver then some (true, .isl sz (coolL es)) else none
    | _ => none
  | v => if v.pure then some (false, v) else none

def lends (f : PV → Option (Bool × PV)) : List PV → Option (Bool × List PV)
  | [] => some (false, [])
  | v :: r => match f v with
    | some (b, v') => match lends f r with
      | some (b', r') => some (b || b', v' :: r')
      | none => none
    | none => none

noncomputable def lend (s : St) : PV → Option (Bool × PV)
  | .agg cs => match lends (lend1 s) cs with
    | some (b, cs') => some (b, .agg cs')
    | none => none
  | v => lend1 s v

/-- Arguments beside a receiver that is written: own slices are given up. -/
def pargs : List PV → St → Option (List PV × St)
  | [], s => some ([], s)
  | v :: r, s => match v with
    | .agg cs => match toPures cs s with
      | some (cs', s') => match pargs r s' with
        | some (r', s'') => some (.agg cs' :: r', s'')
        | none => none
      | none => none
    | v => match toPure v s with
      | some (v', s') => match pargs r s' with
        | some (r', s'') => some (v' :: r', s'')
        | none => none
      | none => none

/-- What the cells of a new slice hold; nil slices are taken as slices without elements that are only read. -/
def zeroM (G : Env) (te : TI) : List PV :=
  match te.desc, te.zero with
  | .slice e, [.nil] => match G e with
    | some t => [.isl t.size []]
    | none => [.nil]
  | _, z => z

/-- An argument of a method that writes its receiver, in a region that draws: a row is given up, and nobody looks at it again. -/
def toPureN (v : PV) (s : St) : Option (PV × St) :=
  if v.cells.all PV.pure then some (v, s) else match v with
  | .osl id ver => match s.H.get id with
    | (v', .row _ sz es) => if v' = ver then some (.isl sz es, ⟨s.T, s.H.put id (ver, .dead)⟩) else none
    | _ => none
  | _ => none
def pargsN : List PV → St → Option (List PV × St)
  | [], s => some ([], s)
  | v :: r, s => match toPureN v s with
    | some (v', s') => match pargsN r s' with
      | some (r', s'') => some (v' :: r', s'')
      | none => none
    | none => none

/-- The cells of a struct: each own row under a key of its own. -/
def bindC (key : Nat) : Nat → List PV → St → List PV × St
  | _, [], s => ([], s)
  | p, .fr e sz es :: r, s => match bindC key (p + 1) r ⟨s.T, s.H.new (key + 1000000 * p) (.row e sz es)⟩ with
    | (r', s') => (.osl (key + 1000000 * p) ((s.H.get (key + 1000000 * p)).1 + 1) :: r', s')
  | p, v :: r, s => match bindC key (p + 1) r s with
    | (r', s') => (v :: r', s')
def bindAt (d key : Nat) (s : St) : PV → PV × St
  | .fr e sz es => (.osl key ((s.H.get key).1 + 1), ⟨s.T, s.H.new key (.row e sz es)⟩)
  | .agg cs => match bindC key 1 cs s with
    | (cs', s') => (.agg cs', s')
  | v => (v, s)

def bindL (d : Nat) : Nat → List PV → St → List PV × St
  | _, [], s => ([], s)
  | j, v :: r, s => match bindAt d (8 * d + j) s v with
    | (v', s') => match bindL d (j + 1) r s' with
      | (r', s'') => (v' :: r', s'')

/-- A callee's result, laid into its slot. -/
def bind (s : St) (d : Option Nat) (r : PV) : St :=
  match d with
  | none => s
  | some d => match r with
    | .tup vs => match bindL d 2 vs s with
      | (vs', s') => s'.put (some d) (.tup vs')
    | v => match bindAt d (8 * d) s v with
      | (v', s') => s'.put (some d) v'

/-- The keys under which a call's result is laid that goes into slot d. -/
def keysC (k : Nat) : Nat → List PV → List Nat
  | _, [] => []
  | p, .fr _ _ _ :: r => (k + 1000000 * p) :: keysC k (p + 1) r
  | p, _ :: r => keysC k (p + 1) r
def keys1 (k : Nat) : PV → List Nat
  | .fr _ _ _ => [k]
  | .agg cs => keysC k 1 cs
  | _ => []
def keysL (d : Nat) : Nat → List PV → List Nat
  | _, [] => []
  | j, v :: r => keys1 (8 * d + j) v ++ keysL d (j + 1) r
def keysB (d : Nat) : PV → List Nat
  | .tup vs => keysL d 2 vs
  | v => keys1 (8 * d) v

def keysD (d : Option Nat) (r : PV) : List Nat :=
  match d with
  | none => []
  | some d => keysB d r
def memB (i : Nat) : List Nat → Bool
  | [] => false
  | k :: r => if k = i then true else memB i r
def subB : List Nat → List Nat → Bool
  | [], _ => true
  | x :: r, l => if memB x l then subB r l else false

def fieldOff (fs : List Field) (i : Nat) : Option (Nat × Nat) :=
  match fs[i]? with
  | some f => some (f.offset, f.type)
  | none => none

/-- Parts laid over cells. -/
def splice (cs : List PV) (off : Nat) (part : List PV) : List PV := cs.take off ++ part ++ cs.drop (off + part.length)

def fillS (G : Env) (fs : List Field) (s : St) : List (Nat × Operand) → List PV → Option (List PV)
  | [], cs => some cs
  | (i, x) :: r, cs => match fieldOff fs i with
    | some (off, ft) => match G ft with
      | some ti => if (s.ev x).cells.all s.live then if (s.ev x).cells.length = ti.size then if off + ti.size ≤ cs.length then fillS G fs s r (splice cs off (s.ev x).cells) else none else none else none
      | none => none
    | none => none

def fillE (sz : Nat) : List (Nat × PV) → List (List PV) → St → Option (List (List PV) × St)
  | [], es, s => some (es, s)
  | (i, v) :: r, es, s => match toPures v.cells s with
    | some (c, s') => if c.length = sz then if i < es.length then fillE sz r (es.set i c) s' else none else none
    | none => none

/-- Rows that go into the cells of a list that is written out, in a region that draws: nobody looks at them again. -/
def toCellN (v : PV) (s : St) : Option (PV × St) :=
  match v with
  | .osl id ver => match s.H.get id with
    | (v', .row _ sz es) => if v' = ver then some (.isl sz es, ⟨s.T, s.H.put id (ver, .dead)⟩) else none
    | _ => none
  | v => if v.pure then some (v, s) else none
def toCellsN : List PV → St → Option (List PV × St)
  | [], s => some ([], s)
  | v :: r, s => match toCellN v s with
    | some (v', s') => match toCellsN r s' with
      | some (r', s'') => some (v' :: r', s'')
      | none => none
    | none => none
def fillN (sz : Nat) : List (Nat × PV) → List (List PV) → St → Option (List (List PV) × St)
  | [], es, s => some (es, s)
  | (i, v) :: r, es, s => match toCellsN v.cells s with
    | some (c, s') => if c.length = sz then if i < es.length then fillN sz r (es.set i c) s' else none else none
    | none => none

def evs (s : St) (xs : List Operand) : List PV := xs.map s.ev

def aggOr (isAgg : Bool) (n : Nat) (cs : List PV) (K : PV → Prop) : Prop :=
  if isAgg then if n ≤ cs.length then K (.agg (cs.take n)) else False
  else match cs with
    | c :: _ => K c
    | [] => False

def optInt (s : St) : Option Operand → Option (Option Int)
  | none => some none
  | some x => match s.ev x with
    | .int _ n => some (some n)
    | _ => none

section
variable (X : Req → (PV → Prop) → Prop) (L : Code → (Ex → St → Prop) → St → Prop) (G : Env)

def isBool : Option TI → Bool
  | some ⟨.bool, _, _, _, _, _⟩ => true
  | _ => false
def isString : Option TI → Bool
  | some ⟨.string, _, _, _, _, _⟩ => true
  | _ => false
def isSlice : Option TI → Bool
  | some ⟨.slice _, _, _, _, _, _⟩ => true
  | _ => false

def opBin (t : Nat) (op : BinOp) (x y : PV) (K : PV → Prop) : Prop :=
  match x, y with
  | .int k a, .int k' b => match op with
    | .shl | .shr => X (.shift op k a k' b) K
    | _ => if k = k' then X (.bin op k a b) K else False
  | .str a, .str b => X (.sbin op a b) K
  | .bool a, .bool b => if isBool (G t) then match op with
      | .eql => K (.bool (a == b))
      | .neq => K (.bool (!(a == b)))
      | _ => False
    else False
  | .agg a, .agg b => match op with
    | .eql => X (.aeq t false a b) K
    | .neq => X (.aeq t true a b) K
    | _ => False
  | _, _ => False

def nilAns (t : Nat) (op : BinOp) (isn : Bool) (K : PV → Prop) : Prop :=
  if isSlice (G t) then match op with
    | .eql => K (.bool isn)
    | .neq => K (.bool (!isn))
    | _ => False
  else False

/-- A slice that is compared with nil; all else as before. -/
def opBinH (t : Nat) (s : St) (op : BinOp) (x y : PV) (K : PV → Prop) : Prop :=
  match y with
  | .nil => match x with
    | .nil => nilAns G t op true K
    | .isl _ es => X (.notnil es.length) fun _ => nilAns G t op false K
    | .osl id ver => match s.H.get id with
      | (v', .row _ _ es) => if v' = ver then X (.notnil es.length) fun _ => nilAns G t op false K else False
      | _ => False
    | _ => False
  | y => opBin X G t op x y K

def opUn (op : UnOp) (x : PV) (K : PV → Prop) : Prop :=
  match op, x with
  | .not, .bool b => K (.bool (!b))
  | .neg, .int k a => X (.neg k a) K
  | _, _ => False

def opLoad (t : Nat) (s : St) (a : PV) (K : PV → Prop) : Prop :=
  match G t with
  | none => False
  | some ti => match a with
    | .iptr cs => aggOr ti.isAgg ti.size cs K
    | .optr id ver sz i off => match s.H.get id with
      | (v', .box cs) => if v' = ver then if i = 0 then aggOr ti.isAgg ti.size (cs.drop off) K else False else False
      | (v', .row _ sz' es) => if v' = ver then if sz = sz' then X (.oload es i off ti.size) fun r => match r with
          | .agg cs => aggOr ti.isAgg ti.size cs K
          | _ => False
        else False else False
      | _ => False
    | _ => False

def opStore (t : Nat) (s : St) (a v : PV) (K : St → Prop) : Prop :=
  match G t with
  | none => False
  | some ti => if v.cells.length = ti.size then match a with
    | .optr id ver sz i off => match s.H.get id with
      | (v', .box cs) => if v' = ver then if i = 0 then if v.cells.all s.live then if off + ti.size ≤ cs.length then
          K ⟨s.T, s.H.put id (ver, .box (splice cs off v.cells))⟩ else False else False else False else False
      | (_, .row _ _ _) => match toPures v.cells s with
          | some (c, s') => match s'.H.get id with
            | (v', .row e sz' es) => if v' = ver then if sz = sz' then X (.ostore es i off c) fun r => match r with
                | .isl _ es' => K ⟨s'.T, s'.H.put id (ver, .row e sz es')⟩
                | _ => False
              else False else False
            | _ => False
          | none => False
      | _ => False
    | _ => False
    else False

def sliceOf (t : Nat) : Option (Nat × TI) :=
  match G t with
  | some ⟨.slice e, _, _, _, _, _⟩ => match G e with
    | some te => some (e, te)
    | none => none
  | _ => none

def opIndexAddr (t : Nat) (s : St) (x i : PV) (K : PV → Prop) : Prop :=
  match sliceOf G t with
  | some (_, te) => match i with
    | .int _ n => match x with
      | .isl sz es => if sz = te.size then X (.index es n) K else False
      | .osl id ver => match s.H.get id with
        | (v', .row _ sz es) => if v' = ver then if sz = te.size then X (.oindex es.length n) fun _ => K (.optr id ver sz n.toNat 0) else False else False
        | _ => False
      | _ => False
    | _ => False
  | none => False

def structOf : Option TI → Option (List Field)
  | some ⟨.struct fs, _, _, _, _, _⟩ => some fs.toList
  | _ => none

def opFieldAddr (t : Nat) (s : St) (x : PV) (f : Nat) (K : PV → Prop) : Prop :=
  match structOf (G t) with
  | some fs => match fieldOff fs f with
    | some (off, ft) => match G ft with
      | some tf => if tf.size = 0 then False else match x with
        | .iptr cs => if off + tf.size ≤ cs.length then K (.iptr (cs.drop off)) else False
        | .optr id ver sz i o => if s.live (.optr id ver sz i o) then K (.optr id ver sz i (o + off)) else False
        | _ => False
      | none => False
    | none => False
  | none => False

def opField (t : Nat) (x : PV) (f : Nat) (K : PV → Prop) : Prop :=
  match structOf (G t) with
  | some fs => match fieldOff fs f with
    | some (off, ft) => match G ft with
      | some tf => match x with
        | .agg cs => if off + tf.size ≤ cs.length then aggOr tf.isAgg tf.size (cs.drop off) K else False
        | _ => False
      | none => False
    | none => False
  | none => False

def opLen (t : Nat) (s : St) (x : PV) (K : PV → Prop) : Prop :=
  match x with
  | .nil => if isSlice (G t) then K (.int .i64 0) else False
  | .str b => if isString (G t) then X (.len b.length) K else False
  | .isl _ es => if isSlice (G t) then X (.len es.length) K else False
  | .osl id ver => if isSlice (G t) then match s.H.get id with
      | (v', .row _ _ es) => if v' = ver then X (.len es.length) K else False
      | _ => False
    else False
  | _ => False

def moreOf (s : St) (e sz : Nat) : PV → Option (List (List PV))
  | .nil => some []
  | .isl z es => if z = sz then some es else none
  | .osl id ver => match s.H.get id with
    | (v', .row e' z es) => if v' = ver then if e' = e then if z = sz then some es else none else none else none
    | _ => none
  | _ => none

def opAppend (t : Nat) (s : St) (x y : PV) (dst : Option Nat) (K : St → Prop) : Prop :=
  match dst with
  | none => False
  | some d => match sliceOf G t with
    | some (e, te) => if te.size = 0 then False else match moreOf s e te.size y with
      | some more => match x with
        | .nil => X (.append [] more te.bytes) fun r => match r with
            | .isl _ es' => K (bind s (some d) (.fr e te.size es'))
            | _ => False
        | .osl id ver => match s.H.get id with
          | (v', .row e' z es) => if v' = ver then if e' = e then if z = te.size then X (.append es more te.bytes) fun r => match r with
                | .isl _ es' => K (bind ⟨s.T, s.H.put id (ver + 1, .dead)⟩ (some d) (.fr e te.size es'))
                | _ => False
              else False else False else False
          | _ => False
        | _ => False
      | none => False
    | none => False

def opSlice (t : Nat) (s : St) (x : PV) (lo hi : Option Int) (dst : Option Nat) (K : St → Prop) : Prop :=
  match x with
  | .str b => if isString (G t) then X (.sslice b (lo.getD 0) (hi.getD b.length)) fun r => K (s.put dst r) else False
  | .nil => match sliceOf G t with
    | some _ => X (.islice [] (lo.getD 0) (hi.getD 0)) fun _ => K (s.put dst .nil)
    | none => False
  | .isl sz es => match sliceOf G t with
    | some (_, te) => if sz = te.size then X (.islice es (lo.getD 0) (hi.getD es.length)) fun r => match r with
        | .isl _ es' => K (s.put dst (.isl sz es'))
        | _ => False
      else False
    | none => False
  | .osl id ver => match sliceOf G t with
    | some (_, te) => match s.H.get id with
      | (v', .row e sz es) => if v' = ver then if sz = te.size then match lo with
          | none => match dst with
            | some d => X (.islice es 0 (hi.getD es.length)) fun r => match r with
              | .isl _ es' => K (bind ⟨s.T, s.H.put id (ver + 1, .dead)⟩ (some d) (.fr e sz es'))
              | _ => False
            | none => False
          | some l => X (.islice es l (hi.getD es.length)) fun r => match r with
              | .isl _ es' => K (St.put ⟨s.T.map (thaw id ver sz es), s.H.put id (ver, .dead)⟩ dst (.isl sz es'))
              | _ => False
        else False else False
      | _ => False
    | none => False
  | _ => False

/-- x[:n:m] of an own slice: the row is only read from then on. -/
def opSlice3 (t : Nat) (s : St) (x n m : PV) (dst : Option Nat) (K : St → Prop) : Prop :=
  match x, n, m with
  | .osl id ver, .int _ n, .int _ m => match sliceOf G t with
    | some (_, te) => match s.H.get id with
      | (v', .row _ sz es) => if v' = ver then if sz = te.size then X (.islice es n m) fun _ => X (.islice es 0 n) fun r => match r with
          | .isl _ es' => K (St.put ⟨s.T.map (thaw id ver sz es), s.H.put id (ver, .dead)⟩ dst (.isl sz es'))
          | _ => False
        else False else False
      | _ => False
    | none => False
  | _, _, _ => False

def isBytes : TypeDesc → Bool
  | .slice e => match G e with
    | some ⟨.int .u8, _, _, _, _, _⟩ => true
    | _ => false
  | _ => false

def opConvert (src dst : Nat) (s : St) (x : PV) (K : PV → Prop) : Prop :=
  match G src with
  | some ts => match G dst with
    | some td => match td.desc, x with
      | .int k, .int _ n => X (.conv k n) K
      | .string, .isl _ es => if isBytes G ts.desc then X (.tostr es) K else False
      | .string, .osl id ver => if isBytes G ts.desc then match s.H.get id with
          | (v', .row _ _ es) => if v' = ver then X (.tostr es) K else False
          | _ => False
        else False
      | _, _ => False
    | none => False
  | none => False

def opCall (f : FuncId) (s : St) (args : List PV) (dst : Option Nat) (K : St → Prop) : Prop :=
  match args with
  | .optr id ver _ i off :: rest => match pargs rest s with
    | some (rest', s') => match s'.H.get id with
      | (v', .box cs) => if v' = ver then if i = 0 then if off = 0 then if cs.all PV.pure then X (.mcall f cs rest') fun r => match r with
            | .tup [v, .agg cs'] => K (bind ⟨s'.T, s'.H.put id (ver, .box cs')⟩ dst v)
            | _ => False
        else False else False else False else False
      | _ => False
    | none => False
  | _ => match lends (lend s) args with
    | some (own, args') => if own then X (.call f true args') (fun r => K (bind s dst r)) ∨ match pargs args s with
          | some (args'', s') => X (.pcall f args'') fun r => K (bind s' dst r)
          | none => False
        else X (.call f false args') fun r => K (bind s dst r)
    | none => False

/-- The same in a region that draws: the result's rows lie under the keys given. -/
def opCallN (f : FuncId) (s : St) (args : List PV) (ks : List Nat) (dst : Option Nat) (K : St → Prop) : Prop :=
  match args with
  | .optr id ver _ i off :: rest => match pargsN rest s with
    | some (rest', s') => match s'.H.get id with
      | (v', .box cs) => if v' = ver then if i = 0 then if off = 0 then if cs.all PV.pure then X (.mcall f cs rest') fun r => match r with
            | .tup [v, .agg cs'] => if subB (keysD dst v) ks then K (bind ⟨s'.T, s'.H.put id (ver, .box cs')⟩ dst v) else False
            | _ => False
        else False else False else False else False
      | _ => False
    | none => False
  | _ => False

/-- A call of a function that only reads, in a region that draws. -/
def opCallD (f : FuncId) (s : St) (args : List PV) (ks : List Nat) (dst : Option Nat) (K : St → Prop) : Prop :=
  match lends (lend s) args with
  | some (own, args') => if own then X (.call f true args') (fun r => if subB (keysD dst r) ks then K (bind s dst r) else False) ∨ False
      else X (.call f false args') fun r => if subB (keysD dst r) ks then K (bind s dst r) else False
  | none => False

def op (o : Oper) (s : St) (K : St → Prop) : Prop :=
  match o.op with
  | .move x | .assign x => K (s.put o.dst (s.ev x))
  | .pick c a b => match s.ev c with
    | .bool t => K (s.put o.dst (if t then s.ev a else s.ev b))
    | _ => False
  | .alloc e => match o.dst with
    | some d => match G e with
      | some te => K (St.put ⟨s.T, s.H.new (8 * d) (.box te.zero)⟩ (some d) (.optr (8 * d) ((s.H.get (8 * d)).1 + 1) te.size 0 0))
      | none => False
    | none => False
  | .box _ x => match o.dst with
    | some d => if (s.ev x).cells.all s.live then
        K (St.put ⟨s.T, s.H.new (8 * d) (.box (s.ev x).cells)⟩ (some d) (.optr (8 * d) ((s.H.get (8 * d)).1 + 1) (s.ev x).cells.length 0 0))
      else False
    | none => False
  | .build t parts => match G t with
    | some ti => match structOf (some ti) with
      | some fs => match fillS G fs s parts.toList ti.zero with
        | some cs => K (s.put o.dst (.agg cs))
        | none => False
      | none => False
    | none => False
  | .buildSlice t n parts => match o.dst with
    | some d => match sliceOf G t with
      | some (e, te) => if te.size = 0 then False else if n * te.size ≤ 100000 then
          match fillE te.size (parts.toList.map fun p => (p.1, s.ev p.2)) (List.replicate n te.zero) s with
          | some (es, s') => K (bind s' (some d) (.fr e te.size es))
          | none => False
        else False
      | none => False
    | none => False
  | .load t a => opLoad X G t s (s.ev a) fun v => K (s.put o.dst v)
  | .store t a v => opStore X G t s (s.ev a) (s.ev v) fun s' => K (s'.put o.dst .skip)
  | .nilCheck x => match s.ev x with
    | .iptr cs => K (s.put o.dst (.iptr cs))
    | .optr id ver sz i off => match s.H.get id with
      | (v', .box _) => if v' = ver then K (s.put o.dst (.optr id ver sz i off)) else False
      | _ => False
    | _ => False
  | .binOp b t x y _ => opBinH X G t s b (s.ev x) (s.ev y) fun v => K (s.put o.dst v)
  | .unOp u _ x => opUn X u (s.ev x) fun v => K (s.put o.dst v)
  | .convert src dst x => opConvert X G src dst s (s.ev x) fun v => K (s.put o.dst v)
  | .makeFunc (.func f) first captured => if first.size = 0 then if (evs s captured.toList).all fun v => v.cells.all PV.pure then K (s.put o.dst (.fn f (evs s captured.toList))) else False else False
  | .makeSlice t l c => match o.dst with
    | some d => match sliceOf G t with
      | some (e, te) => match s.ev l, s.ev c with
        | .int _ n, .int _ m => if te.size = 0 then False else X (.make te.bytes (zeroM G te) n m) fun r => match r with
            | .isl _ es => K (bind s (some d) (.fr e te.size es))
            | _ => False
        | _, _ => False
      | none => False
    | none => False
  | .slice t x lo hi none => match optInt s lo, optInt s hi with
    | some l, some h => opSlice X G t s (s.ev x) l h o.dst K
    | _, _ => False
  | .slice t x none (some hi) (some mx) => opSlice3 X G t s (s.ev x) (s.ev hi) (s.ev mx) o.dst K
  | .fieldAddr t x f => opFieldAddr G t s (s.ev x) f fun v => K (s.put o.dst v)
  | .field t x f => opField G t (s.ev x) f fun v => K (s.put o.dst v)
  | .indexAddr t x i => opIndexAddr X G t s (s.ev x) (s.ev i) fun v => K (s.put o.dst v)
  | .index t x i => match s.ev x, s.ev i with
    | .str b, .int _ n => if isString (G t) then X (.sindex b n) fun v => K (s.put o.dst v) else False
    | _, _ => False
  | .extract x i => match s.ev x with
    | .tup vs => match vs[i]? with
      | some v => K (s.put o.dst v)
      | none => False
    | _ => False
  | .call c => match c.callee with
    | .value (.func f) => opCall X f s (evs s c.args.toList) o.dst K
    | .value (.tmp t) => match s.T.getD t .undef with
      | .fn f caps => match lends (lend s) (evs s c.args.toList ++ caps) with
        | some (own, args') => X (.call f own args') fun r => K (bind s o.dst r)
        | none => False
      | _ => False
    | .builtin .len => match evs s c.args.toList, c.argTypes.toList with
      | [x], [t] => opLen X G t s x fun v => K (s.put o.dst v)
      | _, _ => False
    | .builtin .append => match evs s c.args.toList, c.argTypes.toList with
      | [x, y], [t, t'] => if t = t' then opAppend X G t s x y o.dst K else False
      | _, _ => False
    | .builtin .max => match evs s c.args.toList with
      | [.int k a, .int k' b] => if k = k' then X (.minmax true k a b) fun v => K (s.put o.dst v) else False
      | [.int k a, .int k' b, .int k2 c] => if k = k' then if k = k2 then X (.minmax true k a b) fun r => match r with
          | .int _ r => X (.minmax true k r c) fun v => K (s.put o.dst v)
          | _ => False
        else False else False
      | _ => False
    | .builtin .min => match evs s c.args.toList with
      | [.int k a, .int k' b] => if k = k' then X (.minmax false k a b) fun v => K (s.put o.dst v) else False
      | [.int k a, .int k' b, .int k2 c] => if k = k' then if k = k2 then X (.minmax false k a b) fun r => match r with
          | .int _ r => X (.minmax false k r c) fun v => K (s.put o.dst v)
          | _ => False
        else False else False
      | _ => False
    | _ => False
  | _ => False

/-- An own row that becomes a row within a row. -/
def toNest (v : PV) (s : St) : Option (PV × St) :=
  match v with
  | .osl id ver => match s.H.get id with
    | (v', .row e sz es) => if v' = ver then some (.fr e sz es, ⟨s.T, s.H.put id (ver, .dead)⟩) else none
    | _ => none
  | v => if v.pure then some (v, s) else none
def toNests : List PV → St → Option (List PV × St)
  | [], s => some ([], s)
  | v :: r, s => match toNest v s with
    | some (v', s') => match toNests r s' with
      | some (r', s'') => some (v' :: r', s'')
      | none => none
    | none => none
/-- The elements of a list that is written out, one behind the other. -/
def rowsN (sz : Nat) : Nat → List (Nat × PV) → St → Option (List (List PV) × St)
  | _, [], s => some ([], s)
  | k, (i, v) :: r, s => if i = k then match toNests v.cells s with
      | some (c, s') => if c.length = sz then match rowsN sz (k + 1) r s' with
          | some (es, s'') => some (c :: es, s'')
          | none => none
        else none
      | none => none
    else none

/-- A tree is made in slot d. -/
def bindT (s : St) (d e sz : Nat) (es : List (List PV)) : St :=
  St.put ⟨s.T, s.H.new (8 * d) (.tree e sz es)⟩ (some d) (.osl (8 * d) ((s.H.get (8 * d)).1 + 1))

/-- The elements of a tree, wild or not. -/
def wildB : Body → Option (Nat × Nat × List (List PV))
  | .tree e sz es => some (e, sz, es)
  | .wild e sz es => some (e, sz, es)
  | _ => none
def treeAt (s : St) (id ver : Nat) : Option (Nat × Nat × List (List PV)) := if (s.H.get id).1 = ver then wildB (s.H.get id).2 else none

def treeRefs (id ver sz i : Nat) : Nat → List PV → List PV
  | _, [] => []
  | q, .fr _ _ _ :: r => .bsl id ver sz i q :: treeRefs id ver sz i (q + 1) r
  | q, c :: r => c :: treeRefs id ver sz i (q + 1) r

def loadT (t : Nat) (s : St) (id ver sz i off : Nat) (K : PV → Prop) : Prop :=
  match treeAt s id ver with
  | some (_, sz', es) => match G t with
    | some ti => if sz = sz' then X (.oload es i off ti.size) fun r => match r with
        | .agg cs => aggOr ti.isAgg ti.size (treeRefs id ver sz i off cs) K
        | _ => False
      else False
    | none => False
  | none => False

/-- A list that is written out, in a region that draws: own rows in it become rows that are only read. -/
def isNilP : PV → Bool
  | .nil => true
  | _ => false
def hasNil (t : Nat) : Bool :=
  match sliceOf G t with
  | some (_, te) => te.zero.any isNilP
  | none => false
def buildN (t n : Nat) (s : St) (parts : List (Nat × PV)) (dst : Option Nat) (K : St → Prop) : Prop :=
  match dst with
  | some d => match sliceOf G t with
    | some (e, te) => if te.size = 0 then False else if n * te.size ≤ 100000 then
        match fillN te.size parts (List.replicate n te.zero) s with
        | some (es, s') => K (bind s' (some d) (.fr e te.size es))
        | none => False
      else False
    | none => False
  | none => False

/-- The row that stands in a cell of a tree. -/
def inner (s : St) (id ver sz i off : Nat) (K : Nat → List (List PV) → Nat → Nat → List (List PV) → Prop) : Prop :=
  match s.H.get id with
  | (v', .tree e sz' es) => if v' = ver then if sz = sz' then X (.oload es i off 1) fun r => match r with
      | .agg [.fr e' z es'] => K e es e' z es'
      | _ => False
    else False else False
  | _ => False

def loadB (t : Nat) (s : St) (id ver sz i off nsz j p : Nat) (K : PV → Prop) : Prop :=
  match G t with
  | some ti => inner X s id ver sz i off fun _ _ _ z es' => if z = nsz then X (.oload es' j p ti.size) fun r => match r with
      | .agg cs => aggOr ti.isAgg ti.size cs K
      | _ => False
    else False
  | none => False

def storeB (t : Nat) (s : St) (id ver sz i off nsz j p : Nat) (v : PV) (K : St → Prop) : Prop :=
  match G t with
  | some ti => if v.cells.length = ti.size then if v.cells.all PV.pure then inner X s id ver sz i off fun e es e' z es' => if z = nsz then X (.ostore es' j p v.cells) fun r => match r with
      | .isl _ es2 => X (.ostore es i off [.fr e' z es2]) fun r => match r with
        | .isl _ es3 => K ⟨s.T, s.H.put id (ver, .tree e sz es3)⟩
        | _ => False
      | _ => False
    else False else False else False
  | none => False

def indexT (t : Nat) (s : St) (id ver : Nat) (i : PV) (K : PV → Prop) : Prop :=
  match treeAt s id ver with
  | some (_, sz, es) => match sliceOf G t with
    | some (_, te) => match i with
      | .int _ n => if sz = te.size then X (.oindex es.length n) fun _ => K (.optr id ver sz n.toNat 0) else False
      | _ => False
    | none => False
  | none => False

def indexB (t : Nat) (s : St) (id ver sz i off : Nat) (j : PV) (K : PV → Prop) : Prop :=
  match sliceOf G t with
  | some (_, te) => match j with
    | .int _ n => inner X s id ver sz i off fun _ _ _ z es' => if z = te.size then X (.oindex es'.length n) fun _ => K (.bptr id ver sz i off z n.toNat 0) else False
    | _ => False
  | none => False

def buildT (t n : Nat) (s : St) (parts : List (Nat × PV)) (dst : Option Nat) (K : St → Prop) : Prop :=
  match dst with
  | some d => match sliceOf G t with
    | some (e, te) => if te.size = 0 then False else if n * te.size ≤ 100000 then if parts.length = n then match rowsN te.size 0 parts s with
        | some (es, s') => K (bindT s' d e te.size es)
        | none => False
      else False else False
    | none => False
  | none => False

def lenT (t : Nat) (s : St) (x : PV) (K : PV → Prop) : Prop :=
  match x with
  | .osl id ver => match s.H.get id with
    | (v', .tree _ _ es) => if isSlice (G t) then if v' = ver then X (.len es.length) K else False else False
    | _ => opLen X G t s x K
  | .bsl id ver sz i off => if isSlice (G t) then inner X s id ver sz i off fun _ _ _ _ es' => X (.len es'.length) K else False
  | x => opLen X G t s x K

/-- A list that is written out goes behind a tree. -/
def appendT (t : Nat) (s : St) (x : PV) (id2 ver2 e2 z2 : Nat) (more : List (List PV)) (dst : Option Nat) (K : St → Prop) : Prop :=
  match dst with
  | some d => match sliceOf G t with
    | some (e, te) => if te.size = 0 then False else if e2 = e then if z2 = te.size then match x with
        | .nil => X (.append [] more te.bytes) fun r => match r with
          | .isl _ es' => K (bindT ⟨s.T, s.H.put id2 (ver2, .dead)⟩ d e te.size es')
          | _ => False
        | .osl id ver => if id = id2 then False else match s.H.get id with
          | (v', .tree e' z es) => if v' = ver then if e' = e then if z = te.size then X (.append es more te.bytes) fun r => match r with
              | .isl _ es' => K (bindT ⟨s.T, (s.H.put id (ver, .dead)).put id2 (ver2, .dead)⟩ d e te.size es')
              | _ => False
            else False else False else False
          | _ => False
        | _ => False
      else False else False
    | none => False
  | none => False

def opLoadT (t : Nat) (s : St) (a : PV) (K : PV → Prop) : Prop :=
  match a with
  | .optr id ver sz i off => match s.H.get id with
    | (_, .tree _ _ _) => loadT X G t s id ver sz i off K
    | (_, .wild _ _ _) => loadT X G t s id ver sz i off K
    | _ => opLoad X G t s a K
  | .bptr id ver sz i off nsz j p => loadB X G t s id ver sz i off nsz j p K
  | a => opLoad X G t s a K
/-- A value in a wild tree's cell: own rows stay what they are, the cell refers to them. -/
def storeW (t : Nat) (s : St) (id ver sz i off : Nat) (v : PV) (K : St → Prop) : Prop :=
  match G t with
  | some ti => if v.cells.length = ti.size then if v.cells.all s.live then match s.H.get id with
    | (v', .wild e sz' es) => if v' = ver then if sz = sz' then X (.ostore es i off v.cells) fun r => match r with
        | .isl _ es' => K ⟨s.T, s.H.put id (ver, .wild e sz es')⟩
        | _ => False
      else False else False
    | _ => False
    else False else False
  | none => False
def opStoreT (t : Nat) (s : St) (a v : PV) (K : St → Prop) : Prop :=
  match a with
  | .bptr id ver sz i off nsz j p => storeB X G t s id ver sz i off nsz j p v K
  | .optr id ver sz i off => match s.H.get id with
    | (_, .wild _ _ _) => storeW X G t s id ver sz i off v K
    | _ => opStore X G t s (.optr id ver sz i off) v K
  | a => opStore X G t s a v K
/-- A reference to a tree that has got a new version. -/
def bump (id ver : Nat) : PV → PV
  | .osl i v => if i = id then if v = ver then .osl i (v + 1) else .osl i v else .osl i v
  | .optr i v sz j off => if i = id then if v = ver then .optr i (v + 1) sz j off else .optr i v sz j off else .optr i v sz j off
  | x => x
/-- A row (or a value that is only read) in a tree's cell: the row is taken over. -/
def storeN (t : Nat) (s : St) (id ver sz i off : Nat) (v : PV) (K : St → Prop) : Prop :=
  match G t with
  | some ti => if ti.size = 1 then if id = 1 then False else match treeAt s id ver with
    | some (e, sz', es) => if sz = sz' then match v with
      | .osl id2 ver2 => if id2 = id then False else match s.H.get id2 with
        | (v2, .row e2 z2 rs) => if v2 = ver2 then X (.ostore es i off [.fr e2 z2 rs]) fun r => match r with
            | .isl _ es' => X (.clean es') fun _ => K ⟨s.T.map (bump id ver), (s.H.put id2 (ver2, .dead)).put id (ver + 1, .tree e sz es')⟩
            | _ => False
          else False
        | _ => False
      | v => if v.pure then X (.ostore es i off [v]) fun r => match r with
          | .isl _ es' => X (.clean es') fun _ => K ⟨s.T.map (bump id ver), s.H.put id (ver + 1, .tree e sz es')⟩
          | _ => False
        else False
      else False
    | none => False
    else False
  | none => False
def opStoreU (t : Nat) (s : St) (a v : PV) (K : St → Prop) : Prop :=
  match a with
  | .optr id ver sz i off => match s.H.get id with
    | (_, .wild _ _ _) => storeN X G t s id ver sz i off v K
    | (_, .tree _ _ _) => storeN X G t s id ver sz i off v K
    | _ => opStoreT X G t s (.optr id ver sz i off) v K
  | a => opStoreT X G t s a v K
/-- The row in a tree's cell is appended to: it leaves the tree. -/
def appendB (t : Nat) (s : St) (id ver sz i off : Nat) (y : PV) (dst : Option Nat) (K : St → Prop) : Prop :=
  match dst with
  | none => False
  | some d => if id = 8 * d then False else match sliceOf G t with
    | some (e, te) => if te.size = 0 then False else match moreOf s e te.size y with
      | some more => inner X s id ver sz i off fun e0 es e' z es' => if e' = e then if z = te.size then X (.append es' more te.bytes) fun r => match r with
          | .isl _ es2 => X (.ostore es i off [.undef]) fun r => match r with
            | .isl _ es3 => K (St.put ⟨s.T, ((s.H.put id (ver, .wild e0 sz es3)).put (8 * d) ((s.H.get (8 * d)).1 + 1, .row e z es')).put (8 * d) ((s.H.get (8 * d)).1 + 2, .row e z es2)⟩ (some d) (.osl (8 * d) ((s.H.get (8 * d)).1 + 2)))
            | _ => False
          | _ => False
        else False else False
      | none => False
    | none => False
/-- A new tree: its rows have no elements. -/
def makeT (t : Nat) (s : St) (l c : PV) (dst : Option Nat) (K : St → Prop) : Prop :=
  match dst with
  | some d => match sliceOf G t with
    | some (e, te) => match te.desc, te.zero with
      | .slice e', [.nil] => match G e' with
        | some t' => match l, c with
          | .int _ n, .int _ m => X (.make te.bytes [.fr e' t'.size []] n m) fun r => match r with
            | .isl _ es => K (bindT s d e te.size es)
            | _ => False
          | _, _ => False
        | none => False
      | _, _ => False
    | none => False
  | none => False
def opIndexT (t : Nat) (s : St) (x i : PV) (K : PV → Prop) : Prop :=
  match x with
  | .osl id ver => match s.H.get id with
    | (_, .tree _ _ _) => indexT X G t s id ver i K
    | (_, .wild _ _ _) => indexT X G t s id ver i K
    | _ => opIndexAddr X G t s x i K
  | .bsl id ver sz i' off => indexB X G t s id ver sz i' off i K
  | x => opIndexAddr X G t s x i K

/-- What a function literal captures: a variable's box is only read from then on. -/
def capOf (v : PV) (s : St) : Option (PV × St) :=
  if v.cells.all PV.pure then some (v, s) else match v with
  | .optr id ver _ i off => match s.H.get id with
    | (v', .box cs) => if v' = ver then if i = 0 then if off = 0 then if id = 1 then none else if cs.all PV.pure then some (.iptr cs, ⟨s.T, s.H.put id (ver, .dead)⟩) else none else none else none else none
    | _ => none
  | _ => none
def capsOf : List PV → St → Option (List PV × St)
  | [], s => some ([], s)
  | v :: r, s => match capOf v s with
    | some (v', s') => match capsOf r s' with
      | some (r', s'') => some (v' :: r', s'')
      | none => none
    | none => none

/-- A string's iterator is made. -/
def opRange (t : Nat) (s : St) (x : PV) (dst : Option Nat) (K : St → Prop) : Prop :=
  match x with
  | .str b => if isString (G t) then match dst with
      | some d => K (St.put ⟨s.T, s.H.new (8 * d) (.iter b 0)⟩ (some d) (.optr (8 * d) ((s.H.get (8 * d)).1 + 1) 0 0 0))
      | none => False
    else False
  | _ => False
/-- It goes on by one byte (bytes below 128 only). -/
def opNext (s : St) (x : PV) (dst : Option Nat) (K : St → Prop) : Prop :=
  match x with
  | .optr id ver _ i off => match s.H.get id with
    | (v', .iter b pos) => if v' = ver then if i = 0 then if off = 0 then X (.snext b pos) fun r => match r with
        | .tup [.bool false] => K (s.put dst (.tup [.bool false]))
        | r => K (St.put ⟨s.T, s.H.put id (ver, .iter b (pos + 1))⟩ dst r)
      else False else False else False
    | _ => False
  | _ => False

/-- A key goes into a map, with the value 'true'. -/
def opMput (t : Nat) (s : St) (x k v : PV) (K : St → Prop) : Prop :=
  match x, k, v with
  | .osl id ver, .int .i64 n, .bool true => match s.H.get id with
    | (v', .map es) => if v' = ver then X (.mput t es n) fun r => match r with
        | .isl _ es' => K ⟨s.T, s.H.put id (ver, .map es')⟩
        | _ => False
      else False
    | _ => False
  | _, _, _ => False
def opMget (t : Nat) (s : St) (x k : PV) (K : PV → Prop) : Prop :=
  match x, k with
  | .osl id ver, .int .i64 n => match s.H.get id with
    | (v', .map es) => if v' = ver then X (.mget t es n) K else False
    | _ => False
  | _, _ => False

/-- A part of an own row of a type whose slices are trees: it is looked at as such (append(x[:i], x[j:]...)). -/
def cutV (t : Nat) (s : St) (id ver : Nat) (l r : Option (Option Int)) (K : PV → Prop) : Prop :=
  match l with
  | none => False
  | some l => match r with
    | none => False
    | some r => match sliceOf G t with
      | none => False
      | some (_, te) => match s.H.get id with
        | (v', .row _ sz es) => if v' = ver then if sz = te.size then X (.islice es (l.getD 0) (r.getD es.length)) fun _ => K (.vsl id ver sz (l.getD 0).toNat (r.getD es.length).toNat) else False else False
        | _ => False
def joinV (t : Nat) (s : St) (id ver z0 lo hi lo2 hi2 : Nat) (dst : Option Nat) (K : St → Prop) : Prop :=
  match dst with
  | none => False
  | some d => match sliceOf G t with
    | none => False
    | some (e, te) => if te.size = 0 then False else if lo = 0 then if z0 = te.size then match s.H.get id with
      | (v', .row e' z es) => if v' = ver then if e' = e then if z = te.size then X (.append (es.take hi) ((es.take hi2).drop lo2) te.bytes) fun r => match r with
            | .isl _ es' => K (bind ⟨s.T, s.H.put id (ver + 1, .dead)⟩ (some d) (.fr e te.size es'))
            | _ => False
          else False else False else False
      | _ => False
    else False else False

/-- Operations outside of regions that draw: trees, too. -/
def opT (o : Oper) (s : St) (K : St → Prop) : Prop :=
  match o.op with
  | .load t a => opLoadT X G t s (s.ev a) fun v => K (s.put o.dst v)
  | .store t a v => opStoreU X G t s (s.ev a) (s.ev v) fun s' => K (s'.put o.dst .skip)
  | .indexAddr t x i => opIndexT X G t s (s.ev x) (s.ev i) fun v => K (s.put o.dst v)
  | .range t x => opRange G t s (s.ev x) o.dst K
  | .slice t x lo hi none => match s.ev x with
    | .osl id ver => match G t with
      | some ti => if ti.nest then cutV X G t s id ver (optInt s lo) (optInt s hi) (fun v => K (s.put o.dst v)) else op X G o s K
      | none => op X G o s K
    | _ => op X G o s K
  | .makeFunc (.func f) first captured => if first.size = 0 then match capsOf (evs s captured.toList) s with
      | some (cs, s') => K (s'.put o.dst (.fn f cs))
      | none => False
    else False
  | .next x true => opNext X s (s.ev x) o.dst K
  | .makeMap _ none => match o.dst with
    | some d => K (St.put ⟨s.T, s.H.new (8 * d) (.map [])⟩ (some d) (.osl (8 * d) ((s.H.get (8 * d)).1 + 1)))
    | none => False
  | .insert t x k v | .mapUpdate t x k v => opMput X t s (s.ev x) (s.ev k) (s.ev v) fun s' => K (s'.put o.dst .skip)
  | .lookup t x k false => opMget X t s (s.ev x) (s.ev k) fun v => K (s.put o.dst v)
  | .buildSlice t n parts => match G t with
    | some ti => if ti.nest then buildT G t n s (parts.toList.map fun p => (p.1, s.ev p.2)) o.dst K else op X G o s K
    | none => op X G o s K
  | .makeSlice t l c => match G t with
    | some ti => if ti.nest then makeT X G t s (s.ev l) (s.ev c) o.dst K else op X G o s K
    | none => op X G o s K
  | .call c => match c.callee with
    | .builtin .len => match evs s c.args.toList, c.argTypes.toList with
      | [x], [t] => lenT X G t s x fun v => K (s.put o.dst v)
      | _, _ => op X G o s K
    | .builtin .append => match evs s c.args.toList, c.argTypes.toList with
      | [.vsl id ver z lo hi, .vsl id2 ver2 z2 lo2 hi2], [t, t'] => if t = t' then if id = id2 then if ver = ver2 then if z = z2 then joinV X G t s id ver z lo hi lo2 hi2 o.dst K else False else False else False else False
      | [x, .osl id2 ver2], [t, t'] => match s.H.get id2 with
        | (v2, .tree e2 z2 more) => if t = t' then if v2 = ver2 then appendT X G t s x id2 ver2 e2 z2 more o.dst K else False else False
        | _ => match x with
          | .bsl id ver sz i off => if t = t' then appendB X G t s id ver sz i off (.osl id2 ver2) o.dst K else False
          | _ => op X G o s K
      | [.bsl id ver sz i off, y], [t, t'] => if t = t' then appendB X G t s id ver sz i off y o.dst K else False
      | _, _ => op X G o s K
    | _ => op X G o s K
  | _ => op X G o s K

def ops (full : List Oper) : List Oper → St → (St → Prop) → Prop
  | [], s, K => K s
  | o :: r, s, K => match o.guard with
    | none => opT X G o s fun s' => ops full r s' K
    | some (j, want) => match full[j]? with
      | some oj => match oj.dst with
        | some t => match s.T.getD t .undef with
          | .bool b => if b = want then opT X G o s fun s' => ops full r s' K else ops full r (s.put o.dst .skip) K
          | .skip => ops full r (s.put o.dst .skip) K
          | _ => False
        | none => False
      | none => False

def code : Code → (Ex → St → Prop) → St → Prop
  | .skip, Q, s => Q .normal s
  | .region id os draw, Q, s => if draw then L (.region id os true) Q s else ops X G os.toList os.toList s (Q .normal)
  | .seq a b, Q, s => code a (fun e s' => match e with
      | .normal => code b Q s'
      | .exit j => Q (.exit j) s'
      | .ret => Q .ret s') s
  | .cond c a b, Q, s => match s.ev c with
    | .bool t => if t then code a Q s else code b Q s
    | _ => False
  | .block id b, Q, s => code b (fun e s' => match e with
      | .normal => Q .normal s'
      | .exit j => if j = id then Q .normal s' else Q (.exit j) s'
      | .ret => Q .ret s') s
  | .loop b, Q, s => L (.loop b) Q s
  | .exit id, Q, s => Q (.exit id) s
  | .ret, Q, s => Q .ret s
  | _, _, _ => False
end

def resVar (G : Env) (s : St) : ResultVar → Option PV
  | .tmp t => some (s.T.getD t .undef)
  | .cell a t => match s.T.getD a .undef with
    | .optr id ver _ i off => match s.H.get id with
      | (v', .box cs) => match G t with
        | some ti => if v' = ver then if i = 0 then if ti.isAgg then if ti.size ≤ (cs.drop off).length then some (.agg ((cs.drop off).take ti.size)) else none else (cs.drop off).head? else none else none
        | none => none
      | _ => none
    | _ => none

def resVars (G : Env) (s : St) : List ResultVar → Option (List PV)
  | [] => some []
  | r :: rs => match resVar G s r with
    | some v => match resVars G s rs with
      | some vs => some (v :: vs)
      | none => none
    | none => none

/-- Structs that are handed back: their own slices are given up (unless 'ow'); trees become slices that are only read. -/
noncomputable def resPure (ow : Bool) : List PV → St → Option (List PV × St)
  | [], s => some ([], s)
  | .agg cs :: r, s => if ow then match resPure ow r s with
      | some (r', s') => some (.agg cs :: r', s')
      | none => none
    else match toPures cs s with
    | some (cs', s') => match resPure ow r s' with
      | some (r', s'') => some (.agg cs' :: r', s'')
      | none => none
    | none => none
  | .osl id ver :: r, s => match s.H.get id with
    | (v', .tree _ sz es) => if v' = ver then match resPure ow r ⟨s.T, s.H.put id (ver, .dead)⟩ with
        | some (r', s') => some (.isl sz (coolL es) :: r', s')
        | none => none
      else none
    | _ => match resPure ow r s with
      | some (r', s') => some (.osl id ver :: r', s')
      | none => none
  | v :: r, s => match resPure ow r s with
    | some (r', s') => some (v :: r', s')
    | none => none

/-- The cells of a struct that is handed back. -/
def resCells : List PV → St → Option (List PV × St)
  | [], s => some ([], s)
  | .osl id ver :: r, s => match s.H.get id with
    | (v', .row e sz es) => if v' = ver then match resCells r ⟨s.T, s.H.put id (ver, .dead)⟩ with
        | some (r', s') => some (.fr e sz es :: r', s')
        | none => none
      else none
    | _ => none
  | v :: r, s => if v.pure then match resCells r s with
      | some (r', s') => some (v :: r', s')
      | none => none
    else none

/-- Own slices that are handed back. -/
def resOwn : List PV → St → Option (List PV × St)
  | [], s => some ([], s)
  | .osl id ver :: r, s => match s.H.get id with
    | (v', .row e sz es) => if v' = ver then match resOwn r ⟨s.T, s.H.put id (ver, .dead)⟩ with
        | some (r', s') => some (.fr e sz es :: r', s')
        | none => none
      else none
    | _ => none
  | .agg cs :: r, s => if cs.all PV.pure then match resOwn r s with
      | some (r', s') => some (.agg cs :: r', s')
      | none => none
    else match resCells cs s with
      | some (cs', s') => match resOwn r s' with
        | some (r', s'') => some (.agg cs' :: r', s'')
        | none => none
      | none => none
  | v :: r, s => if v.pure then match resOwn r s with
      | some (r', s') => some (v :: r', s')
      | none => none
    else none

noncomputable def resAll (ow : Bool) (G : Env) (rs : List ResultVar) (s : St) : Option (List PV × St) :=
  match resVars G s rs with
  | some vs => match resPure ow vs s with
    | some (vs', s') => resOwn vs' s'
    | none => none
  | none => none

def oneRes : List PV → PV
  | [v] => v
  | vs => .tup vs

/-- What a function hands back at the end of its body. -/
noncomputable def postW (ow : Bool) (G : Env) (rs : List ResultVar) (Q : PV → Prop) (s : St) : Prop :=
  match resAll ow G rs s with
  | some (vs, _) => Q (oneRes vs)
  | none => False
noncomputable def post (G : Env) (rs : List ResultVar) (Q : PV → Prop) (s : St) : Prop := postW false G rs Q s

/-- The same of a method that writes its receiver: the receiver's box lies under key 1. -/
noncomputable def postM (G : Env) (rs : List ResultVar) (Q : PV → List PV → Prop) (s : St) : Prop :=
  match s.H.get 1 with
  | (0, .box cs) => match toPures cs s with
    | some (cs', s') => match resAll false G rs s' with
      | some (vs, _) => Q (oneRes vs) cs'
      | none => False
    | none => False
  | _ => False

def start (n : Nat) (args : List PV) (h : Heap) : St := ⟨args ++ List.replicate (n - args.length) .skip, h⟩

/-! ### Loop heads: what is kept, under which keys -/
/-- What stands in a slot (cell = 0), or in cell j of the box that a slot points to (cell = j + 1), is kept under 'key'. -/
structure Hold where
  slot : Nat
  key : Nat
  e : Nat
  sz : Nat
  cell : Nat

def refOf : PV → Option (Nat × Nat)
  | .osl id ver => some (id, ver)
  | .optr id ver _ 0 0 => some (id, ver)
  | _ => none

def boxCell (s : St) (j : Nat) : PV → PV
  | .optr id ver _ 0 0 => match s.H.get id with
    | (v', .box cs) => if v' = ver then cs.getD j .undef else .undef
    | _ => .undef
  | _ => .undef

def holdVal (s : St) (k : Hold) : PV :=
  match k.cell with
  | 0 => s.T.getD k.slot .undef
  | j + 1 => boxCell s j (s.T.getD k.slot .undef)

def keyOf (s : St) : List Hold → Nat → Nat → Option Nat
  | [], _, _ => none
  | k :: r, id, ver => match refOf (holdVal s k) with
    | some (i, v) => if i = id then if v = ver then some k.key else keyOf s r id ver else keyOf s r id ver
    | none => keyOf s r id ver

def renCap (s : St) (own : List Hold) : PV → PV
  | .optr id ver sz i off => match keyOf s own id ver with
    | some k => .optr k 0 sz i off
    | none => .undef
  | v => if v.pure then v else .undef
def ren1 (s : St) (own : List Hold) : PV → PV
  | .osl id ver => match keyOf s own id ver with
    | some k => .osl k 0
    | none => .undef
  | .optr id ver sz i off => match keyOf s own id ver with
    | some k => .optr k 0 sz i off
    | none => .undef
  | .skip => .skip
  | .isv v sz es => .isv v sz es
  | .fno f caps => .fno f (caps.map (renCap s own))
  | v => if v.pure then v else .undef

def ren (s : St) (own : List Hold) : PV → PV
  | .agg cs => .agg (cs.map (ren1 s own))
  | v => ren1 s own v

def holdAt (i cell : Nat) : List Hold → Option Nat
  | [] => none
  | k :: r => if k.slot = i then if k.cell = cell then some k.key else holdAt i cell r else holdAt i cell r

def normAt (s : St) (keep : List Nat) (own : List Hold) (i : Nat) (v : PV) : PV :=
  match holdAt i 0 own with
  | some key => match v with
    | .nil => .osl key 0
    | v => ren s own v
  | none => if memB i keep then ren s own v else .undef

def mapAt (f : Nat → PV → PV) : Nat → List PV → List PV
  | _, [] => []
  | i, v :: r => f i v :: mapAt f (i + 1) r

/-- A box's cell: a nil slice that is held becomes an own row. -/
def nestAt (s : St) (own : List Hold) (slot j : Nat) (v : PV) : PV :=
  match holdAt slot (j + 1) own with
  | some key => match v with
    | .nil => .osl key 0
    | v => ren1 s own v
  | none => ren1 s own v

def holdBody (s : St) (own : List Hold) (k : Hold) : Body :=
  match holdVal s k with
  | .nil => if k.e < 1000000 then .row k.e k.sz [] else .tree (k.e - 1000000) k.sz []
  | v => match refOf v with
    | some (id, _) => match s.H.get id with
      | (_, .box cs) => .box (if k.cell = 0 then mapAt (nestAt s own k.slot) 0 cs else cs.map (ren1 s own))
      | (_, b) => b
    | none => .dead

def norm (keep : List Nat) (own : List Hold) (s : St) : St :=
  ⟨mapAt (normAt s keep own) 0 s.T, own.map fun k => (k.key, 0, holdBody s own k)⟩

def holdOk (s : St) (k : Hold) : Bool :=
  match holdVal s k with
  | .nil => true
  | .osl id ver => match s.H.get id with
    | (v', .row _ _ _) => if v' = ver then true else false
    | (v', .tree _ _ _) => if v' = ver then true else false
    | (v', .map _) => if v' = ver then true else false
    | _ => false
  | .optr id ver _ 0 0 => match s.H.get id with
    | (v', .box _) => if v' = ver then true else false
    | (v', .iter _ _) => if v' = ver then true else false
    | _ => false
  | _ => false

def holdApart (s : St) (k : Hold) : List Hold → Bool
  | [] => true
  | j :: r => if k.key = j.key then false else match refOf (holdVal s k), refOf (holdVal s j) with
    | some (i, _), some (i', _) => if i = i' then false else holdApart s k r
    | _, _ => holdApart s k r

def normOk (s : St) : List Hold → Bool
  | [] => true
  | k :: r => holdOk s k && holdApart s k r && normOk s r

end Go.Proofs.Ytngefbdedbbplaa.Ai
