/- The rule for regions that draw their order. -/
import Derived.Test.YtngefbdedbbplaaAiDraw
set_option linter.unusedSectionVars false
namespace Go.Proofs.Ytngefbdedbbplaa.Ai
open Go Go.RowKit
set_option linter.unusedVariables false
set_option linter.unusedSimpArgs false

section
variable {P : Program} {G : Env}

/-- Operations that are determined by what they read (1), calls of functions that only read (2), all others (0). -/
def kindOf (G : Env) (o : Oper) : Nat :=
  match o.op with
  | .move _ | .assign _ | .pick _ _ _ | .load _ _ | .nilCheck _ | .binOp _ _ _ _ _ | .unOp _ _ _ | .convert _ _ _ | .fieldAddr _ _ _ | .field _ _ _ | .indexAddr _ _ _ | .index _ _ _ | .extract _ _ => 1
  | .slice _ _ _ _ none => 1
  | .buildSlice _ _ _ | .makeSlice _ _ _ | .build _ _ | .store _ _ _ | .alloc _ => 3
  | .call c => match c.callee with
    | .builtin .len | .builtin .max | .builtin .min => 1
    | .value (.func _) => match c.argTypes.toList with
      | t :: _ => match G t with
        | some _ => 2
        | none => 4
      | [] => 2
    | .builtin .append => 3
    | _ => 0
  | _ => 0

/-! ### The objects that an operation looks at, and those that it writes -/
def refs1 : PV → List Nat
  | .osl id _ => [id]
  | .optr id _ _ _ _ => [id]
  | .bsl id _ _ _ _ => [id]
  | .vsl id _ _ _ _ => [id]
  | .bptr id _ _ _ _ _ _ _ => [id]
  | _ => []
def refsV : PV → List Nat
  | .agg cs => cs.flatMap refs1
  | v => refs1 v
def looks : Op → Bool
  | .move _ | .assign _ => false
  | _ => true
def refsO (o : Oper) (s : St) : List Nat := if looks o.op then o.op.operands.toList.flatMap fun x => refsV (s.ev x) else []
/-- The key of the object that an operation makes. -/
def keyO (G : Env) (o : Oper) : List Nat :=
  match o.op, o.dst with
  | .buildSlice _ _ _, some d => [8 * d]
  | .makeSlice _ _ _, some d => [8 * d]
  | .alloc _, some d => [8 * d]
  | .call c, some d => match c.callee with
    | .builtin .append => [8 * d]
    | .value (.func _) => match G o.type with
      | some ti => if ti.isAgg then [8 * d + 1000000, 8 * d + 2000000] else [8 * d]
      | none => [8 * d, 8 * d + 2, 8 * d + 3, 8 * d + 1000002, 8 * d + 2000002]
    | _ => []
  | _, _ => []
def fpO (G : Env) (o : Oper) (s : St) : List Nat := refsO o s ++ keyO G o
/-- Slices of this type are made as trees. -/
def nestB (G : Env) (t : Nat) : Bool :=
  match G t with
  | some ti => ti.nest
  | none => false
def nestL (G : Env) : List Nat → Bool
  | t :: _ => nestB G t
  | [] => false
def firstRefs (s : St) : List Operand → List Nat
  | x :: _ => refsV (s.ev x)
  | [] => []
def wrO (G : Env) (o : Oper) (s : St) : List Nat :=
  keyO G o ++ match o.op with
    | .store _ x _ => refsV (s.ev x)
    | .buildSlice t _ parts => if nestB G t || hasNil G t then parts.toList.flatMap (fun p => refsV (s.ev p.2)) else []
    | .call c => match c.callee with
      | .builtin .append => if nestL G c.argTypes.toList then c.args.toList.flatMap (fun x => refsV (s.ev x)) else firstRefs s c.args.toList
      | .value (.func _) => if kindOf G o = 4 then c.args.toList.flatMap (fun x => refsV (s.ev x)) else []
      | _ => []
    | _ => []

def notOwn : PV → Bool
  | .osl _ _ => false
  | _ => true

/-- Whether a value points into a box. -/
def boxRef (s : St) : PV → Bool
  | .optr id _ _ _ _ => match s.H.get id with
    | (_, .box _) => true
    | (_, .wild _ _ _) => true
    | _ => false
  | _ => false

def viewD (X : Req → (PV → Prop) → Prop) (G : Env) (t : Nat) (s : St) (x : PV) (id2 ver2 z2 lo2 hi2 : Nat) (dst : Option Nat) (K : St → Prop) : Prop :=
  match x with
  | .vsl id ver z lo hi => if id = id2 then if ver = ver2 then if z = z2 then joinV X G t s id ver z lo hi lo2 hi2 dst K else False else False else False
  | _ => False
def opAppD (X : Req → (PV → Prop) → Prop) (G : Env) (t : Nat) (s : St) (x y : PV) (dst : Option Nat) (K : St → Prop) : Prop :=
  match y with
  | .vsl id2 ver2 z2 lo2 hi2 => viewD X G t s x id2 ver2 z2 lo2 hi2 dst K
  | .osl id2 ver2 => match s.H.get id2 with
    | (v2, .tree e2 z2 more) => if v2 = ver2 then appendT X G t s x id2 ver2 e2 z2 more dst K else False
    | _ => opAppend X G t s x y dst K
  | _ => opAppend X G t s x y dst K
def sliceD (X : Req → (PV → Prop) → Prop) (G : Env) (t : Nat) (s : St) (p : PV) (l r : Option (Option Int)) (mx : Option Operand) (K : PV → Prop) : Prop :=
  match p with
  | .osl id ver => match mx with
    | none => if nestB G t then cutV X G t s id ver l r K else False
    | some _ => False
  | _ => False
/-- An operation in a region that draws its order: it gives up no own slice but those of 'append' and of lists that are written out. -/
def opD (X : Req → (PV → Prop) → Prop) (G : Env) (o : Oper) (s : St) (K : St → Prop) : Prop :=
  match o.op with
  | .load _ _ => opT X G o s K
  | .indexAddr _ _ _ => opT X G o s K
  | .slice t x lo hi mx => if notOwn (s.ev x) then op X G o s K else sliceD X G t s (s.ev x) (optInt s lo) (optInt s hi) mx fun v => K (s.put o.dst v)
  | .store t x y => if ((s.ev y).cells.all PV.pure || boxRef s (s.ev x)) then opStoreT X G t s (s.ev x) (s.ev y) fun s' => K (s'.put o.dst .skip) else False
  | .buildSlice t n parts => if nestB G t then buildT G t n s (parts.toList.map fun p => (p.1, s.ev p.2)) o.dst K else if hasNil G t then buildN G t n s (parts.toList.map fun p => (p.1, s.ev p.2)) o.dst K else if parts.toList.all (fun p => (s.ev p.2).cells.all PV.pure) then op X G o s K else False
  | .call c => match c.callee with
    | .value (.func f) => if kindOf G o = 4 then opCallN X f s (evs s c.args.toList) (keyO G o) o.dst K else match evs s c.args.toList with
      | .optr _ _ _ _ _ :: _ => False
      | _ => opCallD X f s (evs s c.args.toList) (keyO G o) o.dst K
    | .builtin .append => match evs s c.args.toList, c.argTypes.toList with
      | [x, y], [t, t'] => if t = t' then if nestB G t then opAppD X G t s x y o.dst K else opAppend X G t s x y o.dst K else False
      | _, _ => False
    | _ => op X G o s K
  | _ => op X G o s K

theorem opCallD_op {P : Program} {f : FuncId} {s : St} {args : List PV} {ks : List Nat} {dst : Option Nat} {K : St → Prop} (hne : ∀ id ver sz i off r, args ≠ .optr id ver sz i off :: r) (h : opCallD (std true P) f s args ks dst K) : opCall (std true P) f s args dst K := by
  have mono : ∀ b qs, std true P (.call f b qs) (fun r => if subB (keysD dst r) ks then K (bind s dst r) else False) → std true P (.call f b qs) fun r => K (bind s dst r) := fun b qs ⟨Q, h1, h2, h3⟩ => ⟨Q, h1, h2, fun r hq => by
    have := h3 r hq
    simp only at this
    split at this
    · exact this
    · exact this.elim⟩
  unfold opCallD at h
  unfold opCall
  split
  · exact absurd rfl (hne _ _ _ _ _ _)
  · split at h
    case h_2 => exact h.elim
    rename_i own args' hl
    split at h
    · rename_i hb
      rw [if_pos hb]
      exact .inl (mono _ _ (h.resolve_right id))
    · rename_i hb
      rw [if_neg hb]
      exact mono _ _ h
theorem opD_op {P : Program} {G : Env} {o : Oper} {s : St} {K : St → Prop} (h : opD (std true P) G o s K) : op (std true P) G o s K ∨ opT (std true P) G o s K ∨ (∃ t x y, o.op = .store t x y ∧ opStoreT (std true P) G t s (s.ev x) (s.ev y) fun s' => K (s'.put o.dst .skip)) ∨ (∃ t n parts, o.op = .buildSlice t n parts ∧ buildN G t n s (parts.toList.map fun p => (p.1, s.ev p.2)) o.dst K) ∨ ∃ f args ts ks, o.op = .call { callee := .value (.func f), args := args, argTypes := ts } ∧ opCallN (std true P) f s (evs s args.toList) ks o.dst K := by
  unfold opD at h
  split at h
  · exact .inr (.inl h)
  · exact .inr (.inl h)
  · rename_i t x lo hi mx ho
    split at h
    · exact .inl h
    · unfold sliceD at h
      split at h
      · rename_i id ver hv
        split at h
        · split at h
          · rename_i hn
            refine .inr (.inl ?_)
            unfold opT
            simp only [ho, hv]
            unfold nestB at hn
            split at hn
            · rename_i ti hg
              simp only [hg, hn, if_true]
              exact h
            · cases hn
          · exact h.elim
        · exact h.elim
      · exact h.elim
  · rename_i t x y ho
    split at h
    · exact .inr (.inr (.inl ⟨t, x, y, ho, h⟩))
    · exact h.elim
  · rename_i t n parts ho
    split at h
    · rename_i hn
      refine .inr (.inl ?_)
      unfold opT
      simp only [ho]
      unfold nestB at hn
      split at hn
      · rename_i ti hg
        simp only [hg, hn, if_true]
        exact h
      · cases hn
    · split at h
      · exact .inr (.inr (.inr (.inl ⟨t, n, parts, ho, h⟩)))
      · split at h
        · exact .inl h
        · exact h.elim
  · rename_i c ho
    obtain ⟨callee, args, ts⟩ := c
    split at h
    · rename_i f hc
      simp only at hc
      subst hc
      split at h
      · exact .inr (.inr (.inr (.inr ⟨f, args, ts, _, ho, h⟩)))
      · split at h
        · exact h.elim
        · rename_i hne
          refine .inl ?_
          unfold op
          simp only [ho]
          exact opCallD_op (fun _ _ _ _ _ _ => hne _ _ _ _ _ _) h
    · rename_i hc
      simp only at hc
      subst hc
      split at h
      case h_2 => exact h.elim
      rename_i x y t t' ha ht
      simp only at ha ht
      split at h
      case isFalse => exact h.elim
      rename_i et
      subst et
      have hop : opAppend (std true P) G t s x y o.dst K → op (std true P) G o s K := fun h => by
        unfold op
        simp only [ho, ha, ht, if_true]
        exact h
      split at h
      · unfold opAppD at h
        split at h
        · unfold viewD at h
          split at h
          case h_2 => exact h.elim
          split at h
          case isFalse => exact h.elim
          rename_i q1
          split at h
          case isFalse => exact h.elim
          rename_i q2
          split at h
          case isFalse => exact h.elim
          rename_i q3
          refine .inr (.inl ?_)
          unfold opT
          simp only [ho, ha, ht, if_true, if_pos q1, if_pos q2, if_pos q3]
          exact h
        · rename_i id2 ver2
          split at h
          · rename_i v2 e2 z2 more hg
            split at h
            case isFalse => exact h.elim
            rename_i ev
            refine .inr (.inl ?_)
            unfold opT
            simp only [ho, ha, ht, hg, if_true, if_pos ev]
            exact h
          · exact .inl (hop h)
        · exact .inl (hop h)
      · exact .inl (hop h)
    · exact .inl h
  · exact .inl h

structure SameOp (G : Env) (o : Oper) (s s' : St) : Prop where
  ev : ∀ x ∈ o.op.operands.toList, s'.ev x = s.ev x
  heap : ∀ id ∈ fpO G o s, s'.H.get id = s.H.get id

theorem mem_refsO {o : Oper} {s : St} (hl : looks o.op = true) {x : Operand} (hx : x ∈ o.op.operands.toList) {id : Nat} (hid : id ∈ refsV (s.ev x)) : id ∈ refsO o s := by
  unfold refsO
  rw [if_pos hl]
  exact List.mem_flatMap.2 ⟨x, hx, hid⟩
theorem SameOp.at {o : Oper} {s s' : St} (h : SameOp G o s s') {x : Operand} (hx : x ∈ o.op.operands.toList) (hl : looks o.op = true := by rfl) : ∀ id ∈ refsV (s.ev x), s'.H.get id = s.H.get id := fun id hid =>
  h.heap id (List.mem_append_left _ (mem_refsO hl hx hid))

def DetOp (P : Program) (G : Env) (o : Oper) : Prop :=
  ∀ s, (∀ K, ¬ opD (std true P) G o s K) ∨ ∃ u, ∀ s' K', SameOp G o s s' → (opD (std true P) G o s' K' ↔ K' (s'.put o.dst u))

theorem DetOp.of {o : Oper} (F : St → (PV → Prop) → Prop) (hop : ∀ s K, opD (std true P) G o s K ↔ F s fun v => K (s.put o.dst v)) (hF : ∀ s, DetF (F s)) (hs : ∀ s s' K, SameOp G o s s' → (F s' K ↔ F s K)) : DetOp P G o := fun s => by
  rcases hF s with h | ⟨u, h⟩
  · exact .inl fun K hk => h _ ((hop s K).1 hk)
  · exact .inr ⟨u, fun s' K' hss => (hop s' K').trans ((hs s s' _ hss).trans (h _))⟩

theorem opLoad_same (X : Req → (PV → Prop) → Prop) (t : Nat) {s s' : St} (a : PV) (h : ∀ id ∈ refsV a, s'.H.get id = s.H.get id) (K : PV → Prop) : opLoad X G t s' a K ↔ opLoad X G t s a K := by
  unfold opLoad
  cases a <;> try exact Iff.rfl
  rename_i id ver sz i off
  have e := h id (by simp [refsV, refs1])
  simp only [e]
theorem opBinH_same (X : Req → (PV → Prop) → Prop) (t : Nat) {s s' : St} (op : BinOp) (x y : PV) (h : ∀ id ∈ refsV x, s'.H.get id = s.H.get id) (K : PV → Prop) : opBinH X G t s' op x y K ↔ opBinH X G t s op x y K := by
  unfold opBinH
  cases y <;> try exact Iff.rfl
  cases x <;> try exact Iff.rfl
  rename_i id ver
  have e := h id (by simp [refsV, refs1])
  simp only [e]
theorem opIndexAddr_same (X : Req → (PV → Prop) → Prop) (t : Nat) {s s' : St} (a i : PV) (h : ∀ id ∈ refsV a, s'.H.get id = s.H.get id) (K : PV → Prop) : opIndexAddr X G t s' a i K ↔ opIndexAddr X G t s a i K := by
  unfold opIndexAddr
  cases a <;> try exact Iff.rfl
  rename_i id ver
  have e := h id (by simp [refsV, refs1])
  simp only [e]
theorem opConvert_same (X : Req → (PV → Prop) → Prop) (src dst : Nat) {s s' : St} (a : PV) (h : ∀ id ∈ refsV a, s'.H.get id = s.H.get id) (K : PV → Prop) : opConvert X G src dst s' a K ↔ opConvert X G src dst s a K := by
  unfold opConvert
  cases G src with
  | none => exact Iff.rfl
  | some ts =>
    cases G dst with
    | none => exact Iff.rfl
    | some td =>
      simp only
      cases td.desc <;> cases a <;> try exact Iff.rfl
      rename_i id ver
      simp only [h id (by simp [refsV, refs1])]
theorem opLen_same (X : Req → (PV → Prop) → Prop) (t : Nat) {s s' : St} (a : PV) (h : ∀ id ∈ refsV a, s'.H.get id = s.H.get id) (K : PV → Prop) : opLen X G t s' a K ↔ opLen X G t s a K := by
  unfold opLen
  cases a <;> try exact Iff.rfl
  rename_i id ver
  have e := h id (by simp [refsV, refs1])
  simp only [e]
theorem live_same {s s' : St} (v : PV) (h : ∀ id ∈ refs1 v, s'.H.get id = s.H.get id) : s'.live v = s.live v := by
  unfold St.live
  cases v <;> try rfl
  · rename_i id ver
    simp only [h id (by simp [refs1])]
  · rename_i id ver sz i off
    simp only [h id (by simp [refs1])]
theorem opFieldAddr_same (t : Nat) {s s' : St} (a : PV) (h : ∀ id ∈ refsV a, s'.H.get id = s.H.get id) (f : Nat) (K : PV → Prop) : opFieldAddr G t s' a f K ↔ opFieldAddr G t s a f K := by
  unfold opFieldAddr
  cases a <;> try exact Iff.rfl
  rename_i id ver sz i off
  simp only [live_same (.optr id ver sz i off) fun k hk => h k hk]

theorem det_std_oload (es : List (List PV)) (i off n : Nat) (F : PV → (PV → Prop) → Prop) (hF : ∀ r, DetF (F r)) : DetF fun K => std true P (.oload es i off n) fun r => F r K := by
  simp only [std]
  cases he : es[i]? with
  | none => exact DetF.no fun K x => by obtain ⟨el, h, _⟩ := x; cases h
  | some el =>
    by_cases hf : off + n ≤ el.length
    · refine (hF (.agg ((el.drop off).take n))).congr fun K => ⟨fun x => ⟨el, rfl, hf, x⟩, fun x => ?_⟩
      obtain ⟨el', h, _, x⟩ := x
      obtain rfl := Option.some.inj h
      exact x
    · exact DetF.no fun K x => by
        obtain ⟨el', h, hf', _⟩ := x
        obtain rfl := Option.some.inj h
        exact hf hf'
theorem det_oindex (n : Nat) (i : Int) (u : PV) : DetF fun K => std true P (.oindex n i) fun _ => K u := by
  simp only [std]
  by_cases h : 0 ≤ i ∧ i.toNat < n
  · exact .inr ⟨u, fun K => ⟨fun x => x.2.2, fun x => ⟨h.1, h.2, x⟩⟩⟩
  · exact DetF.no fun K x => h ⟨x.1, x.2.1⟩
theorem det_inner (s : St) (id ver sz i off : Nat) (F : Nat → List (List PV) → Nat → Nat → List (List PV) → (PV → Prop) → Prop) (hF : ∀ e es e' z es', DetF (F e es e' z es')) :
    DetF fun K => inner (std true P) s id ver sz i off fun e es e' z es' => F e es e' z es' K := by
  unfold inner
  generalize s.H.get id = q
  obtain ⟨v, b⟩ := q
  cases b with
  | dead => exact DetF.false_
  | box cs => exact DetF.false_
  | row e sz' es => exact DetF.false_
  | iter b pos => exact DetF.false_
  | map es => exact DetF.false_
  | wild e sz' es => exact DetF.false_
  | tree e sz' es =>
    refine DetF.ite (DetF.ite ?_ DetF.false_) DetF.false_
    refine det_std_oload es i off 1 (fun r K => match r with | .agg [.fr e' z es'] => F e es e' z es' K | _ => False) fun r => ?_
    cases r <;> try exact DetF.false_
    rename_i cs
    rcases cs with _ | ⟨c, r⟩
    · exact DetF.false_
    · cases r with
      | nil => cases c <;> first | exact hF _ _ _ _ _ | exact DetF.false_
      | cons _ _ => cases c <;> exact DetF.false_
theorem det_opLoadT (t : Nat) (s : St) (a : PV) : DetF fun K => opLoadT (std true P) G t s a K := by
  unfold opLoadT
  cases a <;> try exact det_opLoad t s _
  case optr id ver sz i off =>
    simp only
    have hd := det_opLoad (P := P) (G := G) t s (.optr id ver sz i off)
    have hl : DetF fun K => loadT (std true P) G t s id ver sz i off K := by
      unfold loadT
      cases treeAt s id ver with
      | none => exact DetF.false_
      | some q =>
        obtain ⟨e, sz', es⟩ := q
        simp only
        cases G t with
        | none => exact DetF.false_
        | some ti =>
          refine DetF.ite ?_ DetF.false_
          refine det_std_oload _ _ _ _ (fun r K => match r with | .agg cs => aggOr ti.isAgg ti.size (treeRefs id ver sz i off cs) K | _ => False) fun r => ?_
          cases r <;> first | exact det_aggOr _ _ _ | exact DetF.false_
    generalize s.H.get id = q
    obtain ⟨v, b⟩ := q
    cases b <;> first | exact hd | exact hl
  case bptr id ver sz i off nsz j p =>
    simp only
    unfold loadB
    cases G t with
    | none => exact DetF.false_
    | some ti =>
      refine det_inner s id ver sz i off (fun _ _ _ z es' K => if z = nsz then std true P (.oload es' j p ti.size) fun r => match r with | .agg cs => aggOr ti.isAgg ti.size cs K | _ => False else False) fun e es e' z es' => ?_
      refine DetF.ite (det_std_oload _ _ _ _ (fun r K => match r with | .agg cs => aggOr ti.isAgg ti.size cs K | _ => False) fun r => ?_) DetF.false_
      cases r <;> first | exact det_aggOr _ _ _ | exact DetF.false_
theorem det_opIndexT (t : Nat) (s : St) (x i : PV) : DetF fun K => opIndexT (std true P) G t s x i K := by
  unfold opIndexT
  cases x <;> try exact det_opIndexAddr t s _ i
  case osl id ver =>
    simp only
    have hd := det_opIndexAddr (P := P) (G := G) t s (.osl id ver) i
    have hl : DetF fun K => indexT (std true P) G t s id ver i K := by
      unfold indexT
      cases treeAt s id ver with
      | none => exact DetF.false_
      | some q =>
        obtain ⟨e, sz', es⟩ := q
        simp only
        cases sliceOf G t with
        | none => exact DetF.false_
        | some q =>
          obtain ⟨e, te⟩ := q
          cases i <;> try exact DetF.false_
          exact DetF.ite (det_oindex _ _ _) DetF.false_
    generalize s.H.get id = q
    obtain ⟨v, b⟩ := q
    cases b <;> first | exact hd | exact hl
  case bsl id ver sz i' off =>
    simp only
    unfold indexB
    cases sliceOf G t with
    | none => exact DetF.false_
    | some q =>
      obtain ⟨e, te⟩ := q
      cases i <;> try exact DetF.false_
      rename_i k n
      refine det_inner s id ver sz i' off (fun _ _ _ z es' K => if z = te.size then std true P (.oindex es'.length n) fun _ => K (.bptr id ver sz i' off z n.toNat 0) else False) fun e es e' z es' => ?_
      exact DetF.ite (det_oindex _ _ _) DetF.false_
theorem opLoadT_same (X : Req → (PV → Prop) → Prop) (t : Nat) {s s' : St} (a : PV) (h : ∀ id ∈ refsV a, s'.H.get id = s.H.get id) (K : PV → Prop) : opLoadT X G t s' a K ↔ opLoadT X G t s a K := by
  unfold opLoadT
  cases a <;> try exact opLoad_same X t _ h K
  case optr id ver sz i off =>
    have e := h id (by simp [refsV, refs1])
    simp only [loadT, treeAt, e, opLoad_same X t _ h K]
  case bptr id ver sz i off nsz j p =>
    have e := h id (by simp [refsV, refs1])
    simp only [loadB, inner, e]
theorem opIndexT_same (X : Req → (PV → Prop) → Prop) (t : Nat) {s s' : St} (a i : PV) (h : ∀ id ∈ refsV a, s'.H.get id = s.H.get id) (K : PV → Prop) : opIndexT X G t s' a i K ↔ opIndexT X G t s a i K := by
  unfold opIndexT
  cases a <;> try exact opIndexAddr_same X t _ i h K
  case osl id ver =>
    have e := h id (by simp [refsV, refs1])
    simp only [indexT, treeAt, e, opIndexAddr_same X t _ i h K]
  case bsl id ver sz i' off =>
    have e := h id (by simp [refsV, refs1])
    simp only [indexB, inner, e]

theorem det_sliceD (P : Program) (t : Nat) (s : St) (p : PV) (l r : Option (Option Int)) (mx : Option Operand) : DetF (fun K => sliceD (std true P) G t s p l r mx K) := by
  unfold sliceD
  split
  · split
    · refine DetF.ite ?_ DetF.false_
      unfold cutV
      split
      · exact DetF.false_
      · rename_i l
        split
        · exact DetF.false_
        · rename_i r
          split
          · exact DetF.false_
          · split
            · rename_i es _
              refine DetF.ite (DetF.ite ?_ DetF.false_) DetF.false_
              by_cases h : 0 ≤ l.getD 0 ∧ l.getD 0 ≤ r.getD es.length ∧ (r.getD es.length).toNat ≤ es.length
              · exact .inr ⟨_, fun K => ⟨fun x => x.2.2.2, fun x => ⟨h.1, h.2.1, h.2.2, x⟩⟩⟩
              · exact DetF.no fun K x => h ⟨x.1, x.2.1, x.2.2.1⟩
            · exact DetF.false_
    · exact DetF.false_
  · exact DetF.false_
theorem sliceD_same (P : Program) (t : Nat) {s s' : St} (p : PV) (l r : Option (Option Int)) (mx : Option Operand) (h : ∀ id ∈ refsV p, s'.H.get id = s.H.get id) (K : PV → Prop) : sliceD (std true P) G t s' p l r mx K ↔ sliceD (std true P) G t s p l r mx K := by
  unfold sliceD
  split
  · rename_i id ver
    have e := h id (by simp [refsV, refs1])
    simp only [cutV, e]
  · exact Iff.rfl
theorem det_op {o : Oper} (hk : kindOf G o = 1) : DetOp P G o := by
  obtain ⟨dst, opx, type, pos, after, guard⟩ := o
  cases opx <;> simp only [kindOf] at hk <;> try omega
  case move x => exact DetOp.of (fun s K => K (s.ev x)) (fun s K => Iff.rfl) (fun s => DetF.val _) fun s s' K h => by rw [h.1 x (by simp [Op.operands])]
  case assign x => exact DetOp.of (fun s K => K (s.ev x)) (fun s K => Iff.rfl) (fun s => DetF.val _) fun s s' K h => by rw [h.1 x (by simp [Op.operands])]
  case pick c x y =>
    refine DetOp.of (fun s K => match s.ev c with | .bool t => K (if t then s.ev x else s.ev y) | _ => False) (fun s K => ?_) (fun s => ?_) fun s s' K h => ?_
    · simp only [opD, op]
      cases s.ev c <;> exact Iff.rfl
    · cases s.ev c <;> first | exact DetF.false_ | exact DetF.val _
    · rw [h.1 c (by simp [Op.operands]), h.1 x (by simp [Op.operands]), h.1 y (by simp [Op.operands])]
  case load t x => exact DetOp.of (fun s K => opLoadT (std true P) G t s (s.ev x) K) (fun s K => Iff.rfl) (fun s => det_opLoadT _ _ _) fun s s' K h => (by rw [h.1 x (by simp [Op.operands])]; exact opLoadT_same _ _ _ (h.at (by simp [Op.operands])) _)
  case nilCheck x =>
    refine DetOp.of (fun s K => match s.ev x with
      | .iptr cs => K (.iptr cs)
      | .optr id ver sz i off => match s.H.get id with
        | (v', .box _) => if v' = ver then K (.optr id ver sz i off) else False
        | _ => False
      | _ => False) (fun s K => ?_) (fun s => ?_) fun s s' K h => ?_
    · simp only [opD, op]
      cases s.ev x <;> exact Iff.rfl
    · cases s.ev x <;> try exact DetF.false_
      · exact DetF.val _
      · rename_i id ver sz i off
        simp only
        generalize s.H.get id = q
        obtain ⟨v, b⟩ := q
        cases b with
        | dead => exact DetF.false_
        | box cs => exact DetF.ite (DetF.val _) DetF.false_
        | row e' sz es => exact DetF.false_
        | tree e' sz es => exact DetF.false_
        | wild e' sz es => exact DetF.false_
        | iter b pos => exact DetF.false_
        | map es => exact DetF.false_
    · have hx := h.at (x := x) (by simp [Op.operands])
      rw [h.1 x (by simp [Op.operands])]
      cases hv : s.ev x <;> try exact Iff.rfl
      rename_i id ver sz i off
      rw [hv] at hx
      have e := hx id (by simp [refsV, refs1])
      simp only [e]
  case binOp b t x y t' => exact DetOp.of (fun s K => opBinH (std true P) G t s b (s.ev x) (s.ev y) K) (fun s K => Iff.rfl) (fun s => det_opBinH _ _ _ _ _) fun s s' K h => (by rw [h.1 x (by simp [Op.operands]), h.1 y (by simp [Op.operands])]; exact opBinH_same _ _ _ _ _ (h.at (by simp [Op.operands])) _)
  case unOp u t x => exact DetOp.of (fun s K => opUn (std true P) u (s.ev x) K) (fun s K => Iff.rfl) (fun s => det_opUn _ _) fun s s' K h => by rw [h.1 x (by simp [Op.operands])]
  case convert src d x => exact DetOp.of (fun s K => opConvert (std true P) G src d s (s.ev x) K) (fun s K => Iff.rfl) (fun s => det_opConvert _ _ _ _) fun s s' K h => (by rw [h.1 x (by simp [Op.operands])]; exact opConvert_same _ _ _ _ (h.at (by simp [Op.operands])) _)
  case fieldAddr t x f => exact DetOp.of (fun s K => opFieldAddr G t s (s.ev x) f K) (fun s K => Iff.rfl) (fun s => det_opFieldAddr _ _ _ _) fun s s' K h => (by rw [h.1 x (by simp [Op.operands])]; exact opFieldAddr_same _ _ (h.at (by simp [Op.operands])) _ _)
  case field t x f => exact DetOp.of (fun s K => opField G t (s.ev x) f K) (fun s K => Iff.rfl) (fun s => det_opField _ _ _) fun s s' K h => by rw [h.1 x (by simp [Op.operands])]
  case indexAddr t x i => exact DetOp.of (fun s K => opIndexT (std true P) G t s (s.ev x) (s.ev i) K) (fun s K => Iff.rfl) (fun s => det_opIndexT _ _ _ _) fun s s' K h => (by rw [h.1 x (by simp [Op.operands]), h.1 i (by simp [Op.operands])]; exact opIndexT_same _ _ _ _ (h.at (by simp [Op.operands])) _)
  case index t x i =>
    refine DetOp.of (fun s K => match s.ev x, s.ev i with
      | .str b, .int _ n => if isString (G t) then std true P (.sindex b n) K else False
      | _, _ => False) (fun s K => ?_) (fun s => ?_) fun s s' K h => ?_
    · simp only [opD, op]
      cases s.ev x <;> cases s.ev i <;> exact Iff.rfl
    · cases s.ev x <;> cases s.ev i <;> first | exact DetF.false_ | exact DetF.ite (det_std_sindex _ _) DetF.false_
    · rw [h.1 x (by simp [Op.operands]), h.1 i (by simp [Op.operands])]
  case extract x i =>
    refine DetOp.of (fun s K => match s.ev x with
      | .tup vs => match vs[i]? with
        | some v => K v
        | none => False
      | _ => False) (fun s K => ?_) (fun s => ?_) fun s s' K h => ?_
    · simp only [opD, op]
      cases s.ev x <;> exact Iff.rfl
    · cases s.ev x <;> try exact DetF.false_
      rename_i vs
      simp only
      cases vs[i]? with
      | none => exact DetF.false_
      | some v => exact DetF.val v
    · rw [h.1 x (by simp [Op.operands])]
  case slice t x lo hi mx =>
    cases mx with
    | some m => simp only at hk; omega
    | none =>
      refine DetOp.of (fun s K => if notOwn (s.ev x) then (match optInt s lo, optInt s hi with
          | some l, some h => match s.ev x with
            | .str b => if isString (G t) then std true P (.sslice b (l.getD 0) (h.getD b.length)) K else False
            | .nil => match sliceOf G t with
              | some _ => std true P (.islice [] (l.getD 0) (h.getD 0)) fun _ => K .nil
              | none => False
            | .isl sz es => match sliceOf G t with
              | some (_, te) => if sz = te.size then std true P (.islice es (l.getD 0) (h.getD es.length)) fun r => match r with
                  | .isl _ es' => K (.isl sz es')
                  | _ => False
                else False
              | none => False
            | _ => False
          | _, _ => False) else sliceD (std true P) G t s (s.ev x) (optInt s lo) (optInt s hi) none K) (fun s K => ?_) (fun s => ?_) fun s s' K h => ?_
      · simp only [opD, op]
        cases hx : s.ev x <;> simp only [notOwn, if_true, Bool.false_eq_true, if_false] <;> cases optInt s lo <;> cases optInt s hi <;> try exact Iff.rfl
      · refine DetF.ite ?_ (det_sliceD _ _ _ _ _ _ _)
        cases optInt s lo <;> cases optInt s hi <;> try exact DetF.false_
        rename_i l r
        cases s.ev x <;> try exact DetF.false_
        · rename_i b
          refine DetF.ite ?_ DetF.false_
          by_cases h : 0 ≤ l.getD 0 ∧ l.getD 0 ≤ r.getD b.length ∧ (r.getD b.length).toNat ≤ b.length
          · exact .inr ⟨_, fun K => ⟨fun x => x.2.2.2, fun x => ⟨h.1, h.2.1, h.2.2, x⟩⟩⟩
          · exact DetF.no fun K x => h ⟨x.1, x.2.1, x.2.2.1⟩
        · cases sliceOf G t with
          | none => exact DetF.false_
          | some q =>
            by_cases h : 0 ≤ l.getD 0 ∧ l.getD 0 ≤ r.getD 0 ∧ (r.getD 0).toNat ≤ ([] : List (List PV)).length
            · exact .inr ⟨_, fun K => ⟨fun x => x.2.2.2, fun x => ⟨h.1, h.2.1, h.2.2, x⟩⟩⟩
            · exact DetF.no fun K x => h ⟨x.1, x.2.1, x.2.2.1⟩
        · rename_i sz es
          cases sliceOf G t with
          | none => exact DetF.false_
          | some q =>
            obtain ⟨e, te⟩ := q
            refine DetF.ite ?_ DetF.false_
            by_cases h : 0 ≤ l.getD 0 ∧ l.getD 0 ≤ r.getD es.length ∧ (r.getD es.length).toNat ≤ es.length
            · exact .inr ⟨_, fun K => ⟨fun x => x.2.2.2, fun x => ⟨h.1, h.2.1, h.2.2, x⟩⟩⟩
            · exact DetF.no fun K x => h ⟨x.1, x.2.1, x.2.2.1⟩
      · have hlo : optInt s' lo = optInt s lo := by
          cases lo with
          | none => rfl
          | some y => simp only [optInt]; rw [h.1 y (by simp [Op.operands])]
        have hhi : optInt s' hi = optInt s hi := by
          cases hi with
          | none => rfl
          | some y => simp only [optInt]; rw [h.1 y (by simp [Op.operands])]
        rw [hlo, hhi, h.1 x (by simp [Op.operands]), sliceD_same _ _ _ _ _ _ (h.at (by simp [Op.operands])) _]
  case call c =>
    obtain ⟨callee, args, ts⟩ := c
    have hev : ∀ s s' : St, SameOp G ⟨dst, .call ⟨callee, args, ts⟩, type, pos, after, guard⟩ s s' → evs s' args.toList = evs s args.toList := fun s s' h => by
      unfold evs
      refine List.map_congr_left fun x hx => h.1 x ?_
      simp only [Op.operands, Call.operands, Array.toList_append, List.mem_append]
      exact .inr hx
    cases callee with
    | invoke r m => simp only at hk; omega
    | value f => exfalso; cases f <;> simp only at hk <;> (try split at hk) <;> (try split at hk) <;> omega
    | builtin b =>
      have mm : ∀ (mx : Bool), DetOp P G ⟨dst, .call ⟨.builtin (if mx then .max else .min), args, ts⟩, type, pos, after, guard⟩ := fun mx => by
        refine DetOp.of (fun s K => match evs s args.toList with
          | [.int k a, .int k' b] => if k = k' then std true P (.minmax mx k a b) K else False
          | [.int k a, .int k' b, .int k2 c] => if k = k' then if k = k2 then std true P (.minmax mx k a b) (fun r => match r with
              | .int _ r => std true P (.minmax mx k r c) K
              | _ => False) else False else False
          | _ => False) (fun s K => ?_) (fun s => ?_) fun s s' K h => ?_
        · cases mx <;> exact Iff.rfl
        · split
          · exact DetF.ite (DetF.val _) DetF.false_
          · exact DetF.ite (DetF.ite (DetF.val _) DetF.false_) DetF.false_
          · exact DetF.false_
        · have : evs s' args.toList = evs s args.toList := by
            unfold evs
            refine List.map_congr_left fun x hx => h.1 x ?_
            simp only [Op.operands, Call.operands, Array.toList_append, List.mem_append]
            exact .inr hx
          rw [this]
      cases b <;> simp only at hk <;> try omega
      case len =>
        refine DetOp.of (fun s K => match evs s args.toList, ts.toList with
          | [x], [t] => opLen (std true P) G t s x K
          | _, _ => False) (fun s K => ?_) (fun s => ?_) fun s s' K h => ?_
        · exact Iff.rfl
        · split
          · exact det_opLen _ _ _
          · exact DetF.false_
        · rw [hev s s' h]
          split
          · rename_i x t he _
            refine opLen_same _ _ _ (fun id hid => ?_) _
            have hm : x ∈ evs s args.toList := by rw [he]; simp
            obtain ⟨y, hy, rfl⟩ := List.mem_map.1 hm
            exact (h.at (by simp only [Op.operands, Call.operands, Array.toList_append, List.mem_append]; exact .inr hy)) id hid
          · exact Iff.rfl
      case max => exact mm true
      case min => exact mm false
end
end Go.Proofs.Ytngefbdedbbplaa.Ai
