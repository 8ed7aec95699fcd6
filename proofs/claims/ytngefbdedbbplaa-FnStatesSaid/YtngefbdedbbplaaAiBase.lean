/- Small laws for functions' proofs: contracts of functions whose results hold no reference, lists. -/
import Derived.Test.YtngefbdedbbplaaAiRules
set_option linter.unusedSectionVars false
namespace Go.Proofs.Ytngefbdedbbplaa.Ai
open Go Go.RowKit
set_option linter.unusedVariables false
set_option linter.unusedSimpArgs false

def flat : PV → Prop
  | .bool _ | .int _ _ | .str _ | .nil | .nilp => True
  | _ => False

def flat1 : PV → Prop
  | .agg cs => ∀ c ∈ cs, match c with
    | .fr _ _ es => ∀ c ∈ es.flatten, flat c
    | c => flat c
  | .fr _ _ es => ∀ c ∈ es.flatten, flat c
  | p => flat p

def flatR : PV → Prop
  | .tup vs => ∀ v ∈ vs, flat1 v
  | p => flat1 p

section
variable {w : World} {I I' : Nat → Prop}

theorem RepI.flat {p v} (hp : flat p) (h : RepI w I p v) : RepI w I' p v := by
  cases h with
  | bool b => exact .bool b
  | int k n h => exact .int k n h
  | str s h => exact .str s h
  | nil => exact .nil
  | nilp => exact .nilp
  | isl0 => exact hp.elim
  | isl => exact hp.elim
  | iptr => exact hp.elim
  | fn => exact hp.elim

theorem RepIs.flat : ∀ {p v}, (∀ x ∈ p, Ai.flat x) → RepIs w I p v → RepIs w I' p v
  | _, _, _, .nil => .nil
  | _, _, h, .cons a b => .cons (RepI.flat (h _ (by simp)) a) (RepIs.flat (fun x hx => h x (by simp [hx])) b)

theorem ResC.flat {base : Nat} {p : List PV} {v : List Value} {gs : List Nat} (h : ResC w I base p v gs) : (∀ c ∈ p, match c with
    | .fr _ _ es => ∀ c ∈ es.flatten, Ai.flat c
    | c => Ai.flat c) → ResC w I' base p v gs := by
  induction h with
  | nil => exact fun _ => .nil
  | imm h _ ih =>
    intro hp
    have h1 := hp _ List.mem_cons_self
    exact .imm (RepI.flat (by cases h <;> exact h1) h) (ih fun c hc => hp c (List.mem_cons_of_mem _ hc))
  | fr ho hr hl _ ih =>
    intro hp
    exact .fr ho (RepIs.flat (hp _ List.mem_cons_self) hr) hl (ih fun c hc => hp c (List.mem_cons_of_mem _ hc))
theorem flat_of_cells : ∀ {cs : List PV} {vs : List Value}, RepIs w I cs vs → (∀ c ∈ cs, match c with
    | .fr _ _ es => ∀ c ∈ es.flatten, Ai.flat c
    | c => Ai.flat c) → ∀ c ∈ cs, Ai.flat c
  | _, _, .nil, _ => fun c hc => by cases hc
  | _, _, .cons h t, hp => fun c hc => by
    rcases List.mem_cons.1 hc with rfl | hc
    · have h1 := hp _ List.mem_cons_self
      cases h <;> exact h1
    · exact flat_of_cells t (fun c hc => hp c (List.mem_cons_of_mem _ hc)) c hc
theorem Res1.flat {base : Nat} {p v gs} (hp : flat1 p) (h : Res1 w I base p v gs) : Res1 w I' base p v gs := by
  cases h with
  | undef v => exact .undef v
  | imm h =>
    refine .imm (RepI.flat ?_ h)
    cases h <;> exact hp
  | agg cs vs h => exact .agg cs vs (RepIs.flat (flat_of_cells h hp) h)
  | aggO cs vs gs h => exact .aggO cs vs gs (h.flat hp)
  | fr e sz es v vals ho hr hl => exact .fr e sz es v vals ho (RepIs.flat hp hr) hl

theorem ResL.flat {base : Nat} : ∀ {p v gs}, (∀ x ∈ p, flat1 x) → ResL w I base p v gs → ResL w I' base p v gs
  | _, _, _, _, .nil => .nil
  | _, _, _, h, .cons a b => .cons (Res1.flat (h _ (by simp)) a) (ResL.flat (fun x hx => h x (by simp [hx])) b)

theorem Res.flat {base : Nat} {p v gs} (hp : flatR p) (h : Res w I base p v gs) : Res w I' base p v gs := by
  cases h with
  | one h =>
    refine .one (Res1.flat ?_ h)
    cases h with
    | imm h => cases h <;> exact hp
    | _ => exact hp
  | tup h => exact .tup (ResL.flat hp h)
end

/-- A function whose result holds no reference may be lent own slices. -/
theorem OkA.ok {P : Program} {f : FuncId} {args : List PV} {Q : PV → Prop} (h : OkA P f args Q) (hq : ∀ r, Q r → flatR r) : Ok P f args Q :=
  ⟨h.1, fun w I vs hI ha => (h.2 w I vs hI ha).mono fun e w' ⟨v, r, gs, e1, q, e2, e3, e4, e5⟩ => ⟨v, r, gs, e1, q, e2, e3, e4, Res.flat (hq r q) e5⟩⟩

theorem OkA.mono {P : Program} {f : FuncId} {args : List PV} {Q Q' : PV → Prop} (h : OkA P f args Q) (hq : ∀ r, Q r → Q' r) : OkA P f args Q' :=
  ⟨h.1, fun w I vs hI ha => (h.2 w I vs hI ha).mono fun _ _ ⟨v, r, gs, e1, q, e2⟩ => ⟨v, r, gs, e1, hq r q, e2⟩⟩

/-! ### Cells -/
def cInt (x : Int) : List PV := [.int .i64 x]
def cU8 (x : Int) : List PV := [.int .u8 x]
def cBool (x : Bool) : List PV := [.bool x]
def cStr (x : List UInt8) : List PV := [.str x]
/-- An element that may still be the type's zero. -/
def orZ {α : Type} (z : List PV) (f : α → List PV) : Option α → List PV
  | none => z
  | some x => f x

theorem rows_some {α : Type} (z : List PV) (f : α → List PV) (xs : List α) : rows (orZ z f) (xs.map some) = rows f xs := by
  rw [rows_eq, rows_eq, List.map_map]; rfl
theorem rows_nil {α : Type} (f : α → List PV) : rows f [] = [] := rows_eq f []

theorem flat_rows {α : Type} {f : α → List PV} (hf : ∀ x, ∀ c ∈ f x, flat c) (xs : List α) : ∀ c ∈ (rows f xs).flatten, flat c := fun c hc => by
  rw [rows_eq] at hc
  obtain ⟨l, hl, hc⟩ := List.mem_flatten.1 hc
  obtain ⟨x, -, rfl⟩ := List.mem_map.1 hl
  exact hf x c hc

/-! ### Results of several parts -/
def ib (p : Int × Bool) : PV := .tup [.int .i64 p.1, .bool p.2]
def bb (p : Bool × Bool) : PV := .tup [.bool p.1, .bool p.2]
def ii (p : Int × Int) : PV := .tup [.int .i64 p.1, .int .i64 p.2]
def iib (p : Int × Int × Bool) : PV := .tup [.int .i64 p.1, .int .i64 p.2.1, .bool p.2.2]
def ibb (p : Int × Bool × Bool) : PV := .tup [.int .i64 p.1, .bool p.2.1, .bool p.2.2]

theorem flat_bool {v : Bool} : ∀ r, r = PV.bool v → flatR r := fun r h => by subst h; trivial
theorem flat_int {v : Int} : ∀ r, r = PV.int .i64 v → flatR r := fun r h => by subst h; trivial
theorem flat_ib {v : Int × Bool} : ∀ r, r = ib v → flatR r := fun r h => by
  subst h
  intro x hx
  simp only [List.mem_cons, List.not_mem_nil, or_false] at hx
  rcases hx with rfl | rfl <;> trivial
theorem flat_bb {v : Bool × Bool} : ∀ r, r = bb v → flatR r := fun r h => by
  subst h
  intro x hx
  simp only [List.mem_cons, List.not_mem_nil, or_false] at hx
  rcases hx with rfl | rfl <;> trivial
theorem flat_ii {v : Int × Int} : ∀ r, r = ii v → flatR r := fun r h => by
  subst h
  intro x hx
  simp only [List.mem_cons, List.not_mem_nil, or_false] at hx
  rcases hx with rfl | rfl <;> trivial
theorem flat_iib {v : Int × Int × Bool} : ∀ r, r = iib v → flatR r := fun r h => by
  subst h
  intro x hx
  simp only [List.mem_cons, List.not_mem_nil, or_false] at hx
  rcases hx with rfl | rfl | rfl <;> trivial
theorem flat_ibb {v : Int × Bool × Bool} : ∀ r, r = ibb v → flatR r := fun r h => by
  subst h
  intro x hx
  simp only [List.mem_cons, List.not_mem_nil, or_false] at hx
  rcases hx with rfl | rfl | rfl <;> trivial

/-- A new row and a bool. -/
noncomputable def lb {α : Type} (e n : Nat) (f : α → List PV) (p : List α × Bool) : PV := .tup [.fr e n (rows f p.1), .bool p.2]
theorem flat_lb {α : Type} {e n : Nat} {f : α → List PV} (hf : ∀ x, ∀ c ∈ f x, flat c) {v : List α × Bool} : ∀ r, r = lb e n f v → flatR r := fun r h => by
  subst h
  intro x hx
  simp only [List.mem_cons, List.not_mem_nil, or_false] at hx
  rcases hx with rfl | rfl
  · exact flat_rows hf v.1
  · trivial
theorem flat_fr {α : Type} {e n : Nat} {f : α → List PV} (hf : ∀ x, ∀ c ∈ f x, flat c) {v : List α} : ∀ r, r = PV.fr e n (rows f v) → flatR r := fun r h => by
  subst h
  exact flat_rows hf v
theorem flat_cInt : ∀ x, ∀ c ∈ cInt x, flat c := fun x c hc => by
  simp only [cInt, List.mem_cons, List.not_mem_nil, or_false] at hc
  subst hc; trivial

/-- A slice that may lie elsewhere, and a bool. -/
noncomputable def lbI {α : Type} (n : Nat) (f : α → List PV) (p : List α × Bool) : PV := .tup [.isl n (rows f p.1), .bool p.2]

/-- A slice as an element. -/
noncomputable def cSl {α : Type} (n : Nat) (f : α → List PV) (xs : List α) : List PV := [.isl n (rows f xs)]

/-! ### Lists -/
/-- A row that is filled from the front. -/
theorem copy_step {α : Type} {xs : List α} {ys : List α} {z x : α} {i : Nat} (h : ys = xs.take i ++ List.replicate (xs.length - i) z) (hx : xs[i]? = some x) : ys.set i x = xs.take (i + 1) ++ List.replicate (xs.length - (i + 1)) z := by
  have hlt : i < xs.length := (List.getElem?_eq_some_iff.1 hx).1
  have hl : (xs.take i).length = i := by simp; omega
  subst h
  rw [List.set_append_right _ _ (by omega), hl, Nat.sub_self, List.take_add_one, hx]
  obtain ⟨k, hk⟩ : ∃ k, xs.length - i = k + 1 := ⟨xs.length - i - 1, by omega⟩
  rw [hk, show xs.length - (i + 1) = k by omega, List.replicate_succ, List.set_cons_zero]
  simp

theorem copy_end {α : Type} {xs : List α} {ys : List α} {z : α} {i : Nat} (h : ys = xs.take i ++ List.replicate (xs.length - i) z) (hi : xs.length ≤ i) : ys = xs := by
  rw [h, List.take_of_length_le hi, show xs.length - i = 0 by omega]; simp

theorem drop_cons {α : Type} {xs : List α} {x : α} {i : Nat} (hx : xs[i]? = some x) : xs.drop i = x :: xs.drop (i + 1) := by
  obtain ⟨h, rfl⟩ := List.getElem?_eq_some_iff.1 hx
  exact List.drop_eq_getElem_cons h

theorem take_snoc {α : Type} {xs : List α} {x : α} {i : Nat} (hx : xs[i]? = some x) : xs.take (i + 1) = xs.take i ++ [x] := by rw [List.take_add_one, hx]; rfl
theorem drop_end {α : Type} {xs : List α} {i : Nat} (h : xs.length ≤ i) : xs.drop i = [] := List.drop_of_length_le h
theorem take_end {α : Type} {xs : List α} {i : Nat} (h : xs.length ≤ i) : xs.take i = xs := List.take_of_length_le h
noncomputable abbrev intPV (x : Int) : PV := .int .i64 x
theorem get_ex {α : Type} {xs : List α} {i : Nat} (h : i < xs.length) : ∃ x, xs[i]? = some x := ⟨_, List.getElem?_eq_getElem h⟩
theorem get_mem {α : Type} {xs : List α} {i : Nat} {x : α} (h : xs[i]? = some x) : x ∈ xs := List.mem_of_getElem? h

end Go.Proofs.Ytngefbdedbbplaa.Ai
