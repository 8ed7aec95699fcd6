/- Structs with rows of their own in answers: a nil slice in them is a new row without elements. -/
import Derived.Test.YtmlojdpfpccgoaaAiIce
namespace Go.Proofs.Ytmlojdpfpccgoaa.Ai
open Go Go.RowKit
set_option linter.unusedVariables false
set_option linter.unusedSimpArgs false
def unnilC : List (Nat × Nat) → List PV → List PV
  | (e, z) :: r, p :: ps => unnil e z p :: unnilC r ps
  | _, ps => ps
theorem RepIs.resC {w : World} {I : Nat → Prop} {base : Nat} : ∀ {p : List PV} {v : List Value}, RepIs w I p v → ResC w I base p v []
  | _, _, .nil => .nil
  | _, _, .cons a b => .imm a (RepIs.resC b)
theorem ResC.unnil {w : World} {I : Nat → Prop} {base : Nat} {p : List PV} {v : List Value} {gs : List Nat} (h : ResC w I base p v gs) : ∀ l, ResC w I base (unnilC l p) v gs := by
  induction h with
  | nil => intro l; cases l <;> exact .nil
  | imm h t ih =>
    intro l
    cases l with
    | nil => exact .imm h t
    | cons x r =>
      obtain ⟨e, z⟩ := x
      have same : ∀ {p v}, RepI w I p v → Ai.unnil e z p = p → ResC w I base (Ai.unnil e z p :: unnilC r _) (v :: _) _ := fun h e => by rw [e]; exact .imm h (ih r)
      cases h with
      | nil => exact .fr (v := .slice none 0 0) (vals := []) (es := []) (World.ownsRow_nil w base e z) .nil (by simp) (ih r)
      | bool b => exact same (.bool b) rfl
      | int k n h => exact same (.int k n h) rfl
      | str s h => exact same (.str s h) rfl
      | nilp => exact same .nilp rfl
      | isl0 a b c d => exact same (.isl0 a b c d) rfl
      | isl a b c d f g h1 h2 h3 h4 h5 h6 => exact same (.isl a b c d f g h1 h2 h3 h4 h5 h6) rfl
      | iptr a b c d h1 h2 h3 => exact same (.iptr a b c d h1 h2 h3) rfl
      | fn a b c h1 => exact same (.fn a b c h1) rfl
  | fr ho hr hl t ih =>
    intro l
    cases l with
    | nil => exact .fr ho hr hl t
    | cons x r => exact .fr ho hr hl (ih r)
def unnilS (l : List (Nat × Nat)) : PV → PV
  | .tup (.agg cs :: vs) => .tup (.agg (unnilC l cs) :: vs)
  | v => v
theorem Res.unnilS {w : World} {I : Nat → Prop} {base : Nat} {p : PV} {v : Value} {gs : List Nat} (l : List (Nat × Nat)) (h : Res w I base p v gs) : Res w I base (Ai.unnilS l p) v gs := by
  cases h with
  | one h =>
    have e1 : Ai.unnilS l p = p := by
      cases h with
      | imm h => cases h <;> rfl
      | _ => rfl
    rw [e1]
    exact .one h
  | tup h =>
    cases h with
    | nil => exact .tup .nil
    | cons a b =>
      cases a with
      | undef => exact .tup (.cons (.undef _) b)
      | imm h =>
        have e : ∀ {q u}, RepI w I q u → ∀ r, Ai.unnilS l (.tup (q :: r)) = .tup (q :: r) := fun h r => by cases h <;> rfl
        rw [e h]
        exact .tup (.cons (.imm h) b)
      | agg cs vs h => exact .tup (.cons (.aggO _ _ _ (h.resC.unnil l)) b)
      | fr _ _ _ _ _ ho hr hl => exact .tup (.cons (.fr _ _ _ _ _ ho hr hl) b)
      | aggO cs vs gs h => exact .tup (.cons (.aggO _ _ _ (h.unnil l)) b)
theorem OkA.unnilS {P : Program} {f : FuncId} {args : List PV} {v : PV} (l : List (Nat × Nat)) (h : OkA P f args (fun r => Ai.unnilS l r = v)) : OkA P f args (· = v) :=
  ⟨h.1, fun w I vs hI ha => (h.2 w I vs hI ha).mono fun _ _ ⟨u, r, gs, e1, q, e2, e3, e4, e5⟩ => ⟨u, Ai.unnilS l r, gs, e1, q, e2, e3, e4, e5.unnilS l⟩⟩
/-- The same for rows that are only read. -/
def unnilCI : List Nat → List PV → List PV
  | z :: r, p :: ps => unnilI z p :: unnilCI r ps
  | _, ps => ps
theorem RepI.unnilI {w : World} {I : Nat → Prop} {p : PV} {v : Value} (z : Nat) (h : RepI w I p v) : RepI w I (Ai.unnilI z p) v := by
  have same : ∀ {p v}, RepI w I p v → Ai.unnilI z p = p → RepI w I (Ai.unnilI z p) v := fun h e => by rw [e]; exact h
  cases h with
  | nil => exact .isl0 z none 0 (Nat.zero_le _)
  | bool b => exact same (.bool b) rfl
  | int k n h => exact same (.int k n h) rfl
  | str s h => exact same (.str s h) rfl
  | nilp => exact same .nilp rfl
  | isl0 a b c d => exact same (.isl0 a b c d) rfl
  | isl a b c d f g h1 h2 h3 h4 h5 h6 => exact same (.isl a b c d f g h1 h2 h3 h4 h5 h6) rfl
  | iptr a b c d h1 h2 h3 => exact same (.iptr a b c d h1 h2 h3) rfl
  | fn a b c h1 => exact same (.fn a b c h1) rfl
theorem RepIs.unnilCI {w : World} {I : Nat → Prop} : ∀ {p : List PV} {v : List Value} (l : List Nat), RepIs w I p v → RepIs w I (Ai.unnilCI l p) v
  | _, _, [], .nil => .nil
  | _, _, _ :: _, .nil => .nil
  | _, _, [], .cons a b => .cons a b
  | _, _, z :: r, .cons a b => .cons (a.unnilI z) (RepIs.unnilCI r b)
theorem ResC.unnilCI {w : World} {I : Nat → Prop} {base : Nat} {p : List PV} {v : List Value} {gs : List Nat} (h : ResC w I base p v gs) : ∀ l, ResC w I base (Ai.unnilCI l p) v gs := by
  induction h with
  | nil => intro l; cases l <;> exact .nil
  | imm h t ih =>
    intro l
    cases l with
    | nil => exact .imm h t
    | cons z r => exact .imm (h.unnilI z) (ih r)
  | fr ho hr hl t ih =>
    intro l
    cases l with
    | nil => exact .fr ho hr hl t
    | cons z r => exact .fr ho hr hl (ih r)
def unnilSI (l : List Nat) : PV → PV
  | .tup (.agg cs :: vs) => .tup (.agg (unnilCI l cs) :: vs)
  | .agg cs => .agg (unnilCI l cs)
  | v => v
theorem Res.unnilSI {w : World} {I : Nat → Prop} {base : Nat} {p : PV} {v : Value} {gs : List Nat} (l : List Nat) (h : Res w I base p v gs) : Res w I base (Ai.unnilSI l p) v gs := by
  cases h with
  | one h =>
    cases h with
    | undef => exact .one (.undef _)
    | imm h =>
      have e : ∀ {q u}, RepI w I q u → Ai.unnilSI l q = q := fun h => by cases h <;> rfl
      rw [e h]
      exact .one (.imm h)
    | agg cs vs h => exact .one (.agg _ _ (h.unnilCI l))
    | aggO cs vs gs h => exact .one (.aggO _ _ _ (h.unnilCI l))
    | fr _ _ _ _ _ ho hr hl => exact .one (.fr _ _ _ _ _ ho hr hl)
  | tup h =>
    cases h with
    | nil => exact .tup .nil
    | cons a b =>
      cases a with
      | undef => exact .tup (.cons (.undef _) b)
      | imm h =>
        have e : ∀ {q u}, RepI w I q u → ∀ r, Ai.unnilSI l (.tup (q :: r)) = .tup (q :: r) := fun h r => by cases h <;> rfl
        rw [e h]
        exact .tup (.cons (.imm h) b)
      | agg cs vs h => exact .tup (.cons (.agg _ _ (h.unnilCI l)) b)
      | aggO cs vs gs h => exact .tup (.cons (.aggO _ _ _ (h.unnilCI l)) b)
      | fr _ _ _ _ _ ho hr hl => exact .tup (.cons (.fr _ _ _ _ _ ho hr hl) b)
theorem OkA.unnilSI {P : Program} {f : FuncId} {args : List PV} {v : PV} (l : List Nat) (h : OkA P f args (fun r => Ai.unnilSI l (Ai.ice r) = v)) : OkA P f args (· = v) := by
  have h := (OkA.iceE h).mono (Q' := fun r => Ai.unnilSI l r = v) fun _ ⟨r0, q, e⟩ => by rw [e]; exact q
  exact ⟨h.1, fun w I vs hI ha => (h.2 w I vs hI ha).mono fun _ _ ⟨u, r, gs, e1, q, e2, e3, e4, e5⟩ => ⟨u, Ai.unnilSI l r, gs, e1, q, e2, e3, e4, e5.unnilSI l⟩⟩
end Go.Proofs.Ytmlojdpfpccgoaa.Ai
