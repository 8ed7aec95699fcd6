/- Two slices in an answer: nil ones are lists without elements. -/
import Derived.Test.YtbamclepgabciaaAiIce
namespace Go.Proofs.Ytbamclepgabciaa.Ai
open Go Go.RowKit
set_option linter.unusedVariables false
set_option linter.unusedSimpArgs false
def unnil2 (a b : Nat) : PV → PV
  | .tup (x :: y :: r) => .tup (Ai.unnilI a x :: Ai.unnilI b y :: r)
  | v => v
theorem Res.unnil2 {w : World} {I : Nat → Prop} {base : Nat} {p : PV} {v : Value} {gs : List Nat} (c d : Nat) (h : Res w I base p v gs) : Res w I base (Ai.unnil2 c d p) v gs := by
  cases h with
  | one h =>
    have e1 : Ai.unnil2 c d p = p := by
      cases h with
      | imm h => cases h <;> rfl
      | _ => rfl
    rw [e1]
    exact .one h
  | tup h =>
    cases h with
    | nil => exact .tup .nil
    | cons a b =>
      cases b with
      | nil => exact .tup (.cons a .nil)
      | cons b r => exact .tup (.cons (a.unnilI c) (.cons (b.unnilI d) r))
theorem OkA.unnil2 {P : Program} {f : FuncId} {args : List PV} {v : PV} (a b : Nat) (h : OkA P f args (fun r => Ai.unnil2 a b (Ai.ice r) = v)) : OkA P f args (· = v) := by
  have h := (OkA.iceE h).mono (Q' := fun r => Ai.unnil2 a b r = v) fun _ ⟨r0, q, e⟩ => by rw [e]; exact q
  exact ⟨h.1, fun w I vs hI ha => (h.2 w I vs hI ha).mono fun _ _ ⟨u, r, gs, e1, q, e2, e3, e4, e5⟩ => ⟨u, Ai.unnil2 a b r, gs, e1, q, e2, e3, e4, e5.unnil2 a b⟩⟩
end Go.Proofs.Ytbamclepgabciaa.Ai
