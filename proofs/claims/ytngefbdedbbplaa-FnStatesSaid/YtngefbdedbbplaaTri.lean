/- Results of three: a slice, a number, a bool; and of two: a slice and a number. -/
import Derived.Test.YtngefbdedbbplaaCommon
set_option linter.unusedVariables false
namespace Go.Proofs.Ytngefbdedbbplaa.Ai
open Go Go.Proofs
set_option linter.unusedSimpArgs false
noncomputable def lic {α : Type} (e n : Nat) (f : α → List PV) (v : List α × Int × Bool) : PV := .tup [.fr e n (rows f v.1), .int .i64 v.2.1, .bool v.2.2]
noncomputable def licI {α : Type} (n : Nat) (f : α → List PV) (v : List α × Int × Bool) : PV := .tup [.isl n (rows f v.1), .int .i64 v.2.1, .bool v.2.2]
theorem flat_lic {α : Type} {e n : Nat} {f : α → List PV} (hf : ∀ x, ∀ c ∈ f x, flat c) {v : List α × Int × Bool} : ∀ r, r = lic e n f v → flatR r := fun r h => by
  subst h
  intro x hx
  simp only [List.mem_cons, List.not_mem_nil, or_false] at hx
  rcases hx with rfl | rfl | rfl
  · exact flat_rows hf v.1
  · trivial
  · trivial
noncomputable def li {α : Type} (e n : Nat) (f : α → List PV) (v : List α × Int) : PV := .tup [.fr e n (rows f v.1), .int .i64 v.2]
theorem flat_li {α : Type} {e n : Nat} {f : α → List PV} (hf : ∀ x, ∀ c ∈ f x, flat c) {v : List α × Int} : ∀ r, r = li e n f v → flatR r := fun r h => by
  subst h
  intro x hx
  simp only [List.mem_cons, List.not_mem_nil, or_false] at hx
  rcases hx with rfl | rfl
  · exact flat_rows hf v.1
  · trivial
end Go.Proofs.Ytngefbdedbbplaa.Ai
