/- A slot that holds nil may be taken as an empty list that is read. -/
import Derived.Test.YtalookmhhkojeaaAiRules
set_option linter.unusedSectionVars false
namespace Go.Proofs.Ytalookmhhkojeaa.Ai
open Go Go.RowKit
set_option linter.unusedVariables false
set_option linter.unusedSimpArgs false
section
variable {P : Program} {G : Env} {κ : Ctx} {X Y : Req → (PV → Prop) → Prop} {L : Code → (Ex → St → Prop) → St → Prop}
theorem r_nilI (t sz : Nat) {c : Code} {Q : Ex → St → Prop} {s : St} (h : Mach P G κ X Y L) (ho : s.T.getD t .undef = .nil) (H : L c Q (s.put (some t) (.isl sz []))) : L c Q s := by
  have := h.z
  rw [h.L] at H ⊢
  intro η a w hs
  have hr := hs.tmp t
  rw [ho] at hr
  have hr2 : Rep w (imm κ η w) η (.isl sz []) (a.tmps.getD t Go.undef) := by
    generalize a.tmps.getD t Go.undef = v at hr ⊢
    cases hr with
    | one hr => cases hr with
      | one hr => cases hr with
        | imm hr =>
          cases hr
          exact .one (.one (.imm (.isl0 sz none 0 (Nat.zero_le _))))
  have hp := hs.put (some t) hr2
  have e : a.put (some t) (a.tmps.getD t Go.undef) = a := by
    cases a
    simp only [Act.put]
    congr 1
    apply Array.ext
    · simp
    · intro i h1 h2
      simp only [Array.set!_eq_setIfInBounds] at *
      rw [Array.getElem_setIfInBounds]
      split
      · rename_i q; subst q; simp [Array.getD, h2]
      · rfl
  rw [e] at hp
  exact H η a w hp
end
theorem RepArg.nil_isl {w : World} {I : Nat → Prop} {v : Value} (h : RepArg w I .nil v) (sz : Nat) : RepArg w I (.isl sz []) v := by
  cases h with
  | one h => cases h; exact .one (.isl0 sz none 0 (Nat.zero_le _))
noncomputable def liI {α : Type} (n : Nat) (f : α → List PV) (v : List α × Int) : PV := .tup [.isl n (rows f v.1), .int .i64 v.2]
end Go.Proofs.Ytalookmhhkojeaa.Ai
