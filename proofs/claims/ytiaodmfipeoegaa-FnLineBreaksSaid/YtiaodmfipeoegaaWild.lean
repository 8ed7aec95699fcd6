/- Rows that come into trees and go out of them: the rules; regions that draw, behind and ahead of changes of the abstract state. -/
import Derived.Test.YtiaodmfipeoegaaAiNest
import Derived.Test.YtiaodmfipeoegaaThaw
set_option linter.unusedSectionVars false
set_option linter.unusedVariables false
namespace Go.Proofs.Ytiaodmfipeoegaa.Ai
open Go Go.RowKit
set_option linter.unusedSimpArgs false
section
variable {P : Program} {G : Env} {κ : Ctx} {X Y : Req → (PV → Prop) → Prop} {L : Code → (Ex → St → Prop) → St → Prop} {b : Bool} {α : Type} {f : α → List PV} {xs : List α} {K : PV → Prop}
/-- Every world that the one state stands for is one that the other stands for. -/
def Chg (κ : Ctx) (s s' : St) : Prop := ∀ (η : Own) (a : Act) (w : World), Sim κ η s a w → ∃ η', Sim κ η' s' a w
theorem Chg.refl (s : St) : Chg κ s s := fun η _ _ h => ⟨η, h⟩
theorem Chg.trans {s s' s'' : St} (h : Chg κ s s') (k : Chg κ s' s'') : Chg κ s s'' := fun η a w hs => by
  obtain ⟨η', hs'⟩ := h η a w hs
  exact k η' a w hs'
theorem r_clean (h : Std P b X) (hf : ∀ x, ∀ c ∈ f x, (∃ e z rs, c = .fr e z rs) ∨ c.pure = true) (H : K .undef) : X (.clean (rows f xs)) K := by
  rw [h.eq, rows_eq]
  refine ⟨fun x hx c hc => ?_, H⟩
  obtain ⟨y, _, rfl⟩ := List.mem_map.1 hx
  exact hf y c hc
end
end Go.Proofs.Ytiaodmfipeoegaa.Ai
