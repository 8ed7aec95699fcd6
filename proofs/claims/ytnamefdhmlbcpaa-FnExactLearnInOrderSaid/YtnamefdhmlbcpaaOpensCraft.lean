/- The laws' types as data. -/
import Derived.Test.YtnamefdhmlbcpaaAiOpen
import Derived.Test.YtnamefdhmlbcpaaLawAreCrafts
namespace Go.Proofs.Ytnamefdhmlbcpaa.Ai
open Go Go.Proofs

set_option maxRecDepth 100000

def FitsCraft (c : Craft) : Prop := (∀ x ∈ c.1, Fits x) ∧ Fits c.2
theorem opensInt : Opens Try.prog 3 1 cInt Fits := opens_int Try.underlying3 cells3
theorem opensIntS : Opens Try.prog 24 1 (fun xs => [.isl 1 (rows cInt xs)]) (fun xs => ∀ x ∈ xs, Fits x) := opens_slice Try.underlying24 cells24 (by decide) opensInt
theorem opensCraft : Opens Try.prog 62 2 cCraft FitsCraft := by
  have h := opens_struct Try.underlying62 cells62 (opensF_cons (o := 0) rfl opensIntS (opensF_cons rfl opensInt opensF_nil)) rfl
  exact h.map (fun a => (a.1, a.2.1)) cCraft FitsCraft (fun _ => rfl) (fun _ h => ⟨h.1, h.2.1⟩)
theorem opensCraftS : Opens Try.prog 22 1 (fun xs => [.isl 2 (rows cCraft xs)]) (fun xs => ∀ x ∈ xs, FitsCraft x) := opens_slice Try.underlying22 cells22 (by decide) opensCraft
end Go.Proofs.Ytnamefdhmlbcpaa.Ai
