/- Contracts of the laws' helpers for []int and []laws.Craft. -/
import Derived.Test.YtngefbdedbbplaaAiTypes
import Derived.Test.YtngefbdedbbplaaAiBase
namespace Go.Proofs.Ytngefbdedbbplaa.Ai
open Go Go.Proofs
set_option linter.unusedSimpArgs false
set_option maxRecDepth 10000
set_option maxHeartbeats 4000000
set_option linter.unusedVariables false

abbrev Craft := List Int × Int
noncomputable def cCraft (c : Craft) : List PV := [.isl 1 (rows cInt c.1), .int .i64 c.2]

def SmallCraft (c : Craft) : Prop := (c.1.length : Int) ≤ 1048576
def SmallCraftS (cs : List Craft) : Prop := (cs.length : Int) ≤ 1048576 ∧ ∀ c ∈ cs, SmallCraft c

end Go.Proofs.Ytngefbdedbbplaa.Ai
