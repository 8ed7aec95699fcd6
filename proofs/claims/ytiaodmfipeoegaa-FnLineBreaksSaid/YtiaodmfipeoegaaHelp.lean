/- Contracts of the laws' helpers for []int and []laws.Craft. -/
import Derived.Test.YtiaodmfipeoegaaAiTypes
import Derived.Test.YtiaodmfipeoegaaAiBase
namespace Go.Proofs.Ytiaodmfipeoegaa.Ai
open Go Go.Proofs
set_option linter.unusedSimpArgs false
set_option maxRecDepth 10000
set_option maxHeartbeats 4000000
set_option linter.unusedVariables false

abbrev Craft := List Int × Int
end Go.Proofs.Ytiaodmfipeoegaa.Ai
