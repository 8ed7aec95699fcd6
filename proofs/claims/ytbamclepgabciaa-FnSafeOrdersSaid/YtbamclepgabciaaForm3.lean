/- Contracts of the reference's gifts. -/
import Derived.Test.YtbamclepgabciaaFormGive
namespace Go.Proofs.Ytbamclepgabciaa.Ai
open Go Go.Proofs
set_option linter.unusedSimpArgs false
set_option maxRecDepth 10000
set_option maxHeartbeats 4000000
set_option linter.unusedVariables false
end Go.Proofs.Ytbamclepgabciaa.Ai
