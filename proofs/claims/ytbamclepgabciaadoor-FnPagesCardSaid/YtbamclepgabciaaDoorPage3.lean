/- The contract of the reference's clean pages. -/
import Derived.Test.YtbamclepgabciaaDoorPage2
namespace Go.Proofs.YtbamclepgabciaaDoor.Ai
open Go Go.Proofs
set_option linter.unusedSimpArgs false
set_option maxRecDepth 10000
set_option maxHeartbeats 4000000
set_option linter.unusedVariables false

end Go.Proofs.YtbamclepgabciaaDoor.Ai
