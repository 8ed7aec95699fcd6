/- The law's body. -/
import Derived.Test.YtnamefdhmlbcpaaCraft
namespace Go.Proofs.Ytnamefdhmlbcpaa.Ai
open Go Go.Proofs
set_option maxRecDepth 10000
set_option maxHeartbeats 4000000
set_option linter.unusedVariables false


end Go.Proofs.Ytnamefdhmlbcpaa.Ai
