/- The law FnExactIsLearnt: its body returns true. -/
import Derived.Test.YtnamefdhmlbcpaaLearnt
import Derived.Test.YtnamefdhmlbcpaaLawAreCrafts
namespace Go.Proofs.Ytnamefdhmlbcpaa.Ai
open Go Go.Proofs
set_option maxRecDepth 10000
set_option maxHeartbeats 4000000
set_option linter.unusedVariables false

end Go.Proofs.Ytnamefdhmlbcpaa.Ai
