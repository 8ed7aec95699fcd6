/- The law FnExactIsLearnt: its body returns true. -/
import Derived.Test.YtfjdfojjkhcfcaaLearnt
import Derived.Test.YtfjdfojjkhcfcaaLawAreCrafts
namespace Go.Proofs.Ytfjdfojjkhcfcaa.Ai
open Go Go.Proofs
set_option maxRecDepth 10000
set_option maxHeartbeats 4000000
set_option linter.unusedVariables false

end Go.Proofs.Ytfjdfojjkhcfcaa.Ai
