/- The law FnExactIsLearnt: its body returns true. -/
import Derived.Test.YtcjghcagliamfaaLearnt
import Derived.Test.YtcjghcagliamfaaLawAreCrafts
namespace Go.Proofs.Ytcjghcagliamfaa.Ai
open Go Go.Proofs
set_option maxRecDepth 10000
set_option maxHeartbeats 4000000
set_option linter.unusedVariables false

end Go.Proofs.Ytcjghcagliamfaa.Ai
