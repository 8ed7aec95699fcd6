/- The law's body. -/
import Derived.Test.YtcjghcagliamfaaCraft
namespace Go.Proofs.Ytcjghcagliamfaa.Ai
open Go Go.Proofs
set_option maxRecDepth 10000
set_option maxHeartbeats 4000000
set_option linter.unusedVariables false


end Go.Proofs.Ytcjghcagliamfaa.Ai
