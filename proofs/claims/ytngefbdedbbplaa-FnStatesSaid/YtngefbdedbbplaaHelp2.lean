/- Contracts of the laws' helpers for []laws.Craft, continued. -/
import Derived.Test.YtngefbdedbbplaaHelp
namespace Go.Proofs.Ytngefbdedbbplaa.Ai
open Go Go.Proofs
set_option linter.unusedSimpArgs false
set_option maxRecDepth 10000
set_option maxHeartbeats 4000000
set_option linter.unusedVariables false

def zCraft : List PV := [.nil, .int .i64 0]

end Go.Proofs.Ytngefbdedbbplaa.Ai
