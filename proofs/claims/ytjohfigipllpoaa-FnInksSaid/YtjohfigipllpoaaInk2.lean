/- Contracts of the functions on inked lines: runs. -/
import Derived.Test.YtjohfigipllpoaaInk
namespace Go.Proofs.Ytjohfigipllpoaa.Ai
open Go Go.Proofs
set_option linter.unusedSimpArgs false
set_option maxRecDepth 10000
set_option maxHeartbeats 4000000
set_option linter.unusedVariables false

-- lacks impl.InkRuns
-- lacks spec.BlankUnits
-- lacks spec.InkRuns
end Go.Proofs.Ytjohfigipllpoaa.Ai
