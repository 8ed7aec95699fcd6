/- Contracts of the functions on register marks. -/
import Derived.Test.YtjohfigipllpoaaRegLaw
import Derived.Test.YtjohfigipllpoaaStr
namespace Go.Proofs.Ytjohfigipllpoaa.Ai
open Go Go.Proofs
set_option linter.unusedSimpArgs false
set_option maxRecDepth 10000
set_option maxHeartbeats 4000000
set_option linter.unusedVariables false

-- lacks impl.areMarksOf
-- lacks impl.abs
-- lacks impl.RegisterShift
-- lacks spec.l1Abs
-- lacks spec.coApart
-- lacks spec.RegisterShift
-- lacks laws.qAway
end Go.Proofs.Ytjohfigipllpoaa.Ai
