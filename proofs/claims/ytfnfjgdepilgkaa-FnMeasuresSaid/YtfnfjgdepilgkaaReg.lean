/- Contracts of the functions on register marks. -/
import Derived.Test.YtfnfjgdepilgkaaRegLaw
import Derived.Test.YtfnfjgdepilgkaaStr
namespace Go.Proofs.Ytfnfjgdepilgkaa.Ai
open Go Go.Proofs
set_option maxRecDepth 10000
set_option maxHeartbeats 4000000
set_option linter.unusedVariables false

theorem abs_ok (n : Int) (hn : -9000000000000000000 ≤ n ∧ n ≤ 9000000000000000000) : OkA Try.prog 95 [.int .i64 n] (· = .int .i64 (absI n)) :=
  fn_intro envOk fieldsOk mixed Try.func95 rfl fun κ X Y L Q m hQ => by
    conv => cbv
    refine r_neg m.sX fun r1 hr1 => ?_   -- r1 = wrap (-n)
    conv => cbv
    refine r_max m.sX fun r2 hr2 => ?_
    conv => cbv
    exact hQ (.int .i64 r2) (Eq.trans (by first | rfl | (simp only [lb, lbI, rows_cons, rows_nil, unnilT, unnil, unnilTI, unnilI]; done) | (simp only [lb, lbI, rows_cons, rows_nil, unnilT, unnil, unnilTI, unnilI]; rfl)) (congrArg (PV.int .i64) (show r2 = absI n from by rw [hr2, hr1, wrap64 (by omega) (by omega)]; rfl)))   -- leaf 1

theorem l1Abs_ok (n : Int) (hn : -9000000000000000000 ≤ n ∧ n ≤ 9000000000000000000) : OkA Try.prog 97 [.int .i64 n] (· = .int .i64 (absI n)) :=
  fn_intro envOk fieldsOk mixed Try.func97 rfl fun κ X Y L Q m hQ => by
    conv => cbv
    refine r_neg m.sX fun r1 hr1 => ?_   -- r1 = wrap (-n)
    have e1 : r1 = -n := by rw [hr1]; exact wrap64 (by omega) (by omega)
    conv => cbv
    refine r_callF (PV.int .i64) m.sX (l1Most_ok n r1) fun r2 hr2 => ?_
    conv => cbv
    exact hQ (.int .i64 r2) (Eq.trans (by first | rfl | (simp only [lb, lbI, rows_cons, rows_nil, unnilT, unnil, unnilTI, unnilI]; done) | (simp only [lb, lbI, rows_cons, rows_nil, unnilT, unnil, unnilTI, unnilI]; rfl)) (congrArg (PV.int .i64) (show r2 = absI n from by rw [hr2, hr1, wrap64 (by omega) (by omega)]; rfl)))   -- leaf 1

end Go.Proofs.Ytfnfjgdepilgkaa.Ai
