/- Contracts of CheapestTariff and of the laws' helpers for []laws.Tariff. -/
import Derived.Test.YtfjdfojjkhcfcaaTariff
namespace Go.Proofs.Ytfjdfojjkhcfcaa.Ai
open Go Go.Proofs
set_option maxRecDepth 10000
set_option maxHeartbeats 4000000
set_option linter.unusedVariables false

def iib (p : Int × Int × Bool) : PV := .tup [.int .i64 p.1, .int .i64 p.2.1, .bool p.2.2]

section
variable (ens pg mi : Int)
def cheapFrom : Int → Int → Int → List Tariff → Int × Int × Bool
  | _, best, least, [] => (best, least, true)
  | i, best, least, t :: r => if goodT t then (if least < 0 ∨ priceF t ens pg mi < least then cheapFrom (i + 1) i (priceF t ens pg mi) r else cheapFrom (i + 1) best least r) else (0, 0, false)
def jobOk : Bool := inB ens 0 3000000 && inB pg 0 10000 && inB mi 0 10000
def cheapest (xs : List Tariff) : Int × Int × Bool := if inB xs.length 1 10 && jobOk ens pg mi then cheapFrom ens pg mi 0 0 (-1) xs else (0, 0, false)
end

theorem esJob_ok (a b c : Int) : OkA Try.prog 85 [.int .i64 a, .int .i64 b, .int .i64 c] (· = .bool (jobOk a b c)) :=
  fn_intro envOk fieldsOk mixed Try.func85 rfl fun κ X Y L Q m hQ => by
    conv => cbv
    refine r_callB m.sX (esEns_ok a) (fun h1 => ?_) (fun h1 => ?_) <;> conv => cbv
    · refine r_callB m.sX (l1In_ok b 0 10000) (fun h2 => ?_) (fun h2 => ?_) <;> conv => cbv
      · refine r_callF PV.bool m.sX (l1In_ok c 0 10000) fun r hr => ?_
        conv => cbv
        exact hQ _ (congrArg PV.bool (by rw [jobOk, h1, h2, hr]; rfl))
      · exact hQ _ (congrArg PV.bool (by rw [jobOk, h1, h2]; rfl))
    · exact hQ _ (congrArg PV.bool (by rw [jobOk, h1]; rfl))

end Go.Proofs.Ytfjdfojjkhcfcaa.Ai
