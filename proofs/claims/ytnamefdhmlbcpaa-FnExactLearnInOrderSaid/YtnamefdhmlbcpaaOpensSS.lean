/- A list of lists of numbers as data of a row. -/
import Derived.Test.YtnamefdhmlbcpaaOpensCraft
namespace Go.Proofs.Ytnamefdhmlbcpaa.Ai
open Go Go.Proofs
set_option maxRecDepth 100000

theorem opensIntSS : Opens Try.prog 23 1 (fun xs => [.isl 1 (rows (cSl 1 cInt) xs)]) (fun xs => ∀ x ∈ xs, ∀ y ∈ x, Fits y) := opens_slice Try.underlying23 cells23 (by decide) opensIntS
end Go.Proofs.Ytnamefdhmlbcpaa.Ai
