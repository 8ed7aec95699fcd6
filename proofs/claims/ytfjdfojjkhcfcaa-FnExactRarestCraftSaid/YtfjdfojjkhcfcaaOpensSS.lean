/- A list of lists of numbers as data of a row. -/
import Derived.Test.YtfjdfojjkhcfcaaOpensCraft
namespace Go.Proofs.Ytfjdfojjkhcfcaa.Ai
open Go Go.Proofs
set_option maxRecDepth 100000

theorem opensIntSS : Opens Try.prog 62 1 (fun xs => [.isl 1 (rows (cSl 1 cInt) xs)]) (fun xs => ∀ x ∈ xs, ∀ y ∈ x, Fits y) := opens_slice Try.underlying62 cells62 (by decide) opensIntS
end Go.Proofs.Ytfjdfojjkhcfcaa.Ai
