/- A list of lists of numbers as data of a row. -/
import Derived.Test.YtcjghcagliamfaaOpensCraft
namespace Go.Proofs.Ytcjghcagliamfaa.Ai
open Go Go.Proofs
set_option maxRecDepth 100000

theorem opensIntSS : Opens Try.prog 37 1 (fun xs => [.isl 1 (rows (cSl 1 cInt) xs)]) (fun xs => ∀ x ∈ xs, ∀ y ∈ x, Fits y) := opens_slice Try.underlying37 cells37 (by decide) opensIntS
end Go.Proofs.Ytcjghcagliamfaa.Ai
