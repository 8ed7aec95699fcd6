/- A list of bytes as data of a row. -/
import Derived.Test.YtbamclepgabciaaDoorAiOpen
import Derived.Test.YtbamclepgabciaaDoorAiTypes
namespace Go.Proofs.YtbamclepgabciaaDoor.Ai
open Go Go.Proofs
set_option linter.unusedVariables false
set_option linter.unusedSimpArgs false
set_option maxRecDepth 100000

theorem opensU8 : Opens Tryd.prog 5 1 cU8 (fun x => 0 ≤ x ∧ x ≤ 255) := opens_u8 Tryd.underlying5 cells5
theorem opensU8S : Opens Tryd.prog 22 1 (fun xs => [.isl 1 (rows cU8 xs)]) (fun xs => ∀ x ∈ xs, 0 ≤ x ∧ x ≤ 255) := opens_slice Tryd.underlying22 cells22 (by decide) opensU8
end Go.Proofs.YtbamclepgabciaaDoor.Ai
