/- A list of bytes as data of a row. -/
import Derived.Test.YtifkjlpkhfldoaaAiOpen
import Derived.Test.YtifkjlpkhfldoaaAiTypes
namespace Go.Proofs.Ytifkjlpkhfldoaa.Ai
open Go Go.Proofs
set_option maxRecDepth 100000

theorem opensU8 : Opens Try.prog 5 1 cU8 (fun x => 0 ≤ x ∧ x ≤ 255) := opens_u8 Try.underlying5 cells5
theorem opensU8S : Opens Try.prog 22 1 (fun xs => [.isl 1 (rows cU8 xs)]) (fun xs => ∀ x ∈ xs, 0 ≤ x ∧ x ≤ 255) := opens_slice Try.underlying22 cells22 (by decide) opensU8
end Go.Proofs.Ytifkjlpkhfldoaa.Ai
