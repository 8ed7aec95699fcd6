/- Contracts of what the law on fonts draws. -/
import Derived.Test.YtkdaikliahnenaaFontDraw
namespace Go.Proofs.Ytkdaikliahnenaa.Ai
open Go Go.Proofs
set_option maxRecDepth 10000
set_option maxHeartbeats 4000000
set_option linter.unusedVariables false
theorem drawSortsOfWord_ok (code : List Int) (h : CurIn code) : OkA Try.prog 7 [.isl 1 (rows cU8 code)] (fun r => ∃ (q1 : List FSort) (q2 : List UInt8), r = .tup [.fr 39 2 (rows cSort q1), .str q2] ∧ ((q1.length : Int) ≤ 40) ∧ ((q2.length : Int) ≤ 20)) :=
  fn_intro envOk fieldsOk mixed Try.func7 rfl fun κ X Y L Q m hQ => by
    conv => cbv
    refine r_mcall m.sX (cAnyFont_ok code 0 0 h (by omega) (by omega)) ?_
    rintro _ _ ⟨q1, rfl, ⟨a1, s1, rfl, ea1, fa1⟩, bq1_1, bq1_2⟩
    conv => cbv
    refine r_mcall m.sX (cAnyWord_ok code a1 s1 h (by omega) (by omega)) ?_
    rintro _ _ ⟨q2, rfl, ⟨a2, s2, rfl, ea2, fa2⟩, bq2_1⟩
    conv => cbv
    exact hQ (.tup [.fr 39 2 (rows cSort q1), .str q2]) ⟨q1, q2, rfl, (by first | omega | assumption | (simp; done) | (simp [*]; done) | (simp at *; omega)), (by first | omega | assumption | (simp; done) | (simp [*]; done) | (simp at *; omega))⟩   -- leaf 1

end Go.Proofs.Ytkdaikliahnenaa.Ai
