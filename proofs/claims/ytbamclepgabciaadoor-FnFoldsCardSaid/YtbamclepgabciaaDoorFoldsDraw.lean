/- What the law on folds draws. -/
import Derived.Test.YtbamclepgabciaaDoorFolds
namespace Go.Proofs.YtbamclepgabciaaDoor.Ai
open Go Go.Proofs
set_option linter.unusedSimpArgs false
set_option maxRecDepth 10000
set_option maxHeartbeats 4000000
set_option linter.unusedVariables false
theorem drawAreFolds_ok (code : List Int) (h : CurIn code) : OkA Tryd.prog 85 [.isl 1 (rows cU8 code)] (fun r => ∃ (q : List Fold), r = .fr 116 2 (rows cFold q) ∧ ((q.length : Int) ≤ 5)) :=
  fn_intro envOk fieldsOk mixed Tryd.func85 rfl fun κ X Y L Q m hQ => by
    conv => cbv
    refine r_mcall m.sX (cFolds_ok code 0 0 h (by omega) (by omega)) ?_
    rintro _ _ ⟨q1, rfl, ⟨a1, s1, rfl, ea1, fa1⟩, bq1⟩
    conv => cbv
    exact hQ (.fr 116 2 (rows cFold q1)) ⟨q1, rfl, (by first | omega | assumption | (simp; done) | (simp [*]; done) | (simp at *; omega))⟩   -- leaf 1

theorem drawPagesOnFront_ok (code : List Int) (h : CurIn code) : OkA Tryd.prog 25 [.isl 1 (rows cU8 code)] (fun r => ∃ (q : List Fold), r = .fr 116 2 (rows cFold q) ∧ ((q.length : Int) ≤ 5)) :=
  fn_intro envOk fieldsOk mixed Tryd.func25 rfl fun κ X Y L Q m hQ => by
    conv => cbv
    refine r_callE m.sX (drawAreFolds_ok code h) ?_
    rintro _ ⟨q1, rfl, bq1_1⟩
    conv => cbv
    exact hQ (.fr 116 2 (rows cFold q1)) ⟨q1, rfl, (by first | omega | assumption | (simp; done) | (simp [*]; done) | (simp at *; omega))⟩   -- leaf 1

theorem drawPlaceOfPage2_ok (code : List Int) (h : CurIn code) : OkA Tryd.prog 38 [.isl 1 (rows cU8 code)] (fun r => ∃ (q1 : List Fold) (q2 : Int), r = .tup [.fr 116 2 (rows cFold q1), .int .i64 q2] ∧ ((q1.length : Int) ≤ 5)) :=
  fn_intro envOk fieldsOk mixed Tryd.func38 rfl fun κ X Y L Q m hQ => by
    conv => cbv
    refine r_mcall m.sX (cFolds_ok code 0 0 h (by omega) (by omega)) ?_
    rintro _ _ ⟨l, rfl, ⟨a1, s1, rfl, ea1, fa1⟩, bl⟩
    conv => cbv
    refine r_mcall m.sX (cAmong_ok code a1 s1 ([5, 0, 33, -1]) (by simp) h (by omega) (by omega)) ?_
    rintro _ _ ⟨q1, rfl, ⟨a2, s2, rfl, ea2, fa2⟩, bq1⟩
    simp only [List.mem_cons, List.not_mem_nil, or_false] at bq1
    conv => cbv
    refine r_mcall m.sX (cAmong_ok code a2 s2 ([1, 2, 3, 4, 7, 8, 16, 32, q1]) (by simp) h (by omega) (by omega)) ?_
    rintro _ _ ⟨q2, rfl, ⟨a3, s3, rfl, ea3, fa3⟩, bq2⟩
    simp only [List.mem_cons, List.not_mem_nil, or_false] at bq2
    conv => cbv
    exact hQ (.tup [.fr 116 2 (rows cFold l), .int .i64 q2]) ⟨l, q2, rfl, (by first | omega | assumption | (simp; done) | (simp [*]; done) | (simp at *; omega))⟩   -- leaf 1

end Go.Proofs.YtbamclepgabciaaDoor.Ai
