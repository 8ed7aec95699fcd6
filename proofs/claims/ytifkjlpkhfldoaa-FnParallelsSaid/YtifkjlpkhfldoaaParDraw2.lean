/- Contracts of what FnParallels draws. -/
import Derived.Test.YtifkjlpkhfldoaaParDraw
namespace Go.Proofs.Ytifkjlpkhfldoaa.Ai
open Go Go.Proofs
set_option maxRecDepth 10000
set_option maxHeartbeats 4000000
set_option linter.unusedVariables false
theorem drawJoinRows_ok (code : List Int) (h : CurIn code) : OkA Try.prog 81 [.isl 1 (rows cU8 code)] (fun r => ∃ (q1 : List (List Int)) (q2 : Int), r = .tup [.isl 1 (rows (cSl 1 cInt) q1), .int .i64 q2] ∧ ((q1.length : Int) ≤ 25)) :=
  fn_intro envOk fieldsOk mixed Try.func81 rfl fun κ X Y L Q m hQ => by
    conv => cbv
    refine r_mcall m.sX (cParallel_ok code 0 0 h (by omega) (by omega)) ?_
    rintro _ _ ⟨l, rfl, ⟨a1, s1, rfl, ea1, fa1⟩, bl_1⟩
    conv => cbv
    refine r_lenR m.sX fun n1 hn1 mn1 => ?_
    conv => cbv
    refine r_addf m.sX (by omega) (by omega) fun r1 hr1 => ?_
    conv => cbv
    refine r_mcall m.sX (cPick_ok code a1 s1 r1 h (by omega) (by omega)) ?_
    rintro _ _ ⟨q1, rfl, ⟨a2, s2, rfl, ea2, fa2⟩, bq1, cq1, dq1⟩
    conv => cbv
    refine r_lenR m.sX fun n2 hn2 mn2 => ?_
    conv => cbv
    refine r_subf m.sX (by omega) (by omega) fun r2 hr2 => ?_
    conv => cbv
    refine r_lenR m.sX fun n3 hn3 mn3 => ?_
    conv => cbv
    refine r_subf m.sX (by omega) (by omega) fun r3 hr3 => ?_
    conv => cbv
    refine r_mcall m.sX (cAmong_ok code a2 s2 ([r3, -1, -9223372036854775808]) (by simp) h (by omega) (by omega)) ?_
    rintro _ _ ⟨q2, rfl, ⟨a3, s3, rfl, ea3, fa3⟩, bq2⟩
    simp only [List.mem_cons, List.not_mem_nil, or_false] at bq2
    conv => cbv
    refine r_mcall m.sX (cAmong_ok code a3 s3 ([0, q1, r2, q2]) (by simp) h (by omega) (by omega)) ?_
    rintro _ _ ⟨q3, rfl, ⟨a4, s4, rfl, ea4, fa4⟩, bq3⟩
    simp only [List.mem_cons, List.not_mem_nil, or_false] at bq3
    conv => cbv
    exact hQ (.tup [.isl 1 (rows (cSl 1 cInt) l), .int .i64 q3]) ⟨l, q3, rfl, (by first | omega | assumption | (simp; done) | (simp [*]; done) | (simp at *; omega))⟩   -- leaf 1

theorem drawSavedBy_ok (code : List Int) (h : CurIn code) : OkA Try.prog 8 [.isl 1 (rows cU8 code)] (fun r => ∃ (q1 : List (List Int)) (q2 : Int), r = .tup [.isl 1 (rows (cSl 1 cInt) q1), .int .i64 q2] ∧ ((q1.length : Int) ≤ 25)) :=
  fn_intro envOk fieldsOk mixed Try.func8 rfl fun κ X Y L Q m hQ => by
    conv => cbv
    refine r_callE m.sX (drawJoinRows_ok code h) ?_
    rintro _ ⟨q1, q2, rfl, bq1_1⟩
    conv => cbv
    exact hQ (.tup [.isl 1 (rows (cSl 1 cInt) q1), .int .i64 q2]) ⟨q1, q2, rfl, (by first | omega | assumption | (simp; done) | (simp [*]; done) | (simp at *; omega))⟩   -- leaf 1

theorem drawSwapColumns_ok (code : List Int) (h : CurIn code) : OkA Try.prog 25 [.isl 1 (rows cU8 code)] (fun r => ∃ (q1 : List (List Int)) (q2 : Int) (q3 : Int), r = .tup [.isl 1 (rows (cSl 1 cInt) q1), .int .i64 q2, .int .i64 q3] ∧ ((q1.length : Int) ≤ 25)) :=
  fn_intro envOk fieldsOk mixed Try.func25 rfl fun κ X Y L Q m hQ => by
    conv => cbv
    refine r_mcall m.sX (cParallel_ok code 0 0 h (by omega) (by omega)) ?_
    rintro _ _ ⟨q1, rfl, ⟨a1, s1, rfl, ea1, fa1⟩, bq1_1⟩
    conv => cbv
    refine r_mcall m.sX (cAmong_ok code a1 s1 ([5, 6, -1]) (by simp) h (by omega) (by omega)) ?_
    rintro _ _ ⟨q2, rfl, ⟨a2, s2, rfl, ea2, fa2⟩, bq2⟩
    simp only [List.mem_cons, List.not_mem_nil, or_false] at bq2
    conv => cbv
    refine r_mcall m.sX (cAmong_ok code a2 s2 ([0, 1, 2, q2]) (by simp) h (by omega) (by omega)) ?_
    rintro _ _ ⟨q3, rfl, ⟨a3, s3, rfl, ea3, fa3⟩, bq3⟩
    simp only [List.mem_cons, List.not_mem_nil, or_false] at bq3
    conv => cbv
    refine r_mcall m.sX (cAmong_ok code a3 s3 ([5, 6, -1]) (by simp) h (by omega) (by omega)) ?_
    rintro _ _ ⟨q4, rfl, ⟨a4, s4, rfl, ea4, fa4⟩, bq4⟩
    simp only [List.mem_cons, List.not_mem_nil, or_false] at bq4
    conv => cbv
    refine r_mcall m.sX (cAmong_ok code a4 s4 ([0, 1, 2, q4]) (by simp) h (by omega) (by omega)) ?_
    rintro _ _ ⟨q5, rfl, ⟨a5, s5, rfl, ea5, fa5⟩, bq5⟩
    simp only [List.mem_cons, List.not_mem_nil, or_false] at bq5
    conv => cbv
    exact hQ (.tup [.isl 1 (rows (cSl 1 cInt) q1), .int .i64 q3, .int .i64 q5]) ⟨q1, q3, q5, rfl, (by first | omega | assumption | (simp; done) | (simp [*]; done) | (simp at *; omega))⟩   -- leaf 1

end Go.Proofs.Ytifkjlpkhfldoaa.Ai
