/- Contracts of what the law on the measures of lines draws. -/
import Derived.Test.YtnanackogloioaaRuns
import Derived.Test.YtnanackogloioaaCutDraw
namespace Go.Proofs.Ytnanackogloioaa.Ai
open Go Go.Proofs
set_option maxRecDepth 10000
set_option maxHeartbeats 4000000
set_option linter.unusedVariables false

theorem drawLineMeasures_ok (code : List Int) (h : CurIn code) : OkA Try.prog 173 [.isl 1 (rows cU8 code)] (fun r => ∃ (q1 : Int) (q2 : List CutIn) (q3 : Int), r = .tup [.int .i64 q1, .fr 167 4 (rows cCutIn q2), .int .i64 q3] ∧ (39 ≤ q1 ∧ q1 ≤ 601) ∧ (q2.length ≤ 12)) :=
  fn_intro envOk fieldsOk mixed Try.func173 rfl fun κ X Y L Q m hQ => by
    conv => cbv
    refine r_mcall m.sX (cCutIns_ok code 0 0 h (by omega) (by omega)) ?_
    rintro _ _ ⟨measure, l, rfl, ⟨a1, s1, rfl, ea1, fa1⟩, bmeasure⟩
    conv => cbv
    refine r_mcall m.sX (cLineNumber_ok code a1 s1 h (by omega) (by omega)) ?_
    rintro _ _ ⟨q1, rfl, ⟨a2, s2, rfl, ea2, fa2⟩⟩
    conv => cbv
    exact hQ (.tup [.int .i64 measure, .fr 167 4 (rows cCutIn l), .int .i64 q1]) ⟨measure, l, q1, rfl, (by first | omega | assumption | (simp; done) | (simp [*]; done) | (simp at *; omega)), (by first | omega | assumption | (simp; done) | (simp [*]; done) | (simp at *; omega))⟩   -- leaf 1

theorem drawRunsOf_ok (code : List Int) (h : CurIn code) : OkA Try.prog 67 [.isl 1 (rows cU8 code)] (fun r => ∃ (q1 : Int) (q2 : List CutIn) (q3 : Int), r = .tup [.int .i64 q1, .fr 167 4 (rows cCutIn q2), .int .i64 q3] ∧ (39 ≤ q1 ∧ q1 ≤ 601) ∧ (q2.length ≤ 12)) :=
  fn_intro envOk fieldsOk mixed Try.func67 rfl fun κ X Y L Q m hQ => by
    conv => cbv
    refine r_callE m.sX (drawLineMeasures_ok code h) ?_
    rintro _ ⟨q1, q2, q3, rfl, bq1_1, bq1_2⟩
    conv => cbv
    exact hQ (.tup [.int .i64 q1, .fr 167 4 (rows cCutIn q2), .int .i64 q3]) ⟨q1, q2, q3, rfl, (by first | omega | assumption | (simp; done) | (simp [*]; done) | (simp at *; omega)), (by first | omega | assumption | (simp; done) | (simp [*]; done) | (simp at *; omega))⟩   -- leaf 1

theorem drawLinesFor_ok (code : List Int) (h : CurIn code) : OkA Try.prog 77 [.isl 1 (rows cU8 code)] (fun r => ∃ (q1 : Int) (q2 : List CutIn) (q3 : Int), r = .tup [.int .i64 q1, .fr 167 4 (rows cCutIn q2), .int .i64 q3] ∧ (39 ≤ q1 ∧ q1 ≤ 601) ∧ (q2.length ≤ 12)) :=
  fn_intro envOk fieldsOk mixed Try.func77 rfl fun κ X Y L Q m hQ => by
    conv => cbv
    refine r_mcall m.sX (cCutIns_ok code 0 0 h (by omega) (by omega)) ?_
    rintro _ _ ⟨measure, l, rfl, ⟨a1, s1, rfl, ea1, fa1⟩, bmeasure⟩
    conv => cbv
    refine r_mcall m.sX (cPick_ok code a1 s1 3000 h (by omega) (by omega)) ?_
    rintro _ _ ⟨q1, rfl, ⟨a2, s2, rfl, ea2, fa2⟩, bq1, cq1, dq1⟩
    conv => cbv
    refine r_mcall m.sX (cAmong_ok code a2 s2 ([60000, 100000, 100001, -1]) (by simp) h (by omega) (by omega)) ?_
    rintro _ _ ⟨q2, rfl, ⟨a3, s3, rfl, ea3, fa3⟩, bq2⟩
    simp only [List.mem_cons, List.not_mem_nil, or_false] at bq2
    conv => cbv
    refine r_mcall m.sX (cAmong_ok code a3 s3 ([0, 1, 150, 600, 1000, q1, q2]) (by simp) h (by omega) (by omega)) ?_
    rintro _ _ ⟨q3, rfl, ⟨a4, s4, rfl, ea4, fa4⟩, bq3⟩
    simp only [List.mem_cons, List.not_mem_nil, or_false] at bq3
    conv => cbv
    exact hQ (.tup [.int .i64 measure, .fr 167 4 (rows cCutIn l), .int .i64 q3]) ⟨measure, l, q3, rfl, (by first | omega | assumption | (simp; done) | (simp [*]; done) | (simp at *; omega)), (by first | omega | assumption | (simp; done) | (simp [*]; done) | (simp at *; omega))⟩   -- leaf 1

theorem drawLinesOfInitial_ok (code : List Int) (h : CurIn code) : OkA Try.prog 80 [.isl 1 (rows cU8 code)] (fun r => ∃ (q1 : Int) (q2 : Int) (q3 : Int), r = .tup [.int .i64 q1, .int .i64 q2, .int .i64 q3]) :=
  fn_intro envOk fieldsOk mixed Try.func80 rfl fun κ X Y L Q m hQ => by
    conv => cbv
    refine r_mcall m.sX (cPick_ok code 0 0 60 h (by omega) (by omega)) ?_
    rintro _ _ ⟨q1, rfl, ⟨a1, s1, rfl, ea1, fa1⟩, bq1, cq1, dq1⟩
    conv => cbv
    refine r_addf m.sX (by omega) (by omega) fun r1 hr1 => ?_
    conv => cbv
    refine r_mcall m.sX (cAmong_ok code a1 s1 ([1, 1000, 0, 1001]) (by simp) h (by omega) (by omega)) ?_
    rintro _ _ ⟨q2, rfl, ⟨a2, s2, rfl, ea2, fa2⟩, bq2⟩
    simp only [List.mem_cons, List.not_mem_nil, or_false] at bq2
    conv => cbv
    refine r_mcall m.sX (cAmong_ok code a2 s2 ([30, 36, 24, r1, q2]) (by simp) h (by omega) (by omega)) ?_
    rintro _ _ ⟨q3, rfl, ⟨a3, s3, rfl, ea3, fa3⟩, bq3⟩
    simp only [List.mem_cons, List.not_mem_nil, or_false] at bq3
    conv => cbv
    refine r_mcall m.sX (cAmong_ok code a3 s3 ([1, 72, 0, 73]) (by simp) h (by omega) (by omega)) ?_
    rintro _ _ ⟨q4, rfl, ⟨a4, s4, rfl, ea4, fa4⟩, bq4⟩
    simp only [List.mem_cons, List.not_mem_nil, or_false] at bq4
    conv => cbv
    refine r_mcall m.sX (cAmong_ok code a4 s4 ([10, 12, 8, q4]) (by simp) h (by omega) (by omega)) ?_
    rintro _ _ ⟨q5, rfl, ⟨a5, s5, rfl, ea5, fa5⟩, bq5⟩
    simp only [List.mem_cons, List.not_mem_nil, or_false] at bq5
    conv => cbv
    refine r_mcall m.sX (cAmong_ok code a5 s5 ([36, -1, 37]) (by simp) h (by omega) (by omega)) ?_
    rintro _ _ ⟨q6, rfl, ⟨a6, s6, rfl, ea6, fa6⟩, bq6⟩
    simp only [List.mem_cons, List.not_mem_nil, or_false] at bq6
    conv => cbv
    refine r_mcall m.sX (cAmong_ok code a6 s6 ([0, 2, 1, q6]) (by simp) h (by omega) (by omega)) ?_
    rintro _ _ ⟨q7, rfl, ⟨a7, s7, rfl, ea7, fa7⟩, bq7⟩
    simp only [List.mem_cons, List.not_mem_nil, or_false] at bq7
    conv => cbv
    exact hQ (.tup [.int .i64 q3, .int .i64 q5, .int .i64 q7]) ⟨q3, q5, q7, rfl⟩   -- leaf 1

end Go.Proofs.Ytnanackogloioaa.Ai
