/- Contracts of what the laws on tables draw, too. -/
import Derived.Test.YtpjmpgbgglhoeaaTable2
import Derived.Test.YtpjmpgbgglhoeaaTableDraw
namespace Go.Proofs.Ytpjmpgbgglhoeaa.Ai
open Go Go.Proofs
set_option maxRecDepth 10000
set_option maxHeartbeats 4000000
set_option linter.unusedVariables false

theorem drawTightEntries_ok (code : List Int) (h : CurIn code) : OkA Try.prog 56 [.isl 1 (rows cU8 code)] (fun r => ∃ (q1 : Int) (q2 : List Entry) (q3 : Int), r = .tup [.int .i64 q1, .fr 196 3 (rows cEntry q2), .int .i64 q3] ∧ (q2.length ≤ 21) ∧ (-1 ≤ q1 ∧ q1 ≤ 11)) :=
  fn_intro envOk fieldsOk mixed Try.func56 rfl fun κ X Y L Q m hQ => by
    conv => cbv
    refine r_callE m.sX (drawLeastStarts_ok code h) ?_
    rintro _ ⟨q1, q2, q3, rfl, bq1_1, bq1_2⟩
    conv => cbv
    exact hQ (.tup [.int .i64 q1, .fr 196 3 (rows cEntry q2), .int .i64 q3]) ⟨q1, q2, q3, rfl, (by first | omega | assumption | (simp; done) | (simp [*]; done) | (simp at *; omega)), (by first | omega | assumption | (simp; done) | (simp [*]; done) | (simp at *; omega))⟩   -- leaf 1

theorem drawLatestColumns_ok (code : List Int) (h : CurIn code) : OkA Try.prog 63 [.isl 1 (rows cU8 code)] (fun r => ∃ (q1 : Int) (q2 : List Entry) (q3 : Int) (q4 : Int), r = .tup [.int .i64 q1, .fr 196 3 (rows cEntry q2), .int .i64 q3, .int .i64 q4] ∧ (q2.length ≤ 21) ∧ (-1 ≤ q1 ∧ q1 ≤ 11)) :=
  fn_intro envOk fieldsOk mixed Try.func63 rfl fun κ X Y L Q m hQ => by
    conv => cbv
    refine r_mcall m.sX (cTable_ok code 0 0 h (by omega) (by omega)) ?_
    rintro _ _ ⟨n, l, rfl, ⟨a1, s1, rfl, ea1, fa1⟩, bn_1, bn_2⟩
    conv => cbv
    refine r_mcall m.sX (cGapOf_ok code a1 s1 h (by omega) (by omega)) ?_
    rintro _ _ ⟨gap, rfl, ⟨a2, s2, rfl, ea2, fa2⟩, bgap_1⟩
    conv => cbv
    refine .inl (r_callBO m.sX ((tbAsked_ok n l gap (by first | rfl | assumption | omega | (simp only [List.length_append, List.length_cons, List.length_nil] at *; omega))).ok flat_bool) (fun h1 => ?_) (fun h1 => ?_)) <;> conv => cbv
    · have ht := okG_in h1
      have hgp := ht.gap
      have hc := ht.cols
      have sb := sAt_bound ht n.toNat
      refine r_mcall m.sX (cOne_ok code a2 s2 3 h (by omega) (by omega)) ?_
      rintro _ _ ⟨q1, rfl, ⟨a3, s3, rfl, ea3, fa3⟩⟩
      conv => cbv
      rcases Bool.eq_false_or_eq_true q1 with rfl | rfl <;> conv => cbv
      · refine r_mcall m.sX (cAmong_ok code a3 s3 ([0, 50, 200, 5000, 5001, -1]) (by simp) h (by omega) (by omega)) ?_
        rintro _ _ ⟨q2, rfl, ⟨a4, s4, rfl, ea4, fa4⟩, bq2⟩
        simp only [List.mem_cons, List.not_mem_nil, or_false] at bq2
        conv => cbv
        exact hQ (.tup [.int .i64 n, .fr 196 3 (rows cEntry l), .int .i64 gap, .int .i64 q2]) ⟨n, l, gap, q2, rfl, (by first | omega | assumption | (simp; done) | (simp [*]; done) | (simp at *; omega)), (by first | omega | assumption | (simp; done) | (simp [*]; done) | (simp at *; omega))⟩   -- leaf 1
      · refine .inl (r_callFO intPV m.sX ((tbWidth_ok n l gap (by first | rfl | assumption | omega | (simp only [List.length_append, List.length_cons, List.length_nil] at *; omega))).ok flat_int) fun r1 hr1 => ?_)
        conv => cbv
        refine r_mcall m.sX (cAmong_ok code a3 s3 ([0, 1, 5, 17, 40, -1]) (by simp) h (by omega) (by omega)) ?_
        rintro _ _ ⟨q3, rfl, ⟨a5, s5, rfl, ea5, fa5⟩, bq3⟩
        simp only [List.mem_cons, List.not_mem_nil, or_false] at bq3
        conv => cbv
        refine r_addf m.sX (by omega) (by omega) fun r2 hr2 => ?_
        conv => cbv
        exact hQ (.tup [.int .i64 n, .fr 196 3 (rows cEntry l), .int .i64 gap, .int .i64 r2]) ⟨n, l, gap, r2, rfl, (by first | omega | assumption | (simp; done) | (simp [*]; done) | (simp at *; omega)), (by first | omega | assumption | (simp; done) | (simp [*]; done) | (simp at *; omega))⟩   -- leaf 2
    · refine r_mcall m.sX (cAmong_ok code a2 s2 ([0, 50, 200, 5000, 5001, -1]) (by simp) h (by omega) (by omega)) ?_
      rintro _ _ ⟨q4, rfl, ⟨a6, s6, rfl, ea6, fa6⟩, bq4⟩
      simp only [List.mem_cons, List.not_mem_nil, or_false] at bq4
      conv => cbv
      exact hQ (.tup [.int .i64 n, .fr 196 3 (rows cEntry l), .int .i64 gap, .int .i64 q4]) ⟨n, l, gap, q4, rfl, (by first | omega | assumption | (simp; done) | (simp [*]; done) | (simp at *; omega)), (by first | omega | assumption | (simp; done) | (simp [*]; done) | (simp at *; omega))⟩   -- leaf 3

theorem drawRoomOfEntry_ok (code : List Int) (h : CurIn code) : OkA Try.prog 237 [.isl 1 (rows cU8 code)] (fun r => ∃ (q1 : Int) (q2 : List Entry) (q3 : Int) (q4 : Int), r = .tup [.int .i64 q1, .fr 196 3 (rows cEntry q2), .int .i64 q3, .int .i64 q4] ∧ (q2.length ≤ 21) ∧ (-1 ≤ q1 ∧ q1 ≤ 11)) :=
  fn_intro envOk fieldsOk mixed Try.func237 rfl fun κ X Y L Q m hQ => by
    conv => cbv
    refine r_mcall m.sX (cTable_ok code 0 0 h (by omega) (by omega)) ?_
    rintro _ _ ⟨n, l, rfl, ⟨a1, s1, rfl, ea1, fa1⟩, bn_1, bn_2⟩
    conv => cbv
    refine r_mcall m.sX (cGapOf_ok code a1 s1 h (by omega) (by omega)) ?_
    rintro _ _ ⟨q1, rfl, ⟨a2, s2, rfl, ea2, fa2⟩, bq1_1⟩
    conv => cbv
    refine r_lenR m.sX fun n1 hn1 mn1 => ?_
    conv => cbv
    refine r_addf m.sX (by omega) (by omega) fun r1 hr1 => ?_
    conv => cbv
    refine r_mcall m.sX (cPick_ok code a2 s2 r1 h (by omega) (by omega)) ?_
    rintro _ _ ⟨q2, rfl, ⟨a3, s3, rfl, ea3, fa3⟩, bq2, cq2, dq2⟩
    conv => cbv
    refine r_lenR m.sX fun n2 hn2 mn2 => ?_
    conv => cbv
    refine r_addf m.sX (by omega) (by omega) fun r2 hr2 => ?_
    conv => cbv
    refine r_mcall m.sX (cPick_ok code a3 s3 r2 h (by omega) (by omega)) ?_
    rintro _ _ ⟨q3, rfl, ⟨a4, s4, rfl, ea4, fa4⟩, bq3, cq3, dq3⟩
    conv => cbv
    refine r_lenR m.sX fun n3 hn3 mn3 => ?_
    conv => cbv
    refine r_subf m.sX (by omega) (by omega) fun r3 hr3 => ?_
    conv => cbv
    refine r_lenR m.sX fun n4 hn4 mn4 => ?_
    conv => cbv
    refine r_mcall m.sX (cAmong_ok code a4 s4 ([n4, -1]) (by simp) h (by omega) (by omega)) ?_
    rintro _ _ ⟨q4, rfl, ⟨a5, s5, rfl, ea5, fa5⟩, bq4⟩
    simp only [List.mem_cons, List.not_mem_nil, or_false] at bq4
    conv => cbv
    refine r_mcall m.sX (cAmong_ok code a5 s5 ([0, q2, q3, r3, q4]) (by simp) h (by omega) (by omega)) ?_
    rintro _ _ ⟨q5, rfl, ⟨a6, s6, rfl, ea6, fa6⟩, bq5⟩
    simp only [List.mem_cons, List.not_mem_nil, or_false] at bq5
    conv => cbv
    exact hQ (.tup [.int .i64 n, .fr 196 3 (rows cEntry l), .int .i64 q1, .int .i64 q5]) ⟨n, l, q1, q5, rfl, (by first | omega | assumption | (simp; done) | (simp [*]; done) | (simp at *; omega)), (by first | omega | assumption | (simp; done) | (simp [*]; done) | (simp at *; omega))⟩   -- leaf 1

theorem drawWidthWithout_ok (code : List Int) (h : CurIn code) : OkA Try.prog 69 [.isl 1 (rows cU8 code)] (fun r => ∃ (q1 : Int) (q2 : List Entry) (q3 : Int) (q4 : Int), r = .tup [.int .i64 q1, .fr 196 3 (rows cEntry q2), .int .i64 q3, .int .i64 q4] ∧ (q2.length ≤ 21) ∧ (-1 ≤ q1 ∧ q1 ≤ 11)) :=
  fn_intro envOk fieldsOk mixed Try.func69 rfl fun κ X Y L Q m hQ => by
    conv => cbv
    refine r_callE m.sX (drawRoomOfEntry_ok code h) ?_
    rintro _ ⟨q1, q2, q3, q4, rfl, bq1_1, bq1_2⟩
    conv => cbv
    exact hQ (.tup [.int .i64 q1, .fr 196 3 (rows cEntry q2), .int .i64 q3, .int .i64 q4]) ⟨q1, q2, q3, q4, rfl, (by first | omega | assumption | (simp; done) | (simp [*]; done) | (simp at *; omega)), (by first | omega | assumption | (simp; done) | (simp [*]; done) | (simp at *; omega))⟩   -- leaf 1

end Go.Proofs.Ytpjmpgbgglhoeaa.Ai
