/- Contracts of what the law on creeps draws. -/
import Derived.Test.YtnanackogloioaaCreep
import Derived.Test.YtnanackogloioaaFoldDraw
namespace Go.Proofs.Ytnanackogloioaa.Ai
open Go Go.Proofs
set_option maxRecDepth 10000
set_option maxHeartbeats 4000000
set_option linter.unusedVariables false

theorem cMargins_ok (code : List Int) (b0 t0 : Int)  (h : CurIn code) (h0 : 0 ≤ b0) (hk : b0 ≤ 899999999999976000)  : OkM Try.prog 136 (cCur code b0 t0) [] (fun r cs => ∃ (q : Margins), r = .agg (cMargins q) ∧ CurTo code b0 24 cs) :=
  fnM_intro envOk fieldsOk mixed Try.func136 rfl fun κ X Y L Q m hQ => by
    conv => cbv
    refine r_mcall m.sX (cPick_ok code b0 t0 40 h (by omega) (by omega)) ?_
    rintro _ _ ⟨q1, rfl, ⟨a1, s1, rfl, ea1, fa1⟩, bq1, cq1, dq1⟩
    conv => cbv
    refine r_addf m.sX (by omega) (by omega) fun r1 hr1 => ?_
    conv => cbv
    refine r_mcall m.sX (cPick_ok code a1 s1 40 h (by omega) (by omega)) ?_
    rintro _ _ ⟨q2, rfl, ⟨a2, s2, rfl, ea2, fa2⟩, bq2, cq2, dq2⟩
    conv => cbv
    refine r_addf m.sX (by omega) (by omega) fun r2 hr2 => ?_
    conv => cbv
    refine r_mcall m.sX (cPick_ok code a2 s2 50 h (by omega) (by omega)) ?_
    rintro _ _ ⟨q3, rfl, ⟨a3, s3, rfl, ea3, fa3⟩, bq3, cq3, dq3⟩
    conv => cbv
    refine r_addf m.sX (by omega) (by omega) fun r3 hr3 => ?_
    conv => cbv
    refine r_mcall m.sX (cPick_ok code a3 s3 60 h (by omega) (by omega)) ?_
    rintro _ _ ⟨q4, rfl, ⟨a4, s4, rfl, ea4, fa4⟩, bq4, cq4, dq4⟩
    conv => cbv
    refine r_addf m.sX (by omega) (by omega) fun r4 hr4 => ?_
    conv => cbv
    refine r_mcall m.sX (cPick_ok code a4 s4 24 h (by omega) (by omega)) ?_
    rintro _ _ ⟨q5, rfl, ⟨a5, s5, rfl, ea5, fa5⟩, bq5, cq5, dq5⟩
    conv => cbv
    refine r_eql m.sX (fun h1 => ?_) (fun h1 => ?_) <;> conv => cbv
    · refine r_mcall m.sX (cAmong_ok code a5 s5 ([0, 1, 2, 300, 301, -1]) (by simp) h (by omega) (by omega)) ?_
      rintro _ _ ⟨q6, rfl, ⟨a6, s6, rfl, ea6, fa6⟩, bq6⟩
      simp only [List.mem_cons, List.not_mem_nil, or_false] at bq6
      conv => cbv
      exact hQ (.agg [.int .i64 r1, .int .i64 q6, .int .i64 r3, .int .i64 r4]) (cCur code a6 s6) ⟨(r1, q6, r3, r4), rfl, ⟨a6, s6, rfl, by omega, by omega⟩⟩   -- leaf 1
    · refine r_eql m.sX (fun h2 => ?_) (fun h2 => ?_) <;> conv => cbv
      · refine r_mcall m.sX (cAmong_ok code a5 s5 ([0, 3, 300, 301, -1]) (by simp) h (by omega) (by omega)) ?_
        rintro _ _ ⟨q7, rfl, ⟨a7, s7, rfl, ea7, fa7⟩, bq7⟩
        simp only [List.mem_cons, List.not_mem_nil, or_false] at bq7
        conv => cbv
        exact hQ (.agg [.int .i64 r1, .int .i64 r2, .int .i64 q7, .int .i64 r4]) (cCur code a7 s7) ⟨(r1, r2, q7, r4), rfl, ⟨a7, s7, rfl, by omega, by omega⟩⟩   -- leaf 2
      · refine r_eql m.sX (fun h3 => ?_) (fun h3 => ?_) <;> conv => cbv
        · refine r_mcall m.sX (cAmong_ok code a5 s5 ([0, 300, -1, -9223372036854775808]) (by simp) h (by omega) (by omega)) ?_
          rintro _ _ ⟨q8, rfl, ⟨a8, s8, rfl, ea8, fa8⟩, bq8⟩
          simp only [List.mem_cons, List.not_mem_nil, or_false] at bq8
          conv => cbv
          exact hQ (.agg [.int .i64 q8, .int .i64 r2, .int .i64 r3, .int .i64 r4]) (cCur code a8 s8) ⟨(q8, r2, r3, r4), rfl, ⟨a8, s8, rfl, by omega, by omega⟩⟩   -- leaf 3
        · exact hQ (.agg [.int .i64 r1, .int .i64 r2, .int .i64 r3, .int .i64 r4]) (cCur code a5 s5) ⟨(r1, r2, r3, r4), rfl, ⟨a5, s5, rfl, by omega, by omega⟩⟩   -- leaf 4

theorem cMargins_ex (code : List Int) (b0 t0 : Int) : ∃ r cs, (∃ (q : Margins), r = PV.agg (cMargins q) ∧ CurTo code b0 24 cs) :=
  ⟨_, _, (0, 0, 0, 0), rfl, ⟨b0, t0, rfl, by omega, by omega⟩⟩

theorem cThickness_ok (code : List Int) (b0 t0 : Int)  (h : CurIn code) (h0 : 0 ≤ b0) (hk : b0 ≤ 899999999999990000)  : OkM Try.prog 137 (cCur code b0 t0) [] (fun r cs => ∃ (q : Int), r = .int .i64 q ∧ CurTo code b0 10 cs) :=
  fnM_intro envOk fieldsOk mixed Try.func137 rfl fun κ X Y L Q m hQ => by
    conv => cbv
    refine r_mcall m.sX (cAmong_ok code b0 t0 ([500, -1, 501]) (by simp) h (by omega) (by omega)) ?_
    rintro _ _ ⟨q1, rfl, ⟨a1, s1, rfl, ea1, fa1⟩, bq1⟩
    simp only [List.mem_cons, List.not_mem_nil, or_false] at bq1
    conv => cbv
    refine r_mcall m.sX (cAmong_ok code a1 s1 ([0, 50, 100, 150, 240, q1]) (by simp) h (by omega) (by omega)) ?_
    rintro _ _ ⟨q2, rfl, ⟨a2, s2, rfl, ea2, fa2⟩, bq2⟩
    simp only [List.mem_cons, List.not_mem_nil, or_false] at bq2
    conv => cbv
    exact hQ (.int .i64 q2) (cCur code a2 s2) ⟨q2, rfl, ⟨a2, s2, rfl, by omega, by omega⟩⟩   -- leaf 1

theorem cThickness_ex (code : List Int) (b0 t0 : Int) : ∃ r cs, (∃ (q : Int), r = PV.int .i64 q ∧ CurTo code b0 10 cs) :=
  ⟨_, _, 0, rfl, ⟨b0, t0, rfl, by omega, by omega⟩⟩

theorem cPageSide_ok (code : List Int) (b0 t0 : Int)  (h : CurIn code) (h0 : 0 ≤ b0) (hk : b0 ≤ 899999999999988000)  : OkM Try.prog 150 (cCur code b0 t0) [] (fun r cs => ∃ (q : Int), r = .int .i64 q ∧ CurTo code b0 12 cs) :=
  fnM_intro envOk fieldsOk mixed Try.func150 rfl fun κ X Y L Q m hQ => by
    conv => cbv
    refine r_mcall m.sX (cPick_ok code b0 t0 300 h (by omega) (by omega)) ?_
    rintro _ _ ⟨q1, rfl, ⟨a1, s1, rfl, ea1, fa1⟩, bq1, cq1, dq1⟩
    conv => cbv
    refine r_addf m.sX (by omega) (by omega) fun r1 hr1 => ?_
    conv => cbv
    refine r_mcall m.sX (cAmong_ok code a1 s1 ([60, 2000, 59, 2001, 100]) (by simp) h (by omega) (by omega)) ?_
    rintro _ _ ⟨q2, rfl, ⟨a2, s2, rfl, ea2, fa2⟩, bq2⟩
    simp only [List.mem_cons, List.not_mem_nil, or_false] at bq2
    conv => cbv
    refine r_mcall m.sX (cAmong_ok code a2 s2 ([300, 450, 200, r1, q2]) (by simp) h (by omega) (by omega)) ?_
    rintro _ _ ⟨q3, rfl, ⟨a3, s3, rfl, ea3, fa3⟩, bq3⟩
    simp only [List.mem_cons, List.not_mem_nil, or_false] at bq3
    conv => cbv
    exact hQ (.int .i64 q3) (cCur code a3 s3) ⟨q3, rfl, ⟨a3, s3, rfl, by omega, by omega⟩⟩   -- leaf 1

theorem cPageSide_ex (code : List Int) (b0 t0 : Int) : ∃ r cs, (∃ (q : Int), r = PV.int .i64 q ∧ CurTo code b0 12 cs) :=
  ⟨_, _, 0, rfl, ⟨b0, t0, rfl, by omega, by omega⟩⟩

theorem drawBacksOf_ok (code : List Int) (h : CurIn code) : OkA Try.prog 35 [.isl 1 (rows cU8 code)] (fun r => ∃ (q1 : List Fold) (q2 : Margins) (q3 : Int), r = .tup [.fr 182 2 (rows cFold q1), .agg (cMargins q2), .int .i64 q3]) :=
  fn_intro envOk fieldsOk mixed Try.func35 rfl fun κ X Y L Q m hQ => by
    conv => cbv
    refine r_mcall m.sX (cFolds_ok code 0 0 h (by omega) (by omega)) ?_
    rintro _ _ ⟨folds, rfl, ⟨a1, s1, rfl, ea1, fa1⟩, bfolds⟩
    conv => cbv
    refine r_mcall m.sX (cMargins_ok code a1 s1 h (by omega) (by omega)) ?_
    rintro _ _ ⟨⟨m_A, m_B, m_C, m_D⟩, rfl, ⟨a2, s2, rfl, ea2, fa2⟩⟩
    conv => cbv
    refine r_mcall m.sX (cOne_ok code a2 s2 4 h (by omega) (by omega)) ?_
    rintro _ _ ⟨q1, rfl, ⟨a3, s3, rfl, ea3, fa3⟩⟩
    conv => cbv
    rcases Bool.eq_false_or_eq_true q1 with rfl | rfl <;> conv => cbv
    · refine r_mcall m.sX (cPick_ok code a3 s3 6 h (by omega) (by omega)) ?_
      rintro _ _ ⟨q2, rfl, ⟨a4, s4, rfl, ea4, fa4⟩, bq2, cq2, dq2⟩
      conv => cbv
      refine r_mcall m.sX (cPick_ok code a4 s4 6 h (by omega) (by omega)) ?_
      rintro _ _ ⟨q3, rfl, ⟨a5, s5, rfl, ea5, fa5⟩, bq3, cq3, dq3⟩
      conv => cbv
      refine r_draw m (by kernel_rfl) ?_
      conv => cbv
      refine r_mcallS m.sY (cThickness_ok code a5 s5 h (by omega) (by omega)) (cThickness_ex code a5 s5) (by rintro _ _ ⟨_, rfl, _⟩; first | trivial | (intro x hx; simp at hx; rcases hx with rfl | rfl | rfl <;> trivial)) ?_
      rintro _ _ ⟨q4, rfl, ⟨a6, s6, rfl, ea6, fa6⟩⟩
      conv => cbv
      exact hQ (.tup [.fr 182 2 (rows cFold folds), .agg [.int .i64 m_A, .int .i64 q2, .int .i64 q3, .int .i64 m_D], .int .i64 q4]) ⟨folds, (m_A, q2, q3, m_D), q4, rfl⟩   -- leaf 1
    · refine r_draw m (by kernel_rfl) ?_
      conv => cbv
      refine r_mcallS m.sY (cThickness_ok code a3 s3 h (by omega) (by omega)) (cThickness_ex code a3 s3) (by rintro _ _ ⟨_, rfl, _⟩; first | trivial | (intro x hx; simp at hx; rcases hx with rfl | rfl | rfl <;> trivial)) ?_
      rintro _ _ ⟨q5, rfl, ⟨a7, s7, rfl, ea7, fa7⟩⟩
      conv => cbv
      exact hQ (.tup [.fr 182 2 (rows cFold folds), .agg [.int .i64 m_A, .int .i64 m_B, .int .i64 m_C, .int .i64 m_D], .int .i64 q5]) ⟨folds, (m_A, m_B, m_C, m_D), q5, rfl⟩   -- leaf 2

theorem drawSheetFor_ok (code : List Int) (h : CurIn code) : OkA Try.prog 43 [.isl 1 (rows cU8 code)] (fun r => ∃ (q1 : List Fold) (q2 : Int) (q3 : Int) (q4 : Int), r = .tup [.fr 182 2 (rows cFold q1), .int .i64 q2, .int .i64 q3, .int .i64 q4]) :=
  fn_intro envOk fieldsOk mixed Try.func43 rfl fun κ X Y L Q m hQ => by
    conv => cbv
    refine r_mcall m.sX (cFolds_ok code 0 0 h (by omega) (by omega)) ?_
    rintro _ _ ⟨q1, rfl, ⟨a1, s1, rfl, ea1, fa1⟩, bq1⟩
    conv => cbv
    refine r_mcall m.sX (cPageSide_ok code a1 s1 h (by omega) (by omega)) ?_
    rintro _ _ ⟨q2, rfl, ⟨a2, s2, rfl, ea2, fa2⟩⟩
    conv => cbv
    refine r_mcall m.sX (cPageSide_ok code a2 s2 h (by omega) (by omega)) ?_
    rintro _ _ ⟨q3, rfl, ⟨a3, s3, rfl, ea3, fa3⟩⟩
    conv => cbv
    refine r_mcall m.sX (cAmong_ok code a3 s3 ([100, -1, 101]) (by simp) h (by omega) (by omega)) ?_
    rintro _ _ ⟨q4, rfl, ⟨a4, s4, rfl, ea4, fa4⟩, bq4⟩
    simp only [List.mem_cons, List.not_mem_nil, or_false] at bq4
    conv => cbv
    refine r_mcall m.sX (cAmong_ok code a4 s4 ([0, 5, 12, q4]) (by simp) h (by omega) (by omega)) ?_
    rintro _ _ ⟨q5, rfl, ⟨a5, s5, rfl, ea5, fa5⟩, bq5⟩
    simp only [List.mem_cons, List.not_mem_nil, or_false] at bq5
    conv => cbv
    exact hQ (.tup [.fr 182 2 (rows cFold q1), .int .i64 q2, .int .i64 q3, .int .i64 q5]) ⟨q1, q2, q3, q5, rfl⟩   -- leaf 1

theorem drawDoesFitSheet_ok (code : List Int) (h : CurIn code) : OkA Try.prog 47 [.isl 1 (rows cU8 code)] (fun r => ∃ (q1 : List Fold) (q2 : Int) (q3 : Int) (q4 : Int) (q5 : Int) (q6 : Int), r = .tup [.fr 182 2 (rows cFold q1), .int .i64 q2, .int .i64 q3, .int .i64 q4, .int .i64 q5, .int .i64 q6]) :=
  fn_intro envOk fieldsOk mixed Try.func47 rfl fun κ X Y L Q m hQ => by
    conv => cbv
    refine r_callE m.sX (drawSheetFor_ok code h) ?_
    rintro _ ⟨folds, w, h_, trim, rfl⟩
    conv => cbv
    refine .inl (r_callFO iib m.sX ((specSheetFor_ok folds w h_ trim).ok flat_iib) fun v ha => ?_)
    obtain ⟨a, b, ok⟩ := v
    conv => cbv
    rcases Bool.eq_false_or_eq_true ok with rfl | rfl <;> conv => cbv
    · have sb := sh_bound ha
      refine r_mcall m.sX (cOne_ok code 9 0 2 h (by omega) (by omega)) ?_
      rintro _ _ ⟨q1, rfl, ⟨a1, s1, rfl, ea1, fa1⟩⟩
      conv => cbv
      rcases Bool.eq_false_or_eq_true q1 with rfl | rfl <;> conv => cbv
      · refine r_mcall m.sX (cOne_ok code a1 s1 2 h (by omega) (by omega)) ?_
        rintro _ _ ⟨q2, rfl, ⟨a2, s2, rfl, ea2, fa2⟩⟩
        conv => cbv
        rcases Bool.eq_false_or_eq_true q2 with rfl | rfl <;> conv => cbv
        · refine r_mcall m.sX (cPick_ok code a2 s2 2 h (by omega) (by omega)) ?_
          rintro _ _ ⟨q3, rfl, ⟨a3, s3, rfl, ea3, fa3⟩, bq3, cq3, dq3⟩
          conv => cbv
          refine r_subf m.sX (by omega) (by omega) fun r1 hr1 => ?_
          conv => cbv
          refine r_mcall m.sX (cPick_ok code a3 s3 2 h (by omega) (by omega)) ?_
          rintro _ _ ⟨q4, rfl, ⟨a4, s4, rfl, ea4, fa4⟩, bq4, cq4, dq4⟩
          conv => cbv
          refine r_addf m.sX (by omega) (by omega) fun r2 hr2 => ?_
          conv => cbv
          refine r_callF (PV.int .i64) m.sX (l1Least_ok 20000 r2) fun r3 hr3 => ?_
          conv => cbv
          exact hQ (.tup [.fr 182 2 (rows cFold folds), .int .i64 w, .int .i64 h_, .int .i64 trim, .int .i64 b, .int .i64 r3]) ⟨folds, w, h_, trim, b, r3, rfl⟩   -- leaf 1
        · refine r_mcall m.sX (cPick_ok code a2 s2 3 h (by omega) (by omega)) ?_
          rintro _ _ ⟨q5, rfl, ⟨a5, s5, rfl, ea5, fa5⟩, bq5, cq5, dq5⟩
          conv => cbv
          refine r_addf m.sX (by omega) (by omega) fun r4 hr4 => ?_
          conv => cbv
          refine r_subf m.sX (by omega) (by omega) fun r5 hr5 => ?_
          conv => cbv
          exact hQ (.tup [.fr 182 2 (rows cFold folds), .int .i64 w, .int .i64 h_, .int .i64 trim, .int .i64 r5, .int .i64 b]) ⟨folds, w, h_, trim, r5, b, rfl⟩   -- leaf 2
      · refine r_mcall m.sX (cAmong_ok code a1 s1 ([1000, 2000, 1, 20000, 0, 20001]) (by simp) h (by omega) (by omega)) ?_
        rintro _ _ ⟨q6, rfl, ⟨a6, s6, rfl, ea6, fa6⟩, bq6⟩
        simp only [List.mem_cons, List.not_mem_nil, or_false] at bq6
        conv => cbv
        refine r_mcall m.sX (cAmong_ok code a6 s6 ([1000, 2000, 1, 20000, 0, 20001]) (by simp) h (by omega) (by omega)) ?_
        rintro _ _ ⟨q7, rfl, ⟨a7, s7, rfl, ea7, fa7⟩, bq7⟩
        simp only [List.mem_cons, List.not_mem_nil, or_false] at bq7
        conv => cbv
        exact hQ (.tup [.fr 182 2 (rows cFold folds), .int .i64 w, .int .i64 h_, .int .i64 trim, .int .i64 q6, .int .i64 q7]) ⟨folds, w, h_, trim, q6, q7, rfl⟩   -- leaf 3
    · refine r_mcall m.sX (cAmong_ok code 9 0 ([1000, 2000, 1, 20000, 0, 20001]) (by simp) h (by omega) (by omega)) ?_
      rintro _ _ ⟨q8, rfl, ⟨a8, s8, rfl, ea8, fa8⟩, bq8⟩
      simp only [List.mem_cons, List.not_mem_nil, or_false] at bq8
      conv => cbv
      refine r_mcall m.sX (cAmong_ok code a8 s8 ([1000, 2000, 1, 20000, 0, 20001]) (by simp) h (by omega) (by omega)) ?_
      rintro _ _ ⟨q9, rfl, ⟨a9, s9, rfl, ea9, fa9⟩, bq9⟩
      simp only [List.mem_cons, List.not_mem_nil, or_false] at bq9
      conv => cbv
      exact hQ (.tup [.fr 182 2 (rows cFold folds), .int .i64 w, .int .i64 h_, .int .i64 trim, .int .i64 q8, .int .i64 q9]) ⟨folds, w, h_, trim, q8, q9, rfl⟩   -- leaf 4

theorem drawCreepOf_ok (code : List Int) (h : CurIn code) : OkA Try.prog 49 [.isl 1 (rows cU8 code)] (fun r => ∃ (q1 : List Fold) (q2 : Int) (q3 : Int), r = .tup [.fr 182 2 (rows cFold q1), .int .i64 q2, .int .i64 q3]) :=
  fn_intro envOk fieldsOk mixed Try.func49 rfl fun κ X Y L Q m hQ => by
    conv => cbv
    refine r_mcall m.sX (cFolds_ok code 0 0 h (by omega) (by omega)) ?_
    rintro _ _ ⟨folds, rfl, ⟨a1, s1, rfl, ea1, fa1⟩, bfolds⟩
    conv => cbv
    refine .inl (r_callBO m.sX ((imGood_ok folds).ok flat_bool) (fun h1 => ?_) (fun h1 => ?_)) <;> conv => cbv
    · have pb := pgs_bound h1
      refine r_mcall m.sX (cOne_ok code a1 s1 4 h (by omega) (by omega)) ?_
      rintro _ _ ⟨q1, rfl, ⟨a2, s2, rfl, ea2, fa2⟩⟩
      conv => cbv
      rcases Bool.eq_false_or_eq_true q1 with rfl | rfl <;> conv => cbv
      · refine r_mcall m.sX (cThickness_ok code a2 s2 h (by omega) (by omega)) ?_
        rintro _ _ ⟨q2, rfl, ⟨a3, s3, rfl, ea3, fa3⟩⟩
        conv => cbv
        refine r_mcall m.sX (cAmong_ok code a3 s3 ([1, 2, 0, 33, -1]) (by simp) h (by omega) (by omega)) ?_
        rintro _ _ ⟨q3, rfl, ⟨a4, s4, rfl, ea4, fa4⟩, bq3⟩
        simp only [List.mem_cons, List.not_mem_nil, or_false] at bq3
        conv => cbv
        exact hQ (.tup [.fr 182 2 (rows cFold folds), .int .i64 q2, .int .i64 q3]) ⟨folds, q2, q3, rfl⟩   -- leaf 1
      · refine r_mcall m.sX (cThickness_ok code a2 s2 h (by omega) (by omega)) ?_
        rintro _ _ ⟨q4, rfl, ⟨a5, s5, rfl, ea5, fa5⟩⟩
        conv => cbv
        refine .inl (r_callFO intPV m.sX ((imCount_ok folds (by assumption)).ok flat_int) fun r1 hr1 => ?_)
        conv => cbv
        refine r_mcall m.sX (cPick_ok code a5 s5 r1 h (by omega) (by omega)) ?_
        rintro _ _ ⟨q5, rfl, ⟨a6, s6, rfl, ea6, fa6⟩, bq5, cq5, dq5⟩
        conv => cbv
        refine r_addf m.sX (by omega) (by omega) fun r2 hr2 => ?_
        conv => cbv
        exact hQ (.tup [.fr 182 2 (rows cFold folds), .int .i64 q4, .int .i64 r2]) ⟨folds, q4, r2, rfl⟩   -- leaf 2
    · refine r_mcall m.sX (cThickness_ok code a1 s1 h (by omega) (by omega)) ?_
      rintro _ _ ⟨q6, rfl, ⟨a7, s7, rfl, ea7, fa7⟩⟩
      conv => cbv
      refine r_mcall m.sX (cAmong_ok code a7 s7 ([1, 2, 0, 33, -1]) (by simp) h (by omega) (by omega)) ?_
      rintro _ _ ⟨q7, rfl, ⟨a8, s8, rfl, ea8, fa8⟩, bq7⟩
      simp only [List.mem_cons, List.not_mem_nil, or_false] at bq7
      conv => cbv
      exact hQ (.tup [.fr 182 2 (rows cFold folds), .int .i64 q6, .int .i64 q7]) ⟨folds, q6, q7, rfl⟩   -- leaf 3

end Go.Proofs.Ytnanackogloioaa.Ai
