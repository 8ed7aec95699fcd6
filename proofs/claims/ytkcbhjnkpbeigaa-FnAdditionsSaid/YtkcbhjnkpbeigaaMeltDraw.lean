/- Contracts of what the law on melts draws. -/
import Derived.Test.YtkcbhjnkpbeigaaMelt
namespace Go.Proofs.Ytkcbhjnkpbeigaa.Ai
open Go Go.Proofs
set_option maxRecDepth 10000
set_option maxHeartbeats 4000000
set_option linter.unusedVariables false

theorem cMelt_ok (code : List Int) (b0 t0 : Int)  (h : CurIn code) (h0 : 0 ≤ b0) (hk : b0 ≤ 899999999999970000)  : OkM Try.prog 150 (cCur code b0 t0) [] (fun r cs => ∃ (q : Melt), r = .agg (cMelt q) ∧ CurTo code b0 30 cs ∧ ((0 ≤ q.1 ∧ q.1 ≤ 1000000) ∧ (0 ≤ q.2.1 ∧ q.2.1 ≤ 100) ∧ (0 ≤ q.2.2 ∧ q.2.2 ≤ 100))) :=
  fnM_intro envOk fieldsOk mixed Try.func150 rfl fun κ X Y L Q m hQ => by
    conv => cbv
    refine r_mcall m.sX (cPick_ok code b0 t0 100 h (by omega) (by omega)) ?_
    rintro _ _ ⟨q1, rfl, ⟨a1, s1, rfl, ea1, fa1⟩, bq1, cq1, dq1⟩
    conv => cbv
    refine r_mcall m.sX (cPick_ok code a1 s1 20 h (by omega) (by omega)) ?_
    rintro _ _ ⟨q2, rfl, ⟨a2, s2, rfl, ea2, fa2⟩, bq2, cq2, dq2⟩
    conv => cbv
    refine r_mcall m.sX (cPick_ok code a2 s2 30 h (by omega) (by omega)) ?_
    rintro _ _ ⟨q3, rfl, ⟨a3, s3, rfl, ea3, fa3⟩, bq3, cq3, dq3⟩
    conv => cbv
    refine r_mcall m.sX (cOne_ok code a3 s3 8 h (by omega) (by omega)) ?_
    rintro _ _ ⟨q4, rfl, ⟨a4, s4, rfl, ea4, fa4⟩⟩
    conv => cbv
    rcases Bool.eq_false_or_eq_true q4 with rfl | rfl <;> conv => cbv
    · refine r_mcall m.sX (cAmong_ok code a4 s4 ([1000000, 0, 500000]) (by simp) h (by omega) (by omega)) ?_
      rintro _ _ ⟨q5, rfl, ⟨a5, s5, rfl, ea5, fa5⟩, bq5⟩
      simp only [List.mem_cons, List.not_mem_nil, or_false] at bq5
      conv => cbv
      exact hQ (.agg [.int .i64 q5, .int .i64 q2, .int .i64 q3]) (cCur code a5 s5) ⟨(q5, q2, q3), rfl, ⟨a5, s5, rfl, by omega, by omega⟩, (by first | omega | assumption | (simp; done) | (simp [*]; done) | (simp at *; omega))⟩   -- leaf 1
    · exact hQ (.agg [.int .i64 q1, .int .i64 q2, .int .i64 q3]) (cCur code a4 s4) ⟨(q1, q2, q3), rfl, ⟨a4, s4, rfl, by omega, by omega⟩, (by first | omega | assumption | (simp; done) | (simp [*]; done) | (simp at *; omega))⟩   -- leaf 2

theorem cMelt_ex (code : List Int) (b0 t0 : Int) : ∃ r cs, (∃ (q : Melt), r = PV.agg (cMelt q) ∧ CurTo code b0 30 cs ∧ ((0 ≤ q.1 ∧ q.1 ≤ 1000000) ∧ (0 ≤ q.2.1 ∧ q.2.1 ≤ 100) ∧ (0 ≤ q.2.2 ∧ q.2.2 ≤ 100))) :=
  ⟨_, _, (0, 0, 0), rfl, ⟨b0, t0, rfl, by omega, by omega⟩, (by first | omega | simp)⟩

theorem cAnyMelt_ok (code : List Int) (b0 t0 : Int)  (h : CurIn code) (h0 : 0 ≤ b0) (hk : b0 ≤ 899999999999940000)  : OkM Try.prog 92 (cCur code b0 t0) [] (fun r cs => ∃ (q : Melt), r = .agg (cMelt q) ∧ CurTo code b0 60 cs ∧ ((-9223372036854775808 ≤ q.1 ∧ q.1 ≤ 1000001) ∧ (-1 ≤ q.2.1 ∧ q.2.1 ≤ 1000001) ∧ (-1 ≤ q.2.2 ∧ q.2.2 ≤ 1000001)) ∧ (-9223372036854775808 ≤ q.1 + q.2.1 ∧ -9223372036854775808 ≤ q.1 + q.2.1 + q.2.2)) :=
  fnM_intro envOk fieldsOk mixed Try.func92 rfl fun κ X Y L Q m hQ => by
    conv => cbv
    refine r_mcall m.sX (cMelt_ok code b0 t0 h (by omega) (by omega)) ?_
    rintro _ _ ⟨⟨m_A, m_B, m_C⟩, rfl, ⟨a1, s1, rfl, ea1, fa1⟩, bm__1⟩
    conv => cbv
    refine r_mcall m.sX (cPick_ok code a1 s1 24 h (by omega) (by omega)) ?_
    rintro _ _ ⟨q1, rfl, ⟨a2, s2, rfl, ea2, fa2⟩, bq1, cq1, dq1⟩
    conv => cbv
    refine r_eql m.sX (fun h1 => ?_) (fun h1 => ?_) <;> conv => cbv
    · refine r_mcall m.sX (cAmong_ok code a2 s2 ([-1, 1000000, 1000001, -9223372036854775808]) (by simp) h (by omega) (by omega)) ?_
      rintro _ _ ⟨q2, rfl, ⟨a3, s3, rfl, ea3, fa3⟩, bq2⟩
      simp only [List.mem_cons, List.not_mem_nil, or_false] at bq2
      conv => cbv
      exact hQ (.agg [.int .i64 q2, .int .i64 m_B, .int .i64 m_C]) (cCur code a3 s3) ⟨(q2, m_B, m_C), rfl, ⟨a3, s3, rfl, by omega, by omega⟩, (by first | omega | assumption | (simp; done) | (simp [*]; done) | (simp at *; omega)), (by first | omega | assumption | (simp; done) | (simp [*]; done) | (simp at *; omega))⟩   -- leaf 1
    · refine r_eql m.sX (fun h2 => ?_) (fun h2 => ?_) <;> conv => cbv
      · refine r_mcall m.sX (cAmong_ok code a2 s2 ([-1, 1000000, 1000001]) (by simp) h (by omega) (by omega)) ?_
        rintro _ _ ⟨q3, rfl, ⟨a4, s4, rfl, ea4, fa4⟩, bq3⟩
        simp only [List.mem_cons, List.not_mem_nil, or_false] at bq3
        conv => cbv
        exact hQ (.agg [.int .i64 m_A, .int .i64 q3, .int .i64 m_C]) (cCur code a4 s4) ⟨(m_A, q3, m_C), rfl, ⟨a4, s4, rfl, by omega, by omega⟩, (by first | omega | assumption | (simp; done) | (simp [*]; done) | (simp at *; omega)), (by first | omega | assumption | (simp; done) | (simp [*]; done) | (simp at *; omega))⟩   -- leaf 2
      · refine r_eql m.sX (fun h3 => ?_) (fun h3 => ?_) <;> conv => cbv
        · refine r_mcall m.sX (cAmong_ok code a2 s2 ([-1, 1000000, 1000001]) (by simp) h (by omega) (by omega)) ?_
          rintro _ _ ⟨q4, rfl, ⟨a5, s5, rfl, ea5, fa5⟩, bq4⟩
          simp only [List.mem_cons, List.not_mem_nil, or_false] at bq4
          conv => cbv
          exact hQ (.agg [.int .i64 m_A, .int .i64 m_B, .int .i64 q4]) (cCur code a5 s5) ⟨(m_A, m_B, q4), rfl, ⟨a5, s5, rfl, by omega, by omega⟩, (by first | omega | assumption | (simp; done) | (simp [*]; done) | (simp at *; omega)), (by first | omega | assumption | (simp; done) | (simp [*]; done) | (simp at *; omega))⟩   -- leaf 3
        · refine r_eql m.sX (fun h4 => ?_) (fun h4 => ?_) <;> conv => cbv
          · exact hQ (.agg [.int .i64 0, .int .i64 0, .int .i64 0]) (cCur code a2 s2) ⟨(0, 0, 0), rfl, ⟨a2, s2, rfl, by omega, by omega⟩, (by first | omega | assumption | (simp; done) | (simp [*]; done) | (simp at *; omega)), (by first | omega | assumption | (simp; done) | (simp [*]; done) | (simp at *; omega))⟩   -- leaf 4
          · exact hQ (.agg [.int .i64 m_A, .int .i64 m_B, .int .i64 m_C]) (cCur code a2 s2) ⟨(m_A, m_B, m_C), rfl, ⟨a2, s2, rfl, by omega, by omega⟩, (by first | omega | assumption | (simp; done) | (simp [*]; done) | (simp at *; omega)), (by first | omega | assumption | (simp; done) | (simp [*]; done) | (simp at *; omega))⟩   -- leaf 5

theorem cAnyMelt_ex (code : List Int) (b0 t0 : Int) : ∃ r cs, (∃ (q : Melt), r = PV.agg (cMelt q) ∧ CurTo code b0 60 cs ∧ ((-9223372036854775808 ≤ q.1 ∧ q.1 ≤ 1000001) ∧ (-1 ≤ q.2.1 ∧ q.2.1 ≤ 1000001) ∧ (-1 ≤ q.2.2 ∧ q.2.2 ≤ 1000001)) ∧ (-9223372036854775808 ≤ q.1 + q.2.1 ∧ -9223372036854775808 ≤ q.1 + q.2.1 + q.2.2)) :=
  ⟨_, _, (0, 0, 0), rfl, ⟨b0, t0, rfl, by omega, by omega⟩, (by first | omega | simp), (by first | omega | simp)⟩

theorem cAnyBlend_ok (code : List Int) (b0 t0 : Int)  (h : CurIn code) (h0 : 0 ≤ b0) (hk : b0 ≤ 899999999999940000)  : OkM Try.prog 147 (cCur code b0 t0) [] (fun r cs => ∃ (q : Blend), r = .agg (cBlend q) ∧ CurTo code b0 60 cs ∧ ((-1 ≤ q.1 ∧ q.1 ≤ 2000) ∧ (-1 ≤ q.2.1 ∧ q.2.1 ≤ 2000) ∧ (-1 ≤ q.2.2.1 ∧ q.2.2.1 ≤ 2000) ∧ (-1 ≤ q.2.2.2 ∧ q.2.2.2 ≤ 2000))) :=
  fnM_intro envOk fieldsOk mixed Try.func147 rfl fun κ X Y L Q m hQ => by
    conv => cbv
    refine r_mcall m.sX (cPick_ok code b0 t0 12 h (by omega) (by omega)) ?_
    rintro _ _ ⟨q1, rfl, ⟨a1, s1, rfl, ea1, fa1⟩, bq1, cq1, dq1⟩
    conv => cbv
    refine r_mulf m.sX (by first | omega | (subst_vars; omega)) (by first | omega | (subst_vars; omega)) fun r1 hr1 => ?_
    conv => cbv
    refine r_mcall m.sX (cPick_ok code a1 s1 25 h (by omega) (by omega)) ?_
    rintro _ _ ⟨q2, rfl, ⟨a2, s2, rfl, ea2, fa2⟩, bq2, cq2, dq2⟩
    conv => cbv
    refine r_mulf m.sX (by first | omega | (subst_vars; omega)) (by first | omega | (subst_vars; omega)) fun r2 hr2 => ?_
    conv => cbv
    refine r_draw m (by kernel_rfl) ?_
    conv => cbv
    refine r_mcallS m.sY (cPick_ok code a2 s2 6 h (by omega) (by omega)) (cPick_ex code a2 s2 6) (by rintro _ _ ⟨_, rfl, _⟩; first | trivial | (intro x hx; simp at hx; rcases hx with rfl | rfl | rfl <;> trivial)) ?_
    rintro _ _ ⟨q3, rfl, ⟨a3, s3, rfl, ea3, fa3⟩, bq3, cq3, dq3⟩
    conv => cbv
    refine r_mulf m.sY (by first | omega | (subst_vars; omega)) (by first | omega | (subst_vars; omega)) fun r3 hr3 => ?_
    conv => cbv
    refine r_addf m.sY (by omega) (by omega) fun r4 hr4 => ?_
    conv => cbv
    refine r_draw m (by kernel_rfl) ?_
    conv => cbv
    refine r_mcallS m.sY (cPick_ok code a3 s3 8 h (by omega) (by omega)) (cPick_ex code a3 s3 8) (by rintro _ _ ⟨_, rfl, _⟩; first | trivial | (intro x hx; simp at hx; rcases hx with rfl | rfl | rfl <;> trivial)) ?_
    rintro _ _ ⟨q4, rfl, ⟨a4, s4, rfl, ea4, fa4⟩, bq4, cq4, dq4⟩
    conv => cbv
    refine r_mulf m.sY (by first | omega | (subst_vars; omega)) (by first | omega | (subst_vars; omega)) fun r5 hr5 => ?_
    conv => cbv
    refine r_addf m.sY (by omega) (by omega) fun r6 hr6 => ?_
    conv => cbv
    refine r_mcall m.sX (cPick_ok code a4 s4 16 h (by omega) (by omega)) ?_
    rintro _ _ ⟨q5, rfl, ⟨a5, s5, rfl, ea5, fa5⟩, bq5, cq5, dq5⟩
    conv => cbv
    refine r_eql m.sX (fun h1 => ?_) (fun h1 => ?_) <;> conv => cbv
    · refine r_addf m.sX (by omega) (by omega) fun r7 hr7 => ?_
      conv => cbv
      refine r_mcall m.sX (cAmong_ok code a5 s5 ([0, 1000, -1, r4, r7]) (by simp) h (by omega) (by omega)) ?_
      rintro _ _ ⟨q6, rfl, ⟨a6, s6, rfl, ea6, fa6⟩, bq6⟩
      simp only [List.mem_cons, List.not_mem_nil, or_false] at bq6
      conv => cbv
      exact hQ (.agg [.int .i64 q6, .int .i64 r4, .int .i64 r2, .int .i64 r6]) (cCur code a6 s6) ⟨(q6, r4, r2, r6), rfl, ⟨a6, s6, rfl, by omega, by omega⟩, (by first | omega | assumption | (simp; done) | (simp [*]; done) | (simp at *; omega))⟩   -- leaf 1
    · refine r_eql m.sX (fun h2 => ?_) (fun h2 => ?_) <;> conv => cbv
      · refine r_subf m.sX (by omega) (by omega) fun r8 hr8 => ?_
        conv => cbv
        refine r_mcall m.sX (cAmong_ok code a5 s5 ([1000, 1001, 0, r2, r8]) (by simp) h (by omega) (by omega)) ?_
        rintro _ _ ⟨q7, rfl, ⟨a7, s7, rfl, ea7, fa7⟩, bq7⟩
        simp only [List.mem_cons, List.not_mem_nil, or_false] at bq7
        conv => cbv
        exact hQ (.agg [.int .i64 r1, .int .i64 r4, .int .i64 r2, .int .i64 q7]) (cCur code a7 s7) ⟨(r1, r4, r2, q7), rfl, ⟨a7, s7, rfl, by omega, by omega⟩, (by first | omega | assumption | (simp; done) | (simp [*]; done) | (simp at *; omega))⟩   -- leaf 2
      · refine r_eql m.sX (fun h3 => ?_) (fun h3 => ?_) <;> conv => cbv
        · refine r_mcall m.sX (cAmong_ok code a5 s5 ([0, 1000, 1001]) (by simp) h (by omega) (by omega)) ?_
          rintro _ _ ⟨q8, rfl, ⟨a8, s8, rfl, ea8, fa8⟩, bq8⟩
          simp only [List.mem_cons, List.not_mem_nil, or_false] at bq8
          conv => cbv
          exact hQ (.agg [.int .i64 r1, .int .i64 q8, .int .i64 r2, .int .i64 r6]) (cCur code a8 s8) ⟨(r1, q8, r2, r6), rfl, ⟨a8, s8, rfl, by omega, by omega⟩, (by first | omega | assumption | (simp; done) | (simp [*]; done) | (simp at *; omega))⟩   -- leaf 3
        · exact hQ (.agg [.int .i64 r1, .int .i64 r4, .int .i64 r2, .int .i64 r6]) (cCur code a5 s5) ⟨(r1, r4, r2, r6), rfl, ⟨a5, s5, rfl, by omega, by omega⟩, (by first | omega | assumption | (simp; done) | (simp [*]; done) | (simp at *; omega))⟩   -- leaf 4

theorem cAnyBlend_ex (code : List Int) (b0 t0 : Int) : ∃ r cs, (∃ (q : Blend), r = PV.agg (cBlend q) ∧ CurTo code b0 60 cs ∧ ((-1 ≤ q.1 ∧ q.1 ≤ 2000) ∧ (-1 ≤ q.2.1 ∧ q.2.1 ≤ 2000) ∧ (-1 ≤ q.2.2.1 ∧ q.2.2.1 ≤ 2000) ∧ (-1 ≤ q.2.2.2 ∧ q.2.2.2 ≤ 2000))) :=
  ⟨_, _, (0, 0, 0, 0), rfl, ⟨b0, t0, rfl, by omega, by omega⟩, (by first | omega | simp)⟩

theorem drawDoesFit_ok (code : List Int) (h : CurIn code) : OkA Try.prog 75 [.isl 1 (rows cU8 code)] (fun r => ∃ (q1 : Melt) (q2 : Blend), r = .tup [.agg (cMelt q1), .agg (cBlend q2)] ∧ ((-9223372036854775808 ≤ q1.1 ∧ q1.1 ≤ 1000001) ∧ (-1 ≤ q1.2.1 ∧ q1.2.1 ≤ 1000001) ∧ (-1 ≤ q1.2.2 ∧ q1.2.2 ≤ 1000001)) ∧ (-9223372036854775808 ≤ q1.1 + q1.2.1 ∧ -9223372036854775808 ≤ q1.1 + q1.2.1 + q1.2.2) ∧ ((-1 ≤ q2.1 ∧ q2.1 ≤ 2000) ∧ (-1 ≤ q2.2.1 ∧ q2.2.1 ≤ 2000) ∧ (-1 ≤ q2.2.2.1 ∧ q2.2.2.1 ≤ 2000) ∧ (-1 ≤ q2.2.2.2 ∧ q2.2.2.2 ≤ 2000))) :=
  fn_intro envOk fieldsOk mixed Try.func75 rfl fun κ X Y L Q m hQ => by
    conv => cbv
    refine r_mcall m.sX (cOne_ok code 0 0 8 h (by omega) (by omega)) ?_
    rintro _ _ ⟨q1, rfl, ⟨a1, s1, rfl, ea1, fa1⟩⟩
    conv => cbv
    rcases Bool.eq_false_or_eq_true q1 with rfl | rfl <;> conv => cbv
    · refine r_mcall m.sX (cAmong_ok code a1 s1 ([50, 51, 0]) (by simp) h (by omega) (by omega)) ?_
      rintro _ _ ⟨q2, rfl, ⟨a2, s2, rfl, ea2, fa2⟩, bq2⟩
      simp only [List.mem_cons, List.not_mem_nil, or_false] at bq2
      conv => cbv
      refine r_mcall m.sX (cAmong_ok code a2 s2 ([51, 60]) (by simp) h (by omega) (by omega)) ?_
      rintro _ _ ⟨q3, rfl, ⟨a3, s3, rfl, ea3, fa3⟩, bq3⟩
      simp only [List.mem_cons, List.not_mem_nil, or_false] at bq3
      conv => cbv
      refine r_mcall m.sX (cAmong_ok code a3 s3 ([150, 149]) (by simp) h (by omega) (by omega)) ?_
      rintro _ _ ⟨q4, rfl, ⟨a4, s4, rfl, ea4, fa4⟩, bq4⟩
      simp only [List.mem_cons, List.not_mem_nil, or_false] at bq4
      conv => cbv
      exact hQ (.tup [.agg [.int .i64 80, .int .i64 5, .int .i64 15], .agg [.int .i64 q2, .int .i64 q3, .int .i64 100, .int .i64 q4]]) ⟨(80, 5, 15), (q2, q3, 100, q4), rfl, (by first | omega | assumption | (simp; done) | (simp [*]; done) | (simp at *; omega)), (by first | omega | assumption | (simp; done) | (simp [*]; done) | (simp at *; omega)), (by first | omega | assumption | (simp; done) | (simp [*]; done) | (simp at *; omega))⟩   -- leaf 1
    · refine r_mcall m.sX (cAnyMelt_ok code a1 s1 h (by omega) (by omega)) ?_
      rintro _ _ ⟨⟨q5A, q5B, q5C⟩, rfl, ⟨a5, s5, rfl, ea5, fa5⟩, bq5_1, bq5_2⟩
      conv => cbv
      refine r_mcall m.sX (cAnyBlend_ok code a5 s5 h (by omega) (by omega)) ?_
      rintro _ _ ⟨⟨q6A, q6B, q6C, q6D⟩, rfl, ⟨a6, s6, rfl, ea6, fa6⟩, bq6_1⟩
      conv => cbv
      exact hQ (.tup [.agg [.int .i64 q5A, .int .i64 q5B, .int .i64 q5C], .agg [.int .i64 q6A, .int .i64 q6B, .int .i64 q6C, .int .i64 q6D]]) ⟨(q5A, q5B, q5C), (q6A, q6B, q6C, q6D), rfl, (by first | omega | assumption | (simp; done) | (simp [*]; done) | (simp at *; omega)), (by first | omega | assumption | (simp; done) | (simp [*]; done) | (simp at *; omega)), (by first | omega | assumption | (simp; done) | (simp [*]; done) | (simp at *; omega))⟩   -- leaf 2

theorem drawTinToAdd_ok (code : List Int) (h : CurIn code) : OkA Try.prog 9 [.isl 1 (rows cU8 code)] (fun r => ∃ (q1 : Melt) (q2 : Blend), r = .tup [.agg (cMelt q1), .agg (cBlend q2)] ∧ ((-9223372036854775808 ≤ q1.1 ∧ q1.1 ≤ 1000001) ∧ (-1 ≤ q1.2.1 ∧ q1.2.1 ≤ 1000001) ∧ (-1 ≤ q1.2.2 ∧ q1.2.2 ≤ 1000001)) ∧ (-9223372036854775808 ≤ q1.1 + q1.2.1 ∧ -9223372036854775808 ≤ q1.1 + q1.2.1 + q1.2.2) ∧ ((-1 ≤ q2.1 ∧ q2.1 ≤ 2000) ∧ (-1 ≤ q2.2.1 ∧ q2.2.1 ≤ 2000) ∧ (-1 ≤ q2.2.2.1 ∧ q2.2.2.1 ≤ 2000) ∧ (-1 ≤ q2.2.2.2 ∧ q2.2.2.2 ≤ 2000))) :=
  fn_intro envOk fieldsOk mixed Try.func9 rfl fun κ X Y L Q m hQ => by
    conv => cbv
    refine r_callE m.sX (drawDoesFit_ok code h) ?_
    rintro _ ⟨⟨q1A, q1B, q1C⟩, ⟨q2A, q2B, q2C, q2D⟩, rfl, bq1_1, bq1_2, bq1_3⟩
    conv => cbv
    exact hQ (.tup [.agg [.int .i64 q1A, .int .i64 q1B, .int .i64 q1C], .agg [.int .i64 q2A, .int .i64 q2B, .int .i64 q2C, .int .i64 q2D]]) ⟨(q1A, q1B, q1C), (q2A, q2B, q2C, q2D), rfl, (by first | omega | assumption | (simp; done) | (simp [*]; done) | (simp at *; omega)), (by first | omega | assumption | (simp; done) | (simp [*]; done) | (simp at *; omega)), (by first | omega | assumption | (simp; done) | (simp [*]; done) | (simp at *; omega))⟩   -- leaf 1

theorem drawLeastOfOther_ok (code : List Int) (h : CurIn code) : OkA Try.prog 19 [.isl 1 (rows cU8 code)] (fun r => ∃ (q1 : Melt) (q2 : Melt) (q3 : Blend), r = .tup [.agg (cMelt q1), .agg (cMelt q2), .agg (cBlend q3)] ∧ ((-9223372036854775808 ≤ q1.1 ∧ q1.1 ≤ 1000001) ∧ (-1 ≤ q1.2.1 ∧ q1.2.1 ≤ 1000001) ∧ (-1 ≤ q1.2.2 ∧ q1.2.2 ≤ 1000001))) :=
  fn_intro envOk fieldsOk mixed Try.func19 rfl fun κ X Y L Q m hQ => by
    conv => cbv
    refine r_callE m.sX (drawDoesFit_ok code h) ?_
    rintro _ ⟨⟨m_A, m_B, m_C⟩, ⟨bA, bB, bC, bD⟩, rfl, bm__1, bm__2, bm__3⟩
    conv => cbv
    refine r_mcall m.sX (cOne_ok code 0 0 3 h (by omega) (by omega)) ?_
    rintro _ _ ⟨q1, rfl, ⟨a1, s1, rfl, ea1, fa1⟩⟩
    conv => cbv
    rcases Bool.eq_false_or_eq_true q1 with rfl | rfl <;> conv => cbv
    · refine r_draw m (by kernel_rfl) ?_
      conv => cbv
      refine r_mcallS m.sY (cPick_ok code a1 s1 3 h (by omega) (by omega)) (cPick_ex code a1 s1 3) (by rintro _ _ ⟨_, rfl, _⟩; first | trivial | (intro x hx; simp at hx; rcases hx with rfl | rfl | rfl <;> trivial)) ?_
      rintro _ _ ⟨q2, rfl, ⟨a2, s2, rfl, ea2, fa2⟩, bq2, cq2, dq2⟩
      conv => cbv
      refine r_mcallS m.sY (cPick_ok code a2 s2 3 h (by omega) (by omega)) (cPick_ex code a2 s2 3) (by rintro _ _ ⟨_, rfl, _⟩; first | trivial | (intro x hx; simp at hx; rcases hx with rfl | rfl | rfl <;> trivial)) ?_
      rintro _ _ ⟨q3, rfl, ⟨a3, s3, rfl, ea3, fa3⟩, bq3, cq3, dq3⟩
      conv => cbv
      exact hQ (.tup [.agg [.int .i64 m_A, .int .i64 m_B, .int .i64 m_C], .agg [.int .i64 0, .int .i64 q2, .int .i64 q3], .agg [.int .i64 bA, .int .i64 bB, .int .i64 bC, .int .i64 bD]]) ⟨(m_A, m_B, m_C), (0, q2, q3), (bA, bB, bC, bD), rfl, (by first | omega | assumption | (simp; done) | (simp [*]; done) | (simp at *; omega))⟩   -- leaf 1
    · refine r_draw m (by kernel_rfl) ?_
      conv => cbv
      refine r_mcallS m.sY (cAnyMelt_ok code a1 s1 h (by omega) (by omega)) (cAnyMelt_ex code a1 s1) (by rintro _ _ ⟨_, rfl, _⟩; first | trivial | (intro x hx; simp at hx; rcases hx with rfl | rfl | rfl <;> trivial)) ?_
      rintro _ _ ⟨⟨q4A, q4B, q4C⟩, rfl, ⟨a4, s4, rfl, ea4, fa4⟩, bq4_1, bq4_2⟩
      conv => cbv
      exact hQ (.tup [.agg [.int .i64 m_A, .int .i64 m_B, .int .i64 m_C], .agg [.int .i64 q4A, .int .i64 q4B, .int .i64 q4C], .agg [.int .i64 bA, .int .i64 bB, .int .i64 bC, .int .i64 bD]]) ⟨(m_A, m_B, m_C), (q4A, q4B, q4C), (bA, bB, bC, bD), rfl, (by first | omega | assumption | (simp; done) | (simp [*]; done) | (simp at *; omega))⟩   -- leaf 2

end Go.Proofs.Ytkcbhjnkpbeigaa.Ai
