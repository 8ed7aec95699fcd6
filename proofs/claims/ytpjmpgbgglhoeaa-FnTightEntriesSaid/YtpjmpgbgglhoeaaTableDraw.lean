/- Contracts of what the laws on tables draw. -/
import Derived.Test.YtpjmpgbgglhoeaaTable
namespace Go.Proofs.Ytpjmpgbgglhoeaa.Ai
open Go Go.Proofs
set_option maxRecDepth 10000
set_option maxHeartbeats 4000000
set_option linter.unusedVariables false

theorem cEntry_ok (code : List Int) (b0 t0 : Int) (n : Int) (h : CurIn code) (h0 : 0 ≤ b0) (hk : b0 ≤ 899999999999980000) (hn : -10 ≤ n ∧ n ≤ 100) : OkM Try.prog 345 (cCur code b0 t0) [.int .i64 n] (fun r cs => ∃ (q : Entry), r = .agg (cEntry q) ∧ CurTo code b0 20 cs) :=
  fnM_intro envOk fieldsOk mixed Try.func345 rfl fun κ X Y L Q m hQ => by
    conv => cbv
    refine r_mcall m.sX (cPick_ok code b0 t0 n h (by omega) (by omega)) ?_
    rintro _ _ ⟨q1, rfl, ⟨a1, s1, rfl, ea1, fa1⟩, bq1, cq1, dq1⟩
    conv => cbv
    refine r_mcall m.sX (cPick_ok code a1 s1 90 h (by omega) (by omega)) ?_
    rintro _ _ ⟨q2, rfl, ⟨a2, s2, rfl, ea2, fa2⟩, bq2, cq2, dq2⟩
    conv => cbv
    refine r_mcall m.sX (cAmong_ok code a2 s2 ([0, 10, 20, 30, q2]) (by simp) h (by omega) (by omega)) ?_
    rintro _ _ ⟨q3, rfl, ⟨a3, s3, rfl, ea3, fa3⟩, bq3⟩
    simp only [List.mem_cons, List.not_mem_nil, or_false] at bq3
    conv => cbv
    refine r_subf m.sX (by omega) (by omega) fun r1 hr1 => ?_
    conv => cbv
    refine r_mcall m.sX (cPick_ok code a3 s3 r1 h (by omega) (by omega)) ?_
    rintro _ _ ⟨q4, rfl, ⟨a4, s4, rfl, ea4, fa4⟩, bq4, cq4, dq4⟩
    conv => cbv
    refine r_addf m.sX (by omega) (by omega) fun r2 hr2 => ?_
    conv => cbv
    refine r_mcall m.sX (cPick_ok code a4 s4 30 h (by omega) (by omega)) ?_
    rintro _ _ ⟨q5, rfl, ⟨a5, s5, rfl, ea5, fa5⟩, bq5, cq5, dq5⟩
    conv => cbv
    refine r_eql m.sX (fun h1 => ?_) (fun h1 => ?_) <;> conv => cbv
    · refine r_subf m.sX (by omega) (by omega) fun r3 hr3 => ?_
      conv => cbv
      refine r_mcall m.sX (cAmong_ok code a5 s5 ([-1, n, r3]) (by simp) h (by omega) (by omega)) ?_
      rintro _ _ ⟨q6, rfl, ⟨a6, s6, rfl, ea6, fa6⟩, bq6⟩
      simp only [List.mem_cons, List.not_mem_nil, or_false] at bq6
      conv => cbv
      exact hQ (.agg [.int .i64 q6, .int .i64 r2, .int .i64 q3]) (cCur code a6 s6) ⟨(q6, r2, q3), rfl, ⟨a6, s6, rfl, by omega, by omega⟩⟩   -- leaf 1
    · refine r_eql m.sX (fun h2 => ?_) (fun h2 => ?_) <;> conv => cbv
      · refine r_subf m.sX (by omega) (by omega) fun r4 hr4 => ?_
        conv => cbv
        refine r_addf m.sX (by omega) (by omega) fun r5 hr5 => ?_
        conv => cbv
        refine r_mcall m.sX (cAmong_ok code a5 s5 ([0, r5, 1]) (by simp) h (by omega) (by omega)) ?_
        rintro _ _ ⟨q7, rfl, ⟨a7, s7, rfl, ea7, fa7⟩, bq7⟩
        simp only [List.mem_cons, List.not_mem_nil, or_false] at bq7
        conv => cbv
        exact hQ (.agg [.int .i64 q1, .int .i64 q7, .int .i64 q3]) (cCur code a7 s7) ⟨(q1, q7, q3), rfl, ⟨a7, s7, rfl, by omega, by omega⟩⟩   -- leaf 2
      · refine r_eql m.sX (fun h3 => ?_) (fun h3 => ?_) <;> conv => cbv
        · refine r_mcall m.sX (cAmong_ok code a5 s5 ([-1, 600, 601]) (by simp) h (by omega) (by omega)) ?_
          rintro _ _ ⟨q8, rfl, ⟨a8, s8, rfl, ea8, fa8⟩, bq8⟩
          simp only [List.mem_cons, List.not_mem_nil, or_false] at bq8
          conv => cbv
          exact hQ (.agg [.int .i64 q1, .int .i64 r2, .int .i64 q8]) (cCur code a8 s8) ⟨(q1, r2, q8), rfl, ⟨a8, s8, rfl, by omega, by omega⟩⟩   -- leaf 3
        · exact hQ (.agg [.int .i64 q1, .int .i64 r2, .int .i64 q3]) (cCur code a5 s5) ⟨(q1, r2, q3), rfl, ⟨a5, s5, rfl, by omega, by omega⟩⟩   -- leaf 4

theorem cEntry_ex (code : List Int) (b0 t0 : Int) : ∃ r cs, (∃ (q : Entry), r = PV.agg (cEntry q) ∧ CurTo code b0 20 cs) :=
  ⟨_, _, (0, 0, 0), rfl, ⟨b0, t0, rfl, by omega, by omega⟩⟩

theorem cTable_ok (code : List Int) (b0 t0 : Int)  (h : CurIn code) (h0 : 0 ≤ b0) (hk : b0 ≤ 899999999999400000)  : OkM Try.prog 226 (cCur code b0 t0) [] (fun r cs => ∃ (q1 : Int) (q2 : List Entry), r = .tup [.int .i64 q1, .fr 196 3 (rows cEntry q2)] ∧ CurTo code b0 600 cs ∧ (q2.length ≤ 21) ∧ (-1 ≤ q1 ∧ q1 ≤ 11)) :=
  fnM_intro envOk fieldsOk mixed Try.func226 rfl fun κ X Y L Q m hQ => by
    conv => cbv
    refine r_mcall m.sX (cPick_ok code b0 t0 4 h (by omega) (by omega)) ?_
    rintro _ _ ⟨q1, rfl, ⟨a1, s1, rfl, ea1, fa1⟩, bq1, cq1, dq1⟩
    conv => cbv
    refine r_addf m.sX (by omega) (by omega) fun n hn => ?_
    conv => cbv
    refine r_mcall m.sX (cOne_ok code a1 s1 12 h (by omega) (by omega)) ?_
    rintro _ _ ⟨q2, rfl, ⟨a2, s2, rfl, ea2, fa2⟩⟩
    conv => cbv
    rcases Bool.eq_false_or_eq_true q2 with rfl | rfl <;> conv => cbv
    · refine r_mcall m.sX (cPick_ok code a2 s2 6 h (by omega) (by omega)) ?_
      rintro _ _ ⟨k, rfl, ⟨a3, s3, rfl, ea3, fa3⟩, bk, ck, dk⟩
      conv => cbv
      refine r_mcall m.sX (cOne_ok code a3 s3 12 h (by omega) (by omega)) ?_
      rintro _ _ ⟨q3, rfl, ⟨a4, s4, rfl, ea4, fa4⟩⟩
      conv => cbv
      rcases Bool.eq_false_or_eq_true q3 with rfl | rfl <;> conv => cbv
      · refine r_mcall m.sX (cPick_ok code a4 s4 2 h (by omega) (by omega)) ?_
        rintro _ _ ⟨q4, rfl, ⟨a5, s5, rfl, ea5, fa5⟩, bq4, cq4, dq4⟩
        conv => cbv
        refine r_addf m.sX (by omega) (by omega) fun k_2 hk_2 => ?_
        conv => cbv
        refine r_loopF (α := Int × Int × List Entry) m 36 [4, 6] [⟨0, 1, 0, 0, 0⟩, ⟨5, 41, 196, 3, 0⟩] (fun σ => [(0, .optr 1 0 0 0 0), (4, .int .i64 10), (5, .osl 41 0), (6, .int .i64 k_2)]) (fun σ => [(1, 0, .box (cCur code σ.1 σ.2.1)), (41, 0, .row 196 3 (rows cEntry σ.2.2))])
          (fun σ => ((σ.2.2.length : Int) ≤ k_2) ∧ (a5 ≤ σ.1 ∧ σ.1 ≤ a5 + 20 * (σ.2.2.length : Int))) (fun σ => (k_2 - (σ.2.2.length : Int)).toNat) (a5, s5, []) ?_ ?_ ?_ ?_
        · cbv
        · (try dsimp only); simp only [rows_cons, rows_nil]; cbv
        · exact ⟨(by (try dsimp only); first | omega | (simp only [List.length_nil]; omega)), (by (try dsimp only); first | omega | (simp only [List.length_nil]; omega))⟩
        rintro ⟨a6, s6, l⟩ ⟨ll1, cl1⟩ E hE F hF
        dsimp only at ll1 cl1
        conv => cbv
        refine r_lenR m.sX fun n1 hn1 mn1 => ?_
        conv => cbv
        refine r_lss m.sX (fun h1 => ?_) (fun h1 => ?_) <;> conv => cbv
        · refine r_mcall m.sX (cEntry_ok code a6 s6 10 h (by omega) (by omega) (by first | rfl | assumption | omega | (simp only [List.length_append, List.length_cons, List.length_nil] at *; omega))) ?_
          rintro _ _ ⟨⟨q5A, q5B, q5C⟩, rfl, ⟨a7, s7, rfl, ea7, fa7⟩⟩
          conv => cbv
          refine r_append1 ((q5A, q5B, q5C)) m.sX rfl (by first | omega | (dsimp only; omega)) (by first | omega | (dsimp only; omega)) fun l_2 hl_2 => ?_
          conv => cbv
          have ll_2 : (l_2.length : Int) = l.length + 1 := by rw [hl_2]; first | done | (simp; done) | (simp; omega)
          refine hE _ (a7, s7, l_2) ?_ ?_ ⟨(by (try dsimp only); first | omega | (simp only [List.length_nil]; omega)), (by (try dsimp only); first | omega | (simp only [List.length_nil]; omega))⟩ (by first | omega | (dsimp only; omega))
          · cbv
          · cbv
        · refine hF _ _ ?_
          conv => cbv
          refine r_mcall m.sX (cOne_ok code a6 s6 24 h (by omega) (by omega)) ?_
          rintro _ _ ⟨q6, rfl, ⟨a8, s8, rfl, ea8, fa8⟩⟩
          conv => cbv
          rcases Bool.eq_false_or_eq_true q6 with rfl | rfl <;> conv => cbv
          · refine r_mcall m.sX (cAmong_ok code a8 s8 ([0, 11, -1]) (by simp) h (by omega) (by omega)) ?_
            rintro _ _ ⟨n_2, rfl, ⟨a9, s9, rfl, ea9, fa9⟩, bn_2⟩
            simp only [List.mem_cons, List.not_mem_nil, or_false] at bn_2
            conv => cbv
            exact hQ (.tup [.int .i64 n_2, .fr 196 3 (rows cEntry l)]) (cCur code a9 s9) ⟨n_2, l, rfl, ⟨a9, s9, rfl, by omega, by omega⟩, (by first | omega | assumption | (simp; done) | (simp [*]; done) | (simp at *; omega)), (by first | omega | assumption | (simp; done) | (simp [*]; done) | (simp at *; omega))⟩   -- leaf 1
          · exact hQ (.tup [.int .i64 10, .fr 196 3 (rows cEntry l)]) (cCur code a8 s8) ⟨10, l, rfl, ⟨a8, s8, rfl, by omega, by omega⟩, (by first | omega | assumption | (simp; done) | (simp [*]; done) | (simp at *; omega)), (by first | omega | assumption | (simp; done) | (simp [*]; done) | (simp at *; omega))⟩   -- leaf 2
      · refine r_loopF (α := Int × Int × List Entry) m 36 [4, 6] [⟨0, 1, 0, 0, 0⟩, ⟨5, 41, 196, 3, 0⟩] (fun σ => [(0, .optr 1 0 0 0 0), (4, .int .i64 10), (5, .osl 41 0), (6, .int .i64 k)]) (fun σ => [(1, 0, .box (cCur code σ.1 σ.2.1)), (41, 0, .row 196 3 (rows cEntry σ.2.2))])
          (fun σ => ((σ.2.2.length : Int) ≤ k) ∧ (a4 ≤ σ.1 ∧ σ.1 ≤ a4 + 20 * (σ.2.2.length : Int))) (fun σ => (k - (σ.2.2.length : Int)).toNat) (a4, s4, []) ?_ ?_ ?_ ?_
        · cbv
        · (try dsimp only); simp only [rows_cons, rows_nil]; cbv
        · exact ⟨(by (try dsimp only); first | omega | (simp only [List.length_nil]; omega)), (by (try dsimp only); first | omega | (simp only [List.length_nil]; omega))⟩
        rintro ⟨a10, s10, l_3⟩ ⟨ll2, cl2⟩ E hE F hF
        dsimp only at ll2 cl2
        conv => cbv
        refine r_lenR m.sX fun n2 hn2 mn2 => ?_
        conv => cbv
        refine r_lss m.sX (fun h2 => ?_) (fun h2 => ?_) <;> conv => cbv
        · refine r_mcall m.sX (cEntry_ok code a10 s10 10 h (by omega) (by omega) (by first | rfl | assumption | omega | (simp only [List.length_append, List.length_cons, List.length_nil] at *; omega))) ?_
          rintro _ _ ⟨⟨q7A, q7B, q7C⟩, rfl, ⟨a11, s11, rfl, ea11, fa11⟩⟩
          conv => cbv
          refine r_append1 ((q7A, q7B, q7C)) m.sX rfl (by first | omega | (dsimp only; omega)) (by first | omega | (dsimp only; omega)) fun l_4 hl_4 => ?_
          conv => cbv
          have ll_4 : (l_4.length : Int) = l_3.length + 1 := by rw [hl_4]; first | done | (simp; done) | (simp; omega)
          refine hE _ (a11, s11, l_4) ?_ ?_ ⟨(by (try dsimp only); first | omega | (simp only [List.length_nil]; omega)), (by (try dsimp only); first | omega | (simp only [List.length_nil]; omega))⟩ (by first | omega | (dsimp only; omega))
          · cbv
          · cbv
        · refine hF _ _ ?_
          conv => cbv
          refine r_mcall m.sX (cOne_ok code a10 s10 24 h (by omega) (by omega)) ?_
          rintro _ _ ⟨q8, rfl, ⟨a12, s12, rfl, ea12, fa12⟩⟩
          conv => cbv
          rcases Bool.eq_false_or_eq_true q8 with rfl | rfl <;> conv => cbv
          · refine r_mcall m.sX (cAmong_ok code a12 s12 ([0, 11, -1]) (by simp) h (by omega) (by omega)) ?_
            rintro _ _ ⟨n_3, rfl, ⟨a13, s13, rfl, ea13, fa13⟩, bn_3⟩
            simp only [List.mem_cons, List.not_mem_nil, or_false] at bn_3
            conv => cbv
            exact hQ (.tup [.int .i64 n_3, .fr 196 3 (rows cEntry l_3)]) (cCur code a13 s13) ⟨n_3, l_3, rfl, ⟨a13, s13, rfl, by omega, by omega⟩, (by first | omega | assumption | (simp; done) | (simp [*]; done) | (simp at *; omega)), (by first | omega | assumption | (simp; done) | (simp [*]; done) | (simp at *; omega))⟩   -- leaf 3
          · exact hQ (.tup [.int .i64 10, .fr 196 3 (rows cEntry l_3)]) (cCur code a12 s12) ⟨10, l_3, rfl, ⟨a12, s12, rfl, by omega, by omega⟩, (by first | omega | assumption | (simp; done) | (simp [*]; done) | (simp at *; omega)), (by first | omega | assumption | (simp; done) | (simp [*]; done) | (simp at *; omega))⟩   -- leaf 4
    · refine r_mcall m.sX (cPick_ok code a2 s2 6 h (by omega) (by omega)) ?_
      rintro _ _ ⟨k_3, rfl, ⟨a14, s14, rfl, ea14, fa14⟩, bk_3, ck_3, dk_3⟩
      conv => cbv
      refine r_mcall m.sX (cOne_ok code a14 s14 12 h (by omega) (by omega)) ?_
      rintro _ _ ⟨q9, rfl, ⟨a15, s15, rfl, ea15, fa15⟩⟩
      conv => cbv
      rcases Bool.eq_false_or_eq_true q9 with rfl | rfl <;> conv => cbv
      · refine r_mcall m.sX (cPick_ok code a15 s15 2 h (by omega) (by omega)) ?_
        rintro _ _ ⟨q10, rfl, ⟨a16, s16, rfl, ea16, fa16⟩, bq10, cq10, dq10⟩
        conv => cbv
        refine r_addf m.sX (by omega) (by omega) fun k_4 hk_4 => ?_
        conv => cbv
        refine r_loopF (α := Int × Int × List Entry) m 36 [4, 6] [⟨0, 1, 0, 0, 0⟩, ⟨5, 41, 196, 3, 0⟩] (fun σ => [(0, .optr 1 0 0 0 0), (4, .int .i64 n), (5, .osl 41 0), (6, .int .i64 k_4)]) (fun σ => [(1, 0, .box (cCur code σ.1 σ.2.1)), (41, 0, .row 196 3 (rows cEntry σ.2.2))])
          (fun σ => ((σ.2.2.length : Int) ≤ k_4) ∧ (a16 ≤ σ.1 ∧ σ.1 ≤ a16 + 20 * (σ.2.2.length : Int))) (fun σ => (k_4 - (σ.2.2.length : Int)).toNat) (a16, s16, []) ?_ ?_ ?_ ?_
        · cbv
        · (try dsimp only); simp only [rows_cons, rows_nil]; cbv
        · exact ⟨(by (try dsimp only); first | omega | (simp only [List.length_nil]; omega)), (by (try dsimp only); first | omega | (simp only [List.length_nil]; omega))⟩
        rintro ⟨a17, s17, l_5⟩ ⟨ll3, cl3⟩ E hE F hF
        dsimp only at ll3 cl3
        conv => cbv
        refine r_lenR m.sX fun n3 hn3 mn3 => ?_
        conv => cbv
        refine r_lss m.sX (fun h3 => ?_) (fun h3 => ?_) <;> conv => cbv
        · refine r_mcall m.sX (cEntry_ok code a17 s17 n h (by omega) (by omega) (by first | rfl | assumption | omega | (simp only [List.length_append, List.length_cons, List.length_nil] at *; omega))) ?_
          rintro _ _ ⟨⟨q11A, q11B, q11C⟩, rfl, ⟨a18, s18, rfl, ea18, fa18⟩⟩
          conv => cbv
          refine r_append1 ((q11A, q11B, q11C)) m.sX rfl (by first | omega | (dsimp only; omega)) (by first | omega | (dsimp only; omega)) fun l_6 hl_6 => ?_
          conv => cbv
          have ll_6 : (l_6.length : Int) = l_5.length + 1 := by rw [hl_6]; first | done | (simp; done) | (simp; omega)
          refine hE _ (a18, s18, l_6) ?_ ?_ ⟨(by (try dsimp only); first | omega | (simp only [List.length_nil]; omega)), (by (try dsimp only); first | omega | (simp only [List.length_nil]; omega))⟩ (by first | omega | (dsimp only; omega))
          · cbv
          · cbv
        · refine hF _ _ ?_
          conv => cbv
          refine r_mcall m.sX (cOne_ok code a17 s17 24 h (by omega) (by omega)) ?_
          rintro _ _ ⟨q12, rfl, ⟨a19, s19, rfl, ea19, fa19⟩⟩
          conv => cbv
          rcases Bool.eq_false_or_eq_true q12 with rfl | rfl <;> conv => cbv
          · refine r_mcall m.sX (cAmong_ok code a19 s19 ([0, 11, -1]) (by simp) h (by omega) (by omega)) ?_
            rintro _ _ ⟨n_4, rfl, ⟨a20, s20, rfl, ea20, fa20⟩, bn_4⟩
            simp only [List.mem_cons, List.not_mem_nil, or_false] at bn_4
            conv => cbv
            exact hQ (.tup [.int .i64 n_4, .fr 196 3 (rows cEntry l_5)]) (cCur code a20 s20) ⟨n_4, l_5, rfl, ⟨a20, s20, rfl, by omega, by omega⟩, (by first | omega | assumption | (simp; done) | (simp [*]; done) | (simp at *; omega)), (by first | omega | assumption | (simp; done) | (simp [*]; done) | (simp at *; omega))⟩   -- leaf 5
          · exact hQ (.tup [.int .i64 n, .fr 196 3 (rows cEntry l_5)]) (cCur code a19 s19) ⟨n, l_5, rfl, ⟨a19, s19, rfl, by omega, by omega⟩, (by first | omega | assumption | (simp; done) | (simp [*]; done) | (simp at *; omega)), (by first | omega | assumption | (simp; done) | (simp [*]; done) | (simp at *; omega))⟩   -- leaf 6
      · refine r_loopF (α := Int × Int × List Entry) m 36 [4, 6] [⟨0, 1, 0, 0, 0⟩, ⟨5, 41, 196, 3, 0⟩] (fun σ => [(0, .optr 1 0 0 0 0), (4, .int .i64 n), (5, .osl 41 0), (6, .int .i64 k_3)]) (fun σ => [(1, 0, .box (cCur code σ.1 σ.2.1)), (41, 0, .row 196 3 (rows cEntry σ.2.2))])
          (fun σ => ((σ.2.2.length : Int) ≤ k_3) ∧ (a15 ≤ σ.1 ∧ σ.1 ≤ a15 + 20 * (σ.2.2.length : Int))) (fun σ => (k_3 - (σ.2.2.length : Int)).toNat) (a15, s15, []) ?_ ?_ ?_ ?_
        · cbv
        · (try dsimp only); simp only [rows_cons, rows_nil]; cbv
        · exact ⟨(by (try dsimp only); first | omega | (simp only [List.length_nil]; omega)), (by (try dsimp only); first | omega | (simp only [List.length_nil]; omega))⟩
        rintro ⟨a21, s21, l_7⟩ ⟨ll4, cl4⟩ E hE F hF
        dsimp only at ll4 cl4
        conv => cbv
        refine r_lenR m.sX fun n4 hn4 mn4 => ?_
        conv => cbv
        refine r_lss m.sX (fun h4 => ?_) (fun h4 => ?_) <;> conv => cbv
        · refine r_mcall m.sX (cEntry_ok code a21 s21 n h (by omega) (by omega) (by first | rfl | assumption | omega | (simp only [List.length_append, List.length_cons, List.length_nil] at *; omega))) ?_
          rintro _ _ ⟨⟨q13A, q13B, q13C⟩, rfl, ⟨a22, s22, rfl, ea22, fa22⟩⟩
          conv => cbv
          refine r_append1 ((q13A, q13B, q13C)) m.sX rfl (by first | omega | (dsimp only; omega)) (by first | omega | (dsimp only; omega)) fun l_8 hl_8 => ?_
          conv => cbv
          have ll_8 : (l_8.length : Int) = l_7.length + 1 := by rw [hl_8]; first | done | (simp; done) | (simp; omega)
          refine hE _ (a22, s22, l_8) ?_ ?_ ⟨(by (try dsimp only); first | omega | (simp only [List.length_nil]; omega)), (by (try dsimp only); first | omega | (simp only [List.length_nil]; omega))⟩ (by first | omega | (dsimp only; omega))
          · cbv
          · cbv
        · refine hF _ _ ?_
          conv => cbv
          refine r_mcall m.sX (cOne_ok code a21 s21 24 h (by omega) (by omega)) ?_
          rintro _ _ ⟨q14, rfl, ⟨a23, s23, rfl, ea23, fa23⟩⟩
          conv => cbv
          rcases Bool.eq_false_or_eq_true q14 with rfl | rfl <;> conv => cbv
          · refine r_mcall m.sX (cAmong_ok code a23 s23 ([0, 11, -1]) (by simp) h (by omega) (by omega)) ?_
            rintro _ _ ⟨n_5, rfl, ⟨a24, s24, rfl, ea24, fa24⟩, bn_5⟩
            simp only [List.mem_cons, List.not_mem_nil, or_false] at bn_5
            conv => cbv
            exact hQ (.tup [.int .i64 n_5, .fr 196 3 (rows cEntry l_7)]) (cCur code a24 s24) ⟨n_5, l_7, rfl, ⟨a24, s24, rfl, by omega, by omega⟩, (by first | omega | assumption | (simp; done) | (simp [*]; done) | (simp at *; omega)), (by first | omega | assumption | (simp; done) | (simp [*]; done) | (simp at *; omega))⟩   -- leaf 7
          · exact hQ (.tup [.int .i64 n, .fr 196 3 (rows cEntry l_7)]) (cCur code a23 s23) ⟨n, l_7, rfl, ⟨a23, s23, rfl, by omega, by omega⟩, (by first | omega | assumption | (simp; done) | (simp [*]; done) | (simp at *; omega)), (by first | omega | assumption | (simp; done) | (simp [*]; done) | (simp at *; omega))⟩   -- leaf 8

theorem cTable_ex (code : List Int) (b0 t0 : Int) : ∃ r cs, (∃ (q1 : Int) (q2 : List Entry), r = PV.tup [.int .i64 q1, .fr 196 3 (rows cEntry q2)] ∧ CurTo code b0 600 cs ∧ (q2.length ≤ 21) ∧ (-1 ≤ q1 ∧ q1 ≤ 11)) :=
  ⟨_, _, 0, [], rfl, ⟨b0, t0, rfl, by omega, by omega⟩, (by first | omega | simp), (by first | omega | simp)⟩

theorem cGapOf_ok (code : List Int) (b0 t0 : Int)  (h : CurIn code) (h0 : 0 ≤ b0) (hk : b0 ≤ 899999999999994000)  : OkM Try.prog 227 (cCur code b0 t0) [] (fun r cs => ∃ (q : Int), r = .int .i64 q ∧ CurTo code b0 6 cs ∧ (-1 ≤ q ∧ q ≤ 37)) :=
  fnM_intro envOk fieldsOk mixed Try.func227 rfl fun κ X Y L Q m hQ => by
    conv => cbv
    refine r_mcall m.sX (cAmong_ok code b0 t0 ([36, -1, 37]) (by simp) h (by omega) (by omega)) ?_
    rintro _ _ ⟨q1, rfl, ⟨a1, s1, rfl, ea1, fa1⟩, bq1⟩
    simp only [List.mem_cons, List.not_mem_nil, or_false] at bq1
    conv => cbv
    refine r_mcall m.sX (cAmong_ok code a1 s1 ([0, 0, 3, 6, 12, q1]) (by simp) h (by omega) (by omega)) ?_
    rintro _ _ ⟨q2, rfl, ⟨a2, s2, rfl, ea2, fa2⟩, bq2⟩
    simp only [List.mem_cons, List.not_mem_nil, or_false] at bq2
    conv => cbv
    exact hQ (.int .i64 q2) (cCur code a2 s2) ⟨q2, rfl, ⟨a2, s2, rfl, by omega, by omega⟩, (by first | omega | assumption | (simp; done) | (simp [*]; done) | (simp at *; omega))⟩   -- leaf 1

theorem cGapOf_ex (code : List Int) (b0 t0 : Int) : ∃ r cs, (∃ (q : Int), r = PV.int .i64 q ∧ CurTo code b0 6 cs ∧ (-1 ≤ q ∧ q ≤ 37)) :=
  ⟨_, _, 0, rfl, ⟨b0, t0, rfl, by omega, by omega⟩, (by first | omega | simp)⟩

theorem drawLeastStarts_ok (code : List Int) (h : CurIn code) : OkA Try.prog 220 [.isl 1 (rows cU8 code)] (fun r => ∃ (q1 : Int) (q2 : List Entry) (q3 : Int), r = .tup [.int .i64 q1, .fr 196 3 (rows cEntry q2), .int .i64 q3] ∧ (q2.length ≤ 21) ∧ (-1 ≤ q1 ∧ q1 ≤ 11)) :=
  fn_intro envOk fieldsOk mixed Try.func220 rfl fun κ X Y L Q m hQ => by
    conv => cbv
    refine r_mcall m.sX (cTable_ok code 0 0 h (by omega) (by omega)) ?_
    rintro _ _ ⟨n, l, rfl, ⟨a1, s1, rfl, ea1, fa1⟩, bn_1, bn_2⟩
    conv => cbv
    refine r_mcall m.sX (cGapOf_ok code a1 s1 h (by omega) (by omega)) ?_
    rintro _ _ ⟨q1, rfl, ⟨a2, s2, rfl, ea2, fa2⟩, bq1_1⟩
    conv => cbv
    exact hQ (.tup [.int .i64 n, .fr 196 3 (rows cEntry l), .int .i64 q1]) ⟨n, l, q1, rfl, (by first | omega | assumption | (simp; done) | (simp [*]; done) | (simp at *; omega)), (by first | omega | assumption | (simp; done) | (simp [*]; done) | (simp at *; omega))⟩   -- leaf 1

-- lacks spec.DrawAddEntry
-- lacks spec.DrawEntriesOver
end Go.Proofs.Ytpjmpgbgglhoeaa.Ai
