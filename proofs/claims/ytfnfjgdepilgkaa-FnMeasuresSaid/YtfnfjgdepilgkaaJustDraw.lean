/- Contracts of what the laws on lines draw. -/
import Derived.Test.YtfnfjgdepilgkaaJust
import Derived.Test.YtfnfjgdepilgkaaAiIceM
namespace Go.Proofs.Ytfnfjgdepilgkaa.Ai
open Go Go.Proofs
set_option maxRecDepth 10000
set_option maxHeartbeats 4000000
set_option linter.unusedVariables false

theorem cRule_ok (code : List Int) (b0 t0 : Int)  (h : CurIn code) (h0 : 0 ≤ b0) (hk : b0 ≤ 899999999999980000)  : OkM Try.prog 126 (cCur code b0 t0) [] (fun r cs => ∃ (q : JRule), r = .agg (cRule q) ∧ CurTo code b0 20 cs) :=
  fnM_intro envOk fieldsOk mixed Try.func126 rfl fun κ X Y L Q m hQ => by
    conv => cbv
    refine r_mcall m.sX (cPick_ok code b0 t0 4 h (by omega) (by omega)) ?_
    rintro _ _ ⟨q1, rfl, ⟨a1, s1, rfl, ea1, fa1⟩, bq1, cq1, dq1⟩
    conv => cbv
    refine r_addf m.sX (by omega) (by omega) fun low hlow => ?_
    conv => cbv
    refine r_mcall m.sX (cPick_ok code a1 s1 4 h (by omega) (by omega)) ?_
    rintro _ _ ⟨q2, rfl, ⟨a2, s2, rfl, ea2, fa2⟩, bq2, cq2, dq2⟩
    conv => cbv
    refine r_addf m.sX (by omega) (by omega) fun r1 hr1 => ?_
    conv => cbv
    refine r_draw m (by kernel_rfl) ?_
    conv => cbv
    refine r_mcallS m.sY (cPick_ok code a2 s2 5 h (by omega) (by omega)) (cPick_ex code a2 s2 5) (by rintro _ _ ⟨_, rfl, _⟩; first | trivial | (intro x hx; simp at hx; rcases hx with rfl | rfl | rfl <;> trivial)) ?_
    rintro _ _ ⟨q3, rfl, ⟨a3, s3, rfl, ea3, fa3⟩, bq3, cq3, dq3⟩
    conv => cbv
    refine r_addf m.sY (by omega) (by omega) fun r2 hr2 => ?_
    conv => cbv
    refine r_mcall m.sX (cPick_ok code a3 s3 24 h (by omega) (by omega)) ?_
    rintro _ _ ⟨q4, rfl, ⟨a4, s4, rfl, ea4, fa4⟩, bq4, cq4, dq4⟩
    conv => cbv
    refine r_eql m.sX (fun h1 => ?_) (fun h1 => ?_) <;> conv => cbv
    · refine r_mcall m.sX (cAmong_ok code a4 s4 ([54, 55, 0]) (by simp) h (by omega) (by omega)) ?_
      rintro _ _ ⟨q5, rfl, ⟨a5, s5, rfl, ea5, fa5⟩, bq5⟩
      simp only [List.mem_cons, List.not_mem_nil, or_false] at bq5
      conv => cbv
      exact hQ (.agg [.int .i64 low, .int .i64 r1, .int .i64 q5]) (cCur code a5 s5) ⟨(low, r1, q5), rfl, ⟨a5, s5, rfl, by omega, by omega⟩⟩   -- leaf 1
    · refine r_eql m.sX (fun h2 => ?_) (fun h2 => ?_) <;> conv => cbv
      · refine r_addf m.sX (by omega) (by omega) fun r3 hr3 => ?_
        conv => cbv
        refine r_mcall m.sX (cAmong_ok code a4 s4 ([0, -1, r1, r3]) (by simp) h (by omega) (by omega)) ?_
        rintro _ _ ⟨q6, rfl, ⟨a6, s6, rfl, ea6, fa6⟩, bq6⟩
        simp only [List.mem_cons, List.not_mem_nil, or_false] at bq6
        conv => cbv
        exact hQ (.agg [.int .i64 q6, .int .i64 r1, .int .i64 r2]) (cCur code a6 s6) ⟨(q6, r1, r2), rfl, ⟨a6, s6, rfl, by omega, by omega⟩⟩   -- leaf 2
      · exact hQ (.agg [.int .i64 low, .int .i64 r1, .int .i64 r2]) (cCur code a4 s4) ⟨(low, r1, r2), rfl, ⟨a4, s4, rfl, by omega, by omega⟩⟩   -- leaf 3

theorem cRule_ex (code : List Int) (b0 t0 : Int) : ∃ r cs, (∃ (q : JRule), r = PV.agg (cRule q) ∧ CurTo code b0 20 cs) :=
  ⟨_, _, (0, 0, 0), rfl, ⟨b0, t0, rfl, by omega, by omega⟩⟩

theorem cWidths_ok (code : List Int) (b0 t0 : Int) (most : Int) (h : CurIn code) (h0 : 0 ≤ b0) (hk : b0 ≤ 899999999999600000) (hm : 0 ≤ most ∧ most ≤ 60) : OkM Try.prog 125 (cCur code b0 t0) [.int .i64 most] (fun r cs => ∃ (q : List Int), r = .fr 3 1 (rows cInt q) ∧ CurTo code b0 400 cs ∧ (q.length ≤ 61)) :=
  fnM_intro envOk fieldsOk mixed Try.func125 rfl fun κ X Y L Q m hQ => by
    conv => cbv
    refine r_mcall m.sX (cPick_ok code b0 t0 6 h (by omega) (by omega)) ?_
    rintro _ _ ⟨q1, rfl, ⟨a1, s1, rfl, ea1, fa1⟩, bq1, cq1, dq1⟩
    conv => cbv
    refine r_addf m.sX (by omega) (by omega) fun n hn => ?_
    conv => cbv
    refine r_mcall m.sX (cOne_ok code a1 s1 12 h (by omega) (by omega)) ?_
    rintro _ _ ⟨q2, rfl, ⟨a2, s2, rfl, ea2, fa2⟩⟩
    conv => cbv
    rcases Bool.eq_false_or_eq_true q2 with rfl | rfl <;> conv => cbv
    · refine r_addf m.sX (by omega) (by omega) fun r1 hr1 => ?_
      conv => cbv
      refine r_mcall m.sX (cAmong_ok code a2 s2 ([0, most, r1]) (by simp) h (by omega) (by omega)) ?_
      rintro _ _ ⟨n_2, rfl, ⟨a3, s3, rfl, ea3, fa3⟩, bn_2⟩
      simp only [List.mem_cons, List.not_mem_nil, or_false] at bn_2
      conv => cbv
      refine r_loop (α := Int × Int × List Int) m 43 [6] [⟨0, 1, 0, 0, 0⟩, ⟨5, 41, 3, 1, 0⟩] (fun σ => [(0, .optr 1 0 0 0 0), (5, .osl 41 0), (6, .int .i64 n_2)]) (fun σ => [(1, 0, .box (cCur code σ.1 σ.2.1)), (41, 0, .row 3 1 (rows cInt σ.2.2))])
        (fun σ => ((σ.2.2.length : Int) ≤ n_2) ∧ (a3 ≤ σ.1 ∧ σ.1 ≤ a3 + 2 * (σ.2.2.length : Int))) (fun σ => (n_2 - (σ.2.2.length : Int)).toNat) (a3, s3, []) ?_ ?_ ?_ ?_
      · cbv
      · (try dsimp only); simp only [rows_cons, rows_nil]; cbv
      · exact ⟨(by (try dsimp only); first | omega | (simp only [List.length_nil]; omega)), (by (try dsimp only); first | omega | (simp only [List.length_nil]; omega))⟩
      rintro ⟨a4, s4, l⟩ ⟨ll1, cl1⟩ E hE
      dsimp only at ll1 cl1
      conv => cbv
      refine r_lenR m.sX fun n1 hn1 mn1 => ?_
      conv => cbv
      refine r_lss m.sX (fun h1 => ?_) (fun h1 => ?_) <;> conv => cbv
      · refine r_mcall m.sX (cPick_ok code a4 s4 30 h (by omega) (by omega)) ?_
        rintro _ _ ⟨q3, rfl, ⟨a5, s5, rfl, ea5, fa5⟩, bq3, cq3, dq3⟩
        conv => cbv
        refine r_addf m.sX (by omega) (by omega) fun r2 hr2 => ?_
        conv => cbv
        refine r_append1 (r2) m.sX rfl (by first | omega | (dsimp only; omega)) (by first | omega | (dsimp only; omega)) fun l_2 hl_2 => ?_
        conv => cbv
        have ll_2 : (l_2.length : Int) = l.length + 1 := by rw [hl_2]; first | done | (simp; done) | (simp; omega)
        refine hE _ (a5, s5, l_2) ?_ ?_ ⟨(by (try dsimp only); first | omega | (simp only [List.length_nil]; omega)), (by (try dsimp only); first | omega | (simp only [List.length_nil]; omega))⟩ (by first | omega | (dsimp only; omega))
        · cbv
        · cbv
      · refine r_gtr m.sX (fun h2 => ?_) (fun h2 => ?_) <;> conv => cbv
        · refine r_mcall m.sX (cOne_ok code a4 s4 16 h (by omega) (by omega)) ?_
          rintro _ _ ⟨q4, rfl, ⟨a6, s6, rfl, ea6, fa6⟩⟩
          conv => cbv
          rcases Bool.eq_false_or_eq_true q4 with rfl | rfl <;> conv => cbv
          · refine r_mcall m.sX (cPick_ok code a6 s6 n_2 h (by omega) (by omega)) ?_
            rintro _ _ ⟨q5, rfl, ⟨a7, s7, rfl, ea7, fa7⟩, bq5, cq5, dq5⟩
            conv => cbv
            refine r_mcall m.sX (cAmong_ok code a7 s7 ([1, 600, 601, 0]) (by simp) h (by omega) (by omega)) ?_
            rintro _ _ ⟨q6, rfl, ⟨a8, s8, rfl, ea8, fa8⟩, bq6⟩
            simp only [List.mem_cons, List.not_mem_nil, or_false] at bq6
            conv => cbv
            refine r_oindex m.sX (by omega) (by omega) ?_
            conv => cbv
            obtain ⟨y1, hy1⟩ := get_ex (xs := l) (i := Int.toNat q5) (by omega)
            refine r_ostore (l := Int.toNat q5) q6 m.sX hy1 (Nat.le_of_ble_eq_true rfl) rfl fun l_3 hl_3 => ?_   -- l_3 = l.set q5 q6
            have ll_3 : (l_3.length : Int) = l.length := by rw [hl_3]; first | done | (simp; done) | (simp; omega)
            conv => cbv
            exact hQ (.fr 3 1 (rows cInt l_3)) (cCur code a8 s8) ⟨l_3, rfl, ⟨a8, s8, rfl, by omega, by omega⟩, (by first | omega | assumption | (simp; done) | (simp [*]; done) | (simp at *; omega))⟩   -- leaf 1
          · exact hQ (.fr 3 1 (rows cInt l)) (cCur code a6 s6) ⟨l, rfl, ⟨a6, s6, rfl, by omega, by omega⟩, (by first | omega | assumption | (simp; done) | (simp [*]; done) | (simp at *; omega))⟩   -- leaf 2
        · exact hQ (.fr 3 1 (rows cInt l)) (cCur code a4 s4) ⟨l, rfl, ⟨a4, s4, rfl, by omega, by omega⟩, (by first | omega | assumption | (simp; done) | (simp [*]; done) | (simp at *; omega))⟩   -- leaf 3
    · refine r_loop (α := Int × Int × List Int) m 43 [6] [⟨0, 1, 0, 0, 0⟩, ⟨5, 41, 3, 1, 0⟩] (fun σ => [(0, .optr 1 0 0 0 0), (5, .osl 41 0), (6, .int .i64 n)]) (fun σ => [(1, 0, .box (cCur code σ.1 σ.2.1)), (41, 0, .row 3 1 (rows cInt σ.2.2))])
        (fun σ => ((σ.2.2.length : Int) ≤ n) ∧ (a2 ≤ σ.1 ∧ σ.1 ≤ a2 + 2 * (σ.2.2.length : Int))) (fun σ => (n - (σ.2.2.length : Int)).toNat) (a2, s2, []) ?_ ?_ ?_ ?_
      · cbv
      · (try dsimp only); simp only [rows_cons, rows_nil]; cbv
      · exact ⟨(by (try dsimp only); first | omega | (simp only [List.length_nil]; omega)), (by (try dsimp only); first | omega | (simp only [List.length_nil]; omega))⟩
      rintro ⟨a9, s9, l_4⟩ ⟨ll2, cl2⟩ E hE
      dsimp only at ll2 cl2
      conv => cbv
      refine r_lenR m.sX fun n2 hn2 mn2 => ?_
      conv => cbv
      refine r_lss m.sX (fun h3 => ?_) (fun h3 => ?_) <;> conv => cbv
      · refine r_mcall m.sX (cPick_ok code a9 s9 30 h (by omega) (by omega)) ?_
        rintro _ _ ⟨q7, rfl, ⟨a10, s10, rfl, ea10, fa10⟩, bq7, cq7, dq7⟩
        conv => cbv
        refine r_addf m.sX (by omega) (by omega) fun r3 hr3 => ?_
        conv => cbv
        refine r_append1 (r3) m.sX rfl (by first | omega | (dsimp only; omega)) (by first | omega | (dsimp only; omega)) fun l_5 hl_5 => ?_
        conv => cbv
        have ll_5 : (l_5.length : Int) = l_4.length + 1 := by rw [hl_5]; first | done | (simp; done) | (simp; omega)
        refine hE _ (a10, s10, l_5) ?_ ?_ ⟨(by (try dsimp only); first | omega | (simp only [List.length_nil]; omega)), (by (try dsimp only); first | omega | (simp only [List.length_nil]; omega))⟩ (by first | omega | (dsimp only; omega))
        · cbv
        · cbv
      · refine r_gtr m.sX (fun h4 => ?_) (fun h4 => ?_) <;> conv => cbv
        · refine r_mcall m.sX (cOne_ok code a9 s9 16 h (by omega) (by omega)) ?_
          rintro _ _ ⟨q8, rfl, ⟨a11, s11, rfl, ea11, fa11⟩⟩
          conv => cbv
          rcases Bool.eq_false_or_eq_true q8 with rfl | rfl <;> conv => cbv
          · refine r_mcall m.sX (cPick_ok code a11 s11 n h (by omega) (by omega)) ?_
            rintro _ _ ⟨q9, rfl, ⟨a12, s12, rfl, ea12, fa12⟩, bq9, cq9, dq9⟩
            conv => cbv
            refine r_mcall m.sX (cAmong_ok code a12 s12 ([1, 600, 601, 0]) (by simp) h (by omega) (by omega)) ?_
            rintro _ _ ⟨q10, rfl, ⟨a13, s13, rfl, ea13, fa13⟩, bq10⟩
            simp only [List.mem_cons, List.not_mem_nil, or_false] at bq10
            conv => cbv
            refine r_oindex m.sX (by omega) (by omega) ?_
            conv => cbv
            obtain ⟨y2, hy2⟩ := get_ex (xs := l_4) (i := Int.toNat q9) (by omega)
            refine r_ostore (l := Int.toNat q9) q10 m.sX hy2 (Nat.le_of_ble_eq_true rfl) rfl fun l_6 hl_6 => ?_   -- l_6 = l_4.set q9 q10
            have ll_6 : (l_6.length : Int) = l_4.length := by rw [hl_6]; first | done | (simp; done) | (simp; omega)
            conv => cbv
            exact hQ (.fr 3 1 (rows cInt l_6)) (cCur code a13 s13) ⟨l_6, rfl, ⟨a13, s13, rfl, by omega, by omega⟩, (by first | omega | assumption | (simp; done) | (simp [*]; done) | (simp at *; omega))⟩   -- leaf 4
          · exact hQ (.fr 3 1 (rows cInt l_4)) (cCur code a11 s11) ⟨l_4, rfl, ⟨a11, s11, rfl, by omega, by omega⟩, (by first | omega | assumption | (simp; done) | (simp [*]; done) | (simp at *; omega))⟩   -- leaf 5
        · exact hQ (.fr 3 1 (rows cInt l_4)) (cCur code a9 s9) ⟨l_4, rfl, ⟨a9, s9, rfl, by omega, by omega⟩, (by first | omega | assumption | (simp; done) | (simp [*]; done) | (simp at *; omega))⟩   -- leaf 6

theorem cWidths_ex (code : List Int) (b0 t0 : Int) : ∃ r cs, (∃ (q : List Int), r = PV.fr 3 1 (rows cInt q) ∧ CurTo code b0 400 cs ∧ (q.length ≤ 61)) :=
  ⟨_, _, [], rfl, ⟨b0, t0, rfl, by omega, by omega⟩, (by first | omega | simp)⟩

theorem cMeasureOf_ok (code : List Int) (b0 t0 : Int) (words : List Int) (r : JRule) (h : CurIn code) (h0 : 0 ≤ b0) (hk : b0 ≤ 899999999999980000)  : OkM Try.prog 132 (cCur code b0 t0) [.isl 1 (rows cInt words), .agg (cRule r)] (fun r cs => ∃ (q : Int), r = .int .i64 q ∧ CurTo code b0 20 cs) := by
  obtain ⟨rA, rB, rC⟩ := r
  try dsimp only at *
  exact fnM_intro envOk fieldsOk mixed Try.func132 rfl fun κ X Y L Q m hQ => by
    conv => cbv
    refine r_callB m.sX (juLine_ok words) (fun h1 => ?_) (fun h1 => ?_) <;> conv => cbv
    · have s1 := line_sum h1
      try dsimp only at s1
      have s0 := line_fits h1
      try dsimp only at s0
      refine r_callB m.sX (juRule_ok (rA, rB, rC)) (fun h2 => ?_) (fun h2 => ?_) <;> conv => cbv
      · have s2 := okRule_spec h2
        try dsimp only at s2
        refine r_mcall m.sX (cOne_ok code b0 t0 4 h (by omega) (by omega)) ?_
        rintro _ _ ⟨q1, rfl, ⟨a1, s1, rfl, ea1, fa1⟩⟩
        conv => cbv
        rcases Bool.eq_false_or_eq_true q1 with rfl | rfl <;> conv => cbv
        · refine r_mcall m.sX (cAmong_ok code a1 s1 ([100, 0, 2001]) (by simp) h (by omega) (by omega)) ?_
          rintro _ _ ⟨q2, rfl, ⟨a2, s2, rfl, ea2, fa2⟩, bq2⟩
          simp only [List.mem_cons, List.not_mem_nil, or_false] at bq2
          conv => cbv
          refine r_mcall m.sX (cAmong_ok code a2 s2 ([1, 50, 86, 120, 2000, q2]) (by simp) h (by omega) (by omega)) ?_
          rintro _ _ ⟨q3, rfl, ⟨a3, s3, rfl, ea3, fa3⟩, bq3⟩
          simp only [List.mem_cons, List.not_mem_nil, or_false] at bq3
          conv => cbv
          exact hQ (.int .i64 q3) (cCur code a3 s3) ⟨q3, rfl, ⟨a3, s3, rfl, by omega, by omega⟩⟩   -- leaf 1
        · refine r_draw m (by kernel_rfl) ?_
          conv => cbv
          refine r_callFS (PV.int .i64) m.sY (juSum_ok words (by first | rfl | assumption | omega | (simp only [List.length_append, List.length_cons, List.length_nil] at *; omega))) trivial fun r1 hr1 => ?_
          conv => cbv
          try dsimp only at hr1
          refine r_lenRS m.sY (by omega) fun n1 hn1 => ?_
          conv => cbv
          refine r_subf m.sY (by omega) (by omega) fun r2 hr2 => ?_
          conv => cbv
          have g1 := gaps_mul (show 0 ≤ r2 ∧ r2 ≤ 19 by omega) (show 1 ≤ rA ∧ rA ≤ 54 by omega)
          try dsimp only at g1
          refine r_mulf m.sY (by first | omega | (subst_vars; omega)) (by first | omega | (subst_vars; omega)) fun r3 hr3 => ?_
          conv => cbv
          refine r_addf m.sY (by omega) (by omega) fun low hlow => ?_
          conv => cbv
          refine r_callFS (PV.int .i64) m.sY (juSum_ok words (by first | rfl | assumption | omega | (simp only [List.length_append, List.length_cons, List.length_nil] at *; omega))) trivial fun y1 hy1 => ?_
          obtain rfl := hy1.trans hr1.symm
          clear hy1
          conv => cbv
          refine r_lenRS m.sY (by omega) fun n2 hn2 => ?_
          conv => cbv
          refine r_subf m.sY (by omega) (by omega) fun r4 hr4 => ?_
          conv => cbv
          have g2 := gaps_mul (show 0 ≤ r4 ∧ r4 ≤ 19 by omega) (show 1 ≤ rC ∧ rC ≤ 54 by omega)
          try dsimp only at g2
          refine r_mulf m.sY (by first | omega | (subst_vars; omega)) (by first | omega | (subst_vars; omega)) fun r5 hr5 => ?_
          conv => cbv
          refine r_addf m.sY (by omega) (by omega) fun high hhigh => ?_
          conv => cbv
          refine r_subf m.sX (by omega) (by omega) fun r6 hr6 => ?_
          conv => cbv
          refine r_addf m.sX (by omega) (by omega) fun r7 hr7 => ?_
          conv => cbv
          refine r_mcall m.sX (cPick_ok code a1 s1 r7 h (by omega) (by omega)) ?_
          rintro _ _ ⟨q4, rfl, ⟨a4, s4, rfl, ea4, fa4⟩, bq4, cq4, dq4⟩
          conv => cbv
          refine r_addf m.sX (by omega) (by omega) fun r8 hr8 => ?_
          conv => cbv
          refine r_subf m.sX (by omega) (by omega) fun r9 hr9 => ?_
          conv => cbv
          refine r_callF (PV.int .i64) m.sX (l1Least_ok 2000 r9) fun r10 hr10 => ?_
          conv => cbv
          try dsimp only at hr10
          exact hQ (.int .i64 r10) (cCur code a4 s4) ⟨r10, rfl, ⟨a4, s4, rfl, by omega, by omega⟩⟩   -- leaf 2
      · refine r_mcall m.sX (cAmong_ok code b0 t0 ([100, 0, 2001]) (by simp) h (by omega) (by omega)) ?_
        rintro _ _ ⟨q5, rfl, ⟨a5, s5, rfl, ea5, fa5⟩, bq5⟩
        simp only [List.mem_cons, List.not_mem_nil, or_false] at bq5
        conv => cbv
        refine r_mcall m.sX (cAmong_ok code a5 s5 ([1, 50, 86, 120, 2000, q5]) (by simp) h (by omega) (by omega)) ?_
        rintro _ _ ⟨q6, rfl, ⟨a6, s6, rfl, ea6, fa6⟩, bq6⟩
        simp only [List.mem_cons, List.not_mem_nil, or_false] at bq6
        conv => cbv
        exact hQ (.int .i64 q6) (cCur code a6 s6) ⟨q6, rfl, ⟨a6, s6, rfl, by omega, by omega⟩⟩   -- leaf 3
    · refine r_mcall m.sX (cAmong_ok code b0 t0 ([100, 0, 2001]) (by simp) h (by omega) (by omega)) ?_
      rintro _ _ ⟨q7, rfl, ⟨a7, s7, rfl, ea7, fa7⟩, bq7⟩
      simp only [List.mem_cons, List.not_mem_nil, or_false] at bq7
      conv => cbv
      refine r_mcall m.sX (cAmong_ok code a7 s7 ([1, 50, 86, 120, 2000, q7]) (by simp) h (by omega) (by omega)) ?_
      rintro _ _ ⟨q8, rfl, ⟨a8, s8, rfl, ea8, fa8⟩, bq8⟩
      simp only [List.mem_cons, List.not_mem_nil, or_false] at bq8
      conv => cbv
      exact hQ (.int .i64 q8) (cCur code a8 s8) ⟨q8, rfl, ⟨a8, s8, rfl, by omega, by omega⟩⟩   -- leaf 4

theorem cMeasureOf_ex (code : List Int) (b0 t0 : Int) : ∃ r cs, (∃ (q : Int), r = PV.int .i64 q ∧ CurTo code b0 20 cs) :=
  ⟨_, _, 0, rfl, ⟨b0, t0, rfl, by omega, by omega⟩⟩

end Go.Proofs.Ytfnfjgdepilgkaa.Ai
