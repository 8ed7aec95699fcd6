/- Contracts of what the laws on presses draw. -/
import Derived.Test.YtnanackogloioaaPress
namespace Go.Proofs.Ytnanackogloioaa.Ai
open Go Go.Proofs
set_option maxRecDepth 10000
set_option maxHeartbeats 4000000
set_option linter.unusedVariables false

theorem cPress_ok (code : List Int) (b0 t0 : Int)  (h : CurIn code) (h0 : 0 ≤ b0) (hk : b0 ≤ 899999999999960000)  : OkM Try.prog 98 (cCur code b0 t0) [] (fun r cs => ∃ (q : Press), r = .agg (cPress q) ∧ CurTo code b0 40 cs) :=
  fnM_intro envOk fieldsOk mixed Try.func98 rfl fun κ X Y L Q m hQ => by
    conv => cbv
    refine r_mcall m.sX (cAmong_ok code b0 t0 ([1000, 800, 250, 60]) (by simp) h (by omega) (by omega)) ?_
    rintro _ _ ⟨q1, rfl, ⟨a1, s1, rfl, ea1, fa1⟩, bq1⟩
    simp only [List.mem_cons, List.not_mem_nil, or_false] at bq1
    conv => cbv
    refine r_mcall m.sX (cAmong_ok code a1 s1 ([0, 10, 25]) (by simp) h (by omega) (by omega)) ?_
    rintro _ _ ⟨q2, rfl, ⟨a2, s2, rfl, ea2, fa2⟩, bq2⟩
    simp only [List.mem_cons, List.not_mem_nil, or_false] at bq2
    conv => cbv
    refine r_mcall m.sX (cAmong_ok code a2 s2 ([0, 20, 35, 100, 500]) (by simp) h (by omega) (by omega)) ?_
    rintro _ _ ⟨q3, rfl, ⟨a3, s3, rfl, ea3, fa3⟩, bq3⟩
    simp only [List.mem_cons, List.not_mem_nil, or_false] at bq3
    conv => cbv
    refine r_loopF (α := Int × Int × List Int) m 63 [] [⟨0, 1, 0, 0, 0⟩, ⟨2, 17, 0, 0, 0⟩, ⟨3, 25, 0, 0, 0⟩, ⟨3, 32025, 3, 1, 4⟩] (fun σ => [(0, .optr 1 0 0 0 0), (2, .optr 17 0 4 0 0), (3, .optr 25 0 4 0 0)]) (fun σ => [(1, 0, .box (cCur code σ.1 σ.2.1)), (17, 0, .box [.int .i64 0, .int .i64 0, .int .i64 0, .nil]), (25, 0, .box [.int .i64 q1, .int .i64 q2, .int .i64 q3, .osl 32025 0]), (32025, 0, .row 3 1 (rows cInt σ.2.2))])
      (fun σ => ((σ.2.2.length : Int) ≤ 5) ∧ (a3 ≤ σ.1 ∧ σ.1 ≤ a3 + 2 * (σ.2.2.length : Int))) (fun σ => (5 - (σ.2.2.length : Int)).toNat) (a3, s3, []) ?_ ?_ ?_ ?_
    · cbv
    · (try dsimp only); simp only [rows_cons, rows_nil]; cbv
    · exact ⟨(by (try dsimp only); first | omega | (simp only [List.length_nil]; omega)), (by (try dsimp only); first | omega | (simp only [List.length_nil]; omega))⟩
    rintro ⟨a4, s4, ys1⟩ ⟨ll1, cl1⟩ E hE F hF
    dsimp only at ll1 cl1
    conv => cbv
    refine r_lenR m.sX fun n1 hn1 mn1 => ?_
    conv => cbv
    refine r_lss m.sX (fun h1 => ?_) (fun h1 => ?_) <;> conv => cbv
    · refine r_draw m (by kernel_rfl) ?_
      conv => cbv
      refine r_mcallS m.sY (cAmong_ok code a4 s4 ([0, 6, 21, 30, 45]) (by simp) h (by omega) (by omega)) (cAmong_ex code a4 s4 ([0, 6, 21, 30, 45]) (by simp)) (by rintro _ _ ⟨_, rfl, _⟩; first | trivial | (intro x hx; simp at hx; rcases hx with rfl | rfl | rfl <;> trivial)) ?_
      rintro _ _ ⟨q4, rfl, ⟨a5, s5, rfl, ea5, fa5⟩, bq4⟩
      simp only [List.mem_cons, List.not_mem_nil, or_false] at bq4
      conv => cbv
      refine r_append1 (q4) m.sY rfl (by first | omega | (dsimp only; omega)) (by first | omega | (dsimp only; omega)) fun zs1 hzs1 => ?_
      conv => cbv
      have lzs1 : (zs1.length : Int) = ys1.length + 1 := by rw [hzs1]; first | done | (simp; done) | (simp; omega)
      refine hE _ (a5, s5, zs1) ?_ ?_ ⟨(by (try dsimp only); first | omega | (simp only [List.length_nil]; omega)), (by (try dsimp only); first | omega | (simp only [List.length_nil]; omega))⟩ (by first | omega | (dsimp only; omega))
      · cbv
      · cbv
    · refine hF _ _ ?_
      conv => cbv
      refine r_mcall m.sX (cPick_ok code a4 s4 30 h (by omega) (by omega)) ?_
      rintro _ _ ⟨q5, rfl, ⟨a6, s6, rfl, ea6, fa6⟩, bq5, cq5, dq5⟩
      conv => cbv
      refine r_eql m.sX (fun h2 => ?_) (fun h2 => ?_) <;> conv => cbv
      · refine r_mcall m.sX (cAmong_ok code a6 s6 ([0, 1, 5000, 5001]) (by simp) h (by omega) (by omega)) ?_
        rintro _ _ ⟨q6, rfl, ⟨a7, s7, rfl, ea7, fa7⟩, bq6⟩
        simp only [List.mem_cons, List.not_mem_nil, or_false] at bq6
        conv => cbv
        exact hQ (.agg [.int .i64 q6, .int .i64 q2, .int .i64 q3, .isl 1 (rows cInt ys1)]) (cCur code a7 s7) ⟨(q6, q2, q3, ys1), rfl, ⟨a7, s7, rfl, by omega, by omega⟩⟩   -- leaf 1
      · refine r_eql m.sX (fun h3 => ?_) (fun h3 => ?_) <;> conv => cbv
        · refine r_mcall m.sX (cAmong_ok code a6 s6 ([-1, 600, 601]) (by simp) h (by omega) (by omega)) ?_
          rintro _ _ ⟨q7, rfl, ⟨a8, s8, rfl, ea8, fa8⟩, bq7⟩
          simp only [List.mem_cons, List.not_mem_nil, or_false] at bq7
          conv => cbv
          exact hQ (.agg [.int .i64 q1, .int .i64 q7, .int .i64 q3, .isl 1 (rows cInt ys1)]) (cCur code a8 s8) ⟨(q1, q7, q3, ys1), rfl, ⟨a8, s8, rfl, by omega, by omega⟩⟩   -- leaf 2
        · refine r_eql m.sX (fun h4 => ?_) (fun h4 => ?_) <;> conv => cbv
          · refine r_mcall m.sX (cAmong_ok code a6 s6 ([-1, 501, 1000]) (by simp) h (by omega) (by omega)) ?_
            rintro _ _ ⟨q8, rfl, ⟨a9, s9, rfl, ea9, fa9⟩, bq8⟩
            simp only [List.mem_cons, List.not_mem_nil, or_false] at bq8
            conv => cbv
            exact hQ (.agg [.int .i64 q1, .int .i64 q2, .int .i64 q8, .isl 1 (rows cInt ys1)]) (cCur code a9 s9) ⟨(q1, q2, q8, ys1), rfl, ⟨a9, s9, rfl, by omega, by omega⟩⟩   -- leaf 3
          · refine r_eql m.sX (fun h5 => ?_) (fun h5 => ?_) <;> conv => cbv
            · refine r_draw m (by kernel_rfl) ?_
              conv => cbv
              refine r_mcallS m.sY (cPick_ok code a6 s6 5 h (by omega) (by omega)) (cPick_ex code a6 s6 5) (by rintro _ _ ⟨_, rfl, _⟩; first | trivial | (intro x hx; simp at hx; rcases hx with rfl | rfl | rfl <;> trivial)) ?_
              rintro _ _ ⟨q9, rfl, ⟨a10, s10, rfl, ea10, fa10⟩, bq9, cq9, dq9⟩
              conv => cbv
              refine r_mcallS m.sY (cAmong_ok code a10 s10 ([-1, 300, 301]) (by simp) h (by omega) (by omega)) (cAmong_ex code a10 s10 ([-1, 300, 301]) (by simp)) (by rintro _ _ ⟨_, rfl, _⟩; first | trivial | (intro x hx; simp at hx; rcases hx with rfl | rfl | rfl <;> trivial)) ?_
              rintro _ _ ⟨q10, rfl, ⟨a11, s11, rfl, ea11, fa11⟩, bq10⟩
              simp only [List.mem_cons, List.not_mem_nil, or_false] at bq10
              conv => cbv
              refine r_oindex m.sY (by omega) (by omega) ?_
              conv => cbv
              obtain ⟨y1, hy1⟩ := get_ex (xs := ys1) (i := Int.toNat q9) (by omega)
              refine r_ostore (l := Int.toNat q9) q10 m.sY hy1 (Nat.le_of_ble_eq_true rfl) rfl fun zs2 hzs2 => ?_   -- zs2 = ys1.set q9 q10
              have lzs2 : (zs2.length : Int) = ys1.length := by rw [hzs2]; first | done | (simp; done) | (simp; omega)
              conv => cbv
              exact hQ (.agg [.int .i64 q1, .int .i64 q2, .int .i64 q3, .isl 1 (rows cInt zs2)]) (cCur code a11 s11) ⟨(q1, q2, q3, zs2), rfl, ⟨a11, s11, rfl, by omega, by omega⟩⟩   -- leaf 4
            · refine r_eql m.sX (fun h6 => ?_) (fun h6 => ?_) <;> conv => cbv
              · refine r_islice' (i := 1) m.sX (by omega) (by omega) fun zs3 hzs3 => ?_   -- zs3 = ys1[1:None]
                have lzs3 : (zs3.length : Int) = ys1.length - 1 := by rw [hzs3]; first | done | (simp; done) | (simp; omega)
                conv => cbv
                exact hQ (.agg [.int .i64 q1, .int .i64 q2, .int .i64 q3, .isl 1 (rows cInt zs3)]) (cCur code a6 s6) ⟨(q1, q2, q3, zs3), rfl, ⟨a6, s6, rfl, by omega, by omega⟩⟩   -- leaf 5
              · exact hQ (.agg [.int .i64 q1, .int .i64 q2, .int .i64 q3, .isl 1 (rows cInt ys1)]) (cCur code a6 s6) ⟨(q1, q2, q3, ys1), rfl, ⟨a6, s6, rfl, by omega, by omega⟩⟩   -- leaf 6

theorem cPress_ex (code : List Int) (b0 t0 : Int) : ∃ r cs, (∃ (q : Press), r = PV.agg (cPress q) ∧ CurTo code b0 40 cs) :=
  ⟨_, _, (0, 0, 0, []), rfl, ⟨b0, t0, rfl, by omega, by omega⟩⟩

theorem cPressJob_ok (code : List Int) (b0 t0 : Int)  (h : CurIn code) (h0 : 0 ≤ b0) (hk : b0 ≤ 899999999999980000)  : OkM Try.prog 99 (cCur code b0 t0) [] (fun r cs => ∃ (q : PressJob), r = .agg (cPressJob q) ∧ CurTo code b0 20 cs) :=
  fnM_intro envOk fieldsOk mixed Try.func99 rfl fun κ X Y L Q m hQ => by
    conv => cbv
    refine r_mcall m.sX (cPick_ok code b0 t0 4 h (by omega) (by omega)) ?_
    rintro _ _ ⟨q1, rfl, ⟨a1, s1, rfl, ea1, fa1⟩, bq1, cq1, dq1⟩
    conv => cbv
    refine r_mcall m.sX (cPick_ok code a1 s1 900 h (by omega) (by omega)) ?_
    rintro _ _ ⟨q2, rfl, ⟨a2, s2, rfl, ea2, fa2⟩, bq2, cq2, dq2⟩
    conv => cbv
    refine r_addf m.sX (by omega) (by omega) fun r1 hr1 => ?_
    conv => cbv
    refine r_mcall m.sX (cAmong_ok code a2 s2 ([1, 50, 500, r1]) (by simp) h (by omega) (by omega)) ?_
    rintro _ _ ⟨q3, rfl, ⟨a3, s3, rfl, ea3, fa3⟩, bq3⟩
    simp only [List.mem_cons, List.not_mem_nil, or_false] at bq3
    conv => cbv
    refine r_mcall m.sX (cPick_ok code a3 s3 400 h (by omega) (by omega)) ?_
    rintro _ _ ⟨q4, rfl, ⟨a4, s4, rfl, ea4, fa4⟩, bq4, cq4, dq4⟩
    conv => cbv
    refine r_mcall m.sX (cAmong_ok code a4 s4 ([0, 40, 100, 200, q4]) (by simp) h (by omega) (by omega)) ?_
    rintro _ _ ⟨q5, rfl, ⟨a5, s5, rfl, ea5, fa5⟩, bq5⟩
    simp only [List.mem_cons, List.not_mem_nil, or_false] at bq5
    conv => cbv
    refine r_mcall m.sX (cPick_ok code a5 s5 40 h (by omega) (by omega)) ?_
    rintro _ _ ⟨q6, rfl, ⟨a6, s6, rfl, ea6, fa6⟩, bq6, cq6, dq6⟩
    conv => cbv
    refine r_eql m.sX (fun h1 => ?_) (fun h1 => ?_) <;> conv => cbv
    · refine r_mcall m.sX (cAmong_ok code a6 s6 ([4, 5, -1]) (by simp) h (by omega) (by omega)) ?_
      rintro _ _ ⟨q7, rfl, ⟨a7, s7, rfl, ea7, fa7⟩, bq7⟩
      simp only [List.mem_cons, List.not_mem_nil, or_false] at bq7
      conv => cbv
      exact hQ (.agg [.int .i64 q7, .int .i64 q3, .int .i64 q5]) (cCur code a7 s7) ⟨(q7, q3, q5), rfl, ⟨a7, s7, rfl, by omega, by omega⟩⟩   -- leaf 1
    · refine r_eql m.sX (fun h2 => ?_) (fun h2 => ?_) <;> conv => cbv
      · refine r_mcall m.sX (cAmong_ok code a6 s6 ([0, 20000, 20001, -9223372036854775808]) (by simp) h (by omega) (by omega)) ?_
        rintro _ _ ⟨q8, rfl, ⟨a8, s8, rfl, ea8, fa8⟩, bq8⟩
        simp only [List.mem_cons, List.not_mem_nil, or_false] at bq8
        conv => cbv
        exact hQ (.agg [.int .i64 q1, .int .i64 q8, .int .i64 q5]) (cCur code a8 s8) ⟨(q1, q8, q5), rfl, ⟨a8, s8, rfl, by omega, by omega⟩⟩   -- leaf 2
      · refine r_eql m.sX (fun h3 => ?_) (fun h3 => ?_) <;> conv => cbv
        · refine r_mcall m.sX (cAmong_ok code a6 s6 ([-1, 100000, 100001]) (by simp) h (by omega) (by omega)) ?_
          rintro _ _ ⟨q9, rfl, ⟨a9, s9, rfl, ea9, fa9⟩, bq9⟩
          simp only [List.mem_cons, List.not_mem_nil, or_false] at bq9
          conv => cbv
          exact hQ (.agg [.int .i64 q1, .int .i64 q3, .int .i64 q9]) (cCur code a9 s9) ⟨(q1, q3, q9), rfl, ⟨a9, s9, rfl, by omega, by omega⟩⟩   -- leaf 3
        · exact hQ (.agg [.int .i64 q1, .int .i64 q3, .int .i64 q5]) (cCur code a6 s6) ⟨(q1, q3, q5), rfl, ⟨a6, s6, rfl, by omega, by omega⟩⟩   -- leaf 4

theorem cPressJob_ex (code : List Int) (b0 t0 : Int) : ∃ r cs, (∃ (q : PressJob), r = PV.agg (cPressJob q) ∧ CurTo code b0 20 cs) :=
  ⟨_, _, (0, 0, 0), rfl, ⟨b0, t0, rfl, by omega, by omega⟩⟩

theorem cPressJobs_ok (code : List Int) (b0 t0 : Int)  (h : CurIn code) (h0 : 0 ≤ b0) (hk : b0 ≤ 899999999999700000)  : OkM Try.prog 108 (cCur code b0 t0) [] (fun r cs => ∃ (q : List PressJob), r = .fr 28 3 (rows cPressJob q) ∧ CurTo code b0 300 cs ∧ (q.length ≤ 8)) :=
  fnM_intro envOk fieldsOk mixed Try.func108 rfl fun κ X Y L Q m hQ => by
    conv => cbv
    refine r_mcall m.sX (cPick_ok code b0 t0 6 h (by omega) (by omega)) ?_
    rintro _ _ ⟨n, rfl, ⟨a1, s1, rfl, ea1, fa1⟩, bn, cn, dn⟩
    conv => cbv
    refine r_mcall m.sX (cOne_ok code a1 s1 16 h (by omega) (by omega)) ?_
    rintro _ _ ⟨q1, rfl, ⟨a2, s2, rfl, ea2, fa2⟩⟩
    conv => cbv
    rcases Bool.eq_false_or_eq_true q1 with rfl | rfl <;> conv => cbv
    · refine r_mcall m.sX (cPick_ok code a2 s2 2 h (by omega) (by omega)) ?_
      rintro _ _ ⟨q2, rfl, ⟨a3, s3, rfl, ea3, fa3⟩, bq2, cq2, dq2⟩
      conv => cbv
      refine r_addf m.sX (by omega) (by omega) fun n_2 hn_2 => ?_
      conv => cbv
      refine r_loopF (α := Int × Int × List PressJob) m 22 [4] [⟨0, 1, 0, 0, 0⟩, ⟨3, 25, 28, 3, 0⟩] (fun σ => [(0, .optr 1 0 0 0 0), (3, .osl 25 0), (4, .int .i64 n_2)]) (fun σ => [(1, 0, .box (cCur code σ.1 σ.2.1)), (25, 0, .row 28 3 (rows cPressJob σ.2.2))])
        (fun σ => ((σ.2.2.length : Int) ≤ n_2) ∧ (a3 ≤ σ.1 ∧ σ.1 ≤ a3 + 20 * (σ.2.2.length : Int))) (fun σ => (n_2 - (σ.2.2.length : Int)).toNat) (a3, s3, []) ?_ ?_ ?_ ?_
      · cbv
      · (try dsimp only); simp only [rows_cons, rows_nil]; cbv
      · exact ⟨(by (try dsimp only); first | omega | (simp only [List.length_nil]; omega)), (by (try dsimp only); first | omega | (simp only [List.length_nil]; omega))⟩
      rintro ⟨a4, s4, l⟩ ⟨ll1, cl1⟩ E hE F hF
      dsimp only at ll1 cl1
      conv => cbv
      refine r_lenR m.sX fun n1 hn1 mn1 => ?_
      conv => cbv
      refine r_lss m.sX (fun h1 => ?_) (fun h1 => ?_) <;> conv => cbv
      · refine r_mcall m.sX (cPressJob_ok code a4 s4 h (by omega) (by omega)) ?_
        rintro _ _ ⟨⟨q3A, q3B, q3C⟩, rfl, ⟨a5, s5, rfl, ea5, fa5⟩⟩
        conv => cbv
        refine r_append1 ((q3A, q3B, q3C)) m.sX rfl (by first | omega | (dsimp only; omega)) (by first | omega | (dsimp only; omega)) fun l_2 hl_2 => ?_
        conv => cbv
        have ll_2 : (l_2.length : Int) = l.length + 1 := by rw [hl_2]; first | done | (simp; done) | (simp; omega)
        refine hE _ (a5, s5, l_2) ?_ ?_ ⟨(by (try dsimp only); first | omega | (simp only [List.length_nil]; omega)), (by (try dsimp only); first | omega | (simp only [List.length_nil]; omega))⟩ (by first | omega | (dsimp only; omega))
        · cbv
        · cbv
      · refine hF _ _ ?_
        conv => cbv
        exact hQ (.fr 28 3 (rows cPressJob l)) (cCur code a4 s4) ⟨l, rfl, ⟨a4, s4, rfl, by omega, by omega⟩, (by first | omega | assumption | (simp; done) | (simp [*]; done) | (simp at *; omega))⟩   -- leaf 1
    · refine r_loopF (α := Int × Int × List PressJob) m 22 [4] [⟨0, 1, 0, 0, 0⟩, ⟨3, 25, 28, 3, 0⟩] (fun σ => [(0, .optr 1 0 0 0 0), (3, .osl 25 0), (4, .int .i64 n)]) (fun σ => [(1, 0, .box (cCur code σ.1 σ.2.1)), (25, 0, .row 28 3 (rows cPressJob σ.2.2))])
        (fun σ => ((σ.2.2.length : Int) ≤ n) ∧ (a2 ≤ σ.1 ∧ σ.1 ≤ a2 + 20 * (σ.2.2.length : Int))) (fun σ => (n - (σ.2.2.length : Int)).toNat) (a2, s2, []) ?_ ?_ ?_ ?_
      · cbv
      · (try dsimp only); simp only [rows_cons, rows_nil]; cbv
      · exact ⟨(by (try dsimp only); first | omega | (simp only [List.length_nil]; omega)), (by (try dsimp only); first | omega | (simp only [List.length_nil]; omega))⟩
      rintro ⟨a6, s6, l_3⟩ ⟨ll2, cl2⟩ E hE F hF
      dsimp only at ll2 cl2
      conv => cbv
      refine r_lenR m.sX fun n2 hn2 mn2 => ?_
      conv => cbv
      refine r_lss m.sX (fun h2 => ?_) (fun h2 => ?_) <;> conv => cbv
      · refine r_mcall m.sX (cPressJob_ok code a6 s6 h (by omega) (by omega)) ?_
        rintro _ _ ⟨⟨q4A, q4B, q4C⟩, rfl, ⟨a7, s7, rfl, ea7, fa7⟩⟩
        conv => cbv
        refine r_append1 ((q4A, q4B, q4C)) m.sX rfl (by first | omega | (dsimp only; omega)) (by first | omega | (dsimp only; omega)) fun l_4 hl_4 => ?_
        conv => cbv
        have ll_4 : (l_4.length : Int) = l_3.length + 1 := by rw [hl_4]; first | done | (simp; done) | (simp; omega)
        refine hE _ (a7, s7, l_4) ?_ ?_ ⟨(by (try dsimp only); first | omega | (simp only [List.length_nil]; omega)), (by (try dsimp only); first | omega | (simp only [List.length_nil]; omega))⟩ (by first | omega | (dsimp only; omega))
        · cbv
        · cbv
      · refine hF _ _ ?_
        conv => cbv
        exact hQ (.fr 28 3 (rows cPressJob l_3)) (cCur code a6 s6) ⟨l_3, rfl, ⟨a6, s6, rfl, by omega, by omega⟩, (by first | omega | assumption | (simp; done) | (simp [*]; done) | (simp at *; omega))⟩   -- leaf 2

theorem cPressJobs_ex (code : List Int) (b0 t0 : Int) : ∃ r cs, (∃ (q : List PressJob), r = PV.fr 28 3 (rows cPressJob q) ∧ CurTo code b0 300 cs ∧ (q.length ≤ 8)) :=
  ⟨_, _, [], rfl, ⟨b0, t0, rfl, by omega, by omega⟩, (by first | omega | simp)⟩

theorem drawSheetsNeeded_ok (code : List Int) (h : CurIn code) : OkA Try.prog 10 [.isl 1 (rows cU8 code)] (fun r => ∃ (q1 : Press) (q2 : PressJob), r = .tup [.agg (cPress q1), .agg (cPressJob q2)]) :=
  fn_intro envOk fieldsOk mixed Try.func10 rfl fun κ X Y L Q m hQ => by
    conv => cbv
    refine r_mcall m.sX (cPress_ok code 0 0 h (by omega) (by omega)) ?_
    rintro _ _ ⟨⟨q1A, q1B, q1C, q1D⟩, rfl, ⟨a1, s1, rfl, ea1, fa1⟩⟩
    conv => cbv
    refine r_mcall m.sX (cPressJob_ok code a1 s1 h (by omega) (by omega)) ?_
    rintro _ _ ⟨⟨q2A, q2B, q2C⟩, rfl, ⟨a2, s2, rfl, ea2, fa2⟩⟩
    conv => cbv
    exact hQ (.tup [.agg [.int .i64 q1A, .int .i64 q1B, .int .i64 q1C, .isl 1 (rows cInt q1D)], .agg [.int .i64 q2A, .int .i64 q2B, .int .i64 q2C]]) ⟨(q1A, q1B, q1C, q1D), (q2A, q2B, q2C), rfl⟩   -- leaf 1

theorem drawPaperFor_ok (code : List Int) (h : CurIn code) : OkA Try.prog 15 [.isl 1 (rows cU8 code)] (fun r => ∃ (q1 : Press) (q2 : List PressJob), r = .tup [.agg (cPress q1), .fr 28 3 (rows cPressJob q2)] ∧ (q2.length ≤ 8)) :=
  fn_intro envOk fieldsOk mixed Try.func15 rfl fun κ X Y L Q m hQ => by
    conv => cbv
    refine r_mcall m.sX (cPress_ok code 0 0 h (by omega) (by omega)) ?_
    rintro _ _ ⟨⟨q1A, q1B, q1C, q1D⟩, rfl, ⟨a1, s1, rfl, ea1, fa1⟩⟩
    conv => cbv
    refine r_mcall m.sX (cPressJobs_ok code a1 s1 h (by omega) (by omega)) ?_
    rintro _ _ ⟨q2, rfl, ⟨a2, s2, rfl, ea2, fa2⟩, bq2_1⟩
    conv => cbv
    exact hQ (.tup [.agg [.int .i64 q1A, .int .i64 q1B, .int .i64 q1C, .isl 1 (rows cInt q1D)], .fr 28 3 (rows cPressJob q2)]) ⟨(q1A, q1B, q1C, q1D), q2, rfl, (by first | omega | assumption | (simp; done) | (simp [*]; done) | (simp at *; omega))⟩   -- leaf 1

theorem drawWashBetween_ok (code : List Int) (h : CurIn code) : OkA Try.prog 18 [.isl 1 (rows cU8 code)] (fun r => ∃ (q1 : Press) (q2 : Int) (q3 : Int), r = .tup [.agg (cPress q1), .int .i64 q2, .int .i64 q3] ∧ (-1 ≤ q2 ∧ q2 ≤ 6) ∧ (-1 ≤ q3 ∧ q3 ≤ 6)) :=
  fn_intro envOk fieldsOk mixed Try.func18 rfl fun κ X Y L Q m hQ => by
    conv => cbv
    refine r_mcall m.sX (cPress_ok code 0 0 h (by omega) (by omega)) ?_
    rintro _ _ ⟨⟨q1A, q1B, q1C, q1D⟩, rfl, ⟨a1, s1, rfl, ea1, fa1⟩⟩
    conv => cbv
    refine r_mcall m.sX (cPick_ok code a1 s1 6 h (by omega) (by omega)) ?_
    rintro _ _ ⟨q2, rfl, ⟨a2, s2, rfl, ea2, fa2⟩, bq2, cq2, dq2⟩
    conv => cbv
    refine r_mcall m.sX (cPick_ok code a2 s2 20 h (by omega) (by omega)) ?_
    rintro _ _ ⟨q3, rfl, ⟨a3, s3, rfl, ea3, fa3⟩, bq3, cq3, dq3⟩
    conv => cbv
    refine r_divf m.sX (by omega) (by omega) fun r1 hr1 br1 => ?_
    conv => cbv
    refine r_subf m.sX (by omega) (by omega) fun r2 hr2 => ?_
    conv => cbv
    refine r_mcall m.sX (cPick_ok code a3 s3 6 h (by omega) (by omega)) ?_
    rintro _ _ ⟨q4, rfl, ⟨a4, s4, rfl, ea4, fa4⟩, bq4, cq4, dq4⟩
    conv => cbv
    refine r_mcall m.sX (cPick_ok code a4 s4 20 h (by omega) (by omega)) ?_
    rintro _ _ ⟨q5, rfl, ⟨a5, s5, rfl, ea5, fa5⟩, bq5, cq5, dq5⟩
    conv => cbv
    refine r_divf m.sX (by omega) (by omega) fun r3 hr3 br3 => ?_
    conv => cbv
    refine r_subf m.sX (by omega) (by omega) fun r4 hr4 => ?_
    conv => cbv
    exact hQ (.tup [.agg [.int .i64 q1A, .int .i64 q1B, .int .i64 q1C, .isl 1 (rows cInt q1D)], .int .i64 r2, .int .i64 r4]) ⟨(q1A, q1B, q1C, q1D), r2, r4, rfl, (by first | omega | assumption | (simp; done) | (simp [*]; done) | (simp at *; omega)), (by first | omega | assumption | (simp; done) | (simp [*]; done) | (simp at *; omega))⟩   -- leaf 1

end Go.Proofs.Ytnanackogloioaa.Ai
