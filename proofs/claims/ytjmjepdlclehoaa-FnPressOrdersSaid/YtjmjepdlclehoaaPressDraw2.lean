/- Contracts of what the law on orders of a press draws. -/
import Derived.Test.YtjmjepdlclehoaaPress2
import Derived.Test.YtjmjepdlclehoaaAiIceM
namespace Go.Proofs.Ytjmjepdlclehoaa.Ai
open Go Go.Proofs
set_option linter.unusedSimpArgs false
set_option maxRecDepth 10000
set_option maxHeartbeats 4000000
set_option linter.unusedVariables false
theorem OkM.iceR {P : Program} {f : FuncId} {cs args : List PV} {Q : PV → List PV → Prop} (h : OkM P f cs args (fun r cs' => Q (Ai.ice r) cs')) : OkM P f cs args Q :=
  h.iceE.mono fun r cs' ⟨r0, q, e⟩ => by rw [e]; exact q
theorem cPress_ok (code : List Int) (b0 t0 : Int)  (h : CurIn code) (h0 : 0 ≤ b0) (hk : b0 ≤ 899999999999960000)  : OkM Try.prog 96 (cCur code b0 t0) [] (fun r cs => ∃ (q : Press), r = .agg (cPress q) ∧ CurTo code b0 40 cs) :=
  fnM_intro envOk fieldsOk mixed Try.func96 rfl fun κ X Y L Q m hQ => by
    conv => cbv
    refine r_mcall m.sX (cAmong_ok code b0 t0 ([1000, 800, 250, 60]) (by simp) h (by omega) (by omega)) ?_
    rintro _ _ ⟨q1, rfl, ⟨a1, s1, rfl, ea1, fa1⟩, bq1⟩
    simp only [List.mem_cons, List.not_mem_nil, or_false] at bq1
    conv => cbv
    refine r_mcall m.sX (cAmong_ok code a1 s1 ([0, 10, 25]) (by simp) h (by omega) (by omega)) ?_
    rintro _ _ ⟨q2, rfl, ⟨a2, s2, rfl, ea2, fa2⟩, bq2⟩
    simp only [List.mem_cons, List.not_mem_nil, or_false] at bq2
    conv => cbv
    refine r_mcall m.sX (cAmong_ok code a2 s2 ([0, 20, 35, 100, 500]) (by simp) h (by omega) (by omega)) ?_
    rintro _ _ ⟨q3, rfl, ⟨a3, s3, rfl, ea3, fa3⟩, bq3⟩
    simp only [List.mem_cons, List.not_mem_nil, or_false] at bq3
    conv => cbv
    refine r_loopF (α := Int × Int × List Int) m 63 [] [⟨0, 1, 0, 0, 0⟩, ⟨2, 17, 0, 0, 0⟩, ⟨3, 25, 0, 0, 0⟩, ⟨3, 32025, 3, 1, 4⟩] (fun σ => [(0, .optr 1 0 0 0 0), (2, .optr 17 0 4 0 0), (3, .optr 25 0 4 0 0)]) (fun σ => [(1, 0, .box (cCur code σ.1 σ.2.1)), (17, 0, .box [.int .i64 0, .int .i64 0, .int .i64 0, .nil]), (25, 0, .box [.int .i64 q1, .int .i64 q2, .int .i64 q3, .osl 32025 0]), (32025, 0, .row 3 1 (rows cInt σ.2.2))])
      (fun σ => ((σ.2.2.length : Int) ≤ 5) ∧ (a3 ≤ σ.1 ∧ σ.1 ≤ a3 + 2 * (σ.2.2.length : Int))) (fun σ => (5 - (σ.2.2.length : Int)).toNat) (a3, s3, []) ?_ ?_ ?_ ?_
    · cbv
    · (try dsimp only); (try simp only [rows_cons, rows_nil]); cbv
    · exact ⟨(by (try dsimp only); first | omega | (simp only [List.length_nil]; omega) | (simp only [List.length_cons, List.length_nil]; omega)), (by (try dsimp only); first | omega | (simp only [List.length_nil]; omega) | (simp only [List.length_cons, List.length_nil]; omega))⟩
    rintro ⟨a4, s4, ys1⟩ ⟨ll1, cl1⟩ E hE F hF
    dsimp only at ll1 cl1
    conv => cbv
    refine r_lenR m.sX fun n1 hn1 mn1 => ?_
    conv => cbv
    refine r_lss m.sX (fun h1 => ?_) (fun h1 => ?_) <;> conv => cbv
    · refine r_draw m (by kernel_rfl) ?_
      conv => cbv
      refine r_mcallS m.sY (cAmong_ok code a4 s4 ([0, 6, 21, 30, 45]) (by simp) h (by omega) (by omega)) (cAmong_ex code a4 s4 ([0, 6, 21, 30, 45]) (by simp)) (by rintro _ _ ⟨_, rfl, _⟩; first | trivial | (intro x hx; simp at hx; rcases hx with rfl | rfl | rfl <;> trivial)) ?_
      rintro _ _ ⟨q4, rfl, ⟨a5, s5, rfl, ea5, fa5⟩, bq4⟩
      simp only [List.mem_cons, List.not_mem_nil, or_false] at bq4
      conv => cbv
      refine r_append1 (q4) m.sY rfl (by first | omega | (dsimp only; omega)) (by first | omega | (dsimp only; omega)) fun zs1 hzs1 => ?_
      conv => cbv
      have lzs1 : (zs1.length : Int) = ys1.length + 1 := by rw [hzs1]; first | done | (simp; done) | (simp; omega)
      refine hE _ (a5, s5, zs1) ?_ ?_ ⟨(by (try dsimp only); first | omega | (simp only [List.length_nil]; omega) | (simp only [List.length_cons, List.length_nil]; omega)), (by (try dsimp only); first | omega | (simp only [List.length_nil]; omega) | (simp only [List.length_cons, List.length_nil]; omega))⟩ (by first | omega | (dsimp only; omega))
      · cbv
      · cbv
    · refine hF _ _ ?_
      conv => cbv
      refine r_mcall m.sX (cPick_ok code a4 s4 30 h (by omega) (by omega)) ?_
      rintro _ _ ⟨q5, rfl, ⟨a6, s6, rfl, ea6, fa6⟩, bq5, cq5, dq5⟩
      conv => cbv
      refine r_eql m.sX (fun h2 => ?_) (fun h2 => ?_) <;> conv => cbv
      · refine r_mcall m.sX (cAmong_ok code a6 s6 ([0, 1, 5000, 5001]) (by simp) h (by omega) (by omega)) ?_
        rintro _ _ ⟨q6, rfl, ⟨a7, s7, rfl, ea7, fa7⟩, bq6⟩
        simp only [List.mem_cons, List.not_mem_nil, or_false] at bq6
        conv => cbv
        exact hQ (.agg [.int .i64 q6, .int .i64 q2, .int .i64 q3, .isl 1 (rows cInt ys1)]) (cCur code a7 s7) ⟨(q6, q2, q3, ys1), rfl, ⟨a7, s7, rfl, by omega, by omega⟩⟩   -- leaf 1
      · refine r_eql m.sX (fun h3 => ?_) (fun h3 => ?_) <;> conv => cbv
        · refine r_mcall m.sX (cAmong_ok code a6 s6 ([-1, 600, 601]) (by simp) h (by omega) (by omega)) ?_
          rintro _ _ ⟨q7, rfl, ⟨a8, s8, rfl, ea8, fa8⟩, bq7⟩
          simp only [List.mem_cons, List.not_mem_nil, or_false] at bq7
          conv => cbv
          exact hQ (.agg [.int .i64 q1, .int .i64 q7, .int .i64 q3, .isl 1 (rows cInt ys1)]) (cCur code a8 s8) ⟨(q1, q7, q3, ys1), rfl, ⟨a8, s8, rfl, by omega, by omega⟩⟩   -- leaf 2
        · refine r_eql m.sX (fun h4 => ?_) (fun h4 => ?_) <;> conv => cbv
          · refine r_mcall m.sX (cAmong_ok code a6 s6 ([-1, 501, 1000]) (by simp) h (by omega) (by omega)) ?_
            rintro _ _ ⟨q8, rfl, ⟨a9, s9, rfl, ea9, fa9⟩, bq8⟩
            simp only [List.mem_cons, List.not_mem_nil, or_false] at bq8
            conv => cbv
            exact hQ (.agg [.int .i64 q1, .int .i64 q2, .int .i64 q8, .isl 1 (rows cInt ys1)]) (cCur code a9 s9) ⟨(q1, q2, q8, ys1), rfl, ⟨a9, s9, rfl, by omega, by omega⟩⟩   -- leaf 3
          · refine r_eql m.sX (fun h5 => ?_) (fun h5 => ?_) <;> conv => cbv
            · refine r_draw m (by kernel_rfl) ?_
              conv => cbv
              refine r_mcallS m.sY (cPick_ok code a6 s6 5 h (by omega) (by omega)) (cPick_ex code a6 s6 5) (by rintro _ _ ⟨_, rfl, _⟩; first | trivial | (intro x hx; simp at hx; rcases hx with rfl | rfl | rfl <;> trivial)) ?_
              rintro _ _ ⟨q9, rfl, ⟨a10, s10, rfl, ea10, fa10⟩, bq9, cq9, dq9⟩
              conv => cbv
              refine r_mcallS m.sY (cAmong_ok code a10 s10 ([-1, 300, 301]) (by simp) h (by omega) (by omega)) (cAmong_ex code a10 s10 ([-1, 300, 301]) (by simp)) (by rintro _ _ ⟨_, rfl, _⟩; first | trivial | (intro x hx; simp at hx; rcases hx with rfl | rfl | rfl <;> trivial)) ?_
              rintro _ _ ⟨q10, rfl, ⟨a11, s11, rfl, ea11, fa11⟩, bq10⟩
              simp only [List.mem_cons, List.not_mem_nil, or_false] at bq10
              conv => cbv
              refine r_oindex m.sY (by omega) (by omega) ?_
              conv => cbv
              obtain ⟨y1, hy1⟩ := get_ex (xs := ys1) (i := Int.toNat q9) (by omega)
              refine r_ostore (l := Int.toNat q9) q10 m.sY hy1 (Nat.le_of_ble_eq_true rfl) rfl fun zs2 hzs2 => ?_   -- zs2 = ys1.set q9 q10
              have lzs2 : (zs2.length : Int) = ys1.length := by rw [hzs2]; first | done | (simp; done) | (simp; omega)
              conv => cbv
              exact hQ (.agg [.int .i64 q1, .int .i64 q2, .int .i64 q3, .isl 1 (rows cInt zs2)]) (cCur code a11 s11) ⟨(q1, q2, q3, zs2), rfl, ⟨a11, s11, rfl, by omega, by omega⟩⟩   -- leaf 4
            · refine r_eql m.sX (fun h6 => ?_) (fun h6 => ?_) <;> conv => cbv
              · refine r_islice' (i := 1) m.sX (by omega) (by omega) fun zs3 hzs3 => ?_   -- zs3 = ys1[1:None]
                have lzs3 : (zs3.length : Int) = ys1.length - 1 := by rw [hzs3]; first | done | (simp; done) | (simp; omega)
                conv => cbv
                exact hQ (.agg [.int .i64 q1, .int .i64 q2, .int .i64 q3, .isl 1 (rows cInt zs3)]) (cCur code a6 s6) ⟨(q1, q2, q3, zs3), rfl, ⟨a6, s6, rfl, by omega, by omega⟩⟩   -- leaf 5
              · exact hQ (.agg [.int .i64 q1, .int .i64 q2, .int .i64 q3, .isl 1 (rows cInt ys1)]) (cCur code a6 s6) ⟨(q1, q2, q3, ys1), rfl, ⟨a6, s6, rfl, by omega, by omega⟩⟩   -- leaf 6

theorem cPress_ex (code : List Int) (b0 t0 : Int) : ∃ r cs, (∃ (q : Press), r = PV.agg (cPress q) ∧ CurTo code b0 40 cs) :=
  ⟨_, _, (0, 0, 0, []), rfl, ⟨b0, t0, rfl, by omega, by omega⟩⟩

theorem cPressJob_ok (code : List Int) (b0 t0 : Int)  (h : CurIn code) (h0 : 0 ≤ b0) (hk : b0 ≤ 899999999999980000)  : OkM Try.prog 141 (cCur code b0 t0) [] (fun r cs => ∃ (q : PressJob), r = .agg (cPressJob q) ∧ CurTo code b0 20 cs) :=
  fnM_intro envOk fieldsOk mixed Try.func141 rfl fun κ X Y L Q m hQ => by
    conv => cbv
    refine r_mcall m.sX (cPick_ok code b0 t0 4 h (by omega) (by omega)) ?_
    rintro _ _ ⟨q1, rfl, ⟨a1, s1, rfl, ea1, fa1⟩, bq1, cq1, dq1⟩
    conv => cbv
    refine r_mcall m.sX (cPick_ok code a1 s1 900 h (by omega) (by omega)) ?_
    rintro _ _ ⟨q2, rfl, ⟨a2, s2, rfl, ea2, fa2⟩, bq2, cq2, dq2⟩
    conv => cbv
    refine r_addf m.sX (by omega) (by omega) fun r1 hr1 => ?_
    conv => cbv
    refine r_mcall m.sX (cAmong_ok code a2 s2 ([1, 50, 500, r1]) (by simp) h (by omega) (by omega)) ?_
    rintro _ _ ⟨q3, rfl, ⟨a3, s3, rfl, ea3, fa3⟩, bq3⟩
    simp only [List.mem_cons, List.not_mem_nil, or_false] at bq3
    conv => cbv
    refine r_mcall m.sX (cPick_ok code a3 s3 400 h (by omega) (by omega)) ?_
    rintro _ _ ⟨q4, rfl, ⟨a4, s4, rfl, ea4, fa4⟩, bq4, cq4, dq4⟩
    conv => cbv
    refine r_mcall m.sX (cAmong_ok code a4 s4 ([0, 40, 100, 200, q4]) (by simp) h (by omega) (by omega)) ?_
    rintro _ _ ⟨q5, rfl, ⟨a5, s5, rfl, ea5, fa5⟩, bq5⟩
    simp only [List.mem_cons, List.not_mem_nil, or_false] at bq5
    conv => cbv
    refine r_mcall m.sX (cPick_ok code a5 s5 40 h (by omega) (by omega)) ?_
    rintro _ _ ⟨q6, rfl, ⟨a6, s6, rfl, ea6, fa6⟩, bq6, cq6, dq6⟩
    conv => cbv
    refine r_eql m.sX (fun h1 => ?_) (fun h1 => ?_) <;> conv => cbv
    · refine r_mcall m.sX (cAmong_ok code a6 s6 ([4, 5, -1]) (by simp) h (by omega) (by omega)) ?_
      rintro _ _ ⟨q7, rfl, ⟨a7, s7, rfl, ea7, fa7⟩, bq7⟩
      simp only [List.mem_cons, List.not_mem_nil, or_false] at bq7
      conv => cbv
      exact hQ (.agg [.int .i64 q7, .int .i64 q3, .int .i64 q5]) (cCur code a7 s7) ⟨(q7, q3, q5), rfl, ⟨a7, s7, rfl, by omega, by omega⟩⟩   -- leaf 1
    · refine r_eql m.sX (fun h2 => ?_) (fun h2 => ?_) <;> conv => cbv
      · refine r_mcall m.sX (cAmong_ok code a6 s6 ([0, 20000, 20001, -9223372036854775808]) (by simp) h (by omega) (by omega)) ?_
        rintro _ _ ⟨q8, rfl, ⟨a8, s8, rfl, ea8, fa8⟩, bq8⟩
        simp only [List.mem_cons, List.not_mem_nil, or_false] at bq8
        conv => cbv
        exact hQ (.agg [.int .i64 q1, .int .i64 q8, .int .i64 q5]) (cCur code a8 s8) ⟨(q1, q8, q5), rfl, ⟨a8, s8, rfl, by omega, by omega⟩⟩   -- leaf 2
      · refine r_eql m.sX (fun h3 => ?_) (fun h3 => ?_) <;> conv => cbv
        · refine r_mcall m.sX (cAmong_ok code a6 s6 ([-1, 100000, 100001]) (by simp) h (by omega) (by omega)) ?_
          rintro _ _ ⟨q9, rfl, ⟨a9, s9, rfl, ea9, fa9⟩, bq9⟩
          simp only [List.mem_cons, List.not_mem_nil, or_false] at bq9
          conv => cbv
          exact hQ (.agg [.int .i64 q1, .int .i64 q3, .int .i64 q9]) (cCur code a9 s9) ⟨(q1, q3, q9), rfl, ⟨a9, s9, rfl, by omega, by omega⟩⟩   -- leaf 3
        · exact hQ (.agg [.int .i64 q1, .int .i64 q3, .int .i64 q5]) (cCur code a6 s6) ⟨(q1, q3, q5), rfl, ⟨a6, s6, rfl, by omega, by omega⟩⟩   -- leaf 4

theorem cPressJob_ex (code : List Int) (b0 t0 : Int) : ∃ r cs, (∃ (q : PressJob), r = PV.agg (cPressJob q) ∧ CurTo code b0 20 cs) :=
  ⟨_, _, (0, 0, 0), rfl, ⟨b0, t0, rfl, by omega, by omega⟩⟩

theorem cPressJobs_ok (code : List Int) (b0 t0 : Int)  (h : CurIn code) (h0 : 0 ≤ b0) (hk : b0 ≤ 899999999999700000)  : OkM Try.prog 97 (cCur code b0 t0) [] (fun r cs => ∃ (q : List PressJob), r = .isl 3 (rows cPressJob q) ∧ CurTo code b0 300 cs ∧ ((q.length : Int) ≤ 8)) :=
  OkM.iceR (fnM_intro envOk fieldsOk mixed Try.func97 rfl fun κ X Y L Q m hQ => by
    conv => cbv
    refine r_mcall m.sX (cPick_ok code b0 t0 6 h (by omega) (by omega)) ?_
    rintro _ _ ⟨n, rfl, ⟨a1, s1, rfl, ea1, fa1⟩, bn, cn, dn⟩
    conv => cbv
    refine r_mcall m.sX (cOne_ok code a1 s1 16 h (by omega) (by omega)) ?_
    rintro _ _ ⟨q1, rfl, ⟨a2, s2, rfl, ea2, fa2⟩⟩
    conv => cbv
    rcases Bool.eq_false_or_eq_true q1 with rfl | rfl <;> conv => cbv
    · refine r_mcall m.sX (cPick_ok code a2 s2 2 h (by omega) (by omega)) ?_
      rintro _ _ ⟨q2, rfl, ⟨a3, s3, rfl, ea3, fa3⟩, bq2, cq2, dq2⟩
      conv => cbv
      refine r_addf m.sX (by omega) (by omega) fun n_2 hn_2 => ?_
      conv => cbv
      refine r_loopF (α := Int × Int × List PressJob) m 22 [4] [⟨0, 1, 0, 0, 0⟩, ⟨3, 25, 65, 3, 0⟩] (fun σ => [(0, .optr 1 0 0 0 0), (3, .osl 25 0), (4, .int .i64 n_2)]) (fun σ => [(1, 0, .box (cCur code σ.1 σ.2.1)), (25, 0, .row 65 3 (rows cPressJob σ.2.2))])
        (fun σ => ((σ.2.2.length : Int) ≤ n_2) ∧ (a3 ≤ σ.1 ∧ σ.1 ≤ a3 + 20 * (σ.2.2.length : Int))) (fun σ => (n_2 - (σ.2.2.length : Int)).toNat) (a3, s3, []) ?_ ?_ ?_ ?_
      · cbv
      · (try dsimp only); (try simp only [rows_cons, rows_nil]); cbv
      · exact ⟨(by (try dsimp only); first | omega | (simp only [List.length_nil]; omega) | (simp only [List.length_cons, List.length_nil]; omega)), (by (try dsimp only); first | omega | (simp only [List.length_nil]; omega) | (simp only [List.length_cons, List.length_nil]; omega))⟩
      rintro ⟨a4, s4, l⟩ ⟨ll1, cl1⟩ E hE F hF
      dsimp only at ll1 cl1
      conv => cbv
      refine r_lenR m.sX fun n1 hn1 mn1 => ?_
      conv => cbv
      refine r_lss m.sX (fun h1 => ?_) (fun h1 => ?_) <;> conv => cbv
      · refine r_mcall m.sX (cPressJob_ok code a4 s4 h (by omega) (by omega)) ?_
        rintro _ _ ⟨⟨q3A, q3B, q3C⟩, rfl, ⟨a5, s5, rfl, ea5, fa5⟩⟩
        conv => cbv
        refine r_append1 ((q3A, q3B, q3C)) m.sX rfl (by first | omega | (dsimp only; omega)) (by first | omega | (dsimp only; omega)) fun l_2 hl_2 => ?_
        conv => cbv
        have ll_2 : (l_2.length : Int) = l.length + 1 := by rw [hl_2]; first | done | (simp; done) | (simp; omega)
        refine hE _ (a5, s5, l_2) ?_ ?_ ⟨(by (try dsimp only); first | omega | (simp only [List.length_nil]; omega) | (simp only [List.length_cons, List.length_nil]; omega)), (by (try dsimp only); first | omega | (simp only [List.length_nil]; omega) | (simp only [List.length_cons, List.length_nil]; omega))⟩ (by first | omega | (dsimp only; omega))
        · cbv
        · cbv
      · refine hF _ _ ?_
        conv => cbv
        exact hQ (.fr 65 3 (rows cPressJob l)) (cCur code a4 s4) ⟨l, rfl, ⟨a4, s4, rfl, by omega, by omega⟩, (by first | omega | assumption | (simp; done) | (simp [*]; done) | (simp at *; omega))⟩   -- leaf 1
    · refine r_loopF (α := Int × Int × List PressJob) m 22 [4] [⟨0, 1, 0, 0, 0⟩, ⟨3, 25, 65, 3, 0⟩] (fun σ => [(0, .optr 1 0 0 0 0), (3, .osl 25 0), (4, .int .i64 n)]) (fun σ => [(1, 0, .box (cCur code σ.1 σ.2.1)), (25, 0, .row 65 3 (rows cPressJob σ.2.2))])
        (fun σ => ((σ.2.2.length : Int) ≤ n) ∧ (a2 ≤ σ.1 ∧ σ.1 ≤ a2 + 20 * (σ.2.2.length : Int))) (fun σ => (n - (σ.2.2.length : Int)).toNat) (a2, s2, []) ?_ ?_ ?_ ?_
      · cbv
      · (try dsimp only); (try simp only [rows_cons, rows_nil]); cbv
      · exact ⟨(by (try dsimp only); first | omega | (simp only [List.length_nil]; omega) | (simp only [List.length_cons, List.length_nil]; omega)), (by (try dsimp only); first | omega | (simp only [List.length_nil]; omega) | (simp only [List.length_cons, List.length_nil]; omega))⟩
      rintro ⟨a6, s6, l_3⟩ ⟨ll2, cl2⟩ E hE F hF
      dsimp only at ll2 cl2
      conv => cbv
      refine r_lenR m.sX fun n2 hn2 mn2 => ?_
      conv => cbv
      refine r_lss m.sX (fun h2 => ?_) (fun h2 => ?_) <;> conv => cbv
      · refine r_mcall m.sX (cPressJob_ok code a6 s6 h (by omega) (by omega)) ?_
        rintro _ _ ⟨⟨q4A, q4B, q4C⟩, rfl, ⟨a7, s7, rfl, ea7, fa7⟩⟩
        conv => cbv
        refine r_append1 ((q4A, q4B, q4C)) m.sX rfl (by first | omega | (dsimp only; omega)) (by first | omega | (dsimp only; omega)) fun l_4 hl_4 => ?_
        conv => cbv
        have ll_4 : (l_4.length : Int) = l_3.length + 1 := by rw [hl_4]; first | done | (simp; done) | (simp; omega)
        refine hE _ (a7, s7, l_4) ?_ ?_ ⟨(by (try dsimp only); first | omega | (simp only [List.length_nil]; omega) | (simp only [List.length_cons, List.length_nil]; omega)), (by (try dsimp only); first | omega | (simp only [List.length_nil]; omega) | (simp only [List.length_cons, List.length_nil]; omega))⟩ (by first | omega | (dsimp only; omega))
        · cbv
        · cbv
      · refine hF _ _ ?_
        conv => cbv
        exact hQ (.fr 65 3 (rows cPressJob l_3)) (cCur code a6 s6) ⟨l_3, rfl, ⟨a6, s6, rfl, by omega, by omega⟩, (by first | omega | assumption | (simp; done) | (simp [*]; done) | (simp at *; omega))⟩)   -- leaf 2

theorem cPressJobs_ex (code : List Int) (b0 t0 : Int) : ∃ r cs, (∃ (q : List PressJob), r = PV.isl 3 (rows cPressJob q) ∧ CurTo code b0 300 cs ∧ ((q.length : Int) ≤ 8)) :=
  ⟨_, _, [], rfl, ⟨b0, t0, rfl, by omega, by omega⟩, (by first | omega | simp)⟩

theorem cInkOf_ok (code : List Int) (b0 t0 : Int)  (h : CurIn code) (h0 : 0 ≤ b0) (hk : b0 ≤ 899999999999990000)  : OkM Try.prog 98 (cCur code b0 t0) [] (fun r cs => ∃ (q : Int), r = .int .i64 q ∧ CurTo code b0 10 cs) :=
  fnM_intro envOk fieldsOk mixed Try.func98 rfl fun κ X Y L Q m hQ => by
    conv => cbv
    refine r_mcall m.sX (cAmong_ok code b0 t0 ([4, 5, -1]) (by simp) h (by omega) (by omega)) ?_
    rintro _ _ ⟨q1, rfl, ⟨a1, s1, rfl, ea1, fa1⟩, bq1⟩
    simp only [List.mem_cons, List.not_mem_nil, or_false] at bq1
    conv => cbv
    refine r_mcall m.sX (cAmong_ok code a1 s1 ([0, 1, 2, 3, q1]) (by simp) h (by omega) (by omega)) ?_
    rintro _ _ ⟨q2, rfl, ⟨a2, s2, rfl, ea2, fa2⟩, bq2⟩
    simp only [List.mem_cons, List.not_mem_nil, or_false] at bq2
    conv => cbv
    exact hQ (.int .i64 q2) (cCur code a2 s2) ⟨q2, rfl, ⟨a2, s2, rfl, by omega, by omega⟩⟩   -- leaf 1

theorem cInkOf_ex (code : List Int) (b0 t0 : Int) : ∃ r cs, (∃ (q : Int), r = PV.int .i64 q ∧ CurTo code b0 10 cs) :=
  ⟨_, _, 0, rfl, ⟨b0, t0, rfl, by omega, by omega⟩⟩

theorem cPressOrder_ok (code : List Int) (b0 t0 : Int) (l : List PressJob) (h : CurIn code) (h0 : 0 ≤ b0) (hk : b0 ≤ 899999999999940000) (hl : (l.length : Int) ≤ 8) : OkM Try.prog 99 (cCur code b0 t0) [.isl 3 (rows cPressJob l)] (fun r cs => ∃ (q : List Int), r = .isl 1 (rows cInt q) ∧ CurTo code b0 60 cs ∧ ((q.length : Int) ≤ 9)) :=
  OkM.iceR (fnM_intro envOk fieldsOk mixed Try.func99 rfl fun κ X Y L Q m hQ => by
    conv => cbv
    refine r_lenR m.sX fun n1 hn1 mn1 => ?_
    conv => cbv
    refine r_loopF (α := Int × Int × List Int × Int) m 56 [1, 9, 10] [⟨0, 1, 0, 0, 0⟩, ⟨5, 41, 3, 1, 0⟩] (fun σ => [(0, .optr 1 0 0 0 0), (1, .isl 3 (rows cPressJob l)), (5, .osl 41 0), (9, .int .i64 n1), (10, .int .i64 σ.2.2.2)]) (fun σ => [(1, 0, .box (cCur code σ.1 σ.2.1)), (41, 0, .row 3 1 (rows cInt σ.2.2.1))])
      (fun σ => (0 ≤ σ.2.2.2) ∧ (σ.2.2.2 ≤ n1) ∧ (b0 ≤ σ.1 ∧ σ.1 ≤ b0 + 2 * σ.2.2.2) ∧ ((σ.2.2.1.length : Int) = σ.2.2.2)) (fun σ => (n1 - σ.2.2.2).toNat) (b0, t0, [], 0) ?_ ?_ ?_ ?_
    · cbv
    · (try dsimp only); (try simp only [rows_cons, rows_nil]); cbv
    · exact ⟨(by (try dsimp only); first | omega | (simp only [List.length_nil]; omega) | (simp only [List.length_cons, List.length_nil]; omega)), (by (try dsimp only); first | omega | (simp only [List.length_nil]; omega) | (simp only [List.length_cons, List.length_nil]; omega)), (by (try dsimp only); first | omega | (simp only [List.length_nil]; omega) | (simp only [List.length_cons, List.length_nil]; omega)), (by (try dsimp only) <;> first | omega | rfl | (simp [*]; done))⟩
    rintro ⟨a1, s1, order, i1⟩ ⟨lo1, hi1, cl1, ob⟩ E hE F hF
    dsimp only at lo1 hi1 cl1 ob
    conv => cbv
    refine r_lss m.sX (fun h1 => ?_) (fun h1 => ?_) <;> conv => cbv
    · refine r_lenR m.sX fun n2 hn2 mn2 => ?_
      conv => cbv
      refine r_addf m.sX (by omega) (by omega) fun r1 hr1 => ?_
      conv => cbv
      refine r_mcall m.sX (cPick_ok code a1 s1 r1 h (by omega) (by omega)) ?_
      rintro _ _ ⟨k, rfl, ⟨a2, s2, rfl, ea2, fa2⟩, bk, ck, dk⟩
      conv => cbv
      refine r_drawT 5 m rfl rfl (by kernel_rfl) ?_
      conv => cbv
      refine r_islice (i := 0) (j := k) m.sY (by omega) (by omega) (by omega) fun zs1 hzs1 => ?_   -- zs1 = order[None:k]
      have lzs1 : (zs1.length : Int) = k - 0 := by rw [hzs1]; first | done | (simp; done) | (simp; omega)
      conv => cbv
      refine r_callFS (fun l => PV.fr _ _ (rows _ l)) m.sY (l1Own_ok zs1 (by first | rfl | assumption | omega | (simp only [List.length_append, List.length_cons, List.length_nil] at *; omega))) trivial fun v1 hv1 => ?_
      conv => cbv
      have lv1 := congrArg List.length hv1
      refine r_append1 (i1) m.sY rfl (by first | omega | (dsimp only; omega)) (by first | omega | (dsimp only; omega)) fun zs2 hzs2 => ?_
      conv => cbv
      have lzs2 : (zs2.length : Int) = v1.length + 1 := by rw [hzs2]; first | done | (simp; done) | (simp; omega)
      refine r_islice' (i := k) m.sY (by omega) (by omega) fun zs3 hzs3 => ?_   -- zs3 = order[k:None]
      have lzs3 : (zs3.length : Int) = order.length - k := by rw [hzs3]; first | done | (simp; done) | (simp; omega)
      conv => cbv
      refine r_append m.sY (by first | omega | (dsimp only; omega)) (by first | omega | (dsimp only; omega)) fun order_2 horder_2 => ?_
      conv => cbv
      have lorder_2 : (order_2.length : Int) = zs2.length + zs3.length := by rw [horder_2]; first | done | (simp; done) | (simp; omega)
      refine r_addf m.sX (by omega) (by omega) fun r2 hr2 => ?_
      conv => cbv
      try have tr2 : Int.toNat r2 = Int.toNat i1 + 1 := by omega
      refine hE _ (a2, s2, order_2, r2) ?_ ?_ ⟨(by (try dsimp only); first | omega | (simp only [List.length_nil]; omega) | (simp only [List.length_cons, List.length_nil]; omega)), (by (try dsimp only); first | omega | (simp only [List.length_nil]; omega) | (simp only [List.length_cons, List.length_nil]; omega)), (by (try dsimp only); first | omega | (simp only [List.length_nil]; omega) | (simp only [List.length_cons, List.length_nil]; omega)), (by (try dsimp only) <;> (omega))⟩ (by first | omega | (dsimp only; omega))
      · cbv
      · cbv
    · have dz_i1 := drop_end (xs := l) (i := Int.toNat i1) (by omega)
      have tz_i1 := take_end (xs := l) (i := Int.toNat i1) (by omega)
      refine hF _ _ ?_
      conv => cbv
      refine r_mcall m.sX (cPick_ok code a1 s1 24 h (by omega) (by omega)) ?_
      rintro _ _ ⟨q1, rfl, ⟨a3, s3, rfl, ea3, fa3⟩, bq1, cq1, dq1⟩
      conv => cbv
      refine r_eql m.sX (fun h2 => ?_) (fun h2 => ?_) <;> conv => cbv
      · refine r_append1 (0) m.sX rfl (by first | omega | (dsimp only; omega)) (by first | omega | (dsimp only; omega)) fun order_3 horder_3 => ?_
        conv => cbv
        have lorder_3 : (order_3.length : Int) = order.length + 1 := by rw [horder_3]; first | done | (simp; done) | (simp; omega)
        exact hQ (.fr 3 1 (rows cInt order_3)) (cCur code a3 s3) ⟨order_3, rfl, ⟨a3, s3, rfl, by omega, by omega⟩, (by first | omega | assumption | (simp; done) | (simp [*]; done) | (simp at *; omega))⟩   -- leaf 1
      · refine r_eql m.sX (fun h3 => ?_) (fun h3 => ?_) <;> conv => cbv
        · refine r_lenR m.sX fun n3 hn3 mn3 => ?_
          conv => cbv
          refine r_gtr m.sX (fun h4 => ?_) (fun h4 => ?_) <;> conv => cbv
          · refine r_lenR m.sX fun n4 hn4 mn4 => ?_
            conv => cbv
            refine r_lenR m.sX fun n5 hn5 mn5 => ?_
            conv => cbv
            refine r_subf m.sX (by omega) (by omega) fun r3 hr3 => ?_
            conv => cbv
            refine r_oindex m.sX (by omega) (by omega) ?_
            conv => cbv
            obtain ⟨x1, hx1⟩ := get_ex (xs := order) (i := Int.toNat r3) (by omega)
            have mx1 := get_mem hx1
            have vx1 := nth_some hx1
            refine r_oload m.sX hx1 (Nat.le_of_ble_eq_true rfl) ?_
            conv => cbv
            refine r_mcall m.sX (cAmong_ok code a3 s3 ([n4, -1, x1]) (by simp) h (by omega) (by omega)) ?_
            rintro _ _ ⟨q2, rfl, ⟨a4, s4, rfl, ea4, fa4⟩, bq2⟩
            simp only [List.mem_cons, List.not_mem_nil, or_false] at bq2
            conv => cbv
            refine r_oindex m.sX (by omega) (by omega) ?_
            conv => cbv
            obtain ⟨y1, hy1⟩ := get_ex (xs := order) (i := Int.toNat 0) (by omega)
            refine r_ostore (l := Int.toNat 0) q2 m.sX hy1 (Nat.le_of_ble_eq_true rfl) rfl fun order_4 horder_4 => ?_   -- order_4 = order.set 0 q2
            have lorder_4 : (order_4.length : Int) = order.length := by rw [horder_4]; first | done | (simp; done) | (simp; omega)
            conv => cbv
            exact hQ (.fr 3 1 (rows cInt order_4)) (cCur code a4 s4) ⟨order_4, rfl, ⟨a4, s4, rfl, by omega, by omega⟩, (by first | omega | assumption | (simp; done) | (simp [*]; done) | (simp at *; omega))⟩   -- leaf 2
          · exact hQ (.fr 3 1 (rows cInt order)) (cCur code a3 s3) ⟨order, rfl, ⟨a3, s3, rfl, by omega, by omega⟩, (by first | omega | assumption | (simp; done) | (simp [*]; done) | (simp at *; omega))⟩   -- leaf 3
        · exact hQ (.fr 3 1 (rows cInt order)) (cCur code a3 s3) ⟨order, rfl, ⟨a3, s3, rfl, by omega, by omega⟩, (by first | omega | assumption | (simp; done) | (simp [*]; done) | (simp at *; omega))⟩)   -- leaf 4

theorem cPressOrder_ex (code : List Int) (b0 t0 : Int) : ∃ r cs, (∃ (q : List Int), r = PV.isl 1 (rows cInt q) ∧ CurTo code b0 60 cs ∧ ((q.length : Int) ≤ 9)) :=
  ⟨_, _, [], rfl, ⟨b0, t0, rfl, by omega, by omega⟩, (by first | omega | simp)⟩

theorem drawPressEnds_ok (code : List Int) (h : CurIn code) : OkA Try.prog 34 [.isl 1 (rows cU8 code)] (fun r => ∃ (q1 : Press) (q2 : Int) (q3 : List PressJob) (q4 : List Int), r = .tup [.agg (cPress q1), .int .i64 q2, .isl 3 (rows cPressJob q3), .isl 1 (rows cInt q4)] ∧ ((q3.length : Int) ≤ 8) ∧ ((q4.length : Int) ≤ 9)) :=
  fn_intro envOk fieldsOk mixed Try.func34 rfl fun κ X Y L Q m hQ => by
    conv => cbv
    refine r_mcall m.sX (cPress_ok code 0 0 h (by omega) (by omega)) ?_
    rintro _ _ ⟨⟨pA, pB, pC, pD⟩, rfl, ⟨a1, s1, rfl, ea1, fa1⟩⟩
    conv => cbv
    refine r_mcall m.sX (cPressJobs_ok code a1 s1 h (by omega) (by omega)) ?_
    rintro _ _ ⟨l, rfl, ⟨a2, s2, rfl, ea2, fa2⟩, bl_1⟩
    conv => cbv
    refine r_draw m (by kernel_rfl) ?_
    conv => cbv
    refine r_mcallS m.sY (cInkOf_ok code a2 s2 h (by omega) (by omega)) (cInkOf_ex code a2 s2) (by rintro _ _ ⟨_, rfl, _⟩; first | trivial | (intro x hx; simp at hx; rcases hx with rfl | rfl | rfl <;> trivial)) ?_
    rintro _ _ ⟨q1, rfl, ⟨a3, s3, rfl, ea3, fa3⟩⟩
    conv => cbv
    refine r_mcallS m.sY (cPressOrder_ok code a3 s3 l h (by omega) (by omega) (by first | rfl | assumption | omega | (simp only [List.length_append, List.length_cons, List.length_nil] at *; omega)) ) (cPressOrder_ex code a3 s3) (by rintro _ _ ⟨_, rfl, _⟩; first | trivial | (intro x hx; simp at hx; rcases hx with rfl | rfl | rfl <;> trivial)) ?_
    rintro _ _ ⟨q2, rfl, ⟨a4, s4, rfl, ea4, fa4⟩, bq2_1⟩
    conv => cbv
    exact hQ (.tup [.agg [.int .i64 pA, .int .i64 pB, .int .i64 pC, .isl 1 (rows cInt pD)], .int .i64 q1, .isl 3 (rows cPressJob l), .isl 1 (rows cInt q2)]) ⟨(pA, pB, pC, pD), q1, l, q2, rfl, (by first | omega | assumption | (simp; done) | (simp [*]; done) | (simp at *; omega)), (by first | omega | assumption | (simp; done) | (simp [*]; done) | (simp at *; omega))⟩   -- leaf 1

end Go.Proofs.Ytjmjepdlclehoaa.Ai
