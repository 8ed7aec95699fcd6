/- What the law on stocks of spaces draws. -/
import Derived.Test.YtbamclepgabciaaDoorStkW
import Derived.Test.YtbamclepgabciaaDoorSpaceDraw
namespace Go.Proofs.YtbamclepgabciaaDoor.Ai
open Go Go.Proofs
set_option linter.unusedSimpArgs false
set_option maxRecDepth 10000
set_option maxHeartbeats 4000000
set_option linter.unusedVariables false
theorem stkF_of {ks ss : List Int} {n : Int} (h1 : okF ks n = true) (h2 : okCn ks ss = true) : stkF ks ss n = stkW ks ss n := by
  rw [stkF, stkW, h1, h2]
  by_cases hp : 0 ≤ fewC (pre ks ss ks.length) n
  · rw [if_pos hp, decide_eq_true hp]; rfl
  · rw [if_neg hp, decide_eq_false hp]; rfl
theorem specFillFromStock_ok (kinds : List Int) (stock : List Int) (n : Int)  : OkA Tryd.prog 58 [.isl 1 (rows cInt kinds), .isl 1 (rows cInt stock), .int .i64 n] (· = (lb 3 1 cInt) (stkF kinds stock n)) :=
  OkA.unnil 3 1 (fn_intro envOk fieldsOk mixed Tryd.func58 rfl fun κ X Y L Q m hQ => by
    conv => cbv
    refine r_callB m.sX (wsAsked_ok kinds n) (fun h1 => ?_) (fun h1 => ?_) <;> conv => cbv
    · obtain ⟨b1, b2, b3⟩ := okF_spec h1
      refine r_callB m.sX (wsCounts_ok kinds stock) (fun h2 => ?_) (fun h2 => ?_) <;> conv => cbv
      · have ok_ : okCn kinds stock = true := by rw [okCn_of h1, Bool.and_comm (allB stock 0 400), h2]
        obtain ⟨s1_, s2_⟩ := okCn_spec ok_
        refine r_callF (lb 3 1 cInt) m.sX (wsStock_ok kinds stock n b1.2 b2 b3 s1_ s2_) fun v hv1 => ?_
        obtain ⟨v1, v2⟩ := v
        conv => cbv
        exact hQ (.tup [.fr 3 1 (rows cInt v1), .bool v2]) (Eq.trans (by first | rfl | (simp only [lb, lbI, rows_cons, rows_nil, unnilT, unnil, unnilTI, unnilI]; done) | (simp only [lb, lbI, rows_cons, rows_nil, unnilT, unnil, unnilTI, unnilI]; rfl)) (congrArg ((lb 3 1 cInt)) (show (v1, v2) = stkF kinds stock n from by rw [stkF_of h1 ok_, hv1])))   -- leaf 1
      · exact hQ (.tup [.nil, .bool false]) (Eq.trans (by first | rfl | (simp only [lb, lbI, rows_cons, rows_nil, unnilT, unnil, unnilTI, unnilI]; done) | (simp only [lb, lbI, rows_cons, rows_nil, unnilT, unnil, unnilTI, unnilI]; rfl)) (congrArg ((lb 3 1 cInt)) (show ([], false) = stkF kinds stock n from by rw [stkF, h1, okCn_of h1, Bool.and_comm (allB stock 0 400), h2]; rfl)))   -- leaf 2
    · exact hQ (.tup [.nil, .bool false]) (Eq.trans (by first | rfl | (simp only [lb, lbI, rows_cons, rows_nil, unnilT, unnil, unnilTI, unnilI]; done) | (simp only [lb, lbI, rows_cons, rows_nil, unnilT, unnil, unnilTI, unnilI]; rfl)) (congrArg ((lb 3 1 cInt)) (show ([], false) = stkF kinds stock n from by rw [stkF, h1]; rfl))))   -- leaf 3

theorem cCountsOf_ok (code : List Int) (b0 t0 : Int) (kinds : List Int) (h : CurIn code) (h0 : 0 ≤ b0) (hk : b0 ≤ 899999999999940000) (hk : (kinds.length : Int) ≤ 8) : OkM Tryd.prog 120 (cCur code b0 t0) [.isl 1 (rows cInt kinds)] (fun r cs => ∃ (q : List Int), r = .fr 3 1 (rows cInt q) ∧ CurTo code b0 60 cs ∧ ((q.length : Int) ≤ 9)) :=
  fnM_intro envOk fieldsOk mixed Tryd.func120 rfl fun κ X Y L Q m hQ => by
    conv => cbv
    refine r_lenR m.sX fun n1 hn1 mn1 => ?_
    conv => cbv
    refine r_loopF (α := Int × Int × List Int × Int) m 39 [7, 8] [⟨0, 1, 0, 0, 0⟩, ⟨5, 41, 3, 1, 0⟩] (fun σ => [(0, .optr 1 0 0 0 0), (5, .osl 41 0), (7, .int .i64 n1), (8, .int .i64 σ.2.2.2)]) (fun σ => [(1, 0, .box (cCur code σ.1 σ.2.1)), (41, 0, .row 3 1 (rows cInt σ.2.2.1))])
      (fun σ => (0 ≤ σ.2.2.2) ∧ (σ.2.2.2 ≤ n1) ∧ (b0 ≤ σ.1 ∧ σ.1 ≤ b0 + 2 * σ.2.2.2) ∧ ((σ.2.2.1.length : Int) = σ.2.2.2)) (fun σ => (n1 - σ.2.2.2).toNat) (b0, t0, [], 0) ?_ ?_ ?_ ?_
    · cbv
    · (try dsimp only); (try simp only [rows_cons, rows_nil]); cbv
    · exact ⟨(by (try dsimp only); first | omega | (simp only [List.length_nil]; omega) | (simp only [List.length_cons, List.length_nil]; omega)), (by (try dsimp only); first | omega | (simp only [List.length_nil]; omega) | (simp only [List.length_cons, List.length_nil]; omega)), (by (try dsimp only); first | omega | (simp only [List.length_nil]; omega) | (simp only [List.length_cons, List.length_nil]; omega)), (by (try dsimp only) <;> first | omega | rfl | (simp [*]; done))⟩
    rintro ⟨a1, s1, l, i1⟩ ⟨lo1, hi1, cl1, ln⟩ E hE F hF
    dsimp only at lo1 hi1 cl1 ln
    conv => cbv
    refine r_lss m.sX (fun h1 => ?_) (fun h1 => ?_) <;> conv => cbv
    · refine r_mcall m.sX (cAmong_ok code a1 s1 ([0, 0, 1, 2, 3, 8]) (by simp) h (by omega) (by omega)) ?_
      rintro _ _ ⟨q1, rfl, ⟨a2, s2, rfl, ea2, fa2⟩, bq1⟩
      simp only [List.mem_cons, List.not_mem_nil, or_false] at bq1
      conv => cbv
      refine r_append1 (q1) m.sX rfl (by first | omega | (dsimp only; omega)) (by first | omega | (dsimp only; omega)) fun l_2 hl_2 => ?_
      conv => cbv
      have ll_2 : (l_2.length : Int) = l.length + 1 := by rw [hl_2]; first | done | (simp; done) | (simp; omega)
      refine r_addf m.sX (by omega) (by omega) fun r1 hr1 => ?_
      conv => cbv
      try have tr1 : Int.toNat r1 = Int.toNat i1 + 1 := by omega
      refine hE _ (a2, s2, l_2, r1) ?_ ?_ ⟨(by (try dsimp only); first | omega | (simp only [List.length_nil]; omega) | (simp only [List.length_cons, List.length_nil]; omega)), (by (try dsimp only); first | omega | (simp only [List.length_nil]; omega) | (simp only [List.length_cons, List.length_nil]; omega)), (by (try dsimp only); first | omega | (simp only [List.length_nil]; omega) | (simp only [List.length_cons, List.length_nil]; omega)), (by (try dsimp only) <;> first | omega | rfl | (simp [*]; done) | (rw [ln]; simp [*]; done))⟩ (by first | omega | (dsimp only; omega))
      · cbv
      · cbv
    · have dz_i1 := drop_end (xs := kinds) (i := Int.toNat i1) (by omega)
      have tz_i1 := take_end (xs := kinds) (i := Int.toNat i1) (by omega)
      refine hF _ _ ?_
      conv => cbv
      refine r_mcall m.sX (cPick_ok code a1 s1 24 h (by omega) (by omega)) ?_
      rintro _ _ ⟨q2, rfl, ⟨a3, s3, rfl, ea3, fa3⟩, bq2, cq2, dq2⟩
      conv => cbv
      refine r_eql m.sX (fun h2 => ?_) (fun h2 => ?_) <;> conv => cbv
      · refine r_append1 (0) m.sX rfl (by first | omega | (dsimp only; omega)) (by first | omega | (dsimp only; omega)) fun l_3 hl_3 => ?_
        conv => cbv
        have ll_3 : (l_3.length : Int) = l.length + 1 := by rw [hl_3]; first | done | (simp; done) | (simp; omega)
        exact hQ (.fr 3 1 (rows cInt l_3)) (cCur code a3 s3) ⟨l_3, rfl, ⟨a3, s3, rfl, by omega, by omega⟩, (by first | omega | assumption | (simp; done) | (simp [*]; done) | (simp at *; omega))⟩   -- leaf 1
      · refine r_eql m.sX (fun h3 => ?_) (fun h3 => ?_) <;> conv => cbv
        · refine r_lenR m.sX fun n2 hn2 mn2 => ?_
          conv => cbv
          refine r_gtr m.sX (fun h4 => ?_) (fun h4 => ?_) <;> conv => cbv
          · refine r_lenR m.sX fun n3 hn3 mn3 => ?_
            conv => cbv
            refine r_mcall m.sX (cPick_ok code a3 s3 n3 h (by omega) (by omega)) ?_
            rintro _ _ ⟨q3, rfl, ⟨a4, s4, rfl, ea4, fa4⟩, bq3, cq3, dq3⟩
            conv => cbv
            refine r_mcall m.sX (cAmong_ok code a4 s4 ([400, 401, -1]) (by simp) h (by omega) (by omega)) ?_
            rintro _ _ ⟨q4, rfl, ⟨a5, s5, rfl, ea5, fa5⟩, bq4⟩
            simp only [List.mem_cons, List.not_mem_nil, or_false] at bq4
            conv => cbv
            refine r_oindex m.sX (by omega) (by omega) ?_
            conv => cbv
            obtain ⟨y1, hy1⟩ := get_ex (xs := l) (i := Int.toNat q3) (by omega)
            refine r_ostore (l := Int.toNat q3) q4 m.sX hy1 (Nat.le_of_ble_eq_true rfl) rfl fun l_4 hl_4 => ?_   -- l_4 = l.set q3 q4
            have ll_4 : (l_4.length : Int) = l.length := by rw [hl_4]; first | done | (simp; done) | (simp; omega)
            conv => cbv
            exact hQ (.fr 3 1 (rows cInt l_4)) (cCur code a5 s5) ⟨l_4, rfl, ⟨a5, s5, rfl, by omega, by omega⟩, (by first | omega | assumption | (simp; done) | (simp [*]; done) | (simp at *; omega))⟩   -- leaf 2
          · exact hQ (.fr 3 1 (rows cInt l)) (cCur code a3 s3) ⟨l, rfl, ⟨a3, s3, rfl, by omega, by omega⟩, (by first | omega | assumption | (simp; done) | (simp [*]; done) | (simp at *; omega))⟩   -- leaf 3
        · exact hQ (.fr 3 1 (rows cInt l)) (cCur code a3 s3) ⟨l, rfl, ⟨a3, s3, rfl, by omega, by omega⟩, (by first | omega | assumption | (simp; done) | (simp [*]; done) | (simp at *; omega))⟩   -- leaf 4

theorem cCountsOf_ex (code : List Int) (b0 t0 : Int) : ∃ r cs, (∃ (q : List Int), r = PV.fr 3 1 (rows cInt q) ∧ CurTo code b0 60 cs ∧ ((q.length : Int) ≤ 9)) :=
  ⟨_, _, [], rfl, ⟨b0, t0, rfl, by omega, by omega⟩, (by first | omega | simp)⟩

theorem drawFillFromStock_ok (code : List Int) (h : CurIn code) : OkA Tryd.prog 56 [.isl 1 (rows cU8 code)] (fun r => ∃ (q1 : List Int) (q2 : List Int) (q3 : Int), r = .tup [.isl 1 (rows cInt q1), .fr 3 1 (rows cInt q2), .int .i64 q3] ∧ ((q1.length : Int) ≤ 8) ∧ ((q2.length : Int) ≤ 9)) :=
  fn_intro envOk fieldsOk mixed Tryd.func56 rfl fun κ X Y L Q m hQ => by
    conv => cbv
    refine r_mcall m.sX (cKinds_ok code 0 0 h (by omega) (by omega)) ?_
    rintro _ _ ⟨kinds, rfl, ⟨a1, s1, rfl, ea1, fa1⟩, bkinds_1⟩
    conv => cbv
    refine r_mcall m.sX (cCountsOf_ok code a1 s1 kinds h (by omega) (by omega) (by first | rfl | assumption | omega | (simp only [List.length_append, List.length_cons, List.length_nil] at *; omega))) ?_
    rintro _ _ ⟨stock, rfl, ⟨a2, s2, rfl, ea2, fa2⟩, bstock_1⟩
    conv => cbv
    refine r_callB m.sX (wsKinds_ok kinds) (fun h1 => ?_) (fun h1 => ?_) <;> conv => cbv
    · have kk := (okF_spec (ks := kinds) (n := 0) (by rw [okF, h1]; rfl)).2.1
      refine r_lenR m.sX fun n1 hn1 mn1 => ?_
      conv => cbv
      refine r_lenR m.sX fun n2 hn2 mn2 => ?_
      conv => cbv
      refine r_eql m.sX (fun h2 => ?_) (fun h2 => ?_) <;> conv => cbv
      · refine r_mcall m.sX (cOne_ok code a2 s2 2 h (by omega) (by omega)) ?_
        rintro _ _ ⟨q1, rfl, ⟨a3, s3, rfl, ea3, fa3⟩⟩
        conv => cbv
        rcases Bool.eq_false_or_eq_true q1 with rfl | rfl <;> conv => cbv
        · refine r_lenR m.sX fun n3 hn3 mn3 => ?_
          conv => cbv
          refine r_loopF (α := Int × Int × Int × Int) m 61 [6, 8, 32, 33, 34] [⟨5, 41, 0, 0, 0⟩, ⟨7, 57, 3, 1, 0⟩] (fun σ => [(5, .optr 41 0 3 0 0), (6, .isl 1 (rows cInt kinds)), (7, .osl 57 0), (8, .int .i64 σ.2.2.1), (32, .isl 1 (rows cInt kinds)), (33, .int .i64 n3), (34, .int .i64 σ.2.2.2)]) (fun σ => [(41, 0, .box (cCur code σ.1 σ.2.1)), (57, 0, .row 3 1 (rows cInt stock))])
            (fun σ => (0 ≤ σ.2.2.2) ∧ (σ.2.2.2 ≤ n3) ∧ (a3 ≤ σ.1 ∧ σ.1 ≤ a3 + 4 * σ.2.2.2) ∧ (0 ≤ σ.2.2.1 ∧ σ.2.2.1 ≤ 594 * σ.2.2.2)) (fun σ => (n3 - σ.2.2.2).toNat) (a3, s3, 0, 0) ?_ ?_ ?_ ?_
          · cbv
          · cbv
          · exact ⟨(by (try dsimp only); first | omega | (simp only [List.length_nil]; omega) | (simp only [List.length_cons, List.length_nil]; omega)), (by (try dsimp only); first | omega | (simp only [List.length_nil]; omega) | (simp only [List.length_cons, List.length_nil]; omega)), (by (try dsimp only); first | omega | (simp only [List.length_nil]; omega) | (simp only [List.length_cons, List.length_nil]; omega)), (by (try dsimp only) <;> first | omega | rfl | (simp [*]; done))⟩
          rintro ⟨a4, s4, n, i1⟩ ⟨lo1, hi1, cl1, nb⟩ E hE F hF
          dsimp only at lo1 hi1 cl1 nb
          conv => cbv
          refine r_lss m.sX (fun h3 => ?_) (fun h3 => ?_) <;> conv => cbv
          · refine r_index m.sX (by omega) (by omega) fun w hw => ?_
            conv => cbv
            have mw := get_mem hw
            have dw := drop_cons hw
            have kw := take_snoc hw
            have jw : (i1 + 1).toNat = Int.toNat i1 + 1 := by omega
            have vw := nth_some hw
            have wk := kk _ mw
            refine r_oindex m.sX (by omega) (by omega) ?_
            conv => cbv
            obtain ⟨x1, hx1⟩ := get_ex (xs := stock) (i := Int.toNat i1) (by omega)
            have mx1 := get_mem hx1
            have dx1 := drop_cons hx1
            have kx1 := take_snoc hx1
            have jx1 : (i1 + 1).toNat = Int.toNat i1 + 1 := by omega
            have vx1 := nth_some hx1
            refine r_oload m.sX hx1 (Nat.le_of_ble_eq_true rfl) ?_
            conv => cbv
            refine r_callF (PV.int .i64) m.sX (l1Most_ok x1 0) fun r1 hr1 => ?_
            conv => cbv
            refine r_callF (PV.int .i64) m.sX (l1Least_ok r1 10) fun r2 hr2 => ?_
            conv => cbv
            refine r_addf m.sX (by omega) (by omega) fun r3 hr3 => ?_
            conv => cbv
            refine r_mcall m.sX (cPick_ok code a4 s4 r3 h (by omega) (by omega)) ?_
            rintro _ _ ⟨q2, rfl, ⟨a5, s5, rfl, ea5, fa5⟩, bq2, cq2, dq2⟩
            have g1 := mul_bound (show 0 ≤ w by omega) wk.2 (show 0 ≤ q2 by omega) (show q2 ≤ 11 by omega)
            conv => cbv
            refine r_mulf m.sX (by first | omega | (subst_vars; omega)) (by first | omega | (subst_vars; omega)) fun r4 hr4 => ?_
            conv => cbv
            refine r_addf m.sX (by omega) (by omega) fun n_2 hn_2 => ?_
            conv => cbv
            refine r_addf m.sX (by omega) (by omega) fun r5 hr5 => ?_
            conv => cbv
            try have tr5 : Int.toNat r5 = Int.toNat i1 + 1 := by omega
            refine hE _ (a5, s5, n_2, r5) ?_ ?_ ⟨(by (try dsimp only); first | omega | (simp only [List.length_nil]; omega) | (simp only [List.length_cons, List.length_nil]; omega)), (by (try dsimp only); first | omega | (simp only [List.length_nil]; omega) | (simp only [List.length_cons, List.length_nil]; omega)), (by (try dsimp only); first | omega | (simp only [List.length_nil]; omega) | (simp only [List.length_cons, List.length_nil]; omega)), (by (try dsimp only) <;> first | omega | rfl | (simp [*]; done) | (rw [nb]; simp [*]; done))⟩ (by first | omega | (dsimp only; omega))
            · cbv
            · cbv
          · have dz_i1 := drop_end (xs := kinds) (i := Int.toNat i1) (by omega)
            have tz_i1 := take_end (xs := kinds) (i := Int.toNat i1) (by omega)
            refine hF _ _ ?_
            conv => cbv
            refine r_callF (PV.int .i64) m.sX (l1Least_ok n 400) fun r6 hr6 => ?_
            conv => cbv
            exact hQ (.tup [.isl 1 (rows cInt kinds), .fr 3 1 (rows cInt stock), .int .i64 r6]) ⟨kinds, stock, r6, rfl, (by first | omega | assumption | (simp; done) | (simp [*]; done) | (simp at *; omega)), (by first | omega | assumption | (simp; done) | (simp [*]; done) | (simp at *; omega))⟩   -- leaf 1
        · refine r_mcall m.sX (cFill_ok code a3 s3 h (by omega) (by omega)) ?_
          rintro _ _ ⟨q3, rfl, ⟨a6, s6, rfl, ea6, fa6⟩⟩
          conv => cbv
          exact hQ (.tup [.isl 1 (rows cInt kinds), .fr 3 1 (rows cInt stock), .int .i64 q3]) ⟨kinds, stock, q3, rfl, (by first | omega | assumption | (simp; done) | (simp [*]; done) | (simp at *; omega)), (by first | omega | assumption | (simp; done) | (simp [*]; done) | (simp at *; omega))⟩   -- leaf 2
      · refine r_mcall m.sX (cFill_ok code a2 s2 h (by omega) (by omega)) ?_
        rintro _ _ ⟨q4, rfl, ⟨a7, s7, rfl, ea7, fa7⟩⟩
        conv => cbv
        exact hQ (.tup [.isl 1 (rows cInt kinds), .fr 3 1 (rows cInt stock), .int .i64 q4]) ⟨kinds, stock, q4, rfl, (by first | omega | assumption | (simp; done) | (simp [*]; done) | (simp at *; omega)), (by first | omega | assumption | (simp; done) | (simp [*]; done) | (simp at *; omega))⟩   -- leaf 3
    · refine r_mcall m.sX (cFill_ok code a2 s2 h (by omega) (by omega)) ?_
      rintro _ _ ⟨q5, rfl, ⟨a8, s8, rfl, ea8, fa8⟩⟩
      conv => cbv
      exact hQ (.tup [.isl 1 (rows cInt kinds), .fr 3 1 (rows cInt stock), .int .i64 q5]) ⟨kinds, stock, q5, rfl, (by first | omega | assumption | (simp; done) | (simp [*]; done) | (simp at *; omega)), (by first | omega | assumption | (simp; done) | (simp [*]; done) | (simp at *; omega))⟩   -- leaf 4

theorem drawSpacesText_ok (code : List Int) (h : CurIn code) : OkA Tryd.prog 65 [.isl 1 (rows cU8 code)] (fun r => ∃ (q1 : List Int) (q2 : List Int), r = .tup [.isl 1 (rows cInt q1), .fr 3 1 (rows cInt q2)] ∧ ((q1.length : Int) ≤ 8) ∧ ((q2.length : Int) ≤ 9)) :=
  fn_intro envOk fieldsOk mixed Tryd.func65 rfl fun κ X Y L Q m hQ => by
    conv => cbv
    refine r_mcall m.sX (cKinds_ok code 0 0 h (by omega) (by omega)) ?_
    rintro _ _ ⟨kinds, rfl, ⟨a1, s1, rfl, ea1, fa1⟩, bkinds_1⟩
    conv => cbv
    refine r_mcall m.sX (cCountsOf_ok code a1 s1 kinds h (by omega) (by omega) (by first | rfl | assumption | omega | (simp only [List.length_append, List.length_cons, List.length_nil] at *; omega))) ?_
    rintro _ _ ⟨q1, rfl, ⟨a2, s2, rfl, ea2, fa2⟩, bq1_1⟩
    conv => cbv
    exact hQ (.tup [.isl 1 (rows cInt kinds), .fr 3 1 (rows cInt q1)]) ⟨kinds, q1, rfl, (by first | omega | assumption | (simp; done) | (simp [*]; done) | (simp at *; omega)), (by first | omega | assumption | (simp; done) | (simp [*]; done) | (simp at *; omega))⟩   -- leaf 1

theorem drawThinnestNeeded_ok (code : List Int) (h : CurIn code) : OkA Tryd.prog 66 [.isl 1 (rows cU8 code)] (fun r => ∃ (q1 : List Int) (q2 : Int), r = .tup [.fr 3 1 (rows cInt q1), .int .i64 q2] ∧ ((q1.length : Int) ≤ 8)) :=
  fn_intro envOk fieldsOk mixed Tryd.func66 rfl fun κ X Y L Q m hQ => by
    conv => cbv
    refine r_callE m.sX (drawCanFill_ok code h) ?_
    rintro _ ⟨q1, q2, rfl, bq1_1⟩
    conv => cbv
    exact hQ (.tup [.fr 3 1 (rows cInt q1), .int .i64 q2]) ⟨q1, q2, rfl, (by first | omega | assumption | (simp; done) | (simp [*]; done) | (simp at *; omega))⟩   -- leaf 1

end Go.Proofs.YtbamclepgabciaaDoor.Ai
