/- Contracts of what the law on spaces draws. -/
import Derived.Test.YtbamclepgabciaaDoorSpace
import Derived.Test.YtbamclepgabciaaDoorLit
namespace Go.Proofs.YtbamclepgabciaaDoor.Ai
open Go Go.Proofs
set_option linter.unusedSimpArgs false
set_option maxRecDepth 10000
set_option maxHeartbeats 4000000
set_option linter.unusedVariables false

theorem cKinds_ok (code : List Int) (b0 t0 : Int)  (h : CurIn code) (h0 : 0 ≤ b0) (hk : b0 ≤ 899999999999940000)  : OkM Tryd.prog 119 (cCur code b0 t0) [] (fun r cs => ∃ (q : List Int), r = .fr 3 1 (rows cInt q) ∧ CurTo code b0 60 cs ∧ (q.length ≤ 8)) :=
  OkM.unnil 3 1 (fnM_intro envOk fieldsOk mixed Tryd.func119 rfl fun κ X Y L Q m hQ => by
    conv => cbv
    refine r_lenN 8 m.sX rfl (by omega) fun n1 hn1 => ?_   -- n1 = length of [1, 3, 4, 5, 6, 9, 12, 18]
    conv => cbv
    refine r_loopF (α := Int × Int × List Int × List Int × Int) m 61 [7, 8] [⟨0, 1, 0, 0, 0⟩, ⟨3, 25, 3, 1, 0⟩, ⟨6, 49, 3, 1, 0⟩] (fun σ => [(0, .optr 1 0 0 0 0), (3, .osl 25 0), (6, .osl 49 0), (7, .int .i64 n1), (8, .int .i64 σ.2.2.2.2)]) (fun σ => [(1, 0, .box (cCur code σ.1 σ.2.1)), (25, 0, .row 3 1 (rows cInt σ.2.2.1)), (49, 0, .row 3 1 (rows cInt σ.2.2.2.1))])
      (fun σ => (0 ≤ σ.2.2.2.2) ∧ (σ.2.2.2.2 ≤ n1) ∧ (b0 ≤ σ.1 ∧ σ.1 ≤ b0 + 4 * σ.2.2.2.2) ∧ ((σ.2.2.1.length : Int) ≤ 6) ∧ ((σ.2.2.2.1.length : Int) = 8)) (fun σ => (n1 - σ.2.2.2.2).toNat) (b0, t0, [], [1, 3, 4, 5, 6, 9, 12, 18], 0) ?_ ?_ ?_ ?_
    · cbv
    · (try dsimp only); simp only [rows_cons, rows_nil]; cbv
    · exact ⟨(by (try dsimp only); first | omega | (simp only [List.length_nil]; omega)), (by (try dsimp only); first | omega | (simp only [List.length_nil]; omega)), (by (try dsimp only); first | omega | (simp only [List.length_nil]; omega)), (by (try dsimp only) <;> first | omega | rfl | (simp [*]; done)), (by (try dsimp only) <;> (rfl))⟩
    rintro ⟨a1, s1, l, ys1, i1⟩ ⟨lo1, hi1, cl1, ln, yl⟩ E hE F hF
    dsimp only at lo1 hi1 cl1 ln yl
    conv => cbv
    refine r_lss m.sX (fun h1 => ?_) (fun h1 => ?_) <;> conv => cbv
    · refine r_oindex m.sX (by omega) (by omega) ?_
      conv => cbv
      obtain ⟨w, hw⟩ := get_ex (xs := ys1) (i := Int.toNat i1) (by omega)
      have mw := get_mem hw
      have dw := drop_cons hw
      have kw := take_snoc hw
      have jw : (i1 + 1).toNat = Int.toNat i1 + 1 := by omega
      have vw := nth_some hw
      refine r_oload m.sX hw (Nat.le_of_ble_eq_true rfl) ?_
      conv => cbv
      refine r_mcall m.sX (cOne_ok code a1 s1 3 h (by omega) (by omega)) ?_
      rintro _ _ ⟨q1, rfl, ⟨a2, s2, rfl, ea2, fa2⟩⟩
      conv => cbv
      rcases Bool.eq_false_or_eq_true q1 with rfl | rfl <;> conv => cbv
      · refine r_gtr m.sX (fun h2 => ?_) (fun h2 => ?_) <;> conv => cbv
        · refine r_lenR m.sX fun n2 hn2 mn2 => ?_
          conv => cbv
          refine r_lss m.sX (fun h3 => ?_) (fun h3 => ?_) <;> conv => cbv
          · refine r_append1 (w) m.sX rfl (by first | omega | (dsimp only; omega)) (by first | omega | (dsimp only; omega)) fun l_2 hl_2 => ?_
            conv => cbv
            have ll_2 : (l_2.length : Int) = l.length + 1 := by rw [hl_2]; first | done | (simp; done) | (simp; omega)
            refine r_addf m.sX (by omega) (by omega) fun r1 hr1 => ?_
            conv => cbv
            have tr1 : Int.toNat r1 = Int.toNat i1 + 1 := by omega
            refine hE _ (a2, s2, l_2, ys1, r1) ?_ ?_ ⟨(by (try dsimp only); first | omega | (simp only [List.length_nil]; omega)), (by (try dsimp only); first | omega | (simp only [List.length_nil]; omega)), (by (try dsimp only); first | omega | (simp only [List.length_nil]; omega)), (by (try dsimp only) <;> first | omega | rfl | (simp [*]; done) | (rw [ln]; simp [*]; done)), (by (try dsimp only) <;> first | omega | rfl | (simp [*]; done) | (rw [yl]; simp [*]; done))⟩ (by first | omega | (dsimp only; omega))
            · cbv
            · cbv
          · refine r_addf m.sX (by omega) (by omega) fun r2 hr2 => ?_
            conv => cbv
            have tr2 : Int.toNat r2 = Int.toNat i1 + 1 := by omega
            refine hE _ (a2, s2, l, ys1, r2) ?_ ?_ ⟨(by (try dsimp only); first | omega | (simp only [List.length_nil]; omega)), (by (try dsimp only); first | omega | (simp only [List.length_nil]; omega)), (by (try dsimp only); first | omega | (simp only [List.length_nil]; omega)), (by (try dsimp only) <;> first | omega | rfl | (simp [*]; done) | (rw [ln]; simp [*]; done)), (by (try dsimp only) <;> first | omega | rfl | (simp [*]; done) | (rw [yl]; simp [*]; done))⟩ (by first | omega | (dsimp only; omega))
            · cbv
            · cbv
        · refine r_mcall m.sX (cOne_ok code a2 s2 3 h (by omega) (by omega)) ?_
          rintro _ _ ⟨q2, rfl, ⟨a3, s3, rfl, ea3, fa3⟩⟩
          conv => cbv
          rcases Bool.eq_false_or_eq_true q2 with rfl | rfl <;> conv => cbv
          · refine r_lenR m.sX fun n3 hn3 mn3 => ?_
            conv => cbv
            refine r_lss m.sX (fun h4 => ?_) (fun h4 => ?_) <;> conv => cbv
            · refine r_append1 (w) m.sX rfl (by first | omega | (dsimp only; omega)) (by first | omega | (dsimp only; omega)) fun l_3 hl_3 => ?_
              conv => cbv
              have ll_3 : (l_3.length : Int) = l.length + 1 := by rw [hl_3]; first | done | (simp; done) | (simp; omega)
              refine r_addf m.sX (by omega) (by omega) fun r3 hr3 => ?_
              conv => cbv
              have tr3 : Int.toNat r3 = Int.toNat i1 + 1 := by omega
              refine hE _ (a3, s3, l_3, ys1, r3) ?_ ?_ ⟨(by (try dsimp only); first | omega | (simp only [List.length_nil]; omega)), (by (try dsimp only); first | omega | (simp only [List.length_nil]; omega)), (by (try dsimp only); first | omega | (simp only [List.length_nil]; omega)), (by (try dsimp only) <;> first | omega | rfl | (simp [*]; done) | (rw [ln]; simp [*]; done)), (by (try dsimp only) <;> first | omega | rfl | (simp [*]; done) | (rw [yl]; simp [*]; done))⟩ (by first | omega | (dsimp only; omega))
              · cbv
              · cbv
            · refine r_addf m.sX (by omega) (by omega) fun r4 hr4 => ?_
              conv => cbv
              have tr4 : Int.toNat r4 = Int.toNat i1 + 1 := by omega
              refine hE _ (a3, s3, l, ys1, r4) ?_ ?_ ⟨(by (try dsimp only); first | omega | (simp only [List.length_nil]; omega)), (by (try dsimp only); first | omega | (simp only [List.length_nil]; omega)), (by (try dsimp only); first | omega | (simp only [List.length_nil]; omega)), (by (try dsimp only) <;> first | omega | rfl | (simp [*]; done) | (rw [ln]; simp [*]; done)), (by (try dsimp only) <;> first | omega | rfl | (simp [*]; done) | (rw [yl]; simp [*]; done))⟩ (by first | omega | (dsimp only; omega))
              · cbv
              · cbv
          · refine r_addf m.sX (by omega) (by omega) fun r5 hr5 => ?_
            conv => cbv
            have tr5 : Int.toNat r5 = Int.toNat i1 + 1 := by omega
            refine hE _ (a3, s3, l, ys1, r5) ?_ ?_ ⟨(by (try dsimp only); first | omega | (simp only [List.length_nil]; omega)), (by (try dsimp only); first | omega | (simp only [List.length_nil]; omega)), (by (try dsimp only); first | omega | (simp only [List.length_nil]; omega)), (by (try dsimp only) <;> first | omega | rfl | (simp [*]; done) | (rw [ln]; simp [*]; done)), (by (try dsimp only) <;> first | omega | rfl | (simp [*]; done) | (rw [yl]; simp [*]; done))⟩ (by first | omega | (dsimp only; omega))
            · cbv
            · cbv
      · refine r_addf m.sX (by omega) (by omega) fun r6 hr6 => ?_
        conv => cbv
        have tr6 : Int.toNat r6 = Int.toNat i1 + 1 := by omega
        refine hE _ (a2, s2, l, ys1, r6) ?_ ?_ ⟨(by (try dsimp only); first | omega | (simp only [List.length_nil]; omega)), (by (try dsimp only); first | omega | (simp only [List.length_nil]; omega)), (by (try dsimp only); first | omega | (simp only [List.length_nil]; omega)), (by (try dsimp only) <;> first | omega | rfl | (simp [*]; done) | (rw [ln]; simp [*]; done)), (by (try dsimp only) <;> first | omega | rfl | (simp [*]; done) | (rw [yl]; simp [*]; done))⟩ (by first | omega | (dsimp only; omega))
        · cbv
        · cbv
    · have dz_i1 := drop_end (xs := [1, 3, 4, 5, 6, 9, 12, 18]) (i := Int.toNat i1) (by simp only [List.length_cons, List.length_nil]; omega)
      have tz_i1 := take_end (xs := [1, 3, 4, 5, 6, 9, 12, 18]) (i := Int.toNat i1) (by simp only [List.length_cons, List.length_nil]; omega)
      refine hF _ _ ?_
      conv => cbv
      refine r_lenR m.sX fun n4 hn4 mn4 => ?_
      conv => cbv
      refine r_eql m.sX (fun h5 => ?_) (fun h5 => ?_) <;> conv => cbv
      · refine r_mcall m.sX (cPick_ok code a1 s1 24 h (by omega) (by omega)) ?_
        rintro _ _ ⟨q3, rfl, ⟨a4, s4, rfl, ea4, fa4⟩, bq3, cq3, dq3⟩
        conv => cbv
        refine r_eql m.sX (fun h6 => ?_) (fun h6 => ?_) <;> conv => cbv
        · refine r_mcall m.sX (cAmong_ok code a4 s4 ([54, 55, 1]) (by simp) h (by omega) (by omega)) ?_
          rintro _ _ ⟨q4, rfl, ⟨a5, s5, rfl, ea5, fa5⟩, bq4⟩
          simp only [List.mem_cons, List.not_mem_nil, or_false] at bq4
          conv => cbv
          refine r_append1L cInt [4, 6, 9] q4 m.sX (by simp only [rows_cons, rows_nil]; rfl) rfl (by first | decide | (simp; omega) | omega) (by first | decide | (simp; omega) | omega) fun l_4 hl_4 => ?_   -- l_4 = [4, 6, 9] ++ [q4]
          conv => cbv
          exact hQ (.fr 3 1 (rows cInt l_4)) (cCur code a5 s5) ⟨l_4, rfl, ⟨a5, s5, rfl, by omega, by omega⟩, (by first | omega | assumption | (simp; done) | (simp [*]; done) | (simp at *; omega))⟩   -- leaf 1
        · refine r_eql m.sX (fun h7 => ?_) (fun h7 => ?_) <;> conv => cbv
          · refine r_mcall m.sX (cOne_ok code a4 s4 2 h (by omega) (by omega)) ?_
            rintro _ _ ⟨q5, rfl, ⟨a6, s6, rfl, ea6, fa6⟩⟩
            conv => cbv
            rcases Bool.eq_false_or_eq_true q5 with rfl | rfl <;> conv => cbv
            · refine r_append1L cInt [2, 3, 4, 5, 6, 7] 8 m.sX (by simp only [rows_cons, rows_nil]; rfl) rfl (by first | decide | (simp; omega) | omega) (by first | decide | (simp; omega) | omega) fun l_5 hl_5 => ?_   -- l_5 = [2, 3, 4, 5, 6, 7] ++ [8]
              conv => cbv
              exact hQ (.fr 3 1 (rows cInt l_5)) (cCur code a6 s6) ⟨l_5, rfl, ⟨a6, s6, rfl, by omega, by omega⟩, (by first | omega | assumption | (simp; done) | (simp [*]; done) | (simp at *; omega))⟩   -- leaf 2
            · exact hQ (.fr 3 1 [[.int .i64 2], [.int .i64 3], [.int .i64 4], [.int .i64 5], [.int .i64 6], [.int .i64 7]]) (cCur code a6 s6) ⟨[2, 3, 4, 5, 6, 7], (by first | rfl | (simp only [rows_nil]; rfl) | (simp only [rows_cons, rows_nil]; rfl)), ⟨a6, s6, rfl, by omega, by omega⟩, (by first | omega | assumption | (simp; done) | (simp [*]; done) | (simp at *; omega))⟩   -- leaf 3
          · refine r_eql m.sX (fun h8 => ?_) (fun h8 => ?_) <;> conv => cbv
            · exact hQ (.nil) (cCur code a4 s4) ⟨[], (by first | rfl | (simp only [rows_nil]; rfl) | (simp only [rows_cons, rows_nil]; rfl)), ⟨a4, s4, rfl, by omega, by omega⟩, (by first | omega | assumption | (simp; done) | (simp [*]; done) | (simp at *; omega))⟩   -- leaf 4
            · refine r_eql m.sX (fun h9 => ?_) (fun h9 => ?_) <;> conv => cbv
              · refine r_oindexN 3 m.sX rfl (by omega) (by omega) ?_   -- [4, 6, 9][0]
                conv => cbv
                obtain ⟨y1, hy1⟩ := get_ex (xs := ([4, 6, 9] : List Int)) (i := Int.toNat 0) (by first | omega | (simp; done) | (simp; omega))
                refine r_ostoreL cInt [4, 6, 9] (l := Int.toNat 0) 0 m.sX (by simp only [rows_cons, rows_nil]; rfl) hy1 (Nat.le_of_ble_eq_true rfl) rfl fun zs1 hzs1 => ?_   -- zs1 = [4, 6, 9].set 0 0
                conv => cbv
                exact hQ (.fr 3 1 (rows cInt zs1)) (cCur code a4 s4) ⟨zs1, rfl, ⟨a4, s4, rfl, by omega, by omega⟩, (by first | omega | assumption | (simp; done) | (simp [*]; done) | (simp at *; omega))⟩   -- leaf 5
              · exact hQ (.fr 3 1 [[.int .i64 4], [.int .i64 6], [.int .i64 9]]) (cCur code a4 s4) ⟨[4, 6, 9], (by first | rfl | (simp only [rows_nil]; rfl) | (simp only [rows_cons, rows_nil]; rfl)), ⟨a4, s4, rfl, by omega, by omega⟩, (by first | omega | assumption | (simp; done) | (simp [*]; done) | (simp at *; omega))⟩   -- leaf 6
      · refine r_mcall m.sX (cPick_ok code a1 s1 24 h (by omega) (by omega)) ?_
        rintro _ _ ⟨q6, rfl, ⟨a7, s7, rfl, ea7, fa7⟩, bq6, cq6, dq6⟩
        conv => cbv
        refine r_eql m.sX (fun h10 => ?_) (fun h10 => ?_) <;> conv => cbv
        · refine r_mcall m.sX (cAmong_ok code a7 s7 ([54, 55, 1]) (by simp) h (by omega) (by omega)) ?_
          rintro _ _ ⟨q7, rfl, ⟨a8, s8, rfl, ea8, fa8⟩, bq7⟩
          simp only [List.mem_cons, List.not_mem_nil, or_false] at bq7
          conv => cbv
          refine r_append1 (q7) m.sX rfl (by first | omega | (dsimp only; omega)) (by first | omega | (dsimp only; omega)) fun l_6 hl_6 => ?_
          conv => cbv
          have ll_6 : (l_6.length : Int) = l.length + 1 := by rw [hl_6]; first | done | (simp; done) | (simp; omega)
          exact hQ (.fr 3 1 (rows cInt l_6)) (cCur code a8 s8) ⟨l_6, rfl, ⟨a8, s8, rfl, by omega, by omega⟩, (by first | omega | assumption | (simp; done) | (simp [*]; done) | (simp at *; omega))⟩   -- leaf 7
        · refine r_eql m.sX (fun h11 => ?_) (fun h11 => ?_) <;> conv => cbv
          · refine r_mcall m.sX (cOne_ok code a7 s7 2 h (by omega) (by omega)) ?_
            rintro _ _ ⟨q8, rfl, ⟨a9, s9, rfl, ea9, fa9⟩⟩
            conv => cbv
            rcases Bool.eq_false_or_eq_true q8 with rfl | rfl <;> conv => cbv
            · refine r_append1L cInt [2, 3, 4, 5, 6, 7] 8 m.sX (by simp only [rows_cons, rows_nil]; rfl) rfl (by first | decide | (simp; omega) | omega) (by first | decide | (simp; omega) | omega) fun l_7 hl_7 => ?_   -- l_7 = [2, 3, 4, 5, 6, 7] ++ [8]
              conv => cbv
              exact hQ (.fr 3 1 (rows cInt l_7)) (cCur code a9 s9) ⟨l_7, rfl, ⟨a9, s9, rfl, by omega, by omega⟩, (by first | omega | assumption | (simp; done) | (simp [*]; done) | (simp at *; omega))⟩   -- leaf 8
            · exact hQ (.fr 3 1 [[.int .i64 2], [.int .i64 3], [.int .i64 4], [.int .i64 5], [.int .i64 6], [.int .i64 7]]) (cCur code a9 s9) ⟨[2, 3, 4, 5, 6, 7], (by first | rfl | (simp only [rows_nil]; rfl) | (simp only [rows_cons, rows_nil]; rfl)), ⟨a9, s9, rfl, by omega, by omega⟩, (by first | omega | assumption | (simp; done) | (simp [*]; done) | (simp at *; omega))⟩   -- leaf 9
          · refine r_eql m.sX (fun h12 => ?_) (fun h12 => ?_) <;> conv => cbv
            · exact hQ (.nil) (cCur code a7 s7) ⟨[], (by first | rfl | (simp only [rows_nil]; rfl) | (simp only [rows_cons, rows_nil]; rfl)), ⟨a7, s7, rfl, by omega, by omega⟩, (by first | omega | assumption | (simp; done) | (simp [*]; done) | (simp at *; omega))⟩   -- leaf 10
            · refine r_eql m.sX (fun h13 => ?_) (fun h13 => ?_) <;> conv => cbv
              · refine r_oindex m.sX (by omega) (by omega) ?_
                conv => cbv
                obtain ⟨y2, hy2⟩ := get_ex (xs := l) (i := Int.toNat 0) (by omega)
                refine r_ostore (l := Int.toNat 0) 0 m.sX hy2 (Nat.le_of_ble_eq_true rfl) rfl fun l_8 hl_8 => ?_   -- l_8 = l.set 0 0
                have ll_8 : (l_8.length : Int) = l.length := by rw [hl_8]; first | done | (simp; done) | (simp; omega)
                conv => cbv
                exact hQ (.fr 3 1 (rows cInt l_8)) (cCur code a7 s7) ⟨l_8, rfl, ⟨a7, s7, rfl, by omega, by omega⟩, (by first | omega | assumption | (simp; done) | (simp [*]; done) | (simp at *; omega))⟩   -- leaf 11
              · exact hQ (.fr 3 1 (rows cInt l)) (cCur code a7 s7) ⟨l, rfl, ⟨a7, s7, rfl, by omega, by omega⟩, (by first | omega | assumption | (simp; done) | (simp [*]; done) | (simp at *; omega))⟩)   -- leaf 12

theorem cKinds_ex (code : List Int) (b0 t0 : Int) : ∃ r cs, (∃ (q : List Int), r = PV.fr 3 1 (rows cInt q) ∧ CurTo code b0 60 cs ∧ (q.length ≤ 8)) :=
  ⟨_, _, [], rfl, ⟨b0, t0, rfl, by omega, by omega⟩, (by first | omega | simp)⟩

theorem cFill_ok (code : List Int) (b0 t0 : Int)  (h : CurIn code) (h0 : 0 ≤ b0) (hk : b0 ≤ 899999999999980000)  : OkM Tryd.prog 124 (cCur code b0 t0) [] (fun r cs => ∃ (q : Int), r = .int .i64 q ∧ CurTo code b0 20 cs) :=
  fnM_intro envOk fieldsOk mixed Tryd.func124 rfl fun κ X Y L Q m hQ => by
    conv => cbv
    refine r_mcall m.sX (cPick_ok code b0 t0 40 h (by omega) (by omega)) ?_
    rintro _ _ ⟨q1, rfl, ⟨a1, s1, rfl, ea1, fa1⟩, bq1, cq1, dq1⟩
    conv => cbv
    refine r_mcall m.sX (cPick_ok code a1 s1 100 h (by omega) (by omega)) ?_
    rintro _ _ ⟨q2, rfl, ⟨a2, s2, rfl, ea2, fa2⟩, bq2, cq2, dq2⟩
    conv => cbv
    refine r_mcall m.sX (cAmong_ok code a2 s2 ([5, 401, -1]) (by simp) h (by omega) (by omega)) ?_
    rintro _ _ ⟨q3, rfl, ⟨a3, s3, rfl, ea3, fa3⟩, bq3⟩
    simp only [List.mem_cons, List.not_mem_nil, or_false] at bq3
    conv => cbv
    refine r_mcall m.sX (cAmong_ok code a3 s3 ([0, 1, 2, 7, 11, 14, q1, q2, 400, q3]) (by simp) h (by omega) (by omega)) ?_
    rintro _ _ ⟨q4, rfl, ⟨a4, s4, rfl, ea4, fa4⟩, bq4⟩
    simp only [List.mem_cons, List.not_mem_nil, or_false] at bq4
    conv => cbv
    exact hQ (.int .i64 q4) (cCur code a4 s4) ⟨q4, rfl, ⟨a4, s4, rfl, by omega, by omega⟩⟩   -- leaf 1

theorem cFill_ex (code : List Int) (b0 t0 : Int) : ∃ r cs, (∃ (q : Int), r = PV.int .i64 q ∧ CurTo code b0 20 cs) :=
  ⟨_, _, 0, rfl, ⟨b0, t0, rfl, by omega, by omega⟩⟩

theorem drawCanFill_ok (code : List Int) (h : CurIn code) : OkA Tryd.prog 133 [.isl 1 (rows cU8 code)] (fun r => ∃ (q1 : List Int) (q2 : Int), r = .tup [.fr 3 1 (rows cInt q1), .int .i64 q2] ∧ (q1.length ≤ 8)) :=
  fn_intro envOk fieldsOk mixed Tryd.func133 rfl fun κ X Y L Q m hQ => by
    conv => cbv
    refine r_mcall m.sX (cKinds_ok code 0 0 h (by omega) (by omega)) ?_
    rintro _ _ ⟨q1, rfl, ⟨a1, s1, rfl, ea1, fa1⟩, bq1_1⟩
    conv => cbv
    refine r_mcall m.sX (cFill_ok code a1 s1 h (by omega) (by omega)) ?_
    rintro _ _ ⟨q2, rfl, ⟨a2, s2, rfl, ea2, fa2⟩⟩
    conv => cbv
    exact hQ (.tup [.fr 3 1 (rows cInt q1), .int .i64 q2]) ⟨q1, q2, rfl, (by first | omega | assumption | (simp; done) | (simp [*]; done) | (simp at *; omega))⟩   -- leaf 1

end Go.Proofs.YtbamclepgabciaaDoor.Ai
