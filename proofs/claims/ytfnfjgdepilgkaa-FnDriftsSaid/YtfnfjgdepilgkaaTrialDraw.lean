/- Contracts of what the laws on trials draw. -/
import Derived.Test.YtfnfjgdepilgkaaTrial
namespace Go.Proofs.Ytfnfjgdepilgkaa.Ai
open Go Go.Proofs
set_option maxRecDepth 10000
set_option maxHeartbeats 4000000
set_option linter.unusedVariables false

theorem cTrial_ok (code : List Int) (b0 t0 : Int)  (h : CurIn code) (h0 : 0 ≤ b0) (hk : b0 ≤ 899999999999800000)  : OkM Try.prog 103 (cCur code b0 t0) [] (fun r cs => ∃ (q : List Int), r = .fr 3 1 (rows cInt q) ∧ CurTo code b0 200 cs ∧ ((q.length : Int) ≤ 41)) :=
  fnM_intro envOk fieldsOk mixed Try.func103 rfl fun κ X Y L Q m hQ => by
    conv => cbv
    refine r_mcall m.sX (cPick_ok code b0 t0 8 h (by omega) (by omega)) ?_
    rintro _ _ ⟨q1, rfl, ⟨a1, s1, rfl, ea1, fa1⟩, bq1, cq1, dq1⟩
    conv => cbv
    refine r_addf m.sX (by omega) (by omega) fun n hn => ?_
    conv => cbv
    refine r_mcall m.sX (cOne_ok code a1 s1 12 h (by omega) (by omega)) ?_
    rintro _ _ ⟨q2, rfl, ⟨a2, s2, rfl, ea2, fa2⟩⟩
    conv => cbv
    rcases Bool.eq_false_or_eq_true q2 with rfl | rfl <;> conv => cbv
    · refine r_mcall m.sX (cAmong_ok code a2 s2 ([0, 20, 40, 41]) (by simp) h (by omega) (by omega)) ?_
      rintro _ _ ⟨n_2, rfl, ⟨a3, s3, rfl, ea3, fa3⟩, bn_2⟩
      simp only [List.mem_cons, List.not_mem_nil, or_false] at bn_2
      conv => cbv
      refine r_loopF (α := Int × Int × List Int) m 64 [4] [⟨0, 1, 0, 0, 0⟩, ⟨3, 25, 3, 1, 0⟩] (fun σ => [(0, .optr 1 0 0 0 0), (3, .osl 25 0), (4, .int .i64 n_2)]) (fun σ => [(1, 0, .box (cCur code σ.1 σ.2.1)), (25, 0, .row 3 1 (rows cInt σ.2.2))])
        (fun σ => ((σ.2.2.length : Int) ≤ n_2) ∧ (b0 ≤ σ.1 ∧ σ.1 ≤ b0 + 10 + 2 * (σ.2.2.length : Int)) ∧ (∀ x ∈ σ.2.2, -7 ≤ x ∧ x ≤ 7)) (fun σ => (n_2 - (σ.2.2.length : Int)).toNat) (a3, s3, []) ?_ ?_ ?_ ?_
      · cbv
      · (try dsimp only); simp only [rows_cons, rows_nil]; cbv
      · exact ⟨(by (try dsimp only); first | omega | (simp only [List.length_nil]; omega)), (by (try dsimp only) <;> first | omega | rfl | (simp [*]; done)), (by (try dsimp only) <;> (intro x hx; cases hx))⟩
      rintro ⟨a4, s4, l⟩ ⟨ll1, cu, lb⟩ E hE F hF
      dsimp only at ll1 cu lb
      conv => cbv
      refine r_lenR m.sX fun n1 hn1 mn1 => ?_
      conv => cbv
      refine r_lss m.sX (fun h1 => ?_) (fun h1 => ?_) <;> conv => cbv
      · refine r_mcall m.sX (cPick_ok code a4 s4 15 h (by omega) (by omega)) ?_
        rintro _ _ ⟨q3, rfl, ⟨a5, s5, rfl, ea5, fa5⟩, bq3, cq3, dq3⟩
        conv => cbv
        refine r_subf m.sX (by omega) (by omega) fun r1 hr1 => ?_
        conv => cbv
        refine r_append1 (r1) m.sX rfl (by first | omega | (dsimp only; omega)) (by first | omega | (dsimp only; omega)) fun l_2 hl_2 => ?_
        conv => cbv
        have ll_2 : (l_2.length : Int) = l.length + 1 := by rw [hl_2]; first | done | (simp; done) | (simp; omega)
        refine hE _ (a5, s5, l_2) ?_ ?_ ⟨(by (try dsimp only); first | omega | (simp only [List.length_nil]; omega)), (by (try dsimp only) <;> first | omega | rfl | (simp [*]; done) | (rw [cu]; simp [*]; done)), (by (try dsimp only) <;> (intro x hx; rw [hl_2] at hx; rcases List.mem_append.1 hx with hx | hx; exact lb x hx; (rw [List.mem_singleton.1 hx]; omega)))⟩ (by first | omega | (dsimp only; omega))
        · cbv
        · cbv
      · refine hF _ _ ?_
        conv => cbv
        refine r_gtr m.sX (fun h2 => ?_) (fun h2 => ?_) <;> conv => cbv
        · refine r_mcall m.sX (cOne_ok code a4 s4 4 h (by omega) (by omega)) ?_
          rintro _ _ ⟨q4, rfl, ⟨a6, s6, rfl, ea6, fa6⟩⟩
          conv => cbv
          rcases Bool.eq_false_or_eq_true q4 with rfl | rfl <;> conv => cbv
          · refine r_lenR m.sX fun n2 hn2 mn2 => ?_
            conv => cbv
            refine r_loopF (α := Int × Int × List Int × Int) m 64 [4, 31, 32] [⟨0, 1, 0, 0, 0⟩, ⟨3, 25, 3, 1, 0⟩] (fun σ => [(0, .optr 1 0 0 0 0), (3, .osl 25 0), (4, .int .i64 n_2), (31, .int .i64 n2), (32, .int .i64 σ.2.2.2)]) (fun σ => [(1, 0, .box (cCur code σ.1 σ.2.1)), (25, 0, .row 3 1 (rows cInt σ.2.2.1))])
              (fun σ => (0 ≤ σ.2.2.2) ∧ (σ.2.2.2 ≤ n2) ∧ (σ.1 = a6) ∧ ((σ.2.2.1.length : Int) = n2) ∧ (∀ x, σ.2.2.1[Int.toNat 0]? = some x → -7 ≤ x ∧ x ≤ 7)) (fun σ => (n2 - σ.2.2.2).toNat) (a6, s6, l, 0) ?_ ?_ ?_ ?_
            · cbv
            · cbv
            · exact ⟨(by (try dsimp only); first | omega | (simp only [List.length_nil]; omega)), (by (try dsimp only); first | omega | (simp only [List.length_nil]; omega)), (by (try dsimp only) <;> (rfl)), (by (try dsimp only) <;> first | omega | rfl | (simp [*]; done)), (by (try dsimp only) <;> (intro x hx; exact lb x (List.mem_of_getElem? hx)))⟩
            rintro ⟨a7, s7, l_3, i1⟩ ⟨lo2, hi2, cu, ln, z0⟩ E hE F hF
            dsimp only at lo2 hi2 cu ln z0
            conv => cbv
            refine r_lss m.sX (fun h3 => ?_) (fun h3 => ?_) <;> conv => cbv
            · refine r_oindex m.sX (by omega) (by omega) ?_
              conv => cbv
              obtain ⟨x1, hx1⟩ := get_ex (xs := l_3) (i := Int.toNat 0) (by omega)
              have mx1 := get_mem hx1
              have vx1 := nth_some hx1
              have b1 := z0 _ hx1
              refine r_oload m.sX hx1 (Nat.le_of_ble_eq_true rfl) ?_
              conv => cbv
              first | refine r_divf m.sX (by omega) (by omega) fun r2 hr2 br2 => ?_ | refine r_tdivf m.sX (by omega) (by omega) fun r2 hr2 br2 => ?_
              conv => cbv
              refine r_mulf m.sX (by first | omega | (subst_vars; omega)) (by first | omega | (subst_vars; omega)) fun r3 hr3 => ?_
              conv => cbv
              refine r_addf m.sX (by omega) (by omega) fun r4 hr4 => ?_
              conv => cbv
              refine r_modf m.sX (by omega) (by omega) fun r5 hr5 br5 => ?_
              conv => cbv
              refine r_addf m.sX (by omega) (by omega) fun r6 hr6 => ?_
              conv => cbv
              refine r_oindex m.sX (by omega) (by omega) ?_
              conv => cbv
              obtain ⟨y1, hy1⟩ := get_ex (xs := l_3) (i := Int.toNat i1) (by omega)
              refine r_ostore (l := Int.toNat i1) r6 m.sX hy1 (Nat.le_of_ble_eq_true rfl) rfl fun l_4 hl_4 => ?_   -- l_4 = l_3.set i1 r6
              have ll_4 : (l_4.length : Int) = l_3.length := by rw [hl_4]; first | done | (simp; done) | (simp; omega)
              conv => cbv
              refine r_addf m.sX (by omega) (by omega) fun r7 hr7 => ?_
              conv => cbv
              try have tr7 : Int.toNat r7 = Int.toNat i1 + 1 := by omega
              refine hE _ (a7, s7, l_4, r7) ?_ ?_ ⟨(by (try dsimp only); first | omega | (simp only [List.length_nil]; omega)), (by (try dsimp only); first | omega | (simp only [List.length_nil]; omega)), (by (try dsimp only) <;> (exact cu)), (by (try dsimp only) <;> first | omega | rfl | (simp [*]; done) | (rw [ln]; simp [*]; done)), (by (try dsimp only) <;> (intro x hx; rw [hl_4, List.getElem?_set] at hx; split at hx; (split at hx; (have e_ := Option.some.inj hx; omega); cases hx); exact z0 x hx))⟩ (by first | omega | (dsimp only; omega))
              · cbv
              · cbv
            · have dz_i1 := drop_end (xs := l) (i := Int.toNat i1) (by omega)
              have tz_i1 := take_end (xs := l) (i := Int.toNat i1) (by omega)
              refine hF _ _ ?_
              conv => cbv
              refine r_gtr m.sX (fun h4 => ?_) (fun h4 => ?_) <;> conv => cbv
              · refine r_mcall m.sX (cOne_ok code a7 s7 12 h (by omega) (by omega)) ?_
                rintro _ _ ⟨q5, rfl, ⟨a8, s8, rfl, ea8, fa8⟩⟩
                conv => cbv
                rcases Bool.eq_false_or_eq_true q5 with rfl | rfl <;> conv => cbv
                · refine r_mcall m.sX (cPick_ok code a8 s8 n_2 h (by omega) (by omega)) ?_
                  rintro _ _ ⟨q6, rfl, ⟨a9, s9, rfl, ea9, fa9⟩, bq6, cq6, dq6⟩
                  conv => cbv
                  refine r_mcall m.sX (cAmong_ok code a9 s9 ([500, -500, 501, -9223372036854775808]) (by simp) h (by omega) (by omega)) ?_
                  rintro _ _ ⟨q7, rfl, ⟨a10, s10, rfl, ea10, fa10⟩, bq7⟩
                  simp only [List.mem_cons, List.not_mem_nil, or_false] at bq7
                  conv => cbv
                  refine r_oindex m.sX (by omega) (by omega) ?_
                  conv => cbv
                  obtain ⟨y2, hy2⟩ := get_ex (xs := l_3) (i := Int.toNat q6) (by omega)
                  refine r_ostore (l := Int.toNat q6) q7 m.sX hy2 (Nat.le_of_ble_eq_true rfl) rfl fun l_5 hl_5 => ?_   -- l_5 = l_3.set q6 q7
                  have ll_5 : (l_5.length : Int) = l_3.length := by rw [hl_5]; first | done | (simp; done) | (simp; omega)
                  conv => cbv
                  exact hQ (.fr 3 1 (rows cInt l_5)) (cCur code a10 s10) ⟨l_5, rfl, ⟨a10, s10, rfl, by omega, by omega⟩, (by first | omega | assumption | (simp; done) | (simp [*]; done) | (simp at *; omega))⟩   -- leaf 1
                · exact hQ (.fr 3 1 (rows cInt l_3)) (cCur code a8 s8) ⟨l_3, rfl, ⟨a8, s8, rfl, by omega, by omega⟩, (by first | omega | assumption | (simp; done) | (simp [*]; done) | (simp at *; omega))⟩   -- leaf 2
              · exact hQ (.fr 3 1 (rows cInt l_3)) (cCur code a7 s7) ⟨l_3, rfl, ⟨a7, s7, rfl, by omega, by omega⟩, (by first | omega | assumption | (simp; done) | (simp [*]; done) | (simp at *; omega))⟩   -- leaf 3
          · refine r_gtr m.sX (fun h5 => ?_) (fun h5 => ?_) <;> conv => cbv
            · refine r_mcall m.sX (cOne_ok code a6 s6 12 h (by omega) (by omega)) ?_
              rintro _ _ ⟨q8, rfl, ⟨a11, s11, rfl, ea11, fa11⟩⟩
              conv => cbv
              rcases Bool.eq_false_or_eq_true q8 with rfl | rfl <;> conv => cbv
              · refine r_mcall m.sX (cPick_ok code a11 s11 n_2 h (by omega) (by omega)) ?_
                rintro _ _ ⟨q9, rfl, ⟨a12, s12, rfl, ea12, fa12⟩, bq9, cq9, dq9⟩
                conv => cbv
                refine r_mcall m.sX (cAmong_ok code a12 s12 ([500, -500, 501, -9223372036854775808]) (by simp) h (by omega) (by omega)) ?_
                rintro _ _ ⟨q10, rfl, ⟨a13, s13, rfl, ea13, fa13⟩, bq10⟩
                simp only [List.mem_cons, List.not_mem_nil, or_false] at bq10
                conv => cbv
                refine r_oindex m.sX (by omega) (by omega) ?_
                conv => cbv
                obtain ⟨y3, hy3⟩ := get_ex (xs := l) (i := Int.toNat q9) (by omega)
                refine r_ostore (l := Int.toNat q9) q10 m.sX hy3 (Nat.le_of_ble_eq_true rfl) rfl fun l_6 hl_6 => ?_   -- l_6 = l.set q9 q10
                have ll_6 : (l_6.length : Int) = l.length := by rw [hl_6]; first | done | (simp; done) | (simp; omega)
                conv => cbv
                exact hQ (.fr 3 1 (rows cInt l_6)) (cCur code a13 s13) ⟨l_6, rfl, ⟨a13, s13, rfl, by omega, by omega⟩, (by first | omega | assumption | (simp; done) | (simp [*]; done) | (simp at *; omega))⟩   -- leaf 4
              · exact hQ (.fr 3 1 (rows cInt l)) (cCur code a11 s11) ⟨l, rfl, ⟨a11, s11, rfl, by omega, by omega⟩, (by first | omega | assumption | (simp; done) | (simp [*]; done) | (simp at *; omega))⟩   -- leaf 5
            · exact hQ (.fr 3 1 (rows cInt l)) (cCur code a6 s6) ⟨l, rfl, ⟨a6, s6, rfl, by omega, by omega⟩, (by first | omega | assumption | (simp; done) | (simp [*]; done) | (simp at *; omega))⟩   -- leaf 6
        · refine r_gtr m.sX (fun h6 => ?_) (fun h6 => ?_) <;> conv => cbv
          · refine r_mcall m.sX (cOne_ok code a4 s4 12 h (by omega) (by omega)) ?_
            rintro _ _ ⟨q11, rfl, ⟨a14, s14, rfl, ea14, fa14⟩⟩
            conv => cbv
            rcases Bool.eq_false_or_eq_true q11 with rfl | rfl <;> conv => cbv
            · refine r_mcall m.sX (cPick_ok code a14 s14 n_2 h (by omega) (by omega)) ?_
              rintro _ _ ⟨q12, rfl, ⟨a15, s15, rfl, ea15, fa15⟩, bq12, cq12, dq12⟩
              conv => cbv
              refine r_mcall m.sX (cAmong_ok code a15 s15 ([500, -500, 501, -9223372036854775808]) (by simp) h (by omega) (by omega)) ?_
              rintro _ _ ⟨q13, rfl, ⟨a16, s16, rfl, ea16, fa16⟩, bq13⟩
              simp only [List.mem_cons, List.not_mem_nil, or_false] at bq13
              conv => cbv
              refine r_oindex m.sX (by omega) (by omega) ?_
              conv => cbv
              obtain ⟨y4, hy4⟩ := get_ex (xs := l) (i := Int.toNat q12) (by omega)
              refine r_ostore (l := Int.toNat q12) q13 m.sX hy4 (Nat.le_of_ble_eq_true rfl) rfl fun l_7 hl_7 => ?_   -- l_7 = l.set q12 q13
              have ll_7 : (l_7.length : Int) = l.length := by rw [hl_7]; first | done | (simp; done) | (simp; omega)
              conv => cbv
              exact hQ (.fr 3 1 (rows cInt l_7)) (cCur code a16 s16) ⟨l_7, rfl, ⟨a16, s16, rfl, by omega, by omega⟩, (by first | omega | assumption | (simp; done) | (simp [*]; done) | (simp at *; omega))⟩   -- leaf 7
            · exact hQ (.fr 3 1 (rows cInt l)) (cCur code a14 s14) ⟨l, rfl, ⟨a14, s14, rfl, by omega, by omega⟩, (by first | omega | assumption | (simp; done) | (simp [*]; done) | (simp at *; omega))⟩   -- leaf 8
          · exact hQ (.fr 3 1 (rows cInt l)) (cCur code a4 s4) ⟨l, rfl, ⟨a4, s4, rfl, by omega, by omega⟩, (by first | omega | assumption | (simp; done) | (simp [*]; done) | (simp at *; omega))⟩   -- leaf 9
    · refine r_loopF (α := Int × Int × List Int) m 64 [4] [⟨0, 1, 0, 0, 0⟩, ⟨3, 25, 3, 1, 0⟩] (fun σ => [(0, .optr 1 0 0 0 0), (3, .osl 25 0), (4, .int .i64 n)]) (fun σ => [(1, 0, .box (cCur code σ.1 σ.2.1)), (25, 0, .row 3 1 (rows cInt σ.2.2))])
        (fun σ => ((σ.2.2.length : Int) ≤ n) ∧ (b0 ≤ σ.1 ∧ σ.1 ≤ b0 + 10 + 2 * (σ.2.2.length : Int)) ∧ (∀ x ∈ σ.2.2, -7 ≤ x ∧ x ≤ 7)) (fun σ => (n - (σ.2.2.length : Int)).toNat) (a2, s2, []) ?_ ?_ ?_ ?_
      · cbv
      · (try dsimp only); simp only [rows_cons, rows_nil]; cbv
      · exact ⟨(by (try dsimp only); first | omega | (simp only [List.length_nil]; omega)), (by (try dsimp only) <;> first | omega | rfl | (simp [*]; done)), (by (try dsimp only) <;> (intro x hx; cases hx))⟩
      rintro ⟨a17, s17, l_8⟩ ⟨ll3, cu, lb⟩ E hE F hF
      dsimp only at ll3 cu lb
      conv => cbv
      refine r_lenR m.sX fun n3 hn3 mn3 => ?_
      conv => cbv
      refine r_lss m.sX (fun h7 => ?_) (fun h7 => ?_) <;> conv => cbv
      · refine r_mcall m.sX (cPick_ok code a17 s17 15 h (by omega) (by omega)) ?_
        rintro _ _ ⟨q14, rfl, ⟨a18, s18, rfl, ea18, fa18⟩, bq14, cq14, dq14⟩
        conv => cbv
        refine r_subf m.sX (by omega) (by omega) fun r8 hr8 => ?_
        conv => cbv
        refine r_append1 (r8) m.sX rfl (by first | omega | (dsimp only; omega)) (by first | omega | (dsimp only; omega)) fun l_9 hl_9 => ?_
        conv => cbv
        have ll_9 : (l_9.length : Int) = l_8.length + 1 := by rw [hl_9]; first | done | (simp; done) | (simp; omega)
        refine hE _ (a18, s18, l_9) ?_ ?_ ⟨(by (try dsimp only); first | omega | (simp only [List.length_nil]; omega)), (by (try dsimp only) <;> first | omega | rfl | (simp [*]; done) | (rw [cu]; simp [*]; done)), (by (try dsimp only) <;> (intro x hx; rw [hl_9] at hx; rcases List.mem_append.1 hx with hx | hx; exact lb x hx; (rw [List.mem_singleton.1 hx]; omega)))⟩ (by first | omega | (dsimp only; omega))
        · cbv
        · cbv
      · refine hF _ _ ?_
        conv => cbv
        refine r_gtr m.sX (fun h8 => ?_) (fun h8 => ?_) <;> conv => cbv
        · refine r_mcall m.sX (cOne_ok code a17 s17 4 h (by omega) (by omega)) ?_
          rintro _ _ ⟨q15, rfl, ⟨a19, s19, rfl, ea19, fa19⟩⟩
          conv => cbv
          rcases Bool.eq_false_or_eq_true q15 with rfl | rfl <;> conv => cbv
          · refine r_lenR m.sX fun n4 hn4 mn4 => ?_
            conv => cbv
            refine r_loopF (α := Int × Int × List Int × Int) m 64 [4, 31, 32] [⟨0, 1, 0, 0, 0⟩, ⟨3, 25, 3, 1, 0⟩] (fun σ => [(0, .optr 1 0 0 0 0), (3, .osl 25 0), (4, .int .i64 n), (31, .int .i64 n4), (32, .int .i64 σ.2.2.2)]) (fun σ => [(1, 0, .box (cCur code σ.1 σ.2.1)), (25, 0, .row 3 1 (rows cInt σ.2.2.1))])
              (fun σ => (0 ≤ σ.2.2.2) ∧ (σ.2.2.2 ≤ n4) ∧ (σ.1 = a19) ∧ ((σ.2.2.1.length : Int) = n4) ∧ (∀ x, σ.2.2.1[Int.toNat 0]? = some x → -7 ≤ x ∧ x ≤ 7)) (fun σ => (n4 - σ.2.2.2).toNat) (a19, s19, l_8, 0) ?_ ?_ ?_ ?_
            · cbv
            · cbv
            · exact ⟨(by (try dsimp only); first | omega | (simp only [List.length_nil]; omega)), (by (try dsimp only); first | omega | (simp only [List.length_nil]; omega)), (by (try dsimp only) <;> (rfl)), (by (try dsimp only) <;> first | omega | rfl | (simp [*]; done)), (by (try dsimp only) <;> (intro x hx; exact lb x (List.mem_of_getElem? hx)))⟩
            rintro ⟨a20, s20, l_10, i2⟩ ⟨lo4, hi4, cu, ln, z0⟩ E hE F hF
            dsimp only at lo4 hi4 cu ln z0
            conv => cbv
            refine r_lss m.sX (fun h9 => ?_) (fun h9 => ?_) <;> conv => cbv
            · refine r_oindex m.sX (by omega) (by omega) ?_
              conv => cbv
              obtain ⟨x2, hx2⟩ := get_ex (xs := l_10) (i := Int.toNat 0) (by omega)
              have mx2 := get_mem hx2
              have vx2 := nth_some hx2
              have b1 := z0 _ hx2
              refine r_oload m.sX hx2 (Nat.le_of_ble_eq_true rfl) ?_
              conv => cbv
              first | refine r_divf m.sX (by omega) (by omega) fun r9 hr9 br9 => ?_ | refine r_tdivf m.sX (by omega) (by omega) fun r9 hr9 br9 => ?_
              conv => cbv
              refine r_mulf m.sX (by first | omega | (subst_vars; omega)) (by first | omega | (subst_vars; omega)) fun r10 hr10 => ?_
              conv => cbv
              refine r_addf m.sX (by omega) (by omega) fun r11 hr11 => ?_
              conv => cbv
              refine r_modf m.sX (by omega) (by omega) fun r12 hr12 br12 => ?_
              conv => cbv
              refine r_addf m.sX (by omega) (by omega) fun r13 hr13 => ?_
              conv => cbv
              refine r_oindex m.sX (by omega) (by omega) ?_
              conv => cbv
              obtain ⟨y5, hy5⟩ := get_ex (xs := l_10) (i := Int.toNat i2) (by omega)
              refine r_ostore (l := Int.toNat i2) r13 m.sX hy5 (Nat.le_of_ble_eq_true rfl) rfl fun l_11 hl_11 => ?_   -- l_11 = l_10.set i2 r13
              have ll_11 : (l_11.length : Int) = l_10.length := by rw [hl_11]; first | done | (simp; done) | (simp; omega)
              conv => cbv
              refine r_addf m.sX (by omega) (by omega) fun r14 hr14 => ?_
              conv => cbv
              try have tr14 : Int.toNat r14 = Int.toNat i2 + 1 := by omega
              refine hE _ (a20, s20, l_11, r14) ?_ ?_ ⟨(by (try dsimp only); first | omega | (simp only [List.length_nil]; omega)), (by (try dsimp only); first | omega | (simp only [List.length_nil]; omega)), (by (try dsimp only) <;> (exact cu)), (by (try dsimp only) <;> first | omega | rfl | (simp [*]; done) | (rw [ln]; simp [*]; done)), (by (try dsimp only) <;> (intro x hx; rw [hl_11, List.getElem?_set] at hx; split at hx; (split at hx; (have e_ := Option.some.inj hx; omega); cases hx); exact z0 x hx))⟩ (by first | omega | (dsimp only; omega))
              · cbv
              · cbv
            · have dz_i2 := drop_end (xs := l_8) (i := Int.toNat i2) (by omega)
              have tz_i2 := take_end (xs := l_8) (i := Int.toNat i2) (by omega)
              refine hF _ _ ?_
              conv => cbv
              refine r_gtr m.sX (fun h10 => ?_) (fun h10 => ?_) <;> conv => cbv
              · refine r_mcall m.sX (cOne_ok code a20 s20 12 h (by omega) (by omega)) ?_
                rintro _ _ ⟨q16, rfl, ⟨a21, s21, rfl, ea21, fa21⟩⟩
                conv => cbv
                rcases Bool.eq_false_or_eq_true q16 with rfl | rfl <;> conv => cbv
                · refine r_mcall m.sX (cPick_ok code a21 s21 n h (by omega) (by omega)) ?_
                  rintro _ _ ⟨q17, rfl, ⟨a22, s22, rfl, ea22, fa22⟩, bq17, cq17, dq17⟩
                  conv => cbv
                  refine r_mcall m.sX (cAmong_ok code a22 s22 ([500, -500, 501, -9223372036854775808]) (by simp) h (by omega) (by omega)) ?_
                  rintro _ _ ⟨q18, rfl, ⟨a23, s23, rfl, ea23, fa23⟩, bq18⟩
                  simp only [List.mem_cons, List.not_mem_nil, or_false] at bq18
                  conv => cbv
                  refine r_oindex m.sX (by omega) (by omega) ?_
                  conv => cbv
                  obtain ⟨y6, hy6⟩ := get_ex (xs := l_10) (i := Int.toNat q17) (by omega)
                  refine r_ostore (l := Int.toNat q17) q18 m.sX hy6 (Nat.le_of_ble_eq_true rfl) rfl fun l_12 hl_12 => ?_   -- l_12 = l_10.set q17 q18
                  have ll_12 : (l_12.length : Int) = l_10.length := by rw [hl_12]; first | done | (simp; done) | (simp; omega)
                  conv => cbv
                  exact hQ (.fr 3 1 (rows cInt l_12)) (cCur code a23 s23) ⟨l_12, rfl, ⟨a23, s23, rfl, by omega, by omega⟩, (by first | omega | assumption | (simp; done) | (simp [*]; done) | (simp at *; omega))⟩   -- leaf 10
                · exact hQ (.fr 3 1 (rows cInt l_10)) (cCur code a21 s21) ⟨l_10, rfl, ⟨a21, s21, rfl, by omega, by omega⟩, (by first | omega | assumption | (simp; done) | (simp [*]; done) | (simp at *; omega))⟩   -- leaf 11
              · exact hQ (.fr 3 1 (rows cInt l_10)) (cCur code a20 s20) ⟨l_10, rfl, ⟨a20, s20, rfl, by omega, by omega⟩, (by first | omega | assumption | (simp; done) | (simp [*]; done) | (simp at *; omega))⟩   -- leaf 12
          · refine r_gtr m.sX (fun h11 => ?_) (fun h11 => ?_) <;> conv => cbv
            · refine r_mcall m.sX (cOne_ok code a19 s19 12 h (by omega) (by omega)) ?_
              rintro _ _ ⟨q19, rfl, ⟨a24, s24, rfl, ea24, fa24⟩⟩
              conv => cbv
              rcases Bool.eq_false_or_eq_true q19 with rfl | rfl <;> conv => cbv
              · refine r_mcall m.sX (cPick_ok code a24 s24 n h (by omega) (by omega)) ?_
                rintro _ _ ⟨q20, rfl, ⟨a25, s25, rfl, ea25, fa25⟩, bq20, cq20, dq20⟩
                conv => cbv
                refine r_mcall m.sX (cAmong_ok code a25 s25 ([500, -500, 501, -9223372036854775808]) (by simp) h (by omega) (by omega)) ?_
                rintro _ _ ⟨q21, rfl, ⟨a26, s26, rfl, ea26, fa26⟩, bq21⟩
                simp only [List.mem_cons, List.not_mem_nil, or_false] at bq21
                conv => cbv
                refine r_oindex m.sX (by omega) (by omega) ?_
                conv => cbv
                obtain ⟨y7, hy7⟩ := get_ex (xs := l_8) (i := Int.toNat q20) (by omega)
                refine r_ostore (l := Int.toNat q20) q21 m.sX hy7 (Nat.le_of_ble_eq_true rfl) rfl fun l_13 hl_13 => ?_   -- l_13 = l_8.set q20 q21
                have ll_13 : (l_13.length : Int) = l_8.length := by rw [hl_13]; first | done | (simp; done) | (simp; omega)
                conv => cbv
                exact hQ (.fr 3 1 (rows cInt l_13)) (cCur code a26 s26) ⟨l_13, rfl, ⟨a26, s26, rfl, by omega, by omega⟩, (by first | omega | assumption | (simp; done) | (simp [*]; done) | (simp at *; omega))⟩   -- leaf 13
              · exact hQ (.fr 3 1 (rows cInt l_8)) (cCur code a24 s24) ⟨l_8, rfl, ⟨a24, s24, rfl, by omega, by omega⟩, (by first | omega | assumption | (simp; done) | (simp [*]; done) | (simp at *; omega))⟩   -- leaf 14
            · exact hQ (.fr 3 1 (rows cInt l_8)) (cCur code a19 s19) ⟨l_8, rfl, ⟨a19, s19, rfl, by omega, by omega⟩, (by first | omega | assumption | (simp; done) | (simp [*]; done) | (simp at *; omega))⟩   -- leaf 15
        · refine r_gtr m.sX (fun h12 => ?_) (fun h12 => ?_) <;> conv => cbv
          · refine r_mcall m.sX (cOne_ok code a17 s17 12 h (by omega) (by omega)) ?_
            rintro _ _ ⟨q22, rfl, ⟨a27, s27, rfl, ea27, fa27⟩⟩
            conv => cbv
            rcases Bool.eq_false_or_eq_true q22 with rfl | rfl <;> conv => cbv
            · refine r_mcall m.sX (cPick_ok code a27 s27 n h (by omega) (by omega)) ?_
              rintro _ _ ⟨q23, rfl, ⟨a28, s28, rfl, ea28, fa28⟩, bq23, cq23, dq23⟩
              conv => cbv
              refine r_mcall m.sX (cAmong_ok code a28 s28 ([500, -500, 501, -9223372036854775808]) (by simp) h (by omega) (by omega)) ?_
              rintro _ _ ⟨q24, rfl, ⟨a29, s29, rfl, ea29, fa29⟩, bq24⟩
              simp only [List.mem_cons, List.not_mem_nil, or_false] at bq24
              conv => cbv
              refine r_oindex m.sX (by omega) (by omega) ?_
              conv => cbv
              obtain ⟨y8, hy8⟩ := get_ex (xs := l_8) (i := Int.toNat q23) (by omega)
              refine r_ostore (l := Int.toNat q23) q24 m.sX hy8 (Nat.le_of_ble_eq_true rfl) rfl fun l_14 hl_14 => ?_   -- l_14 = l_8.set q23 q24
              have ll_14 : (l_14.length : Int) = l_8.length := by rw [hl_14]; first | done | (simp; done) | (simp; omega)
              conv => cbv
              exact hQ (.fr 3 1 (rows cInt l_14)) (cCur code a29 s29) ⟨l_14, rfl, ⟨a29, s29, rfl, by omega, by omega⟩, (by first | omega | assumption | (simp; done) | (simp [*]; done) | (simp at *; omega))⟩   -- leaf 16
            · exact hQ (.fr 3 1 (rows cInt l_8)) (cCur code a27 s27) ⟨l_8, rfl, ⟨a27, s27, rfl, by omega, by omega⟩, (by first | omega | assumption | (simp; done) | (simp [*]; done) | (simp at *; omega))⟩   -- leaf 17
          · exact hQ (.fr 3 1 (rows cInt l_8)) (cCur code a17 s17) ⟨l_8, rfl, ⟨a17, s17, rfl, by omega, by omega⟩, (by first | omega | assumption | (simp; done) | (simp [*]; done) | (simp at *; omega))⟩   -- leaf 18

theorem cTrial_ex (code : List Int) (b0 t0 : Int) : ∃ r cs, (∃ (q : List Int), r = PV.fr 3 1 (rows cInt q) ∧ CurTo code b0 200 cs ∧ ((q.length : Int) ≤ 41)) :=
  ⟨_, _, [], rfl, ⟨b0, t0, rfl, by omega, by omega⟩, (by first | omega | simp)⟩

theorem cTolerance_ok (code : List Int) (b0 t0 : Int)  (h : CurIn code) (h0 : 0 ≤ b0) (hk : b0 ≤ 899999999999990000)  : OkM Try.prog 110 (cCur code b0 t0) [] (fun r cs => ∃ (q : Int), r = .int .i64 q ∧ CurTo code b0 10 cs) :=
  fnM_intro envOk fieldsOk mixed Try.func110 rfl fun κ X Y L Q m hQ => by
    conv => cbv
    refine r_mcall m.sX (cAmong_ok code b0 t0 ([500, -1, 501]) (by simp) h (by omega) (by omega)) ?_
    rintro _ _ ⟨q1, rfl, ⟨a1, s1, rfl, ea1, fa1⟩, bq1⟩
    simp only [List.mem_cons, List.not_mem_nil, or_false] at bq1
    conv => cbv
    refine r_mcall m.sX (cAmong_ok code a1 s1 ([0, 2, 3, 5, 7, q1]) (by simp) h (by omega) (by omega)) ?_
    rintro _ _ ⟨q2, rfl, ⟨a2, s2, rfl, ea2, fa2⟩, bq2⟩
    simp only [List.mem_cons, List.not_mem_nil, or_false] at bq2
    conv => cbv
    exact hQ (.int .i64 q2) (cCur code a2 s2) ⟨q2, rfl, ⟨a2, s2, rfl, by omega, by omega⟩⟩   -- leaf 1

theorem cTolerance_ex (code : List Int) (b0 t0 : Int) : ∃ r cs, (∃ (q : Int), r = PV.int .i64 q ∧ CurTo code b0 10 cs) :=
  ⟨_, _, 0, rfl, ⟨b0, t0, rfl, by omega, by omega⟩⟩

theorem cAim_ok (code : List Int) (b0 t0 : Int)  (h : CurIn code) (h0 : 0 ≤ b0) (hk : b0 ≤ 899999999999990000)  : OkM Try.prog 114 (cCur code b0 t0) [] (fun r cs => ∃ (q : Int), r = .int .i64 q ∧ CurTo code b0 10 cs) :=
  fnM_intro envOk fieldsOk mixed Try.func114 rfl fun κ X Y L Q m hQ => by
    conv => cbv
    refine r_mcall m.sX (cAmong_ok code b0 t0 ([500, -500, 501, -9223372036854775808]) (by simp) h (by omega) (by omega)) ?_
    rintro _ _ ⟨q1, rfl, ⟨a1, s1, rfl, ea1, fa1⟩, bq1⟩
    simp only [List.mem_cons, List.not_mem_nil, or_false] at bq1
    conv => cbv
    refine r_mcall m.sX (cAmong_ok code a1 s1 ([0, 0, 1, -2, 3, q1]) (by simp) h (by omega) (by omega)) ?_
    rintro _ _ ⟨q2, rfl, ⟨a2, s2, rfl, ea2, fa2⟩, bq2⟩
    simp only [List.mem_cons, List.not_mem_nil, or_false] at bq2
    conv => cbv
    exact hQ (.int .i64 q2) (cCur code a2 s2) ⟨q2, rfl, ⟨a2, s2, rfl, by omega, by omega⟩⟩   -- leaf 1

theorem cAim_ex (code : List Int) (b0 t0 : Int) : ∃ r cs, (∃ (q : Int), r = PV.int .i64 q ∧ CurTo code b0 10 cs) :=
  ⟨_, _, 0, rfl, ⟨b0, t0, rfl, by omega, by omega⟩⟩

theorem drawIsTrial_ok (code : List Int) (h : CurIn code) : OkA Try.prog 92 [.isl 1 (rows cU8 code)] (fun r => ∃ (q : List Int), r = .fr 3 1 (rows cInt q) ∧ ((q.length : Int) ≤ 41)) :=
  fn_intro envOk fieldsOk mixed Try.func92 rfl fun κ X Y L Q m hQ => by
    conv => cbv
    refine r_mcall m.sX (cTrial_ok code 0 0 h (by omega) (by omega)) ?_
    rintro _ _ ⟨q1, rfl, ⟨a1, s1, rfl, ea1, fa1⟩, bq1_1⟩
    conv => cbv
    exact hQ (.fr 3 1 (rows cInt q1)) ⟨q1, rfl, (by first | omega | assumption | (simp; done) | (simp [*]; done) | (simp at *; omega))⟩   -- leaf 1

theorem drawMeanOff_ok (code : List Int) (h : CurIn code) : OkA Try.prog 10 [.isl 1 (rows cU8 code)] (fun r => ∃ (q : List Int), r = .fr 3 1 (rows cInt q) ∧ ((q.length : Int) ≤ 41)) :=
  fn_intro envOk fieldsOk mixed Try.func10 rfl fun κ X Y L Q m hQ => by
    conv => cbv
    refine r_callE m.sX (drawIsTrial_ok code h) ?_
    rintro _ ⟨q1, rfl, bq1_1⟩
    conv => cbv
    exact hQ (.fr 3 1 (rows cInt q1)) ⟨q1, rfl, (by first | omega | assumption | (simp; done) | (simp [*]; done) | (simp at *; omega))⟩   -- leaf 1

theorem drawLeastTolerance_ok (code : List Int) (h : CurIn code) : OkA Try.prog 19 [.isl 1 (rows cU8 code)] (fun r => ∃ (q1 : List Int) (q2 : Int), r = .tup [.fr 3 1 (rows cInt q1), .int .i64 q2] ∧ ((q1.length : Int) ≤ 41)) :=
  fn_intro envOk fieldsOk mixed Try.func19 rfl fun κ X Y L Q m hQ => by
    conv => cbv
    refine r_mcall m.sX (cTrial_ok code 0 0 h (by omega) (by omega)) ?_
    rintro _ _ ⟨q1, rfl, ⟨a1, s1, rfl, ea1, fa1⟩, bq1_1⟩
    conv => cbv
    refine r_mcall m.sX (cAmong_ok code a1 s1 ([40, -1, 41]) (by simp) h (by omega) (by omega)) ?_
    rintro _ _ ⟨q2, rfl, ⟨a2, s2, rfl, ea2, fa2⟩, bq2⟩
    simp only [List.mem_cons, List.not_mem_nil, or_false] at bq2
    conv => cbv
    refine r_mcall m.sX (cAmong_ok code a2 s2 ([0, 1, 2, 3, q2]) (by simp) h (by omega) (by omega)) ?_
    rintro _ _ ⟨q3, rfl, ⟨a3, s3, rfl, ea3, fa3⟩, bq3⟩
    simp only [List.mem_cons, List.not_mem_nil, or_false] at bq3
    conv => cbv
    exact hQ (.tup [.fr 3 1 (rows cInt q1), .int .i64 q3]) ⟨q1, q3, rfl, (by first | omega | assumption | (simp; done) | (simp [*]; done) | (simp at *; omega))⟩   -- leaf 1

theorem drawOutsideOff_ok (code : List Int) (h : CurIn code) : OkA Try.prog 23 [.isl 1 (rows cU8 code)] (fun r => ∃ (q1 : List Int) (q2 : Int), r = .tup [.fr 3 1 (rows cInt q1), .int .i64 q2] ∧ ((q1.length : Int) ≤ 41)) :=
  fn_intro envOk fieldsOk mixed Try.func23 rfl fun κ X Y L Q m hQ => by
    conv => cbv
    refine r_mcall m.sX (cTrial_ok code 0 0 h (by omega) (by omega)) ?_
    rintro _ _ ⟨q1, rfl, ⟨a1, s1, rfl, ea1, fa1⟩, bq1_1⟩
    conv => cbv
    refine r_mcall m.sX (cTolerance_ok code a1 s1 h (by omega) (by omega)) ?_
    rintro _ _ ⟨q2, rfl, ⟨a2, s2, rfl, ea2, fa2⟩⟩
    conv => cbv
    exact hQ (.tup [.fr 3 1 (rows cInt q1), .int .i64 q2]) ⟨q1, q2, rfl, (by first | omega | assumption | (simp; done) | (simp [*]; done) | (simp at *; omega))⟩   -- leaf 1

theorem drawLongestDrift_ok (code : List Int) (h : CurIn code) : OkA Try.prog 29 [.isl 1 (rows cU8 code)] (fun r => ∃ (q : List Int), r = .fr 3 1 (rows cInt q) ∧ ((q.length : Int) ≤ 41)) :=
  fn_intro envOk fieldsOk mixed Try.func29 rfl fun κ X Y L Q m hQ => by
    conv => cbv
    refine r_callE m.sX (drawIsTrial_ok code h) ?_
    rintro _ ⟨q1, rfl, bq1_1⟩
    conv => cbv
    exact hQ (.fr 3 1 (rows cInt q1)) ⟨q1, rfl, (by first | omega | assumption | (simp; done) | (simp [*]; done) | (simp at *; omega))⟩   -- leaf 1

theorem drawFirstAlarm_ok (code : List Int) (h : CurIn code) : OkA Try.prog 34 [.isl 1 (rows cU8 code)] (fun r => ∃ (q1 : List Int) (q2 : Int) (q3 : Int), r = .tup [.fr 3 1 (rows cInt q1), .int .i64 q2, .int .i64 q3] ∧ ((q1.length : Int) ≤ 41)) :=
  fn_intro envOk fieldsOk mixed Try.func34 rfl fun κ X Y L Q m hQ => by
    conv => cbv
    refine r_mcall m.sX (cTrial_ok code 0 0 h (by omega) (by omega)) ?_
    rintro _ _ ⟨q1, rfl, ⟨a1, s1, rfl, ea1, fa1⟩, bq1_1⟩
    conv => cbv
    refine r_mcall m.sX (cAim_ok code a1 s1 h (by omega) (by omega)) ?_
    rintro _ _ ⟨q2, rfl, ⟨a2, s2, rfl, ea2, fa2⟩⟩
    conv => cbv
    refine r_mcall m.sX (cAmong_ok code a2 s2 ([20000, -1, 20001]) (by simp) h (by omega) (by omega)) ?_
    rintro _ _ ⟨q3, rfl, ⟨a3, s3, rfl, ea3, fa3⟩, bq3⟩
    simp only [List.mem_cons, List.not_mem_nil, or_false] at bq3
    conv => cbv
    refine r_mcall m.sX (cAmong_ok code a3 s3 ([0, 3, 8, 15, 30, q3]) (by simp) h (by omega) (by omega)) ?_
    rintro _ _ ⟨q4, rfl, ⟨a4, s4, rfl, ea4, fa4⟩, bq4⟩
    simp only [List.mem_cons, List.not_mem_nil, or_false] at bq4
    conv => cbv
    exact hQ (.tup [.fr 3 1 (rows cInt q1), .int .i64 q2, .int .i64 q4]) ⟨q1, q2, q4, rfl, (by first | omega | assumption | (simp; done) | (simp [*]; done) | (simp at *; omega))⟩   -- leaf 1

theorem drawJoinTrials_ok (code : List Int) (h : CurIn code) : OkA Try.prog 39 [.isl 1 (rows cU8 code)] (fun r => ∃ (q1 : List Int) (q2 : List Int), r = .tup [.fr 3 1 (rows cInt q1), .fr 3 1 (rows cInt q2)] ∧ ((q1.length : Int) ≤ 41) ∧ ((q2.length : Int) ≤ 41)) :=
  fn_intro envOk fieldsOk mixed Try.func39 rfl fun κ X Y L Q m hQ => by
    conv => cbv
    refine r_mcall m.sX (cTrial_ok code 0 0 h (by omega) (by omega)) ?_
    rintro _ _ ⟨q1, rfl, ⟨a1, s1, rfl, ea1, fa1⟩, bq1_1⟩
    conv => cbv
    refine r_mcall m.sX (cTrial_ok code a1 s1 h (by omega) (by omega)) ?_
    rintro _ _ ⟨q2, rfl, ⟨a2, s2, rfl, ea2, fa2⟩, bq2_1⟩
    conv => cbv
    exact hQ (.tup [.fr 3 1 (rows cInt q1), .fr 3 1 (rows cInt q2)]) ⟨q1, q2, rfl, (by first | omega | assumption | (simp; done) | (simp [*]; done) | (simp at *; omega)), (by first | omega | assumption | (simp; done) | (simp [*]; done) | (simp at *; omega))⟩   -- leaf 1

end Go.Proofs.Ytfnfjgdepilgkaa.Ai
