/- Contracts of what the laws on strikes draw. -/
import Derived.Test.YtnanackogloioaaStrike
import Derived.Test.YtnanackogloioaaAiIceM
namespace Go.Proofs.Ytnanackogloioaa.Ai
open Go Go.Proofs
set_option maxRecDepth 10000
set_option maxHeartbeats 4000000
set_option linter.unusedVariables false

theorem cStrike_ok (code : List Int) (b0 t0 : Int)  (h : CurIn code) (h0 : 0 ≤ b0) (hk : b0 ≤ 899999999999988000)  : OkM Try.prog 207 (cCur code b0 t0) [] (fun r cs => ∃ (q : Strike), r = .agg (cStrike q) ∧ CurTo code b0 12 cs) :=
  fnM_intro envOk fieldsOk mixed Try.func207 rfl fun κ X Y L Q m hQ => by
    conv => cbv
    refine r_mcall m.sX (cPick_ok code b0 t0 8 h (by omega) (by omega)) ?_
    rintro _ _ ⟨q1, rfl, ⟨a1, s1, rfl, ea1, fa1⟩, bq1, cq1, dq1⟩
    conv => cbv
    refine r_addf m.sX (by omega) (by omega) fun r1 hr1 => ?_
    conv => cbv
    refine r_mcall m.sX (cPick_ok code a1 s1 8 h (by omega) (by omega)) ?_
    rintro _ _ ⟨q2, rfl, ⟨a2, s2, rfl, ea2, fa2⟩, bq2, cq2, dq2⟩
    conv => cbv
    refine r_addf m.sX (by omega) (by omega) fun r2 hr2 => ?_
    conv => cbv
    refine r_mcall m.sX (cPick_ok code a2 s2 2 h (by omega) (by omega)) ?_
    rintro _ _ ⟨q3, rfl, ⟨a3, s3, rfl, ea3, fa3⟩, bq3, cq3, dq3⟩
    conv => cbv
    refine r_addf m.sX (by omega) (by omega) fun r3 hr3 => ?_
    conv => cbv
    refine r_mcall m.sX (cPick_ok code a3 s3 8 h (by omega) (by omega)) ?_
    rintro _ _ ⟨q4, rfl, ⟨a4, s4, rfl, ea4, fa4⟩, bq4, cq4, dq4⟩
    conv => cbv
    refine r_addf m.sX (by omega) (by omega) fun r4 hr4 => ?_
    conv => cbv
    refine r_mcall m.sX (cPick_ok code a4 s4 6 h (by omega) (by omega)) ?_
    rintro _ _ ⟨q5, rfl, ⟨a5, s5, rfl, ea5, fa5⟩, bq5, cq5, dq5⟩
    conv => cbv
    refine r_addf m.sX (by omega) (by omega) fun r5 hr5 => ?_
    conv => cbv
    exact hQ (.agg [.int .i64 r1, .int .i64 r2, .int .i64 r3, .int .i64 r4, .int .i64 r5]) (cCur code a5 s5) ⟨(r1, r2, r3, r4, r5), rfl, ⟨a5, s5, rfl, by omega, by omega⟩⟩   -- leaf 1

theorem cStrike_ex (code : List Int) (b0 t0 : Int) : ∃ r cs, (∃ (q : Strike), r = PV.agg (cStrike q) ∧ CurTo code b0 12 cs) :=
  ⟨_, _, (0, 0, 0, 0, 0), rfl, ⟨b0, t0, rfl, by omega, by omega⟩⟩

theorem cAnyStrike_ok (code : List Int) (b0 t0 : Int)  (h : CurIn code) (h0 : 0 ≤ b0) (hk : b0 ≤ 899999999999960000)  : OkM Try.prog 125 (cCur code b0 t0) [] (fun r cs => ∃ (q : Strike), r = .agg (cStrike q) ∧ CurTo code b0 40 cs) :=
  fnM_intro envOk fieldsOk mixed Try.func125 rfl fun κ X Y L Q m hQ => by
    conv => cbv
    refine r_mcall m.sX (cStrike_ok code b0 t0 h (by omega) (by omega)) ?_
    rintro _ _ ⟨⟨s_A, s_B, s_C, s_D, s_E⟩, rfl, ⟨a1, s1, rfl, ea1, fa1⟩⟩
    conv => cbv
    refine r_mcall m.sX (cOne_ok code a1 s1 8 h (by omega) (by omega)) ?_
    rintro _ _ ⟨q1, rfl, ⟨a2, s2, rfl, ea2, fa2⟩⟩
    conv => cbv
    rcases Bool.eq_false_or_eq_true q1 with rfl | rfl <;> conv => cbv
    · refine r_callF (fun l => PV.fr _ _ (rows _ l)) m.sX (maParts_ok (s_A, s_B, s_C, s_D, s_E)) fun parts hparts => ?_
      conv => cbv
      try dsimp only at hparts
      have lp : parts.length = 5 := by rw [hparts]; rfl
      refine r_mcall m.sX (cPick_ok code a2 s2 5 h (by omega) (by omega)) ?_
      rintro _ _ ⟨q2, rfl, ⟨a3, s3, rfl, ea3, fa3⟩, bq2, cq2, dq2⟩
      conv => cbv
      refine r_mcall m.sX (cAmong_ok code a3 s3 ([1, 999, 0, 1000, -9223372036854775808]) (by simp) h (by omega) (by omega)) ?_
      rintro _ _ ⟨q3, rfl, ⟨a4, s4, rfl, ea4, fa4⟩, bq3⟩
      simp only [List.mem_cons, List.not_mem_nil, or_false] at bq3
      conv => cbv
      refine r_oindex m.sX (by omega) (by omega) ?_
      conv => cbv
      obtain ⟨y1, hy1⟩ := get_ex (xs := parts) (i := Int.toNat q2) (by omega)
      refine r_ostore (l := Int.toNat q2) q3 m.sX hy1 (Nat.le_of_ble_eq_true rfl) rfl fun zs1 hzs1 => ?_   -- zs1 = parts.set q2 q3
      have lzs1 : (zs1.length : Int) = parts.length := by rw [hzs1]; first | done | (simp; done) | (simp; omega)
      conv => cbv
      refine .inl (r_callFO strPV m.sX ((maOf_ok zs1 (by first | rfl | assumption | omega | (simp only [List.length_append, List.length_cons, List.length_nil] at *; omega))).ok flat_strPV) fun v hs__2A => ?_)
      obtain ⟨s__2A, s__2B, s__2C, s__2D, s__2E⟩ := v
      conv => cbv
      try dsimp only at hs__2
      have hs__2 := hs__2A
      exact hQ (.agg [.int .i64 s__2A, .int .i64 s__2B, .int .i64 s__2C, .int .i64 s__2D, .int .i64 s__2E]) (cCur code a4 s4) ⟨(s__2A, s__2B, s__2C, s__2D, s__2E), rfl, ⟨a4, s4, rfl, by omega, by omega⟩⟩   -- leaf 1
    · exact hQ (.agg [.int .i64 s_A, .int .i64 s_B, .int .i64 s_C, .int .i64 s_D, .int .i64 s_E]) (cCur code a2 s2) ⟨(s_A, s_B, s_C, s_D, s_E), rfl, ⟨a2, s2, rfl, by omega, by omega⟩⟩   -- leaf 2

theorem cAnyStrike_ex (code : List Int) (b0 t0 : Int) : ∃ r cs, (∃ (q : Strike), r = PV.agg (cStrike q) ∧ CurTo code b0 40 cs) :=
  ⟨_, _, (0, 0, 0, 0, 0), rfl, ⟨b0, t0, rfl, by omega, by omega⟩⟩

theorem cStrikes_ok (code : List Int) (b0 t0 : Int)  (h : CurIn code) (h0 : 0 ≤ b0) (hk : b0 ≤ 899999999997000000)  : OkM Try.prog 116 (cCur code b0 t0) [] (fun r cs => ∃ (q : List Strike), r = .fr 43 5 (rows cStrike q) ∧ CurTo code b0 3000 cs ∧ (q.length ≤ 31)) :=
  fnM_intro envOk fieldsOk mixed Try.func116 rfl fun κ X Y L Q m hQ => by
    conv => cbv
    refine r_mcall m.sX (cPick_ok code b0 t0 6 h (by omega) (by omega)) ?_
    rintro _ _ ⟨n, rfl, ⟨a1, s1, rfl, ea1, fa1⟩, bn, cn, dn⟩
    conv => cbv
    refine r_mcall m.sX (cOne_ok code a1 s1 12 h (by omega) (by omega)) ?_
    rintro _ _ ⟨q1, rfl, ⟨a2, s2, rfl, ea2, fa2⟩⟩
    conv => cbv
    rcases Bool.eq_false_or_eq_true q1 with rfl | rfl <;> conv => cbv
    · refine r_mcall m.sX (cPick_ok code a2 s2 2 h (by omega) (by omega)) ?_
      rintro _ _ ⟨q2, rfl, ⟨a3, s3, rfl, ea3, fa3⟩, bq2, cq2, dq2⟩
      conv => cbv
      refine r_addf m.sX (by omega) (by omega) fun n_2 hn_2 => ?_
      conv => cbv
      refine r_loopF (α := Int × Int × List Strike) m 41 [4] [⟨0, 1, 0, 0, 0⟩, ⟨3, 25, 43, 5, 0⟩] (fun σ => [(0, .optr 1 0 0 0 0), (3, .osl 25 0), (4, .int .i64 n_2)]) (fun σ => [(1, 0, .box (cCur code σ.1 σ.2.1)), (25, 0, .row 43 5 (rows cStrike σ.2.2))])
        (fun σ => ((σ.2.2.length : Int) ≤ n_2) ∧ (a3 ≤ σ.1 ∧ σ.1 ≤ a3 + 41 * (σ.2.2.length : Int))) (fun σ => (n_2 - (σ.2.2.length : Int)).toNat) (a3, s3, []) ?_ ?_ ?_ ?_
      · cbv
      · (try dsimp only); simp only [rows_cons, rows_nil]; cbv
      · exact ⟨(by (try dsimp only); first | omega | (simp only [List.length_nil]; omega)), (by (try dsimp only); first | omega | (simp only [List.length_nil]; omega))⟩
      rintro ⟨a4, s4, l⟩ ⟨ll1, cl1⟩ E hE F hF
      dsimp only at ll1 cl1
      conv => cbv
      refine r_lenR m.sX fun n1 hn1 mn1 => ?_
      conv => cbv
      refine r_lss m.sX (fun h1 => ?_) (fun h1 => ?_) <;> conv => cbv
      · refine r_mcall m.sX (cStrike_ok code a4 s4 h (by omega) (by omega)) ?_
        rintro _ _ ⟨⟨s_A, s_B, s_C, s_D, s_E⟩, rfl, ⟨a5, s5, rfl, ea5, fa5⟩⟩
        conv => cbv
        refine r_mcall m.sX (cOne_ok code a5 s5 12 h (by omega) (by omega)) ?_
        rintro _ _ ⟨q3, rfl, ⟨a6, s6, rfl, ea6, fa6⟩⟩
        conv => cbv
        rcases Bool.eq_false_or_eq_true q3 with rfl | rfl <;> conv => cbv
        · refine r_append1 ((s_A, s_B, s_C, s_D, s_E)) m.sX rfl (by first | omega | (dsimp only; omega)) (by first | omega | (dsimp only; omega)) fun l_2 hl_2 => ?_
          conv => cbv
          have ll_2 : (l_2.length : Int) = l.length + 1 := by rw [hl_2]; first | done | (simp; done) | (simp; omega)
          refine hE _ (a6, s6, l_2) ?_ ?_ ⟨(by (try dsimp only); first | omega | (simp only [List.length_nil]; omega)), (by (try dsimp only); first | omega | (simp only [List.length_nil]; omega))⟩ (by first | omega | (dsimp only; omega))
          · cbv
          · cbv
        · refine r_append1 ((s_A, s_B, 200, s_D, s_E)) m.sX rfl (by first | omega | (dsimp only; omega)) (by first | omega | (dsimp only; omega)) fun l_3 hl_3 => ?_
          conv => cbv
          have ll_3 : (l_3.length : Int) = l.length + 1 := by rw [hl_3]; first | done | (simp; done) | (simp; omega)
          refine hE _ (a6, s6, l_3) ?_ ?_ ⟨(by (try dsimp only); first | omega | (simp only [List.length_nil]; omega)), (by (try dsimp only); first | omega | (simp only [List.length_nil]; omega))⟩ (by first | omega | (dsimp only; omega))
          · cbv
          · cbv
      · refine hF _ _ ?_
        conv => cbv
        refine r_gtr m.sX (fun h2 => ?_) (fun h2 => ?_) <;> conv => cbv
        · refine r_mcall m.sX (cOne_ok code a4 s4 16 h (by omega) (by omega)) ?_
          rintro _ _ ⟨q4, rfl, ⟨a7, s7, rfl, ea7, fa7⟩⟩
          conv => cbv
          rcases Bool.eq_false_or_eq_true q4 with rfl | rfl <;> conv => cbv
          · refine r_mcall m.sX (cPick_ok code a7 s7 n_2 h (by omega) (by omega)) ?_
            rintro _ _ ⟨q5, rfl, ⟨a8, s8, rfl, ea8, fa8⟩, bq5, cq5, dq5⟩
            conv => cbv
            refine r_mcall m.sX (cAnyStrike_ok code a8 s8 h (by omega) (by omega)) ?_
            rintro _ _ ⟨⟨q6A, q6B, q6C, q6D, q6E⟩, rfl, ⟨a9, s9, rfl, ea9, fa9⟩⟩
            conv => cbv
            refine r_oindex m.sX (by omega) (by omega) ?_
            conv => cbv
            obtain ⟨⟨y1A, y1B, y1C, y1D, y1E⟩, hy1⟩ := get_ex (xs := l) (i := Int.toNat q5) (by omega)
            refine r_ostore (l := Int.toNat q5) (q6A, q6B, q6C, q6D, q6E) m.sX hy1 (Nat.le_of_ble_eq_true rfl) rfl fun l_4 hl_4 => ?_   -- l_4 = l.set q5 (q6A, q6B, q6C, q6D, q6E)
            have ll_4 : (l_4.length : Int) = l.length := by rw [hl_4]; first | done | (simp; done) | (simp; omega)
            conv => cbv
            exact hQ (.fr 43 5 (rows cStrike l_4)) (cCur code a9 s9) ⟨l_4, rfl, ⟨a9, s9, rfl, by omega, by omega⟩, (by first | omega | assumption | (simp; done) | (simp [*]; done) | (simp at *; omega))⟩   -- leaf 1
          · exact hQ (.fr 43 5 (rows cStrike l)) (cCur code a7 s7) ⟨l, rfl, ⟨a7, s7, rfl, by omega, by omega⟩, (by first | omega | assumption | (simp; done) | (simp [*]; done) | (simp at *; omega))⟩   -- leaf 2
        · exact hQ (.fr 43 5 (rows cStrike l)) (cCur code a4 s4) ⟨l, rfl, ⟨a4, s4, rfl, by omega, by omega⟩, (by first | omega | assumption | (simp; done) | (simp [*]; done) | (simp at *; omega))⟩   -- leaf 3
    · refine r_loopF (α := Int × Int × List Strike) m 41 [4] [⟨0, 1, 0, 0, 0⟩, ⟨3, 25, 43, 5, 0⟩] (fun σ => [(0, .optr 1 0 0 0 0), (3, .osl 25 0), (4, .int .i64 n)]) (fun σ => [(1, 0, .box (cCur code σ.1 σ.2.1)), (25, 0, .row 43 5 (rows cStrike σ.2.2))])
        (fun σ => ((σ.2.2.length : Int) ≤ n) ∧ (a2 ≤ σ.1 ∧ σ.1 ≤ a2 + 41 * (σ.2.2.length : Int))) (fun σ => (n - (σ.2.2.length : Int)).toNat) (a2, s2, []) ?_ ?_ ?_ ?_
      · cbv
      · (try dsimp only); simp only [rows_cons, rows_nil]; cbv
      · exact ⟨(by (try dsimp only); first | omega | (simp only [List.length_nil]; omega)), (by (try dsimp only); first | omega | (simp only [List.length_nil]; omega))⟩
      rintro ⟨a10, s10, l_5⟩ ⟨ll2, cl2⟩ E hE F hF
      dsimp only at ll2 cl2
      conv => cbv
      refine r_lenR m.sX fun n2 hn2 mn2 => ?_
      conv => cbv
      refine r_lss m.sX (fun h3 => ?_) (fun h3 => ?_) <;> conv => cbv
      · refine r_mcall m.sX (cStrike_ok code a10 s10 h (by omega) (by omega)) ?_
        rintro _ _ ⟨⟨s__2A, s__2B, s__2C, s__2D, s__2E⟩, rfl, ⟨a11, s11, rfl, ea11, fa11⟩⟩
        conv => cbv
        refine r_mcall m.sX (cOne_ok code a11 s11 12 h (by omega) (by omega)) ?_
        rintro _ _ ⟨q7, rfl, ⟨a12, s12, rfl, ea12, fa12⟩⟩
        conv => cbv
        rcases Bool.eq_false_or_eq_true q7 with rfl | rfl <;> conv => cbv
        · refine r_append1 ((s__2A, s__2B, s__2C, s__2D, s__2E)) m.sX rfl (by first | omega | (dsimp only; omega)) (by first | omega | (dsimp only; omega)) fun l_6 hl_6 => ?_
          conv => cbv
          have ll_6 : (l_6.length : Int) = l_5.length + 1 := by rw [hl_6]; first | done | (simp; done) | (simp; omega)
          refine hE _ (a12, s12, l_6) ?_ ?_ ⟨(by (try dsimp only); first | omega | (simp only [List.length_nil]; omega)), (by (try dsimp only); first | omega | (simp only [List.length_nil]; omega))⟩ (by first | omega | (dsimp only; omega))
          · cbv
          · cbv
        · refine r_append1 ((s__2A, s__2B, 200, s__2D, s__2E)) m.sX rfl (by first | omega | (dsimp only; omega)) (by first | omega | (dsimp only; omega)) fun l_7 hl_7 => ?_
          conv => cbv
          have ll_7 : (l_7.length : Int) = l_5.length + 1 := by rw [hl_7]; first | done | (simp; done) | (simp; omega)
          refine hE _ (a12, s12, l_7) ?_ ?_ ⟨(by (try dsimp only); first | omega | (simp only [List.length_nil]; omega)), (by (try dsimp only); first | omega | (simp only [List.length_nil]; omega))⟩ (by first | omega | (dsimp only; omega))
          · cbv
          · cbv
      · refine hF _ _ ?_
        conv => cbv
        refine r_gtr m.sX (fun h4 => ?_) (fun h4 => ?_) <;> conv => cbv
        · refine r_mcall m.sX (cOne_ok code a10 s10 16 h (by omega) (by omega)) ?_
          rintro _ _ ⟨q8, rfl, ⟨a13, s13, rfl, ea13, fa13⟩⟩
          conv => cbv
          rcases Bool.eq_false_or_eq_true q8 with rfl | rfl <;> conv => cbv
          · refine r_mcall m.sX (cPick_ok code a13 s13 n h (by omega) (by omega)) ?_
            rintro _ _ ⟨q9, rfl, ⟨a14, s14, rfl, ea14, fa14⟩, bq9, cq9, dq9⟩
            conv => cbv
            refine r_mcall m.sX (cAnyStrike_ok code a14 s14 h (by omega) (by omega)) ?_
            rintro _ _ ⟨⟨q10A, q10B, q10C, q10D, q10E⟩, rfl, ⟨a15, s15, rfl, ea15, fa15⟩⟩
            conv => cbv
            refine r_oindex m.sX (by omega) (by omega) ?_
            conv => cbv
            obtain ⟨⟨y2A, y2B, y2C, y2D, y2E⟩, hy2⟩ := get_ex (xs := l_5) (i := Int.toNat q9) (by omega)
            refine r_ostore (l := Int.toNat q9) (q10A, q10B, q10C, q10D, q10E) m.sX hy2 (Nat.le_of_ble_eq_true rfl) rfl fun l_8 hl_8 => ?_   -- l_8 = l_5.set q9 (q10A, q10B, q10C, q10D, q10E)
            have ll_8 : (l_8.length : Int) = l_5.length := by rw [hl_8]; first | done | (simp; done) | (simp; omega)
            conv => cbv
            exact hQ (.fr 43 5 (rows cStrike l_8)) (cCur code a15 s15) ⟨l_8, rfl, ⟨a15, s15, rfl, by omega, by omega⟩, (by first | omega | assumption | (simp; done) | (simp [*]; done) | (simp at *; omega))⟩   -- leaf 4
          · exact hQ (.fr 43 5 (rows cStrike l_5)) (cCur code a13 s13) ⟨l_5, rfl, ⟨a13, s13, rfl, by omega, by omega⟩, (by first | omega | assumption | (simp; done) | (simp [*]; done) | (simp at *; omega))⟩   -- leaf 5
        · exact hQ (.fr 43 5 (rows cStrike l_5)) (cCur code a10 s10) ⟨l_5, rfl, ⟨a10, s10, rfl, by omega, by omega⟩, (by first | omega | assumption | (simp; done) | (simp [*]; done) | (simp at *; omega))⟩   -- leaf 6

theorem cStrikes_ex (code : List Int) (b0 t0 : Int) : ∃ r cs, (∃ (q : List Strike), r = PV.fr 43 5 (rows cStrike q) ∧ CurTo code b0 3000 cs ∧ (q.length ≤ 31)) :=
  ⟨_, _, [], rfl, ⟨b0, t0, rfl, by omega, by omega⟩, (by first | omega | simp)⟩

theorem drawStandardFor_ok (code : List Int) (h : CurIn code) : OkA Try.prog 21 [.isl 1 (rows cU8 code)] (fun r => ∃ (q : List Strike), r = .fr 43 5 (rows cStrike q) ∧ (q.length ≤ 31)) :=
  fn_intro envOk fieldsOk mixed Try.func21 rfl fun κ X Y L Q m hQ => by
    conv => cbv
    refine r_mcall m.sX (cStrikes_ok code 0 0 h (by omega) (by omega)) ?_
    rintro _ _ ⟨q1, rfl, ⟨a1, s1, rfl, ea1, fa1⟩, bq1_1⟩
    conv => cbv
    exact hQ (.fr 43 5 (rows cStrike q1)) ⟨q1, rfl, (by first | omega | assumption | (simp; done) | (simp [*]; done) | (simp at *; omega))⟩   -- leaf 1

theorem drawLeastFiled_ok (code : List Int) (h : CurIn code) : OkA Try.prog 25 [.isl 1 (rows cU8 code)] (fun r => ∃ (q1 : List Strike) (q2 : Strike), r = .tup [.fr 43 5 (rows cStrike q1), .agg (cStrike q2)] ∧ (q1.length ≤ 31)) :=
  fn_intro envOk fieldsOk mixed Try.func25 rfl fun κ X Y L Q m hQ => by
    conv => cbv
    refine r_mcall m.sX (cStrikes_ok code 0 0 h (by omega) (by omega)) ?_
    rintro _ _ ⟨l, rfl, ⟨a1, s1, rfl, ea1, fa1⟩, bl_1⟩
    conv => cbv
    refine .inl (r_callFO stdPV m.sX ((specStandardFor_ok l).ok flat_stdPV) fun v hs_A => ?_)
    obtain ⟨⟨s_A, s_B, s_C, s_D, s_E⟩, ok⟩ := v
    conv => cbv
    try dsimp only at hs_
    have hs_ := hs_A
    rcases Bool.eq_false_or_eq_true ok with rfl | rfl <;> conv => cbv
    · have sb := okStr_spec (std_ok hs_A).2.2.1
      try dsimp only at sb
      refine r_mcall m.sX (cOne_ok code a1 s1 2 h (by omega) (by omega)) ?_
      rintro _ _ ⟨q1, rfl, ⟨a2, s2, rfl, ea2, fa2⟩⟩
      conv => cbv
      rcases Bool.eq_false_or_eq_true q1 with rfl | rfl <;> conv => cbv
      · refine r_draw m (by kernel_rfl) ?_
        conv => cbv
        refine r_mcallS m.sY (cPick_ok code a2 s2 4 h (by omega) (by omega)) (cPick_ex code a2 s2 4) (by rintro _ _ ⟨_, rfl, _⟩; first | trivial | (intro x hx; simp at hx; rcases hx with rfl | rfl | rfl <;> trivial)) ?_
        rintro _ _ ⟨q2, rfl, ⟨a3, s3, rfl, ea3, fa3⟩, bq2, cq2, dq2⟩
        conv => cbv
        refine r_addf m.sY (by omega) (by omega) fun r1 hr1 => ?_
        conv => cbv
        refine r_draw m (by kernel_rfl) ?_
        conv => cbv
        exact hQ (.tup [.fr 43 5 (rows cStrike l), .agg [.int .i64 s_A, .int .i64 s_B, .int .i64 s_C, .int .i64 s_D, .int .i64 r1]]) ⟨l, (s_A, s_B, s_C, s_D, r1), rfl, (by first | omega | assumption | (simp; done) | (simp [*]; done) | (simp at *; omega))⟩   -- leaf 1
      · refine r_mcall m.sX (cAnyStrike_ok code a2 s2 h (by omega) (by omega)) ?_
        rintro _ _ ⟨⟨q3A, q3B, q3C, q3D, q3E⟩, rfl, ⟨a4, s4, rfl, ea4, fa4⟩⟩
        conv => cbv
        exact hQ (.tup [.fr 43 5 (rows cStrike l), .agg [.int .i64 q3A, .int .i64 q3B, .int .i64 q3C, .int .i64 q3D, .int .i64 q3E]]) ⟨l, (q3A, q3B, q3C, q3D, q3E), rfl, (by first | omega | assumption | (simp; done) | (simp [*]; done) | (simp at *; omega))⟩   -- leaf 2
    · refine r_mcall m.sX (cAnyStrike_ok code a1 s1 h (by omega) (by omega)) ?_
      rintro _ _ ⟨⟨q4A, q4B, q4C, q4D, q4E⟩, rfl, ⟨a5, s5, rfl, ea5, fa5⟩⟩
      conv => cbv
      exact hQ (.tup [.fr 43 5 (rows cStrike l), .agg [.int .i64 q4A, .int .i64 q4B, .int .i64 q4C, .int .i64 q4D, .int .i64 q4E]]) ⟨l, (q4A, q4B, q4C, q4D, q4E), rfl, (by first | omega | assumption | (simp; done) | (simp [*]; done) | (simp at *; omega))⟩   -- leaf 3

theorem drawOffStandard_ok (code : List Int) (h : CurIn code) : OkA Try.prog 32 [.isl 1 (rows cU8 code)] (fun r => ∃ (q1 : List Strike) (q2 : Strike) (q3 : Int), r = .tup [.fr 43 5 (rows cStrike q1), .agg (cStrike q2), .int .i64 q3] ∧ (q1.length ≤ 31)) :=
  fn_intro envOk fieldsOk mixed Try.func32 rfl fun κ X Y L Q m hQ => by
    conv => cbv
    refine r_mcall m.sX (cStrikes_ok code 0 0 h (by omega) (by omega)) ?_
    rintro _ _ ⟨q1, rfl, ⟨a1, s1, rfl, ea1, fa1⟩, bq1_1⟩
    conv => cbv
    refine r_mcall m.sX (cAnyStrike_ok code a1 s1 h (by omega) (by omega)) ?_
    rintro _ _ ⟨⟨q2A, q2B, q2C, q2D, q2E⟩, rfl, ⟨a2, s2, rfl, ea2, fa2⟩⟩
    conv => cbv
    refine r_mcall m.sX (cAmong_ok code a2 s2 ([999, -1, 1000]) (by simp) h (by omega) (by omega)) ?_
    rintro _ _ ⟨q3, rfl, ⟨a3, s3, rfl, ea3, fa3⟩, bq3⟩
    simp only [List.mem_cons, List.not_mem_nil, or_false] at bq3
    conv => cbv
    refine r_mcall m.sX (cAmong_ok code a3 s3 ([0, 3, 5, 8, q3]) (by simp) h (by omega) (by omega)) ?_
    rintro _ _ ⟨q4, rfl, ⟨a4, s4, rfl, ea4, fa4⟩, bq4⟩
    simp only [List.mem_cons, List.not_mem_nil, or_false] at bq4
    conv => cbv
    exact hQ (.tup [.fr 43 5 (rows cStrike q1), .agg [.int .i64 q2A, .int .i64 q2B, .int .i64 q2C, .int .i64 q2D, .int .i64 q2E], .int .i64 q4]) ⟨q1, (q2A, q2B, q2C, q2D, q2E), q4, rfl, (by first | omega | assumption | (simp; done) | (simp [*]; done) | (simp at *; omega))⟩   -- leaf 1

end Go.Proofs.Ytnanackogloioaa.Ai
