/- Contracts of what FnCopies draws: copies. -/
import Derived.Test.YtifkjlpkhfldoaaCopyDraw
namespace Go.Proofs.Ytifkjlpkhfldoaa.Ai
open Go Go.Proofs
set_option maxRecDepth 10000
set_option maxHeartbeats 4000000
set_option linter.unusedVariables false
theorem cCopyOf_ok (code : List Int) (b0 t0 : Int) (l : List (List (List UInt8))) (h : CurIn code) (h0 : 0 ≤ b0) (hk : b0 ≤ 899999999998000000) (hl : (l.length : Int) ≤ 7) (hw : ∀ p ∈ l, p.length ≤ 14) : OkM Try.prog 100 (cCur code b0 t0) [.isl 1 (rows (cSl 1 cStr) l)] (fun r cs => ∃ (q : List (List UInt8)), r = .isl 1 (rows cStr q) ∧ CurTo code b0 2000 cs ∧ ((q.length : Int) ≤ 14)) :=
  OkM.iceR (fnM_intro envOk fieldsOk mixed Try.func100 rfl fun κ X Y L Q m hQ => by
    conv => cbv
    refine r_lenR m.sX fun n1 hn1 mn1 => ?_
    conv => cbv
    refine r_eql m.sX (fun h1 => ?_) (fun h1 => ?_) <;> conv => cbv
    · refine r_mcall m.sX (cProof_ok code b0 t0 h (by omega) (by omega)) ?_
      rintro _ _ ⟨q1, rfl, ⟨a1, s1, rfl, ea1, fa1⟩, bq1_1⟩
      conv => cbv
      exact hQ (.isl 1 (rows cStr q1)) (cCur code a1 s1) ⟨q1, rfl, ⟨a1, s1, rfl, by omega, by omega⟩, (by first | omega | assumption | (simp; done) | (simp [*]; done) | (simp at *; omega))⟩   -- leaf 1
    · refine r_mcall m.sX (cOne_ok code b0 t0 8 h (by omega) (by omega)) ?_
      rintro _ _ ⟨q2, rfl, ⟨a2, s2, rfl, ea2, fa2⟩⟩
      conv => cbv
      rcases Bool.eq_false_or_eq_true q2 with rfl | rfl <;> conv => cbv
      · refine r_mcall m.sX (cProof_ok code a2 s2 h (by omega) (by omega)) ?_
        rintro _ _ ⟨q3, rfl, ⟨a3, s3, rfl, ea3, fa3⟩, bq3_1⟩
        conv => cbv
        exact hQ (.isl 1 (rows cStr q3)) (cCur code a3 s3) ⟨q3, rfl, ⟨a3, s3, rfl, by omega, by omega⟩, (by first | omega | assumption | (simp; done) | (simp [*]; done) | (simp at *; omega))⟩   -- leaf 2
      · refine r_lenR m.sX fun n2 hn2 mn2 => ?_
        conv => cbv
        refine r_mcall m.sX (cPick_ok code a2 s2 n2 h (by omega) (by omega)) ?_
        rintro _ _ ⟨q4, rfl, ⟨a4, s4, rfl, ea4, fa4⟩, bq4, cq4, dq4⟩
        conv => cbv
        refine r_index m.sX (by omega) (by omega) fun x1 hx1 => ?_
        conv => cbv
        have mx1 := get_mem hx1
        have px := hw x1 mx1
        refine r_append0R m.sX (by first | omega | (dsimp only; omega)) (by first | omega | (dsimp only; omega)) fun lines hlines => ?_
        conv => cbv
        have llines : (lines.length : Int) = x1.length := by rw [hlines]; first | done | (simp; done) | (simp; omega)
        refine r_mcall m.sX (cOne_ok code a4 s4 2 h (by omega) (by omega)) ?_
        rintro _ _ ⟨q5, rfl, ⟨a5, s5, rfl, ea5, fa5⟩⟩
        conv => cbv
        rcases Bool.eq_false_or_eq_true q5 with rfl | rfl <;> conv => cbv
        · refine r_lenR m.sX fun n3 hn3 mn3 => ?_
          conv => cbv
          refine r_loopF (α := Int × Int × List (List UInt8) × Int) m 68 [1, 29, 30] [⟨0, 1, 0, 0, 0⟩, ⟨5, 41, 9, 1, 0⟩] (fun σ => [(0, .optr 1 0 0 0 0), (1, .isl 1 (rows (cSl 1 cStr) l)), (5, .osl 41 0), (29, .int .i64 n3), (30, .int .i64 σ.2.2.2)]) (fun σ => [(1, 0, .box (cCur code σ.1 σ.2.1)), (41, 0, .row 9 1 (rows cStr σ.2.2.1))])
            (fun σ => (0 ≤ σ.2.2.2) ∧ (σ.2.2.2 ≤ n3) ∧ (a5 ≤ σ.1 ∧ σ.1 ≤ a5 + 2 * σ.2.2.2) ∧ ((σ.2.2.1.length : Int) = n3)) (fun σ => (n3 - σ.2.2.2).toNat) (a5, s5, lines, 0) ?_ ?_ ?_ ?_
          · cbv
          · cbv
          · exact ⟨(by (try dsimp only); first | omega | (simp only [List.length_nil]; omega) | (simp only [List.length_cons, List.length_nil]; omega)), (by (try dsimp only); first | omega | (simp only [List.length_nil]; omega) | (simp only [List.length_cons, List.length_nil]; omega)), (by (try dsimp only); first | omega | (simp only [List.length_nil]; omega) | (simp only [List.length_cons, List.length_nil]; omega)), (by (try dsimp only) <;> first | omega | rfl | (simp [*]; done))⟩
          rintro ⟨a6, s6, lines_2, i1⟩ ⟨lo1, hi1, cl1, lq⟩ E hE F hF
          dsimp only at lo1 hi1 cl1 lq
          conv => cbv
          refine r_lss m.sX (fun h2 => ?_) (fun h2 => ?_) <;> conv => cbv
          · refine r_lenR m.sX fun n4 hn4 mn4 => ?_
            conv => cbv
            refine r_mcall m.sX (cPick_ok code a6 s6 n4 h (by omega) (by omega)) ?_
            rintro _ _ ⟨q6, rfl, ⟨a7, s7, rfl, ea7, fa7⟩, bq6, cq6, dq6⟩
            conv => cbv
            refine r_index m.sX (by omega) (by omega) fun other hother => ?_
            conv => cbv
            have mother := get_mem hother
            refine r_lenR m.sX fun n5 hn5 mn5 => ?_
            conv => cbv
            refine r_lss m.sX (fun h3 => ?_) (fun h3 => ?_) <;> conv => cbv
            · refine r_index m.sX (by omega) (by omega) fun x2 hx2 => ?_
              conv => cbv
              have mx2 := get_mem hx2
              have dx2 := drop_cons hx2
              have kx2 := take_snoc hx2
              have jx2 : (i1 + 1).toNat = Int.toNat i1 + 1 := by omega
              refine r_oindex m.sX (by omega) (by omega) ?_
              conv => cbv
              obtain ⟨y1, hy1⟩ := get_ex (xs := lines_2) (i := Int.toNat i1) (by omega)
              refine r_ostore (l := Int.toNat i1) x2 m.sX hy1 (Nat.le_of_ble_eq_true rfl) rfl fun lines_3 hlines_3 => ?_   -- lines_3 = lines_2.set i1 x2
              have llines_3 : (lines_3.length : Int) = lines_2.length := by rw [hlines_3]; first | done | (simp; done) | (simp; omega)
              conv => cbv
              refine r_addf m.sX (by omega) (by omega) fun r1 hr1 => ?_
              conv => cbv
              try have tr1 : Int.toNat r1 = Int.toNat i1 + 1 := by omega
              refine hE _ (a7, s7, lines_3, r1) ?_ ?_ ⟨(by (try dsimp only); first | omega | (simp only [List.length_nil]; omega) | (simp only [List.length_cons, List.length_nil]; omega)), (by (try dsimp only); first | omega | (simp only [List.length_nil]; omega) | (simp only [List.length_cons, List.length_nil]; omega)), (by (try dsimp only); first | omega | (simp only [List.length_nil]; omega) | (simp only [List.length_cons, List.length_nil]; omega)), (by (try dsimp only) <;> first | omega | rfl | (simp [*]; done) | (rw [lq]; simp [*]; done))⟩ (by first | omega | (dsimp only; omega))
              · cbv
              · cbv
            · refine r_addf m.sX (by omega) (by omega) fun r2 hr2 => ?_
              conv => cbv
              try have tr2 : Int.toNat r2 = Int.toNat i1 + 1 := by omega
              refine hE _ (a7, s7, lines_2, r2) ?_ ?_ ⟨(by (try dsimp only); first | omega | (simp only [List.length_nil]; omega) | (simp only [List.length_cons, List.length_nil]; omega)), (by (try dsimp only); first | omega | (simp only [List.length_nil]; omega) | (simp only [List.length_cons, List.length_nil]; omega)), (by (try dsimp only); first | omega | (simp only [List.length_nil]; omega) | (simp only [List.length_cons, List.length_nil]; omega)), (by (try dsimp only) <;> first | omega | rfl | (simp [*]; done) | (rw [lq]; simp [*]; done))⟩ (by first | omega | (dsimp only; omega))
              · cbv
              · cbv
          · have dz_i1 := drop_end (xs := lines) (i := Int.toNat i1) (by omega)
            have tz_i1 := take_end (xs := lines) (i := Int.toNat i1) (by omega)
            refine hF _ _ ?_
            conv => cbv
            refine r_lenR m.sX fun n6 hn6 mn6 => ?_
            conv => cbv
            refine r_gtr m.sX (fun h4 => ?_) (fun h4 => ?_) <;> conv => cbv
            · refine r_mcall m.sX (cOne_ok code a6 s6 8 h (by omega) (by omega)) ?_
              rintro _ _ ⟨q7, rfl, ⟨a8, s8, rfl, ea8, fa8⟩⟩
              conv => cbv
              rcases Bool.eq_false_or_eq_true q7 with rfl | rfl <;> conv => cbv
              · refine r_lenR m.sX fun n7 hn7 mn7 => ?_
                conv => cbv
                refine r_mcall m.sX (cPick_ok code a8 s8 n7 h (by omega) (by omega)) ?_
                rintro _ _ ⟨q8, rfl, ⟨a9, s9, rfl, ea9, fa9⟩, bq8, cq8, dq8⟩
                conv => cbv
                refine r_mcall m.sX (cPrinted_ok code a9 s9 h (by omega) (by omega)) ?_
                rintro _ _ ⟨q9, rfl, ⟨a10, s10, rfl, ea10, fa10⟩, bq9_1⟩
                conv => cbv
                refine r_oindex m.sX (by omega) (by omega) ?_
                conv => cbv
                obtain ⟨y2, hy2⟩ := get_ex (xs := lines_2) (i := Int.toNat q8) (by omega)
                refine r_ostore (l := Int.toNat q8) q9 m.sX hy2 (Nat.le_of_ble_eq_true rfl) rfl fun lines_4 hlines_4 => ?_   -- lines_4 = lines_2.set q8 q9
                have llines_4 : (lines_4.length : Int) = lines_2.length := by rw [hlines_4]; first | done | (simp; done) | (simp; omega)
                conv => cbv
                exact hQ (.fr 9 1 (rows cStr lines_4)) (cCur code a10 s10) ⟨lines_4, rfl, ⟨a10, s10, rfl, by omega, by omega⟩, (by first | omega | assumption | (simp; done) | (simp [*]; done) | (simp at *; omega))⟩   -- leaf 3
              · exact hQ (.fr 9 1 (rows cStr lines_2)) (cCur code a8 s8) ⟨lines_2, rfl, ⟨a8, s8, rfl, by omega, by omega⟩, (by first | omega | assumption | (simp; done) | (simp [*]; done) | (simp at *; omega))⟩   -- leaf 4
            · exact hQ (.fr 9 1 (rows cStr lines_2)) (cCur code a6 s6) ⟨lines_2, rfl, ⟨a6, s6, rfl, by omega, by omega⟩, (by first | omega | assumption | (simp; done) | (simp [*]; done) | (simp at *; omega))⟩   -- leaf 5
        · refine r_lenR m.sX fun n8 hn8 mn8 => ?_
          conv => cbv
          refine r_gtr m.sX (fun h5 => ?_) (fun h5 => ?_) <;> conv => cbv
          · refine r_mcall m.sX (cOne_ok code a5 s5 8 h (by omega) (by omega)) ?_
            rintro _ _ ⟨q10, rfl, ⟨a11, s11, rfl, ea11, fa11⟩⟩
            conv => cbv
            rcases Bool.eq_false_or_eq_true q10 with rfl | rfl <;> conv => cbv
            · refine r_lenR m.sX fun n9 hn9 mn9 => ?_
              conv => cbv
              refine r_mcall m.sX (cPick_ok code a11 s11 n9 h (by omega) (by omega)) ?_
              rintro _ _ ⟨q11, rfl, ⟨a12, s12, rfl, ea12, fa12⟩, bq11, cq11, dq11⟩
              conv => cbv
              refine r_mcall m.sX (cPrinted_ok code a12 s12 h (by omega) (by omega)) ?_
              rintro _ _ ⟨q12, rfl, ⟨a13, s13, rfl, ea13, fa13⟩, bq12_1⟩
              conv => cbv
              refine r_oindex m.sX (by omega) (by omega) ?_
              conv => cbv
              obtain ⟨y3, hy3⟩ := get_ex (xs := lines) (i := Int.toNat q11) (by omega)
              refine r_ostore (l := Int.toNat q11) q12 m.sX hy3 (Nat.le_of_ble_eq_true rfl) rfl fun zs1 hzs1 => ?_   -- zs1 = lines.set q11 q12
              have lzs1 : (zs1.length : Int) = lines.length := by rw [hzs1]; first | done | (simp; done) | (simp; omega)
              conv => cbv
              exact hQ (.fr 9 1 (rows cStr zs1)) (cCur code a13 s13) ⟨zs1, rfl, ⟨a13, s13, rfl, by omega, by omega⟩, (by first | omega | assumption | (simp; done) | (simp [*]; done) | (simp at *; omega))⟩   -- leaf 6
            · exact hQ (.fr 9 1 (rows cStr lines)) (cCur code a11 s11) ⟨lines, rfl, ⟨a11, s11, rfl, by omega, by omega⟩, (by first | omega | assumption | (simp; done) | (simp [*]; done) | (simp at *; omega))⟩   -- leaf 7
          · exact hQ (.fr 9 1 (rows cStr lines)) (cCur code a5 s5) ⟨lines, rfl, ⟨a5, s5, rfl, by omega, by omega⟩, (by first | omega | assumption | (simp; done) | (simp [*]; done) | (simp at *; omega))⟩)   -- leaf 8

theorem cCopyOf_ex (code : List Int) (b0 t0 : Int) : ∃ r cs, (∃ (q : List (List UInt8)), r = PV.isl 1 (rows cStr q) ∧ CurTo code b0 2000 cs ∧ ((q.length : Int) ≤ 14)) :=
  ⟨_, _, [], rfl, ⟨b0, t0, rfl, by omega, by omega⟩, (by first | omega | simp)⟩

theorem cCopies_ok (code : List Int) (b0 t0 : Int) (l : List (List (List UInt8))) (h : CurIn code) (h0 : 0 ≤ b0) (hk : b0 ≤ 899999999970000000) (hl : (l.length : Int) ≤ 7) (hw : ∀ p ∈ l, p.length ≤ 14) : OkM Try.prog 111 (cCur code b0 t0) [.isl 1 (rows (cSl 1 cStr) l)] (fun r cs => ∃ (q : List (List (List UInt8))), r = .isl 1 (rows (cSl 1 cStr) q) ∧ CurTo code b0 30000 cs ∧ ((q.length : Int) ≤ 11)) :=
  OkM.iceR (fnM_intro envOk fieldsOk mixed Try.func111 rfl fun κ X Y L Q m hQ => by
    conv => cbv
    refine r_mcall m.sX (cPick_ok code b0 t0 6 h (by omega) (by omega)) ?_
    rintro _ _ ⟨n, rfl, ⟨a1, s1, rfl, ea1, fa1⟩, bn, cn, dn⟩
    conv => cbv
    refine r_mcall m.sX (cOne_ok code a1 s1 12 h (by omega) (by omega)) ?_
    rintro _ _ ⟨q1, rfl, ⟨a2, s2, rfl, ea2, fa2⟩⟩
    conv => cbv
    rcases Bool.eq_false_or_eq_true q1 with rfl | rfl <;> conv => cbv
    · refine r_mcall m.sX (cPick_ok code a2 s2 2 h (by omega) (by omega)) ?_
      rintro _ _ ⟨q2, rfl, ⟨a3, s3, rfl, ea3, fa3⟩, bq2, cq2, dq2⟩
      conv => cbv
      refine r_addf m.sX (by omega) (by omega) fun n_2 hn_2 => ?_
      conv => cbv
      refine r_loopF (α := Int × Int × List (List (List UInt8))) m 25 [1, 6] [⟨0, 1, 0, 0, 0⟩, ⟨5, 41, 45, 1, 0⟩] (fun σ => [(0, .optr 1 0 0 0 0), (1, .isl 1 (rows (cSl 1 cStr) l)), (5, .osl 41 0), (6, .int .i64 n_2)]) (fun σ => [(1, 0, .box (cCur code σ.1 σ.2.1)), (41, 0, .row 45 1 (rows (cSl 1 cStr) σ.2.2))])
        (fun σ => ((σ.2.2.length : Int) ≤ n_2) ∧ (a3 ≤ σ.1 ∧ σ.1 ≤ a3 + 2000 * (σ.2.2.length : Int))) (fun σ => (n_2 - (σ.2.2.length : Int)).toNat) (a3, s3, []) ?_ ?_ ?_ ?_
      · cbv
      · (try dsimp only); (try simp only [rows_cons, rows_nil]); cbv
      · exact ⟨(by (try dsimp only); first | omega | (simp only [List.length_nil]; omega) | (simp only [List.length_cons, List.length_nil]; omega)), (by (try dsimp only); first | omega | (simp only [List.length_nil]; omega) | (simp only [List.length_cons, List.length_nil]; omega))⟩
      rintro ⟨a4, s4, out⟩ ⟨ll1, cl1⟩ E hE F hF
      dsimp only at ll1 cl1
      conv => cbv
      refine r_lenR m.sX fun n1 hn1 mn1 => ?_
      conv => cbv
      refine r_lss m.sX (fun h1 => ?_) (fun h1 => ?_) <;> conv => cbv
      · refine r_mcall m.sX (cCopyOf_ok code a4 s4 l h (by omega) (by omega) (by first | rfl | assumption | omega | (simp only [List.length_append, List.length_cons, List.length_nil] at *; omega)) (by first | rfl | assumption | omega | (simp only [List.length_append, List.length_cons, List.length_nil] at *; omega))) ?_
        rintro _ _ ⟨q3, rfl, ⟨a5, s5, rfl, ea5, fa5⟩, bq3_1⟩
        conv => cbv
        refine r_append1 (q3) m.sX rfl (by first | omega | (dsimp only; omega)) (by first | omega | (dsimp only; omega)) fun out_2 hout_2 => ?_
        conv => cbv
        have lout_2 : (out_2.length : Int) = out.length + 1 := by rw [hout_2]; first | done | (simp; done) | (simp; omega)
        refine hE _ (a5, s5, out_2) ?_ ?_ ⟨(by (try dsimp only); first | omega | (simp only [List.length_nil]; omega) | (simp only [List.length_cons, List.length_nil]; omega)), (by (try dsimp only); first | omega | (simp only [List.length_nil]; omega) | (simp only [List.length_cons, List.length_nil]; omega))⟩ (by first | omega | (dsimp only; omega))
        · cbv
        · cbv
      · refine hF _ _ ?_
        conv => cbv
        exact hQ (.fr 45 1 (rows (cSl 1 cStr) out)) (cCur code a4 s4) ⟨out, rfl, ⟨a4, s4, rfl, by omega, by omega⟩, (by first | omega | assumption | (simp; done) | (simp [*]; done) | (simp at *; omega))⟩   -- leaf 1
    · refine r_loopF (α := Int × Int × List (List (List UInt8))) m 25 [1, 6] [⟨0, 1, 0, 0, 0⟩, ⟨5, 41, 45, 1, 0⟩] (fun σ => [(0, .optr 1 0 0 0 0), (1, .isl 1 (rows (cSl 1 cStr) l)), (5, .osl 41 0), (6, .int .i64 n)]) (fun σ => [(1, 0, .box (cCur code σ.1 σ.2.1)), (41, 0, .row 45 1 (rows (cSl 1 cStr) σ.2.2))])
        (fun σ => ((σ.2.2.length : Int) ≤ n) ∧ (a2 ≤ σ.1 ∧ σ.1 ≤ a2 + 2000 * (σ.2.2.length : Int))) (fun σ => (n - (σ.2.2.length : Int)).toNat) (a2, s2, []) ?_ ?_ ?_ ?_
      · cbv
      · (try dsimp only); (try simp only [rows_cons, rows_nil]); cbv
      · exact ⟨(by (try dsimp only); first | omega | (simp only [List.length_nil]; omega) | (simp only [List.length_cons, List.length_nil]; omega)), (by (try dsimp only); first | omega | (simp only [List.length_nil]; omega) | (simp only [List.length_cons, List.length_nil]; omega))⟩
      rintro ⟨a6, s6, out_3⟩ ⟨ll2, cl2⟩ E hE F hF
      dsimp only at ll2 cl2
      conv => cbv
      refine r_lenR m.sX fun n2 hn2 mn2 => ?_
      conv => cbv
      refine r_lss m.sX (fun h2 => ?_) (fun h2 => ?_) <;> conv => cbv
      · refine r_mcall m.sX (cCopyOf_ok code a6 s6 l h (by omega) (by omega) (by first | rfl | assumption | omega | (simp only [List.length_append, List.length_cons, List.length_nil] at *; omega)) (by first | rfl | assumption | omega | (simp only [List.length_append, List.length_cons, List.length_nil] at *; omega))) ?_
        rintro _ _ ⟨q4, rfl, ⟨a7, s7, rfl, ea7, fa7⟩, bq4_1⟩
        conv => cbv
        refine r_append1 (q4) m.sX rfl (by first | omega | (dsimp only; omega)) (by first | omega | (dsimp only; omega)) fun out_4 hout_4 => ?_
        conv => cbv
        have lout_4 : (out_4.length : Int) = out_3.length + 1 := by rw [hout_4]; first | done | (simp; done) | (simp; omega)
        refine hE _ (a7, s7, out_4) ?_ ?_ ⟨(by (try dsimp only); first | omega | (simp only [List.length_nil]; omega) | (simp only [List.length_cons, List.length_nil]; omega)), (by (try dsimp only); first | omega | (simp only [List.length_nil]; omega) | (simp only [List.length_cons, List.length_nil]; omega))⟩ (by first | omega | (dsimp only; omega))
        · cbv
        · cbv
      · refine hF _ _ ?_
        conv => cbv
        exact hQ (.fr 45 1 (rows (cSl 1 cStr) out_3)) (cCur code a6 s6) ⟨out_3, rfl, ⟨a6, s6, rfl, by omega, by omega⟩, (by first | omega | assumption | (simp; done) | (simp [*]; done) | (simp at *; omega))⟩)   -- leaf 2

theorem cCopies_ex (code : List Int) (b0 t0 : Int) : ∃ r cs, (∃ (q : List (List (List UInt8))), r = PV.isl 1 (rows (cSl 1 cStr) q) ∧ CurTo code b0 30000 cs ∧ ((q.length : Int) ≤ 11)) :=
  ⟨_, _, [], rfl, ⟨b0, t0, rfl, by omega, by omega⟩, (by first | omega | simp)⟩

theorem drawStateOfCopy_ok (code : List Int) (h : CurIn code) : OkA Try.prog 30 [.isl 1 (rows cU8 code)] (fun r => ∃ (q1 : List (List (List UInt8))) (q2 : List (List UInt8)), r = .tup [.isl 1 (rows (cSl 1 cStr) q1), .isl 1 (rows cStr q2)] ∧ ((q1.length : Int) ≤ 7) ∧ ((q2.length : Int) ≤ 14)) :=
  fn_intro envOk fieldsOk mixed Try.func30 rfl fun κ X Y L Q m hQ => by
    conv => cbv
    refine r_mcall m.sX (cStates_ok code 0 0 h (by omega) (by omega)) ?_
    rintro _ _ ⟨l, rfl, ⟨a1, s1, rfl, ea1, fa1⟩, bl_1, bl_2⟩
    conv => cbv
    refine r_mcall m.sX (cCopyOf_ok code a1 s1 l h (by omega) (by omega) (by first | rfl | assumption | omega | (simp only [List.length_append, List.length_cons, List.length_nil] at *; omega)) (by first | rfl | assumption | omega | (simp only [List.length_append, List.length_cons, List.length_nil] at *; omega))) ?_
    rintro _ _ ⟨q1, rfl, ⟨a2, s2, rfl, ea2, fa2⟩, bq1_1⟩
    conv => cbv
    exact hQ (.tup [.isl 1 (rows (cSl 1 cStr) l), .isl 1 (rows cStr q1)]) ⟨l, q1, rfl, (by first | omega | assumption | (simp; done) | (simp [*]; done) | (simp at *; omega)), (by first | omega | assumption | (simp; done) | (simp [*]; done) | (simp at *; omega))⟩   -- leaf 1

theorem drawCountInState_ok (code : List Int) (h : CurIn code) : OkA Try.prog 40 [.isl 1 (rows cU8 code)] (fun r => ∃ (q1 : List (List (List UInt8))) (q2 : List (List (List UInt8))), r = .tup [.isl 1 (rows (cSl 1 cStr) q1), .isl 1 (rows (cSl 1 cStr) q2)] ∧ ((q1.length : Int) ≤ 7) ∧ ((q2.length : Int) ≤ 11)) :=
  fn_intro envOk fieldsOk mixed Try.func40 rfl fun κ X Y L Q m hQ => by
    conv => cbv
    refine r_mcall m.sX (cStates_ok code 0 0 h (by omega) (by omega)) ?_
    rintro _ _ ⟨l, rfl, ⟨a1, s1, rfl, ea1, fa1⟩, bl_1, bl_2⟩
    conv => cbv
    refine r_mcall m.sX (cCopies_ok code a1 s1 l h (by omega) (by omega) (by first | rfl | assumption | omega | (simp only [List.length_append, List.length_cons, List.length_nil] at *; omega)) (by first | rfl | assumption | omega | (simp only [List.length_append, List.length_cons, List.length_nil] at *; omega))) ?_
    rintro _ _ ⟨q1, rfl, ⟨a2, s2, rfl, ea2, fa2⟩, bq1_1⟩
    conv => cbv
    exact hQ (.tup [.isl 1 (rows (cSl 1 cStr) l), .isl 1 (rows (cSl 1 cStr) q1)]) ⟨l, q1, rfl, (by first | omega | assumption | (simp; done) | (simp [*]; done) | (simp at *; omega)), (by first | omega | assumption | (simp; done) | (simp [*]; done) | (simp at *; omega))⟩   -- leaf 1

end Go.Proofs.Ytifkjlpkhfldoaa.Ai
