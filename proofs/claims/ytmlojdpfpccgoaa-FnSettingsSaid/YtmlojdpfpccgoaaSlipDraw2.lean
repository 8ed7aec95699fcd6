/- Contract of drawn slips. -/
import Derived.Test.YtmlojdpfpccgoaaSlipDraw
namespace Go.Proofs.Ytmlojdpfpccgoaa.Ai
open Go Go.Proofs
set_option linter.unusedSimpArgs false
set_option maxRecDepth 10000
set_option maxHeartbeats 16000000
set_option linter.unusedVariables false
theorem drawMendSlips_ok (code : List Int) (h : CurIn code) : OkA Try.prog 69 [.isl 1 (rows cU8 code)] (fun r => ∃ (q1 : List Box) (q2 : List Slip), r = .tup [.isl 4 (rows cBox q1), .fr 88 3 (rows cMisput q2)]) :=
  fn_intro envOk fieldsOk mixed Try.func69 rfl fun κ X Y L Q m hQ => by
    conv => cbv
    refine r_mcall m.sX (cMixed_ok code 0 0 h (by omega) (by omega)) ?_
    rintro _ _ ⟨a, b, rfl, ⟨a1, s1, rfl, ea1, fa1⟩, ba_1, ba_2⟩
    conv => cbv
    refine r_callF (lb 88 3 cMisput) m.sX (specFindSlips_ok a b) fun v hslips => ?_
    obtain ⟨slips, ok⟩ := v
    conv => cbv
    rcases Bool.eq_false_or_eq_true ok with rfl | rfl <;> conv => cbv
    · refine r_mcall m.sX (cOne_ok code a1 s1 4 h (by omega) (by omega)) ?_
      rintro _ _ ⟨q1, rfl, ⟨a2, s2, rfl, ea2, fa2⟩⟩
      conv => cbv
      rcases Bool.eq_false_or_eq_true q1 with rfl | rfl <;> conv => cbv
      · refine r_mcall m.sX (cAnyCase_ok code a2 s2 h (by omega) (by omega)) ?_
        rintro _ _ ⟨l, rfl, ⟨a3, s3, rfl, ea3, fa3⟩, bl_1⟩
        conv => cbv
        refine r_mcall m.sX (cPick_ok code a3 s3 3 h (by omega) (by omega)) ?_
        rintro _ _ ⟨q2, rfl, ⟨a4, s4, rfl, ea4, fa4⟩, bq2, cq2, dq2⟩
        conv => cbv
        refine r_addf m.sX (by omega) (by omega) fun n hn => ?_
        conv => cbv
        refine r_mcall m.sX (cOne_ok code a4 s4 12 h (by omega) (by omega)) ?_
        rintro _ _ ⟨q3, rfl, ⟨a5, s5, rfl, ea5, fa5⟩⟩
        conv => cbv
        rcases Bool.eq_false_or_eq_true q3 with rfl | rfl <;> conv => cbv
        · refine r_mcall m.sX (cPick_ok code a5 s5 2 h (by omega) (by omega)) ?_
          rintro _ _ ⟨q4, rfl, ⟨a6, s6, rfl, ea6, fa6⟩, bq4, cq4, dq4⟩
          conv => cbv
          refine r_addf m.sX (by omega) (by omega) fun n_2 hn_2 => ?_
          conv => cbv
          refine r_loopF (α := Int × Int × List Slip) m 68 [9, 11] [⟨4, 33, 0, 0, 0⟩, ⟨10, 81, 88, 3, 0⟩] (fun σ => [(4, .optr 33 0 3 0 0), (9, .isl 4 (rows cBox l)), (10, .osl 81 0), (11, .int .i64 n_2)]) (fun σ => [(33, 0, .box (cCur code σ.1 σ.2.1)), (81, 0, .row 88 3 (rows cMisput σ.2.2))])
            (fun σ => ((σ.2.2.length : Int) ≤ n_2) ∧ (a6 ≤ σ.1 ∧ σ.1 ≤ a6 + 8 * (σ.2.2.length : Int))) (fun σ => (n_2 - (σ.2.2.length : Int)).toNat) (a6, s6, []) ?_ ?_ ?_ ?_
          · cbv
          · (try dsimp only); (try simp only [rows_cons, rows_nil]); cbv
          · exact ⟨(by (try dsimp only); first | omega | (simp only [List.length_nil]; omega) | (simp only [List.length_cons, List.length_nil]; omega)), (by (try dsimp only); first | omega | (simp only [List.length_nil]; omega) | (simp only [List.length_cons, List.length_nil]; omega))⟩
          rintro ⟨a7, s7, slips_2⟩ ⟨ll1, cl1⟩ E hE F hF
          dsimp only at ll1 cl1
          conv => cbv
          refine r_lenR m.sX fun n1 hn1 mn1 => ?_
          conv => cbv
          refine r_lss m.sX (fun h1 => ?_) (fun h1 => ?_) <;> conv => cbv
          · refine r_mcall m.sX (cOfL_ok code a7 s7 ([([97] : List UInt8), ([98] : List UInt8), ([99] : List UInt8)]) h (by omega) (by omega) (by first | rfl | assumption | omega | (simp only [List.length_append, List.length_cons, List.length_nil] at *; omega)) (by first | rfl | assumption | omega | (simp only [List.length_append, List.length_cons, List.length_nil] at *; omega))) ?_
            rintro _ _ ⟨q5, rfl, ⟨a8, s8, rfl, ea8, fa8⟩, bq5_1⟩
            conv => cbv
            refine r_mcall m.sX (cOfL_ok code a8 s8 ([([100] : List UInt8), ([101] : List UInt8), ([98] : List UInt8), ([122, 122] : List UInt8)]) h (by omega) (by omega) (by first | rfl | assumption | omega | (simp only [List.length_append, List.length_cons, List.length_nil] at *; omega)) (by first | rfl | assumption | omega | (simp only [List.length_append, List.length_cons, List.length_nil] at *; omega))) ?_
            rintro _ _ ⟨q6, rfl, ⟨a9, s9, rfl, ea9, fa9⟩, bq6_1⟩
            conv => cbv
            refine r_mcall m.sX (cAmong_ok code a9 s9 ([1, 0, 100]) (by simp) h (by omega) (by omega)) ?_
            rintro _ _ ⟨q7, rfl, ⟨a10, s10, rfl, ea10, fa10⟩, bq7⟩
            simp only [List.mem_cons, List.not_mem_nil, or_false] at bq7
            conv => cbv
            refine r_mcall m.sX (cAmong_ok code a10 s10 ([1, 1, 2, 99, q7]) (by simp) h (by omega) (by omega)) ?_
            rintro _ _ ⟨q8, rfl, ⟨a11, s11, rfl, ea11, fa11⟩, bq8⟩
            simp only [List.mem_cons, List.not_mem_nil, or_false] at bq8
            conv => cbv
            refine r_append1 ((q5, q6, q8)) m.sX rfl (by first | omega | (dsimp only; omega)) (by first | omega | (dsimp only; omega)) fun slips_3 hslips_3 => ?_
            conv => cbv
            have lslips_3 : (slips_3.length : Int) = slips_2.length + 1 := by rw [hslips_3]; first | done | (simp; done) | (simp; omega)
            refine hE _ (a11, s11, slips_3) ?_ ?_ ⟨(by (try dsimp only); first | omega | (simp only [List.length_nil]; omega) | (simp only [List.length_cons, List.length_nil]; omega)), (by (try dsimp only); first | omega | (simp only [List.length_nil]; omega) | (simp only [List.length_cons, List.length_nil]; omega))⟩ (by first | omega | (dsimp only; omega))
            · cbv
            · cbv
          · refine hF _ _ ?_
            conv => cbv
            exact hQ (.tup [.isl 4 (rows cBox l), .fr 88 3 (rows cMisput slips_2)]) ⟨l, slips_2, rfl⟩   -- leaf 1
        · refine r_loopF (α := Int × Int × List Slip) m 68 [9, 11] [⟨4, 33, 0, 0, 0⟩, ⟨10, 81, 88, 3, 0⟩] (fun σ => [(4, .optr 33 0 3 0 0), (9, .isl 4 (rows cBox l)), (10, .osl 81 0), (11, .int .i64 n)]) (fun σ => [(33, 0, .box (cCur code σ.1 σ.2.1)), (81, 0, .row 88 3 (rows cMisput σ.2.2))])
            (fun σ => ((σ.2.2.length : Int) ≤ n) ∧ (a5 ≤ σ.1 ∧ σ.1 ≤ a5 + 8 * (σ.2.2.length : Int))) (fun σ => (n - (σ.2.2.length : Int)).toNat) (a5, s5, []) ?_ ?_ ?_ ?_
          · cbv
          · (try dsimp only); (try simp only [rows_cons, rows_nil]); cbv
          · exact ⟨(by (try dsimp only); first | omega | (simp only [List.length_nil]; omega) | (simp only [List.length_cons, List.length_nil]; omega)), (by (try dsimp only); first | omega | (simp only [List.length_nil]; omega) | (simp only [List.length_cons, List.length_nil]; omega))⟩
          rintro ⟨a12, s12, slips_4⟩ ⟨ll2, cl2⟩ E hE F hF
          dsimp only at ll2 cl2
          conv => cbv
          refine r_lenR m.sX fun n2 hn2 mn2 => ?_
          conv => cbv
          refine r_lss m.sX (fun h2 => ?_) (fun h2 => ?_) <;> conv => cbv
          · refine r_mcall m.sX (cOfL_ok code a12 s12 ([([97] : List UInt8), ([98] : List UInt8), ([99] : List UInt8)]) h (by omega) (by omega) (by first | rfl | assumption | omega | (simp only [List.length_append, List.length_cons, List.length_nil] at *; omega)) (by first | rfl | assumption | omega | (simp only [List.length_append, List.length_cons, List.length_nil] at *; omega))) ?_
            rintro _ _ ⟨q9, rfl, ⟨a13, s13, rfl, ea13, fa13⟩, bq9_1⟩
            conv => cbv
            refine r_mcall m.sX (cOfL_ok code a13 s13 ([([100] : List UInt8), ([101] : List UInt8), ([98] : List UInt8), ([122, 122] : List UInt8)]) h (by omega) (by omega) (by first | rfl | assumption | omega | (simp only [List.length_append, List.length_cons, List.length_nil] at *; omega)) (by first | rfl | assumption | omega | (simp only [List.length_append, List.length_cons, List.length_nil] at *; omega))) ?_
            rintro _ _ ⟨q10, rfl, ⟨a14, s14, rfl, ea14, fa14⟩, bq10_1⟩
            conv => cbv
            refine r_mcall m.sX (cAmong_ok code a14 s14 ([1, 0, 100]) (by simp) h (by omega) (by omega)) ?_
            rintro _ _ ⟨q11, rfl, ⟨a15, s15, rfl, ea15, fa15⟩, bq11⟩
            simp only [List.mem_cons, List.not_mem_nil, or_false] at bq11
            conv => cbv
            refine r_mcall m.sX (cAmong_ok code a15 s15 ([1, 1, 2, 99, q11]) (by simp) h (by omega) (by omega)) ?_
            rintro _ _ ⟨q12, rfl, ⟨a16, s16, rfl, ea16, fa16⟩, bq12⟩
            simp only [List.mem_cons, List.not_mem_nil, or_false] at bq12
            conv => cbv
            refine r_append1 ((q9, q10, q12)) m.sX rfl (by first | omega | (dsimp only; omega)) (by first | omega | (dsimp only; omega)) fun slips_5 hslips_5 => ?_
            conv => cbv
            have lslips_5 : (slips_5.length : Int) = slips_4.length + 1 := by rw [hslips_5]; first | done | (simp; done) | (simp; omega)
            refine hE _ (a16, s16, slips_5) ?_ ?_ ⟨(by (try dsimp only); first | omega | (simp only [List.length_nil]; omega) | (simp only [List.length_cons, List.length_nil]; omega)), (by (try dsimp only); first | omega | (simp only [List.length_nil]; omega) | (simp only [List.length_cons, List.length_nil]; omega))⟩ (by first | omega | (dsimp only; omega))
            · cbv
            · cbv
          · refine hF _ _ ?_
            conv => cbv
            exact hQ (.tup [.isl 4 (rows cBox l), .fr 88 3 (rows cMisput slips_4)]) ⟨l, slips_4, rfl⟩   -- leaf 2
      · exact hQ (.tup [.isl 4 (rows cBox b), .fr 88 3 (rows cMisput slips)]) ⟨b, slips, rfl⟩   -- leaf 3
    · refine r_mcall m.sX (cAnyCase_ok code a1 s1 h (by omega) (by omega)) ?_
      rintro _ _ ⟨l_2, rfl, ⟨a17, s17, rfl, ea17, fa17⟩, bl_2_1⟩
      conv => cbv
      refine r_mcall m.sX (cPick_ok code a17 s17 3 h (by omega) (by omega)) ?_
      rintro _ _ ⟨q13, rfl, ⟨a18, s18, rfl, ea18, fa18⟩, bq13, cq13, dq13⟩
      conv => cbv
      refine r_addf m.sX (by omega) (by omega) fun n_3 hn_3 => ?_
      conv => cbv
      refine r_mcall m.sX (cOne_ok code a18 s18 12 h (by omega) (by omega)) ?_
      rintro _ _ ⟨q14, rfl, ⟨a19, s19, rfl, ea19, fa19⟩⟩
      conv => cbv
      rcases Bool.eq_false_or_eq_true q14 with rfl | rfl <;> conv => cbv
      · refine r_mcall m.sX (cPick_ok code a19 s19 2 h (by omega) (by omega)) ?_
        rintro _ _ ⟨q15, rfl, ⟨a20, s20, rfl, ea20, fa20⟩, bq15, cq15, dq15⟩
        conv => cbv
        refine r_addf m.sX (by omega) (by omega) fun n_4 hn_4 => ?_
        conv => cbv
        refine r_loopF (α := Int × Int × List Slip) m 68 [9, 11] [⟨4, 33, 0, 0, 0⟩, ⟨10, 81, 88, 3, 0⟩] (fun σ => [(4, .optr 33 0 3 0 0), (9, .isl 4 (rows cBox l_2)), (10, .osl 81 0), (11, .int .i64 n_4)]) (fun σ => [(33, 0, .box (cCur code σ.1 σ.2.1)), (81, 0, .row 88 3 (rows cMisput σ.2.2))])
          (fun σ => ((σ.2.2.length : Int) ≤ n_4) ∧ (a20 ≤ σ.1 ∧ σ.1 ≤ a20 + 8 * (σ.2.2.length : Int))) (fun σ => (n_4 - (σ.2.2.length : Int)).toNat) (a20, s20, []) ?_ ?_ ?_ ?_
        · cbv
        · (try dsimp only); (try simp only [rows_cons, rows_nil]); cbv
        · exact ⟨(by (try dsimp only); first | omega | (simp only [List.length_nil]; omega) | (simp only [List.length_cons, List.length_nil]; omega)), (by (try dsimp only); first | omega | (simp only [List.length_nil]; omega) | (simp only [List.length_cons, List.length_nil]; omega))⟩
        rintro ⟨a21, s21, slips_6⟩ ⟨ll3, cl3⟩ E hE F hF
        dsimp only at ll3 cl3
        conv => cbv
        refine r_lenR m.sX fun n3 hn3 mn3 => ?_
        conv => cbv
        refine r_lss m.sX (fun h3 => ?_) (fun h3 => ?_) <;> conv => cbv
        · refine r_mcall m.sX (cOfL_ok code a21 s21 ([([97] : List UInt8), ([98] : List UInt8), ([99] : List UInt8)]) h (by omega) (by omega) (by first | rfl | assumption | omega | (simp only [List.length_append, List.length_cons, List.length_nil] at *; omega)) (by first | rfl | assumption | omega | (simp only [List.length_append, List.length_cons, List.length_nil] at *; omega))) ?_
          rintro _ _ ⟨q16, rfl, ⟨a22, s22, rfl, ea22, fa22⟩, bq16_1⟩
          conv => cbv
          refine r_mcall m.sX (cOfL_ok code a22 s22 ([([100] : List UInt8), ([101] : List UInt8), ([98] : List UInt8), ([122, 122] : List UInt8)]) h (by omega) (by omega) (by first | rfl | assumption | omega | (simp only [List.length_append, List.length_cons, List.length_nil] at *; omega)) (by first | rfl | assumption | omega | (simp only [List.length_append, List.length_cons, List.length_nil] at *; omega))) ?_
          rintro _ _ ⟨q17, rfl, ⟨a23, s23, rfl, ea23, fa23⟩, bq17_1⟩
          conv => cbv
          refine r_mcall m.sX (cAmong_ok code a23 s23 ([1, 0, 100]) (by simp) h (by omega) (by omega)) ?_
          rintro _ _ ⟨q18, rfl, ⟨a24, s24, rfl, ea24, fa24⟩, bq18⟩
          simp only [List.mem_cons, List.not_mem_nil, or_false] at bq18
          conv => cbv
          refine r_mcall m.sX (cAmong_ok code a24 s24 ([1, 1, 2, 99, q18]) (by simp) h (by omega) (by omega)) ?_
          rintro _ _ ⟨q19, rfl, ⟨a25, s25, rfl, ea25, fa25⟩, bq19⟩
          simp only [List.mem_cons, List.not_mem_nil, or_false] at bq19
          conv => cbv
          refine r_append1 ((q16, q17, q19)) m.sX rfl (by first | omega | (dsimp only; omega)) (by first | omega | (dsimp only; omega)) fun slips_7 hslips_7 => ?_
          conv => cbv
          have lslips_7 : (slips_7.length : Int) = slips_6.length + 1 := by rw [hslips_7]; first | done | (simp; done) | (simp; omega)
          refine hE _ (a25, s25, slips_7) ?_ ?_ ⟨(by (try dsimp only); first | omega | (simp only [List.length_nil]; omega) | (simp only [List.length_cons, List.length_nil]; omega)), (by (try dsimp only); first | omega | (simp only [List.length_nil]; omega) | (simp only [List.length_cons, List.length_nil]; omega))⟩ (by first | omega | (dsimp only; omega))
          · cbv
          · cbv
        · refine hF _ _ ?_
          conv => cbv
          exact hQ (.tup [.isl 4 (rows cBox l_2), .fr 88 3 (rows cMisput slips_6)]) ⟨l_2, slips_6, rfl⟩   -- leaf 4
      · refine r_loopF (α := Int × Int × List Slip) m 68 [9, 11] [⟨4, 33, 0, 0, 0⟩, ⟨10, 81, 88, 3, 0⟩] (fun σ => [(4, .optr 33 0 3 0 0), (9, .isl 4 (rows cBox l_2)), (10, .osl 81 0), (11, .int .i64 n_3)]) (fun σ => [(33, 0, .box (cCur code σ.1 σ.2.1)), (81, 0, .row 88 3 (rows cMisput σ.2.2))])
          (fun σ => ((σ.2.2.length : Int) ≤ n_3) ∧ (a19 ≤ σ.1 ∧ σ.1 ≤ a19 + 8 * (σ.2.2.length : Int))) (fun σ => (n_3 - (σ.2.2.length : Int)).toNat) (a19, s19, []) ?_ ?_ ?_ ?_
        · cbv
        · (try dsimp only); (try simp only [rows_cons, rows_nil]); cbv
        · exact ⟨(by (try dsimp only); first | omega | (simp only [List.length_nil]; omega) | (simp only [List.length_cons, List.length_nil]; omega)), (by (try dsimp only); first | omega | (simp only [List.length_nil]; omega) | (simp only [List.length_cons, List.length_nil]; omega))⟩
        rintro ⟨a26, s26, slips_8⟩ ⟨ll4, cl4⟩ E hE F hF
        dsimp only at ll4 cl4
        conv => cbv
        refine r_lenR m.sX fun n4 hn4 mn4 => ?_
        conv => cbv
        refine r_lss m.sX (fun h4 => ?_) (fun h4 => ?_) <;> conv => cbv
        · refine r_mcall m.sX (cOfL_ok code a26 s26 ([([97] : List UInt8), ([98] : List UInt8), ([99] : List UInt8)]) h (by omega) (by omega) (by first | rfl | assumption | omega | (simp only [List.length_append, List.length_cons, List.length_nil] at *; omega)) (by first | rfl | assumption | omega | (simp only [List.length_append, List.length_cons, List.length_nil] at *; omega))) ?_
          rintro _ _ ⟨q20, rfl, ⟨a27, s27, rfl, ea27, fa27⟩, bq20_1⟩
          conv => cbv
          refine r_mcall m.sX (cOfL_ok code a27 s27 ([([100] : List UInt8), ([101] : List UInt8), ([98] : List UInt8), ([122, 122] : List UInt8)]) h (by omega) (by omega) (by first | rfl | assumption | omega | (simp only [List.length_append, List.length_cons, List.length_nil] at *; omega)) (by first | rfl | assumption | omega | (simp only [List.length_append, List.length_cons, List.length_nil] at *; omega))) ?_
          rintro _ _ ⟨q21, rfl, ⟨a28, s28, rfl, ea28, fa28⟩, bq21_1⟩
          conv => cbv
          refine r_mcall m.sX (cAmong_ok code a28 s28 ([1, 0, 100]) (by simp) h (by omega) (by omega)) ?_
          rintro _ _ ⟨q22, rfl, ⟨a29, s29, rfl, ea29, fa29⟩, bq22⟩
          simp only [List.mem_cons, List.not_mem_nil, or_false] at bq22
          conv => cbv
          refine r_mcall m.sX (cAmong_ok code a29 s29 ([1, 1, 2, 99, q22]) (by simp) h (by omega) (by omega)) ?_
          rintro _ _ ⟨q23, rfl, ⟨a30, s30, rfl, ea30, fa30⟩, bq23⟩
          simp only [List.mem_cons, List.not_mem_nil, or_false] at bq23
          conv => cbv
          refine r_append1 ((q20, q21, q23)) m.sX rfl (by first | omega | (dsimp only; omega)) (by first | omega | (dsimp only; omega)) fun slips_9 hslips_9 => ?_
          conv => cbv
          have lslips_9 : (slips_9.length : Int) = slips_8.length + 1 := by rw [hslips_9]; first | done | (simp; done) | (simp; omega)
          refine hE _ (a30, s30, slips_9) ?_ ?_ ⟨(by (try dsimp only); first | omega | (simp only [List.length_nil]; omega) | (simp only [List.length_cons, List.length_nil]; omega)), (by (try dsimp only); first | omega | (simp only [List.length_nil]; omega) | (simp only [List.length_cons, List.length_nil]; omega))⟩ (by first | omega | (dsimp only; omega))
          · cbv
          · cbv
        · refine hF _ _ ?_
          conv => cbv
          exact hQ (.tup [.isl 4 (rows cBox l_2), .fr 88 3 (rows cMisput slips_8)]) ⟨l_2, slips_8, rfl⟩   -- leaf 5

end Go.Proofs.Ytmlojdpfpccgoaa.Ai
