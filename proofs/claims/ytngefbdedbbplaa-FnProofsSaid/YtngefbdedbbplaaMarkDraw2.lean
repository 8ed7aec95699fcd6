/- Contract of a drawn mark. -/
import Derived.Test.YtngefbdedbbplaaMarkDraw
namespace Go.Proofs.Ytngefbdedbbplaa.Ai
open Go Go.Proofs
set_option linter.unusedSimpArgs false
set_option maxRecDepth 10000
set_option maxHeartbeats 20000000
set_option linter.unusedVariables false
theorem cMark_ok (code : List Int) (b0 t0 : Int) (lines : List (List UInt8)) (h : CurIn code) (h0 : 0 ≤ b0) (hk : b0 ≤ 899999999999980000) (hl : lines.length ≤ 20) (hw : ∀ s ∈ lines, s.length ≤ 1000) : OkM Try.prog 59 (cCur code b0 t0) [.isl 1 (rows cStr lines)] (fun r cs => ∃ (q : Mark), r = .agg (cMark q) ∧ CurTo code b0 20 cs) :=
  fnM_intro envOk fieldsOk mixed Try.func59 rfl fun κ X Y L Q m hQ => by
    conv => cbv
    refine r_mcall m.sX (cAmong_ok code b0 t0 ([1, 1, 2, 2, 3, 3, 4]) (by simp) h (by omega) (by omega)) ?_
    rintro _ _ ⟨q1, rfl, ⟨a1, s1, rfl, ea1, fa1⟩, bq1⟩
    simp only [List.mem_cons, List.not_mem_nil, or_false] at bq1
    conv => cbv
    refine r_lenR m.sX fun n hn mn => ?_
    conv => cbv
    refine r_gtr m.sX (fun h1 => ?_) (fun h1 => ?_) <;> conv => cbv
    · refine r_mcall m.sX (cPick_ok code a1 s1 n h (by omega) (by omega)) ?_
      rintro _ _ ⟨q2, rfl, ⟨a2, s2, rfl, ea2, fa2⟩, bq2, cq2, dq2⟩
      conv => cbv
      refine r_index m.sX (by omega) (by omega) fun x1 hx1 => ?_
      conv => cbv
      have mx1 := get_mem hx1
      have bx := hw x1 mx1
      refine r_slen (u := x1) m.sX fun n1 hn1 mn1 => ?_   -- n1 = length of x1
      conv => cbv
      refine r_addf m.sX (by omega) (by omega) fun r1 hr1 => ?_
      conv => cbv
      refine r_mcall m.sX (cPick_ok code a2 s2 r1 h (by omega) (by omega)) ?_
      rintro _ _ ⟨q3, rfl, ⟨a3, s3, rfl, ea3, fa3⟩, bq3, cq3, dq3⟩
      conv => cbv
      refine r_eql m.sX (fun h2 => ?_) (fun h2 => ?_) <;> conv => cbv
      · refine r_mcall m.sX (cOfL_ok code a3 s3 ([([97] : List UInt8), ([98] : List UInt8), ([120, 121] : List UInt8), ([32] : List UInt8), ([116, 104, 101, 32] : List UInt8)]) h (by omega) (by omega) (by first | rfl | assumption | omega | (simp only [List.length_append, List.length_cons, List.length_nil] at *; omega)) (by first | rfl | assumption | omega | (simp only [List.length_append, List.length_cons, List.length_nil] at *; omega))) ?_
        rintro _ _ ⟨q4, rfl, ⟨a4, s4, rfl, ea4, fa4⟩, bq4_1⟩
        conv => cbv
        refine r_mcall m.sX (cPick_ok code a4 s4 40 h (by omega) (by omega)) ?_
        rintro _ _ ⟨q5, rfl, ⟨a5, s5, rfl, ea5, fa5⟩, bq5, cq5, dq5⟩
        conv => cbv
        refine r_eql m.sX (fun h3 => ?_) (fun h3 => ?_) <;> conv => cbv
        · refine r_mcall m.sX (cAmong_ok code a5 s5 ([11, 12, -1]) (by simp) h (by omega) (by omega)) ?_
          rintro _ _ ⟨q6, rfl, ⟨a6, s6, rfl, ea6, fa6⟩, bq6⟩
          simp only [List.mem_cons, List.not_mem_nil, or_false] at bq6
          conv => cbv
          exact hQ (.agg [.int .i64 q6, .int .i64 q3, .int .i64 q1, .str q4]) (cCur code a6 s6) ⟨(q6, q3, q1, q4), rfl, ⟨a6, s6, rfl, by omega, by omega⟩⟩   -- leaf 1
        · refine r_eql m.sX (fun h4 => ?_) (fun h4 => ?_) <;> conv => cbv
          · refine r_mcall m.sX (cAmong_ok code a5 s5 ([40, 41, -1]) (by simp) h (by omega) (by omega)) ?_
            rintro _ _ ⟨q7, rfl, ⟨a7, s7, rfl, ea7, fa7⟩, bq7⟩
            simp only [List.mem_cons, List.not_mem_nil, or_false] at bq7
            conv => cbv
            exact hQ (.agg [.int .i64 q2, .int .i64 q7, .int .i64 q1, .str q4]) (cCur code a7 s7) ⟨(q2, q7, q1, q4), rfl, ⟨a7, s7, rfl, by omega, by omega⟩⟩   -- leaf 2
          · refine r_eql m.sX (fun h5 => ?_) (fun h5 => ?_) <;> conv => cbv
            · refine r_mcall m.sX (cAmong_ok code a5 s5 ([0, 5]) (by simp) h (by omega) (by omega)) ?_
              rintro _ _ ⟨q8, rfl, ⟨a8, s8, rfl, ea8, fa8⟩, bq8⟩
              simp only [List.mem_cons, List.not_mem_nil, or_false] at bq8
              conv => cbv
              exact hQ (.agg [.int .i64 q2, .int .i64 q3, .int .i64 q8, .str q4]) (cCur code a8 s8) ⟨(q2, q3, q8, q4), rfl, ⟨a8, s8, rfl, by omega, by omega⟩⟩   -- leaf 3
            · refine r_eql m.sX (fun h6 => ?_) (fun h6 => ?_) <;> conv => cbv
              · refine r_mcall m.sX (cOfL_ok code a5 s5 ([([] : List UInt8), ([65] : List UInt8), ([97, 98, 99, 100, 101, 102, 103, 104, 105, 106] : List UInt8), ([97, 98, 99, 100, 101, 102, 103, 104, 105, 106, 107] : List UInt8)]) h (by omega) (by omega) (by first | rfl | assumption | omega | (simp only [List.length_append, List.length_cons, List.length_nil] at *; omega)) (by first | rfl | assumption | omega | (simp only [List.length_append, List.length_cons, List.length_nil] at *; omega))) ?_
                rintro _ _ ⟨q9, rfl, ⟨a9, s9, rfl, ea9, fa9⟩, bq9_1⟩
                conv => cbv
                exact hQ (.agg [.int .i64 q2, .int .i64 q3, .int .i64 q1, .str q9]) (cCur code a9 s9) ⟨(q2, q3, q1, q9), rfl, ⟨a9, s9, rfl, by omega, by omega⟩⟩   -- leaf 4
              · exact hQ (.agg [.int .i64 q2, .int .i64 q3, .int .i64 q1, .str q4]) (cCur code a5 s5) ⟨(q2, q3, q1, q4), rfl, ⟨a5, s5, rfl, by omega, by omega⟩⟩   -- leaf 5
      · refine r_eql m.sX (fun h7 => ?_) (fun h7 => ?_) <;> conv => cbv
        · refine r_mcall m.sX (cOfL_ok code a3 s3 ([([97] : List UInt8), ([98] : List UInt8), ([120, 121] : List UInt8), ([32] : List UInt8), ([116, 104, 101, 32] : List UInt8)]) h (by omega) (by omega) (by first | rfl | assumption | omega | (simp only [List.length_append, List.length_cons, List.length_nil] at *; omega)) (by first | rfl | assumption | omega | (simp only [List.length_append, List.length_cons, List.length_nil] at *; omega))) ?_
          rintro _ _ ⟨q10, rfl, ⟨a10, s10, rfl, ea10, fa10⟩, bq10_1⟩
          conv => cbv
          refine r_mcall m.sX (cPick_ok code a10 s10 40 h (by omega) (by omega)) ?_
          rintro _ _ ⟨q11, rfl, ⟨a11, s11, rfl, ea11, fa11⟩, bq11, cq11, dq11⟩
          conv => cbv
          refine r_eql m.sX (fun h8 => ?_) (fun h8 => ?_) <;> conv => cbv
          · refine r_mcall m.sX (cAmong_ok code a11 s11 ([11, 12, -1]) (by simp) h (by omega) (by omega)) ?_
            rintro _ _ ⟨q12, rfl, ⟨a12, s12, rfl, ea12, fa12⟩, bq12⟩
            simp only [List.mem_cons, List.not_mem_nil, or_false] at bq12
            conv => cbv
            exact hQ (.agg [.int .i64 q12, .int .i64 q3, .int .i64 q1, .str q10]) (cCur code a12 s12) ⟨(q12, q3, q1, q10), rfl, ⟨a12, s12, rfl, by omega, by omega⟩⟩   -- leaf 6
          · refine r_eql m.sX (fun h9 => ?_) (fun h9 => ?_) <;> conv => cbv
            · refine r_mcall m.sX (cAmong_ok code a11 s11 ([40, 41, -1]) (by simp) h (by omega) (by omega)) ?_
              rintro _ _ ⟨q13, rfl, ⟨a13, s13, rfl, ea13, fa13⟩, bq13⟩
              simp only [List.mem_cons, List.not_mem_nil, or_false] at bq13
              conv => cbv
              exact hQ (.agg [.int .i64 q2, .int .i64 q13, .int .i64 q1, .str q10]) (cCur code a13 s13) ⟨(q2, q13, q1, q10), rfl, ⟨a13, s13, rfl, by omega, by omega⟩⟩   -- leaf 7
            · refine r_eql m.sX (fun h10 => ?_) (fun h10 => ?_) <;> conv => cbv
              · refine r_mcall m.sX (cAmong_ok code a11 s11 ([0, 5]) (by simp) h (by omega) (by omega)) ?_
                rintro _ _ ⟨q14, rfl, ⟨a14, s14, rfl, ea14, fa14⟩, bq14⟩
                simp only [List.mem_cons, List.not_mem_nil, or_false] at bq14
                conv => cbv
                exact hQ (.agg [.int .i64 q2, .int .i64 q3, .int .i64 q14, .str q10]) (cCur code a14 s14) ⟨(q2, q3, q14, q10), rfl, ⟨a14, s14, rfl, by omega, by omega⟩⟩   -- leaf 8
              · refine r_eql m.sX (fun h11 => ?_) (fun h11 => ?_) <;> conv => cbv
                · refine r_mcall m.sX (cOfL_ok code a11 s11 ([([] : List UInt8), ([65] : List UInt8), ([97, 98, 99, 100, 101, 102, 103, 104, 105, 106] : List UInt8), ([97, 98, 99, 100, 101, 102, 103, 104, 105, 106, 107] : List UInt8)]) h (by omega) (by omega) (by first | rfl | assumption | omega | (simp only [List.length_append, List.length_cons, List.length_nil] at *; omega)) (by first | rfl | assumption | omega | (simp only [List.length_append, List.length_cons, List.length_nil] at *; omega))) ?_
                  rintro _ _ ⟨q15, rfl, ⟨a15, s15, rfl, ea15, fa15⟩, bq15_1⟩
                  conv => cbv
                  exact hQ (.agg [.int .i64 q2, .int .i64 q3, .int .i64 q1, .str q15]) (cCur code a15 s15) ⟨(q2, q3, q1, q15), rfl, ⟨a15, s15, rfl, by omega, by omega⟩⟩   -- leaf 9
                · exact hQ (.agg [.int .i64 q2, .int .i64 q3, .int .i64 q1, .str q10]) (cCur code a11 s11) ⟨(q2, q3, q1, q10), rfl, ⟨a11, s11, rfl, by omega, by omega⟩⟩   -- leaf 10
        · refine r_mcall m.sX (cPick_ok code a3 s3 40 h (by omega) (by omega)) ?_
          rintro _ _ ⟨q16, rfl, ⟨a16, s16, rfl, ea16, fa16⟩, bq16, cq16, dq16⟩
          conv => cbv
          refine r_eql m.sX (fun h12 => ?_) (fun h12 => ?_) <;> conv => cbv
          · refine r_mcall m.sX (cAmong_ok code a16 s16 ([11, 12, -1]) (by simp) h (by omega) (by omega)) ?_
            rintro _ _ ⟨q17, rfl, ⟨a17, s17, rfl, ea17, fa17⟩, bq17⟩
            simp only [List.mem_cons, List.not_mem_nil, or_false] at bq17
            conv => cbv
            exact hQ (.agg [.int .i64 q17, .int .i64 q3, .int .i64 q1, .str ([])]) (cCur code a17 s17) ⟨(q17, q3, q1, []), rfl, ⟨a17, s17, rfl, by omega, by omega⟩⟩   -- leaf 11
          · refine r_eql m.sX (fun h13 => ?_) (fun h13 => ?_) <;> conv => cbv
            · refine r_mcall m.sX (cAmong_ok code a16 s16 ([40, 41, -1]) (by simp) h (by omega) (by omega)) ?_
              rintro _ _ ⟨q18, rfl, ⟨a18, s18, rfl, ea18, fa18⟩, bq18⟩
              simp only [List.mem_cons, List.not_mem_nil, or_false] at bq18
              conv => cbv
              exact hQ (.agg [.int .i64 q2, .int .i64 q18, .int .i64 q1, .str ([])]) (cCur code a18 s18) ⟨(q2, q18, q1, []), rfl, ⟨a18, s18, rfl, by omega, by omega⟩⟩   -- leaf 12
            · refine r_eql m.sX (fun h14 => ?_) (fun h14 => ?_) <;> conv => cbv
              · refine r_mcall m.sX (cAmong_ok code a16 s16 ([0, 5]) (by simp) h (by omega) (by omega)) ?_
                rintro _ _ ⟨q19, rfl, ⟨a19, s19, rfl, ea19, fa19⟩, bq19⟩
                simp only [List.mem_cons, List.not_mem_nil, or_false] at bq19
                conv => cbv
                exact hQ (.agg [.int .i64 q2, .int .i64 q3, .int .i64 q19, .str ([])]) (cCur code a19 s19) ⟨(q2, q3, q19, []), rfl, ⟨a19, s19, rfl, by omega, by omega⟩⟩   -- leaf 13
              · refine r_eql m.sX (fun h15 => ?_) (fun h15 => ?_) <;> conv => cbv
                · refine r_mcall m.sX (cOfL_ok code a16 s16 ([([] : List UInt8), ([65] : List UInt8), ([97, 98, 99, 100, 101, 102, 103, 104, 105, 106] : List UInt8), ([97, 98, 99, 100, 101, 102, 103, 104, 105, 106, 107] : List UInt8)]) h (by omega) (by omega) (by first | rfl | assumption | omega | (simp only [List.length_append, List.length_cons, List.length_nil] at *; omega)) (by first | rfl | assumption | omega | (simp only [List.length_append, List.length_cons, List.length_nil] at *; omega))) ?_
                  rintro _ _ ⟨q20, rfl, ⟨a20, s20, rfl, ea20, fa20⟩, bq20_1⟩
                  conv => cbv
                  exact hQ (.agg [.int .i64 q2, .int .i64 q3, .int .i64 q1, .str q20]) (cCur code a20 s20) ⟨(q2, q3, q1, q20), rfl, ⟨a20, s20, rfl, by omega, by omega⟩⟩   -- leaf 14
                · exact hQ (.agg [.int .i64 q2, .int .i64 q3, .int .i64 q1, .str ([])]) (cCur code a16 s16) ⟨(q2, q3, q1, []), rfl, ⟨a16, s16, rfl, by omega, by omega⟩⟩   -- leaf 15
    · refine r_eql m.sX (fun h16 => ?_) (fun h16 => ?_) <;> conv => cbv
      · refine r_mcall m.sX (cOfL_ok code a1 s1 ([([97] : List UInt8), ([98] : List UInt8), ([120, 121] : List UInt8), ([32] : List UInt8), ([116, 104, 101, 32] : List UInt8)]) h (by omega) (by omega) (by first | rfl | assumption | omega | (simp only [List.length_append, List.length_cons, List.length_nil] at *; omega)) (by first | rfl | assumption | omega | (simp only [List.length_append, List.length_cons, List.length_nil] at *; omega))) ?_
        rintro _ _ ⟨q21, rfl, ⟨a21, s21, rfl, ea21, fa21⟩, bq21_1⟩
        conv => cbv
        refine r_mcall m.sX (cPick_ok code a21 s21 40 h (by omega) (by omega)) ?_
        rintro _ _ ⟨q22, rfl, ⟨a22, s22, rfl, ea22, fa22⟩, bq22, cq22, dq22⟩
        conv => cbv
        refine r_eql m.sX (fun h17 => ?_) (fun h17 => ?_) <;> conv => cbv
        · refine r_mcall m.sX (cAmong_ok code a22 s22 ([11, 12, -1]) (by simp) h (by omega) (by omega)) ?_
          rintro _ _ ⟨q23, rfl, ⟨a23, s23, rfl, ea23, fa23⟩, bq23⟩
          simp only [List.mem_cons, List.not_mem_nil, or_false] at bq23
          conv => cbv
          exact hQ (.agg [.int .i64 q23, .int .i64 0, .int .i64 q1, .str q21]) (cCur code a23 s23) ⟨(q23, 0, q1, q21), rfl, ⟨a23, s23, rfl, by omega, by omega⟩⟩   -- leaf 16
        · refine r_eql m.sX (fun h18 => ?_) (fun h18 => ?_) <;> conv => cbv
          · refine r_mcall m.sX (cAmong_ok code a22 s22 ([40, 41, -1]) (by simp) h (by omega) (by omega)) ?_
            rintro _ _ ⟨q24, rfl, ⟨a24, s24, rfl, ea24, fa24⟩, bq24⟩
            simp only [List.mem_cons, List.not_mem_nil, or_false] at bq24
            conv => cbv
            exact hQ (.agg [.int .i64 0, .int .i64 q24, .int .i64 q1, .str q21]) (cCur code a24 s24) ⟨(0, q24, q1, q21), rfl, ⟨a24, s24, rfl, by omega, by omega⟩⟩   -- leaf 17
          · refine r_eql m.sX (fun h19 => ?_) (fun h19 => ?_) <;> conv => cbv
            · refine r_mcall m.sX (cAmong_ok code a22 s22 ([0, 5]) (by simp) h (by omega) (by omega)) ?_
              rintro _ _ ⟨q25, rfl, ⟨a25, s25, rfl, ea25, fa25⟩, bq25⟩
              simp only [List.mem_cons, List.not_mem_nil, or_false] at bq25
              conv => cbv
              exact hQ (.agg [.int .i64 0, .int .i64 0, .int .i64 q25, .str q21]) (cCur code a25 s25) ⟨(0, 0, q25, q21), rfl, ⟨a25, s25, rfl, by omega, by omega⟩⟩   -- leaf 18
            · refine r_eql m.sX (fun h20 => ?_) (fun h20 => ?_) <;> conv => cbv
              · refine r_mcall m.sX (cOfL_ok code a22 s22 ([([] : List UInt8), ([65] : List UInt8), ([97, 98, 99, 100, 101, 102, 103, 104, 105, 106] : List UInt8), ([97, 98, 99, 100, 101, 102, 103, 104, 105, 106, 107] : List UInt8)]) h (by omega) (by omega) (by first | rfl | assumption | omega | (simp only [List.length_append, List.length_cons, List.length_nil] at *; omega)) (by first | rfl | assumption | omega | (simp only [List.length_append, List.length_cons, List.length_nil] at *; omega))) ?_
                rintro _ _ ⟨q26, rfl, ⟨a26, s26, rfl, ea26, fa26⟩, bq26_1⟩
                conv => cbv
                exact hQ (.agg [.int .i64 0, .int .i64 0, .int .i64 q1, .str q26]) (cCur code a26 s26) ⟨(0, 0, q1, q26), rfl, ⟨a26, s26, rfl, by omega, by omega⟩⟩   -- leaf 19
              · exact hQ (.agg [.int .i64 0, .int .i64 0, .int .i64 q1, .str q21]) (cCur code a22 s22) ⟨(0, 0, q1, q21), rfl, ⟨a22, s22, rfl, by omega, by omega⟩⟩   -- leaf 20
      · refine r_eql m.sX (fun h21 => ?_) (fun h21 => ?_) <;> conv => cbv
        · refine r_mcall m.sX (cOfL_ok code a1 s1 ([([97] : List UInt8), ([98] : List UInt8), ([120, 121] : List UInt8), ([32] : List UInt8), ([116, 104, 101, 32] : List UInt8)]) h (by omega) (by omega) (by first | rfl | assumption | omega | (simp only [List.length_append, List.length_cons, List.length_nil] at *; omega)) (by first | rfl | assumption | omega | (simp only [List.length_append, List.length_cons, List.length_nil] at *; omega))) ?_
          rintro _ _ ⟨q27, rfl, ⟨a27, s27, rfl, ea27, fa27⟩, bq27_1⟩
          conv => cbv
          refine r_mcall m.sX (cPick_ok code a27 s27 40 h (by omega) (by omega)) ?_
          rintro _ _ ⟨q28, rfl, ⟨a28, s28, rfl, ea28, fa28⟩, bq28, cq28, dq28⟩
          conv => cbv
          refine r_eql m.sX (fun h22 => ?_) (fun h22 => ?_) <;> conv => cbv
          · refine r_mcall m.sX (cAmong_ok code a28 s28 ([11, 12, -1]) (by simp) h (by omega) (by omega)) ?_
            rintro _ _ ⟨q29, rfl, ⟨a29, s29, rfl, ea29, fa29⟩, bq29⟩
            simp only [List.mem_cons, List.not_mem_nil, or_false] at bq29
            conv => cbv
            exact hQ (.agg [.int .i64 q29, .int .i64 0, .int .i64 q1, .str q27]) (cCur code a29 s29) ⟨(q29, 0, q1, q27), rfl, ⟨a29, s29, rfl, by omega, by omega⟩⟩   -- leaf 21
          · refine r_eql m.sX (fun h23 => ?_) (fun h23 => ?_) <;> conv => cbv
            · refine r_mcall m.sX (cAmong_ok code a28 s28 ([40, 41, -1]) (by simp) h (by omega) (by omega)) ?_
              rintro _ _ ⟨q30, rfl, ⟨a30, s30, rfl, ea30, fa30⟩, bq30⟩
              simp only [List.mem_cons, List.not_mem_nil, or_false] at bq30
              conv => cbv
              exact hQ (.agg [.int .i64 0, .int .i64 q30, .int .i64 q1, .str q27]) (cCur code a30 s30) ⟨(0, q30, q1, q27), rfl, ⟨a30, s30, rfl, by omega, by omega⟩⟩   -- leaf 22
            · refine r_eql m.sX (fun h24 => ?_) (fun h24 => ?_) <;> conv => cbv
              · refine r_mcall m.sX (cAmong_ok code a28 s28 ([0, 5]) (by simp) h (by omega) (by omega)) ?_
                rintro _ _ ⟨q31, rfl, ⟨a31, s31, rfl, ea31, fa31⟩, bq31⟩
                simp only [List.mem_cons, List.not_mem_nil, or_false] at bq31
                conv => cbv
                exact hQ (.agg [.int .i64 0, .int .i64 0, .int .i64 q31, .str q27]) (cCur code a31 s31) ⟨(0, 0, q31, q27), rfl, ⟨a31, s31, rfl, by omega, by omega⟩⟩   -- leaf 23
              · refine r_eql m.sX (fun h25 => ?_) (fun h25 => ?_) <;> conv => cbv
                · refine r_mcall m.sX (cOfL_ok code a28 s28 ([([] : List UInt8), ([65] : List UInt8), ([97, 98, 99, 100, 101, 102, 103, 104, 105, 106] : List UInt8), ([97, 98, 99, 100, 101, 102, 103, 104, 105, 106, 107] : List UInt8)]) h (by omega) (by omega) (by first | rfl | assumption | omega | (simp only [List.length_append, List.length_cons, List.length_nil] at *; omega)) (by first | rfl | assumption | omega | (simp only [List.length_append, List.length_cons, List.length_nil] at *; omega))) ?_
                  rintro _ _ ⟨q32, rfl, ⟨a32, s32, rfl, ea32, fa32⟩, bq32_1⟩
                  conv => cbv
                  exact hQ (.agg [.int .i64 0, .int .i64 0, .int .i64 q1, .str q32]) (cCur code a32 s32) ⟨(0, 0, q1, q32), rfl, ⟨a32, s32, rfl, by omega, by omega⟩⟩   -- leaf 24
                · exact hQ (.agg [.int .i64 0, .int .i64 0, .int .i64 q1, .str q27]) (cCur code a28 s28) ⟨(0, 0, q1, q27), rfl, ⟨a28, s28, rfl, by omega, by omega⟩⟩   -- leaf 25
        · refine r_mcall m.sX (cPick_ok code a1 s1 40 h (by omega) (by omega)) ?_
          rintro _ _ ⟨q33, rfl, ⟨a33, s33, rfl, ea33, fa33⟩, bq33, cq33, dq33⟩
          conv => cbv
          refine r_eql m.sX (fun h26 => ?_) (fun h26 => ?_) <;> conv => cbv
          · refine r_mcall m.sX (cAmong_ok code a33 s33 ([11, 12, -1]) (by simp) h (by omega) (by omega)) ?_
            rintro _ _ ⟨q34, rfl, ⟨a34, s34, rfl, ea34, fa34⟩, bq34⟩
            simp only [List.mem_cons, List.not_mem_nil, or_false] at bq34
            conv => cbv
            exact hQ (.agg [.int .i64 q34, .int .i64 0, .int .i64 q1, .str ([])]) (cCur code a34 s34) ⟨(q34, 0, q1, []), rfl, ⟨a34, s34, rfl, by omega, by omega⟩⟩   -- leaf 26
          · refine r_eql m.sX (fun h27 => ?_) (fun h27 => ?_) <;> conv => cbv
            · refine r_mcall m.sX (cAmong_ok code a33 s33 ([40, 41, -1]) (by simp) h (by omega) (by omega)) ?_
              rintro _ _ ⟨q35, rfl, ⟨a35, s35, rfl, ea35, fa35⟩, bq35⟩
              simp only [List.mem_cons, List.not_mem_nil, or_false] at bq35
              conv => cbv
              exact hQ (.agg [.int .i64 0, .int .i64 q35, .int .i64 q1, .str ([])]) (cCur code a35 s35) ⟨(0, q35, q1, []), rfl, ⟨a35, s35, rfl, by omega, by omega⟩⟩   -- leaf 27
            · refine r_eql m.sX (fun h28 => ?_) (fun h28 => ?_) <;> conv => cbv
              · refine r_mcall m.sX (cAmong_ok code a33 s33 ([0, 5]) (by simp) h (by omega) (by omega)) ?_
                rintro _ _ ⟨q36, rfl, ⟨a36, s36, rfl, ea36, fa36⟩, bq36⟩
                simp only [List.mem_cons, List.not_mem_nil, or_false] at bq36
                conv => cbv
                exact hQ (.agg [.int .i64 0, .int .i64 0, .int .i64 q36, .str ([])]) (cCur code a36 s36) ⟨(0, 0, q36, []), rfl, ⟨a36, s36, rfl, by omega, by omega⟩⟩   -- leaf 28
              · refine r_eql m.sX (fun h29 => ?_) (fun h29 => ?_) <;> conv => cbv
                · refine r_mcall m.sX (cOfL_ok code a33 s33 ([([] : List UInt8), ([65] : List UInt8), ([97, 98, 99, 100, 101, 102, 103, 104, 105, 106] : List UInt8), ([97, 98, 99, 100, 101, 102, 103, 104, 105, 106, 107] : List UInt8)]) h (by omega) (by omega) (by first | rfl | assumption | omega | (simp only [List.length_append, List.length_cons, List.length_nil] at *; omega)) (by first | rfl | assumption | omega | (simp only [List.length_append, List.length_cons, List.length_nil] at *; omega))) ?_
                  rintro _ _ ⟨q37, rfl, ⟨a37, s37, rfl, ea37, fa37⟩, bq37_1⟩
                  conv => cbv
                  exact hQ (.agg [.int .i64 0, .int .i64 0, .int .i64 q1, .str q37]) (cCur code a37 s37) ⟨(0, 0, q1, q37), rfl, ⟨a37, s37, rfl, by omega, by omega⟩⟩   -- leaf 29
                · exact hQ (.agg [.int .i64 0, .int .i64 0, .int .i64 q1, .str ([])]) (cCur code a33 s33) ⟨(0, 0, q1, []), rfl, ⟨a33, s33, rfl, by omega, by omega⟩⟩   -- leaf 30

theorem cMark_ex (code : List Int) (b0 t0 : Int) : ∃ r cs, (∃ (q : Mark), r = PV.agg (cMark q) ∧ CurTo code b0 20 cs) :=
  ⟨_, _, (0, 0, 0, []), rfl, ⟨b0, t0, rfl, by omega, by omega⟩⟩

end Go.Proofs.Ytngefbdedbbplaa.Ai
