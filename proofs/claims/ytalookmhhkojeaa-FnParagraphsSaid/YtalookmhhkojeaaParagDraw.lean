/- Contracts of what FnParagraphs draws. -/
import Derived.Test.YtalookmhhkojeaaSpecP
import Derived.Test.YtalookmhhkojeaaJustDraw
namespace Go.Proofs.Ytalookmhhkojeaa.Ai
open Go Go.Proofs
set_option linter.unusedSimpArgs false
set_option maxRecDepth 10000
set_option maxHeartbeats 4000000
set_option linter.unusedVariables false
theorem OkM.iceR {P : Program} {f : FuncId} {cs args : List PV} {Q : PV → List PV → Prop} (h : OkM P f cs args (fun r cs' => Q (Ai.ice r) cs')) : OkM P f cs args Q :=
  h.iceE.mono fun r cs' ⟨r0, q, e⟩ => by rw [e]; exact q
theorem cParagraph_ok (code : List Int) (b0 t0 : Int)  (h : CurIn code) (h0 : 0 ≤ b0) (hk : b0 ≤ 899999999999600000)  : OkM Try.prog 70 (cCur code b0 t0) [] (fun r cs => ∃ (q1 : List Int) (q2 : JRule) (q3 : Int), r = .tup [.isl 1 (rows cInt q1), .agg (cRule q2), .int .i64 q3] ∧ CurTo code b0 400 cs ∧ (q1.length ≤ 25)) :=
  OkM.iceR (fnM_intro envOk fieldsOk mixed Try.func70 rfl fun κ X Y L Q m hQ => by
    conv => cbv
    refine r_mcall m.sX (cPick_ok code b0 t0 10 h (by omega) (by omega)) ?_
    rintro _ _ ⟨q1, rfl, ⟨a1, s1, rfl, ea1, fa1⟩, bq1, cq1, dq1⟩
    conv => cbv
    refine r_addf m.sX (by omega) (by omega) fun n hn => ?_
    conv => cbv
    refine r_mcall m.sX (cOne_ok code a1 s1 12 h (by omega) (by omega)) ?_
    rintro _ _ ⟨q2, rfl, ⟨a2, s2, rfl, ea2, fa2⟩⟩
    conv => cbv
    rcases Bool.eq_false_or_eq_true q2 with rfl | rfl <;> conv => cbv
    · refine r_mcall m.sX (cAmong_ok code a2 s2 ([0, 24, 25, 22]) (by simp) h (by omega) (by omega)) ?_
      rintro _ _ ⟨n_2, rfl, ⟨a3, s3, rfl, ea3, fa3⟩, bn_2⟩
      simp only [List.mem_cons, List.not_mem_nil, or_false] at bn_2
      conv => cbv
      refine r_loopF (α := Int × Int × List Int) m 59 [6] [⟨0, 1, 0, 0, 0⟩, ⟨3, 25, 0, 0, 0⟩, ⟨5, 41, 3, 1, 0⟩] (fun σ => [(0, .optr 1 0 0 0 0), (3, .optr 25 0 3 0 0), (5, .osl 41 0), (6, .int .i64 n_2)]) (fun σ => [(1, 0, .box (cCur code σ.1 σ.2.1)), (25, 0, .box [.int .i64 0, .int .i64 0, .int .i64 0]), (41, 0, .row 3 1 (rows cInt σ.2.2))])
        (fun σ => ((σ.2.2.length : Int) ≤ n_2) ∧ (a3 ≤ σ.1 ∧ σ.1 ≤ a3 + 2 * (σ.2.2.length : Int)) ∧ ((σ.2.2.length : Int) ≤ n_2)) (fun σ => (n_2 - (σ.2.2.length : Int)).toNat) (a3, s3, []) ?_ ?_ ?_ ?_
      · cbv
      · (try dsimp only); (try simp only [rows_cons, rows_nil]); cbv
      · exact ⟨(by (try dsimp only); first | omega | (simp only [List.length_nil]; omega) | (simp only [List.length_cons, List.length_nil]; omega)), (by (try dsimp only); first | omega | (simp only [List.length_nil]; omega) | (simp only [List.length_cons, List.length_nil]; omega)), (by (try dsimp only) <;> (simp only [List.length_nil]; rcases bn_2 with q | q | q | q <;> (rw [q]; decide)))⟩
      rintro ⟨a4, s4, words⟩ ⟨ll1, cl1, wl⟩ E hE F hF
      dsimp only at ll1 cl1 wl
      conv => cbv
      refine r_lenR m.sX fun n1 hn1 mn1 => ?_
      conv => cbv
      refine r_lss m.sX (fun h1 => ?_) (fun h1 => ?_) <;> conv => cbv
      · refine r_mcall m.sX (cPick_ok code a4 s4 12 h (by omega) (by omega)) ?_
        rintro _ _ ⟨q3, rfl, ⟨a5, s5, rfl, ea5, fa5⟩, bq3, cq3, dq3⟩
        conv => cbv
        refine r_addf m.sX (by omega) (by omega) fun r1 hr1 => ?_
        conv => cbv
        refine r_append1 (r1) m.sX rfl (by first | omega | (dsimp only; omega)) (by first | omega | (dsimp only; omega)) fun words_2 hwords_2 => ?_
        conv => cbv
        have lwords_2 : (words_2.length : Int) = words.length + 1 := by rw [hwords_2]; first | done | (simp; done) | (simp; omega)
        refine hE _ (a5, s5, words_2) ?_ ?_ ⟨(by (try dsimp only); first | omega | (simp only [List.length_nil]; omega) | (simp only [List.length_cons, List.length_nil]; omega)), (by (try dsimp only); first | omega | (simp only [List.length_nil]; omega) | (simp only [List.length_cons, List.length_nil]; omega)), (by (try dsimp only) <;> first | omega | rfl | (simp [*]; done) | (rw [wl]; simp [*]; done))⟩ (by first | omega | (dsimp only; omega))
        · cbv
        · cbv
      · refine hF _ _ ?_
        conv => cbv
        refine r_mcall m.sX (cPick_ok code a4 s4 3 h (by omega) (by omega)) ?_
        rintro _ _ ⟨q4, rfl, ⟨a6, s6, rfl, ea6, fa6⟩, bq4, cq4, dq4⟩
        conv => cbv
        refine r_addf m.sX (by omega) (by omega) fun r2 hr2 => ?_
        conv => cbv
        refine r_mcall m.sX (cPick_ok code a6 s6 20 h (by omega) (by omega)) ?_
        rintro _ _ ⟨q5, rfl, ⟨a7, s7, rfl, ea7, fa7⟩, bq5, cq5, dq5⟩
        conv => cbv
        refine r_addf m.sX (by omega) (by omega) fun r3 hr3 => ?_
        conv => cbv
        refine r_mcall m.sX (cOne_ok code a7 s7 16 h (by omega) (by omega)) ?_
        rintro _ _ ⟨q6, rfl, ⟨a8, s8, rfl, ea8, fa8⟩⟩
        conv => cbv
        rcases Bool.eq_false_or_eq_true q6 with rfl | rfl <;> conv => cbv
        · refine r_mcall m.sX (cRule_ok code a8 s8 h (by omega) (by omega)) ?_
          rintro _ _ ⟨⟨rA, rB, rC⟩, e0, ⟨a9, s9, ec0, ea9, fa9⟩⟩; rw [e0, ec0]; clear e0 ec0
          conv => cbv
          refine r_gtr m.sX (fun h2 => ?_) (fun h2 => ?_) <;> conv => cbv
          · refine r_mcall m.sX (cOne_ok code a9 s9 20 h (by omega) (by omega)) ?_
            rintro _ _ ⟨q7, rfl, ⟨a10, s10, rfl, ea10, fa10⟩⟩
            conv => cbv
            rcases Bool.eq_false_or_eq_true q7 with rfl | rfl <;> conv => cbv
            · refine r_mcall m.sX (cPick_ok code a10 s10 n_2 h (by omega) (by omega)) ?_
              rintro _ _ ⟨q8, rfl, ⟨a11, s11, rfl, ea11, fa11⟩, bq8, cq8, dq8⟩
              conv => cbv
              refine r_mcall m.sX (cAmong_ok code a11 s11 ([600, 601, 0, 60]) (by simp) h (by omega) (by omega)) ?_
              rintro _ _ ⟨q9, rfl, ⟨a12, s12, rfl, ea12, fa12⟩, bq9⟩
              simp only [List.mem_cons, List.not_mem_nil, or_false] at bq9
              conv => cbv
              refine r_oindex m.sX (by omega) (by omega) ?_
              conv => cbv
              obtain ⟨y1, hy1⟩ := get_ex (xs := words) (i := Int.toNat q8) (by omega)
              refine r_ostore (l := Int.toNat q8) q9 m.sX hy1 (Nat.le_of_ble_eq_true rfl) rfl fun words_3 hwords_3 => ?_   -- words_3 = words.set q8 q9
              have lwords_3 : (words_3.length : Int) = words.length := by rw [hwords_3]; first | done | (simp; done) | (simp; omega)
              conv => cbv
              refine r_draw m (by kernel_rfl) ?_
              conv => cbv
              refine r_mcallS m.sY (cAmong_ok code a12 s12 ([30, 2000, 2001, 0]) (by simp) h (by omega) (by omega)) (cAmong_ex code a12 s12 ([30, 2000, 2001, 0]) (by simp)) (by rintro _ _ ⟨_, rfl, _⟩; first | trivial | (intro x hx; simp at hx; rcases hx with rfl | rfl | rfl <;> trivial)) ?_
              rintro _ _ ⟨q10, rfl, ⟨a13, s13, rfl, ea13, fa13⟩, bq10⟩
              simp only [List.mem_cons, List.not_mem_nil, or_false] at bq10
              conv => cbv
              refine r_mcallS m.sY (cAmong_ok code a13 s13 ([30, 40, 50, 60, 25, 100, q10]) (by simp) h (by omega) (by omega)) (cAmong_ex code a13 s13 ([30, 40, 50, 60, 25, 100, q10]) (by simp)) (by rintro _ _ ⟨_, rfl, _⟩; first | trivial | (intro x hx; simp at hx; rcases hx with rfl | rfl | rfl <;> trivial)) ?_
              rintro _ _ ⟨q11, rfl, ⟨a14, s14, rfl, ea14, fa14⟩, bq11⟩
              simp only [List.mem_cons, List.not_mem_nil, or_false] at bq11
              conv => cbv
              exact hQ (.tup [.fr 3 1 (rows cInt words_3), .agg [.int .i64 rA, .int .i64 rB, .int .i64 rC], .int .i64 q11]) (cCur code a14 s14) ⟨words_3, (rA, rB, rC), q11, rfl, ⟨a14, s14, rfl, by omega, by omega⟩, (by first | omega | assumption | (simp; done) | (simp [*]; done) | (simp at *; omega))⟩   -- leaf 1
            · refine r_draw m (by kernel_rfl) ?_
              conv => cbv
              refine r_mcallS m.sY (cAmong_ok code a10 s10 ([30, 2000, 2001, 0]) (by simp) h (by omega) (by omega)) (cAmong_ex code a10 s10 ([30, 2000, 2001, 0]) (by simp)) (by rintro _ _ ⟨_, rfl, _⟩; first | trivial | (intro x hx; simp at hx; rcases hx with rfl | rfl | rfl <;> trivial)) ?_
              rintro _ _ ⟨q12, rfl, ⟨a15, s15, rfl, ea15, fa15⟩, bq12⟩
              simp only [List.mem_cons, List.not_mem_nil, or_false] at bq12
              conv => cbv
              refine r_mcallS m.sY (cAmong_ok code a15 s15 ([30, 40, 50, 60, 25, 100, q12]) (by simp) h (by omega) (by omega)) (cAmong_ex code a15 s15 ([30, 40, 50, 60, 25, 100, q12]) (by simp)) (by rintro _ _ ⟨_, rfl, _⟩; first | trivial | (intro x hx; simp at hx; rcases hx with rfl | rfl | rfl <;> trivial)) ?_
              rintro _ _ ⟨q13, rfl, ⟨a16, s16, rfl, ea16, fa16⟩, bq13⟩
              simp only [List.mem_cons, List.not_mem_nil, or_false] at bq13
              conv => cbv
              exact hQ (.tup [.fr 3 1 (rows cInt words), .agg [.int .i64 rA, .int .i64 rB, .int .i64 rC], .int .i64 q13]) (cCur code a16 s16) ⟨words, (rA, rB, rC), q13, rfl, ⟨a16, s16, rfl, by omega, by omega⟩, (by first | omega | assumption | (simp; done) | (simp [*]; done) | (simp at *; omega))⟩   -- leaf 2
          · refine r_draw m (by kernel_rfl) ?_
            conv => cbv
            refine r_mcallS m.sY (cAmong_ok code a9 s9 ([30, 2000, 2001, 0]) (by simp) h (by omega) (by omega)) (cAmong_ex code a9 s9 ([30, 2000, 2001, 0]) (by simp)) (by rintro _ _ ⟨_, rfl, _⟩; first | trivial | (intro x hx; simp at hx; rcases hx with rfl | rfl | rfl <;> trivial)) ?_
            rintro _ _ ⟨q14, rfl, ⟨a17, s17, rfl, ea17, fa17⟩, bq14⟩
            simp only [List.mem_cons, List.not_mem_nil, or_false] at bq14
            conv => cbv
            refine r_mcallS m.sY (cAmong_ok code a17 s17 ([30, 40, 50, 60, 25, 100, q14]) (by simp) h (by omega) (by omega)) (cAmong_ex code a17 s17 ([30, 40, 50, 60, 25, 100, q14]) (by simp)) (by rintro _ _ ⟨_, rfl, _⟩; first | trivial | (intro x hx; simp at hx; rcases hx with rfl | rfl | rfl <;> trivial)) ?_
            rintro _ _ ⟨q15, rfl, ⟨a18, s18, rfl, ea18, fa18⟩, bq15⟩
            simp only [List.mem_cons, List.not_mem_nil, or_false] at bq15
            conv => cbv
            exact hQ (.tup [.fr 3 1 (rows cInt words), .agg [.int .i64 rA, .int .i64 rB, .int .i64 rC], .int .i64 q15]) (cCur code a18 s18) ⟨words, (rA, rB, rC), q15, rfl, ⟨a18, s18, rfl, by omega, by omega⟩, (by first | omega | assumption | (simp; done) | (simp [*]; done) | (simp at *; omega))⟩   -- leaf 3
        · refine r_gtr m.sX (fun h3 => ?_) (fun h3 => ?_) <;> conv => cbv
          · refine r_mcall m.sX (cOne_ok code a8 s8 20 h (by omega) (by omega)) ?_
            rintro _ _ ⟨q16, rfl, ⟨a19, s19, rfl, ea19, fa19⟩⟩
            conv => cbv
            rcases Bool.eq_false_or_eq_true q16 with rfl | rfl <;> conv => cbv
            · refine r_mcall m.sX (cPick_ok code a19 s19 n_2 h (by omega) (by omega)) ?_
              rintro _ _ ⟨q17, rfl, ⟨a20, s20, rfl, ea20, fa20⟩, bq17, cq17, dq17⟩
              conv => cbv
              refine r_mcall m.sX (cAmong_ok code a20 s20 ([600, 601, 0, 60]) (by simp) h (by omega) (by omega)) ?_
              rintro _ _ ⟨q18, rfl, ⟨a21, s21, rfl, ea21, fa21⟩, bq18⟩
              simp only [List.mem_cons, List.not_mem_nil, or_false] at bq18
              conv => cbv
              refine r_oindex m.sX (by omega) (by omega) ?_
              conv => cbv
              obtain ⟨y2, hy2⟩ := get_ex (xs := words) (i := Int.toNat q17) (by omega)
              refine r_ostore (l := Int.toNat q17) q18 m.sX hy2 (Nat.le_of_ble_eq_true rfl) rfl fun words_4 hwords_4 => ?_   -- words_4 = words.set q17 q18
              have lwords_4 : (words_4.length : Int) = words.length := by rw [hwords_4]; first | done | (simp; done) | (simp; omega)
              conv => cbv
              refine r_draw m (by kernel_rfl) ?_
              conv => cbv
              refine r_mcallS m.sY (cAmong_ok code a21 s21 ([30, 2000, 2001, 0]) (by simp) h (by omega) (by omega)) (cAmong_ex code a21 s21 ([30, 2000, 2001, 0]) (by simp)) (by rintro _ _ ⟨_, rfl, _⟩; first | trivial | (intro x hx; simp at hx; rcases hx with rfl | rfl | rfl <;> trivial)) ?_
              rintro _ _ ⟨q19, rfl, ⟨a22, s22, rfl, ea22, fa22⟩, bq19⟩
              simp only [List.mem_cons, List.not_mem_nil, or_false] at bq19
              conv => cbv
              refine r_mcallS m.sY (cAmong_ok code a22 s22 ([30, 40, 50, 60, 25, 100, q19]) (by simp) h (by omega) (by omega)) (cAmong_ex code a22 s22 ([30, 40, 50, 60, 25, 100, q19]) (by simp)) (by rintro _ _ ⟨_, rfl, _⟩; first | trivial | (intro x hx; simp at hx; rcases hx with rfl | rfl | rfl <;> trivial)) ?_
              rintro _ _ ⟨q20, rfl, ⟨a23, s23, rfl, ea23, fa23⟩, bq20⟩
              simp only [List.mem_cons, List.not_mem_nil, or_false] at bq20
              conv => cbv
              exact hQ (.tup [.fr 3 1 (rows cInt words_4), .agg [.int .i64 r2, .int .i64 4, .int .i64 r3], .int .i64 q20]) (cCur code a23 s23) ⟨words_4, (r2, 4, r3), q20, rfl, ⟨a23, s23, rfl, by omega, by omega⟩, (by first | omega | assumption | (simp; done) | (simp [*]; done) | (simp at *; omega))⟩   -- leaf 4
            · refine r_draw m (by kernel_rfl) ?_
              conv => cbv
              refine r_mcallS m.sY (cAmong_ok code a19 s19 ([30, 2000, 2001, 0]) (by simp) h (by omega) (by omega)) (cAmong_ex code a19 s19 ([30, 2000, 2001, 0]) (by simp)) (by rintro _ _ ⟨_, rfl, _⟩; first | trivial | (intro x hx; simp at hx; rcases hx with rfl | rfl | rfl <;> trivial)) ?_
              rintro _ _ ⟨q21, rfl, ⟨a24, s24, rfl, ea24, fa24⟩, bq21⟩
              simp only [List.mem_cons, List.not_mem_nil, or_false] at bq21
              conv => cbv
              refine r_mcallS m.sY (cAmong_ok code a24 s24 ([30, 40, 50, 60, 25, 100, q21]) (by simp) h (by omega) (by omega)) (cAmong_ex code a24 s24 ([30, 40, 50, 60, 25, 100, q21]) (by simp)) (by rintro _ _ ⟨_, rfl, _⟩; first | trivial | (intro x hx; simp at hx; rcases hx with rfl | rfl | rfl <;> trivial)) ?_
              rintro _ _ ⟨q22, rfl, ⟨a25, s25, rfl, ea25, fa25⟩, bq22⟩
              simp only [List.mem_cons, List.not_mem_nil, or_false] at bq22
              conv => cbv
              exact hQ (.tup [.fr 3 1 (rows cInt words), .agg [.int .i64 r2, .int .i64 4, .int .i64 r3], .int .i64 q22]) (cCur code a25 s25) ⟨words, (r2, 4, r3), q22, rfl, ⟨a25, s25, rfl, by omega, by omega⟩, (by first | omega | assumption | (simp; done) | (simp [*]; done) | (simp at *; omega))⟩   -- leaf 5
          · refine r_draw m (by kernel_rfl) ?_
            conv => cbv
            refine r_mcallS m.sY (cAmong_ok code a8 s8 ([30, 2000, 2001, 0]) (by simp) h (by omega) (by omega)) (cAmong_ex code a8 s8 ([30, 2000, 2001, 0]) (by simp)) (by rintro _ _ ⟨_, rfl, _⟩; first | trivial | (intro x hx; simp at hx; rcases hx with rfl | rfl | rfl <;> trivial)) ?_
            rintro _ _ ⟨q23, rfl, ⟨a26, s26, rfl, ea26, fa26⟩, bq23⟩
            simp only [List.mem_cons, List.not_mem_nil, or_false] at bq23
            conv => cbv
            refine r_mcallS m.sY (cAmong_ok code a26 s26 ([30, 40, 50, 60, 25, 100, q23]) (by simp) h (by omega) (by omega)) (cAmong_ex code a26 s26 ([30, 40, 50, 60, 25, 100, q23]) (by simp)) (by rintro _ _ ⟨_, rfl, _⟩; first | trivial | (intro x hx; simp at hx; rcases hx with rfl | rfl | rfl <;> trivial)) ?_
            rintro _ _ ⟨q24, rfl, ⟨a27, s27, rfl, ea27, fa27⟩, bq24⟩
            simp only [List.mem_cons, List.not_mem_nil, or_false] at bq24
            conv => cbv
            exact hQ (.tup [.fr 3 1 (rows cInt words), .agg [.int .i64 r2, .int .i64 4, .int .i64 r3], .int .i64 q24]) (cCur code a27 s27) ⟨words, (r2, 4, r3), q24, rfl, ⟨a27, s27, rfl, by omega, by omega⟩, (by first | omega | assumption | (simp; done) | (simp [*]; done) | (simp at *; omega))⟩   -- leaf 6
    · refine r_loopF (α := Int × Int × List Int) m 59 [6] [⟨0, 1, 0, 0, 0⟩, ⟨3, 25, 0, 0, 0⟩, ⟨5, 41, 3, 1, 0⟩] (fun σ => [(0, .optr 1 0 0 0 0), (3, .optr 25 0 3 0 0), (5, .osl 41 0), (6, .int .i64 n)]) (fun σ => [(1, 0, .box (cCur code σ.1 σ.2.1)), (25, 0, .box [.int .i64 0, .int .i64 0, .int .i64 0]), (41, 0, .row 3 1 (rows cInt σ.2.2))])
        (fun σ => ((σ.2.2.length : Int) ≤ n) ∧ (a2 ≤ σ.1 ∧ σ.1 ≤ a2 + 2 * (σ.2.2.length : Int)) ∧ ((σ.2.2.length : Int) ≤ n)) (fun σ => (n - (σ.2.2.length : Int)).toNat) (a2, s2, []) ?_ ?_ ?_ ?_
      · cbv
      · (try dsimp only); (try simp only [rows_cons, rows_nil]); cbv
      · exact ⟨(by (try dsimp only); first | omega | (simp only [List.length_nil]; omega) | (simp only [List.length_cons, List.length_nil]; omega)), (by (try dsimp only); first | omega | (simp only [List.length_nil]; omega) | (simp only [List.length_cons, List.length_nil]; omega)), (by (try dsimp only) <;> (simp only [List.length_nil]; omega))⟩
      rintro ⟨a28, s28, words_5⟩ ⟨ll2, cl2, wl⟩ E hE F hF
      dsimp only at ll2 cl2 wl
      conv => cbv
      refine r_lenR m.sX fun n2 hn2 mn2 => ?_
      conv => cbv
      refine r_lss m.sX (fun h4 => ?_) (fun h4 => ?_) <;> conv => cbv
      · refine r_mcall m.sX (cPick_ok code a28 s28 12 h (by omega) (by omega)) ?_
        rintro _ _ ⟨q25, rfl, ⟨a29, s29, rfl, ea29, fa29⟩, bq25, cq25, dq25⟩
        conv => cbv
        refine r_addf m.sX (by omega) (by omega) fun r4 hr4 => ?_
        conv => cbv
        refine r_append1 (r4) m.sX rfl (by first | omega | (dsimp only; omega)) (by first | omega | (dsimp only; omega)) fun words_6 hwords_6 => ?_
        conv => cbv
        have lwords_6 : (words_6.length : Int) = words_5.length + 1 := by rw [hwords_6]; first | done | (simp; done) | (simp; omega)
        refine hE _ (a29, s29, words_6) ?_ ?_ ⟨(by (try dsimp only); first | omega | (simp only [List.length_nil]; omega) | (simp only [List.length_cons, List.length_nil]; omega)), (by (try dsimp only); first | omega | (simp only [List.length_nil]; omega) | (simp only [List.length_cons, List.length_nil]; omega)), (by (try dsimp only) <;> first | omega | rfl | (simp [*]; done) | (rw [wl]; simp [*]; done))⟩ (by first | omega | (dsimp only; omega))
        · cbv
        · cbv
      · refine hF _ _ ?_
        conv => cbv
        refine r_mcall m.sX (cPick_ok code a28 s28 3 h (by omega) (by omega)) ?_
        rintro _ _ ⟨q26, rfl, ⟨a30, s30, rfl, ea30, fa30⟩, bq26, cq26, dq26⟩
        conv => cbv
        refine r_addf m.sX (by omega) (by omega) fun r5 hr5 => ?_
        conv => cbv
        refine r_mcall m.sX (cPick_ok code a30 s30 20 h (by omega) (by omega)) ?_
        rintro _ _ ⟨q27, rfl, ⟨a31, s31, rfl, ea31, fa31⟩, bq27, cq27, dq27⟩
        conv => cbv
        refine r_addf m.sX (by omega) (by omega) fun r6 hr6 => ?_
        conv => cbv
        refine r_mcall m.sX (cOne_ok code a31 s31 16 h (by omega) (by omega)) ?_
        rintro _ _ ⟨q28, rfl, ⟨a32, s32, rfl, ea32, fa32⟩⟩
        conv => cbv
        rcases Bool.eq_false_or_eq_true q28 with rfl | rfl <;> conv => cbv
        · refine r_mcall m.sX (cRule_ok code a32 s32 h (by omega) (by omega)) ?_
          rintro _ _ ⟨⟨r_2A, r_2B, r_2C⟩, e0, ⟨a33, s33, ec0, ea33, fa33⟩⟩; rw [e0, ec0]; clear e0 ec0
          conv => cbv
          refine r_gtr m.sX (fun h5 => ?_) (fun h5 => ?_) <;> conv => cbv
          · refine r_mcall m.sX (cOne_ok code a33 s33 20 h (by omega) (by omega)) ?_
            rintro _ _ ⟨q29, rfl, ⟨a34, s34, rfl, ea34, fa34⟩⟩
            conv => cbv
            rcases Bool.eq_false_or_eq_true q29 with rfl | rfl <;> conv => cbv
            · refine r_mcall m.sX (cPick_ok code a34 s34 n h (by omega) (by omega)) ?_
              rintro _ _ ⟨q30, rfl, ⟨a35, s35, rfl, ea35, fa35⟩, bq30, cq30, dq30⟩
              conv => cbv
              refine r_mcall m.sX (cAmong_ok code a35 s35 ([600, 601, 0, 60]) (by simp) h (by omega) (by omega)) ?_
              rintro _ _ ⟨q31, rfl, ⟨a36, s36, rfl, ea36, fa36⟩, bq31⟩
              simp only [List.mem_cons, List.not_mem_nil, or_false] at bq31
              conv => cbv
              refine r_oindex m.sX (by omega) (by omega) ?_
              conv => cbv
              obtain ⟨y3, hy3⟩ := get_ex (xs := words_5) (i := Int.toNat q30) (by omega)
              refine r_ostore (l := Int.toNat q30) q31 m.sX hy3 (Nat.le_of_ble_eq_true rfl) rfl fun words_7 hwords_7 => ?_   -- words_7 = words_5.set q30 q31
              have lwords_7 : (words_7.length : Int) = words_5.length := by rw [hwords_7]; first | done | (simp; done) | (simp; omega)
              conv => cbv
              refine r_draw m (by kernel_rfl) ?_
              conv => cbv
              refine r_mcallS m.sY (cAmong_ok code a36 s36 ([30, 2000, 2001, 0]) (by simp) h (by omega) (by omega)) (cAmong_ex code a36 s36 ([30, 2000, 2001, 0]) (by simp)) (by rintro _ _ ⟨_, rfl, _⟩; first | trivial | (intro x hx; simp at hx; rcases hx with rfl | rfl | rfl <;> trivial)) ?_
              rintro _ _ ⟨q32, rfl, ⟨a37, s37, rfl, ea37, fa37⟩, bq32⟩
              simp only [List.mem_cons, List.not_mem_nil, or_false] at bq32
              conv => cbv
              refine r_mcallS m.sY (cAmong_ok code a37 s37 ([30, 40, 50, 60, 25, 100, q32]) (by simp) h (by omega) (by omega)) (cAmong_ex code a37 s37 ([30, 40, 50, 60, 25, 100, q32]) (by simp)) (by rintro _ _ ⟨_, rfl, _⟩; first | trivial | (intro x hx; simp at hx; rcases hx with rfl | rfl | rfl <;> trivial)) ?_
              rintro _ _ ⟨q33, rfl, ⟨a38, s38, rfl, ea38, fa38⟩, bq33⟩
              simp only [List.mem_cons, List.not_mem_nil, or_false] at bq33
              conv => cbv
              exact hQ (.tup [.fr 3 1 (rows cInt words_7), .agg [.int .i64 r_2A, .int .i64 r_2B, .int .i64 r_2C], .int .i64 q33]) (cCur code a38 s38) ⟨words_7, (r_2A, r_2B, r_2C), q33, rfl, ⟨a38, s38, rfl, by omega, by omega⟩, (by first | omega | assumption | (simp; done) | (simp [*]; done) | (simp at *; omega))⟩   -- leaf 7
            · refine r_draw m (by kernel_rfl) ?_
              conv => cbv
              refine r_mcallS m.sY (cAmong_ok code a34 s34 ([30, 2000, 2001, 0]) (by simp) h (by omega) (by omega)) (cAmong_ex code a34 s34 ([30, 2000, 2001, 0]) (by simp)) (by rintro _ _ ⟨_, rfl, _⟩; first | trivial | (intro x hx; simp at hx; rcases hx with rfl | rfl | rfl <;> trivial)) ?_
              rintro _ _ ⟨q34, rfl, ⟨a39, s39, rfl, ea39, fa39⟩, bq34⟩
              simp only [List.mem_cons, List.not_mem_nil, or_false] at bq34
              conv => cbv
              refine r_mcallS m.sY (cAmong_ok code a39 s39 ([30, 40, 50, 60, 25, 100, q34]) (by simp) h (by omega) (by omega)) (cAmong_ex code a39 s39 ([30, 40, 50, 60, 25, 100, q34]) (by simp)) (by rintro _ _ ⟨_, rfl, _⟩; first | trivial | (intro x hx; simp at hx; rcases hx with rfl | rfl | rfl <;> trivial)) ?_
              rintro _ _ ⟨q35, rfl, ⟨a40, s40, rfl, ea40, fa40⟩, bq35⟩
              simp only [List.mem_cons, List.not_mem_nil, or_false] at bq35
              conv => cbv
              exact hQ (.tup [.fr 3 1 (rows cInt words_5), .agg [.int .i64 r_2A, .int .i64 r_2B, .int .i64 r_2C], .int .i64 q35]) (cCur code a40 s40) ⟨words_5, (r_2A, r_2B, r_2C), q35, rfl, ⟨a40, s40, rfl, by omega, by omega⟩, (by first | omega | assumption | (simp; done) | (simp [*]; done) | (simp at *; omega))⟩   -- leaf 8
          · refine r_draw m (by kernel_rfl) ?_
            conv => cbv
            refine r_mcallS m.sY (cAmong_ok code a33 s33 ([30, 2000, 2001, 0]) (by simp) h (by omega) (by omega)) (cAmong_ex code a33 s33 ([30, 2000, 2001, 0]) (by simp)) (by rintro _ _ ⟨_, rfl, _⟩; first | trivial | (intro x hx; simp at hx; rcases hx with rfl | rfl | rfl <;> trivial)) ?_
            rintro _ _ ⟨q36, rfl, ⟨a41, s41, rfl, ea41, fa41⟩, bq36⟩
            simp only [List.mem_cons, List.not_mem_nil, or_false] at bq36
            conv => cbv
            refine r_mcallS m.sY (cAmong_ok code a41 s41 ([30, 40, 50, 60, 25, 100, q36]) (by simp) h (by omega) (by omega)) (cAmong_ex code a41 s41 ([30, 40, 50, 60, 25, 100, q36]) (by simp)) (by rintro _ _ ⟨_, rfl, _⟩; first | trivial | (intro x hx; simp at hx; rcases hx with rfl | rfl | rfl <;> trivial)) ?_
            rintro _ _ ⟨q37, rfl, ⟨a42, s42, rfl, ea42, fa42⟩, bq37⟩
            simp only [List.mem_cons, List.not_mem_nil, or_false] at bq37
            conv => cbv
            exact hQ (.tup [.fr 3 1 (rows cInt words_5), .agg [.int .i64 r_2A, .int .i64 r_2B, .int .i64 r_2C], .int .i64 q37]) (cCur code a42 s42) ⟨words_5, (r_2A, r_2B, r_2C), q37, rfl, ⟨a42, s42, rfl, by omega, by omega⟩, (by first | omega | assumption | (simp; done) | (simp [*]; done) | (simp at *; omega))⟩   -- leaf 9
        · refine r_gtr m.sX (fun h6 => ?_) (fun h6 => ?_) <;> conv => cbv
          · refine r_mcall m.sX (cOne_ok code a32 s32 20 h (by omega) (by omega)) ?_
            rintro _ _ ⟨q38, rfl, ⟨a43, s43, rfl, ea43, fa43⟩⟩
            conv => cbv
            rcases Bool.eq_false_or_eq_true q38 with rfl | rfl <;> conv => cbv
            · refine r_mcall m.sX (cPick_ok code a43 s43 n h (by omega) (by omega)) ?_
              rintro _ _ ⟨q39, rfl, ⟨a44, s44, rfl, ea44, fa44⟩, bq39, cq39, dq39⟩
              conv => cbv
              refine r_mcall m.sX (cAmong_ok code a44 s44 ([600, 601, 0, 60]) (by simp) h (by omega) (by omega)) ?_
              rintro _ _ ⟨q40, rfl, ⟨a45, s45, rfl, ea45, fa45⟩, bq40⟩
              simp only [List.mem_cons, List.not_mem_nil, or_false] at bq40
              conv => cbv
              refine r_oindex m.sX (by omega) (by omega) ?_
              conv => cbv
              obtain ⟨y4, hy4⟩ := get_ex (xs := words_5) (i := Int.toNat q39) (by omega)
              refine r_ostore (l := Int.toNat q39) q40 m.sX hy4 (Nat.le_of_ble_eq_true rfl) rfl fun words_8 hwords_8 => ?_   -- words_8 = words_5.set q39 q40
              have lwords_8 : (words_8.length : Int) = words_5.length := by rw [hwords_8]; first | done | (simp; done) | (simp; omega)
              conv => cbv
              refine r_draw m (by kernel_rfl) ?_
              conv => cbv
              refine r_mcallS m.sY (cAmong_ok code a45 s45 ([30, 2000, 2001, 0]) (by simp) h (by omega) (by omega)) (cAmong_ex code a45 s45 ([30, 2000, 2001, 0]) (by simp)) (by rintro _ _ ⟨_, rfl, _⟩; first | trivial | (intro x hx; simp at hx; rcases hx with rfl | rfl | rfl <;> trivial)) ?_
              rintro _ _ ⟨q41, rfl, ⟨a46, s46, rfl, ea46, fa46⟩, bq41⟩
              simp only [List.mem_cons, List.not_mem_nil, or_false] at bq41
              conv => cbv
              refine r_mcallS m.sY (cAmong_ok code a46 s46 ([30, 40, 50, 60, 25, 100, q41]) (by simp) h (by omega) (by omega)) (cAmong_ex code a46 s46 ([30, 40, 50, 60, 25, 100, q41]) (by simp)) (by rintro _ _ ⟨_, rfl, _⟩; first | trivial | (intro x hx; simp at hx; rcases hx with rfl | rfl | rfl <;> trivial)) ?_
              rintro _ _ ⟨q42, rfl, ⟨a47, s47, rfl, ea47, fa47⟩, bq42⟩
              simp only [List.mem_cons, List.not_mem_nil, or_false] at bq42
              conv => cbv
              exact hQ (.tup [.fr 3 1 (rows cInt words_8), .agg [.int .i64 r5, .int .i64 4, .int .i64 r6], .int .i64 q42]) (cCur code a47 s47) ⟨words_8, (r5, 4, r6), q42, rfl, ⟨a47, s47, rfl, by omega, by omega⟩, (by first | omega | assumption | (simp; done) | (simp [*]; done) | (simp at *; omega))⟩   -- leaf 10
            · refine r_draw m (by kernel_rfl) ?_
              conv => cbv
              refine r_mcallS m.sY (cAmong_ok code a43 s43 ([30, 2000, 2001, 0]) (by simp) h (by omega) (by omega)) (cAmong_ex code a43 s43 ([30, 2000, 2001, 0]) (by simp)) (by rintro _ _ ⟨_, rfl, _⟩; first | trivial | (intro x hx; simp at hx; rcases hx with rfl | rfl | rfl <;> trivial)) ?_
              rintro _ _ ⟨q43, rfl, ⟨a48, s48, rfl, ea48, fa48⟩, bq43⟩
              simp only [List.mem_cons, List.not_mem_nil, or_false] at bq43
              conv => cbv
              refine r_mcallS m.sY (cAmong_ok code a48 s48 ([30, 40, 50, 60, 25, 100, q43]) (by simp) h (by omega) (by omega)) (cAmong_ex code a48 s48 ([30, 40, 50, 60, 25, 100, q43]) (by simp)) (by rintro _ _ ⟨_, rfl, _⟩; first | trivial | (intro x hx; simp at hx; rcases hx with rfl | rfl | rfl <;> trivial)) ?_
              rintro _ _ ⟨q44, rfl, ⟨a49, s49, rfl, ea49, fa49⟩, bq44⟩
              simp only [List.mem_cons, List.not_mem_nil, or_false] at bq44
              conv => cbv
              exact hQ (.tup [.fr 3 1 (rows cInt words_5), .agg [.int .i64 r5, .int .i64 4, .int .i64 r6], .int .i64 q44]) (cCur code a49 s49) ⟨words_5, (r5, 4, r6), q44, rfl, ⟨a49, s49, rfl, by omega, by omega⟩, (by first | omega | assumption | (simp; done) | (simp [*]; done) | (simp at *; omega))⟩   -- leaf 11
          · refine r_draw m (by kernel_rfl) ?_
            conv => cbv
            refine r_mcallS m.sY (cAmong_ok code a32 s32 ([30, 2000, 2001, 0]) (by simp) h (by omega) (by omega)) (cAmong_ex code a32 s32 ([30, 2000, 2001, 0]) (by simp)) (by rintro _ _ ⟨_, rfl, _⟩; first | trivial | (intro x hx; simp at hx; rcases hx with rfl | rfl | rfl <;> trivial)) ?_
            rintro _ _ ⟨q45, rfl, ⟨a50, s50, rfl, ea50, fa50⟩, bq45⟩
            simp only [List.mem_cons, List.not_mem_nil, or_false] at bq45
            conv => cbv
            refine r_mcallS m.sY (cAmong_ok code a50 s50 ([30, 40, 50, 60, 25, 100, q45]) (by simp) h (by omega) (by omega)) (cAmong_ex code a50 s50 ([30, 40, 50, 60, 25, 100, q45]) (by simp)) (by rintro _ _ ⟨_, rfl, _⟩; first | trivial | (intro x hx; simp at hx; rcases hx with rfl | rfl | rfl <;> trivial)) ?_
            rintro _ _ ⟨q46, rfl, ⟨a51, s51, rfl, ea51, fa51⟩, bq46⟩
            simp only [List.mem_cons, List.not_mem_nil, or_false] at bq46
            conv => cbv
            exact hQ (.tup [.fr 3 1 (rows cInt words_5), .agg [.int .i64 r5, .int .i64 4, .int .i64 r6], .int .i64 q46]) (cCur code a51 s51) ⟨words_5, (r5, 4, r6), q46, rfl, ⟨a51, s51, rfl, by omega, by omega⟩, (by first | omega | assumption | (simp; done) | (simp [*]; done) | (simp at *; omega))⟩)   -- leaf 12

theorem cParagraph_ex (code : List Int) (b0 t0 : Int) : ∃ r cs, (∃ (q1 : List Int) (q2 : JRule) (q3 : Int), r = PV.tup [.isl 1 (rows cInt q1), .agg (cRule q2), .int .i64 q3] ∧ CurTo code b0 400 cs ∧ (q1.length ≤ 25)) :=
  ⟨_, _, [], (0, 0, 0), 0, rfl, ⟨b0, t0, rfl, by omega, by omega⟩, (by first | omega | simp)⟩

theorem cBreaksOf_ok (code : List Int) (b0 t0 : Int) (words : List Int) (h : CurIn code) (h0 : 0 ≤ b0) (hk : b0 ≤ 899999999999800000) (hl : (words.length : Int) ≤ 60) : OkM Try.prog 73 (cCur code b0 t0) [.isl 1 (rows cInt words)] (fun r cs => ∃ (q : List Int), r = .isl 1 (rows cInt q) ∧ CurTo code b0 200 cs ∧ ((q.length : Int) ≤ 62)) :=
  OkM.iceR (fnM_intro envOk fieldsOk mixed Try.func73 rfl fun κ X Y L Q m hQ => by
    conv => cbv
    refine r_loopF (α := Int × Int × List Int × Int) m 30 [1, 6] [⟨0, 1, 0, 0, 0⟩, ⟨5, 41, 3, 1, 0⟩] (fun σ => [(0, .optr 1 0 0 0 0), (1, .isl 1 (rows cInt words)), (5, .osl 41 0), (6, .int .i64 σ.2.2.2)]) (fun σ => [(1, 0, .box (cCur code σ.1 σ.2.1)), (41, 0, .row 3 1 (rows cInt σ.2.2.1))])
      (fun σ => ((σ.2.2.1.length : Int) ≤ σ.2.2.2 - 1) ∧ (1 ≤ σ.2.2.2 ∧ σ.2.2.2 ≤ 61) ∧ (b0 ≤ σ.1 ∧ σ.1 ≤ b0 + 2 * (σ.2.2.2 - 1))) (fun σ => ((words.length : Int) - σ.2.2.2).toNat) (b0, t0, [], 1) ?_ ?_ ?_ ?_
    · cbv
    · (try dsimp only); (try simp only [rows_cons, rows_nil]); cbv
    · exact ⟨(by (try dsimp only) <;> first | omega | rfl | (simp [*]; done)), (by (try dsimp only) <;> first | omega | rfl | (simp [*]; done)), (by (try dsimp only) <;> first | omega | rfl | (simp [*]; done))⟩
    rintro ⟨a1, s1, out, k⟩ ⟨ol, kb, cb⟩ E hE F hF
    dsimp only at ol kb cb
    conv => cbv
    refine r_lenR m.sX fun n1 hn1 mn1 => ?_
    conv => cbv
    refine r_lss m.sX (fun h1 => ?_) (fun h1 => ?_) <;> conv => cbv
    · refine r_mcall m.sX (cOne_ok code a1 s1 3 h (by omega) (by omega)) ?_
      rintro _ _ ⟨q1, rfl, ⟨a2, s2, rfl, ea2, fa2⟩⟩
      conv => cbv
      rcases Bool.eq_false_or_eq_true q1 with rfl | rfl <;> conv => cbv
      · refine r_append1 (k) m.sX rfl (by first | omega | (dsimp only; omega)) (by first | omega | (dsimp only; omega)) fun out_2 hout_2 => ?_
        conv => cbv
        have lout_2 : (out_2.length : Int) = out.length + 1 := by rw [hout_2]; first | done | (simp; done) | (simp; omega)
        refine r_addf m.sX (by omega) (by omega) fun k_2 hk_2 => ?_
        conv => cbv
        refine hE _ (a2, s2, out_2, k_2) ?_ ?_ ⟨(by (try dsimp only) <;> first | omega | rfl | (simp [*]; done) | (rw [ol]; simp [*]; done)), (by (try dsimp only) <;> first | omega | rfl | (simp [*]; done) | (rw [kb]; simp [*]; done)), (by (try dsimp only) <;> first | omega | rfl | (simp [*]; done) | (rw [cb]; simp [*]; done))⟩ (by first | omega | (dsimp only; omega))
        · cbv
        · cbv
      · refine r_addf m.sX (by omega) (by omega) fun k_3 hk_3 => ?_
        conv => cbv
        refine hE _ (a2, s2, out, k_3) ?_ ?_ ⟨(by (try dsimp only) <;> first | omega | rfl | (simp [*]; done) | (rw [ol]; simp [*]; done)), (by (try dsimp only) <;> first | omega | rfl | (simp [*]; done) | (rw [kb]; simp [*]; done)), (by (try dsimp only) <;> first | omega | rfl | (simp [*]; done) | (rw [cb]; simp [*]; done))⟩ (by first | omega | (dsimp only; omega))
        · cbv
        · cbv
    · refine hF _ _ ?_
      conv => cbv
      refine r_mcall m.sX (cOne_ok code a1 s1 16 h (by omega) (by omega)) ?_
      rintro _ _ ⟨q2, rfl, ⟨a3, s3, rfl, ea3, fa3⟩⟩
      conv => cbv
      rcases Bool.eq_false_or_eq_true q2 with rfl | rfl <;> conv => cbv
      · refine r_lenR m.sX fun n2 hn2 mn2 => ?_
        conv => cbv
        refine r_mcall m.sX (cAmong_ok code a3 s3 ([0, 1, n2, -1]) (by simp) h (by omega) (by omega)) ?_
        rintro _ _ ⟨q3, rfl, ⟨a4, s4, rfl, ea4, fa4⟩, bq3⟩
        simp only [List.mem_cons, List.not_mem_nil, or_false] at bq3
        conv => cbv
        refine r_append1 (q3) m.sX rfl (by first | omega | (dsimp only; omega)) (by first | omega | (dsimp only; omega)) fun out_3 hout_3 => ?_
        conv => cbv
        have lout_3 : (out_3.length : Int) = out.length + 1 := by rw [hout_3]; first | done | (simp; done) | (simp; omega)
        exact hQ (.fr 3 1 (rows cInt out_3)) (cCur code a4 s4) ⟨out_3, rfl, ⟨a4, s4, rfl, by omega, by omega⟩, (by first | omega | assumption | (simp; done) | (simp [*]; done) | (simp at *; omega))⟩   -- leaf 1
      · exact hQ (.fr 3 1 (rows cInt out)) (cCur code a3 s3) ⟨out, rfl, ⟨a3, s3, rfl, by omega, by omega⟩, (by first | omega | assumption | (simp; done) | (simp [*]; done) | (simp at *; omega))⟩)   -- leaf 2

theorem cBreaksOf_ex (code : List Int) (b0 t0 : Int) : ∃ r cs, (∃ (q : List Int), r = PV.isl 1 (rows cInt q) ∧ CurTo code b0 200 cs ∧ ((q.length : Int) ≤ 62)) :=
  ⟨_, _, [], rfl, ⟨b0, t0, rfl, by omega, by omega⟩, (by first | omega | simp)⟩

theorem drawCostOfBreaks_ok (code : List Int) (h : CurIn code) : OkA Try.prog 21 [.isl 1 (rows cU8 code)] (fun r => ∃ (q1 : List Int) (q2 : JRule) (q3 : Int) (q4 : List Int), r = .tup [.isl 1 (rows cInt q1), .agg (cRule q2), .int .i64 q3, .isl 1 (rows cInt q4)] ∧ (q1.length ≤ 25)) :=
  fn_intro envOk fieldsOk mixed Try.func21 rfl fun κ X Y L Q m hQ => by
    conv => cbv
    refine r_mcall m.sX (cParagraph_ok code 0 0 h (by omega) (by omega)) ?_
    rintro _ _ ⟨words, ⟨rA, rB, rC⟩, measure, e0, ⟨a1, s1, ec0, ea1, fa1⟩, bwords_1⟩; rw [e0, ec0]; clear e0 ec0
    try dsimp only at bwords_1
    conv => cbv
    refine r_callB m.sX (paAsked_ok words (rA, rB, rC) measure) (fun h1 => ?_) (fun h1 => ?_) <;> conv => cbv
    · have hp := askP_in h1
      try dsimp only at hp
      refine r_mcall m.sX (cOne_ok code a1 s1 2 h (by omega) (by omega)) ?_
      rintro _ _ ⟨q1, rfl, ⟨a2, s2, rfl, ea2, fa2⟩⟩
      conv => cbv
      rcases Bool.eq_false_or_eq_true q1 with rfl | rfl <;> conv => cbv
      · refine r_callF (licI 1 cInt) m.sX (paBest_ok words (rA, rB, rC) measure 0 (by first | rfl | assumption | omega | (simp only [List.length_append, List.length_cons, List.length_nil] at *; omega)) (by first | rfl | assumption | omega | (simp only [List.length_append, List.length_cons, List.length_nil] at *; omega))) fun v hbreaks => ?_
        obtain ⟨breaks, v1, ok⟩ := v
        conv => cbv
        try dsimp only at hbreaks
        rcases Bool.eq_false_or_eq_true ok with rfl | rfl <;> conv => cbv
        · refine r_draw m (by kernel_rfl) ?_
          conv => cbv
          exact hQ (.tup [.isl 1 (rows cInt words), .agg [.int .i64 rA, .int .i64 rB, .int .i64 rC], .int .i64 measure, .isl 1 (rows cInt breaks)]) ⟨words, (rA, rB, rC), measure, breaks, rfl, (by first | omega | assumption | (simp; done) | (simp [*]; done) | (simp at *; omega))⟩   -- leaf 1
        · refine r_draw m (by kernel_rfl) ?_
          conv => cbv
          refine r_mcallS m.sY (cBreaksOf_ok code a2 s2 words h (by omega) (by omega) (by first | rfl | assumption | omega | (simp only [List.length_append, List.length_cons, List.length_nil] at *; omega)) ) (cBreaksOf_ex code a2 s2) (by rintro _ _ ⟨_, rfl, _⟩; first | trivial | (intro x hx; simp at hx; rcases hx with rfl | rfl | rfl <;> trivial)) ?_
          rintro _ _ ⟨q2, rfl, ⟨a3, s3, rfl, ea3, fa3⟩, bq2_1⟩
          conv => cbv
          exact hQ (.tup [.isl 1 (rows cInt words), .agg [.int .i64 rA, .int .i64 rB, .int .i64 rC], .int .i64 measure, .isl 1 (rows cInt q2)]) ⟨words, (rA, rB, rC), measure, q2, rfl, (by first | omega | assumption | (simp; done) | (simp [*]; done) | (simp at *; omega))⟩   -- leaf 2
      · refine r_draw m (by kernel_rfl) ?_
        conv => cbv
        refine r_mcallS m.sY (cBreaksOf_ok code a2 s2 words h (by omega) (by omega) (by first | rfl | assumption | omega | (simp only [List.length_append, List.length_cons, List.length_nil] at *; omega)) ) (cBreaksOf_ex code a2 s2) (by rintro _ _ ⟨_, rfl, _⟩; first | trivial | (intro x hx; simp at hx; rcases hx with rfl | rfl | rfl <;> trivial)) ?_
        rintro _ _ ⟨q3, rfl, ⟨a4, s4, rfl, ea4, fa4⟩, bq3_1⟩
        conv => cbv
        exact hQ (.tup [.isl 1 (rows cInt words), .agg [.int .i64 rA, .int .i64 rB, .int .i64 rC], .int .i64 measure, .isl 1 (rows cInt q3)]) ⟨words, (rA, rB, rC), measure, q3, rfl, (by first | omega | assumption | (simp; done) | (simp [*]; done) | (simp at *; omega))⟩   -- leaf 3
    · refine r_draw m (by kernel_rfl) ?_
      conv => cbv
      refine r_mcallS m.sY (cBreaksOf_ok code a1 s1 words h (by omega) (by omega) (by first | rfl | assumption | omega | (simp only [List.length_append, List.length_cons, List.length_nil] at *; omega)) ) (cBreaksOf_ex code a1 s1) (by rintro _ _ ⟨_, rfl, _⟩; first | trivial | (intro x hx; simp at hx; rcases hx with rfl | rfl | rfl <;> trivial)) ?_
      rintro _ _ ⟨q4, rfl, ⟨a5, s5, rfl, ea5, fa5⟩, bq4_1⟩
      conv => cbv
      exact hQ (.tup [.isl 1 (rows cInt words), .agg [.int .i64 rA, .int .i64 rB, .int .i64 rC], .int .i64 measure, .isl 1 (rows cInt q4)]) ⟨words, (rA, rB, rC), measure, q4, rfl, (by first | omega | assumption | (simp; done) | (simp [*]; done) | (simp at *; omega))⟩   -- leaf 4

theorem drawLinesOfBreaks_ok (code : List Int) (h : CurIn code) : OkA Try.prog 32 [.isl 1 (rows cU8 code)] (fun r => ∃ (q1 : List Int) (q2 : List Int), r = .tup [.isl 1 (rows cInt q1), .isl 1 (rows cInt q2)] ∧ (q1.length ≤ 25)) :=
  fn_intro envOk fieldsOk mixed Try.func32 rfl fun κ X Y L Q m hQ => by
    conv => cbv
    refine r_mcall m.sX (cParagraph_ok code 0 0 h (by omega) (by omega)) ?_
    rintro _ _ ⟨words, ⟨q1A, q1B, q1C⟩, q2, e0, ⟨a1, s1, ec0, ea1, fa1⟩, bwords_1⟩; rw [e0, ec0]; clear e0 ec0
    try dsimp only at bwords_1
    conv => cbv
    refine r_mcall m.sX (cBreaksOf_ok code a1 s1 words h (by omega) (by omega) (by first | rfl | assumption | omega | (simp only [List.length_append, List.length_cons, List.length_nil] at *; omega))) ?_
    rintro _ _ ⟨q3, rfl, ⟨a2, s2, rfl, ea2, fa2⟩, bq3_1⟩
    conv => cbv
    exact hQ (.tup [.isl 1 (rows cInt words), .isl 1 (rows cInt q3)]) ⟨words, q3, rfl, (by first | omega | assumption | (simp; done) | (simp [*]; done) | (simp at *; omega))⟩   -- leaf 1

end Go.Proofs.Ytalookmhhkojeaa.Ai
