/- A method's answer taken as one that is only read. -/
import Derived.Test.YtiaodmfipeoegaaAiIce
import Derived.Test.YtiaodmfipeoegaaJust
import Derived.Test.YtiaodmfipeoegaaSpecP
import Derived.Test.YtiaodmfipeoegaaGreed
import Derived.Test.YtiaodmfipeoegaaAiRules
import Derived.Test.YtiaodmfipeoegaaLit
namespace Go.Proofs.Ytiaodmfipeoegaa.Ai
open Go Go.RowKit Go.Proofs
set_option linter.unusedVariables false
set_option linter.unusedSimpArgs false
set_option maxRecDepth 10000
set_option maxHeartbeats 4000000
set_option linter.unusedSectionVars false

theorem OkM.iceE {P : Program} {f : FuncId} {cs args : List PV} {Q : PV → List PV → Prop} (h : OkM P f cs args Q) : OkM P f cs args (fun r cs' => ∃ r0, Q r0 cs' ∧ r = Ai.ice r0) :=
  ⟨h.1, fun w g arr e I vs hI hg hc ha => (h.2 w g arr e I vs hI hg hc ha).mono fun en w' ⟨v, r, gs, cs', arr', e', e1, q, k, ⟨e2, e3, e4⟩, e5, e6⟩ => ⟨v, Ai.ice r, [], cs', arr', e', e1, ⟨r, q, rfl⟩, k,
    ⟨by simp, by simp, Res.ice e4 (fun g hg => ⟨hg.1, hg.2.1, by simp, hg.2.2.2⟩) (fun g hg => ⟨.inr (e3 g hg).1, (e3 g hg).2, by simp, fun _ => e4.plain g hg⟩)⟩, e5, e6.weak fun x hx => ⟨hx.1, hx.2.1, by simp, hx.2.2.2⟩⟩⟩

theorem OkM.mono {P : Program} {f : FuncId} {cs args : List PV} {Q Q' : PV → List PV → Prop} (h : OkM P f cs args Q) (hq : ∀ r cs', Q r cs' → Q' r cs') : OkM P f cs args Q' :=
  ⟨h.1, fun w g arr e I vs hI hg hc ha => (h.2 w g arr e I vs hI hg hc ha).mono fun en w' ⟨v, r, gs, cs', arr', e', e1, q, k⟩ => ⟨v, r, gs, cs', arr', e', e1, hq _ _ q, k⟩⟩

/- Contracts of what the laws on lines draw. -/

theorem cRule_ok (code : List Int) (b0 t0 : Int)  (h : CurIn code) (h0 : 0 ≤ b0) (hk : b0 ≤ 899999999999980000)  : OkM Try.prog 143 (cCur code b0 t0) [] (fun r cs => ∃ (q : JRule), r = .agg (cRule q) ∧ CurTo code b0 20 cs) :=
  fnM_intro envOk fieldsOk mixed Try.func143 rfl fun κ X Y L Q m hQ => by
    conv => cbv
    refine r_mcall m.sX (cPick_ok code b0 t0 4 h (by omega) (by omega)) ?_
    rintro _ _ ⟨q1, rfl, ⟨a1, s1, rfl, ea1, fa1⟩, bq1, cq1, dq1⟩
    conv => cbv
    refine r_addf m.sX (by omega) (by omega) fun low hlow => ?_
    conv => cbv
    refine r_mcall m.sX (cPick_ok code a1 s1 4 h (by omega) (by omega)) ?_
    rintro _ _ ⟨q2, rfl, ⟨a2, s2, rfl, ea2, fa2⟩, bq2, cq2, dq2⟩
    conv => cbv
    refine r_addf m.sX (by omega) (by omega) fun r1 hr1 => ?_
    conv => cbv
    refine r_draw m (by kernel_rfl) ?_
    conv => cbv
    refine r_mcallS m.sY (cPick_ok code a2 s2 5 h (by omega) (by omega)) (cPick_ex code a2 s2 5) (by rintro _ _ ⟨_, rfl, _⟩; first | trivial | (intro x hx; simp at hx; rcases hx with rfl | rfl | rfl <;> trivial)) ?_
    rintro _ _ ⟨q3, rfl, ⟨a3, s3, rfl, ea3, fa3⟩, bq3, cq3, dq3⟩
    conv => cbv
    refine r_addf m.sY (by omega) (by omega) fun r2 hr2 => ?_
    conv => cbv
    refine r_mcall m.sX (cPick_ok code a3 s3 24 h (by omega) (by omega)) ?_
    rintro _ _ ⟨q4, rfl, ⟨a4, s4, rfl, ea4, fa4⟩, bq4, cq4, dq4⟩
    conv => cbv
    refine r_eql m.sX (fun h1 => ?_) (fun h1 => ?_) <;> conv => cbv
    · refine r_mcall m.sX (cAmong_ok code a4 s4 ([54, 55, 0]) (by simp) h (by omega) (by omega)) ?_
      rintro _ _ ⟨q5, rfl, ⟨a5, s5, rfl, ea5, fa5⟩, bq5⟩
      simp only [List.mem_cons, List.not_mem_nil, or_false] at bq5
      conv => cbv
      exact hQ (.agg [.int .i64 low, .int .i64 r1, .int .i64 q5]) (cCur code a5 s5) ⟨(low, r1, q5), rfl, ⟨a5, s5, rfl, by omega, by omega⟩⟩
    · refine r_eql m.sX (fun h2 => ?_) (fun h2 => ?_) <;> conv => cbv
      · refine r_addf m.sX (by omega) (by omega) fun r3 hr3 => ?_
        conv => cbv
        refine r_mcall m.sX (cAmong_ok code a4 s4 ([0, -1, r1, r3]) (by simp) h (by omega) (by omega)) ?_
        rintro _ _ ⟨q6, rfl, ⟨a6, s6, rfl, ea6, fa6⟩, bq6⟩
        simp only [List.mem_cons, List.not_mem_nil, or_false] at bq6
        conv => cbv
        exact hQ (.agg [.int .i64 q6, .int .i64 r1, .int .i64 r2]) (cCur code a6 s6) ⟨(q6, r1, r2), rfl, ⟨a6, s6, rfl, by omega, by omega⟩⟩
      · exact hQ (.agg [.int .i64 low, .int .i64 r1, .int .i64 r2]) (cCur code a4 s4) ⟨(low, r1, r2), rfl, ⟨a4, s4, rfl, by omega, by omega⟩⟩

/- Contracts of what FnParagraphs draws. -/
theorem OkM.iceR {P : Program} {f : FuncId} {cs args : List PV} {Q : PV → List PV → Prop} (h : OkM P f cs args (fun r cs' => Q (Ai.ice r) cs')) : OkM P f cs args Q :=
  h.iceE.mono fun r cs' ⟨r0, q, e⟩ => by rw [e]; exact q
theorem cParagraph_ok (code : List Int) (b0 t0 : Int)  (h : CurIn code) (h0 : 0 ≤ b0) (hk : b0 ≤ 899999999999600000)  : OkM Try.prog 100 (cCur code b0 t0) [] (fun r cs => ∃ (q1 : List Int) (q2 : JRule) (q3 : Int), r = .tup [.isl 1 (rows cInt q1), .agg (cRule q2), .int .i64 q3] ∧ CurTo code b0 400 cs ∧ (q1.length ≤ 25)) :=
  OkM.iceR (fnM_intro envOk fieldsOk mixed Try.func100 rfl fun κ X Y L Q m hQ => by
    conv => cbv
    refine r_mcall m.sX (cPick_ok code b0 t0 10 h (by omega) (by omega)) ?_
    rintro _ _ ⟨q1, rfl, ⟨a1, s1, rfl, ea1, fa1⟩, bq1, cq1, dq1⟩
    conv => cbv
    refine r_addf m.sX (by omega) (by omega) fun n hn => ?_
    conv => cbv
    refine r_mcall m.sX (cOne_ok code a1 s1 12 h (by omega) (by omega)) ?_
    rintro _ _ ⟨q2, rfl, ⟨a2, s2, rfl, ea2, fa2⟩⟩
    conv => cbv
    rcases Bool.eq_false_or_eq_true q2 with rfl | rfl <;> conv => cbv
    · refine r_mcall m.sX (cAmong_ok code a2 s2 ([0, 24, 25, 22]) (by simp) h (by omega) (by omega)) ?_
      rintro _ _ ⟨n_2, rfl, ⟨a3, s3, rfl, ea3, fa3⟩, bn_2⟩
      simp only [List.mem_cons, List.not_mem_nil, or_false] at bn_2
      conv => cbv
      refine r_loopF (α := Int × Int × List Int) m 59 [6] [⟨0, 1, 0, 0, 0⟩, ⟨3, 25, 0, 0, 0⟩, ⟨5, 41, 3, 1, 0⟩] (fun σ => [(0, .optr 1 0 0 0 0), (3, .optr 25 0 3 0 0), (5, .osl 41 0), (6, .int .i64 n_2)]) (fun σ => [(1, 0, .box (cCur code σ.1 σ.2.1)), (25, 0, .box [.int .i64 0, .int .i64 0, .int .i64 0]), (41, 0, .row 3 1 (rows cInt σ.2.2))])
        (fun σ => ((σ.2.2.length : Int) ≤ n_2) ∧ (a3 ≤ σ.1 ∧ σ.1 ≤ a3 + 2 * (σ.2.2.length : Int)) ∧ ((σ.2.2.length : Int) ≤ n_2)) (fun σ => (n_2 - (σ.2.2.length : Int)).toNat) (a3, s3, []) ?_ ?_ ?_ ?_
      · cbv
      · (try dsimp only); (try simp only [rows_cons, rows_nil]); cbv
      · exact ⟨(by (try dsimp only); first | omega | (simp <;> omega)), (by (try dsimp only); first | omega | (simp <;> omega)), (by (try dsimp only) <;> (simp only [List.length_nil]; rcases bn_2 with q | q | q | q <;> (rw [q]; decide)))⟩
      rintro ⟨a4, s4, words⟩ ⟨ll1, cl1, wl⟩ E hE F hF
      dsimp only at ll1 cl1 wl
      conv => cbv
      refine r_lenR m.sX fun n1 hn1 mn1 => ?_
      conv => cbv
      refine r_lss m.sX (fun h1 => ?_) (fun h1 => ?_) <;> conv => cbv
      · refine r_mcall m.sX (cPick_ok code a4 s4 12 h (by omega) (by omega)) ?_
        rintro _ _ ⟨q3, rfl, ⟨a5, s5, rfl, ea5, fa5⟩, bq3, cq3, dq3⟩
        conv => cbv
        refine r_addf m.sX (by omega) (by omega) fun r1 hr1 => ?_
        conv => cbv
        refine r_append1 (r1) m.sX rfl (by first | omega | (dsimp only; omega)) (by first | omega | (dsimp only; omega)) fun words_2 hwords_2 => ?_
        conv => cbv
        have lwords_2 : (words_2.length : Int) = words.length + 1 := by rw [hwords_2]; first | done | (simp; done) | (simp; omega)
        refine hE _ (a5, s5, words_2) ?_ ?_ ⟨(by (try dsimp only); first | omega | (simp <;> omega)), (by (try dsimp only); first | omega | (simp <;> omega)), (by (try dsimp only) <;> first | omega | rfl | (simp [*]; done) | (rw [wl]; simp [*]; done))⟩ (by first | omega | (dsimp only; omega))
        · cbv
        · cbv
      · refine hF _ _ ?_
        conv => cbv
        refine r_mcall m.sX (cPick_ok code a4 s4 3 h (by omega) (by omega)) ?_
        rintro _ _ ⟨q4, rfl, ⟨a6, s6, rfl, ea6, fa6⟩, bq4, cq4, dq4⟩
        conv => cbv
        refine r_addf m.sX (by omega) (by omega) fun r2 hr2 => ?_
        conv => cbv
        refine r_mcall m.sX (cPick_ok code a6 s6 20 h (by omega) (by omega)) ?_
        rintro _ _ ⟨q5, rfl, ⟨a7, s7, rfl, ea7, fa7⟩, bq5, cq5, dq5⟩
        conv => cbv
        refine r_addf m.sX (by omega) (by omega) fun r3 hr3 => ?_
        conv => cbv
        refine r_mcall m.sX (cOne_ok code a7 s7 16 h (by omega) (by omega)) ?_
        rintro _ _ ⟨q6, rfl, ⟨a8, s8, rfl, ea8, fa8⟩⟩
        conv => cbv
        rcases Bool.eq_false_or_eq_true q6 with rfl | rfl <;> conv => cbv
        · refine r_mcall m.sX (cRule_ok code a8 s8 h (by omega) (by omega)) ?_
          rintro _ _ ⟨⟨rA, rB, rC⟩, e0, ⟨a9, s9, ec0, ea9, fa9⟩⟩; rw [e0, ec0]; clear e0 ec0
          conv => cbv
          refine r_gtr m.sX (fun h2 => ?_) (fun h2 => ?_) <;> conv => cbv
          · refine r_mcall m.sX (cOne_ok code a9 s9 20 h (by omega) (by omega)) ?_
            rintro _ _ ⟨q7, rfl, ⟨a10, s10, rfl, ea10, fa10⟩⟩
            conv => cbv
            rcases Bool.eq_false_or_eq_true q7 with rfl | rfl <;> conv => cbv
            · refine r_mcall m.sX (cPick_ok code a10 s10 n_2 h (by omega) (by omega)) ?_
              rintro _ _ ⟨q8, rfl, ⟨a11, s11, rfl, ea11, fa11⟩, bq8, cq8, dq8⟩
              conv => cbv
              refine r_mcall m.sX (cAmong_ok code a11 s11 ([600, 601, 0, 60]) (by simp) h (by omega) (by omega)) ?_
              rintro _ _ ⟨q9, rfl, ⟨a12, s12, rfl, ea12, fa12⟩, bq9⟩
              simp only [List.mem_cons, List.not_mem_nil, or_false] at bq9
              conv => cbv
              refine r_oindex m.sX (by omega) (by omega) ?_
              conv => cbv
              obtain ⟨y1, hy1⟩ := get_ex (xs := words) (i := Int.toNat q8) (by omega)
              refine r_ostore (l := Int.toNat q8) q9 m.sX hy1 (Nat.le_of_ble_eq_true rfl) rfl fun words_3 hwords_3 => ?_
              have lwords_3 : (words_3.length : Int) = words.length := by rw [hwords_3]; first | done | (simp; done) | (simp; omega)
              conv => cbv
              refine r_draw m (by kernel_rfl) ?_
              conv => cbv
              refine r_mcallS m.sY (cAmong_ok code a12 s12 ([30, 2000, 2001, 0]) (by simp) h (by omega) (by omega)) (cAmong_ex code a12 s12 ([30, 2000, 2001, 0]) (by simp)) (by rintro _ _ ⟨_, rfl, _⟩; first | trivial | (intro x hx; simp at hx; rcases hx with rfl | rfl | rfl <;> trivial)) ?_
              rintro _ _ ⟨q10, rfl, ⟨a13, s13, rfl, ea13, fa13⟩, bq10⟩
              simp only [List.mem_cons, List.not_mem_nil, or_false] at bq10
              conv => cbv
              refine r_mcallS m.sY (cAmong_ok code a13 s13 ([30, 40, 50, 60, 25, 100, q10]) (by simp) h (by omega) (by omega)) (cAmong_ex code a13 s13 ([30, 40, 50, 60, 25, 100, q10]) (by simp)) (by rintro _ _ ⟨_, rfl, _⟩; first | trivial | (intro x hx; simp at hx; rcases hx with rfl | rfl | rfl <;> trivial)) ?_
              rintro _ _ ⟨q11, rfl, ⟨a14, s14, rfl, ea14, fa14⟩, bq11⟩
              simp only [List.mem_cons, List.not_mem_nil, or_false] at bq11
              conv => cbv
              exact hQ (.tup [.fr 3 1 (rows cInt words_3), .agg [.int .i64 rA, .int .i64 rB, .int .i64 rC], .int .i64 q11]) (cCur code a14 s14) ⟨words_3, (rA, rB, rC), q11, rfl, ⟨a14, s14, rfl, by omega, by omega⟩, (by first | omega | assumption | (simp; done) | (simp [*]; done) | (simp at * <;> omega))⟩
            · refine r_draw m (by kernel_rfl) ?_
              conv => cbv
              refine r_mcallS m.sY (cAmong_ok code a10 s10 ([30, 2000, 2001, 0]) (by simp) h (by omega) (by omega)) (cAmong_ex code a10 s10 ([30, 2000, 2001, 0]) (by simp)) (by rintro _ _ ⟨_, rfl, _⟩; first | trivial | (intro x hx; simp at hx; rcases hx with rfl | rfl | rfl <;> trivial)) ?_
              rintro _ _ ⟨q12, rfl, ⟨a15, s15, rfl, ea15, fa15⟩, bq12⟩
              simp only [List.mem_cons, List.not_mem_nil, or_false] at bq12
              conv => cbv
              refine r_mcallS m.sY (cAmong_ok code a15 s15 ([30, 40, 50, 60, 25, 100, q12]) (by simp) h (by omega) (by omega)) (cAmong_ex code a15 s15 ([30, 40, 50, 60, 25, 100, q12]) (by simp)) (by rintro _ _ ⟨_, rfl, _⟩; first | trivial | (intro x hx; simp at hx; rcases hx with rfl | rfl | rfl <;> trivial)) ?_
              rintro _ _ ⟨q13, rfl, ⟨a16, s16, rfl, ea16, fa16⟩, bq13⟩
              simp only [List.mem_cons, List.not_mem_nil, or_false] at bq13
              conv => cbv
              exact hQ (.tup [.fr 3 1 (rows cInt words), .agg [.int .i64 rA, .int .i64 rB, .int .i64 rC], .int .i64 q13]) (cCur code a16 s16) ⟨words, (rA, rB, rC), q13, rfl, ⟨a16, s16, rfl, by omega, by omega⟩, (by first | omega | assumption | (simp; done) | (simp [*]; done) | (simp at * <;> omega))⟩
          · refine r_draw m (by kernel_rfl) ?_
            conv => cbv
            refine r_mcallS m.sY (cAmong_ok code a9 s9 ([30, 2000, 2001, 0]) (by simp) h (by omega) (by omega)) (cAmong_ex code a9 s9 ([30, 2000, 2001, 0]) (by simp)) (by rintro _ _ ⟨_, rfl, _⟩; first | trivial | (intro x hx; simp at hx; rcases hx with rfl | rfl | rfl <;> trivial)) ?_
            rintro _ _ ⟨q14, rfl, ⟨a17, s17, rfl, ea17, fa17⟩, bq14⟩
            simp only [List.mem_cons, List.not_mem_nil, or_false] at bq14
            conv => cbv
            refine r_mcallS m.sY (cAmong_ok code a17 s17 ([30, 40, 50, 60, 25, 100, q14]) (by simp) h (by omega) (by omega)) (cAmong_ex code a17 s17 ([30, 40, 50, 60, 25, 100, q14]) (by simp)) (by rintro _ _ ⟨_, rfl, _⟩; first | trivial | (intro x hx; simp at hx; rcases hx with rfl | rfl | rfl <;> trivial)) ?_
            rintro _ _ ⟨q15, rfl, ⟨a18, s18, rfl, ea18, fa18⟩, bq15⟩
            simp only [List.mem_cons, List.not_mem_nil, or_false] at bq15
            conv => cbv
            exact hQ (.tup [.fr 3 1 (rows cInt words), .agg [.int .i64 rA, .int .i64 rB, .int .i64 rC], .int .i64 q15]) (cCur code a18 s18) ⟨words, (rA, rB, rC), q15, rfl, ⟨a18, s18, rfl, by omega, by omega⟩, (by first | omega | assumption | (simp; done) | (simp [*]; done) | (simp at * <;> omega))⟩
        · refine r_gtr m.sX (fun h3 => ?_) (fun h3 => ?_) <;> conv => cbv
          · refine r_mcall m.sX (cOne_ok code a8 s8 20 h (by omega) (by omega)) ?_
            rintro _ _ ⟨q16, rfl, ⟨a19, s19, rfl, ea19, fa19⟩⟩
            conv => cbv
            rcases Bool.eq_false_or_eq_true q16 with rfl | rfl <;> conv => cbv
            · refine r_mcall m.sX (cPick_ok code a19 s19 n_2 h (by omega) (by omega)) ?_
              rintro _ _ ⟨q17, rfl, ⟨a20, s20, rfl, ea20, fa20⟩, bq17, cq17, dq17⟩
              conv => cbv
              refine r_mcall m.sX (cAmong_ok code a20 s20 ([600, 601, 0, 60]) (by simp) h (by omega) (by omega)) ?_
              rintro _ _ ⟨q18, rfl, ⟨a21, s21, rfl, ea21, fa21⟩, bq18⟩
              simp only [List.mem_cons, List.not_mem_nil, or_false] at bq18
              conv => cbv
              refine r_oindex m.sX (by omega) (by omega) ?_
              conv => cbv
              obtain ⟨y2, hy2⟩ := get_ex (xs := words) (i := Int.toNat q17) (by omega)
              refine r_ostore (l := Int.toNat q17) q18 m.sX hy2 (Nat.le_of_ble_eq_true rfl) rfl fun words_4 hwords_4 => ?_
              have lwords_4 : (words_4.length : Int) = words.length := by rw [hwords_4]; first | done | (simp; done) | (simp; omega)
              conv => cbv
              refine r_draw m (by kernel_rfl) ?_
              conv => cbv
              refine r_mcallS m.sY (cAmong_ok code a21 s21 ([30, 2000, 2001, 0]) (by simp) h (by omega) (by omega)) (cAmong_ex code a21 s21 ([30, 2000, 2001, 0]) (by simp)) (by rintro _ _ ⟨_, rfl, _⟩; first | trivial | (intro x hx; simp at hx; rcases hx with rfl | rfl | rfl <;> trivial)) ?_
              rintro _ _ ⟨q19, rfl, ⟨a22, s22, rfl, ea22, fa22⟩, bq19⟩
              simp only [List.mem_cons, List.not_mem_nil, or_false] at bq19
              conv => cbv
              refine r_mcallS m.sY (cAmong_ok code a22 s22 ([30, 40, 50, 60, 25, 100, q19]) (by simp) h (by omega) (by omega)) (cAmong_ex code a22 s22 ([30, 40, 50, 60, 25, 100, q19]) (by simp)) (by rintro _ _ ⟨_, rfl, _⟩; first | trivial | (intro x hx; simp at hx; rcases hx with rfl | rfl | rfl <;> trivial)) ?_
              rintro _ _ ⟨q20, rfl, ⟨a23, s23, rfl, ea23, fa23⟩, bq20⟩
              simp only [List.mem_cons, List.not_mem_nil, or_false] at bq20
              conv => cbv
              exact hQ (.tup [.fr 3 1 (rows cInt words_4), .agg [.int .i64 r2, .int .i64 4, .int .i64 r3], .int .i64 q20]) (cCur code a23 s23) ⟨words_4, (r2, 4, r3), q20, rfl, ⟨a23, s23, rfl, by omega, by omega⟩, (by first | omega | assumption | (simp; done) | (simp [*]; done) | (simp at * <;> omega))⟩
            · refine r_draw m (by kernel_rfl) ?_
              conv => cbv
              refine r_mcallS m.sY (cAmong_ok code a19 s19 ([30, 2000, 2001, 0]) (by simp) h (by omega) (by omega)) (cAmong_ex code a19 s19 ([30, 2000, 2001, 0]) (by simp)) (by rintro _ _ ⟨_, rfl, _⟩; first | trivial | (intro x hx; simp at hx; rcases hx with rfl | rfl | rfl <;> trivial)) ?_
              rintro _ _ ⟨q21, rfl, ⟨a24, s24, rfl, ea24, fa24⟩, bq21⟩
              simp only [List.mem_cons, List.not_mem_nil, or_false] at bq21
              conv => cbv
              refine r_mcallS m.sY (cAmong_ok code a24 s24 ([30, 40, 50, 60, 25, 100, q21]) (by simp) h (by omega) (by omega)) (cAmong_ex code a24 s24 ([30, 40, 50, 60, 25, 100, q21]) (by simp)) (by rintro _ _ ⟨_, rfl, _⟩; first | trivial | (intro x hx; simp at hx; rcases hx with rfl | rfl | rfl <;> trivial)) ?_
              rintro _ _ ⟨q22, rfl, ⟨a25, s25, rfl, ea25, fa25⟩, bq22⟩
              simp only [List.mem_cons, List.not_mem_nil, or_false] at bq22
              conv => cbv
              exact hQ (.tup [.fr 3 1 (rows cInt words), .agg [.int .i64 r2, .int .i64 4, .int .i64 r3], .int .i64 q22]) (cCur code a25 s25) ⟨words, (r2, 4, r3), q22, rfl, ⟨a25, s25, rfl, by omega, by omega⟩, (by first | omega | assumption | (simp; done) | (simp [*]; done) | (simp at * <;> omega))⟩
          · refine r_draw m (by kernel_rfl) ?_
            conv => cbv
            refine r_mcallS m.sY (cAmong_ok code a8 s8 ([30, 2000, 2001, 0]) (by simp) h (by omega) (by omega)) (cAmong_ex code a8 s8 ([30, 2000, 2001, 0]) (by simp)) (by rintro _ _ ⟨_, rfl, _⟩; first | trivial | (intro x hx; simp at hx; rcases hx with rfl | rfl | rfl <;> trivial)) ?_
            rintro _ _ ⟨q23, rfl, ⟨a26, s26, rfl, ea26, fa26⟩, bq23⟩
            simp only [List.mem_cons, List.not_mem_nil, or_false] at bq23
            conv => cbv
            refine r_mcallS m.sY (cAmong_ok code a26 s26 ([30, 40, 50, 60, 25, 100, q23]) (by simp) h (by omega) (by omega)) (cAmong_ex code a26 s26 ([30, 40, 50, 60, 25, 100, q23]) (by simp)) (by rintro _ _ ⟨_, rfl, _⟩; first | trivial | (intro x hx; simp at hx; rcases hx with rfl | rfl | rfl <;> trivial)) ?_
            rintro _ _ ⟨q24, rfl, ⟨a27, s27, rfl, ea27, fa27⟩, bq24⟩
            simp only [List.mem_cons, List.not_mem_nil, or_false] at bq24
            conv => cbv
            exact hQ (.tup [.fr 3 1 (rows cInt words), .agg [.int .i64 r2, .int .i64 4, .int .i64 r3], .int .i64 q24]) (cCur code a27 s27) ⟨words, (r2, 4, r3), q24, rfl, ⟨a27, s27, rfl, by omega, by omega⟩, (by first | omega | assumption | (simp; done) | (simp [*]; done) | (simp at * <;> omega))⟩
    · refine r_loopF (α := Int × Int × List Int) m 59 [6] [⟨0, 1, 0, 0, 0⟩, ⟨3, 25, 0, 0, 0⟩, ⟨5, 41, 3, 1, 0⟩] (fun σ => [(0, .optr 1 0 0 0 0), (3, .optr 25 0 3 0 0), (5, .osl 41 0), (6, .int .i64 n)]) (fun σ => [(1, 0, .box (cCur code σ.1 σ.2.1)), (25, 0, .box [.int .i64 0, .int .i64 0, .int .i64 0]), (41, 0, .row 3 1 (rows cInt σ.2.2))])
        (fun σ => ((σ.2.2.length : Int) ≤ n) ∧ (a2 ≤ σ.1 ∧ σ.1 ≤ a2 + 2 * (σ.2.2.length : Int)) ∧ ((σ.2.2.length : Int) ≤ n)) (fun σ => (n - (σ.2.2.length : Int)).toNat) (a2, s2, []) ?_ ?_ ?_ ?_
      · cbv
      · (try dsimp only); (try simp only [rows_cons, rows_nil]); cbv
      · exact ⟨(by (try dsimp only); first | omega | (simp <;> omega)), (by (try dsimp only); first | omega | (simp <;> omega)), (by (try dsimp only) <;> (simp only [List.length_nil]; omega))⟩
      rintro ⟨a28, s28, words_5⟩ ⟨ll2, cl2, wl⟩ E hE F hF
      dsimp only at ll2 cl2 wl
      conv => cbv
      refine r_lenR m.sX fun n2 hn2 mn2 => ?_
      conv => cbv
      refine r_lss m.sX (fun h4 => ?_) (fun h4 => ?_) <;> conv => cbv
      · refine r_mcall m.sX (cPick_ok code a28 s28 12 h (by omega) (by omega)) ?_
        rintro _ _ ⟨q25, rfl, ⟨a29, s29, rfl, ea29, fa29⟩, bq25, cq25, dq25⟩
        conv => cbv
        refine r_addf m.sX (by omega) (by omega) fun r4 hr4 => ?_
        conv => cbv
        refine r_append1 (r4) m.sX rfl (by first | omega | (dsimp only; omega)) (by first | omega | (dsimp only; omega)) fun words_6 hwords_6 => ?_
        conv => cbv
        have lwords_6 : (words_6.length : Int) = words_5.length + 1 := by rw [hwords_6]; first | done | (simp; done) | (simp; omega)
        refine hE _ (a29, s29, words_6) ?_ ?_ ⟨(by (try dsimp only); first | omega | (simp <;> omega)), (by (try dsimp only); first | omega | (simp <;> omega)), (by (try dsimp only) <;> first | omega | rfl | (simp [*]; done) | (rw [wl]; simp [*]; done))⟩ (by first | omega | (dsimp only; omega))
        · cbv
        · cbv
      · refine hF _ _ ?_
        conv => cbv
        refine r_mcall m.sX (cPick_ok code a28 s28 3 h (by omega) (by omega)) ?_
        rintro _ _ ⟨q26, rfl, ⟨a30, s30, rfl, ea30, fa30⟩, bq26, cq26, dq26⟩
        conv => cbv
        refine r_addf m.sX (by omega) (by omega) fun r5 hr5 => ?_
        conv => cbv
        refine r_mcall m.sX (cPick_ok code a30 s30 20 h (by omega) (by omega)) ?_
        rintro _ _ ⟨q27, rfl, ⟨a31, s31, rfl, ea31, fa31⟩, bq27, cq27, dq27⟩
        conv => cbv
        refine r_addf m.sX (by omega) (by omega) fun r6 hr6 => ?_
        conv => cbv
        refine r_mcall m.sX (cOne_ok code a31 s31 16 h (by omega) (by omega)) ?_
        rintro _ _ ⟨q28, rfl, ⟨a32, s32, rfl, ea32, fa32⟩⟩
        conv => cbv
        rcases Bool.eq_false_or_eq_true q28 with rfl | rfl <;> conv => cbv
        · refine r_mcall m.sX (cRule_ok code a32 s32 h (by omega) (by omega)) ?_
          rintro _ _ ⟨⟨r_2A, r_2B, r_2C⟩, e0, ⟨a33, s33, ec0, ea33, fa33⟩⟩; rw [e0, ec0]; clear e0 ec0
          conv => cbv
          refine r_gtr m.sX (fun h5 => ?_) (fun h5 => ?_) <;> conv => cbv
          · refine r_mcall m.sX (cOne_ok code a33 s33 20 h (by omega) (by omega)) ?_
            rintro _ _ ⟨q29, rfl, ⟨a34, s34, rfl, ea34, fa34⟩⟩
            conv => cbv
            rcases Bool.eq_false_or_eq_true q29 with rfl | rfl <;> conv => cbv
            · refine r_mcall m.sX (cPick_ok code a34 s34 n h (by omega) (by omega)) ?_
              rintro _ _ ⟨q30, rfl, ⟨a35, s35, rfl, ea35, fa35⟩, bq30, cq30, dq30⟩
              conv => cbv
              refine r_mcall m.sX (cAmong_ok code a35 s35 ([600, 601, 0, 60]) (by simp) h (by omega) (by omega)) ?_
              rintro _ _ ⟨q31, rfl, ⟨a36, s36, rfl, ea36, fa36⟩, bq31⟩
              simp only [List.mem_cons, List.not_mem_nil, or_false] at bq31
              conv => cbv
              refine r_oindex m.sX (by omega) (by omega) ?_
              conv => cbv
              obtain ⟨y3, hy3⟩ := get_ex (xs := words_5) (i := Int.toNat q30) (by omega)
              refine r_ostore (l := Int.toNat q30) q31 m.sX hy3 (Nat.le_of_ble_eq_true rfl) rfl fun words_7 hwords_7 => ?_
              have lwords_7 : (words_7.length : Int) = words_5.length := by rw [hwords_7]; first | done | (simp; done) | (simp; omega)
              conv => cbv
              refine r_draw m (by kernel_rfl) ?_
              conv => cbv
              refine r_mcallS m.sY (cAmong_ok code a36 s36 ([30, 2000, 2001, 0]) (by simp) h (by omega) (by omega)) (cAmong_ex code a36 s36 ([30, 2000, 2001, 0]) (by simp)) (by rintro _ _ ⟨_, rfl, _⟩; first | trivial | (intro x hx; simp at hx; rcases hx with rfl | rfl | rfl <;> trivial)) ?_
              rintro _ _ ⟨q32, rfl, ⟨a37, s37, rfl, ea37, fa37⟩, bq32⟩
              simp only [List.mem_cons, List.not_mem_nil, or_false] at bq32
              conv => cbv
              refine r_mcallS m.sY (cAmong_ok code a37 s37 ([30, 40, 50, 60, 25, 100, q32]) (by simp) h (by omega) (by omega)) (cAmong_ex code a37 s37 ([30, 40, 50, 60, 25, 100, q32]) (by simp)) (by rintro _ _ ⟨_, rfl, _⟩; first | trivial | (intro x hx; simp at hx; rcases hx with rfl | rfl | rfl <;> trivial)) ?_
              rintro _ _ ⟨q33, rfl, ⟨a38, s38, rfl, ea38, fa38⟩, bq33⟩
              simp only [List.mem_cons, List.not_mem_nil, or_false] at bq33
              conv => cbv
              exact hQ (.tup [.fr 3 1 (rows cInt words_7), .agg [.int .i64 r_2A, .int .i64 r_2B, .int .i64 r_2C], .int .i64 q33]) (cCur code a38 s38) ⟨words_7, (r_2A, r_2B, r_2C), q33, rfl, ⟨a38, s38, rfl, by omega, by omega⟩, (by first | omega | assumption | (simp; done) | (simp [*]; done) | (simp at * <;> omega))⟩
            · refine r_draw m (by kernel_rfl) ?_
              conv => cbv
              refine r_mcallS m.sY (cAmong_ok code a34 s34 ([30, 2000, 2001, 0]) (by simp) h (by omega) (by omega)) (cAmong_ex code a34 s34 ([30, 2000, 2001, 0]) (by simp)) (by rintro _ _ ⟨_, rfl, _⟩; first | trivial | (intro x hx; simp at hx; rcases hx with rfl | rfl | rfl <;> trivial)) ?_
              rintro _ _ ⟨q34, rfl, ⟨a39, s39, rfl, ea39, fa39⟩, bq34⟩
              simp only [List.mem_cons, List.not_mem_nil, or_false] at bq34
              conv => cbv
              refine r_mcallS m.sY (cAmong_ok code a39 s39 ([30, 40, 50, 60, 25, 100, q34]) (by simp) h (by omega) (by omega)) (cAmong_ex code a39 s39 ([30, 40, 50, 60, 25, 100, q34]) (by simp)) (by rintro _ _ ⟨_, rfl, _⟩; first | trivial | (intro x hx; simp at hx; rcases hx with rfl | rfl | rfl <;> trivial)) ?_
              rintro _ _ ⟨q35, rfl, ⟨a40, s40, rfl, ea40, fa40⟩, bq35⟩
              simp only [List.mem_cons, List.not_mem_nil, or_false] at bq35
              conv => cbv
              exact hQ (.tup [.fr 3 1 (rows cInt words_5), .agg [.int .i64 r_2A, .int .i64 r_2B, .int .i64 r_2C], .int .i64 q35]) (cCur code a40 s40) ⟨words_5, (r_2A, r_2B, r_2C), q35, rfl, ⟨a40, s40, rfl, by omega, by omega⟩, (by first | omega | assumption | (simp; done) | (simp [*]; done) | (simp at * <;> omega))⟩
          · refine r_draw m (by kernel_rfl) ?_
            conv => cbv
            refine r_mcallS m.sY (cAmong_ok code a33 s33 ([30, 2000, 2001, 0]) (by simp) h (by omega) (by omega)) (cAmong_ex code a33 s33 ([30, 2000, 2001, 0]) (by simp)) (by rintro _ _ ⟨_, rfl, _⟩; first | trivial | (intro x hx; simp at hx; rcases hx with rfl | rfl | rfl <;> trivial)) ?_
            rintro _ _ ⟨q36, rfl, ⟨a41, s41, rfl, ea41, fa41⟩, bq36⟩
            simp only [List.mem_cons, List.not_mem_nil, or_false] at bq36
            conv => cbv
            refine r_mcallS m.sY (cAmong_ok code a41 s41 ([30, 40, 50, 60, 25, 100, q36]) (by simp) h (by omega) (by omega)) (cAmong_ex code a41 s41 ([30, 40, 50, 60, 25, 100, q36]) (by simp)) (by rintro _ _ ⟨_, rfl, _⟩; first | trivial | (intro x hx; simp at hx; rcases hx with rfl | rfl | rfl <;> trivial)) ?_
            rintro _ _ ⟨q37, rfl, ⟨a42, s42, rfl, ea42, fa42⟩, bq37⟩
            simp only [List.mem_cons, List.not_mem_nil, or_false] at bq37
            conv => cbv
            exact hQ (.tup [.fr 3 1 (rows cInt words_5), .agg [.int .i64 r_2A, .int .i64 r_2B, .int .i64 r_2C], .int .i64 q37]) (cCur code a42 s42) ⟨words_5, (r_2A, r_2B, r_2C), q37, rfl, ⟨a42, s42, rfl, by omega, by omega⟩, (by first | omega | assumption | (simp; done) | (simp [*]; done) | (simp at * <;> omega))⟩
        · refine r_gtr m.sX (fun h6 => ?_) (fun h6 => ?_) <;> conv => cbv
          · refine r_mcall m.sX (cOne_ok code a32 s32 20 h (by omega) (by omega)) ?_
            rintro _ _ ⟨q38, rfl, ⟨a43, s43, rfl, ea43, fa43⟩⟩
            conv => cbv
            rcases Bool.eq_false_or_eq_true q38 with rfl | rfl <;> conv => cbv
            · refine r_mcall m.sX (cPick_ok code a43 s43 n h (by omega) (by omega)) ?_
              rintro _ _ ⟨q39, rfl, ⟨a44, s44, rfl, ea44, fa44⟩, bq39, cq39, dq39⟩
              conv => cbv
              refine r_mcall m.sX (cAmong_ok code a44 s44 ([600, 601, 0, 60]) (by simp) h (by omega) (by omega)) ?_
              rintro _ _ ⟨q40, rfl, ⟨a45, s45, rfl, ea45, fa45⟩, bq40⟩
              simp only [List.mem_cons, List.not_mem_nil, or_false] at bq40
              conv => cbv
              refine r_oindex m.sX (by omega) (by omega) ?_
              conv => cbv
              obtain ⟨y4, hy4⟩ := get_ex (xs := words_5) (i := Int.toNat q39) (by omega)
              refine r_ostore (l := Int.toNat q39) q40 m.sX hy4 (Nat.le_of_ble_eq_true rfl) rfl fun words_8 hwords_8 => ?_
              have lwords_8 : (words_8.length : Int) = words_5.length := by rw [hwords_8]; first | done | (simp; done) | (simp; omega)
              conv => cbv
              refine r_draw m (by kernel_rfl) ?_
              conv => cbv
              refine r_mcallS m.sY (cAmong_ok code a45 s45 ([30, 2000, 2001, 0]) (by simp) h (by omega) (by omega)) (cAmong_ex code a45 s45 ([30, 2000, 2001, 0]) (by simp)) (by rintro _ _ ⟨_, rfl, _⟩; first | trivial | (intro x hx; simp at hx; rcases hx with rfl | rfl | rfl <;> trivial)) ?_
              rintro _ _ ⟨q41, rfl, ⟨a46, s46, rfl, ea46, fa46⟩, bq41⟩
              simp only [List.mem_cons, List.not_mem_nil, or_false] at bq41
              conv => cbv
              refine r_mcallS m.sY (cAmong_ok code a46 s46 ([30, 40, 50, 60, 25, 100, q41]) (by simp) h (by omega) (by omega)) (cAmong_ex code a46 s46 ([30, 40, 50, 60, 25, 100, q41]) (by simp)) (by rintro _ _ ⟨_, rfl, _⟩; first | trivial | (intro x hx; simp at hx; rcases hx with rfl | rfl | rfl <;> trivial)) ?_
              rintro _ _ ⟨q42, rfl, ⟨a47, s47, rfl, ea47, fa47⟩, bq42⟩
              simp only [List.mem_cons, List.not_mem_nil, or_false] at bq42
              conv => cbv
              exact hQ (.tup [.fr 3 1 (rows cInt words_8), .agg [.int .i64 r5, .int .i64 4, .int .i64 r6], .int .i64 q42]) (cCur code a47 s47) ⟨words_8, (r5, 4, r6), q42, rfl, ⟨a47, s47, rfl, by omega, by omega⟩, (by first | omega | assumption | (simp; done) | (simp [*]; done) | (simp at * <;> omega))⟩
            · refine r_draw m (by kernel_rfl) ?_
              conv => cbv
              refine r_mcallS m.sY (cAmong_ok code a43 s43 ([30, 2000, 2001, 0]) (by simp) h (by omega) (by omega)) (cAmong_ex code a43 s43 ([30, 2000, 2001, 0]) (by simp)) (by rintro _ _ ⟨_, rfl, _⟩; first | trivial | (intro x hx; simp at hx; rcases hx with rfl | rfl | rfl <;> trivial)) ?_
              rintro _ _ ⟨q43, rfl, ⟨a48, s48, rfl, ea48, fa48⟩, bq43⟩
              simp only [List.mem_cons, List.not_mem_nil, or_false] at bq43
              conv => cbv
              refine r_mcallS m.sY (cAmong_ok code a48 s48 ([30, 40, 50, 60, 25, 100, q43]) (by simp) h (by omega) (by omega)) (cAmong_ex code a48 s48 ([30, 40, 50, 60, 25, 100, q43]) (by simp)) (by rintro _ _ ⟨_, rfl, _⟩; first | trivial | (intro x hx; simp at hx; rcases hx with rfl | rfl | rfl <;> trivial)) ?_
              rintro _ _ ⟨q44, rfl, ⟨a49, s49, rfl, ea49, fa49⟩, bq44⟩
              simp only [List.mem_cons, List.not_mem_nil, or_false] at bq44
              conv => cbv
              exact hQ (.tup [.fr 3 1 (rows cInt words_5), .agg [.int .i64 r5, .int .i64 4, .int .i64 r6], .int .i64 q44]) (cCur code a49 s49) ⟨words_5, (r5, 4, r6), q44, rfl, ⟨a49, s49, rfl, by omega, by omega⟩, (by first | omega | assumption | (simp; done) | (simp [*]; done) | (simp at * <;> omega))⟩
          · refine r_draw m (by kernel_rfl) ?_
            conv => cbv
            refine r_mcallS m.sY (cAmong_ok code a32 s32 ([30, 2000, 2001, 0]) (by simp) h (by omega) (by omega)) (cAmong_ex code a32 s32 ([30, 2000, 2001, 0]) (by simp)) (by rintro _ _ ⟨_, rfl, _⟩; first | trivial | (intro x hx; simp at hx; rcases hx with rfl | rfl | rfl <;> trivial)) ?_
            rintro _ _ ⟨q45, rfl, ⟨a50, s50, rfl, ea50, fa50⟩, bq45⟩
            simp only [List.mem_cons, List.not_mem_nil, or_false] at bq45
            conv => cbv
            refine r_mcallS m.sY (cAmong_ok code a50 s50 ([30, 40, 50, 60, 25, 100, q45]) (by simp) h (by omega) (by omega)) (cAmong_ex code a50 s50 ([30, 40, 50, 60, 25, 100, q45]) (by simp)) (by rintro _ _ ⟨_, rfl, _⟩; first | trivial | (intro x hx; simp at hx; rcases hx with rfl | rfl | rfl <;> trivial)) ?_
            rintro _ _ ⟨q46, rfl, ⟨a51, s51, rfl, ea51, fa51⟩, bq46⟩
            simp only [List.mem_cons, List.not_mem_nil, or_false] at bq46
            conv => cbv
            exact hQ (.tup [.fr 3 1 (rows cInt words_5), .agg [.int .i64 r5, .int .i64 4, .int .i64 r6], .int .i64 q46]) (cCur code a51 s51) ⟨words_5, (r5, 4, r6), q46, rfl, ⟨a51, s51, rfl, by omega, by omega⟩, (by first | omega | assumption | (simp; done) | (simp [*]; done) | (simp at * <;> omega))⟩)

/- Contracts of drawn fonts and words, with bounds. -/

theorem sets_app {f : List FSort} (h : ∀ x ∈ f, -100 ≤ x.2 ∧ x.2 ≤ 100) {y : FSort} (hy : -100 ≤ y.2 ∧ y.2 ≤ 100) : ∀ x ∈ f ++ [y], -100 ≤ x.2 ∧ x.2 ≤ 100 := fun x hx => by
  rcases List.mem_append.1 hx with hx | hx
  · exact h x hx
  · rw [List.mem_singleton.1 hx]; exact hy
theorem sets_set {f : List FSort} (h : ∀ x ∈ f, -100 ≤ x.2 ∧ x.2 ≤ 100) {y : FSort} (k : Nat) (hy : -100 ≤ y.2 ∧ y.2 ≤ 100) : ∀ x ∈ f.set k y, -100 ≤ x.2 ∧ x.2 ≤ 100 := fun x hx => by
  rcases List.mem_or_eq_of_mem_set hx with hx | rfl
  · exact h x hx
  · exact hy
theorem cOf_ok (code : List Int) (b0 t0 : Int) (list : List (List UInt8)) (h : CurIn code) (h0 : 0 ≤ b0) (hk : b0 ≤ 899999999999998000) (hl : 0 < list.length) (hm : list.length ≤ 200) : OkM Try.prog 155 (cCur code b0 t0) [.isl 1 (rows cStr list)] (fun r cs => ∃ (q : List UInt8), r = .str q ∧ CurTo code b0 2 cs ∧ (q ∈ list)) :=
  fnM_intro envOk fieldsOk mixed Try.func155 rfl fun κ X Y L Q m hQ => by
    conv => cbv
    refine r_lenR m.sX fun n1 hn1 mn1 => ?_
    conv => cbv
    refine r_mcall m.sX (cPick_ok code b0 t0 n1 h (by omega) (by omega)) ?_
    rintro _ _ ⟨q1, rfl, ⟨a1, s1, rfl, ea1, fa1⟩, bq1, cq1, dq1⟩
    conv => cbv
    refine r_index m.sX (by omega) (by omega) fun x1 hx1 => ?_
    conv => cbv
    have mx1 := get_mem hx1
    exact hQ (.str x1) (cCur code a1 s1) ⟨x1, rfl, ⟨a1, s1, rfl, by omega, by omega⟩, (by first | omega | exact mx1)⟩

theorem cOfL_ok (code : List Int) (b0 t0 : Int) (list : List (List UInt8)) (h : CurIn code) (h0 : 0 ≤ b0) (hk : b0 ≤ 899999999999998000) (hl : 0 < list.length) (hm : list.length ≤ 200) : OkM Try.prog 155 (cCur code b0 t0) [.isl 1 (list.map cStr)] (fun r cs => ∃ (q : List UInt8), r = .str q ∧ CurTo code b0 2 cs ∧ q ∈ list) := by
  have := cOf_ok code b0 t0 list h h0 hk hl hm
  rwa [rows_eq] at this
theorem cFont_ok (code : List Int) (b0 t0 : Int)  (h : CurIn code) (h0 : 0 ≤ b0) (hk : b0 ≤ 899999999999890000)  : OkM Try.prog 154 (cCur code b0 t0) [] (fun r cs => ∃ (q : List FSort), r = .fr 155 2 (rows cSort q) ∧ CurTo code b0 110 cs ∧ ((q.length : Int) ≤ 12) ∧ (1 ≤ q.length) ∧ (∀ x ∈ q, -100 ≤ x.2 ∧ x.2 ≤ 100)) :=
  fnM_intro envOk fieldsOk mixed Try.func154 rfl fun κ X Y L Q m hQ => by
    conv => cbv
    refine r_lenN 12 m.sX rfl (by omega) fun n1 hn1 => ?_
    conv => cbv
    refine r_loopF (α := Int × Int × List FSort × List (List UInt8) × Int) m 48 [7, 8] [⟨0, 1, 0, 0, 0⟩, ⟨3, 25, 155, 2, 0⟩, ⟨6, 49, 9, 1, 0⟩] (fun σ => [(0, .optr 1 0 0 0 0), (3, .osl 25 0), (6, .osl 49 0), (7, .int .i64 n1), (8, .int .i64 σ.2.2.2.2)]) (fun σ => [(1, 0, .box (cCur code σ.1 σ.2.1)), (25, 0, .row 155 2 (rows cSort σ.2.2.1)), (49, 0, .row 9 1 (rows cStr σ.2.2.2.1))])
      (fun σ => (0 ≤ σ.2.2.2.2) ∧ (σ.2.2.2.2 ≤ n1) ∧ (b0 ≤ σ.1 ∧ σ.1 ≤ b0 + 8 * σ.2.2.2.2) ∧ ((σ.2.2.1.length : Int) ≤ σ.2.2.2.2) ∧ (∀ x ∈ σ.2.2.1, -100 ≤ x.2 ∧ x.2 ≤ 100) ∧ (σ.2.2.2.1 = codesL)) (fun σ => (n1 - σ.2.2.2.2).toNat) (b0, t0, [], [([97] : List UInt8), ([97, 98] : List UInt8), ([97, 98, 99] : List UInt8), ([98] : List UInt8), ([98, 98] : List UInt8), ([99] : List UInt8), ([100] : List UInt8), ([101] : List UInt8), ([102] : List UInt8), ([102, 102] : List UInt8), ([102, 105] : List UInt8), ([105] : List UInt8)], 0) ?_ ?_ ?_ ?_
    · cbv
    · (try dsimp only); simp only [rows_cons, rows_nil]; cbv
    · exact ⟨(by (try dsimp only); first | omega | (simp only [List.length_nil]; omega)), (by (try dsimp only); first | omega | (simp only [List.length_nil]; omega)), (by (try dsimp only); first | omega | (simp only [List.length_nil]; omega)), (by (try dsimp only) <;> first | omega | rfl | (simp [*]; done)), (by (try dsimp only) <;> (intro x hx; cases hx)), (by (try dsimp only) <;> (rfl))⟩
    rintro ⟨a1, s1, f, ys1, i1⟩ ⟨lo1, hi1, cl1, fl, fs, y⟩ E hE F hF
    dsimp only at lo1 hi1 cl1 fl fs y
    have yl : (ys1.length : Int) = 12 := by rw [y]; rfl
    conv => cbv
    refine r_lss m.sX (fun h1 => ?_) (fun h1 => ?_) <;> conv => cbv
    · refine r_oindex m.sX (by omega) (by omega) ?_
      conv => cbv
      obtain ⟨code_, hcode_⟩ := get_ex (xs := ys1) (i := Int.toNat i1) (by omega)
      have mcode_ := get_mem hcode_
      have dcode_ := drop_cons hcode_
      have kcode_ := take_snoc hcode_
      have jcode_ : (i1 + 1).toNat = Int.toNat i1 + 1 := by omega
      have bc := codes_len code_ (by rw [← y]; exact mcode_)
      refine r_oload m.sX hcode_ (Nat.le_of_ble_eq_true rfl) ?_
      conv => cbv
      refine r_slen (u := code_) m.sX fun n2 hn2 mn2 => ?_
      conv => cbv
      refine r_eql m.sX (fun h2 => ?_) (fun h2 => ?_) <;> conv => cbv
      · refine r_mcall m.sX (cOne_ok code a1 s1 12 h (by omega) (by omega)) ?_
        rintro _ _ ⟨q1, rfl, ⟨a2, s2, rfl, ea2, fa2⟩⟩
        conv => cbv
        rcases Bool.eq_false_or_eq_true q1 with rfl | rfl <;> conv => cbv
        · refine r_slen (u := code_) m.sX fun n3 hn3 mn3 => ?_
          conv => cbv
          refine r_gtr m.sX (fun h3 => ?_) (fun h3 => ?_) <;> conv => cbv
          · refine r_mcall m.sX (cOne_ok code a2 s2 3 h (by omega) (by omega)) ?_
            rintro _ _ ⟨q2, rfl, ⟨a3, s3, rfl, ea3, fa3⟩⟩
            conv => cbv
            rcases Bool.eq_false_or_eq_true q2 with rfl | rfl <;> conv => cbv
            · refine r_slen (u := code_) m.sX fun n4 hn4 mn4 => ?_
              conv => cbv
              refine r_mcall m.sX (cPick_ok code a3 s3 4 h (by omega) (by omega)) ?_
              rintro _ _ ⟨q3, rfl, ⟨a4, s4, rfl, ea4, fa4⟩, bq3, cq3, dq3⟩
              conv => cbv
              refine r_addf m.sX (by omega) (by omega) fun r1 hr1 => ?_
              conv => cbv
              have mb := mul_bound (a := n4) (A := 3) (b := r1) (B := 5) (by omega) (by omega) (by omega) (by omega)
              refine r_mulf m.sX (by first | omega | (subst_vars; omega)) (by first | omega | (subst_vars; omega)) fun r2 hr2 => ?_
              conv => cbv
              refine r_addf m.sX (by omega) (by omega) fun r3 hr3 => ?_
              conv => cbv
              refine r_append1 ((code_, r3)) m.sX rfl (by first | omega | (dsimp only; omega)) (by first | omega | (dsimp only; omega)) fun f_2 hf_2 => ?_
              conv => cbv
              have lf_2 : (f_2.length : Int) = f.length + 1 := by rw [hf_2]; first | done | (simp; done) | (simp; omega)
              refine r_addf m.sX (by omega) (by omega) fun r4 hr4 => ?_
              conv => cbv
              try have tr4 : Int.toNat r4 = Int.toNat i1 + 1 := by omega
              refine hE _ (a4, s4, f_2, ys1, r4) ?_ ?_ ⟨(by (try dsimp only); first | omega | (simp only [List.length_nil]; omega)), (by (try dsimp only); first | omega | (simp only [List.length_nil]; omega)), (by (try dsimp only); first | omega | (simp only [List.length_nil]; omega)), (by (try dsimp only) <;> first | omega | rfl | (simp [*]; done) | (rw [fl]; simp [*]; done)), (by (try dsimp only) <;> (first | exact fs | (rw [hf_2]; exact sets_app fs (by dsimp only; omega)))), (by (try dsimp only) <;> (exact y))⟩ (by first | omega | (dsimp only; omega))
              · cbv
              · cbv
            · refine r_addf m.sX (by omega) (by omega) fun r5 hr5 => ?_
              conv => cbv
              try have tr5 : Int.toNat r5 = Int.toNat i1 + 1 := by omega
              refine hE _ (a3, s3, f, ys1, r5) ?_ ?_ ⟨(by (try dsimp only); first | omega | (simp only [List.length_nil]; omega)), (by (try dsimp only); first | omega | (simp only [List.length_nil]; omega)), (by (try dsimp only); first | omega | (simp only [List.length_nil]; omega)), (by (try dsimp only) <;> first | omega | rfl | (simp [*]; done) | (rw [fl]; simp [*]; done)), (by (try dsimp only) <;> (first | exact fs | (rw [hf]; exact sets_app fs (by dsimp only; omega)))), (by (try dsimp only) <;> (exact y))⟩ (by first | omega | (dsimp only; omega))
              · cbv
              · cbv
          · refine r_addf m.sX (by omega) (by omega) fun r6 hr6 => ?_
            conv => cbv
            try have tr6 : Int.toNat r6 = Int.toNat i1 + 1 := by omega
            refine hE _ (a2, s2, f, ys1, r6) ?_ ?_ ⟨(by (try dsimp only); first | omega | (simp only [List.length_nil]; omega)), (by (try dsimp only); first | omega | (simp only [List.length_nil]; omega)), (by (try dsimp only); first | omega | (simp only [List.length_nil]; omega)), (by (try dsimp only) <;> first | omega | rfl | (simp [*]; done) | (rw [fl]; simp [*]; done)), (by (try dsimp only) <;> (first | exact fs | (rw [hf]; exact sets_app fs (by dsimp only; omega)))), (by (try dsimp only) <;> (exact y))⟩ (by first | omega | (dsimp only; omega))
            · cbv
            · cbv
        · refine r_slen (u := code_) m.sX fun n5 hn5 mn5 => ?_
          conv => cbv
          refine r_mcall m.sX (cPick_ok code a2 s2 4 h (by omega) (by omega)) ?_
          rintro _ _ ⟨q4, rfl, ⟨a5, s5, rfl, ea5, fa5⟩, bq4, cq4, dq4⟩
          conv => cbv
          refine r_addf m.sX (by omega) (by omega) fun r7 hr7 => ?_
          conv => cbv
          have mb := mul_bound (a := n5) (A := 3) (b := r7) (B := 5) (by omega) (by omega) (by omega) (by omega)
          refine r_mulf m.sX (by first | omega | (subst_vars; omega)) (by first | omega | (subst_vars; omega)) fun r8 hr8 => ?_
          conv => cbv
          refine r_addf m.sX (by omega) (by omega) fun r9 hr9 => ?_
          conv => cbv
          refine r_append1 ((code_, r9)) m.sX rfl (by first | omega | (dsimp only; omega)) (by first | omega | (dsimp only; omega)) fun f_3 hf_3 => ?_
          conv => cbv
          have lf_3 : (f_3.length : Int) = f.length + 1 := by rw [hf_3]; first | done | (simp; done) | (simp; omega)
          refine r_addf m.sX (by omega) (by omega) fun r10 hr10 => ?_
          conv => cbv
          try have tr10 : Int.toNat r10 = Int.toNat i1 + 1 := by omega
          refine hE _ (a5, s5, f_3, ys1, r10) ?_ ?_ ⟨(by (try dsimp only); first | omega | (simp only [List.length_nil]; omega)), (by (try dsimp only); first | omega | (simp only [List.length_nil]; omega)), (by (try dsimp only); first | omega | (simp only [List.length_nil]; omega)), (by (try dsimp only) <;> first | omega | rfl | (simp [*]; done) | (rw [fl]; simp [*]; done)), (by (try dsimp only) <;> (first | exact fs | (rw [hf_3]; exact sets_app fs (by dsimp only; omega)))), (by (try dsimp only) <;> (exact y))⟩ (by first | omega | (dsimp only; omega))
          · cbv
          · cbv
      · refine r_slen (u := code_) m.sX fun n6 hn6 mn6 => ?_
        conv => cbv
        refine r_gtr m.sX (fun h4 => ?_) (fun h4 => ?_) <;> conv => cbv
        · refine r_mcall m.sX (cOne_ok code a1 s1 3 h (by omega) (by omega)) ?_
          rintro _ _ ⟨q5, rfl, ⟨a6, s6, rfl, ea6, fa6⟩⟩
          conv => cbv
          rcases Bool.eq_false_or_eq_true q5 with rfl | rfl <;> conv => cbv
          · refine r_slen (u := code_) m.sX fun n7 hn7 mn7 => ?_
            conv => cbv
            refine r_mcall m.sX (cPick_ok code a6 s6 4 h (by omega) (by omega)) ?_
            rintro _ _ ⟨q6, rfl, ⟨a7, s7, rfl, ea7, fa7⟩, bq6, cq6, dq6⟩
            conv => cbv
            refine r_addf m.sX (by omega) (by omega) fun r11 hr11 => ?_
            conv => cbv
            have mb := mul_bound (a := n7) (A := 3) (b := r11) (B := 5) (by omega) (by omega) (by omega) (by omega)
            refine r_mulf m.sX (by first | omega | (subst_vars; omega)) (by first | omega | (subst_vars; omega)) fun r12 hr12 => ?_
            conv => cbv
            refine r_addf m.sX (by omega) (by omega) fun r13 hr13 => ?_
            conv => cbv
            refine r_append1 ((code_, r13)) m.sX rfl (by first | omega | (dsimp only; omega)) (by first | omega | (dsimp only; omega)) fun f_4 hf_4 => ?_
            conv => cbv
            have lf_4 : (f_4.length : Int) = f.length + 1 := by rw [hf_4]; first | done | (simp; done) | (simp; omega)
            refine r_addf m.sX (by omega) (by omega) fun r14 hr14 => ?_
            conv => cbv
            try have tr14 : Int.toNat r14 = Int.toNat i1 + 1 := by omega
            refine hE _ (a7, s7, f_4, ys1, r14) ?_ ?_ ⟨(by (try dsimp only); first | omega | (simp only [List.length_nil]; omega)), (by (try dsimp only); first | omega | (simp only [List.length_nil]; omega)), (by (try dsimp only); first | omega | (simp only [List.length_nil]; omega)), (by (try dsimp only) <;> first | omega | rfl | (simp [*]; done) | (rw [fl]; simp [*]; done)), (by (try dsimp only) <;> (first | exact fs | (rw [hf_4]; exact sets_app fs (by dsimp only; omega)))), (by (try dsimp only) <;> (exact y))⟩ (by first | omega | (dsimp only; omega))
            · cbv
            · cbv
          · refine r_addf m.sX (by omega) (by omega) fun r15 hr15 => ?_
            conv => cbv
            try have tr15 : Int.toNat r15 = Int.toNat i1 + 1 := by omega
            refine hE _ (a6, s6, f, ys1, r15) ?_ ?_ ⟨(by (try dsimp only); first | omega | (simp only [List.length_nil]; omega)), (by (try dsimp only); first | omega | (simp only [List.length_nil]; omega)), (by (try dsimp only); first | omega | (simp only [List.length_nil]; omega)), (by (try dsimp only) <;> first | omega | rfl | (simp [*]; done) | (rw [fl]; simp [*]; done)), (by (try dsimp only) <;> (first | exact fs | (rw [hf]; exact sets_app fs (by dsimp only; omega)))), (by (try dsimp only) <;> (exact y))⟩ (by first | omega | (dsimp only; omega))
            · cbv
            · cbv
        · refine r_addf m.sX (by omega) (by omega) fun r16 hr16 => ?_
          conv => cbv
          try have tr16 : Int.toNat r16 = Int.toNat i1 + 1 := by omega
          refine hE _ (a1, s1, f, ys1, r16) ?_ ?_ ⟨(by (try dsimp only); first | omega | (simp only [List.length_nil]; omega)), (by (try dsimp only); first | omega | (simp only [List.length_nil]; omega)), (by (try dsimp only); first | omega | (simp only [List.length_nil]; omega)), (by (try dsimp only) <;> first | omega | rfl | (simp [*]; done) | (rw [fl]; simp [*]; done)), (by (try dsimp only) <;> (first | exact fs | (rw [hf]; exact sets_app fs (by dsimp only; omega)))), (by (try dsimp only) <;> (exact y))⟩ (by first | omega | (dsimp only; omega))
          · cbv
          · cbv
    · have dz_i1 := drop_end (xs := [([97] : List UInt8), ([97, 98] : List UInt8), ([97, 98, 99] : List UInt8), ([98] : List UInt8), ([98, 98] : List UInt8), ([99] : List UInt8), ([100] : List UInt8), ([101] : List UInt8), ([102] : List UInt8), ([102, 102] : List UInt8), ([102, 105] : List UInt8), ([105] : List UInt8)]) (i := Int.toNat i1) (by simp only [List.length_cons, List.length_nil]; omega)
      have tz_i1 := take_end (xs := [([97] : List UInt8), ([97, 98] : List UInt8), ([97, 98, 99] : List UInt8), ([98] : List UInt8), ([98, 98] : List UInt8), ([99] : List UInt8), ([100] : List UInt8), ([101] : List UInt8), ([102] : List UInt8), ([102, 102] : List UInt8), ([102, 105] : List UInt8), ([105] : List UInt8)]) (i := Int.toNat i1) (by simp only [List.length_cons, List.length_nil]; omega)
      refine hF _ _ ?_
      conv => cbv
      refine r_lenR m.sX fun n8 hn8 mn8 => ?_
      conv => cbv
      refine r_eql m.sX (fun h5 => ?_) (fun h5 => ?_) <;> conv => cbv
      · exact hQ (.fr 155 2 [[.str ([97] : List UInt8), .int .i64 9]]) (cCur code a1 s1) ⟨[(([97] : List UInt8), 9)], (by first | rfl | (simp only [rows_nil]; rfl) | (simp only [rows_cons, rows_nil]; rfl)), ⟨a1, s1, rfl, by omega, by omega⟩, (by first | omega | assumption | (simp; done) | (simp [*]; done) | (intro x hx; simp at hx; subst hx; decide) | (simp at * <;> omega)), (by first | omega | assumption | (simp; done) | (simp [*]; done) | (intro x hx; simp at hx; subst hx; decide) | (simp at * <;> omega)), (by first | omega | assumption | (simp; done) | (simp [*]; done) | (intro x hx; simp at hx; subst hx; decide) | (simp at * <;> omega))⟩
      · exact hQ (.fr 155 2 (rows cSort f)) (cCur code a1 s1) ⟨f, rfl, ⟨a1, s1, rfl, by omega, by omega⟩, (by first | omega | assumption | (simp; done) | (simp [*]; done) | (intro x hx; simp at hx; subst hx; decide) | (simp at * <;> omega)), (by first | omega | assumption | (simp; done) | (simp [*]; done) | (intro x hx; simp at hx; subst hx; decide) | (simp at * <;> omega)), (by first | omega | assumption | (simp; done) | (simp [*]; done) | (intro x hx; simp at hx; subst hx; decide) | (simp at * <;> omega))⟩

theorem cAnyFont_ok (code : List Int) (b0 t0 : Int)  (h : CurIn code) (h0 : 0 ≤ b0) (hk : b0 ≤ 899999999999870000)  : OkM Try.prog 114 (cCur code b0 t0) [] (fun r cs => ∃ (q : List FSort), r = .fr 155 2 (rows cSort q) ∧ CurTo code b0 130 cs ∧ ((q.length : Int) ≤ 40) ∧ (∀ x ∈ q, -100 ≤ x.2 ∧ x.2 ≤ 100)) :=
  OkM.unnil 155 2 (fnM_intro envOk fieldsOk mixed Try.func114 rfl fun κ X Y L Q m hQ => by
    conv => cbv
    refine r_mcall m.sX (cFont_ok code b0 t0 h (by omega) (by omega)) ?_
    rintro _ _ ⟨f, rfl, ⟨a1, s1, rfl, ea1, fa1⟩, bf_1, bf_2, bf_3⟩
    conv => cbv
    refine r_lenR m.sX fun n1 hn1 mn1 => ?_
    conv => cbv
    refine r_mcall m.sX (cPick_ok code a1 s1 n1 h (by omega) (by omega)) ?_
    rintro _ _ ⟨k, rfl, ⟨a2, s2, rfl, ea2, fa2⟩, bk, ck, dk⟩
    conv => cbv
    refine r_mcall m.sX (cPick_ok code a2 s2 30 h (by omega) (by omega)) ?_
    rintro _ _ ⟨q1, rfl, ⟨a3, s3, rfl, ea3, fa3⟩, bq1, cq1, dq1⟩
    conv => cbv
    refine r_eql m.sX (fun h1 => ?_) (fun h1 => ?_) <;> conv => cbv
    · refine r_mcall m.sX (cOfL_ok code a3 s3 ([([] : List UInt8), ([65] : List UInt8), ([97, 98, 99, 100] : List UInt8), ([97] : List UInt8), ([122, 122, 122] : List UInt8)]) h (by omega) (by omega) (by first | rfl | assumption | omega | (simp at * <;> omega)) (by first | rfl | assumption | omega | (simp at * <;> omega))) ?_
      rintro _ _ ⟨q2, rfl, ⟨a4, s4, rfl, ea4, fa4⟩, bq2_1⟩
      conv => cbv
      refine r_oindex m.sX (by omega) (by omega) ?_
      conv => cbv
      obtain ⟨⟨y1A, y1B⟩, hy1⟩ := get_ex (xs := f) (i := Int.toNat k) (by omega)
      refine r_ostore (l := Int.toNat k) (q2, y1B) m.sX hy1 (Nat.le_of_ble_eq_true rfl) rfl fun zs1 hzs1 => ?_
      have lzs1 : (zs1.length : Int) = f.length := by rw [hzs1]; first | done | (simp; done) | (simp; omega)
      conv => cbv
      exact hQ (.fr 155 2 (rows cSort zs1)) (cCur code a4 s4) ⟨zs1, rfl, ⟨a4, s4, rfl, by omega, by omega⟩, (by first | omega | assumption | (simp; done) | (rw [hzs1]; exact sets_set bf_3 _ (by have z := bf_3 _ (List.mem_of_getElem? hy1); exact z)) | (rw [hzs2]; exact sets_set bf_3 _ (by dsimp only; omega)) | (simp [*]; done) | (simp at * <;> omega)), (by first | omega | assumption | (simp; done) | (rw [hzs1]; exact sets_set bf_3 _ (by have z := bf_3 _ (List.mem_of_getElem? hy1); exact z)) | (rw [hzs2]; exact sets_set bf_3 _ (by dsimp only; omega)) | (simp [*]; done) | (simp at * <;> omega))⟩
    · refine r_eql m.sX (fun h2 => ?_) (fun h2 => ?_) <;> conv => cbv
      · refine r_mcall m.sX (cAmong_ok code a3 s3 ([0, 1, 54, 55, -1]) (by simp) h (by omega) (by omega)) ?_
        rintro _ _ ⟨q3, rfl, ⟨a5, s5, rfl, ea5, fa5⟩, bq3⟩
        simp only [List.mem_cons, List.not_mem_nil, or_false] at bq3
        conv => cbv
        refine r_oindex m.sX (by omega) (by omega) ?_
        conv => cbv
        obtain ⟨⟨y2A, y2B⟩, hy2⟩ := get_ex (xs := f) (i := Int.toNat k) (by omega)
        refine r_ostore (l := Int.toNat k) (y2A, q3) m.sX hy2 (Nat.le_of_ble_eq_true rfl) rfl fun zs2 hzs2 => ?_
        have lzs2 : (zs2.length : Int) = f.length := by rw [hzs2]; first | done | (simp; done) | (simp; omega)
        conv => cbv
        exact hQ (.fr 155 2 (rows cSort zs2)) (cCur code a5 s5) ⟨zs2, rfl, ⟨a5, s5, rfl, by omega, by omega⟩, (by first | omega | assumption | (simp; done) | (rw [hzs1]; exact sets_set bf_3 _ (by have z := bf_3 _ (List.mem_of_getElem? hy1); exact z)) | (rw [hzs2]; exact sets_set bf_3 _ (by dsimp only; omega)) | (simp [*]; done) | (simp at * <;> omega)), (by first | omega | assumption | (simp; done) | (rw [hzs1]; exact sets_set bf_3 _ (by have z := bf_3 _ (List.mem_of_getElem? hy1); exact z)) | (rw [hzs2]; exact sets_set bf_3 _ (by dsimp only; omega)) | (simp [*]; done) | (simp at * <;> omega))⟩
      · refine r_eql m.sX (fun h3 => ?_) (fun h3 => ?_) <;> conv => cbv
        · exact hQ (.nil) (cCur code a3 s3) ⟨[], (by first | rfl | (simp only [rows_nil]; rfl) | (simp only [rows_cons, rows_nil]; rfl)), ⟨a3, s3, rfl, by omega, by omega⟩, (by first | omega | assumption | (simp; done) | (rw [hzs1]; exact sets_set bf_3 _ (by have z := bf_3 _ (List.mem_of_getElem? hy1); exact z)) | (rw [hzs2]; exact sets_set bf_3 _ (by dsimp only; omega)) | (simp [*]; done) | (simp at * <;> omega)), (by first | omega | assumption | (simp; done) | (rw [hzs1]; exact sets_set bf_3 _ (by have z := bf_3 _ (List.mem_of_getElem? hy1); exact z)) | (rw [hzs2]; exact sets_set bf_3 _ (by dsimp only; omega)) | (simp [*]; done) | (simp at * <;> omega))⟩
        · refine r_eql m.sX (fun h4 => ?_) (fun h4 => ?_) <;> conv => cbv
          · refine r_mcall m.sX (cPick_ok code a3 s3 2 h (by omega) (by omega)) ?_
            rintro _ _ ⟨q4, rfl, ⟨a6, s6, rfl, ea6, fa6⟩, bq4, cq4, dq4⟩
            conv => cbv
            refine r_addf m.sX (by omega) (by omega) fun n hn => ?_
            conv => cbv
            refine r_loopF (α := List FSort) m 60 [5] [⟨0, 1, 0, 0, 0⟩, ⟨3, 25, 155, 2, 0⟩] (fun σ => [(0, .optr 1 0 0 0 0), (3, .osl 25 0), (5, .int .i64 n)]) (fun σ => [(1, 0, .box (cCur code a6 s6)), (25, 0, .row 155 2 (rows cSort σ))])
              (fun σ => ((σ.length : Int) ≤ n) ∧ (∀ x ∈ σ, -100 ≤ x.2 ∧ x.2 ≤ 100)) (fun σ => (n - (σ.length : Int)).toNat) ([]) ?_ ?_ ?_ ?_
            · cbv
            · (try dsimp only); simp only [rows_cons, rows_nil]; cbv
            · exact ⟨(by (try dsimp only); first | omega | (simp only [List.length_nil]; omega)), (by (try dsimp only) <;> (intro x hx; cases hx))⟩
            rintro f_2 ⟨ll1, fs⟩ E hE F hF
            conv => cbv
            refine r_lenR m.sX fun n2 hn2 mn2 => ?_
            conv => cbv
            refine r_lss m.sX (fun h5 => ?_) (fun h5 => ?_) <;> conv => cbv
            · refine r_lenR m.sX fun n3 hn3 mn3 => ?_
              conv => cbv
              first | refine r_divf m.sX (by omega) (by omega) fun r1 hr1 br1 => ?_ | refine r_tdivf m.sX (by omega) (by omega) fun r1 hr1 br1 => ?_
              conv => cbv
              refine r_addf m.sX (by omega) (by omega) fun r2 hr2 => ?_
              conv => cbv
              refine r_conv m.sX fun r3 hr3 => ?_
              conv => cbv
              refine r_lenR m.sX fun n4 hn4 mn4 => ?_
              conv => cbv
              refine r_modf m.sX (by omega) (by omega) fun r4 hr4 br4 => ?_
              conv => cbv
              refine r_addf m.sX (by omega) (by omega) fun r5 hr5 => ?_
              conv => cbv
              refine r_conv m.sX fun r6 hr6 => ?_
              conv => cbv
              refine r_tostr ([r3, r6] : List Int) m.sX rfl fun s7 hs7 => ?_
              have ls7 : (s7.length : Int) = 2 := by rw [hs7]; rfl
              conv => cbv
              refine r_append1 ((s7, 9)) m.sX rfl (by first | omega | (dsimp only; omega)) (by first | omega | (dsimp only; omega)) fun f_3 hf_3 => ?_
              conv => cbv
              have lf_3 : (f_3.length : Int) = f_2.length + 1 := by rw [hf_3]; first | done | (simp; done) | (simp; omega)
              refine hE _ f_3 ?_ ?_ ⟨(by (try dsimp only); first | omega | (simp only [List.length_nil]; omega)), (by (try dsimp only) <;> (rw [hf_3]; exact sets_app fs (by dsimp only; omega)))⟩ (by first | omega | (dsimp only; omega))
              · cbv
              · cbv
            · refine hF _ _ ?_
              conv => cbv
              exact hQ (.fr 155 2 (rows cSort f_2)) (cCur code a6 s6) ⟨f_2, rfl, ⟨a6, s6, rfl, by omega, by omega⟩, (by first | omega | assumption | (simp; done) | (rw [hzs1]; exact sets_set bf_3 _ (by have z := bf_3 _ (List.mem_of_getElem? hy1); exact z)) | (rw [hzs2]; exact sets_set bf_3 _ (by dsimp only; omega)) | (simp [*]; done) | (simp at * <;> omega)), (by first | omega | assumption | (simp; done) | (rw [hzs1]; exact sets_set bf_3 _ (by have z := bf_3 _ (List.mem_of_getElem? hy1); exact z)) | (rw [hzs2]; exact sets_set bf_3 _ (by dsimp only; omega)) | (simp [*]; done) | (simp at * <;> omega))⟩
          · exact hQ (.fr 155 2 (rows cSort f)) (cCur code a3 s3) ⟨f, rfl, ⟨a3, s3, rfl, by omega, by omega⟩, (by first | omega | assumption | (simp; done) | (rw [hzs1]; exact sets_set bf_3 _ (by have z := bf_3 _ (List.mem_of_getElem? hy1); exact z)) | (rw [hzs2]; exact sets_set bf_3 _ (by dsimp only; omega)) | (simp [*]; done) | (simp at * <;> omega)), (by first | omega | assumption | (simp; done) | (rw [hzs1]; exact sets_set bf_3 _ (by have z := bf_3 _ (List.mem_of_getElem? hy1); exact z)) | (rw [hzs2]; exact sets_set bf_3 _ (by dsimp only; omega)) | (simp [*]; done) | (simp at * <;> omega))⟩)

theorem cWord_ok (code : List Int) (b0 t0 : Int)  (h : CurIn code) (h0 : 0 ≤ b0) (hk : b0 ≤ 899999999999940000)  : OkM Try.prog 115 (cCur code b0 t0) [] (fun r cs => ∃ (q : List UInt8), r = .str q ∧ CurTo code b0 60 cs ∧ ((q.length : Int) ≤ 10)) :=
  fnM_intro envOk fieldsOk mixed Try.func115 rfl fun κ X Y L Q m hQ => by
    conv => cbv
    refine r_mcall m.sX (cPick_ok code b0 t0 6 h (by omega) (by omega)) ?_
    rintro _ _ ⟨q1, rfl, ⟨a1, s1, rfl, ea1, fa1⟩, bq1, cq1, dq1⟩
    conv => cbv
    refine r_addf m.sX (by omega) (by omega) fun n hn => ?_
    conv => cbv
    refine r_loopF (α := Int × Int × List UInt8) m 18 [3, 4] [⟨0, 1, 0, 0, 0⟩] (fun σ => [(0, .optr 1 0 0 0 0), (3, .str σ.2.2), (4, .int .i64 n)]) (fun σ => [(1, 0, .box (cCur code σ.1 σ.2.1))])
      (fun σ => (b0 ≤ σ.1 ∧ σ.1 ≤ b0 + 2 + 2 * (σ.2.2.length : Int)) ∧ ((σ.2.2.length : Int) ≤ n + 2)) (fun σ => (n - (σ.2.2.length : Int)).toNat) (a1, s1, ([] : List UInt8)) ?_ ?_ ?_ ?_
    · cbv
    · cbv
    · exact ⟨(by (try dsimp only) <;> first | omega | rfl | (simp [*]; done)), (by (try dsimp only) <;> (simp; omega))⟩
    rintro ⟨a2, s2, s_⟩ ⟨cu, sl⟩ E hE F hF
    dsimp only at cu sl
    conv => cbv
    refine r_slen (u := s_) m.sX fun n1 hn1 mn1 => ?_
    conv => cbv
    refine r_lss m.sX (fun h1 => ?_) (fun h1 => ?_) <;> conv => cbv
    · refine r_mcall m.sX (cOfL_ok code a2 s2 ([([97] : List UInt8), ([98] : List UInt8), ([99] : List UInt8), ([97, 98] : List UInt8), ([98, 98] : List UInt8), ([97, 98, 99] : List UInt8), ([100] : List UInt8), ([101] : List UInt8), ([102] : List UInt8), ([102, 105] : List UInt8)]) h (by omega) (by omega) (by first | rfl | assumption | omega | (simp at * <;> omega)) (by first | rfl | assumption | omega | (simp at * <;> omega))) ?_
      rintro _ _ ⟨q2, rfl, ⟨a3, s3, rfl, ea3, fa3⟩, bq2_1⟩
      have wl := wordL_len q2 bq2_1
      conv => cbv
      refine r_scat (u := s_) (v := q2) m.sX (by first | omega | (simp only [List.length_cons, List.length_nil]; omega) | (simp; omega)) fun s__2 hs__2 => ?_
      have ls__2 : (s__2.length : Int) = s_.length + q2.length := by rw [hs__2, List.length_append, Int.natCast_add]
      try simp only [List.length_cons, List.length_nil] at ls__2
      conv => cbv
      refine hE _ (a3, s3, s__2) ?_ ?_ ⟨(by (try dsimp only) <;> first | omega | rfl | (simp [*]; done) | (rw [cu]; simp [*]; done)), (by (try dsimp only) <;> first | omega | rfl | (simp [*]; done) | (rw [sl]; simp [*]; done))⟩ (by first | omega | (dsimp only; omega))
      · cbv
      · cbv
    · refine hF _ _ ?_
      conv => cbv
      exact hQ (.str s_) (cCur code a2 s2) ⟨s_, rfl, ⟨a2, s2, rfl, by omega, by omega⟩, (by first | omega | assumption | (simp; done) | (simp [*]; done) | (simp at * <;> omega))⟩

/- Contracts of what FnLineBreaks draws. -/
theorem drawBestWithLines_ok (code : List Int) (h : CurIn code) : OkA Try.prog 46 [.isl 1 (rows cU8 code)] (fun r => ∃ (q1 : List Int) (q2 : JRule) (q3 : Int) (q4 : Int), r = .tup [.isl 1 (rows cInt q1), .agg (cRule q2), .int .i64 q3, .int .i64 q4] ∧ (q1.length ≤ 25)) :=
  fn_intro envOk fieldsOk mixed Try.func46 rfl fun κ X Y L Q m hQ => by
    conv => cbv
    refine r_mcall m.sX (cParagraph_ok code 0 0 h (by omega) (by omega)) ?_
    rintro _ _ ⟨words, ⟨rA, rB, rC⟩, measure, e0, ⟨a1, s1, ec0, ea1, fa1⟩, bwords_1⟩; rw [e0, ec0]; clear e0 ec0
    try dsimp only at bwords_1
    conv => cbv
    refine r_draw m (by kernel_rfl) ?_
    conv => cbv
    refine r_mcallS m.sY (cAmong_ok code a1 s1 ([5, 0, 24, 25]) (by simp) h (by omega) (by omega)) (cAmong_ex code a1 s1 ([5, 0, 24, 25]) (by simp)) (by rintro _ _ ⟨_, rfl, _⟩; first | trivial | (intro x hx; simp at hx; rcases hx with rfl | rfl | rfl <;> trivial)) ?_
    rintro _ _ ⟨q1, rfl, ⟨a2, s2, rfl, ea2, fa2⟩, bq1⟩
    simp only [List.mem_cons, List.not_mem_nil, or_false] at bq1
    conv => cbv
    refine r_mcallS m.sY (cAmong_ok code a2 s2 ([1, 2, 3, 4, q1]) (by simp) h (by omega) (by omega)) (cAmong_ex code a2 s2 ([1, 2, 3, 4, q1]) (by simp)) (by rintro _ _ ⟨_, rfl, _⟩; first | trivial | (intro x hx; simp at hx; rcases hx with rfl | rfl | rfl <;> trivial)) ?_
    rintro _ _ ⟨q2, rfl, ⟨a3, s3, rfl, ea3, fa3⟩, bq2⟩
    simp only [List.mem_cons, List.not_mem_nil, or_false] at bq2
    conv => cbv
    exact hQ (.tup [.isl 1 (rows cInt words), .agg [.int .i64 rA, .int .i64 rB, .int .i64 rC], .int .i64 measure, .int .i64 q2]) ⟨words, (rA, rB, rC), measure, q2, rfl, (by first | omega | assumption | (simp; done) | (simp [*]; done) | (simp at * <;> omega))⟩

theorem drawStuckAt_ok (code : List Int) (h : CurIn code) : OkA Try.prog 50 [.isl 1 (rows cU8 code)] (fun r => ∃ (q1 : List Int) (q2 : JRule) (q3 : Int), r = .tup [.isl 1 (rows cInt q1), .agg (cRule q2), .int .i64 q3] ∧ (q1.length ≤ 25)) :=
  fn_intro envOk fieldsOk mixed Try.func50 rfl fun κ X Y L Q m hQ => by
    conv => cbv
    refine r_mcall m.sX (cParagraph_ok code 0 0 h (by omega) (by omega)) ?_
    rintro _ _ ⟨words, ⟨rA, rB, rC⟩, measure, e0, ⟨a1, s1, ec0, ea1, fa1⟩, bwords_1⟩; rw [e0, ec0]; clear e0 ec0
    try dsimp only at bwords_1
    conv => cbv
    refine r_mcall m.sX (cOne_ok code a1 s1 2 h (by omega) (by omega)) ?_
    rintro _ _ ⟨q1, rfl, ⟨a2, s2, rfl, ea2, fa2⟩⟩
    conv => cbv
    rcases Bool.eq_false_or_eq_true q1 with rfl | rfl <;> conv => cbv
    · refine r_draw m (by kernel_rfl) ?_
      conv => cbv
      exact hQ (.tup [.isl 1 (rows cInt words), .agg [.int .i64 3, .int .i64 4, .int .i64 5], .int .i64 measure]) ⟨words, (3, 4, 5), measure, rfl, (by first | omega | assumption | (simp; done) | (simp [*]; done) | (simp at * <;> omega))⟩
    · refine r_draw m (by kernel_rfl) ?_
      conv => cbv
      exact hQ (.tup [.isl 1 (rows cInt words), .agg [.int .i64 rA, .int .i64 rB, .int .i64 rC], .int .i64 measure]) ⟨words, (rA, rB, rC), measure, rfl, (by first | omega | assumption | (simp; done) | (simp [*]; done) | (simp at * <;> omega))⟩

theorem drawBestBreaks_ok (code : List Int) (h : CurIn code) : OkA Try.prog 110 [.isl 1 (rows cU8 code)] (fun r => ∃ (q1 : List Int) (q2 : JRule) (q3 : Int), r = .tup [.isl 1 (rows cInt q1), .agg (cRule q2), .int .i64 q3] ∧ (q1.length ≤ 25)) :=
  fn_intro envOk fieldsOk mixed Try.func110 rfl fun κ X Y L Q m hQ => by
    conv => cbv
    refine r_mcall m.sX (cParagraph_ok code 0 0 h (by omega) (by omega)) ?_
    rintro _ _ ⟨q1, ⟨q2A, q2B, q2C⟩, q3, rfl, ⟨a1, s1, rfl, ea1, fa1⟩, bq1_1⟩
    try dsimp only at bq1_1
    conv => cbv
    exact hQ (.tup [.isl 1 (rows cInt q1), .agg [.int .i64 q2A, .int .i64 q2B, .int .i64 q2C], .int .i64 q3]) ⟨q1, (q2A, q2B, q2C), q3, rfl, (by first | omega | assumption | (simp; done) | (simp [*]; done) | (simp at * <;> omega))⟩

theorem drawGreedyBreaks_ok (code : List Int) (h : CurIn code) : OkA Try.prog 54 [.isl 1 (rows cU8 code)] (fun r => ∃ (q1 : List Int) (q2 : JRule) (q3 : Int), r = .tup [.isl 1 (rows cInt q1), .agg (cRule q2), .int .i64 q3] ∧ (q1.length ≤ 25)) :=
  fn_intro envOk fieldsOk mixed Try.func54 rfl fun κ X Y L Q m hQ => by
    conv => cbv
    refine r_callE m.sX (drawBestBreaks_ok code h) ?_
    rintro _ ⟨q1, ⟨q2A, q2B, q2C⟩, q3, rfl, bq1_1⟩
    conv => cbv
    exact hQ (.tup [.isl 1 (rows cInt q1), .agg [.int .i64 q2A, .int .i64 q2B, .int .i64 q2C], .int .i64 q3]) ⟨q1, (q2A, q2B, q2C), q3, rfl, (by first | omega | assumption | (simp; done) | (simp [*]; done) | (simp at * <;> omega))⟩

theorem drawBreakWords_ok (code : List Int) (h : CurIn code) : OkA Try.prog 57 [.isl 1 (rows cU8 code)] (fun r => ∃ (q1 : List FSort) (q2 : List (List UInt8)) (q3 : JRule) (q4 : Int), r = .tup [.fr 155 2 (rows cSort q1), .fr 9 1 (rows cStr q2), .agg (cRule q3), .int .i64 q4] ∧ (q2.length ≤ 30)) :=
  fn_intro envOk fieldsOk mixed Try.func57 rfl fun κ X Y L Q m hQ => by
    conv => cbv
    refine r_mcall m.sX (cAnyFont_ok code 0 0 h (by omega) (by omega)) ?_
    rintro _ _ ⟨f, rfl, ⟨a1, s1, rfl, ea1, fa1⟩, bf_1, bf_2⟩
    conv => cbv
    refine r_mcall m.sX (cPick_ok code a1 s1 8 h (by omega) (by omega)) ?_
    rintro _ _ ⟨q1, rfl, ⟨a2, s2, rfl, ea2, fa2⟩, bq1, cq1, dq1⟩
    conv => cbv
    refine r_addf m.sX (by omega) (by omega) fun n hn => ?_
    conv => cbv
    refine r_mcall m.sX (cOne_ok code a2 s2 16 h (by omega) (by omega)) ?_
    rintro _ _ ⟨q2, rfl, ⟨a3, s3, rfl, ea3, fa3⟩⟩
    conv => cbv
    rcases Bool.eq_false_or_eq_true q2 with rfl | rfl <;> conv => cbv
    · refine r_mcall m.sX (cPick_ok code a3 s3 2 h (by omega) (by omega)) ?_
      rintro _ _ ⟨q3, rfl, ⟨a4, s4, rfl, ea4, fa4⟩, bq3, cq3, dq3⟩
      conv => cbv
      refine r_addf m.sX (by omega) (by omega) fun n_2 hn_2 => ?_
      conv => cbv
      refine r_loopF (α := Int × Int × List (List UInt8)) m 41 [9] [⟨4, 33, 0, 0, 0⟩, ⟨6, 49, 0, 0, 0⟩, ⟨7, 57, 155, 2, 0⟩, ⟨8, 65, 9, 1, 0⟩] (fun σ => [(4, .optr 33 0 3 0 0), (6, .optr 49 0 3 0 0), (7, .osl 57 0), (8, .osl 65 0), (9, .int .i64 n_2)]) (fun σ => [(33, 0, .box [.int .i64 0, .int .i64 0, .int .i64 0]), (49, 0, .box (cCur code σ.1 σ.2.1)), (57, 0, .row 155 2 (rows cSort f)), (65, 0, .row 9 1 (rows cStr σ.2.2))])
        (fun σ => ((σ.2.2.length : Int) ≤ n_2) ∧ (a4 ≤ σ.1 ∧ σ.1 ≤ a4 + 60 * (σ.2.2.length : Int))) (fun σ => (n_2 - (σ.2.2.length : Int)).toNat) (a4, s4, []) ?_ ?_ ?_ ?_
      · cbv
      · (try dsimp only); (try simp only [rows_cons, rows_nil]); cbv
      · exact ⟨(by (try dsimp only); first | omega | (simp <;> omega)), (by (try dsimp only); first | omega | (simp <;> omega))⟩
      rintro ⟨a5, s5, words⟩ ⟨ll1, cl1⟩ E hE F hF
      dsimp only at ll1 cl1
      conv => cbv
      refine r_lenR m.sX fun n1 hn1 mn1 => ?_
      conv => cbv
      refine r_lss m.sX (fun h1 => ?_) (fun h1 => ?_) <;> conv => cbv
      · refine r_mcall m.sX (cWord_ok code a5 s5 h (by omega) (by omega)) ?_
        rintro _ _ ⟨q4, rfl, ⟨a6, s6, rfl, ea6, fa6⟩, bq4_1⟩
        conv => cbv
        refine r_append1 (q4) m.sX rfl (by first | omega | (dsimp only; omega)) (by first | omega | (dsimp only; omega)) fun words_2 hwords_2 => ?_
        conv => cbv
        have lwords_2 : (words_2.length : Int) = words.length + 1 := by rw [hwords_2]; first | done | (simp; done) | (simp; omega)
        refine hE _ (a6, s6, words_2) ?_ ?_ ⟨(by (try dsimp only); first | omega | (simp <;> omega)), (by (try dsimp only); first | omega | (simp <;> omega))⟩ (by first | omega | (dsimp only; omega))
        · cbv
        · cbv
      · refine hF _ _ ?_
        conv => cbv
        refine r_mcall m.sX (cPick_ok code a5 s5 20 h (by omega) (by omega)) ?_
        rintro _ _ ⟨q5, rfl, ⟨a7, s7, rfl, ea7, fa7⟩, bq5, cq5, dq5⟩
        conv => cbv
        refine r_addf m.sX (by omega) (by omega) fun r1 hr1 => ?_
        conv => cbv
        refine r_mcall m.sX (cAmong_ok code a7 s7 ([60, 80, 100, 140, 200]) (by simp) h (by omega) (by omega)) ?_
        rintro _ _ ⟨q6, rfl, ⟨a8, s8, rfl, ea8, fa8⟩, bq6⟩
        simp only [List.mem_cons, List.not_mem_nil, or_false] at bq6
        conv => cbv
        exact hQ (.tup [.fr 155 2 (rows cSort f), .fr 9 1 (rows cStr words), .agg [.int .i64 2, .int .i64 4, .int .i64 r1], .int .i64 q6]) ⟨f, words, (2, 4, r1), q6, rfl, (by first | omega | assumption | (simp; done) | (simp [*]; done) | (simp at * <;> omega))⟩
    · refine r_loopF (α := Int × Int × List (List UInt8)) m 41 [9] [⟨4, 33, 0, 0, 0⟩, ⟨6, 49, 0, 0, 0⟩, ⟨7, 57, 155, 2, 0⟩, ⟨8, 65, 9, 1, 0⟩] (fun σ => [(4, .optr 33 0 3 0 0), (6, .optr 49 0 3 0 0), (7, .osl 57 0), (8, .osl 65 0), (9, .int .i64 n)]) (fun σ => [(33, 0, .box [.int .i64 0, .int .i64 0, .int .i64 0]), (49, 0, .box (cCur code σ.1 σ.2.1)), (57, 0, .row 155 2 (rows cSort f)), (65, 0, .row 9 1 (rows cStr σ.2.2))])
        (fun σ => ((σ.2.2.length : Int) ≤ n) ∧ (a3 ≤ σ.1 ∧ σ.1 ≤ a3 + 60 * (σ.2.2.length : Int))) (fun σ => (n - (σ.2.2.length : Int)).toNat) (a3, s3, []) ?_ ?_ ?_ ?_
      · cbv
      · (try dsimp only); (try simp only [rows_cons, rows_nil]); cbv
      · exact ⟨(by (try dsimp only); first | omega | (simp <;> omega)), (by (try dsimp only); first | omega | (simp <;> omega))⟩
      rintro ⟨a9, s9, words_3⟩ ⟨ll2, cl2⟩ E hE F hF
      dsimp only at ll2 cl2
      conv => cbv
      refine r_lenR m.sX fun n2 hn2 mn2 => ?_
      conv => cbv
      refine r_lss m.sX (fun h2 => ?_) (fun h2 => ?_) <;> conv => cbv
      · refine r_mcall m.sX (cWord_ok code a9 s9 h (by omega) (by omega)) ?_
        rintro _ _ ⟨q7, rfl, ⟨a10, s10, rfl, ea10, fa10⟩, bq7_1⟩
        conv => cbv
        refine r_append1 (q7) m.sX rfl (by first | omega | (dsimp only; omega)) (by first | omega | (dsimp only; omega)) fun words_4 hwords_4 => ?_
        conv => cbv
        have lwords_4 : (words_4.length : Int) = words_3.length + 1 := by rw [hwords_4]; first | done | (simp; done) | (simp; omega)
        refine hE _ (a10, s10, words_4) ?_ ?_ ⟨(by (try dsimp only); first | omega | (simp <;> omega)), (by (try dsimp only); first | omega | (simp <;> omega))⟩ (by first | omega | (dsimp only; omega))
        · cbv
        · cbv
      · refine hF _ _ ?_
        conv => cbv
        refine r_mcall m.sX (cPick_ok code a9 s9 20 h (by omega) (by omega)) ?_
        rintro _ _ ⟨q8, rfl, ⟨a11, s11, rfl, ea11, fa11⟩, bq8, cq8, dq8⟩
        conv => cbv
        refine r_addf m.sX (by omega) (by omega) fun r2 hr2 => ?_
        conv => cbv
        refine r_mcall m.sX (cAmong_ok code a11 s11 ([60, 80, 100, 140, 200]) (by simp) h (by omega) (by omega)) ?_
        rintro _ _ ⟨q9, rfl, ⟨a12, s12, rfl, ea12, fa12⟩, bq9⟩
        simp only [List.mem_cons, List.not_mem_nil, or_false] at bq9
        conv => cbv
        exact hQ (.tup [.fr 155 2 (rows cSort f), .fr 9 1 (rows cStr words_3), .agg [.int .i64 2, .int .i64 4, .int .i64 r2], .int .i64 q9]) ⟨f, words_3, (2, 4, r2), q9, rfl, (by first | omega | assumption | (simp; done) | (simp [*]; done) | (simp at * <;> omega))⟩


/- Long bodies, part by part. -/

/-- The first k statements of a body, and those behind. -/
def front : Nat → Code → Code
  | k + 1, .seq a b => .seq a (front k b)
  | _, _ => .skip
def rest : Nat → Code → Code
  | k + 1, .seq a b => rest k b
  | _, c => c

section
variable {P : Program} {G : Env} {κ : Ctx} {X Y : Req → (PV → Prop) → Prop} {L : Code → (Ex → St → Prop) → St → Prop}

/-- What stands at a cut, as at a loop's head. -/
def Cut {α : Type} (nt : Nat) (keep : List Nat) (own : List Hold) (tb : α → List (Nat × PV)) (hp : α → Heap) (I : α → Prop) (s' : St) : Prop :=
  headOk s' own = true ∧ ∃ a, Ai.norm keep own s' = St.at nt (tb a) (hp a) ∧ I a

theorem W_front (m : Mach P G κ X Y L) {E : St → Prop} {Q : Ex → St → Prop} : ∀ (k : Nat) (c : Code) (s : St),
    (∀ (η : Own) (s : St) (a : Act) (w : World), Sim κ η s a w → E s → (rest k c).wp P (Post κ Q) a w) →
    code X L G (front k c) (fun e s' => match e with | .normal => E s' | .exit i => Q (.exit i) s' | .ret => Q .ret s') s → W P κ c Q s := by
  have := m.z
  have hX := m.X
  have hL := m.L
  subst hX hL
  intro k
  induction k with
  | zero =>
    intro c s hE hc η a w hs
    cases c <;> exact hE η s a w hs hc
  | succ k ih =>
    intro c s hE hc η a w hs
    cases c
    case seq x y =>
      have hx : code (std false P) (W P κ) G x (fun e s' => match e with
        | .normal => code (std false P) (W P κ) G (front k y) (fun e s' => match e with | .normal => E s' | .exit i => Q (.exit i) s' | .ret => Q .ret s') s'
        | .exit j => Q (.exit j) s'
        | .ret => Q .ret s') s := hc
      refine wp_seq (Go.wp_mono (code_sound m.hG m.hF x _ _ hx η a w hs) fun e a' w' hq => ?_)
      cases e with
      | normal =>
        obtain ⟨η', s', hs', hq⟩ := hq
        exact ih y s' hE hq η' a' w' hs'
      | exit i => exact hq
      | ret => exact hq
      | goto l => exact hq.elim
      | panic ch => exact hq.elim
      | outgrown => exact hq.elim
    all_goals exact hE η s a w hs hc

/-- **A cut**: the first k statements, then those behind, from what is kept. -/
theorem W_cut {α : Type} (m : Mach P G κ X Y L) {Q : Ex → St → Prop} {c : Code} {s : St} (k nt : Nat) (keep : List Nat) (own : List Hold) (tb : α → List (Nat × PV)) (hp : α → Heap) (I : α → Prop)
    (first : ∀ E : St → Prop, (∀ s' a, headOk s' own = true → Ai.norm keep own s' = St.at nt (tb a) (hp a) → I a → E s') →
      code X L G (front k c) (fun e s' => match e with | .normal => E s' | .exit i => Q (.exit i) s' | .ret => Q .ret s') s)
    (second : ∀ a, I a → W P κ (rest k c) Q (St.at nt (tb a) (hp a))) : W P κ c Q s := by
  have := m.z
  refine W_front m (E := Cut nt keep own tb hp I) k c s ?_ (first _ fun s' a h1 h2 h3 => ⟨h1, a, h2, h3⟩)
  rintro η s a w hs ⟨hk, a0, e1, h3⟩
  simp only [headOk, Bool.and_eq_true] at hk
  have hs' := hs.norm keep hk.1 (recvOk_spec hk.2)
  rw [e1] at hs'
  exact second a0 h3 _ a w hs'

/-- The last part. -/
theorem W_last (m : Mach P G κ X Y L) {Q : Ex → St → Prop} {c : Code} {s : St} (h : code X L G c Q s) : W P κ c Q s := by
  have := m.z
  rw [m.X, m.L] at h
  exact code_sound m.hG m.hF c Q s h

theorem fn_introW (hG : EnvOk P G) (hF : FieldsOk P G) (hm : P.follows .mixedOrders = true) {f : FuncId} {fn : Func} (hf : P.funcs[f]? = some fn) (hn : (fn.name == "runtime.NumGoroutine") = false) {args : List PV} {R : PV → Prop} {c : Code} (hc : fn.body = some c)
    (h : ∀ κ X Y L Q, Mach P G κ X Y L → (∀ r, R r → Q r) → W P κ c (EndsIn (post G fn.results.toList Q)) (start fn.ntmps args [])) : OkA P f args R :=
  OkA_introW hG hF hf hn hc fun κ hz => h κ _ _ _ R ⟨hG, hF, hm, hz, rfl, rfl, rfl⟩ fun _ x => x
end

/- The law FnLineBreaks: its body returns true. -/
section
variable {ws : List Int} {r : JRule} {m : Int}
theorem ll_one {b b2 : List Int} {n k least : Int} {one : Bool} (hb : (b, n, true) = withA ws r m k) (ho : (b2, least, one) = bestPA ws r m (-1)) : one = true ∧ least ≤ n ∧ (b.length : Int) = k - 1 := by
  unfold withA at hb
  split at hb
  · rename_i h
    rw [Bool.and_eq_true] at h
    have hk := inB_spec h.2
    unfold bestF at hb
    split at hb
    · rename_i hc
      obtain ⟨-, -, f3, f4, f5⟩ := (para_facts (r := r) (m := m) (askP_in h.1).para).best k (.inl (by omega)) hc
      rw [bestPA, if_pos ⟨h.1, f4⟩] at ho
      obtain ⟨e1, e2⟩ := Prod.mk.inj ho
      obtain ⟨e3, e4⟩ := Prod.mk.inj e2
      obtain ⟨g1, g2⟩ := Prod.mk.inj hb
      obtain ⟨g3, -⟩ := Prod.mk.inj g2
      exact ⟨e4, by rw [e3, g3]; exact f5, by rw [g1]; exact f3 (by omega)⟩
    · cases (Prod.mk.inj (Prod.mk.inj hb).2).2
  · cases (Prod.mk.inj (Prod.mk.inj hb).2).2
theorem ll_stuck {s count : Int} {two four : Bool} (hs : (s, two) = stuckA ws r m) (hc : (count, four) = countPA ws r m) : (two = true ↔ four = true ∧ count = 0) ∧ (two = true → 0 ≤ s ∧ s < ws.length) := by
  unfold countPA at hc
  unfold stuckA at hs
  by_cases ha : askP ws r m = true
  · have hp := (askP_in ha).para
    have sp := okPara_spec hp
    have pf := para_facts (r := r) (m := m) hp
    have wb := pW_in (r := r) (m := m) hp (i := 0) (by omega)
    rw [if_pos ha] at hc
    obtain ⟨c1, c2⟩ := Prod.mk.inj hc
    by_cases h0 : 0 ≤ pC ws r m (-1) 0
    · rw [if_neg (fun e => e.2 h0)] at hs
      obtain ⟨s1, s2⟩ := Prod.mk.inj hs
      have := pf.ways.2 h0
      rw [s2, c2, c1]
      exact ⟨⟨fun e => (by cases e), fun e => (by omega)⟩, fun e => (by cases e)⟩
    · rw [if_pos ⟨ha, h0⟩] at hs
      obtain ⟨s1, s2⟩ := Prod.mk.inj hs
      have nw : ¬ 0 < wW (paE ws r m) (paL ws r m) ws.length (-1) 0 := fun e => h0 (pf.ways.1 e)
      have mi := mostP_in (r := r) (m := m) (ws := ws) (by omega)
      have wb1 := wb.1
      rw [s2, c2, c1, s1]
      exact ⟨⟨fun _ => ⟨rfl, (by unfold pW at wb1; omega)⟩, fun _ => rfl⟩, fun _ => mi⟩
  · rw [if_neg ha] at hc
    rw [if_neg (fun e => ha e.1)] at hs
    obtain ⟨s1, s2⟩ := Prod.mk.inj hs
    obtain ⟨c1, c2⟩ := Prod.mk.inj hc
    rw [s2, c2]
    exact ⟨⟨fun e => (by cases e), fun e => (by cases e.1)⟩, fun e => (by cases e)⟩
end
theorem ll_words {f : List FSort} {ws : List (List UInt8)} {r : JRule} {m : Int} {w : List Int} (h : (w, true) = bwA f ws r m) : (wiG f ws []).2 = true ∧ (ws.length : Int) ≤ 24 ∧ w = (bestPA (wiG f ws []).1 r m (-1)).1 ∧ (bestPA (wiG f ws []).1 r m (-1)).2.2 = true := by
  unfold bwA at h
  split at h
  · rename_i hc
    obtain ⟨a, b⟩ := Prod.mk.inj h
    exact ⟨hc.2, hc.1, a, b.symm⟩
  · cases (Prod.mk.inj h).2
section
variable {κ : Ctx} {X Y : Req → (PV → Prop) → Prop} {L : Code → (Ex → St → Prop) → St → Prop} {Q : PV → Prop}

theorem lineBreaks_part1 (m : Mach Try.prog G κ X Y L) (hQ : ∀ r, r = PV.bool true → Q r) (code more : List Int) (hf : ∀ x ∈ code, 0 ≤ x ∧ x ≤ 255) (E0 : St → Prop)
    (hE0 : ∀ (s' : St) (σ : Unit), headOk s' [] = true → Ai.norm [1] [] s' = St.at 313 [(1, .isl 1 (rows cU8 more))] [] → ((more.length : Int) ≤ 9223372036854775807 ∧ ((True))) → E0 s') :
    Ai.code X L G (front 7 (Try.f6.body.getD .skip)) (fun e s' => match e with | .normal => E0 s' | .exit i => EndsIn (post G Try.f6.results.toList Q) (.exit i) s' | .ret => EndsIn (post G Try.f6.results.toList Q) .ret s') (start 313 [.isl 1 (rows cU8 code), .isl 1 (rows cU8 more)] []) := by
  conv => cbv
  refine r_lenR m.sX fun n1 hn1 mn1 => ?_
  conv => cbv
  refine r_lenR m.sX fun n2 hn2 mn2 => ?_
  conv => cbv
  refine r_add m.sX fun r1 hr1 => ?_
  conv => cbv
  refine r_gtr m.sX (fun h1 => ?_) (fun h1 => ?_) <;> conv => cbv
  · exact hQ _ (congrArg PV.bool (by first | rfl | omega | (simp [*]; done) | (subst_vars; simp [*]; done)))
  · have h : CurIn code := ⟨by omega, hf⟩
    have hmr : (more.length : Int) ≤ 9223372036854775807 := by omega
    refine r_callE m.sX ((drawBestWithLines_ok code h).iceE) ?_
    rintro _ ⟨_, ⟨words, ⟨rA, rB, rC⟩, measure, lines, rfl, bwords_1⟩, rfl⟩
    conv => cbv
    refine r_callF (licI 1 cInt) m.sX ((BestWithLines_ok words (rA, rB, rC) measure lines).ice) fun v hb => ?_
    obtain ⟨b, n, ok⟩ := v
    conv => cbv
    try dsimp only at hb
    refine r_callF (licI 1 cInt) m.sX (specBestWithLines_ok words (rA, rB, rC) measure lines) fun y1 hy1 => ?_
    obtain rfl := hb.trans hy1.symm
    clear hy1
    conv => cbv
    refine r_callF (licI 1 cInt) m.sX ((BestBreaks_ok words (rA, rB, rC) measure).ice) fun v hv1 => ?_
    obtain ⟨v1, least, one⟩ := v
    conv => cbv
    try dsimp only at hv1
    rcases Bool.eq_false_or_eq_true ok with rfl | rfl <;> conv => cbv
    · obtain ⟨u1, u2, u3⟩ := ll_one hb hv1
      refine r_callBT m.sX (qInts_ok b b) (by first | rfl | omega | assumption | exact decide_eq_true rfl | (subst_vars; omega)) ?_
      conv => cbv
      refine r_neqF m.sX ((by first | rfl | omega | assumption | exact decide_eq_true rfl | (subst_vars; omega))) ?_
      conv => cbv
      obtain rfl : one = true := by exact u1
      conv => cbv
      refine r_lssF m.sX ((by first | rfl | omega | assumption | exact decide_eq_true rfl | (subst_vars; omega))) ?_
      conv => cbv
      refine r_lenR m.sX fun n3 hn3 mn3 => ?_
      conv => cbv
      refine r_subf m.sX (by omega) (by omega) fun r2 hr2 => ?_
      conv => cbv
      refine r_neqF m.sX ((by first | rfl | omega | assumption | exact decide_eq_true rfl | (subst_vars; omega))) ?_
      conv => cbv
      exact hE0 _ () (by cbv) (by cbv) ⟨hmr, (by (try dsimp only) <;> (first | assumption | omega | (simp [*]; done)))⟩
    · refine r_callBT m.sX (qInts_ok b b) (by first | rfl | omega | assumption | exact decide_eq_true rfl | (subst_vars; omega)) ?_
      conv => cbv
      refine r_neqF m.sX ((by first | rfl | omega | assumption | exact decide_eq_true rfl | (subst_vars; omega))) ?_
      conv => cbv
      exact hE0 _ () (by cbv) (by cbv) ⟨hmr, (by (try dsimp only) <;> (first | assumption | omega | (simp [*]; done)))⟩

theorem lineBreaks_part2 (m : Mach Try.prog G κ X Y L) (hQ : ∀ r, r = PV.bool true → Q r) (more : List Int) (h : CurIn more) (x1 : True) (E0 : St → Prop)
    (hE0 : ∀ (s' : St) (σ : Unit), headOk s' [] = true → Ai.norm [1] [] s' = St.at 313 [(1, .isl 1 (rows cU8 more))] [] → (True ∧ ((True))) → E0 s') :
    Ai.code X L G (front 5 (rest 7 (Try.f6.body.getD .skip))) (fun e s' => match e with | .normal => E0 s' | .exit i => EndsIn (post G Try.f6.results.toList Q) (.exit i) s' | .ret => EndsIn (post G Try.f6.results.toList Q) .ret s') (St.at 313 [(1, .isl 1 (rows cU8 more))] []) := by
  conv => cbv
  refine r_callE m.sX ((drawStuckAt_ok more h).iceE) ?_
  rintro _ ⟨_, ⟨u, ⟨vA, vB, vC⟩, m_, rfl, bu_1⟩, rfl⟩
  conv => cbv
  refine r_callF ib m.sX (StuckAt_ok u (vA, vB, vC) m_) fun v hs_ => ?_
  obtain ⟨s_, two⟩ := v
  conv => cbv
  try dsimp only at hs_
  refine r_callF ib m.sX (specStuckAt_ok u (vA, vB, vC) m_) fun y1 hy1 => ?_
  obtain rfl := hs_.trans hy1.symm
  clear hy1
  conv => cbv
  refine r_callF ib m.sX (CountBreaks_ok u (vA, vB, vC) m_) fun v hcount => ?_
  obtain ⟨count, four⟩ := v
  conv => cbv
  try dsimp only at hcount
  obtain ⟨u1, u2⟩ := ll_stuck hs_ hcount
  rcases Bool.eq_false_or_eq_true two with rfl | rfl <;> conv => cbv
  · have u3 := u2 rfl
    try dsimp only at u3
    have u4 := (u1.1 rfl).2
    try dsimp only at u4
    refine r_neqF m.sX ((by first | rfl | omega | assumption | exact decide_eq_true rfl | (subst_vars; omega))) ?_
    conv => cbv
    obtain rfl : four = true := by exact (u1.1 rfl).1
    conv => cbv
    refine r_eqlT m.sX ((by first | rfl | omega | assumption | exact decide_eq_true rfl | (subst_vars; omega))) ?_
    conv => cbv
    refine r_lssF m.sX ((by first | rfl | omega | assumption | exact decide_eq_true rfl | (subst_vars; omega))) ?_
    conv => cbv
    refine r_lenR m.sX fun n1 hn1 mn1 => ?_
    conv => cbv
    refine r_geqF m.sX ((by first | rfl | omega | assumption | exact decide_eq_true rfl | (subst_vars; omega))) ?_
    conv => cbv
    exact hE0 _ () (by cbv) (by cbv) ⟨trivial, (by (try dsimp only) <;> (first | assumption | omega | (simp [*]; done)))⟩
  · refine r_neqF m.sX ((by first | rfl | omega | assumption | exact decide_eq_true rfl | (subst_vars; omega))) ?_
    conv => cbv
    rcases Bool.eq_false_or_eq_true four with rfl | rfl <;> conv => cbv
    · refine r_eqlF m.sX ((by intro e; exact absurd (u1.2 ⟨rfl, e⟩) (by simp))) ?_
      conv => cbv
      exact hE0 _ () (by cbv) (by cbv) ⟨trivial, (by (try dsimp only) <;> (first | assumption | omega | (simp [*]; done)))⟩
    · exact hE0 _ () (by cbv) (by cbv) ⟨trivial, (by (try dsimp only) <;> (first | assumption | omega | (simp [*]; done)))⟩

theorem lineBreaks_part3 (m : Mach Try.prog G κ X Y L) (hQ : ∀ r, r = PV.bool true → Q r) (more : List Int) (h : CurIn more) (x1 : True) (E0 : St → Prop)
    (hE0 : ∀ (s' : St) (σ : List Int × Int × Int × Int × Int × List Int × Bool × List FSort × List (List UInt8) × Int × Int × Int × Int × Bool × List Int), headOk s' [⟨28, 225, 0, 0, 0⟩, ⟨36, 289, 0, 0, 0⟩] = true → Ai.norm [27, 29, 30, 31, 34, 35, 37, 39, 40] [⟨28, 225, 0, 0, 0⟩, ⟨36, 289, 0, 0, 0⟩] s' = St.at 313 [(27, .isl 1 (rows cInt σ.1)), (28, .optr 225 0 3 0 0), (29, .int .i64 σ.2.2.2.2.1), (30, .isl 1 (rows cInt σ.2.2.2.2.2.1)), (31, .bool σ.2.2.2.2.2.2.1), (34, .isl 2 (rows cSort σ.2.2.2.2.2.2.2.1)), (35, .isl 1 (rows cStr σ.2.2.2.2.2.2.2.2.1)), (36, .optr 289 0 3 0 0), (37, .int .i64 σ.2.2.2.2.2.2.2.2.2.2.2.2.1), (39, .bool σ.2.2.2.2.2.2.2.2.2.2.2.2.2.1), (40, .isl 1 (rows cInt σ.2.2.2.2.2.2.2.2.2.2.2.2.2.2))] [(225, 0, .box [.int .i64 σ.2.1, .int .i64 σ.2.2.1, .int .i64 σ.2.2.2.1]), (289, 0, .box [.int .i64 σ.2.2.2.2.2.2.2.2.2.1, .int .i64 σ.2.2.2.2.2.2.2.2.2.2.1, .int .i64 σ.2.2.2.2.2.2.2.2.2.2.2.1])] → (True ∧ (((σ.2.2.2.2.2.1, σ.2.2.2.2.2.2.1) = greedA σ.1 (σ.2.1, σ.2.2.1, σ.2.2.2.1) σ.2.2.2.2.1) ∧ ((σ.2.2.2.2.2.2.2.2.2.2.2.2.2.2, σ.2.2.2.2.2.2.2.2.2.2.2.2.2.1) = bwA σ.2.2.2.2.2.2.2.1 σ.2.2.2.2.2.2.2.2.1 (σ.2.2.2.2.2.2.2.2.2.1, σ.2.2.2.2.2.2.2.2.2.2.1, σ.2.2.2.2.2.2.2.2.2.2.2.1) σ.2.2.2.2.2.2.2.2.2.2.2.2.1))) → E0 s') :
    Ai.code X L G (front 7 (rest 5 (rest 7 (Try.f6.body.getD .skip)))) (fun e s' => match e with | .normal => E0 s' | .exit i => EndsIn (post G Try.f6.results.toList Q) (.exit i) s' | .ret => EndsIn (post G Try.f6.results.toList Q) .ret s') (St.at 313 [(1, .isl 1 (rows cU8 more))] []) := by
  conv => cbv
  refine r_callE m.sX ((drawGreedyBreaks_ok more h).iceE) ?_
  rintro _ ⟨_, ⟨x, ⟨yA, yB, yC⟩, z, rfl, bx_1⟩, rfl⟩
  conv => cbv
  refine r_callF (lbI 1 cInt) m.sX ((GreedyBreaks_ok x (yA, yB, yC) z).ice) fun v hg => ?_
  obtain ⟨g, five⟩ := v
  conv => cbv
  try dsimp only at hg
  refine r_callF (lbI 1 cInt) m.sX ((specGreedyBreaks_ok x (yA, yB, yC) z).ice) fun y1 hy1 => ?_
  obtain rfl := hg.trans hy1.symm
  clear hy1
  conv => cbv
  refine r_callE m.sX ((drawBreakWords_ok more h).iceE) ?_
  rintro _ ⟨_, ⟨f, text, ⟨ruleA, ruleB, ruleC⟩, to_, rfl, bf_1⟩, rfl⟩
  conv => cbv
  refine r_callF (lbI 1 cInt) m.sX ((BreakWords_ok f text (ruleA, ruleB, ruleC) to_).ice) fun v hw => ?_
  obtain ⟨w, seven⟩ := v
  conv => cbv
  try dsimp only at hw
  refine r_callF (lbI 1 cInt) m.sX (specBreakWords_ok f text (ruleA, ruleB, ruleC) to_) fun y2 hy2 => ?_
  obtain rfl := hw.trans hy2.symm
  clear hy2
  conv => cbv
  rcases Bool.eq_false_or_eq_true five with rfl | rfl <;> conv => cbv
  · refine r_callBT m.sX (qInts_ok g g) (by first | rfl | omega | assumption | exact decide_eq_true rfl | (subst_vars; omega)) ?_
    conv => cbv
    rcases Bool.eq_false_or_eq_true seven with rfl | rfl <;> conv => cbv
    · refine r_callBT m.sX (qInts_ok w w) (by first | rfl | omega | assumption | exact decide_eq_true rfl | (subst_vars; omega)) ?_
      conv => cbv
      exact hE0 _ (x, yA, yB, yC, z, g, true, f, text, ruleA, ruleB, ruleC, to_, true, w) (by cbv) (by cbv) ⟨trivial, ⟨(by (try dsimp only) <;> (first | assumption | omega | (simp [*]; done))), (by (try dsimp only) <;> (first | assumption | omega | (simp [*]; done)))⟩⟩
    · refine r_callBT m.sX (qInts_ok w w) (by first | rfl | omega | assumption | exact decide_eq_true rfl | (subst_vars; omega)) ?_
      conv => cbv
      exact hE0 _ (x, yA, yB, yC, z, g, true, f, text, ruleA, ruleB, ruleC, to_, false, w) (by cbv) (by cbv) ⟨trivial, ⟨(by (try dsimp only) <;> (first | assumption | omega | (simp [*]; done))), (by (try dsimp only) <;> (first | assumption | omega | (simp [*]; done)))⟩⟩
  · refine r_callBT m.sX (qInts_ok g g) (by first | rfl | omega | assumption | exact decide_eq_true rfl | (subst_vars; omega)) ?_
    conv => cbv
    rcases Bool.eq_false_or_eq_true seven with rfl | rfl <;> conv => cbv
    · refine r_callBT m.sX (qInts_ok w w) (by first | rfl | omega | assumption | exact decide_eq_true rfl | (subst_vars; omega)) ?_
      conv => cbv
      exact hE0 _ (x, yA, yB, yC, z, g, false, f, text, ruleA, ruleB, ruleC, to_, true, w) (by cbv) (by cbv) ⟨trivial, ⟨(by (try dsimp only) <;> (first | assumption | omega | (simp [*]; done))), (by (try dsimp only) <;> (first | assumption | omega | (simp [*]; done)))⟩⟩
    · refine r_callBT m.sX (qInts_ok w w) (by first | rfl | omega | assumption | exact decide_eq_true rfl | (subst_vars; omega)) ?_
      conv => cbv
      exact hE0 _ (x, yA, yB, yC, z, g, false, f, text, ruleA, ruleB, ruleC, to_, false, w) (by cbv) (by cbv) ⟨trivial, ⟨(by (try dsimp only) <;> (first | assumption | omega | (simp [*]; done))), (by (try dsimp only) <;> (first | assumption | omega | (simp [*]; done)))⟩⟩

theorem lineBreaks_part4 (m : Mach Try.prog G κ X Y L) (hQ : ∀ r, r = PV.bool true → Q r) (more : List Int) (h : CurIn more) (x : List Int) (yA : Int) (yB : Int) (yC : Int) (z : Int) (g : List Int) (five : Bool) (f : List FSort) (text : List (List UInt8)) (ruleA : Int) (ruleB : Int) (ruleC : Int) (to_ : Int) (seven : Bool) (broken : List Int) (cg : (g, five) = greedA x (yA, yB, yC) z) (cw : (broken, seven) = bwA f text (ruleA, ruleB, ruleC) to_) (E0 : St → Prop)
    (hE0 : ∀ (s' : St) (σ : List FSort × List (List UInt8) × Int × Int × Int × Int × Bool × List Int), headOk s' [⟨36, 289, 0, 0, 0⟩] = true → Ai.norm [34, 35, 37, 39, 40] [⟨36, 289, 0, 0, 0⟩] s' = St.at 313 [(34, .isl 2 (rows cSort σ.1)), (35, .isl 1 (rows cStr σ.2.1)), (36, .optr 289 0 3 0 0), (37, .int .i64 σ.2.2.2.2.2.1), (39, .bool σ.2.2.2.2.2.2.1), (40, .isl 1 (rows cInt σ.2.2.2.2.2.2.2))] [(289, 0, .box [.int .i64 σ.2.2.1, .int .i64 σ.2.2.2.1, .int .i64 σ.2.2.2.2.1])] → (True ∧ (((σ.2.2.2.2.2.2.2, σ.2.2.2.2.2.2.1) = bwA σ.1 σ.2.1 (σ.2.2.1, σ.2.2.2.1, σ.2.2.2.2.1) σ.2.2.2.2.2.1))) → E0 s') :
    Ai.code X L G (front 1 (rest 7 (rest 5 (rest 7 (Try.f6.body.getD .skip))))) (fun e s' => match e with | .normal => E0 s' | .exit i => EndsIn (post G Try.f6.results.toList Q) (.exit i) s' | .ret => EndsIn (post G Try.f6.results.toList Q) .ret s') (St.at 313 [(27, .isl 1 (rows cInt x)), (28, .optr 225 0 3 0 0), (29, .int .i64 z), (30, .isl 1 (rows cInt g)), (31, .bool five), (34, .isl 2 (rows cSort f)), (35, .isl 1 (rows cStr text)), (36, .optr 289 0 3 0 0), (37, .int .i64 to_), (39, .bool seven), (40, .isl 1 (rows cInt broken))] [(225, 0, .box [.int .i64 yA, .int .i64 yB, .int .i64 yC]), (289, 0, .box [.int .i64 ruleA, .int .i64 ruleB, .int .i64 ruleC])]) := by
  conv => cbv
  rcases Bool.eq_false_or_eq_true five with rfl | rfl <;> conv => cbv
  · have gf := greed_facts cg
    try dsimp only at gf
    refine r_callF (lbI 1 (cSl 1 cInt)) m.sX ((LinesOfBreaks_ok x g).ice) fun v hall => ?_
    obtain ⟨all, nine⟩ := v
    conv => cbv
    try dsimp only at hall
    have ae := (Prod.mk.inj (hall.trans gf.1)).1
    try dsimp only at ae
    obtain rfl : nine = true := by exact (Prod.mk.inj (hall.trans gf.1)).2
    conv => cbv
    refine r_lenR m.sX fun n1 hn1 mn1 => ?_
    conv => cbv
    refine r_loopF (α := Int) m 313 [29, 34, 35, 37, 39, 40, 258, 259, 260] [⟨28, 225, 0, 0, 0⟩, ⟨36, 289, 0, 0, 0⟩] (fun σ => [(28, .optr 225 0 3 0 0), (29, .int .i64 z), (34, .isl 2 (rows cSort f)), (35, .isl 1 (rows cStr text)), (36, .optr 289 0 3 0 0), (37, .int .i64 to_), (39, .bool seven), (40, .isl 1 (rows cInt broken)), (258, .isl 1 (rows (cSl 1 cInt) all)), (259, .int .i64 n1), (260, .int .i64 σ)]) (fun σ => [(225, 0, .box [.int .i64 yA, .int .i64 yB, .int .i64 yC]), (289, 0, .box [.int .i64 ruleA, .int .i64 ruleB, .int .i64 ruleC])])
      (fun σ => (0 ≤ σ) ∧ (σ ≤ n1)) (fun σ => (n1 - σ).toNat) 0 ?_ ?_ ?_ ?_
    · cbv
    · cbv
    · exact ⟨(by (try dsimp only); first | omega | (simp <;> omega)), (by (try dsimp only); first | omega | (simp <;> omega))⟩
    rintro i1 ⟨lo1, hi1⟩ E hE F hF
    conv => cbv
    refine r_lss m.sX (fun h1 => ?_) (fun h1 => ?_) <;> conv => cbv
    · refine r_index m.sX (by omega) (by omega) fun l hl => ?_
      conv => cbv
      have ml := get_mem hl
      have dl := drop_cons hl
      have kl := take_snoc hl
      have jl : (i1 + 1).toNat = Int.toNat i1 + 1 := by omega
      obtain ⟨lo, hi, e1, e2⟩ := gf.2 l (by rw [← ae]; exact ml)
      refine r_callF iib m.sX (WidthBounds_ok l (yA, yB, yC)) fun v hlow => ?_
      obtain ⟨low, v1, ten⟩ := v
      conv => cbv
      try dsimp only at hlow
      have lz := congrArg (·.1) (hlow.trans e1)
      try dsimp only at lz
      obtain rfl : ten = true := by exact congrArg (·.2.2) (hlow.trans e1)
      conv => cbv
      refine r_gtrF m.sX ((by first | rfl | omega | assumption | exact decide_eq_true rfl | (subst_vars; omega))) ?_
      conv => cbv
      refine r_addf m.sX (by omega) (by omega) fun r1 hr1 => ?_
      conv => cbv
      try have tr1 : Int.toNat r1 = Int.toNat i1 + 1 := by omega
      refine hE _ r1 ?_ ?_ ⟨(by (try dsimp only); first | omega | (simp <;> omega)), (by (try dsimp only); first | omega | (simp <;> omega))⟩ (by first | omega | (dsimp only; omega))
      · cbv
      · cbv
    · have dz_i1 := drop_end (xs := all) (i := Int.toNat i1) (by omega)
      have tz_i1 := take_end (xs := all) (i := Int.toNat i1) (by omega)
      refine hF _ _ ?_
      conv => cbv
      exact hE0 _ (f, text, ruleA, ruleB, ruleC, to_, seven, broken) (by cbv) (by cbv) ⟨trivial, (by (try dsimp only) <;> (first | assumption | omega | (simp [*]; done)))⟩
  · exact hE0 _ (f, text, ruleA, ruleB, ruleC, to_, seven, broken) (by cbv) (by cbv) ⟨trivial, (by (try dsimp only) <;> (first | assumption | omega | (simp [*]; done)))⟩

theorem lineBreaks_part5 (m : Mach Try.prog G κ X Y L) (hQ : ∀ r, r = PV.bool true → Q r) (more : List Int) (h : CurIn more) (f : List FSort) (text : List (List UInt8)) (ruleA : Int) (ruleB : Int) (ruleC : Int) (to_ : Int) (seven : Bool) (broken : List Int) (cw : (broken, seven) = bwA f text (ruleA, ruleB, ruleC) to_) :
    Ai.code X L G (rest 1 (rest 7 (rest 5 (rest 7 (Try.f6.body.getD .skip))))) (EndsIn (post G Try.f6.results.toList Q)) (St.at 313 [(34, .isl 2 (rows cSort f)), (35, .isl 1 (rows cStr text)), (36, .optr 289 0 3 0 0), (37, .int .i64 to_), (39, .bool seven), (40, .isl 1 (rows cInt broken))] [(289, 0, .box [.int .i64 ruleA, .int .i64 ruleB, .int .i64 ruleC])]) := by
  conv => cbv
  rcases Bool.eq_false_or_eq_true seven with rfl | rfl <;> conv => cbv
  · obtain ⟨w1, w2, w3, w4⟩ := ll_words cw
    refine r_lenR m.sX fun n1 hn1 mn1 => ?_
    conv => cbv
    refine r_loopF (α := List Int × Int) m 313 [34, 37, 40, 280, 281, 282] [⟨36, 289, 0, 0, 0⟩, ⟨49, 393, 3, 1, 0⟩] (fun σ => [(34, .isl 2 (rows cSort f)), (36, .optr 289 0 3 0 0), (37, .int .i64 to_), (40, .isl 1 (rows cInt broken)), (49, .osl 393 0), (280, .isl 1 (rows cStr text)), (281, .int .i64 n1), (282, .int .i64 σ.2)]) (fun σ => [(289, 0, .box [.int .i64 ruleA, .int .i64 ruleB, .int .i64 ruleC]), (393, 0, .row 3 1 (rows cInt σ.1))])
      (fun σ => (0 ≤ σ.2) ∧ (σ.2 ≤ n1) ∧ (wiG f text [] = wiG f (text.drop σ.2.toNat) σ.1) ∧ ((σ.1.length : Int) = σ.2)) (fun σ => (n1 - σ.2).toNat) ([], 0) ?_ ?_ ?_ ?_
    · cbv
    · (try dsimp only); (try simp only [rows_cons, rows_nil]); cbv
    · exact ⟨(by (try dsimp only); first | omega | (simp <;> omega)), (by (try dsimp only); first | omega | (simp <;> omega)), (by (try dsimp only) <;> (rfl)), (by (try dsimp only) <;> first | omega | rfl | (simp [*]; done))⟩
    rintro ⟨widths, i1⟩ ⟨lo2, hi2, q, ln⟩ E hE F hF
    dsimp only at lo2 hi2 q ln
    conv => cbv
    refine r_lss m.sX (fun h1 => ?_) (fun h1 => ?_) <;> conv => cbv
    · refine r_index m.sX (by omega) (by omega) fun t ht => ?_
      conv => cbv
      have mt := get_mem ht
      have dt := drop_cons ht
      have kt := take_snoc ht
      have jt : (i1 + 1).toNat = Int.toNat i1 + 1 := by omega
      refine r_callF ib m.sX (WidthOfWord_ok f t) fun v hk => ?_
      obtain ⟨k, nine⟩ := v
      conv => cbv
      try dsimp only at hk
      obtain rfl : nine = true := by have z := wiG_at ht (by rw [← q]; exact w1); rw [← hk] at z; exact z
      conv => cbv
      refine r_append1 (k) m.sX rfl (by first | omega | (dsimp only; omega)) (by first | omega | (dsimp only; omega)) fun widths_2 hwidths_2 => ?_
      conv => cbv
      have lwidths_2 : (widths_2.length : Int) = widths.length + 1 := by rw [hwidths_2]; first | done | (simp; done) | (simp; omega)
      refine r_addf m.sX (by omega) (by omega) fun r1 hr1 => ?_
      conv => cbv
      try have tr1 : Int.toNat r1 = Int.toNat i1 + 1 := by omega
      refine hE _ (widths_2, r1) ?_ ?_ ⟨(by (try dsimp only); first | omega | (simp <;> omega)), (by (try dsimp only); first | omega | (simp <;> omega)), (by (try dsimp only) <;> (rw [q, wiG_ok _ ht hk, hwidths_2, tr1])), (by (try dsimp only) <;> (omega))⟩ (by first | omega | (dsimp only; omega))
      · cbv
      · cbv
    · have dz_i1 := drop_end (xs := text) (i := Int.toNat i1) (by omega)
      have tz_i1 := take_end (xs := text) (i := Int.toNat i1) (by omega)
      refine hF _ _ ?_
      conv => cbv
      refine .inl (r_callFO (licI 1 cInt) m.sX ((((BestBreaks_ok widths (ruleA, ruleB, ruleC) to_)).ok (flat_lic flat_cInt)).ice) fun v hown => ?_)
      obtain ⟨own, v1, nine_2⟩ := v
      conv => cbv
      try dsimp only at hown
      have qe : wiG f text [] = (widths, true) := (by rw [q, wiG_end _ (by omega)])
      rw [qe] at w3 w4
      have oe : own = broken := by rw [w3, ← hown]
      obtain rfl : nine_2 = true := by have z := congrArg (·.2.2) hown; rw [w4] at z; exact z
      conv => cbv
      refine r_callBT m.sX (qInts_ok own broken) (by exact decide_eq_true oe) ?_
      conv => cbv
      exact hQ _ (congrArg PV.bool (by first | rfl | omega | (simp [*]; done) | (subst_vars; simp [*]; done) | (rw [q]; simp [*]; done) | (rw [ln]; simp [*]; done)))
  · exact hQ _ (congrArg PV.bool (by first | rfl | omega | (simp [*]; done) | (subst_vars; simp [*]; done)))

end

theorem lawLineBreaks_ok (code more : List Int) (hf : ∀ x ∈ code, 0 ≤ x ∧ x ≤ 255) (hg : ∀ x ∈ more, 0 ≤ x ∧ x ≤ 255) : OkA Try.prog 6 [.isl 1 (rows cU8 code), .isl 1 (rows cU8 more)] (· = .bool true) :=
  fn_introW envOk fieldsOk mixed Try.func6 rfl (c := Try.f6.body.getD .skip) rfl fun κ X Y L Q m hQ =>
    W_cut m 7 313 [1] [] (fun σ : Unit => [(1, .isl 1 (rows cU8 more))]) (fun σ => []) (fun σ => (more.length : Int) ≤ 9223372036854775807 ∧ ((True))) (lineBreaks_part1 m hQ code more hf) fun _ ⟨hl, x1⟩ =>
    W_cut m 5 313 [1] [] (fun σ : Unit => [(1, .isl 1 (rows cU8 more))]) (fun σ => []) (fun σ => True ∧ ((True))) (lineBreaks_part2 m hQ more ⟨hl, hg⟩ x1) fun _ ⟨_, x1⟩ =>
    W_cut m 7 313 [27, 29, 30, 31, 34, 35, 37, 39, 40] [⟨28, 225, 0, 0, 0⟩, ⟨36, 289, 0, 0, 0⟩] (fun σ : List Int × Int × Int × Int × Int × List Int × Bool × List FSort × List (List UInt8) × Int × Int × Int × Int × Bool × List Int => [(27, .isl 1 (rows cInt σ.1)), (28, .optr 225 0 3 0 0), (29, .int .i64 σ.2.2.2.2.1), (30, .isl 1 (rows cInt σ.2.2.2.2.2.1)), (31, .bool σ.2.2.2.2.2.2.1), (34, .isl 2 (rows cSort σ.2.2.2.2.2.2.2.1)), (35, .isl 1 (rows cStr σ.2.2.2.2.2.2.2.2.1)), (36, .optr 289 0 3 0 0), (37, .int .i64 σ.2.2.2.2.2.2.2.2.2.2.2.2.1), (39, .bool σ.2.2.2.2.2.2.2.2.2.2.2.2.2.1), (40, .isl 1 (rows cInt σ.2.2.2.2.2.2.2.2.2.2.2.2.2.2))]) (fun σ => [(225, 0, .box [.int .i64 σ.2.1, .int .i64 σ.2.2.1, .int .i64 σ.2.2.2.1]), (289, 0, .box [.int .i64 σ.2.2.2.2.2.2.2.2.2.1, .int .i64 σ.2.2.2.2.2.2.2.2.2.2.1, .int .i64 σ.2.2.2.2.2.2.2.2.2.2.2.1])]) (fun σ => True ∧ (((σ.2.2.2.2.2.1, σ.2.2.2.2.2.2.1) = greedA σ.1 (σ.2.1, σ.2.2.1, σ.2.2.2.1) σ.2.2.2.2.1) ∧ ((σ.2.2.2.2.2.2.2.2.2.2.2.2.2.2, σ.2.2.2.2.2.2.2.2.2.2.2.2.2.1) = bwA σ.2.2.2.2.2.2.2.1 σ.2.2.2.2.2.2.2.2.1 (σ.2.2.2.2.2.2.2.2.2.1, σ.2.2.2.2.2.2.2.2.2.2.1, σ.2.2.2.2.2.2.2.2.2.2.2.1) σ.2.2.2.2.2.2.2.2.2.2.2.2.1))) (lineBreaks_part3 m hQ more ⟨hl, hg⟩ x1) fun ⟨x, yA, yB, yC, z, g, five, f, text, ruleA, ruleB, ruleC, to_, seven, broken⟩ ⟨_, ⟨cg, cw⟩⟩ =>
    W_cut m 1 313 [34, 35, 37, 39, 40] [⟨36, 289, 0, 0, 0⟩] (fun σ : List FSort × List (List UInt8) × Int × Int × Int × Int × Bool × List Int => [(34, .isl 2 (rows cSort σ.1)), (35, .isl 1 (rows cStr σ.2.1)), (36, .optr 289 0 3 0 0), (37, .int .i64 σ.2.2.2.2.2.1), (39, .bool σ.2.2.2.2.2.2.1), (40, .isl 1 (rows cInt σ.2.2.2.2.2.2.2))]) (fun σ => [(289, 0, .box [.int .i64 σ.2.2.1, .int .i64 σ.2.2.2.1, .int .i64 σ.2.2.2.2.1])]) (fun σ => True ∧ (((σ.2.2.2.2.2.2.2, σ.2.2.2.2.2.2.1) = bwA σ.1 σ.2.1 (σ.2.2.1, σ.2.2.2.1, σ.2.2.2.2.1) σ.2.2.2.2.2.1))) (lineBreaks_part4 m hQ more ⟨hl, hg⟩ x yA yB yC z g five f text ruleA ruleB ruleC to_ seven broken cg cw) fun ⟨f, text, ruleA, ruleB, ruleC, to_, seven, broken⟩ ⟨_, cw⟩ =>
    W_last m (lineBreaks_part5 m hQ more ⟨hl, hg⟩ f text ruleA ruleB ruleC to_ seven broken cw)


end Go.Proofs.Ytiaodmfipeoegaa.Ai
