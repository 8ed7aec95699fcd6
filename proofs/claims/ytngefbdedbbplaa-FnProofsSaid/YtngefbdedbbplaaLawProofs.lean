/- Contracts of what FnProofs draws: marks. -/
import Derived.Test.YtngefbdedbbplaaMarkDraw2
import Derived.Test.YtngefbdedbbplaaAiCut
namespace Go.Proofs.Ytngefbdedbbplaa.Ai
open Go Go.Proofs
set_option linter.unusedSimpArgs false
set_option maxRecDepth 10000
set_option maxHeartbeats 4000000
set_option linter.unusedVariables false
theorem cMarks_ok (code : List Int) (b0 t0 : Int) (lines : List (List UInt8)) (h : CurIn code) (h0 : 0 ≤ b0) (hk : b0 ≤ 899999999999000000) (hl : lines.length ≤ 20) (hw : ∀ s ∈ lines, s.length ≤ 1000) : OkM Try.prog 58 (cCur code b0 t0) [.isl 1 (rows cStr lines)] (fun r cs => ∃ (q : List Mark), r = .isl 4 (rows cMark q) ∧ CurTo code b0 1000 cs ∧ ((q.length : Int) ≤ 21)) :=
  OkM.iceR (fnM_intro envOk fieldsOk mixed Try.func58 rfl fun κ X Y L Q m hQ => by
    conv => cbv
    refine r_mcall m.sX (cPick_ok code b0 t0 6 h (by omega) (by omega)) ?_
    rintro _ _ ⟨n, rfl, ⟨a1, s1, rfl, ea1, fa1⟩, bn, cn, dn⟩
    conv => cbv
    refine r_mcall m.sX (cOne_ok code a1 s1 16 h (by omega) (by omega)) ?_
    rintro _ _ ⟨q1, rfl, ⟨a2, s2, rfl, ea2, fa2⟩⟩
    conv => cbv
    rcases Bool.eq_false_or_eq_true q1 with rfl | rfl <;> conv => cbv
    · refine r_mcall m.sX (cPick_ok code a2 s2 2 h (by omega) (by omega)) ?_
      rintro _ _ ⟨q2, rfl, ⟨a3, s3, rfl, ea3, fa3⟩, bq2, cq2, dq2⟩
      conv => cbv
      refine r_addf m.sX (by omega) (by omega) fun n_2 hn_2 => ?_
      conv => cbv
      refine r_loopF (α := Int × Int × List Mark) m 56 [1, 6] [⟨0, 1, 0, 0, 0⟩, ⟨5, 41, 44, 4, 0⟩] (fun σ => [(0, .optr 1 0 0 0 0), (1, .isl 1 (rows cStr lines)), (5, .osl 41 0), (6, .int .i64 n_2)]) (fun σ => [(1, 0, .box (cCur code σ.1 σ.2.1)), (41, 0, .row 44 4 (rows cMark σ.2.2))])
        (fun σ => ((σ.2.2.length : Int) ≤ n_2) ∧ (a3 ≤ σ.1 ∧ σ.1 ≤ a3 + 30 * (σ.2.2.length : Int))) (fun σ => (n_2 - (σ.2.2.length : Int)).toNat) (a3, s3, []) ?_ ?_ ?_ ?_
      · cbv
      · (try dsimp only); (try simp only [rows_cons, rows_nil]); cbv
      · exact ⟨(by (try dsimp only); first | omega | (simp only [List.length_nil]; omega) | (simp only [List.length_cons, List.length_nil]; omega)), (by (try dsimp only); first | omega | (simp only [List.length_nil]; omega) | (simp only [List.length_cons, List.length_nil]; omega))⟩
      rintro ⟨a4, s4, l⟩ ⟨ll1, cl1⟩ E hE F hF
      dsimp only at ll1 cl1
      conv => cbv
      refine r_lenR m.sX fun n1 hn1 mn1 => ?_
      conv => cbv
      refine r_lss m.sX (fun h1 => ?_) (fun h1 => ?_) <;> conv => cbv
      · refine r_mcall m.sX (cMark_ok code a4 s4 lines h (by omega) (by omega) (by first | rfl | assumption | omega | (simp only [List.length_append, List.length_cons, List.length_nil] at *; omega)) (by first | rfl | assumption | omega | (simp only [List.length_append, List.length_cons, List.length_nil] at *; omega))) ?_
        rintro _ _ ⟨⟨m_A, m_B, m_C, m_D⟩, rfl, ⟨a5, s5, rfl, ea5, fa5⟩⟩
        conv => cbv
        refine r_draw m (by kernel_rfl) ?_
        conv => cbv
        refine r_mcallS m.sY (cOne_ok code a5 s5 4 h (by omega) (by omega)) (cOne_ex code a5 s5) (by rintro _ _ ⟨_, rfl, _⟩; first | trivial | (intro x hx; simp at hx; rcases hx with rfl | rfl | rfl <;> trivial)) ?_
        rintro _ _ ⟨q3, rfl, ⟨a6, s6, rfl, ea6, fa6⟩⟩
        conv => cbv
        rcases Bool.eq_false_or_eq_true q3 with rfl | rfl <;> conv => cbv
        · refine r_append1 ((m_A, m_B, m_C, m_D)) m.sX rfl (by first | omega | (dsimp only; omega)) (by first | omega | (dsimp only; omega)) fun l_2 hl_2 => ?_
          conv => cbv
          have ll_2 : (l_2.length : Int) = l.length + 1 := by rw [hl_2]; first | done | (simp; done) | (simp; omega)
          refine hE _ (a6, s6, l_2) ?_ ?_ ⟨(by (try dsimp only); first | omega | (simp only [List.length_nil]; omega) | (simp only [List.length_cons, List.length_nil]; omega)), (by (try dsimp only); first | omega | (simp only [List.length_nil]; omega) | (simp only [List.length_cons, List.length_nil]; omega))⟩ (by first | omega | (dsimp only; omega))
          · cbv
          · cbv
        · refine r_lenRS m.sY (by omega) fun n2 hn2 => ?_
          conv => cbv
          refine r_subf m.sY (by omega) (by omega) fun r1 hr1 => ?_
          conv => cbv
          refine r_callBS m.sY (l1In_ok m_A 0 r1) (fun h2 => ?_) (fun h2 => ?_) <;> conv => cbv
          · have hb2 := inB_spec h2
            try dsimp only at hb2
            refine r_index m.sY (by omega) (by omega) fun x1 hx1 => ?_
            conv => cbv
            have mx1 := get_mem hx1
            have bx := hw x1 mx1
            try dsimp only at bx
            refine r_slenS (u := x1) m.sY (by omega) fun n3 hn3 => ?_   -- n3 = length of x1
            conv => cbv
            refine r_eql m.sY (fun h3 => ?_) (fun h3 => ?_) <;> conv => cbv
            · refine r_neq m.sY (fun h4 => ?_) (fun h4 => ?_) <;> conv => cbv
              · refine r_append1 ((m_A, m_B, 2, ([122] : List UInt8))) m.sX rfl (by first | omega | (dsimp only; omega)) (by first | omega | (dsimp only; omega)) fun l_3 hl_3 => ?_
                conv => cbv
                have ll_3 : (l_3.length : Int) = l.length + 1 := by rw [hl_3]; first | done | (simp; done) | (simp; omega)
                refine hE _ (a6, s6, l_3) ?_ ?_ ⟨(by (try dsimp only); first | omega | (simp only [List.length_nil]; omega) | (simp only [List.length_cons, List.length_nil]; omega)), (by (try dsimp only); first | omega | (simp only [List.length_nil]; omega) | (simp only [List.length_cons, List.length_nil]; omega))⟩ (by first | omega | (dsimp only; omega))
                · cbv
                · cbv
              · refine r_append1 ((m_A, m_B, m_C, m_D)) m.sX rfl (by first | omega | (dsimp only; omega)) (by first | omega | (dsimp only; omega)) fun l_4 hl_4 => ?_
                conv => cbv
                have ll_4 : (l_4.length : Int) = l.length + 1 := by rw [hl_4]; first | done | (simp; done) | (simp; omega)
                refine hE _ (a6, s6, l_4) ?_ ?_ ⟨(by (try dsimp only); first | omega | (simp only [List.length_nil]; omega) | (simp only [List.length_cons, List.length_nil]; omega)), (by (try dsimp only); first | omega | (simp only [List.length_nil]; omega) | (simp only [List.length_cons, List.length_nil]; omega))⟩ (by first | omega | (dsimp only; omega))
                · cbv
                · cbv
            · refine r_append1 ((m_A, m_B, m_C, m_D)) m.sX rfl (by first | omega | (dsimp only; omega)) (by first | omega | (dsimp only; omega)) fun l_5 hl_5 => ?_
              conv => cbv
              have ll_5 : (l_5.length : Int) = l.length + 1 := by rw [hl_5]; first | done | (simp; done) | (simp; omega)
              refine hE _ (a6, s6, l_5) ?_ ?_ ⟨(by (try dsimp only); first | omega | (simp only [List.length_nil]; omega) | (simp only [List.length_cons, List.length_nil]; omega)), (by (try dsimp only); first | omega | (simp only [List.length_nil]; omega) | (simp only [List.length_cons, List.length_nil]; omega))⟩ (by first | omega | (dsimp only; omega))
              · cbv
              · cbv
          · refine r_append1 ((m_A, m_B, m_C, m_D)) m.sX rfl (by first | omega | (dsimp only; omega)) (by first | omega | (dsimp only; omega)) fun l_6 hl_6 => ?_
            conv => cbv
            have ll_6 : (l_6.length : Int) = l.length + 1 := by rw [hl_6]; first | done | (simp; done) | (simp; omega)
            refine hE _ (a6, s6, l_6) ?_ ?_ ⟨(by (try dsimp only); first | omega | (simp only [List.length_nil]; omega) | (simp only [List.length_cons, List.length_nil]; omega)), (by (try dsimp only); first | omega | (simp only [List.length_nil]; omega) | (simp only [List.length_cons, List.length_nil]; omega))⟩ (by first | omega | (dsimp only; omega))
            · cbv
            · cbv
      · refine hF _ _ ?_
        conv => cbv
        exact hQ (.fr 44 4 (rows cMark l)) (cCur code a4 s4) ⟨l, rfl, ⟨a4, s4, rfl, by omega, by omega⟩, (by first | omega | assumption | (simp; done) | (simp [*]; done) | (simp at *; omega))⟩   -- leaf 1
    · refine r_loopF (α := Int × Int × List Mark) m 56 [1, 6] [⟨0, 1, 0, 0, 0⟩, ⟨5, 41, 44, 4, 0⟩] (fun σ => [(0, .optr 1 0 0 0 0), (1, .isl 1 (rows cStr lines)), (5, .osl 41 0), (6, .int .i64 n)]) (fun σ => [(1, 0, .box (cCur code σ.1 σ.2.1)), (41, 0, .row 44 4 (rows cMark σ.2.2))])
        (fun σ => ((σ.2.2.length : Int) ≤ n) ∧ (a2 ≤ σ.1 ∧ σ.1 ≤ a2 + 30 * (σ.2.2.length : Int))) (fun σ => (n - (σ.2.2.length : Int)).toNat) (a2, s2, []) ?_ ?_ ?_ ?_
      · cbv
      · (try dsimp only); (try simp only [rows_cons, rows_nil]); cbv
      · exact ⟨(by (try dsimp only); first | omega | (simp only [List.length_nil]; omega) | (simp only [List.length_cons, List.length_nil]; omega)), (by (try dsimp only); first | omega | (simp only [List.length_nil]; omega) | (simp only [List.length_cons, List.length_nil]; omega))⟩
      rintro ⟨a7, s7, l_7⟩ ⟨ll2, cl2⟩ E hE F hF
      dsimp only at ll2 cl2
      conv => cbv
      refine r_lenR m.sX fun n4 hn4 mn4 => ?_
      conv => cbv
      refine r_lss m.sX (fun h5 => ?_) (fun h5 => ?_) <;> conv => cbv
      · refine r_mcall m.sX (cMark_ok code a7 s7 lines h (by omega) (by omega) (by first | rfl | assumption | omega | (simp only [List.length_append, List.length_cons, List.length_nil] at *; omega)) (by first | rfl | assumption | omega | (simp only [List.length_append, List.length_cons, List.length_nil] at *; omega))) ?_
        rintro _ _ ⟨⟨m__2A, m__2B, m__2C, m__2D⟩, rfl, ⟨a8, s8, rfl, ea8, fa8⟩⟩
        conv => cbv
        refine r_draw m (by kernel_rfl) ?_
        conv => cbv
        refine r_mcallS m.sY (cOne_ok code a8 s8 4 h (by omega) (by omega)) (cOne_ex code a8 s8) (by rintro _ _ ⟨_, rfl, _⟩; first | trivial | (intro x hx; simp at hx; rcases hx with rfl | rfl | rfl <;> trivial)) ?_
        rintro _ _ ⟨q4, rfl, ⟨a9, s9, rfl, ea9, fa9⟩⟩
        conv => cbv
        rcases Bool.eq_false_or_eq_true q4 with rfl | rfl <;> conv => cbv
        · refine r_append1 ((m__2A, m__2B, m__2C, m__2D)) m.sX rfl (by first | omega | (dsimp only; omega)) (by first | omega | (dsimp only; omega)) fun l_8 hl_8 => ?_
          conv => cbv
          have ll_8 : (l_8.length : Int) = l_7.length + 1 := by rw [hl_8]; first | done | (simp; done) | (simp; omega)
          refine hE _ (a9, s9, l_8) ?_ ?_ ⟨(by (try dsimp only); first | omega | (simp only [List.length_nil]; omega) | (simp only [List.length_cons, List.length_nil]; omega)), (by (try dsimp only); first | omega | (simp only [List.length_nil]; omega) | (simp only [List.length_cons, List.length_nil]; omega))⟩ (by first | omega | (dsimp only; omega))
          · cbv
          · cbv
        · refine r_lenRS m.sY (by omega) fun n5 hn5 => ?_
          conv => cbv
          refine r_subf m.sY (by omega) (by omega) fun r2 hr2 => ?_
          conv => cbv
          refine r_callBS m.sY (l1In_ok m__2A 0 r2) (fun h6 => ?_) (fun h6 => ?_) <;> conv => cbv
          · have hb6 := inB_spec h6
            try dsimp only at hb6
            refine r_index m.sY (by omega) (by omega) fun x2 hx2 => ?_
            conv => cbv
            have mx2 := get_mem hx2
            have bx := hw x2 mx2
            try dsimp only at bx
            refine r_slenS (u := x2) m.sY (by omega) fun n6 hn6 => ?_   -- n6 = length of x2
            conv => cbv
            refine r_eql m.sY (fun h7 => ?_) (fun h7 => ?_) <;> conv => cbv
            · refine r_neq m.sY (fun h8 => ?_) (fun h8 => ?_) <;> conv => cbv
              · refine r_append1 ((m__2A, m__2B, 2, ([122] : List UInt8))) m.sX rfl (by first | omega | (dsimp only; omega)) (by first | omega | (dsimp only; omega)) fun l_9 hl_9 => ?_
                conv => cbv
                have ll_9 : (l_9.length : Int) = l_7.length + 1 := by rw [hl_9]; first | done | (simp; done) | (simp; omega)
                refine hE _ (a9, s9, l_9) ?_ ?_ ⟨(by (try dsimp only); first | omega | (simp only [List.length_nil]; omega) | (simp only [List.length_cons, List.length_nil]; omega)), (by (try dsimp only); first | omega | (simp only [List.length_nil]; omega) | (simp only [List.length_cons, List.length_nil]; omega))⟩ (by first | omega | (dsimp only; omega))
                · cbv
                · cbv
              · refine r_append1 ((m__2A, m__2B, m__2C, m__2D)) m.sX rfl (by first | omega | (dsimp only; omega)) (by first | omega | (dsimp only; omega)) fun l_10 hl_10 => ?_
                conv => cbv
                have ll_10 : (l_10.length : Int) = l_7.length + 1 := by rw [hl_10]; first | done | (simp; done) | (simp; omega)
                refine hE _ (a9, s9, l_10) ?_ ?_ ⟨(by (try dsimp only); first | omega | (simp only [List.length_nil]; omega) | (simp only [List.length_cons, List.length_nil]; omega)), (by (try dsimp only); first | omega | (simp only [List.length_nil]; omega) | (simp only [List.length_cons, List.length_nil]; omega))⟩ (by first | omega | (dsimp only; omega))
                · cbv
                · cbv
            · refine r_append1 ((m__2A, m__2B, m__2C, m__2D)) m.sX rfl (by first | omega | (dsimp only; omega)) (by first | omega | (dsimp only; omega)) fun l_11 hl_11 => ?_
              conv => cbv
              have ll_11 : (l_11.length : Int) = l_7.length + 1 := by rw [hl_11]; first | done | (simp; done) | (simp; omega)
              refine hE _ (a9, s9, l_11) ?_ ?_ ⟨(by (try dsimp only); first | omega | (simp only [List.length_nil]; omega) | (simp only [List.length_cons, List.length_nil]; omega)), (by (try dsimp only); first | omega | (simp only [List.length_nil]; omega) | (simp only [List.length_cons, List.length_nil]; omega))⟩ (by first | omega | (dsimp only; omega))
              · cbv
              · cbv
          · refine r_append1 ((m__2A, m__2B, m__2C, m__2D)) m.sX rfl (by first | omega | (dsimp only; omega)) (by first | omega | (dsimp only; omega)) fun l_12 hl_12 => ?_
            conv => cbv
            have ll_12 : (l_12.length : Int) = l_7.length + 1 := by rw [hl_12]; first | done | (simp; done) | (simp; omega)
            refine hE _ (a9, s9, l_12) ?_ ?_ ⟨(by (try dsimp only); first | omega | (simp only [List.length_nil]; omega) | (simp only [List.length_cons, List.length_nil]; omega)), (by (try dsimp only); first | omega | (simp only [List.length_nil]; omega) | (simp only [List.length_cons, List.length_nil]; omega))⟩ (by first | omega | (dsimp only; omega))
            · cbv
            · cbv
      · refine hF _ _ ?_
        conv => cbv
        exact hQ (.fr 44 4 (rows cMark l_7)) (cCur code a7 s7) ⟨l_7, rfl, ⟨a7, s7, rfl, by omega, by omega⟩, (by first | omega | assumption | (simp; done) | (simp [*]; done) | (simp at *; omega))⟩)   -- leaf 2

theorem cMarks_ex (code : List Int) (b0 t0 : Int) : ∃ r cs, (∃ (q : List Mark), r = PV.isl 4 (rows cMark q) ∧ CurTo code b0 1000 cs ∧ ((q.length : Int) ≤ 21)) :=
  ⟨_, _, [], rfl, ⟨b0, t0, rfl, by omega, by omega⟩, (by first | omega | simp)⟩

theorem drawMarksBetween_ok (code : List Int) (h : CurIn code) : OkA Try.prog 5 [.isl 1 (rows cU8 code)] (fun r => ∃ (q1 : List UInt8) (q2 : List UInt8), r = .tup [.str q1, .str q2]) :=
  fn_intro envOk fieldsOk mixed Try.func5 rfl fun κ X Y L Q m hQ => by
    conv => cbv
    refine r_mcall m.sX (cPrinted_ok code 0 0 h (by omega) (by omega)) ?_
    rintro _ _ ⟨a, rfl, ⟨a1, s1, rfl, ea1, fa1⟩, ba_1⟩
    conv => cbv
    refine r_mcall m.sX (cOne_ok code a1 s1 2 h (by omega) (by omega)) ?_
    rintro _ _ ⟨q1, rfl, ⟨a2, s2, rfl, ea2, fa2⟩⟩
    conv => cbv
    rcases Bool.eq_false_or_eq_true q1 with rfl | rfl <;> conv => cbv
    · refine r_mcall m.sX (cSpoilt_ok code a2 s2 a ([97, 98, 120, 32] : List UInt8) h (by omega) (by omega) (by first | rfl | assumption | omega | (simp only [List.length_append, List.length_cons, List.length_nil] at *; omega)) (by first | rfl | assumption | omega | (simp only [List.length_append, List.length_cons, List.length_nil] at *; omega))) ?_
      rintro _ _ ⟨q2, rfl, ⟨a3, s3, rfl, ea3, fa3⟩⟩
      conv => cbv
      exact hQ (.tup [.str a, .str q2]) ⟨a, q2, rfl⟩   -- leaf 1
    · refine r_mcall m.sX (cPrinted_ok code a2 s2 h (by omega) (by omega)) ?_
      rintro _ _ ⟨q3, rfl, ⟨a4, s4, rfl, ea4, fa4⟩, bq3_1⟩
      conv => cbv
      refine r_mcall m.sX (cPrinted_ok code a4 s4 h (by omega) (by omega)) ?_
      rintro _ _ ⟨q4, rfl, ⟨a5, s5, rfl, ea5, fa5⟩, bq4_1⟩
      conv => cbv
      refine r_mcall m.sX (cOfL_ok code a5 s5 ([q3, q4, ([65] : List UInt8), ([] : List UInt8)]) h (by omega) (by omega) (by first | rfl | assumption | omega | (simp only [List.length_append, List.length_cons, List.length_nil] at *; omega)) (by first | rfl | assumption | omega | (simp only [List.length_append, List.length_cons, List.length_nil] at *; omega))) ?_
      rintro _ _ ⟨q5, rfl, ⟨a6, s6, rfl, ea6, fa6⟩, bq5_1⟩
      conv => cbv
      exact hQ (.tup [.str a, .str q5]) ⟨a, q5, rfl⟩   -- leaf 2

theorem drawAreMarks_ok (code : List Int) (h : CurIn code) : OkA Try.prog 52 [.isl 1 (rows cU8 code)] (fun r => ∃ (q1 : List (List UInt8)) (q2 : List Mark), r = .tup [.isl 1 (rows cStr q1), .isl 4 (rows cMark q2)] ∧ ((q1.length : Int) ≤ 13) ∧ (∀ s ∈ q1, s.length ≤ 1000) ∧ ((q2.length : Int) ≤ 21)) :=
  OkA.iceR (fn_intro envOk fieldsOk mixed Try.func52 rfl fun κ X Y L Q m hQ => by
    conv => cbv
    refine r_mcall m.sX (cProof_ok code 0 0 h (by omega) (by omega)) ?_
    rintro _ _ ⟨lines, rfl, ⟨a1, s1, rfl, ea1, fa1⟩, blines_1, blines_2⟩
    conv => cbv
    refine r_mcall m.sX (cMarks_ok code a1 s1 lines h (by omega) (by omega) (by first | rfl | assumption | omega | (simp only [List.length_append, List.length_cons, List.length_nil] at *; omega)) (by first | rfl | assumption | omega | (simp only [List.length_append, List.length_cons, List.length_nil] at *; omega))) ?_
    rintro _ _ ⟨q1, rfl, ⟨a2, s2, rfl, ea2, fa2⟩, bq1_1⟩
    conv => cbv
    exact hQ (.tup [.isl 1 (rows cStr lines), .isl 4 (rows cMark q1)]) ⟨lines, q1, rfl, (by first | omega | assumption | (simp; done) | (simp [*]; done) | (simp at *; omega)), (by first | omega | assumption | (simp; done) | (simp [*]; done) | (simp at *; omega)), (by first | omega | assumption | (simp; done) | (simp [*]; done) | (simp at *; omega))⟩)   -- leaf 1

theorem drawLiveMarks_ok (code : List Int) (h : CurIn code) : OkA Try.prog 10 [.isl 1 (rows cU8 code)] (fun r => ∃ (q1 : List (List UInt8)) (q2 : List Mark), r = .tup [.isl 1 (rows cStr q1), .isl 4 (rows cMark q2)] ∧ ((q1.length : Int) ≤ 13) ∧ (∀ s ∈ q1, s.length ≤ 1000) ∧ ((q2.length : Int) ≤ 21)) :=
  OkA.iceR (fn_intro envOk fieldsOk mixed Try.func10 rfl fun κ X Y L Q m hQ => by
    conv => cbv
    refine r_callE m.sX (drawAreMarks_ok code h) ?_
    rintro _ ⟨q1, q2, rfl, bq1_1, bq1_2, bq1_3⟩
    conv => cbv
    exact hQ (.tup [.isl 1 (rows cStr q1), .isl 4 (rows cMark q2)]) ⟨q1, q2, rfl, (by first | omega | assumption | (simp; done) | (simp [*]; done) | (simp at *; omega)), (by first | omega | assumption | (simp; done) | (simp [*]; done) | (simp at *; omega)), (by first | omega | assumption | (simp; done) | (simp [*]; done) | (simp at *; omega))⟩)   -- leaf 1

theorem drawAddMark_ok (code : List Int) (h : CurIn code) : OkA Try.prog 20 [.isl 1 (rows cU8 code)] (fun r => ∃ (q1 : List (List UInt8)) (q2 : List Mark) (q3 : Mark), r = .tup [.isl 1 (rows cStr q1), .isl 4 (rows cMark q2), .agg (cMark q3)] ∧ ((q1.length : Int) ≤ 13) ∧ (∀ s ∈ q1, s.length ≤ 1000) ∧ ((q2.length : Int) ≤ 21)) :=
  OkA.iceR (fn_intro envOk fieldsOk mixed Try.func20 rfl fun κ X Y L Q m hQ => by
    conv => cbv
    refine r_mcall m.sX (cProof_ok code 0 0 h (by omega) (by omega)) ?_
    rintro _ _ ⟨lines, rfl, ⟨a1, s1, rfl, ea1, fa1⟩, blines_1, blines_2⟩
    conv => cbv
    refine r_mcall m.sX (cMarks_ok code a1 s1 lines h (by omega) (by omega) (by first | rfl | assumption | omega | (simp only [List.length_append, List.length_cons, List.length_nil] at *; omega)) (by first | rfl | assumption | omega | (simp only [List.length_append, List.length_cons, List.length_nil] at *; omega))) ?_
    rintro _ _ ⟨marks, rfl, ⟨a2, s2, rfl, ea2, fa2⟩, bmarks_1⟩
    conv => cbv
    refine r_lenR m.sX fun n hn mn => ?_
    conv => cbv
    refine r_gtr m.sX (fun h1 => ?_) (fun h1 => ?_) <;> conv => cbv
    · refine r_mcall m.sX (cOne_ok code a2 s2 3 h (by omega) (by omega)) ?_
      rintro _ _ ⟨q1, rfl, ⟨a3, s3, rfl, ea3, fa3⟩⟩
      conv => cbv
      rcases Bool.eq_false_or_eq_true q1 with rfl | rfl <;> conv => cbv
      · refine r_draw m (by kernel_rfl) ?_
        conv => cbv
        refine r_subf m.sY (by omega) (by omega) fun r1 hr1 => ?_
        conv => cbv
        refine r_index m.sY (by omega) (by omega) fun v hx1A => ?_
        obtain ⟨x1A, x1B, x1C, x1D⟩ := v
        conv => cbv
        have hx1 := hx1A
        have mx1 := get_mem hx1
        refine r_subf m.sY (by omega) (by omega) fun r2 hr2 => ?_
        conv => cbv
        refine r_index m.sY (by omega) (by omega) fun v hx2A => ?_
        obtain ⟨x2A, x2B, x2C, x2D⟩ := v
        conv => cbv
        have hx2 := hx2A
        have mx2 := get_mem hx2
        exact hQ (.tup [.isl 1 (rows cStr lines), .isl 4 (rows cMark marks), .agg [.int .i64 x1A, .int .i64 x2B, .int .i64 4, .str ([])]]) ⟨lines, marks, (x1A, x2B, 4, []), rfl, (by first | omega | assumption | (simp; done) | (simp [*]; done) | (simp at *; omega)), (by first | omega | assumption | (simp; done) | (simp [*]; done) | (simp at *; omega)), (by first | omega | assumption | (simp; done) | (simp [*]; done) | (simp at *; omega))⟩   -- leaf 1
      · refine r_mcall m.sX (cMark_ok code a3 s3 lines h (by omega) (by omega) (by first | rfl | assumption | omega | (simp only [List.length_append, List.length_cons, List.length_nil] at *; omega)) (by first | rfl | assumption | omega | (simp only [List.length_append, List.length_cons, List.length_nil] at *; omega))) ?_
        rintro _ _ ⟨⟨q2A, q2B, q2C, q2D⟩, rfl, ⟨a4, s4, rfl, ea4, fa4⟩⟩
        conv => cbv
        exact hQ (.tup [.isl 1 (rows cStr lines), .isl 4 (rows cMark marks), .agg [.int .i64 q2A, .int .i64 q2B, .int .i64 q2C, .str q2D]]) ⟨lines, marks, (q2A, q2B, q2C, q2D), rfl, (by first | omega | assumption | (simp; done) | (simp [*]; done) | (simp at *; omega)), (by first | omega | assumption | (simp; done) | (simp [*]; done) | (simp at *; omega)), (by first | omega | assumption | (simp; done) | (simp [*]; done) | (simp at *; omega))⟩   -- leaf 2
    · refine r_mcall m.sX (cMark_ok code a2 s2 lines h (by omega) (by omega) (by first | rfl | assumption | omega | (simp only [List.length_append, List.length_cons, List.length_nil] at *; omega)) (by first | rfl | assumption | omega | (simp only [List.length_append, List.length_cons, List.length_nil] at *; omega))) ?_
      rintro _ _ ⟨⟨q3A, q3B, q3C, q3D⟩, rfl, ⟨a5, s5, rfl, ea5, fa5⟩⟩
      conv => cbv
      exact hQ (.tup [.isl 1 (rows cStr lines), .isl 4 (rows cMark marks), .agg [.int .i64 q3A, .int .i64 q3B, .int .i64 q3C, .str q3D]]) ⟨lines, marks, (q3A, q3B, q3C, q3D), rfl, (by first | omega | assumption | (simp; done) | (simp [*]; done) | (simp at *; omega)), (by first | omega | assumption | (simp; done) | (simp [*]; done) | (simp at *; omega)), (by first | omega | assumption | (simp; done) | (simp [*]; done) | (simp at *; omega))⟩)   -- leaf 3


/- The law FnProofs: its body returns true. -/
theorem flat_cStr : ∀ x, ∀ c ∈ cStr x, flat c := fun x c hc => by
  simp only [cStr, List.mem_cons, List.not_mem_nil, or_false] at hc
  subst hc; trivial
theorem CorrectLinesL_ok (a : Tx) (marks : List Mark) : OkA Try.prog 9 [.isl 1 [[.str a]], .isl 4 (rows cMark marks)] (· = (lb 9 1 cStr) (corA [a] marks)) := by
  have h := CorrectLines_ok [a] marks
  simp only [rows_cons, rows_nil] at h
  exact h
theorem live_no {lines : List Tx} {own L : List Mark} (h : (L, false) = liveA lines own) : marksB lines own = false := by
  unfold liveA at h
  split at h
  · cases (Prod.mk.inj h).2
  · rename_i hm; simpa using hm
theorem cnt_yes {lines : List Tx} {own : List Mark} {n : List Int} {t : Bool} (h : (n, t) = cntA lines own) (hm : marksB lines own = true) : t = true ∧ n = cntF (liveL own) lines.length := by
  rw [cntA, if_pos hm] at h
  exact ⟨(Prod.mk.inj h).2, (Prod.mk.inj h).1⟩
theorem cnt_no {lines : List Tx} {own : List Mark} {n : List Int} {t : Bool} (h : (n, t) = cntA lines own) (hm : marksB lines own = false) : t = false := by
  rw [cntA, if_neg (by rw [hm]; exact Bool.false_ne_true)] at h
  exact (Prod.mk.inj h).2
theorem cnt_fits {lines : List Tx} {own : List Mark} (hm : marksB lines own = true) : SumFits (cntF (liveL own) lines.length) :=
  sumfits_of 20 (fun z hz => by have := cnt_bd hz; have := live_len own; have := marks_len hm; omega) (by rw [cnt_len]; have := pf_len (marks_proof hm); omega)
theorem qMarks_ok (a : List Mark) (b : List Mark)  : OkA Try.prog 8 [.isl 4 (rows cMark a), .isl 4 (rows cMark b)] (· = .bool (decide (a = b))) :=
  fn_intro envOk fieldsOk mixed Try.func8 rfl fun κ X Y L Q m hQ => by
    conv => cbv
    refine r_lenR m.sX fun n1 hn1 mn1 => ?_
    conv => cbv
    refine r_lenR m.sX fun n2 hn2 mn2 => ?_
    conv => cbv
    refine r_neq m.sX (fun h1 => ?_) (fun h1 => ?_) <;> conv => cbv
    · exact hQ _ (congrArg PV.bool (by exact (decide_eq_false fun e => by rw [e] at hn1; omega).symm))   -- leaf 1
    · refine r_lenR m.sX fun n3 hn3 mn3 => ?_
      conv => cbv
      refine r_loopF (α := Int) m 26 [0, 1, 12, 13] [] (fun σ => [(0, .isl 4 (rows cMark a)), (1, .isl 4 (rows cMark b)), (12, .int .i64 n3), (13, .int .i64 σ)]) (fun σ => [])
        (fun σ => (0 ≤ σ) ∧ (σ ≤ n3) ∧ (a.take σ.toNat = b.take σ.toNat)) (fun σ => (n3 - σ).toNat) 0 ?_ ?_ ?_ ?_
      · cbv
      · cbv
      · exact ⟨(by (try dsimp only); first | omega | (simp only [List.length_nil]; omega) | (simp only [List.length_cons, List.length_nil]; omega)), (by (try dsimp only); first | omega | (simp only [List.length_nil]; omega) | (simp only [List.length_cons, List.length_nil]; omega)), (by (try dsimp only) <;> first | omega | rfl | (simp [*]; done))⟩
      rintro i1 ⟨lo1, hi1, q⟩ E hE F hF
      conv => cbv
      refine r_lss m.sX (fun h2 => ?_) (fun h2 => ?_) <;> conv => cbv
      · refine r_draw m (by kernel_rfl) ?_
        conv => cbv
        refine r_index m.sY (by omega) (by omega) fun v hx1A => ?_
        obtain ⟨x1A, x1B, x1C, x1D⟩ := v
        conv => cbv
        have hx1 := hx1A
        have mx1 := get_mem hx1
        have dx1 := drop_cons hx1
        have kx1 := take_snoc hx1
        have jx1 : (i1 + 1).toNat = Int.toNat i1 + 1 := by omega
        refine r_index m.sY (by omega) (by omega) fun v hx2A => ?_
        obtain ⟨x2A, x2B, x2C, x2D⟩ := v
        conv => cbv
        have hx2 := hx2A
        have mx2 := get_mem hx2
        have dx2 := drop_cons hx2
        have kx2 := take_snoc hx2
        have jx2 : (i1 + 1).toNat = Int.toNat i1 + 1 := by omega
        refine r_aeq [.int .i64 0, .int .i64 0, .int .i64 0, .str []] m.sY (by kernel_rfl) rfl rfl (fun h3 => ?_) (fun h3 => ?_) <;> conv => cbv   -- (x1A, x1B, x1C, x1D) neq (x2A, x2B, x2C, x2D)
        · have e3 : (x1A, x1B, x1C, x1D) = (x2A, x2B, x2C, x2D) := by simpa using h3
          refine r_addf m.sX (by omega) (by omega) fun r1 hr1 => ?_
          conv => cbv
          try have tr1 : Int.toNat r1 = Int.toNat i1 + 1 := by omega
          refine hE _ r1 ?_ ?_ ⟨(by (try dsimp only); first | omega | (simp only [List.length_nil]; omega) | (simp only [List.length_cons, List.length_nil]; omega)), (by (try dsimp only); first | omega | (simp only [List.length_nil]; omega) | (simp only [List.length_cons, List.length_nil]; omega)), (by (try dsimp only) <;> (rw [tr1, List.take_add_one, List.take_add_one, hx1A, hx2A, q, e3]))⟩ (by first | omega | (dsimp only; omega))
          · cbv
          · cbv
        · refine hF _ _ ?_
          conv => cbv
          exact hQ _ (congrArg PV.bool (by exact (decide_eq_false fun e => by rw [e] at hx1A; have z := Option.some.inj (hx1A.symm.trans hx2A); simp only [Prod.mk.injEq] at z; obtain ⟨z1, z2, z3, z4⟩ := z; exact h3 (by rw [z1, z2, z3, z4])).symm))   -- leaf 2
      · have dz_i1 := drop_end (xs := a) (i := Int.toNat i1) (by omega)
        have tz_i1 := take_end (xs := a) (i := Int.toNat i1) (by omega)
        refine hF _ _ ?_
        conv => cbv
        exact hQ _ (congrArg PV.bool (by exact (decide_eq_true (eq_of_takes (by omega) q (by omega))).symm))   -- leaf 3

theorem qTexts_ok (a : List (List UInt8)) (b : List (List UInt8))  : OkA Try.prog 19 [.isl 1 (rows cStr a), .isl 1 (rows cStr b)] (· = .bool (decide (a = b))) :=
  fn_intro envOk fieldsOk mixed Try.func19 rfl fun κ X Y L Q m hQ => by
    conv => cbv
    refine r_lenR m.sX fun n1 hn1 mn1 => ?_
    conv => cbv
    refine r_lenR m.sX fun n2 hn2 mn2 => ?_
    conv => cbv
    refine r_neq m.sX (fun h1 => ?_) (fun h1 => ?_) <;> conv => cbv
    · exact hQ _ (congrArg PV.bool (by exact (decide_eq_false fun e => by rw [e] at hn1; omega).symm))   -- leaf 1
    · refine r_lenR m.sX fun n3 hn3 mn3 => ?_
      conv => cbv
      refine r_loopF (α := Int) m 26 [0, 1, 12, 13] [] (fun σ => [(0, .isl 1 (rows cStr a)), (1, .isl 1 (rows cStr b)), (12, .int .i64 n3), (13, .int .i64 σ)]) (fun σ => [])
        (fun σ => (0 ≤ σ) ∧ (σ ≤ n3) ∧ (a.take σ.toNat = b.take σ.toNat)) (fun σ => (n3 - σ).toNat) 0 ?_ ?_ ?_ ?_
      · cbv
      · cbv
      · exact ⟨(by (try dsimp only); first | omega | (simp only [List.length_nil]; omega) | (simp only [List.length_cons, List.length_nil]; omega)), (by (try dsimp only); first | omega | (simp only [List.length_nil]; omega) | (simp only [List.length_cons, List.length_nil]; omega)), (by (try dsimp only) <;> first | omega | rfl | (simp [*]; done))⟩
      rintro i1 ⟨lo1, hi1, q⟩ E hE F hF
      conv => cbv
      refine r_lss m.sX (fun h2 => ?_) (fun h2 => ?_) <;> conv => cbv
      · refine r_draw m (by kernel_rfl) ?_
        conv => cbv
        refine r_index m.sY (by omega) (by omega) fun x1 hx1 => ?_
        conv => cbv
        have mx1 := get_mem hx1
        have dx1 := drop_cons hx1
        have kx1 := take_snoc hx1
        have jx1 : (i1 + 1).toNat = Int.toNat i1 + 1 := by omega
        refine r_index m.sY (by omega) (by omega) fun x2 hx2 => ?_
        conv => cbv
        have mx2 := get_mem hx2
        have dx2 := drop_cons hx2
        have kx2 := take_snoc hx2
        have jx2 : (i1 + 1).toNat = Int.toNat i1 + 1 := by omega
        refine r_sneq m.sY (fun h3 => ?_) (fun h3 => ?_) <;> conv => cbv
        · refine hF _ _ ?_
          conv => cbv
          exact hQ _ (congrArg PV.bool (by exact (decide_eq_false fun e => by rw [e] at hx1; exact h3 (Option.some.inj (hx1.symm.trans hx2))).symm))   -- leaf 2
        · refine r_addf m.sX (by omega) (by omega) fun r1 hr1 => ?_
          conv => cbv
          try have tr1 : Int.toNat r1 = Int.toNat i1 + 1 := by omega
          refine hE _ r1 ?_ ?_ ⟨(by (try dsimp only); first | omega | (simp only [List.length_nil]; omega) | (simp only [List.length_cons, List.length_nil]; omega)), (by (try dsimp only); first | omega | (simp only [List.length_nil]; omega) | (simp only [List.length_cons, List.length_nil]; omega)), (by (try dsimp only) <;> (rw [tr1, kx1, kx2, q, show x1 = x2 from by assumption]))⟩ (by first | omega | (dsimp only; omega))
          · cbv
          · cbv
      · have dz_i1 := drop_end (xs := a) (i := Int.toNat i1) (by omega)
        have tz_i1 := take_end (xs := a) (i := Int.toNat i1) (by omega)
        refine hF _ _ ?_
        conv => cbv
        exact hQ _ (congrArg PV.bool (by exact (decide_eq_true (eq_of_takes (by omega) q (by omega))).symm))   -- leaf 3

noncomputable abbrev midProofs (more : List Int) : List (Nat × PV) := [(1, .isl 1 (rows cU8 more))]

section
variable {κ : Ctx} {X Y : Req → (PV → Prop) → Prop} {L : Code → (Ex → St → Prop) → St → Prop} {Q : PV → Prop}

theorem proofs_part1 (m : Mach Try.prog G κ X Y L) (hQ : ∀ r, r = PV.bool true → Q r) (code more : List Int) (hf : ∀ x ∈ code, 0 ≤ x ∧ x ≤ 255) (E0 : St → Prop)
    (hE0 : ∀ (s' : St) (a : Unit), headOk s' [] = true → Ai.norm [1] [] s' = St.at 266 (midProofs more) [] → (more.length : Int) ≤ 9223372036854775807 → E0 s') :
    Ai.code X L G (front 7 (Try.f3.body.getD .skip)) (fun e s' => match e with | .normal => E0 s' | .exit i => EndsIn (post G Try.f3.results.toList Q) (.exit i) s' | .ret => EndsIn (post G Try.f3.results.toList Q) .ret s') (start 266 [.isl 1 (rows cU8 code), .isl 1 (rows cU8 more)] []) := by
  conv => cbv
  refine r_lenR m.sX fun n1 hn1 mn1 => ?_
  conv => cbv
  refine r_lenR m.sX fun n2 hn2 mn2 => ?_
  conv => cbv
  refine r_add m.sX fun r1 hr1 => ?_
  conv => cbv
  refine r_gtr m.sX (fun h1 => ?_) (fun h1 => ?_) <;> conv => cbv
  · exact hQ _ (congrArg PV.bool (by first | rfl | omega | (simp [*]; done) | (subst_vars; simp [*]; done)))   -- leaf 1
  · have h : CurIn code := ⟨by omega, hf⟩
    have hmr : (more.length : Int) ≤ 9223372036854775807 := by omega
    refine r_callE m.sX (drawMarksBetween_ok code h) ?_
    rintro _ ⟨a, b, rfl⟩
    conv => cbv
    refine r_callF (lbI 4 cMark) m.sX ((MarksBetween_ok a b).ice) fun v hm_ => ?_
    obtain ⟨m_, ok⟩ := v
    conv => cbv
    refine r_callF (lbI 4 cMark) m.sX ((specMarksBetween_ok a b).ice) fun y1 hy1 => ?_
    obtain rfl := hm_.trans hy1.symm
    clear hy1
    conv => cbv
    rcases Bool.eq_false_or_eq_true ok with rfl | rfl <;> conv => cbv
    · obtain ⟨cl, nl, mb⟩ := bet_law hm_
      have ml := marks_len mb
      refine r_callBT m.sX (qMarks_ok m_ m_) (by first | assumption | exact decide_eq_true rfl | (simp [*]; done) | omega) ?_   -- h2
      conv => cbv
      refine .inl (r_callFO (lbI 1 cStr) m.sX ((((CorrectLinesL_ok a m_)).ok (flat_lb flat_cStr)).ice) fun v hl => ?_)
      obtain ⟨l, one⟩ := v
      conv => cbv
      have el : l = [b] := (Prod.mk.inj (hl.trans cl)).1
      have ll : l.length = 1 := by rw [el]; rfl
      obtain rfl : one = true := by exact (Prod.mk.inj (hl.trans cl)).2
      conv => cbv
      refine r_lenR m.sX fun n3 hn3 mn3 => ?_
      conv => cbv
      refine r_neqF m.sX (by first | omega | rfl) ?_
      conv => cbv
      refine r_index m.sX (by omega) (by omega) fun x1 hx1 => ?_
      conv => cbv
      have mx1 := get_mem hx1
      refine r_sneqF m.sX ((by rw [el] at hx1; exact (Option.some.inj hx1).symm)) ?_
      conv => cbv
      refine r_seql m.sX (fun h5 => ?_) (fun h5 => ?_) <;> conv => cbv
      · have z0 : m_.length = 0 := by rw [nl.1 h5]; rfl
        refine r_lenR m.sX fun n4 hn4 mn4 => ?_
        conv => cbv
        refine r_eqlT m.sX (by first | omega | rfl) ?_
        conv => cbv
        exact hE0 _ () (by cbv) (by cbv) hmr
      · have z0 : ¬ m_.length = 0 := fun e => h5 (nl.2 (List.eq_nil_of_length_eq_zero e))
        refine r_lenR m.sX fun n5 hn5 mn5 => ?_
        conv => cbv
        refine r_eqlF m.sX (by first | omega | rfl) ?_
        conv => cbv
        exact hE0 _ () (by cbv) (by cbv) hmr
    · refine r_callBT m.sX (qMarks_ok m_ m_) (by first | assumption | exact decide_eq_true rfl | (simp [*]; done) | omega) ?_   -- h8
      conv => cbv
      exact hE0 _ () (by cbv) (by cbv) hmr

theorem proofs_part2 (m : Mach Try.prog G κ X Y L) (hQ : ∀ r, r = PV.bool true → Q r) (more : List Int) (h : CurIn more) (E0 : St → Prop)
    (hE0 : ∀ (s' : St) (a : Unit), headOk s' [] = true → Ai.norm [1] [] s' = St.at 266 (midProofs more) [] → True → E0 s') :
    Ai.code X L G (front 7 (rest 7 (Try.f3.body.getD .skip))) (fun e s' => match e with | .normal => E0 s' | .exit i => EndsIn (post G Try.f3.results.toList Q) (.exit i) s' | .ret => EndsIn (post G Try.f3.results.toList Q) .ret s') (St.at 266 (midProofs more) []) := by
  conv => cbv
  refine r_callE m.sX ((drawLiveMarks_ok more h).iceE) ?_
  rintro _ ⟨_, ⟨lines, own, rfl, blines_1, blines_2, blines_3⟩, rfl⟩
  conv => cbv
  refine r_callF (lbI 4 cMark) m.sX ((LiveMarks_ok lines own).ice) fun v hl => ?_
  obtain ⟨l, one⟩ := v
  conv => cbv
  have hw6 : ∀ s ∈ lines, s.length ≤ 1000000 := fun s hs => Nat.le_trans (blines_2 s hs) (by omega)
  refine r_callF (lbI 4 cMark) m.sX ((specLiveMarks_ok lines own (by first | rfl | assumption | omega | (simp only [List.length_append, List.length_cons, List.length_nil] at *; omega)) (by first | rfl | assumption | omega | (simp only [List.length_append, List.length_cons, List.length_nil] at *; omega)) (by first | rfl | assumption | omega | (simp only [List.length_append, List.length_cons, List.length_nil] at *; omega))).ice) fun y1 hy1 => ?_
  obtain rfl := hl.trans hy1.symm
  clear hy1
  conv => cbv
  refine r_callF (lbI 1 cInt) m.sX ((MarkedLines_ok lines own).ice) fun v hn => ?_
  obtain ⟨n, three⟩ := v
  conv => cbv
  refine r_callF (lbI 1 cInt) m.sX ((specMarkedLines_ok lines own (by first | rfl | assumption | omega | (simp only [List.length_append, List.length_cons, List.length_nil] at *; omega)) (by first | rfl | assumption | omega | (simp only [List.length_append, List.length_cons, List.length_nil] at *; omega)) (by first | rfl | assumption | omega | (simp only [List.length_append, List.length_cons, List.length_nil] at *; omega))).ice) fun y2 hy2 => ?_
  obtain rfl := hn.trans hy2.symm
  clear hy2
  conv => cbv
  rcases Bool.eq_false_or_eq_true one with rfl | rfl <;> conv => cbv
  · obtain ⟨lw1, lw2, lw3, lw4, lw5⟩ := live_law hl
    obtain ⟨et, en⟩ := cnt_yes hn lw3
    have sf : SumFits n := by rw [en]; exact cnt_fits lw3
    have es : n.sum = l.length := by rw [en]; exact lw2
    have nl : n.length = lines.length := by rw [en, cnt_len]
    refine r_callBT m.sX (qMarks_ok l l) (by first | assumption | exact decide_eq_true rfl | (simp [*]; done) | omega) ?_   -- h1
    conv => cbv
    obtain rfl : three = true := by first | exact et | exact cnt_no hn lw3
    conv => cbv
    refine r_callBT m.sX (qInts_ok n n) (by first | assumption | exact decide_eq_true rfl | (simp [*]; done) | omega) ?_   -- h2
    conv => cbv
    refine r_callBT m.sX (AreMarks_ok lines own) (by exact lw3) ?_   -- h3
    conv => cbv
    refine r_callBT m.sX (IsProof_ok lines) (by exact marks_proof lw3) ?_   -- h4
    conv => cbv
    refine r_callF (PV.int .i64) m.sX (qSum_ok n (by first | rfl | assumption | omega | (simp only [List.length_append, List.length_cons, List.length_nil] at *; omega))) fun r1 hr1 => ?_
    conv => cbv
    refine r_lenR m.sX fun n1 hn1 mn1 => ?_
    conv => cbv
    refine r_neqF m.sX (by first | omega | rfl) ?_
    conv => cbv
    refine r_lenR m.sX fun n2 hn2 mn2 => ?_
    conv => cbv
    refine r_lenR m.sX fun n3 hn3 mn3 => ?_
    conv => cbv
    refine r_neqF m.sX (by first | omega | rfl) ?_
    conv => cbv
    refine r_callF (lbI 1 cStr) m.sX ((CorrectLines_ok lines own).ice) fun v hfirst => ?_
    obtain ⟨first, five⟩ := v
    conv => cbv
    refine r_callF (lbI 1 cStr) m.sX ((CorrectLines_ok lines l).ice) fun v hsecond => ?_
    obtain ⟨second, six⟩ := v
    conv => cbv
    rcases Bool.eq_false_or_eq_true five with rfl | rfl <;> conv => cbv
    · obtain rfl : six = true := by exact (Prod.mk.inj (hsecond.trans (lw1.trans hfirst.symm))).2
      conv => cbv
      refine r_callBT m.sX (qTexts_ok first second) (by exact decide_eq_true (Prod.mk.inj (hfirst.trans (lw1.symm.trans hsecond.symm))).1) ?_   -- h7
      conv => cbv
      exact hE0 _ () (by cbv) (by cbv) trivial
    · obtain rfl : six = false := by exact (Prod.mk.inj (hsecond.trans (lw1.trans hfirst.symm))).2
      conv => cbv
      refine r_callBT m.sX (qTexts_ok first second) (by exact decide_eq_true (Prod.mk.inj (hfirst.trans (lw1.symm.trans hsecond.symm))).1) ?_   -- h8
      conv => cbv
      exact hE0 _ () (by cbv) (by cbv) trivial
  · have lw3 := live_no hl
    refine r_callBT m.sX (qMarks_ok l l) (by first | assumption | exact decide_eq_true rfl | (simp [*]; done) | omega) ?_   -- h9
    conv => cbv
    obtain rfl : three = false := by first | exact et | exact cnt_no hn lw3
    conv => cbv
    refine r_callBT m.sX (qInts_ok n n) (by first | assumption | exact decide_eq_true rfl | (simp [*]; done) | omega) ?_   -- h10
    conv => cbv
    refine r_callBF m.sX (AreMarks_ok lines own) (by exact lw3) ?_   -- h11
    conv => cbv
    exact hE0 _ () (by cbv) (by cbv) trivial

theorem proofs_part3 (m : Mach Try.prog G κ X Y L) (hQ : ∀ r, r = PV.bool true → Q r) (more : List Int) (h : CurIn more) :
    Ai.code X L G (rest 7 (rest 7 (Try.f3.body.getD .skip))) (EndsIn (post G Try.f3.results.toList Q)) (St.at 266 (midProofs more) []) := by
  conv => cbv
  refine r_callE m.sX ((drawAddMark_ok more h).iceE) ?_
  rintro _ ⟨_, ⟨u, v, ⟨xA, xB, xC, xD⟩, rfl, bu_1, bu_2, bu_3⟩, rfl⟩
  conv => cbv
  refine r_callF (lbI 4 cMark) m.sX ((AddMark_ok u v (xA, xB, xC, xD) (by first | rfl | assumption | omega | (simp only [List.length_append, List.length_cons, List.length_nil] at *; omega))).ice) fun v hw => ?_
  obtain ⟨w, five⟩ := v
  conv => cbv
  try dsimp only at hw
  have hw6 : ∀ s ∈ u, s.length ≤ 1000000 := fun s hs => Nat.le_trans (bu_2 s hs) (by omega)
  refine r_callF (lbI 4 cMark) m.sX ((specAddMark_ok u v (xA, xB, xC, xD) (by first | rfl | assumption | omega | (simp only [List.length_append, List.length_cons, List.length_nil] at *; omega)) (by first | rfl | assumption | omega | (simp only [List.length_append, List.length_cons, List.length_nil] at *; omega)) (by first | rfl | assumption | omega | (simp only [List.length_append, List.length_cons, List.length_nil] at *; omega))).ice) fun y1 hy1 => ?_
  obtain rfl := hw.trans hy1.symm
  clear hy1
  conv => cbv
  rcases Bool.eq_false_or_eq_true five with rfl | rfl <;> conv => cbv
  · refine r_callBT m.sX (qMarks_ok w w) (by first | assumption | exact decide_eq_true rfl | (simp [*]; done) | omega) ?_   -- h1
    conv => cbv
    refine r_eql m.sX (fun h2 => ?_) (fun h2 => ?_) <;> conv => cbv
    · refine r_callF (lbI 4 cMark) m.sX ((LiveMarks_ok u w).ice) fun v hafter => ?_
      obtain ⟨after, seven⟩ := v
      conv => cbv
      try dsimp only at hafter
      obtain ⟨e7, e8⟩ := add_law hw h2 hafter
      obtain rfl : seven = true := by exact e7
      conv => cbv
      refine r_lenR m.sX fun n1 hn1 mn1 => ?_
      conv => cbv
      refine r_loopF (α := Int) m 266 [247, 248, 249] [⟨29, 233, 0, 0, 0⟩] (fun σ => [(29, .optr 233 0 4 0 0), (247, .isl 4 (rows cMark after)), (248, .int .i64 n1), (249, .int .i64 σ)]) (fun σ => [(233, 0, .box [.int .i64 xA, .int .i64 xB, .int .i64 xC, .str xD])])
        (fun σ => (0 ≤ σ) ∧ (σ ≤ n1)) (fun σ => (n1 - σ).toNat) 0 ?_ ?_ ?_ ?_
      · cbv
      · cbv
      · exact ⟨(by (try dsimp only); first | omega | (simp only [List.length_nil]; omega) | (simp only [List.length_cons, List.length_nil]; omega)), (by (try dsimp only); first | omega | (simp only [List.length_nil]; omega) | (simp only [List.length_cons, List.length_nil]; omega))⟩
      rintro i1 ⟨lo1, hi1⟩ E hE F hF
      conv => cbv
      refine r_lss m.sX (fun h3 => ?_) (fun h3 => ?_) <;> conv => cbv
      · refine r_index m.sX (by omega) (by omega) fun v hyA => ?_
        obtain ⟨yA, yB, yC, yD⟩ := v
        conv => cbv
        have hy := hyA
        have my := get_mem hy
        have dy := drop_cons hy
        have ky := take_snoc hy
        have jy : (i1 + 1).toNat = Int.toNat i1 + 1 := by omega
        refine r_eql m.sX (fun h4 => ?_) (fun h4 => ?_) <;> conv => cbv
        · have z5 : ¬ yB = xB := fun e => e8 _ my ⟨h4, e⟩
          refine r_eqlF m.sX (by first | omega | rfl) ?_
          conv => cbv
          refine r_addf m.sX (by omega) (by omega) fun r1 hr1 => ?_
          conv => cbv
          try have tr1 : Int.toNat r1 = Int.toNat i1 + 1 := by omega
          refine hE _ r1 ?_ ?_ ⟨(by (try dsimp only); first | omega | (simp only [List.length_nil]; omega) | (simp only [List.length_cons, List.length_nil]; omega)), (by (try dsimp only); first | omega | (simp only [List.length_nil]; omega) | (simp only [List.length_cons, List.length_nil]; omega))⟩ (by first | omega | (dsimp only; omega))
          · cbv
          · cbv
        · refine r_addf m.sX (by omega) (by omega) fun r2 hr2 => ?_
          conv => cbv
          try have tr2 : Int.toNat r2 = Int.toNat i1 + 1 := by omega
          refine hE _ r2 ?_ ?_ ⟨(by (try dsimp only); first | omega | (simp only [List.length_nil]; omega) | (simp only [List.length_cons, List.length_nil]; omega)), (by (try dsimp only); first | omega | (simp only [List.length_nil]; omega) | (simp only [List.length_cons, List.length_nil]; omega))⟩ (by first | omega | (dsimp only; omega))
          · cbv
          · cbv
      · have dz_i1 := drop_end (xs := after) (i := Int.toNat i1) (by omega)
        have tz_i1 := take_end (xs := after) (i := Int.toNat i1) (by omega)
        refine hF _ _ ?_
        conv => cbv
        exact hQ _ (congrArg PV.bool (by first | rfl | omega | (simp [*]; done) | (subst_vars; simp [*]; done)))   -- leaf 2
    · exact hQ _ (congrArg PV.bool (by first | rfl | omega | (simp [*]; done) | (subst_vars; simp [*]; done)))   -- leaf 3
  · refine r_callBT m.sX (qMarks_ok w w) (by first | assumption | exact decide_eq_true rfl | (simp [*]; done) | omega) ?_   -- h6
    conv => cbv
    exact hQ _ (congrArg PV.bool (by first | rfl | omega | (simp [*]; done) | (subst_vars; simp [*]; done)))   -- leaf 4

end

theorem lawProofs_ok (code more : List Int) (hf : ∀ x ∈ code, 0 ≤ x ∧ x ≤ 255) (hg : ∀ x ∈ more, 0 ≤ x ∧ x ≤ 255) : OkA Try.prog 3 [.isl 1 (rows cU8 code), .isl 1 (rows cU8 more)] (· = .bool true) :=
  fn_introW envOk fieldsOk mixed Try.func3 rfl (c := Try.f3.body.getD .skip) rfl fun κ X Y L Q m hQ =>
    W_cut m 7 266 [1] [] (fun _ : Unit => midProofs more) (fun _ => []) (fun _ => (more.length : Int) ≤ 9223372036854775807) (proofs_part1 m hQ code more hf) fun _ hl =>
    W_cut m 7 266 [1] [] (fun _ : Unit => midProofs more) (fun _ => []) (fun _ => True) (proofs_part2 m hQ more ⟨hl, hg⟩) fun _ _ =>
    W_last m (proofs_part3 m hQ more ⟨hl, hg⟩)


end Go.Proofs.Ytngefbdedbbplaa.Ai
