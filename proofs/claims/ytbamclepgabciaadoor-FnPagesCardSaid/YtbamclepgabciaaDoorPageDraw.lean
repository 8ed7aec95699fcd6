/- Contracts of what the laws on pages draw. -/
import Derived.Test.YtbamclepgabciaaDoorPage3
namespace Go.Proofs.YtbamclepgabciaaDoor.Ai
open Go Go.Proofs
set_option linter.unusedSimpArgs false
set_option maxRecDepth 10000
set_option maxHeartbeats 4000000
set_option linter.unusedVariables false

theorem cGalley_ok (code : List Int) (b0 t0 : Int)  (h : CurIn code) (h0 : 0 ≤ b0) (hk : b0 ≤ 899999999999700000)  : OkM Tryd.prog 67 (cCur code b0 t0) [] (fun r cs => ∃ (q : List SLine), r = .fr 35 3 (rows cSetLine q) ∧ CurTo code b0 300 cs ∧ ((q.length : Int) ≤ 41) ∧ (∀ x ∈ q, (-1 ≤ x.1 ∧ x.1 ≤ 100) ∧ (-1 ≤ x.2.1 ∧ x.2.1 ≤ 100) ∧ (-2 ≤ x.2.2 ∧ x.2.2 ≤ 100))) :=
  fnM_intro envOk fieldsOk mixed Tryd.func67 rfl fun κ X Y L Q m hQ => by
    conv => cbv
    refine r_mcall m.sX (cPick_ok code b0 t0 12 h (by omega) (by omega)) ?_
    rintro _ _ ⟨q1, rfl, ⟨a1, s1, rfl, ea1, fa1⟩, bq1, cq1, dq1⟩
    conv => cbv
    refine r_addf m.sX (by omega) (by omega) fun n hn => ?_
    conv => cbv
    refine r_mcall m.sX (cOne_ok code a1 s1 12 h (by omega) (by omega)) ?_
    rintro _ _ ⟨q2, rfl, ⟨a2, s2, rfl, ea2, fa2⟩⟩
    conv => cbv
    rcases Bool.eq_false_or_eq_true q2 with rfl | rfl <;> conv => cbv
    · refine r_mcall m.sX (cAmong_ok code a2 s2 ([0, 40, 41]) (by simp) h (by omega) (by omega)) ?_
      rintro _ _ ⟨n_2, rfl, ⟨a3, s3, rfl, ea3, fa3⟩, bn_2⟩
      simp only [List.mem_cons, List.not_mem_nil, or_false] at bn_2
      conv => cbv
      refine r_loopF (α := Int × Int × List SLine × Int) m 78 [4, 5] [⟨0, 1, 0, 0, 0⟩, ⟨3, 25, 35, 3, 0⟩] (fun σ => [(0, .optr 1 0 0 0 0), (3, .osl 25 0), (4, .int .i64 n_2), (5, .int .i64 σ.2.2.2)]) (fun σ => [(1, 0, .box (cCur code σ.1 σ.2.1)), (25, 0, .row 35 3 (rows cSetLine σ.2.2.1))])
        (fun σ => ((σ.2.2.1.length : Int) ≤ n_2) ∧ (a3 ≤ σ.1 ∧ σ.1 ≤ a3 + 6 * (σ.2.2.1.length : Int)) ∧ (0 ≤ σ.2.2.2 ∧ σ.2.2.2 ≤ σ.2.2.1.length) ∧ (∀ x ∈ σ.2.2.1, (0 ≤ x.1 ∧ x.1 ≤ 12) ∧ (0 ≤ x.2.1 ∧ x.2.1 ≤ 20) ∧ (0 ≤ x.2.2 ∧ x.2.2 ≤ 42))) (fun σ => (n_2 - (σ.2.2.1.length : Int)).toNat) (a3, s3, [], 0) ?_ ?_ ?_ ?_
      · cbv
      · (try dsimp only); simp only [rows_cons, rows_nil]; cbv
      · exact ⟨(by (try dsimp only); first | omega | (simp only [List.length_nil]; omega)), (by (try dsimp only); first | omega | (simp only [List.length_nil]; omega)), (by (try dsimp only) <;> (simp)), (by (try dsimp only) <;> (intro x hx; cases hx))⟩
      rintro ⟨a4, s4, l, paragraph⟩ ⟨ll1, cl1, pb, xb⟩ E hE F hF
      dsimp only at ll1 cl1 pb xb
      conv => cbv
      refine r_lenR m.sX fun n1 hn1 mn1 => ?_
      conv => cbv
      refine r_lss m.sX (fun h1 => ?_) (fun h1 => ?_) <;> conv => cbv
      · refine r_lenR m.sX fun n2 hn2 mn2 => ?_
        conv => cbv
        refine r_gtr m.sX (fun h2 => ?_) (fun h2 => ?_) <;> conv => cbv
        · refine r_mcall m.sX (cOne_ok code a4 s4 3 h (by omega) (by omega)) ?_
          rintro _ _ ⟨q3, rfl, ⟨a5, s5, rfl, ea5, fa5⟩⟩
          conv => cbv
          rcases Bool.eq_false_or_eq_true q3 with rfl | rfl <;> conv => cbv
          · refine r_addf m.sX (by omega) (by omega) fun paragraph_2 hparagraph_2 => ?_
            conv => cbv
            refine r_mcall m.sX (cAmong_ok code a5 s5 ([10, 10, 12]) (by simp) h (by omega) (by omega)) ?_
            rintro _ _ ⟨q4, rfl, ⟨a6, s6, rfl, ea6, fa6⟩, bq4⟩
            simp only [List.mem_cons, List.not_mem_nil, or_false] at bq4
            conv => cbv
            refine r_mcall m.sX (cAmong_ok code a6 s6 ([0, 0, 0, 8, 20]) (by simp) h (by omega) (by omega)) ?_
            rintro _ _ ⟨q5, rfl, ⟨a7, s7, rfl, ea7, fa7⟩, bq5⟩
            simp only [List.mem_cons, List.not_mem_nil, or_false] at bq5
            conv => cbv
            refine r_append1 ((q4, q5, paragraph_2)) m.sX rfl (by first | omega | (dsimp only; omega)) (by first | omega | (dsimp only; omega)) fun l_2 hl_2 => ?_
            conv => cbv
            have ll_2 : (l_2.length : Int) = l.length + 1 := by rw [hl_2]; first | done | (simp; done) | (simp; omega)
            refine hE _ (a7, s7, l_2, paragraph_2) ?_ ?_ ⟨(by (try dsimp only); first | omega | (simp only [List.length_nil]; omega)), (by (try dsimp only); first | omega | (simp only [List.length_nil]; omega)), (by (try dsimp only) <;> first | omega | rfl | (simp [*]; done) | (rw [pb]; simp [*]; done)), (by (try dsimp only) <;> (rw [hl_2]; intro x hx; rcases List.mem_append.1 hx with hx | hx; exact xb x hx; rw [List.mem_singleton.1 hx]; dsimp only; omega))⟩ (by first | omega | (dsimp only; omega))
            · cbv
            · cbv
          · refine r_mcall m.sX (cAmong_ok code a5 s5 ([10, 10, 12]) (by simp) h (by omega) (by omega)) ?_
            rintro _ _ ⟨q6, rfl, ⟨a8, s8, rfl, ea8, fa8⟩, bq6⟩
            simp only [List.mem_cons, List.not_mem_nil, or_false] at bq6
            conv => cbv
            refine r_mcall m.sX (cAmong_ok code a8 s8 ([0, 0, 0, 8, 20]) (by simp) h (by omega) (by omega)) ?_
            rintro _ _ ⟨q7, rfl, ⟨a9, s9, rfl, ea9, fa9⟩, bq7⟩
            simp only [List.mem_cons, List.not_mem_nil, or_false] at bq7
            conv => cbv
            refine r_append1 ((q6, q7, paragraph)) m.sX rfl (by first | omega | (dsimp only; omega)) (by first | omega | (dsimp only; omega)) fun l_3 hl_3 => ?_
            conv => cbv
            have ll_3 : (l_3.length : Int) = l.length + 1 := by rw [hl_3]; first | done | (simp; done) | (simp; omega)
            refine hE _ (a9, s9, l_3, paragraph) ?_ ?_ ⟨(by (try dsimp only); first | omega | (simp only [List.length_nil]; omega)), (by (try dsimp only); first | omega | (simp only [List.length_nil]; omega)), (by (try dsimp only) <;> first | omega | rfl | (simp [*]; done) | (rw [pb]; simp [*]; done)), (by (try dsimp only) <;> (rw [hl_3]; intro x hx; rcases List.mem_append.1 hx with hx | hx; exact xb x hx; rw [List.mem_singleton.1 hx]; dsimp only; omega))⟩ (by first | omega | (dsimp only; omega))
            · cbv
            · cbv
        · refine r_mcall m.sX (cAmong_ok code a4 s4 ([10, 10, 12]) (by simp) h (by omega) (by omega)) ?_
          rintro _ _ ⟨q8, rfl, ⟨a10, s10, rfl, ea10, fa10⟩, bq8⟩
          simp only [List.mem_cons, List.not_mem_nil, or_false] at bq8
          conv => cbv
          refine r_mcall m.sX (cAmong_ok code a10 s10 ([0, 0, 0, 8, 20]) (by simp) h (by omega) (by omega)) ?_
          rintro _ _ ⟨q9, rfl, ⟨a11, s11, rfl, ea11, fa11⟩, bq9⟩
          simp only [List.mem_cons, List.not_mem_nil, or_false] at bq9
          conv => cbv
          refine r_append1 ((q8, q9, paragraph)) m.sX rfl (by first | omega | (dsimp only; omega)) (by first | omega | (dsimp only; omega)) fun l_4 hl_4 => ?_
          conv => cbv
          have ll_4 : (l_4.length : Int) = l.length + 1 := by rw [hl_4]; first | done | (simp; done) | (simp; omega)
          refine hE _ (a11, s11, l_4, paragraph) ?_ ?_ ⟨(by (try dsimp only); first | omega | (simp only [List.length_nil]; omega)), (by (try dsimp only); first | omega | (simp only [List.length_nil]; omega)), (by (try dsimp only) <;> first | omega | rfl | (simp [*]; done) | (rw [pb]; simp [*]; done)), (by (try dsimp only) <;> (rw [hl_4]; intro x hx; rcases List.mem_append.1 hx with hx | hx; exact xb x hx; rw [List.mem_singleton.1 hx]; dsimp only; omega))⟩ (by first | omega | (dsimp only; omega))
          · cbv
          · cbv
      · refine hF _ _ ?_
        conv => cbv
        refine r_gtr m.sX (fun h3 => ?_) (fun h3 => ?_) <;> conv => cbv
        · refine r_mcall m.sX (cPick_ok code a4 s4 n_2 h (by omega) (by omega)) ?_
          rintro _ _ ⟨k, rfl, ⟨a12, s12, rfl, ea12, fa12⟩, bk, ck, dk⟩
          conv => cbv
          refine r_mcall m.sX (cPick_ok code a12 s12 24 h (by omega) (by omega)) ?_
          rintro _ _ ⟨q10, rfl, ⟨a13, s13, rfl, ea13, fa13⟩, bq10, cq10, dq10⟩
          conv => cbv
          refine r_eql m.sX (fun h4 => ?_) (fun h4 => ?_) <;> conv => cbv
          · refine r_mcall m.sX (cAmong_ok code a13 s13 ([1, 40, 41, 0]) (by simp) h (by omega) (by omega)) ?_
            rintro _ _ ⟨q11, rfl, ⟨a14, s14, rfl, ea14, fa14⟩, bq11⟩
            simp only [List.mem_cons, List.not_mem_nil, or_false] at bq11
            conv => cbv
            refine r_oindex m.sX (by omega) (by omega) ?_
            conv => cbv
            obtain ⟨⟨y1A, y1B, y1C⟩, hy1⟩ := get_ex (xs := l) (i := Int.toNat k) (by omega)
            refine r_ostore (l := Int.toNat k) (q11, y1B, y1C) m.sX hy1 (Nat.le_of_ble_eq_true rfl) rfl fun l_5 hl_5 => ?_   -- l_5 = l.set k (q11, y1B, y1C)
            have ll_5 : (l_5.length : Int) = l.length := by rw [hl_5]; first | done | (simp; done) | (simp; omega)
            conv => cbv
            exact hQ (.fr 35 3 (rows cSetLine l_5)) (cCur code a14 s14) ⟨l_5, rfl, ⟨a14, s14, rfl, by omega, by omega⟩, (by first | omega | (rw [hl_5]; intro x hx; rcases List.mem_or_eq_of_mem_set hx with hx | rfl; have := xb x hx; omega; have := xb _ (get_mem hy1); dsimp only at this ⊢; omega)), (by first | omega | (rw [hl_5]; intro x hx; rcases List.mem_or_eq_of_mem_set hx with hx | rfl; have := xb x hx; omega; have := xb _ (get_mem hy1); dsimp only at this ⊢; omega))⟩   -- leaf 1
          · refine r_eql m.sX (fun h5 => ?_) (fun h5 => ?_) <;> conv => cbv
            · refine r_mcall m.sX (cAmong_ok code a13 s13 ([60, 61, -1]) (by simp) h (by omega) (by omega)) ?_
              rintro _ _ ⟨q12, rfl, ⟨a15, s15, rfl, ea15, fa15⟩, bq12⟩
              simp only [List.mem_cons, List.not_mem_nil, or_false] at bq12
              conv => cbv
              refine r_oindex m.sX (by omega) (by omega) ?_
              conv => cbv
              obtain ⟨⟨y2A, y2B, y2C⟩, hy2⟩ := get_ex (xs := l) (i := Int.toNat k) (by omega)
              refine r_ostore (l := Int.toNat k) (y2A, q12, y2C) m.sX hy2 (Nat.le_of_ble_eq_true rfl) rfl fun l_6 hl_6 => ?_   -- l_6 = l.set k (y2A, q12, y2C)
              have ll_6 : (l_6.length : Int) = l.length := by rw [hl_6]; first | done | (simp; done) | (simp; omega)
              conv => cbv
              exact hQ (.fr 35 3 (rows cSetLine l_6)) (cCur code a15 s15) ⟨l_6, rfl, ⟨a15, s15, rfl, by omega, by omega⟩, (by first | omega | (rw [hl_6]; intro x hx; rcases List.mem_or_eq_of_mem_set hx with hx | rfl; have := xb x hx; omega; have := xb _ (get_mem hy2); dsimp only at this ⊢; omega)), (by first | omega | (rw [hl_6]; intro x hx; rcases List.mem_or_eq_of_mem_set hx with hx | rfl; have := xb x hx; omega; have := xb _ (get_mem hy2); dsimp only at this ⊢; omega))⟩   -- leaf 2
            · refine r_eql m.sX (fun h6 => ?_) (fun h6 => ?_) <;> conv => cbv
              · refine r_draw m (by kernel_rfl) ?_
                conv => cbv
                refine r_oindex m.sY (by omega) (by omega) ?_
                conv => cbv
                obtain ⟨⟨x1A, x1B, x1C⟩, hx1⟩ := get_ex (xs := l) (i := Int.toNat k) (by omega)
                have mx1 := get_mem hx1
                have bx := xb _ mx1
                try dsimp only at bx
                refine r_oload m.sY hx1 (Nat.le_of_ble_eq_true rfl) ?_
                conv => cbv
                refine r_mcallS m.sY (cAmong_ok code a13 s13 ([1, 2, -1]) (by simp) h (by omega) (by omega)) (cAmong_ex code a13 s13 ([1, 2, -1]) (by simp)) (by rintro _ _ ⟨_, rfl, _⟩; first | trivial | (intro x hx; simp at hx; rcases hx with rfl | rfl | rfl <;> trivial)) ?_
                rintro _ _ ⟨q13, rfl, ⟨a16, s16, rfl, ea16, fa16⟩, bq13⟩
                simp only [List.mem_cons, List.not_mem_nil, or_false] at bq13
                conv => cbv
                refine r_addf m.sY (by omega) (by omega) fun r1 hr1 => ?_
                conv => cbv
                refine r_oindex m.sY (by omega) (by omega) ?_
                conv => cbv
                obtain ⟨⟨y3A, y3B, y3C⟩, hy3⟩ := get_ex (xs := l) (i := Int.toNat k) (by omega)
                refine r_ostore (l := Int.toNat k) (y3A, y3B, r1) m.sY hy3 (Nat.le_of_ble_eq_true rfl) rfl fun l_7 hl_7 => ?_   -- l_7 = l.set k (y3A, y3B, r1)
                have ll_7 : (l_7.length : Int) = l.length := by rw [hl_7]; first | done | (simp; done) | (simp; omega)
                conv => cbv
                exact hQ (.fr 35 3 (rows cSetLine l_7)) (cCur code a16 s16) ⟨l_7, rfl, ⟨a16, s16, rfl, by omega, by omega⟩, (by first | omega | (rw [hl_7]; intro x hx; rcases List.mem_or_eq_of_mem_set hx with hx | rfl; have := xb x hx; omega; have := xb _ (get_mem hy3); dsimp only at this ⊢; omega)), (by first | omega | (rw [hl_7]; intro x hx; rcases List.mem_or_eq_of_mem_set hx with hx | rfl; have := xb x hx; omega; have := xb _ (get_mem hy3); dsimp only at this ⊢; omega))⟩   -- leaf 3
              · exact hQ (.fr 35 3 (rows cSetLine l)) (cCur code a13 s13) ⟨l, rfl, ⟨a13, s13, rfl, by omega, by omega⟩, (by first | omega | (intro x hx; have := xb x hx; omega)), (by first | omega | (intro x hx; have := xb x hx; omega))⟩   -- leaf 4
        · exact hQ (.fr 35 3 (rows cSetLine l)) (cCur code a4 s4) ⟨l, rfl, ⟨a4, s4, rfl, by omega, by omega⟩, (by first | omega | (intro x hx; have := xb x hx; omega)), (by first | omega | (intro x hx; have := xb x hx; omega))⟩   -- leaf 5
    · refine r_loopF (α := Int × Int × List SLine × Int) m 78 [4, 5] [⟨0, 1, 0, 0, 0⟩, ⟨3, 25, 35, 3, 0⟩] (fun σ => [(0, .optr 1 0 0 0 0), (3, .osl 25 0), (4, .int .i64 n), (5, .int .i64 σ.2.2.2)]) (fun σ => [(1, 0, .box (cCur code σ.1 σ.2.1)), (25, 0, .row 35 3 (rows cSetLine σ.2.2.1))])
        (fun σ => ((σ.2.2.1.length : Int) ≤ n) ∧ (a2 ≤ σ.1 ∧ σ.1 ≤ a2 + 6 * (σ.2.2.1.length : Int)) ∧ (0 ≤ σ.2.2.2 ∧ σ.2.2.2 ≤ σ.2.2.1.length) ∧ (∀ x ∈ σ.2.2.1, (0 ≤ x.1 ∧ x.1 ≤ 12) ∧ (0 ≤ x.2.1 ∧ x.2.1 ≤ 20) ∧ (0 ≤ x.2.2 ∧ x.2.2 ≤ 42))) (fun σ => (n - (σ.2.2.1.length : Int)).toNat) (a2, s2, [], 0) ?_ ?_ ?_ ?_
      · cbv
      · (try dsimp only); simp only [rows_cons, rows_nil]; cbv
      · exact ⟨(by (try dsimp only); first | omega | (simp only [List.length_nil]; omega)), (by (try dsimp only); first | omega | (simp only [List.length_nil]; omega)), (by (try dsimp only) <;> (simp)), (by (try dsimp only) <;> (intro x hx; cases hx))⟩
      rintro ⟨a17, s17, l_8, paragraph_3⟩ ⟨ll2, cl2, pb, xb⟩ E hE F hF
      dsimp only at ll2 cl2 pb xb
      conv => cbv
      refine r_lenR m.sX fun n3 hn3 mn3 => ?_
      conv => cbv
      refine r_lss m.sX (fun h7 => ?_) (fun h7 => ?_) <;> conv => cbv
      · refine r_lenR m.sX fun n4 hn4 mn4 => ?_
        conv => cbv
        refine r_gtr m.sX (fun h8 => ?_) (fun h8 => ?_) <;> conv => cbv
        · refine r_mcall m.sX (cOne_ok code a17 s17 3 h (by omega) (by omega)) ?_
          rintro _ _ ⟨q14, rfl, ⟨a18, s18, rfl, ea18, fa18⟩⟩
          conv => cbv
          rcases Bool.eq_false_or_eq_true q14 with rfl | rfl <;> conv => cbv
          · refine r_addf m.sX (by omega) (by omega) fun paragraph_4 hparagraph_4 => ?_
            conv => cbv
            refine r_mcall m.sX (cAmong_ok code a18 s18 ([10, 10, 12]) (by simp) h (by omega) (by omega)) ?_
            rintro _ _ ⟨q15, rfl, ⟨a19, s19, rfl, ea19, fa19⟩, bq15⟩
            simp only [List.mem_cons, List.not_mem_nil, or_false] at bq15
            conv => cbv
            refine r_mcall m.sX (cAmong_ok code a19 s19 ([0, 0, 0, 8, 20]) (by simp) h (by omega) (by omega)) ?_
            rintro _ _ ⟨q16, rfl, ⟨a20, s20, rfl, ea20, fa20⟩, bq16⟩
            simp only [List.mem_cons, List.not_mem_nil, or_false] at bq16
            conv => cbv
            refine r_append1 ((q15, q16, paragraph_4)) m.sX rfl (by first | omega | (dsimp only; omega)) (by first | omega | (dsimp only; omega)) fun l_9 hl_9 => ?_
            conv => cbv
            have ll_9 : (l_9.length : Int) = l_8.length + 1 := by rw [hl_9]; first | done | (simp; done) | (simp; omega)
            refine hE _ (a20, s20, l_9, paragraph_4) ?_ ?_ ⟨(by (try dsimp only); first | omega | (simp only [List.length_nil]; omega)), (by (try dsimp only); first | omega | (simp only [List.length_nil]; omega)), (by (try dsimp only) <;> first | omega | rfl | (simp [*]; done) | (rw [pb]; simp [*]; done)), (by (try dsimp only) <;> (rw [hl_9]; intro x hx; rcases List.mem_append.1 hx with hx | hx; exact xb x hx; rw [List.mem_singleton.1 hx]; dsimp only; omega))⟩ (by first | omega | (dsimp only; omega))
            · cbv
            · cbv
          · refine r_mcall m.sX (cAmong_ok code a18 s18 ([10, 10, 12]) (by simp) h (by omega) (by omega)) ?_
            rintro _ _ ⟨q17, rfl, ⟨a21, s21, rfl, ea21, fa21⟩, bq17⟩
            simp only [List.mem_cons, List.not_mem_nil, or_false] at bq17
            conv => cbv
            refine r_mcall m.sX (cAmong_ok code a21 s21 ([0, 0, 0, 8, 20]) (by simp) h (by omega) (by omega)) ?_
            rintro _ _ ⟨q18, rfl, ⟨a22, s22, rfl, ea22, fa22⟩, bq18⟩
            simp only [List.mem_cons, List.not_mem_nil, or_false] at bq18
            conv => cbv
            refine r_append1 ((q17, q18, paragraph_3)) m.sX rfl (by first | omega | (dsimp only; omega)) (by first | omega | (dsimp only; omega)) fun l_10 hl_10 => ?_
            conv => cbv
            have ll_10 : (l_10.length : Int) = l_8.length + 1 := by rw [hl_10]; first | done | (simp; done) | (simp; omega)
            refine hE _ (a22, s22, l_10, paragraph_3) ?_ ?_ ⟨(by (try dsimp only); first | omega | (simp only [List.length_nil]; omega)), (by (try dsimp only); first | omega | (simp only [List.length_nil]; omega)), (by (try dsimp only) <;> first | omega | rfl | (simp [*]; done) | (rw [pb]; simp [*]; done)), (by (try dsimp only) <;> (rw [hl_10]; intro x hx; rcases List.mem_append.1 hx with hx | hx; exact xb x hx; rw [List.mem_singleton.1 hx]; dsimp only; omega))⟩ (by first | omega | (dsimp only; omega))
            · cbv
            · cbv
        · refine r_mcall m.sX (cAmong_ok code a17 s17 ([10, 10, 12]) (by simp) h (by omega) (by omega)) ?_
          rintro _ _ ⟨q19, rfl, ⟨a23, s23, rfl, ea23, fa23⟩, bq19⟩
          simp only [List.mem_cons, List.not_mem_nil, or_false] at bq19
          conv => cbv
          refine r_mcall m.sX (cAmong_ok code a23 s23 ([0, 0, 0, 8, 20]) (by simp) h (by omega) (by omega)) ?_
          rintro _ _ ⟨q20, rfl, ⟨a24, s24, rfl, ea24, fa24⟩, bq20⟩
          simp only [List.mem_cons, List.not_mem_nil, or_false] at bq20
          conv => cbv
          refine r_append1 ((q19, q20, paragraph_3)) m.sX rfl (by first | omega | (dsimp only; omega)) (by first | omega | (dsimp only; omega)) fun l_11 hl_11 => ?_
          conv => cbv
          have ll_11 : (l_11.length : Int) = l_8.length + 1 := by rw [hl_11]; first | done | (simp; done) | (simp; omega)
          refine hE _ (a24, s24, l_11, paragraph_3) ?_ ?_ ⟨(by (try dsimp only); first | omega | (simp only [List.length_nil]; omega)), (by (try dsimp only); first | omega | (simp only [List.length_nil]; omega)), (by (try dsimp only) <;> first | omega | rfl | (simp [*]; done) | (rw [pb]; simp [*]; done)), (by (try dsimp only) <;> (rw [hl_11]; intro x hx; rcases List.mem_append.1 hx with hx | hx; exact xb x hx; rw [List.mem_singleton.1 hx]; dsimp only; omega))⟩ (by first | omega | (dsimp only; omega))
          · cbv
          · cbv
      · refine hF _ _ ?_
        conv => cbv
        refine r_gtr m.sX (fun h9 => ?_) (fun h9 => ?_) <;> conv => cbv
        · refine r_mcall m.sX (cPick_ok code a17 s17 n h (by omega) (by omega)) ?_
          rintro _ _ ⟨k_2, rfl, ⟨a25, s25, rfl, ea25, fa25⟩, bk_2, ck_2, dk_2⟩
          conv => cbv
          refine r_mcall m.sX (cPick_ok code a25 s25 24 h (by omega) (by omega)) ?_
          rintro _ _ ⟨q21, rfl, ⟨a26, s26, rfl, ea26, fa26⟩, bq21, cq21, dq21⟩
          conv => cbv
          refine r_eql m.sX (fun h10 => ?_) (fun h10 => ?_) <;> conv => cbv
          · refine r_mcall m.sX (cAmong_ok code a26 s26 ([1, 40, 41, 0]) (by simp) h (by omega) (by omega)) ?_
            rintro _ _ ⟨q22, rfl, ⟨a27, s27, rfl, ea27, fa27⟩, bq22⟩
            simp only [List.mem_cons, List.not_mem_nil, or_false] at bq22
            conv => cbv
            refine r_oindex m.sX (by omega) (by omega) ?_
            conv => cbv
            obtain ⟨⟨y4A, y4B, y4C⟩, hy4⟩ := get_ex (xs := l_8) (i := Int.toNat k_2) (by omega)
            refine r_ostore (l := Int.toNat k_2) (q22, y4B, y4C) m.sX hy4 (Nat.le_of_ble_eq_true rfl) rfl fun l_12 hl_12 => ?_   -- l_12 = l_8.set k_2 (q22, y4B, y4C)
            have ll_12 : (l_12.length : Int) = l_8.length := by rw [hl_12]; first | done | (simp; done) | (simp; omega)
            conv => cbv
            exact hQ (.fr 35 3 (rows cSetLine l_12)) (cCur code a27 s27) ⟨l_12, rfl, ⟨a27, s27, rfl, by omega, by omega⟩, (by first | omega | (rw [hl_12]; intro x hx; rcases List.mem_or_eq_of_mem_set hx with hx | rfl; have := xb x hx; omega; have := xb _ (get_mem hy4); dsimp only at this ⊢; omega)), (by first | omega | (rw [hl_12]; intro x hx; rcases List.mem_or_eq_of_mem_set hx with hx | rfl; have := xb x hx; omega; have := xb _ (get_mem hy4); dsimp only at this ⊢; omega))⟩   -- leaf 6
          · refine r_eql m.sX (fun h11 => ?_) (fun h11 => ?_) <;> conv => cbv
            · refine r_mcall m.sX (cAmong_ok code a26 s26 ([60, 61, -1]) (by simp) h (by omega) (by omega)) ?_
              rintro _ _ ⟨q23, rfl, ⟨a28, s28, rfl, ea28, fa28⟩, bq23⟩
              simp only [List.mem_cons, List.not_mem_nil, or_false] at bq23
              conv => cbv
              refine r_oindex m.sX (by omega) (by omega) ?_
              conv => cbv
              obtain ⟨⟨y5A, y5B, y5C⟩, hy5⟩ := get_ex (xs := l_8) (i := Int.toNat k_2) (by omega)
              refine r_ostore (l := Int.toNat k_2) (y5A, q23, y5C) m.sX hy5 (Nat.le_of_ble_eq_true rfl) rfl fun l_13 hl_13 => ?_   -- l_13 = l_8.set k_2 (y5A, q23, y5C)
              have ll_13 : (l_13.length : Int) = l_8.length := by rw [hl_13]; first | done | (simp; done) | (simp; omega)
              conv => cbv
              exact hQ (.fr 35 3 (rows cSetLine l_13)) (cCur code a28 s28) ⟨l_13, rfl, ⟨a28, s28, rfl, by omega, by omega⟩, (by first | omega | (rw [hl_13]; intro x hx; rcases List.mem_or_eq_of_mem_set hx with hx | rfl; have := xb x hx; omega; have := xb _ (get_mem hy5); dsimp only at this ⊢; omega)), (by first | omega | (rw [hl_13]; intro x hx; rcases List.mem_or_eq_of_mem_set hx with hx | rfl; have := xb x hx; omega; have := xb _ (get_mem hy5); dsimp only at this ⊢; omega))⟩   -- leaf 7
            · refine r_eql m.sX (fun h12 => ?_) (fun h12 => ?_) <;> conv => cbv
              · refine r_draw m (by kernel_rfl) ?_
                conv => cbv
                refine r_oindex m.sY (by omega) (by omega) ?_
                conv => cbv
                obtain ⟨⟨x2A, x2B, x2C⟩, hx2⟩ := get_ex (xs := l_8) (i := Int.toNat k_2) (by omega)
                have mx2 := get_mem hx2
                have bx := xb _ mx2
                try dsimp only at bx
                refine r_oload m.sY hx2 (Nat.le_of_ble_eq_true rfl) ?_
                conv => cbv
                refine r_mcallS m.sY (cAmong_ok code a26 s26 ([1, 2, -1]) (by simp) h (by omega) (by omega)) (cAmong_ex code a26 s26 ([1, 2, -1]) (by simp)) (by rintro _ _ ⟨_, rfl, _⟩; first | trivial | (intro x hx; simp at hx; rcases hx with rfl | rfl | rfl <;> trivial)) ?_
                rintro _ _ ⟨q24, rfl, ⟨a29, s29, rfl, ea29, fa29⟩, bq24⟩
                simp only [List.mem_cons, List.not_mem_nil, or_false] at bq24
                conv => cbv
                refine r_addf m.sY (by omega) (by omega) fun r2 hr2 => ?_
                conv => cbv
                refine r_oindex m.sY (by omega) (by omega) ?_
                conv => cbv
                obtain ⟨⟨y6A, y6B, y6C⟩, hy6⟩ := get_ex (xs := l_8) (i := Int.toNat k_2) (by omega)
                refine r_ostore (l := Int.toNat k_2) (y6A, y6B, r2) m.sY hy6 (Nat.le_of_ble_eq_true rfl) rfl fun l_14 hl_14 => ?_   -- l_14 = l_8.set k_2 (y6A, y6B, r2)
                have ll_14 : (l_14.length : Int) = l_8.length := by rw [hl_14]; first | done | (simp; done) | (simp; omega)
                conv => cbv
                exact hQ (.fr 35 3 (rows cSetLine l_14)) (cCur code a29 s29) ⟨l_14, rfl, ⟨a29, s29, rfl, by omega, by omega⟩, (by first | omega | (rw [hl_14]; intro x hx; rcases List.mem_or_eq_of_mem_set hx with hx | rfl; have := xb x hx; omega; have := xb _ (get_mem hy6); dsimp only at this ⊢; omega)), (by first | omega | (rw [hl_14]; intro x hx; rcases List.mem_or_eq_of_mem_set hx with hx | rfl; have := xb x hx; omega; have := xb _ (get_mem hy6); dsimp only at this ⊢; omega))⟩   -- leaf 8
              · exact hQ (.fr 35 3 (rows cSetLine l_8)) (cCur code a26 s26) ⟨l_8, rfl, ⟨a26, s26, rfl, by omega, by omega⟩, (by first | omega | (intro x hx; have := xb x hx; omega)), (by first | omega | (intro x hx; have := xb x hx; omega))⟩   -- leaf 9
        · exact hQ (.fr 35 3 (rows cSetLine l_8)) (cCur code a17 s17) ⟨l_8, rfl, ⟨a17, s17, rfl, by omega, by omega⟩, (by first | omega | (intro x hx; have := xb x hx; omega)), (by first | omega | (intro x hx; have := xb x hx; omega))⟩   -- leaf 10

theorem cGalley_ex (code : List Int) (b0 t0 : Int) : ∃ r cs, (∃ (q : List SLine), r = PV.fr 35 3 (rows cSetLine q) ∧ CurTo code b0 300 cs ∧ ((q.length : Int) ≤ 41) ∧ (∀ x ∈ q, (-1 ≤ x.1 ∧ x.1 ≤ 100) ∧ (-1 ≤ x.2.1 ∧ x.2.1 ≤ 100) ∧ (-2 ≤ x.2.2 ∧ x.2.2 ≤ 100))) :=
  ⟨_, _, [], rfl, ⟨b0, t0, rfl, by omega, by omega⟩, (by first | omega | simp), (by first | omega | simp)⟩

theorem cPageDepth_ok (code : List Int) (b0 t0 : Int)  (h : CurIn code) (h0 : 0 ≤ b0) (hk : b0 ≤ 899999999999980000)  : OkM Tryd.prog 68 (cCur code b0 t0) [] (fun r cs => ∃ (q : Int), r = .int .i64 q ∧ CurTo code b0 20 cs) :=
  fnM_intro envOk fieldsOk mixed Tryd.func68 rfl fun κ X Y L Q m hQ => by
    conv => cbv
    refine r_mcall m.sX (cAmong_ok code b0 t0 ([45, 39, 2001]) (by simp) h (by omega) (by omega)) ?_
    rintro _ _ ⟨q1, rfl, ⟨a1, s1, rfl, ea1, fa1⟩, bq1⟩
    simp only [List.mem_cons, List.not_mem_nil, or_false] at bq1
    conv => cbv
    refine r_mcall m.sX (cAmong_ok code a1 s1 ([40, 50, 60, 64, 100, 2000, q1]) (by simp) h (by omega) (by omega)) ?_
    rintro _ _ ⟨q2, rfl, ⟨a2, s2, rfl, ea2, fa2⟩, bq2⟩
    simp only [List.mem_cons, List.not_mem_nil, or_false] at bq2
    conv => cbv
    exact hQ (.int .i64 q2) (cCur code a2 s2) ⟨q2, rfl, ⟨a2, s2, rfl, by omega, by omega⟩⟩   -- leaf 1

theorem cPageDepth_ex (code : List Int) (b0 t0 : Int) : ∃ r cs, (∃ (q : Int), r = PV.int .i64 q ∧ CurTo code b0 20 cs) :=
  ⟨_, _, 0, rfl, ⟨b0, t0, rfl, by omega, by omega⟩⟩

theorem drawPageFill_ok (code : List Int) (h : CurIn code) : OkA Tryd.prog 8 [.isl 1 (rows cU8 code)] (fun r => ∃ (q1 : List SLine) (q2 : Int), r = .tup [.fr 35 3 (rows cSetLine q1), .int .i64 q2] ∧ ((q1.length : Int) ≤ 41) ∧ (∀ x ∈ q1, (-1 ≤ x.1 ∧ x.1 ≤ 100) ∧ (-1 ≤ x.2.1 ∧ x.2.1 ≤ 100) ∧ (-2 ≤ x.2.2 ∧ x.2.2 ≤ 100))) :=
  fn_intro envOk fieldsOk mixed Tryd.func8 rfl fun κ X Y L Q m hQ => by
    conv => cbv
    refine r_mcall m.sX (cGalley_ok code 0 0 h (by omega) (by omega)) ?_
    rintro _ _ ⟨q1, rfl, ⟨a1, s1, rfl, ea1, fa1⟩, bq1_1, bq1_2⟩
    conv => cbv
    refine r_mcall m.sX (cPageDepth_ok code a1 s1 h (by omega) (by omega)) ?_
    rintro _ _ ⟨q2, rfl, ⟨a2, s2, rfl, ea2, fa2⟩⟩
    conv => cbv
    exact hQ (.tup [.fr 35 3 (rows cSetLine q1), .int .i64 q2]) ⟨q1, q2, rfl, (by first | omega | assumption | (simp; done) | (simp [*]; done) | (simp at *; omega)), (by first | omega | assumption | (simp; done) | (simp [*]; done) | (simp at *; omega))⟩   -- leaf 1

theorem cEnds_ex (code : List Int) (b0 t0 : Int) : ∃ r cs, (∃ (q : List Int), r = PV.fr 3 1 (rows cInt q) ∧ CurTo code b0 200 cs ∧ (q.length ≤ 50)) :=
  ⟨_, _, [], rfl, ⟨b0, t0, rfl, by omega, by omega⟩, (by first | omega | simp)⟩

end Go.Proofs.YtbamclepgabciaaDoor.Ai
