/- Contracts of what the law on rules draws. -/
import Derived.Test.YtpjmpgbgglhoeaaRule
namespace Go.Proofs.Ytpjmpgbgglhoeaa.Ai
open Go Go.Proofs
set_option maxRecDepth 10000
set_option maxHeartbeats 4000000
set_option linter.unusedVariables false

theorem cStock_ok (code : List Int) (b0 t0 : Int)  (h : CurIn code) (h0 : 0 ≤ b0) (hk : b0 ≤ 899999999999940000)  : OkM Try.prog 280 (cCur code b0 t0) [] (fun r cs => ∃ (q : List Slip), r = .fr 230 2 (rows cSlip q) ∧ CurTo code b0 60 cs ∧ (q.length ≤ 9) ∧ (∀ x ∈ q, -1 ≤ x.2 ∧ x.2 ≤ 1000)) :=
  fnM_intro envOk fieldsOk mixed Try.func280 rfl fun κ X Y L Q m hQ => by
    conv => cbv
    refine r_mcall m.sX (cPick_ok code b0 t0 5 h (by omega) (by omega)) ?_
    rintro _ _ ⟨n, rfl, ⟨a1, s1, rfl, ea1, fa1⟩, bn, cn, dn⟩
    conv => cbv
    refine r_loopF (α := Int × Int × List Slip × Int) m 64 [4] [⟨0, 1, 0, 0, 0⟩, ⟨3, 25, 230, 2, 0⟩] (fun σ => [(0, .optr 1 0 0 0 0), (3, .osl 25 0), (4, .int .i64 σ.2.2.2)]) (fun σ => [(1, 0, .box (cCur code σ.1 σ.2.1)), (25, 0, .row 230 2 (rows cSlip σ.2.2.1))])
      (fun σ => (0 ≤ σ.2.2.2 ∧ σ.2.2.2 ≤ n) ∧ (b0 ≤ σ.1 ∧ σ.1 ≤ b0 + 2 + 4 * (n - σ.2.2.2)) ∧ ((σ.2.2.1.length : Int) ≤ n - σ.2.2.2) ∧ (∀ x ∈ σ.2.2.1, 0 ≤ x.2 ∧ x.2 ≤ 5 * (n - σ.2.2.2))) (fun σ => σ.2.2.2.toNat) (a1, s1, [], n) ?_ ?_ ?_ ?_
    · cbv
    · (try dsimp only); simp only [rows_cons, rows_nil]; cbv
    · exact ⟨(by (try dsimp only) <;> first | omega | rfl | (simp [*]; done)), (by (try dsimp only) <;> first | omega | rfl | (simp [*]; done)), (by (try dsimp only) <;> first | omega | rfl | (simp [*]; done)), (by (try dsimp only) <;> (intro x hx; cases hx))⟩
    rintro ⟨a2, s2, l, n_2⟩ ⟨nb, cu, ln, xb⟩ E hE F hF
    dsimp only at nb cu ln xb
    conv => cbv
    refine r_gtr m.sX (fun h1 => ?_) (fun h1 => ?_) <;> conv => cbv
    · refine r_mcall m.sX (cAmong_ok code a2 s2 ([3, 5, 6, 10, 12, 18, 30, 40, 200]) (by simp) h (by omega) (by omega)) ?_
      rintro _ _ ⟨q1, rfl, ⟨a3, s3, rfl, ea3, fa3⟩, bq1⟩
      simp only [List.mem_cons, List.not_mem_nil, or_false] at bq1
      conv => cbv
      refine r_mcall m.sX (cPick_ok code a3 s3 6 h (by omega) (by omega)) ?_
      rintro _ _ ⟨q2, rfl, ⟨a4, s4, rfl, ea4, fa4⟩, bq2, cq2, dq2⟩
      have xb1 : ∀ x ∈ l, 0 ≤ x.2 ∧ x.2 ≤ 1000000 := fun x hx => by have := xb x hx; omega
      conv => cbv
      refine .inr (r_pcallE m.sX (ruPut_ok l q1 q2 (by first | rfl | assumption | omega | (simp only [List.length_append, List.length_cons, List.length_nil] at *; omega)) (by first | rfl | assumption | omega | (simp only [List.length_append, List.length_cons, List.length_nil] at *; omega)) (by first | rfl | assumption | omega | (simp only [List.length_append, List.length_cons, List.length_nil] at *; omega))) ?_)
      rintro _ ⟨l_2, rfl, bl_2_1, bl_2_2⟩
      have xb2 := bl_2_2 (5 * (n - n_2)) (by omega) xb
      conv => cbv
      refine r_subf m.sX (by omega) (by omega) fun n_3 hn_3 => ?_
      conv => cbv
      refine hE _ (a4, s4, l_2, n_3) ?_ ?_ ⟨(by (try dsimp only) <;> first | omega | rfl | (simp [*]; done) | (rw [nb]; simp [*]; done)), (by (try dsimp only) <;> first | omega | rfl | (simp [*]; done) | (rw [cu]; simp [*]; done)), (by (try dsimp only) <;> first | omega | rfl | (simp [*]; done) | (rw [ln]; simp [*]; done)), (by (try dsimp only) <;> (intro x hx; have := xb2 x hx; omega))⟩ (by first | omega | (dsimp only; omega))
      · cbv
      · cbv
    · refine hF _ _ ?_
      conv => cbv
      refine r_mcall m.sX (cPick_ok code a2 s2 24 h (by omega) (by omega)) ?_
      rintro _ _ ⟨q3, rfl, ⟨a5, s5, rfl, ea5, fa5⟩, bq3, cq3, dq3⟩
      conv => cbv
      refine r_eql m.sX (fun h2 => ?_) (fun h2 => ?_) <;> conv => cbv
      · refine r_mcall m.sX (cPick_ok code a5 s5 2 h (by omega) (by omega)) ?_
        rintro _ _ ⟨q4, rfl, ⟨a6, s6, rfl, ea6, fa6⟩, bq4, cq4, dq4⟩
        conv => cbv
        refine r_addf m.sX (by omega) (by omega) fun n_4 hn_4 => ?_
        conv => cbv
        refine r_loopF (α := Int × Int × List Slip) m 64 [5] [⟨0, 1, 0, 0, 0⟩, ⟨3, 25, 230, 2, 0⟩] (fun σ => [(0, .optr 1 0 0 0 0), (3, .osl 25 0), (5, .int .i64 n_4)]) (fun σ => [(1, 0, .box (cCur code σ.1 σ.2.1)), (25, 0, .row 230 2 (rows cSlip σ.2.2))])
          (fun σ => ((σ.2.2.length : Int) ≤ n_4) ∧ (a6 ≤ σ.1 ∧ σ.1 ≤ a6 + 2 * (σ.2.2.length : Int)) ∧ (∀ x ∈ σ.2.2, -1 ≤ x.2 ∧ x.2 ≤ 1000)) (fun σ => (n_4 - (σ.2.2.length : Int)).toNat) (a6, s6, []) ?_ ?_ ?_ ?_
        · cbv
        · (try dsimp only); simp only [rows_cons, rows_nil]; cbv
        · exact ⟨(by (try dsimp only); first | omega | (simp only [List.length_nil]; omega)), (by (try dsimp only); first | omega | (simp only [List.length_nil]; omega)), (by (try dsimp only) <;> (intro x hx; cases hx))⟩
        rintro ⟨a7, s7, l_3⟩ ⟨ll2, cl2, xb3⟩ E hE F hF
        dsimp only at ll2 cl2 xb3
        conv => cbv
        refine r_lenR m.sX fun n1 hn1 mn1 => ?_
        conv => cbv
        refine r_lss m.sX (fun h3 => ?_) (fun h3 => ?_) <;> conv => cbv
        · refine r_lenR m.sX fun n2 hn2 mn2 => ?_
          conv => cbv
          refine r_mulf m.sX (by omega) (by omega) fun r1 hr1 => ?_
          conv => cbv
          refine r_addf m.sX (by omega) (by omega) fun r2 hr2 => ?_
          conv => cbv
          refine r_mcall m.sX (cPick_ok code a7 s7 4 h (by omega) (by omega)) ?_
          rintro _ _ ⟨q5, rfl, ⟨a8, s8, rfl, ea8, fa8⟩, bq5, cq5, dq5⟩
          conv => cbv
          refine r_append1 ((r2, q5)) m.sX rfl (by first | omega | (dsimp only; omega)) (by first | omega | (dsimp only; omega)) fun l_4 hl_4 => ?_
          conv => cbv
          have ll_4 : (l_4.length : Int) = l_3.length + 1 := by rw [hl_4]; first | done | (simp; done) | (simp; omega)
          refine hE _ (a8, s8, l_4) ?_ ?_ ⟨(by (try dsimp only); first | omega | (simp only [List.length_nil]; omega)), (by (try dsimp only); first | omega | (simp only [List.length_nil]; omega)), (by (try dsimp only) <;> (rw [hl_4]; intro x hx; rcases List.mem_append.1 hx with hx | hx; exact xb3 x hx; rw [List.mem_singleton.1 hx]; dsimp only; omega))⟩ (by first | omega | (dsimp only; omega))
          · cbv
          · cbv
        · refine hF _ _ ?_
          conv => cbv
          exact hQ (.fr 230 2 (rows cSlip l_3)) (cCur code a7 s7) ⟨l_3, rfl, ⟨a7, s7, rfl, by omega, by omega⟩, (by first | omega | exact xb3), (by first | omega | exact xb3)⟩   -- leaf 1
      · refine r_eql m.sX (fun h4 => ?_) (fun h4 => ?_) <;> conv => cbv
        · refine r_mcall m.sX (cAmong_ok code a5 s5 ([200, 201, 1, 0]) (by simp) h (by omega) (by omega)) ?_
          rintro _ _ ⟨q6, rfl, ⟨a9, s9, rfl, ea9, fa9⟩, bq6⟩
          simp only [List.mem_cons, List.not_mem_nil, or_false] at bq6
          conv => cbv
          refine r_mcall m.sX (cAmong_ok code a9 s9 ([20, 21, -1, 1]) (by simp) h (by omega) (by omega)) ?_
          rintro _ _ ⟨q7, rfl, ⟨a10, s10, rfl, ea10, fa10⟩, bq7⟩
          simp only [List.mem_cons, List.not_mem_nil, or_false] at bq7
          conv => cbv
          refine r_append1 ((q6, q7)) m.sX rfl (by first | omega | (dsimp only; omega)) (by first | omega | (dsimp only; omega)) fun l_5 hl_5 => ?_
          conv => cbv
          have ll_5 : (l_5.length : Int) = l.length + 1 := by rw [hl_5]; first | done | (simp; done) | (simp; omega)
          exact hQ (.fr 230 2 (rows cSlip l_5)) (cCur code a10 s10) ⟨l_5, rfl, ⟨a10, s10, rfl, by omega, by omega⟩, (by first | omega | (rw [hl_5]; intro x hx; rcases List.mem_append.1 hx with hx | hx; have := xb x hx; omega; rw [List.mem_singleton.1 hx]; dsimp only; omega)), (by first | omega | (rw [hl_5]; intro x hx; rcases List.mem_append.1 hx with hx | hx; have := xb x hx; omega; rw [List.mem_singleton.1 hx]; dsimp only; omega))⟩   -- leaf 2
        · refine r_eql m.sX (fun h5 => ?_) (fun h5 => ?_) <;> conv => cbv
          · refine r_lenR m.sX fun n3 hn3 mn3 => ?_
            conv => cbv
            refine r_gtr m.sX (fun h6 => ?_) (fun h6 => ?_) <;> conv => cbv
            · refine r_mcall m.sX (cAmong_ok code a5 s5 ([20, 21, -1, 0]) (by simp) h (by omega) (by omega)) ?_
              rintro _ _ ⟨q8, rfl, ⟨a11, s11, rfl, ea11, fa11⟩, bq8⟩
              simp only [List.mem_cons, List.not_mem_nil, or_false] at bq8
              conv => cbv
              refine r_oindex m.sX (by omega) (by omega) ?_
              conv => cbv
              obtain ⟨⟨y1A, y1B⟩, hy1⟩ := get_ex (xs := l) (i := Int.toNat 0) (by omega)
              refine r_ostore (l := Int.toNat 0) (y1A, q8) m.sX hy1 (Nat.le_of_ble_eq_true rfl) rfl fun l_6 hl_6 => ?_   -- l_6 = l.set 0 (y1A, q8)
              have ll_6 : (l_6.length : Int) = l.length := by rw [hl_6]; first | done | (simp; done) | (simp; omega)
              conv => cbv
              exact hQ (.fr 230 2 (rows cSlip l_6)) (cCur code a11 s11) ⟨l_6, rfl, ⟨a11, s11, rfl, by omega, by omega⟩, (by first | omega | (rw [hl_6]; intro x hx; rcases List.mem_or_eq_of_mem_set hx with hx | rfl; have := xb x hx; omega; dsimp only; omega)), (by first | omega | (rw [hl_6]; intro x hx; rcases List.mem_or_eq_of_mem_set hx with hx | rfl; have := xb x hx; omega; dsimp only; omega))⟩   -- leaf 3
            · exact hQ (.fr 230 2 (rows cSlip l)) (cCur code a5 s5) ⟨l, rfl, ⟨a5, s5, rfl, by omega, by omega⟩, (by first | omega | (intro x hx; have := xb x hx; omega)), (by first | omega | (intro x hx; have := xb x hx; omega))⟩   -- leaf 4
          · exact hQ (.fr 230 2 (rows cSlip l)) (cCur code a5 s5) ⟨l, rfl, ⟨a5, s5, rfl, by omega, by omega⟩, (by first | omega | (intro x hx; have := xb x hx; omega)), (by first | omega | (intro x hx; have := xb x hx; omega))⟩   -- leaf 5

theorem cStock_ex (code : List Int) (b0 t0 : Int) : ∃ r cs, (∃ (q : List Slip), r = PV.fr 230 2 (rows cSlip q) ∧ CurTo code b0 60 cs ∧ (q.length ≤ 9) ∧ (∀ x ∈ q, -1 ≤ x.2 ∧ x.2 ≤ 1000)) :=
  ⟨_, _, [], rfl, ⟨b0, t0, rfl, by omega, by omega⟩, (by first | omega | simp), (by first | omega | simp)⟩

theorem cRuleLength_ok (code : List Int) (b0 t0 : Int)  (h : CurIn code) (h0 : 0 ≤ b0) (hk : b0 ≤ 899999999999960000)  : OkM Try.prog 281 (cCur code b0 t0) [] (fun r cs => ∃ (q : Int), r = .int .i64 q ∧ CurTo code b0 40 cs) :=
  fnM_intro envOk fieldsOk mixed Try.func281 rfl fun κ X Y L Q m hQ => by
    conv => cbv
    refine r_mcall m.sX (cPick_ok code b0 t0 90 h (by omega) (by omega)) ?_
    rintro _ _ ⟨q1, rfl, ⟨a1, s1, rfl, ea1, fa1⟩, bq1, cq1, dq1⟩
    conv => cbv
    refine r_addf m.sX (by omega) (by omega) fun r1 hr1 => ?_
    conv => cbv
    refine r_mcall m.sX (cPick_ok code a1 s1 90 h (by omega) (by omega)) ?_
    rintro _ _ ⟨q2, rfl, ⟨a2, s2, rfl, ea2, fa2⟩, bq2, cq2, dq2⟩
    conv => cbv
    refine r_addf m.sX (by omega) (by omega) fun r2 hr2 => ?_
    conv => cbv
    refine r_mcall m.sX (cAmong_ok code a2 s2 ([1, 400, 0, 401, -9223372036854775808]) (by simp) h (by omega) (by omega)) ?_
    rintro _ _ ⟨q3, rfl, ⟨a3, s3, rfl, ea3, fa3⟩, bq3⟩
    simp only [List.mem_cons, List.not_mem_nil, or_false] at bq3
    conv => cbv
    refine r_mcall m.sX (cAmong_ok code a3 s3 ([12, 30, 54, r1, r2, q3]) (by simp) h (by omega) (by omega)) ?_
    rintro _ _ ⟨q4, rfl, ⟨a4, s4, rfl, ea4, fa4⟩, bq4⟩
    simp only [List.mem_cons, List.not_mem_nil, or_false] at bq4
    conv => cbv
    exact hQ (.int .i64 q4) (cCur code a4 s4) ⟨q4, rfl, ⟨a4, s4, rfl, by omega, by omega⟩⟩   -- leaf 1

theorem cRuleLength_ex (code : List Int) (b0 t0 : Int) : ∃ r cs, (∃ (q : Int), r = PV.int .i64 q ∧ CurTo code b0 40 cs) :=
  ⟨_, _, 0, rfl, ⟨b0, t0, rfl, by omega, by omega⟩⟩

theorem drawRuleOf_ok (code : List Int) (h : CurIn code) : OkA Try.prog 103 [.isl 1 (rows cU8 code)] (fun r => ∃ (q1 : List Slip) (q2 : Int), r = .tup [.fr 230 2 (rows cSlip q1), .int .i64 q2] ∧ (q1.length ≤ 9)) :=
  fn_intro envOk fieldsOk mixed Try.func103 rfl fun κ X Y L Q m hQ => by
    conv => cbv
    refine r_mcall m.sX (cStock_ok code 0 0 h (by omega) (by omega)) ?_
    rintro _ _ ⟨l, rfl, ⟨a1, s1, rfl, ea1, fa1⟩, bl_1, bl_2⟩
    conv => cbv
    refine .inl (r_callFO (lb 3 1 cInt) m.sX ((specLengthsUpTo_ok l 400).ok (flat_lb flat_cInt)) fun v hall => ?_)
    obtain ⟨all, ok⟩ := v
    conv => cbv
    rcases Bool.eq_false_or_eq_true ok with rfl | rfl <;> conv => cbv
    · refine r_lenR m.sX fun n1 hn1 mn1 => ?_
      conv => cbv
      refine r_gtr m.sX (fun h1 => ?_) (fun h1 => ?_) <;> conv => cbv
      · refine r_mcall m.sX (cOne_ok code a1 s1 4 h (by omega) (by omega)) ?_
        rintro _ _ ⟨q1, rfl, ⟨a2, s2, rfl, ea2, fa2⟩⟩
        conv => cbv
        rcases Bool.eq_false_or_eq_true q1 with rfl | rfl <;> conv => cbv
        · refine r_mcall m.sX (cRuleLength_ok code a2 s2 h (by omega) (by omega)) ?_
          rintro _ _ ⟨q2, rfl, ⟨a3, s3, rfl, ea3, fa3⟩⟩
          conv => cbv
          exact hQ (.tup [.fr 230 2 (rows cSlip l), .int .i64 q2]) ⟨l, q2, rfl, (by first | omega | assumption | (simp; done) | (simp [*]; done) | (simp at *; omega))⟩   -- leaf 1
        · refine r_draw m (by kernel_rfl) ?_
          conv => cbv
          refine r_lenRS m.sY (by omega) fun n2 hn2 => ?_
          conv => cbv
          refine r_mcallS m.sY (cPick_ok code a2 s2 n2 h (by omega) (by omega)) (cPick_ex code a2 s2 n2) (by rintro _ _ ⟨_, rfl, _⟩; first | trivial | (intro x hx; simp at hx; rcases hx with rfl | rfl | rfl <;> trivial)) ?_
          rintro _ _ ⟨q3, rfl, ⟨a4, s4, rfl, ea4, fa4⟩, bq3, cq3, dq3⟩
          conv => cbv
          refine r_oindex m.sY (by omega) (by omega) ?_
          conv => cbv
          obtain ⟨x1, hx1⟩ := get_ex (xs := all) (i := Int.toNat q3) (by omega)
          have mx1 := get_mem hx1
          have vx1 := nth_some hx1
          refine r_oload m.sY hx1 (Nat.le_of_ble_eq_true rfl) ?_
          conv => cbv
          exact hQ (.tup [.fr 230 2 (rows cSlip l), .int .i64 x1]) ⟨l, x1, rfl, (by first | omega | assumption | (simp; done) | (simp [*]; done) | (simp at *; omega))⟩   -- leaf 2
      · refine r_mcall m.sX (cRuleLength_ok code a1 s1 h (by omega) (by omega)) ?_
        rintro _ _ ⟨q4, rfl, ⟨a5, s5, rfl, ea5, fa5⟩⟩
        conv => cbv
        exact hQ (.tup [.fr 230 2 (rows cSlip l), .int .i64 q4]) ⟨l, q4, rfl, (by first | omega | assumption | (simp; done) | (simp [*]; done) | (simp at *; omega))⟩   -- leaf 3
    · refine r_mcall m.sX (cRuleLength_ok code a1 s1 h (by omega) (by omega)) ?_
      rintro _ _ ⟨q5, rfl, ⟨a6, s6, rfl, ea6, fa6⟩⟩
      conv => cbv
      exact hQ (.tup [.fr 230 2 (rows cSlip l), .int .i64 q5]) ⟨l, q5, rfl, (by first | omega | assumption | (simp; done) | (simp [*]; done) | (simp at *; omega))⟩   -- leaf 4

theorem drawMissingFor_ok (code : List Int) (h : CurIn code) : OkA Try.prog 109 [.isl 1 (rows cU8 code)] (fun r => ∃ (q1 : List Slip) (q2 : Int), r = .tup [.fr 230 2 (rows cSlip q1), .int .i64 q2] ∧ (q1.length ≤ 9)) :=
  fn_intro envOk fieldsOk mixed Try.func109 rfl fun κ X Y L Q m hQ => by
    conv => cbv
    refine r_mcall m.sX (cStock_ok code 0 0 h (by omega) (by omega)) ?_
    rintro _ _ ⟨q1, rfl, ⟨a1, s1, rfl, ea1, fa1⟩, bq1_1, bq1_2⟩
    conv => cbv
    refine r_mcall m.sX (cRuleLength_ok code a1 s1 h (by omega) (by omega)) ?_
    rintro _ _ ⟨q2, rfl, ⟨a2, s2, rfl, ea2, fa2⟩⟩
    conv => cbv
    exact hQ (.tup [.fr 230 2 (rows cSlip q1), .int .i64 q2]) ⟨q1, q2, rfl, (by first | omega | assumption | (simp; done) | (simp [*]; done) | (simp at *; omega))⟩   -- leaf 1

theorem drawLengthsUpTo_ok (code : List Int) (h : CurIn code) : OkA Try.prog 113 [.isl 1 (rows cU8 code)] (fun r => ∃ (q1 : List Slip) (q2 : Int), r = .tup [.fr 230 2 (rows cSlip q1), .int .i64 q2] ∧ (q1.length ≤ 9)) :=
  fn_intro envOk fieldsOk mixed Try.func113 rfl fun κ X Y L Q m hQ => by
    conv => cbv
    refine r_mcall m.sX (cStock_ok code 0 0 h (by omega) (by omega)) ?_
    rintro _ _ ⟨q1, rfl, ⟨a1, s1, rfl, ea1, fa1⟩, bq1_1, bq1_2⟩
    conv => cbv
    refine r_mcall m.sX (cAmong_ok code a1 s1 ([5, -1, 401]) (by simp) h (by omega) (by omega)) ?_
    rintro _ _ ⟨q2, rfl, ⟨a2, s2, rfl, ea2, fa2⟩, bq2⟩
    simp only [List.mem_cons, List.not_mem_nil, or_false] at bq2
    conv => cbv
    refine r_mcall m.sX (cAmong_ok code a2 s2 ([0, 20, 60, 100, 400, q2]) (by simp) h (by omega) (by omega)) ?_
    rintro _ _ ⟨q3, rfl, ⟨a3, s3, rfl, ea3, fa3⟩, bq3⟩
    simp only [List.mem_cons, List.not_mem_nil, or_false] at bq3
    conv => cbv
    exact hQ (.tup [.fr 230 2 (rows cSlip q1), .int .i64 q3]) ⟨q1, q3, rfl, (by first | omega | assumption | (simp; done) | (simp [*]; done) | (simp at *; omega))⟩   -- leaf 1

theorem drawPiecesOf_ok (code : List Int) (h : CurIn code) : OkA Try.prog 115 [.isl 1 (rows cU8 code)] (fun r => ∃ (q1 : List Slip) (q2 : List Int), r = .tup [.fr 230 2 (rows cSlip q1), .fr 3 1 (rows cInt q2)] ∧ (q1.length ≤ 9)) :=
  fn_intro envOk fieldsOk mixed Try.func115 rfl fun κ X Y L Q m hQ => by
    conv => cbv
    refine r_mcall m.sX (cStock_ok code 0 0 h (by omega) (by omega)) ?_
    rintro _ _ ⟨l, rfl, ⟨a1, s1, rfl, ea1, fa1⟩, bl_1, bl_2⟩
    conv => cbv
    refine r_lenR m.sX fun n1 hn1 mn1 => ?_
    conv => cbv
    refine r_loopF (α := Int × Int × List Int × Int) m 65 [15, 16, 17] [⟨4, 33, 0, 0, 0⟩, ⟨5, 41, 230, 2, 0⟩, ⟨6, 49, 3, 1, 0⟩] (fun σ => [(4, .optr 33 0 3 0 0), (5, .osl 41 0), (6, .osl 49 0), (15, .osl 41 0), (16, .int .i64 n1), (17, .int .i64 σ.2.2.2)]) (fun σ => [(33, 0, .box (cCur code σ.1 σ.2.1)), (41, 0, .row 230 2 (rows cSlip l)), (49, 0, .row 3 1 (rows cInt σ.2.2.1))])
      (fun σ => (0 ≤ σ.2.2.2) ∧ (σ.2.2.2 ≤ n1) ∧ (a1 ≤ σ.1 ∧ σ.1 ≤ a1 + 2 * σ.2.2.2) ∧ ((σ.2.2.1.length : Int) = σ.2.2.2)) (fun σ => (n1 - σ.2.2.2).toNat) (a1, s1, [], 0) ?_ ?_ ?_ ?_
    · cbv
    · (try dsimp only); simp only [rows_cons, rows_nil]; cbv
    · exact ⟨(by (try dsimp only); first | omega | (simp only [List.length_nil]; omega)), (by (try dsimp only); first | omega | (simp only [List.length_nil]; omega)), (by (try dsimp only); first | omega | (simp only [List.length_nil]; omega)), (by (try dsimp only) <;> first | omega | rfl | (simp [*]; done))⟩
    rintro ⟨a2, s2, counts, i1⟩ ⟨lo1, hi1, cl1, ln⟩ E hE F hF
    dsimp only at lo1 hi1 cl1 ln
    conv => cbv
    refine r_lss m.sX (fun h1 => ?_) (fun h1 => ?_) <;> conv => cbv
    · refine r_oindex m.sX (by omega) (by omega) ?_
      conv => cbv
      obtain ⟨⟨xA, xB⟩, hx⟩ := get_ex (xs := l) (i := Int.toNat i1) (by omega)
      have mx := get_mem hx
      have dx := drop_cons hx
      have kx := take_snoc hx
      have jx : (i1 + 1).toNat = Int.toNat i1 + 1 := by omega
      refine r_oload m.sX hx (Nat.le_of_ble_eq_true rfl) ?_
      conv => cbv
      refine r_draw m (by kernel_rfl) ?_
      conv => cbv
      refine r_mcallS m.sY (cPick_ok code a2 s2 4 h (by omega) (by omega)) (cPick_ex code a2 s2 4) (by rintro _ _ ⟨_, rfl, _⟩; first | trivial | (intro x hx; simp at hx; rcases hx with rfl | rfl | rfl <;> trivial)) ?_
      rintro _ _ ⟨q1, rfl, ⟨a3, s3, rfl, ea3, fa3⟩, bq1, cq1, dq1⟩
      conv => cbv
      refine r_callFS (PV.int .i64) m.sY (l1Least_ok xB q1) trivial fun r1 hr1 => ?_
      conv => cbv
      try dsimp only at hr1
      refine r_append1 (r1) m.sY rfl (by first | omega | (dsimp only; omega)) (by first | omega | (dsimp only; omega)) fun counts_2 hcounts_2 => ?_
      conv => cbv
      have lcounts_2 : (counts_2.length : Int) = counts.length + 1 := by rw [hcounts_2]; first | done | (simp; done) | (simp; omega)
      refine r_addf m.sX (by omega) (by omega) fun r2 hr2 => ?_
      conv => cbv
      have tr2 : Int.toNat r2 = Int.toNat i1 + 1 := by omega
      refine hE _ (a3, s3, counts_2, r2) ?_ ?_ ⟨(by (try dsimp only); first | omega | (simp only [List.length_nil]; omega)), (by (try dsimp only); first | omega | (simp only [List.length_nil]; omega)), (by (try dsimp only); first | omega | (simp only [List.length_nil]; omega)), (by (try dsimp only) <;> first | omega | rfl | (simp [*]; done) | (rw [ln]; simp [*]; done))⟩ (by first | omega | (dsimp only; omega))
      · cbv
      · cbv
    · have dz_i1 := drop_end (xs := l) (i := Int.toNat i1) (by omega)
      have tz_i1 := take_end (xs := l) (i := Int.toNat i1) (by omega)
      refine hF _ _ ?_
      conv => cbv
      refine r_mcall m.sX (cPick_ok code a2 s2 16 h (by omega) (by omega)) ?_
      rintro _ _ ⟨q2, rfl, ⟨a4, s4, rfl, ea4, fa4⟩, bq2, cq2, dq2⟩
      conv => cbv
      refine r_eql m.sX (fun h2 => ?_) (fun h2 => ?_) <;> conv => cbv
      · refine r_append1 (0) m.sX rfl (by first | omega | (dsimp only; omega)) (by first | omega | (dsimp only; omega)) fun counts_3 hcounts_3 => ?_
        conv => cbv
        have lcounts_3 : (counts_3.length : Int) = counts.length + 1 := by rw [hcounts_3]; first | done | (simp; done) | (simp; omega)
        exact hQ (.tup [.fr 230 2 (rows cSlip l), .fr 3 1 (rows cInt counts_3)]) ⟨l, counts_3, rfl, (by first | omega | assumption | (simp; done) | (simp [*]; done) | (simp at *; omega))⟩   -- leaf 1
      · refine r_eql m.sX (fun h3 => ?_) (fun h3 => ?_) <;> conv => cbv
        · refine r_lenR m.sX fun n2 hn2 mn2 => ?_
          conv => cbv
          refine r_gtr m.sX (fun h4 => ?_) (fun h4 => ?_) <;> conv => cbv
          · refine r_lenR m.sX fun n3 hn3 mn3 => ?_
            conv => cbv
            refine r_mcall m.sX (cPick_ok code a4 s4 n3 h (by omega) (by omega)) ?_
            rintro _ _ ⟨i, rfl, ⟨a5, s5, rfl, ea5, fa5⟩, bi, ci, di⟩
            conv => cbv
            refine r_draw m (by kernel_rfl) ?_
            conv => cbv
            refine r_oindex m.sY (by omega) (by omega) ?_
            conv => cbv
            obtain ⟨⟨x1A, x1B⟩, hx1⟩ := get_ex (xs := l) (i := Int.toNat i) (by omega)
            have mx1 := get_mem hx1
            refine r_oload m.sY hx1 (Nat.le_of_ble_eq_true rfl) ?_
            conv => cbv
            refine r_oindex m.sY (by omega) (by omega) ?_
            conv => cbv
            obtain ⟨⟨x2A, x2B⟩, hx2⟩ := get_ex (xs := l) (i := Int.toNat i) (by omega)
            have mx2 := get_mem hx2
            have bx := bl_2 _ mx2
            try dsimp only at bx
            refine r_oload m.sY hx2 (Nat.le_of_ble_eq_true rfl) ?_
            conv => cbv
            refine r_addf m.sY (by omega) (by omega) fun r3 hr3 => ?_
            conv => cbv
            refine r_mcallS m.sY (cAmong_ok code a5 s5 ([-1, x1B, r3]) (by simp) h (by omega) (by omega)) (cAmong_ex code a5 s5 ([-1, x1B, r3]) (by simp)) (by rintro _ _ ⟨_, rfl, _⟩; first | trivial | (intro x hx; simp at hx; rcases hx with rfl | rfl | rfl <;> trivial)) ?_
            rintro _ _ ⟨q3, rfl, ⟨a6, s6, rfl, ea6, fa6⟩, bq3⟩
            simp only [List.mem_cons, List.not_mem_nil, or_false] at bq3
            conv => cbv
            refine r_oindex m.sY (by omega) (by omega) ?_
            conv => cbv
            obtain ⟨y1, hy1⟩ := get_ex (xs := counts) (i := Int.toNat i) (by omega)
            refine r_ostore (l := Int.toNat i) q3 m.sY hy1 (Nat.le_of_ble_eq_true rfl) rfl fun counts_4 hcounts_4 => ?_   -- counts_4 = counts.set i q3
            have lcounts_4 : (counts_4.length : Int) = counts.length := by rw [hcounts_4]; first | done | (simp; done) | (simp; omega)
            conv => cbv
            exact hQ (.tup [.fr 230 2 (rows cSlip l), .fr 3 1 (rows cInt counts_4)]) ⟨l, counts_4, rfl, (by first | omega | assumption | (simp; done) | (simp [*]; done) | (simp at *; omega))⟩   -- leaf 2
          · exact hQ (.tup [.fr 230 2 (rows cSlip l), .fr 3 1 (rows cInt counts)]) ⟨l, counts, rfl, (by first | omega | assumption | (simp; done) | (simp [*]; done) | (simp at *; omega))⟩   -- leaf 3
        · exact hQ (.tup [.fr 230 2 (rows cSlip l), .fr 3 1 (rows cInt counts)]) ⟨l, counts, rfl, (by first | omega | assumption | (simp; done) | (simp [*]; done) | (simp at *; omega))⟩   -- leaf 4

end Go.Proofs.Ytpjmpgbgglhoeaa.Ai
