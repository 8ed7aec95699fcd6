/- Contracts of what the law on register draws. -/
import Derived.Test.YtjohfigipllpoaaInk2
namespace Go.Proofs.Ytjohfigipllpoaa.Ai
open Go Go.Proofs
set_option linter.unusedSimpArgs false
set_option maxRecDepth 10000
set_option maxHeartbeats 4000000
set_option linter.unusedVariables false

theorem cOf_ok (code : List Int) (b0 t0 : Int) (list : List (List UInt8)) (h : CurIn code) (h0 : 0 ≤ b0) (hk : b0 ≤ 899999999999998000) (hl : 0 < list.length) (hm : list.length ≤ 200) : OkM Try.prog 37 (cCur code b0 t0) [.isl 1 (rows cStr list)] (fun r cs => ∃ (q : List UInt8), r = .str q ∧ CurTo code b0 2 cs ∧ (q ∈ list)) :=
  fnM_intro envOk fieldsOk mixed Try.func37 rfl fun κ X Y L Q m hQ => by
    conv => cbv
    refine r_lenR m.sX fun n1 hn1 mn1 => ?_
    conv => cbv
    refine r_mcall m.sX (cPick_ok code b0 t0 n1 h (by omega) (by omega)) ?_
    rintro _ _ ⟨q1, rfl, ⟨a1, s1, rfl, ea1, fa1⟩, bq1, cq1, dq1⟩
    conv => cbv
    refine r_index m.sX (by omega) (by omega) fun x1 hx1 => ?_
    conv => cbv
    have mx1 := get_mem hx1
    exact hQ (.str x1) (cCur code a1 s1) ⟨x1, rfl, ⟨a1, s1, rfl, by omega, by omega⟩, (by first | omega | exact mx1)⟩   -- leaf 1

theorem cOfL_ok (code : List Int) (b0 t0 : Int) (list : List (List UInt8)) (h : CurIn code) (h0 : 0 ≤ b0) (hk : b0 ≤ 899999999999998000) (hl : 0 < list.length) (hm : list.length ≤ 200) : OkM Try.prog 37 (cCur code b0 t0) [.isl 1 (list.map cStr)] (fun r cs => ∃ (q : List UInt8), r = .str q ∧ CurTo code b0 2 cs ∧ q ∈ list) := by
  have := cOf_ok code b0 t0 list h h0 hk hl hm
  rwa [rows_eq] at this
-- lacks (*spec.l1Cur).font
-- lacks (*spec.l1Cur).anyFont
theorem cInked_ok (code : List Int) (b0 t0 : Int)  (h : CurIn code) (h0 : 0 ≤ b0) (hk : b0 ≤ 899999999999700000)  : OkM Try.prog 28 (cCur code b0 t0) [] (fun r cs => ∃ (q : Inked), r = .agg (cInked q) ∧ CurTo code b0 300 cs ∧ ((q.1.length : Int) ≤ 60) ∧ ((q.2.length : Int) ≤ 60)) :=
  fnM_intro envOk fieldsOk mixed Try.func28 rfl fun κ X Y L Q m hQ => by
    conv => cbv
    refine r_mcall m.sX (cPick_ok code b0 t0 14 h (by omega) (by omega)) ?_
    rintro _ _ ⟨n, rfl, ⟨a1, s1, rfl, ea1, fa1⟩, bn, cn, dn⟩
    conv => cbv
    refine r_mcall m.sX (cOne_ok code a1 s1 12 h (by omega) (by omega)) ?_
    rintro _ _ ⟨q1, rfl, ⟨a2, s2, rfl, ea2, fa2⟩⟩
    conv => cbv
    rcases Bool.eq_false_or_eq_true q1 with rfl | rfl <;> conv => cbv
    · refine r_mcall m.sX (cPick_ok code a2 s2 2 h (by omega) (by omega)) ?_
      rintro _ _ ⟨q2, rfl, ⟨a3, s3, rfl, ea3, fa3⟩, bq2, cq2, dq2⟩
      conv => cbv
      refine r_addf m.sX (by omega) (by omega) fun n_2 hn_2 => ?_
      conv => cbv
      refine r_loopF (α := Int × Int × List UInt8 × List UInt8) m 79 [4] [⟨0, 1, 0, 0, 0⟩, ⟨2, 17, 0, 0, 0⟩, ⟨3, 25, 0, 0, 0⟩] (fun σ => [(0, .optr 1 0 0 0 0), (2, .optr 17 0 2 0 0), (3, .optr 25 0 2 0 0), (4, .int .i64 n_2)]) (fun σ => [(1, 0, .box (cCur code σ.1 σ.2.1)), (17, 0, .box [.str ([]), .str ([])]), (25, 0, .box [.str σ.2.2.1, .str σ.2.2.2])])
        (fun σ => ((σ.2.2.1.length : Int) ≤ n_2) ∧ ((σ.2.2.2.length : Int) = σ.2.2.1.length) ∧ (b0 ≤ σ.1 ∧ σ.1 ≤ b0 + 10 + 6 * (σ.2.2.1.length : Int))) (fun σ => (n_2 - (σ.2.2.1.length : Int)).toNat) (a3, s3, [], []) ?_ ?_ ?_ ?_
      · cbv
      · cbv
      · exact ⟨(by (try dsimp only) <;> (simp; omega)), (by (try dsimp only) <;> first | omega | rfl | (simp [*]; done)), (by (try dsimp only) <;> first | omega | rfl | (simp [*]; done))⟩
      rintro ⟨a4, s4, f1, f2⟩ ⟨b1, b2, cu⟩ E hE F hF
      dsimp only at b1 b2 cu
      conv => cbv
      refine r_slen (u := f1) m.sX fun n1 hn1 mn1 => ?_   -- n1 = length of f1
      conv => cbv
      refine r_lss m.sX (fun h1 => ?_) (fun h1 => ?_) <;> conv => cbv
      · refine r_mcall m.sX (cOfL_ok code a4 s4 ([([97] : List UInt8), ([98] : List UInt8), ([99] : List UInt8), ([100] : List UInt8), ([101] : List UInt8), ([102] : List UInt8), ([105] : List UInt8), ([32] : List UInt8)]) h (by omega) (by omega) (by first | rfl | assumption | omega | (simp only [List.length_append, List.length_cons, List.length_nil] at *; omega)) (by first | rfl | assumption | omega | (simp only [List.length_append, List.length_cons, List.length_nil] at *; omega))) ?_
        rintro _ _ ⟨letter, rfl, ⟨a5, s5, rfl, ea5, fa5⟩, bletter_1⟩
        have bl := letters_len letter bletter_1
        conv => cbv
        refine r_scat (u := f1) (v := letter) m.sX (by first | omega | (simp only [List.length_cons, List.length_nil]; omega) | (simp; omega)) fun s6 hs6 => ?_   -- s6 = f1 ++ letter
        have ls6 : (s6.length : Int) = f1.length + letter.length := by rw [hs6, List.length_append, Int.natCast_add]
        try simp only [List.length_cons, List.length_nil] at ls6
        conv => cbv
        refine r_sneq m.sX (fun h2 => ?_) (fun h2 => ?_) <;> conv => cbv
        · refine r_mcall m.sX (cOne_ok code a5 s5 3 h (by omega) (by omega)) ?_
          rintro _ _ ⟨q3, rfl, ⟨a6, s7, rfl, ea6, fa6⟩⟩
          conv => cbv
          rcases Bool.eq_false_or_eq_true q3 with rfl | rfl <;> conv => cbv
          · refine r_scat (u := f2) (v := ([114] : List UInt8)) m.sX (by first | omega | (simp only [List.length_cons, List.length_nil]; omega) | (simp; omega)) fun s8 hs8 => ?_   -- s8 = f2 ++ ([114] : List UInt8)
            have ls8 : (s8.length : Int) = f2.length + ([114] : List UInt8).length := by rw [hs8, List.length_append, Int.natCast_add]
            try simp only [List.length_cons, List.length_nil] at ls8
            conv => cbv
            refine hE _ (a6, s7, s6, s8) ?_ ?_ ⟨(by (try dsimp only) <;> first | omega | rfl | (simp [*]; done) | (rw [b1]; simp [*]; done)), (by (try dsimp only) <;> first | omega | rfl | (simp [*]; done) | (rw [b2]; simp [*]; done)), (by (try dsimp only) <;> first | omega | rfl | (simp [*]; done) | (rw [cu]; simp [*]; done))⟩ (by first | omega | (dsimp only; omega))
            · cbv
            · cbv
          · refine r_scat (u := f2) (v := ([98] : List UInt8)) m.sX (by first | omega | (simp only [List.length_cons, List.length_nil]; omega) | (simp; omega)) fun s9 hs9 => ?_   -- s9 = f2 ++ ([98] : List UInt8)
            have ls9 : (s9.length : Int) = f2.length + ([98] : List UInt8).length := by rw [hs9, List.length_append, Int.natCast_add]
            try simp only [List.length_cons, List.length_nil] at ls9
            conv => cbv
            refine hE _ (a6, s7, s6, s9) ?_ ?_ ⟨(by (try dsimp only) <;> first | omega | rfl | (simp [*]; done) | (rw [b1]; simp [*]; done)), (by (try dsimp only) <;> first | omega | rfl | (simp [*]; done) | (rw [b2]; simp [*]; done)), (by (try dsimp only) <;> first | omega | rfl | (simp [*]; done) | (rw [cu]; simp [*]; done))⟩ (by first | omega | (dsimp only; omega))
            · cbv
            · cbv
        · refine r_scat (u := f2) (v := ([98] : List UInt8)) m.sX (by first | omega | (simp only [List.length_cons, List.length_nil]; omega) | (simp; omega)) fun s10 hs10 => ?_   -- s10 = f2 ++ ([98] : List UInt8)
          have ls10 : (s10.length : Int) = f2.length + ([98] : List UInt8).length := by rw [hs10, List.length_append, Int.natCast_add]
          try simp only [List.length_cons, List.length_nil] at ls10
          conv => cbv
          refine hE _ (a5, s5, s6, s10) ?_ ?_ ⟨(by (try dsimp only) <;> first | omega | rfl | (simp [*]; done) | (rw [b1]; simp [*]; done)), (by (try dsimp only) <;> first | omega | rfl | (simp [*]; done) | (rw [b2]; simp [*]; done)), (by (try dsimp only) <;> first | omega | rfl | (simp [*]; done) | (rw [cu]; simp [*]; done))⟩ (by first | omega | (dsimp only; omega))
          · cbv
          · cbv
      · refine hF _ _ ?_
        conv => cbv
        refine r_mcall m.sX (cPick_ok code a4 s4 24 h (by omega) (by omega)) ?_
        rintro _ _ ⟨q4, rfl, ⟨a7, s11, rfl, ea7, fa7⟩, bq4, cq4, dq4⟩
        conv => cbv
        refine r_eql m.sX (fun h3 => ?_) (fun h3 => ?_) <;> conv => cbv
        · refine r_scat (u := f2) (v := ([98] : List UInt8)) m.sX (by first | omega | (simp only [List.length_cons, List.length_nil]; omega) | (simp; omega)) fun s12 hs12 => ?_   -- s12 = f2 ++ ([98] : List UInt8)
          have ls12 : (s12.length : Int) = f2.length + ([98] : List UInt8).length := by rw [hs12, List.length_append, Int.natCast_add]
          try simp only [List.length_cons, List.length_nil] at ls12
          conv => cbv
          exact hQ (.agg [.str f1, .str s12]) (cCur code a7 s11) ⟨(f1, s12), rfl, ⟨a7, s11, rfl, by omega, by omega⟩, (by first | omega | (dsimp only; omega)), (by first | omega | (dsimp only; omega))⟩   -- leaf 1
        · refine r_eql m.sX (fun h4 => ?_) (fun h4 => ?_) <;> conv => cbv
          · refine r_scat (u := ([32] : List UInt8)) (v := f1) m.sX (by first | omega | (simp only [List.length_cons, List.length_nil]; omega) | (simp; omega)) fun s13 hs13 => ?_   -- s13 = ([32] : List UInt8) ++ f1
            have ls13 : (s13.length : Int) = ([32] : List UInt8).length + f1.length := by rw [hs13, List.length_append, Int.natCast_add]
            try simp only [List.length_cons, List.length_nil] at ls13
            conv => cbv
            refine r_scat (u := ([114] : List UInt8)) (v := f2) m.sX (by first | omega | (simp only [List.length_cons, List.length_nil]; omega) | (simp; omega)) fun s14 hs14 => ?_   -- s14 = ([114] : List UInt8) ++ f2
            have ls14 : (s14.length : Int) = ([114] : List UInt8).length + f2.length := by rw [hs14, List.length_append, Int.natCast_add]
            try simp only [List.length_cons, List.length_nil] at ls14
            conv => cbv
            exact hQ (.agg [.str s13, .str s14]) (cCur code a7 s11) ⟨(s13, s14), rfl, ⟨a7, s11, rfl, by omega, by omega⟩, (by first | omega | (dsimp only; omega)), (by first | omega | (dsimp only; omega))⟩   -- leaf 2
          · refine r_eql m.sX (fun h5 => ?_) (fun h5 => ?_) <;> conv => cbv
            · refine r_scat (u := ([65] : List UInt8)) (v := f1) m.sX (by first | omega | (simp only [List.length_cons, List.length_nil]; omega) | (simp; omega)) fun s15 hs15 => ?_   -- s15 = ([65] : List UInt8) ++ f1
              have ls15 : (s15.length : Int) = ([65] : List UInt8).length + f1.length := by rw [hs15, List.length_append, Int.natCast_add]
              try simp only [List.length_cons, List.length_nil] at ls15
              conv => cbv
              refine r_scat (u := ([98] : List UInt8)) (v := f2) m.sX (by first | omega | (simp only [List.length_cons, List.length_nil]; omega) | (simp; omega)) fun s16 hs16 => ?_   -- s16 = ([98] : List UInt8) ++ f2
              have ls16 : (s16.length : Int) = ([98] : List UInt8).length + f2.length := by rw [hs16, List.length_append, Int.natCast_add]
              try simp only [List.length_cons, List.length_nil] at ls16
              conv => cbv
              exact hQ (.agg [.str s15, .str s16]) (cCur code a7 s11) ⟨(s15, s16), rfl, ⟨a7, s11, rfl, by omega, by omega⟩, (by first | omega | (dsimp only; omega)), (by first | omega | (dsimp only; omega))⟩   -- leaf 3
            · refine r_eql m.sX (fun h6 => ?_) (fun h6 => ?_) <;> conv => cbv
              · refine r_scat (u := ([97] : List UInt8)) (v := f1) m.sX (by first | omega | (simp only [List.length_cons, List.length_nil]; omega) | (simp; omega)) fun s17 hs17 => ?_   -- s17 = ([97] : List UInt8) ++ f1
                have ls17 : (s17.length : Int) = ([97] : List UInt8).length + f1.length := by rw [hs17, List.length_append, Int.natCast_add]
                try simp only [List.length_cons, List.length_nil] at ls17
                conv => cbv
                refine r_scat (u := ([103] : List UInt8)) (v := f2) m.sX (by first | omega | (simp only [List.length_cons, List.length_nil]; omega) | (simp; omega)) fun s18 hs18 => ?_   -- s18 = ([103] : List UInt8) ++ f2
                have ls18 : (s18.length : Int) = ([103] : List UInt8).length + f2.length := by rw [hs18, List.length_append, Int.natCast_add]
                try simp only [List.length_cons, List.length_nil] at ls18
                conv => cbv
                exact hQ (.agg [.str s17, .str s18]) (cCur code a7 s11) ⟨(s17, s18), rfl, ⟨a7, s11, rfl, by omega, by omega⟩, (by first | omega | (dsimp only; omega)), (by first | omega | (dsimp only; omega))⟩   -- leaf 4
              · exact hQ (.agg [.str f1, .str f2]) (cCur code a7 s11) ⟨(f1, f2), rfl, ⟨a7, s11, rfl, by omega, by omega⟩, (by first | omega | (dsimp only; omega)), (by first | omega | (dsimp only; omega))⟩   -- leaf 5
    · refine r_loopF (α := Int × Int × List UInt8 × List UInt8) m 79 [4] [⟨0, 1, 0, 0, 0⟩, ⟨2, 17, 0, 0, 0⟩, ⟨3, 25, 0, 0, 0⟩] (fun σ => [(0, .optr 1 0 0 0 0), (2, .optr 17 0 2 0 0), (3, .optr 25 0 2 0 0), (4, .int .i64 n)]) (fun σ => [(1, 0, .box (cCur code σ.1 σ.2.1)), (17, 0, .box [.str ([]), .str ([])]), (25, 0, .box [.str σ.2.2.1, .str σ.2.2.2])])
        (fun σ => ((σ.2.2.1.length : Int) ≤ n) ∧ ((σ.2.2.2.length : Int) = σ.2.2.1.length) ∧ (b0 ≤ σ.1 ∧ σ.1 ≤ b0 + 10 + 6 * (σ.2.2.1.length : Int))) (fun σ => (n - (σ.2.2.1.length : Int)).toNat) (a2, s2, [], []) ?_ ?_ ?_ ?_
      · cbv
      · cbv
      · exact ⟨(by (try dsimp only) <;> (simp; omega)), (by (try dsimp only) <;> first | omega | rfl | (simp [*]; done)), (by (try dsimp only) <;> first | omega | rfl | (simp [*]; done))⟩
      rintro ⟨a8, s19, f3, f4⟩ ⟨b1, b2, cu⟩ E hE F hF
      dsimp only at b1 b2 cu
      conv => cbv
      refine r_slen (u := f3) m.sX fun n2 hn2 mn2 => ?_   -- n2 = length of f3
      conv => cbv
      refine r_lss m.sX (fun h7 => ?_) (fun h7 => ?_) <;> conv => cbv
      · refine r_mcall m.sX (cOfL_ok code a8 s19 ([([97] : List UInt8), ([98] : List UInt8), ([99] : List UInt8), ([100] : List UInt8), ([101] : List UInt8), ([102] : List UInt8), ([105] : List UInt8), ([32] : List UInt8)]) h (by omega) (by omega) (by first | rfl | assumption | omega | (simp only [List.length_append, List.length_cons, List.length_nil] at *; omega)) (by first | rfl | assumption | omega | (simp only [List.length_append, List.length_cons, List.length_nil] at *; omega))) ?_
        rintro _ _ ⟨letter_2, rfl, ⟨a9, s20, rfl, ea9, fa9⟩, bletter_2_1⟩
        have bl := letters_len letter_2 bletter_2_1
        conv => cbv
        refine r_scat (u := f3) (v := letter_2) m.sX (by first | omega | (simp only [List.length_cons, List.length_nil]; omega) | (simp; omega)) fun s21 hs21 => ?_   -- s21 = f3 ++ letter_2
        have ls21 : (s21.length : Int) = f3.length + letter_2.length := by rw [hs21, List.length_append, Int.natCast_add]
        try simp only [List.length_cons, List.length_nil] at ls21
        conv => cbv
        refine r_sneq m.sX (fun h8 => ?_) (fun h8 => ?_) <;> conv => cbv
        · refine r_mcall m.sX (cOne_ok code a9 s20 3 h (by omega) (by omega)) ?_
          rintro _ _ ⟨q5, rfl, ⟨a10, s22, rfl, ea10, fa10⟩⟩
          conv => cbv
          rcases Bool.eq_false_or_eq_true q5 with rfl | rfl <;> conv => cbv
          · refine r_scat (u := f4) (v := ([114] : List UInt8)) m.sX (by first | omega | (simp only [List.length_cons, List.length_nil]; omega) | (simp; omega)) fun s23 hs23 => ?_   -- s23 = f4 ++ ([114] : List UInt8)
            have ls23 : (s23.length : Int) = f4.length + ([114] : List UInt8).length := by rw [hs23, List.length_append, Int.natCast_add]
            try simp only [List.length_cons, List.length_nil] at ls23
            conv => cbv
            refine hE _ (a10, s22, s21, s23) ?_ ?_ ⟨(by (try dsimp only) <;> first | omega | rfl | (simp [*]; done) | (rw [b1]; simp [*]; done)), (by (try dsimp only) <;> first | omega | rfl | (simp [*]; done) | (rw [b2]; simp [*]; done)), (by (try dsimp only) <;> first | omega | rfl | (simp [*]; done) | (rw [cu]; simp [*]; done))⟩ (by first | omega | (dsimp only; omega))
            · cbv
            · cbv
          · refine r_scat (u := f4) (v := ([98] : List UInt8)) m.sX (by first | omega | (simp only [List.length_cons, List.length_nil]; omega) | (simp; omega)) fun s24 hs24 => ?_   -- s24 = f4 ++ ([98] : List UInt8)
            have ls24 : (s24.length : Int) = f4.length + ([98] : List UInt8).length := by rw [hs24, List.length_append, Int.natCast_add]
            try simp only [List.length_cons, List.length_nil] at ls24
            conv => cbv
            refine hE _ (a10, s22, s21, s24) ?_ ?_ ⟨(by (try dsimp only) <;> first | omega | rfl | (simp [*]; done) | (rw [b1]; simp [*]; done)), (by (try dsimp only) <;> first | omega | rfl | (simp [*]; done) | (rw [b2]; simp [*]; done)), (by (try dsimp only) <;> first | omega | rfl | (simp [*]; done) | (rw [cu]; simp [*]; done))⟩ (by first | omega | (dsimp only; omega))
            · cbv
            · cbv
        · refine r_scat (u := f4) (v := ([98] : List UInt8)) m.sX (by first | omega | (simp only [List.length_cons, List.length_nil]; omega) | (simp; omega)) fun s25 hs25 => ?_   -- s25 = f4 ++ ([98] : List UInt8)
          have ls25 : (s25.length : Int) = f4.length + ([98] : List UInt8).length := by rw [hs25, List.length_append, Int.natCast_add]
          try simp only [List.length_cons, List.length_nil] at ls25
          conv => cbv
          refine hE _ (a9, s20, s21, s25) ?_ ?_ ⟨(by (try dsimp only) <;> first | omega | rfl | (simp [*]; done) | (rw [b1]; simp [*]; done)), (by (try dsimp only) <;> first | omega | rfl | (simp [*]; done) | (rw [b2]; simp [*]; done)), (by (try dsimp only) <;> first | omega | rfl | (simp [*]; done) | (rw [cu]; simp [*]; done))⟩ (by first | omega | (dsimp only; omega))
          · cbv
          · cbv
      · refine hF _ _ ?_
        conv => cbv
        refine r_mcall m.sX (cPick_ok code a8 s19 24 h (by omega) (by omega)) ?_
        rintro _ _ ⟨q6, rfl, ⟨a11, s26, rfl, ea11, fa11⟩, bq6, cq6, dq6⟩
        conv => cbv
        refine r_eql m.sX (fun h9 => ?_) (fun h9 => ?_) <;> conv => cbv
        · refine r_scat (u := f4) (v := ([98] : List UInt8)) m.sX (by first | omega | (simp only [List.length_cons, List.length_nil]; omega) | (simp; omega)) fun s27 hs27 => ?_   -- s27 = f4 ++ ([98] : List UInt8)
          have ls27 : (s27.length : Int) = f4.length + ([98] : List UInt8).length := by rw [hs27, List.length_append, Int.natCast_add]
          try simp only [List.length_cons, List.length_nil] at ls27
          conv => cbv
          exact hQ (.agg [.str f3, .str s27]) (cCur code a11 s26) ⟨(f3, s27), rfl, ⟨a11, s26, rfl, by omega, by omega⟩, (by first | omega | (dsimp only; omega)), (by first | omega | (dsimp only; omega))⟩   -- leaf 6
        · refine r_eql m.sX (fun h10 => ?_) (fun h10 => ?_) <;> conv => cbv
          · refine r_scat (u := ([32] : List UInt8)) (v := f3) m.sX (by first | omega | (simp only [List.length_cons, List.length_nil]; omega) | (simp; omega)) fun s28 hs28 => ?_   -- s28 = ([32] : List UInt8) ++ f3
            have ls28 : (s28.length : Int) = ([32] : List UInt8).length + f3.length := by rw [hs28, List.length_append, Int.natCast_add]
            try simp only [List.length_cons, List.length_nil] at ls28
            conv => cbv
            refine r_scat (u := ([114] : List UInt8)) (v := f4) m.sX (by first | omega | (simp only [List.length_cons, List.length_nil]; omega) | (simp; omega)) fun s29 hs29 => ?_   -- s29 = ([114] : List UInt8) ++ f4
            have ls29 : (s29.length : Int) = ([114] : List UInt8).length + f4.length := by rw [hs29, List.length_append, Int.natCast_add]
            try simp only [List.length_cons, List.length_nil] at ls29
            conv => cbv
            exact hQ (.agg [.str s28, .str s29]) (cCur code a11 s26) ⟨(s28, s29), rfl, ⟨a11, s26, rfl, by omega, by omega⟩, (by first | omega | (dsimp only; omega)), (by first | omega | (dsimp only; omega))⟩   -- leaf 7
          · refine r_eql m.sX (fun h11 => ?_) (fun h11 => ?_) <;> conv => cbv
            · refine r_scat (u := ([65] : List UInt8)) (v := f3) m.sX (by first | omega | (simp only [List.length_cons, List.length_nil]; omega) | (simp; omega)) fun s30 hs30 => ?_   -- s30 = ([65] : List UInt8) ++ f3
              have ls30 : (s30.length : Int) = ([65] : List UInt8).length + f3.length := by rw [hs30, List.length_append, Int.natCast_add]
              try simp only [List.length_cons, List.length_nil] at ls30
              conv => cbv
              refine r_scat (u := ([98] : List UInt8)) (v := f4) m.sX (by first | omega | (simp only [List.length_cons, List.length_nil]; omega) | (simp; omega)) fun s31 hs31 => ?_   -- s31 = ([98] : List UInt8) ++ f4
              have ls31 : (s31.length : Int) = ([98] : List UInt8).length + f4.length := by rw [hs31, List.length_append, Int.natCast_add]
              try simp only [List.length_cons, List.length_nil] at ls31
              conv => cbv
              exact hQ (.agg [.str s30, .str s31]) (cCur code a11 s26) ⟨(s30, s31), rfl, ⟨a11, s26, rfl, by omega, by omega⟩, (by first | omega | (dsimp only; omega)), (by first | omega | (dsimp only; omega))⟩   -- leaf 8
            · refine r_eql m.sX (fun h12 => ?_) (fun h12 => ?_) <;> conv => cbv
              · refine r_scat (u := ([97] : List UInt8)) (v := f3) m.sX (by first | omega | (simp only [List.length_cons, List.length_nil]; omega) | (simp; omega)) fun s32 hs32 => ?_   -- s32 = ([97] : List UInt8) ++ f3
                have ls32 : (s32.length : Int) = ([97] : List UInt8).length + f3.length := by rw [hs32, List.length_append, Int.natCast_add]
                try simp only [List.length_cons, List.length_nil] at ls32
                conv => cbv
                refine r_scat (u := ([103] : List UInt8)) (v := f4) m.sX (by first | omega | (simp only [List.length_cons, List.length_nil]; omega) | (simp; omega)) fun s33 hs33 => ?_   -- s33 = ([103] : List UInt8) ++ f4
                have ls33 : (s33.length : Int) = ([103] : List UInt8).length + f4.length := by rw [hs33, List.length_append, Int.natCast_add]
                try simp only [List.length_cons, List.length_nil] at ls33
                conv => cbv
                exact hQ (.agg [.str s32, .str s33]) (cCur code a11 s26) ⟨(s32, s33), rfl, ⟨a11, s26, rfl, by omega, by omega⟩, (by first | omega | (dsimp only; omega)), (by first | omega | (dsimp only; omega))⟩   -- leaf 9
              · exact hQ (.agg [.str f3, .str f4]) (cCur code a11 s26) ⟨(f3, f4), rfl, ⟨a11, s26, rfl, by omega, by omega⟩, (by first | omega | (dsimp only; omega)), (by first | omega | (dsimp only; omega))⟩   -- leaf 10

theorem cInked_ex (code : List Int) (b0 t0 : Int) : ∃ r cs, (∃ (q : Inked), r = PV.agg (cInked q) ∧ CurTo code b0 300 cs ∧ ((q.1.length : Int) ≤ 60) ∧ ((q.2.length : Int) ≤ 60)) :=
  ⟨_, _, ([], []), rfl, ⟨b0, t0, rfl, by omega, by omega⟩, (by first | omega | simp), (by first | omega | simp)⟩

theorem cInk_ok (code : List Int) (b0 t0 : Int)  (h : CurIn code) (h0 : 0 ≤ b0) (hk : b0 ≤ 899999999999998000)  : OkM Try.prog 33 (cCur code b0 t0) [] (fun r cs => ∃ (q : List UInt8), r = .str q ∧ CurTo code b0 2 cs ∧ ((q.length : Int) ≤ 1)) :=
  fnM_intro envOk fieldsOk mixed Try.func33 rfl fun κ X Y L Q m hQ => by
    conv => cbv
    refine r_mcall m.sX (cOfL_ok code b0 t0 ([([98] : List UInt8), ([114] : List UInt8), ([98] : List UInt8), ([114] : List UInt8), ([98] : List UInt8), ([114] : List UInt8), ([103] : List UInt8)]) h (by omega) (by omega) (by first | rfl | assumption | omega | (simp only [List.length_append, List.length_cons, List.length_nil] at *; omega)) (by first | rfl | assumption | omega | (simp only [List.length_append, List.length_cons, List.length_nil] at *; omega))) ?_
    rintro _ _ ⟨q1, rfl, ⟨a1, s1, rfl, ea1, fa1⟩, bq1_1⟩
    conv => cbv
    exact hQ (.str q1) (cCur code a1 s1) ⟨q1, rfl, ⟨a1, s1, rfl, by omega, by omega⟩, (by first | omega | exact inks_len _ bq1_1)⟩   -- leaf 1

theorem cInk_ex (code : List Int) (b0 t0 : Int) : ∃ r cs, (∃ (q : List UInt8), r = PV.str q ∧ CurTo code b0 2 cs ∧ ((q.length : Int) ≤ 1)) :=
  ⟨_, _, [], rfl, ⟨b0, t0, rfl, by omega, by omega⟩, (by first | omega | simp)⟩

-- lacks spec.DrawRegisterShift
-- lacks spec.DrawBlankUnits
theorem drawIsInked_ok (code : List Int) (h : CurIn code) : OkA Try.prog 21 [.isl 1 (rows cU8 code)] (fun r => ∃ (q : Inked), r = .agg (cInked q) ∧ ((q.1.length : Int) ≤ 60)) :=
  fn_intro envOk fieldsOk mixed Try.func21 rfl fun κ X Y L Q m hQ => by
    conv => cbv
    refine r_mcall m.sX (cInked_ok code 0 0 h (by omega) (by omega)) ?_
    rintro _ _ ⟨⟨q1A, q1B⟩, rfl, ⟨a1, s1, rfl, ea1, fa1⟩, bq1_1, bq1_2⟩
    try dsimp only at bq1_1 bq1_2
    conv => cbv
    exact hQ (.agg [.str q1A, .str q1B]) ⟨(q1A, q1B), rfl, (by first | omega | assumption | (simp; done) | (simp [*]; done) | (simp at *; omega))⟩   -- leaf 1

-- lacks spec.DrawInkRuns
end Go.Proofs.Ytjohfigipllpoaa.Ai
