/- Contracts of what the law on register draws. -/
import Derived.Test.YtkcbhjnkpbeigaaInk2
namespace Go.Proofs.Ytkcbhjnkpbeigaa.Ai
open Go Go.Proofs
set_option maxRecDepth 10000
set_option maxHeartbeats 4000000
set_option linter.unusedVariables false

theorem cOf_ok (code : List Int) (b0 t0 : Int) (list : List (List UInt8)) (h : CurIn code) (h0 : 0 ≤ b0) (hk : b0 ≤ 899999999999998000) (hl : 0 < list.length) (hm : list.length ≤ 200) : OkM Try.prog 146 (cCur code b0 t0) [.isl 1 (rows cStr list)] (fun r cs => ∃ (q : List UInt8), r = .str q ∧ CurTo code b0 2 cs ∧ (q ∈ list)) :=
  fnM_intro envOk fieldsOk mixed Try.func146 rfl fun κ X Y L Q m hQ => by
    conv => cbv
    refine r_lenR m.sX fun n1 hn1 mn1 => ?_
    conv => cbv
    refine r_mcall m.sX (cPick_ok code b0 t0 n1 h (by omega) (by omega)) ?_
    rintro _ _ ⟨q1, rfl, ⟨a1, s1, rfl, ea1, fa1⟩, bq1, cq1, dq1⟩
    conv => cbv
    refine r_index m.sX (by omega) (by omega) fun x1 hx1 => ?_
    conv => cbv
    have mx1 := get_mem hx1
    exact hQ (.str x1) (cCur code a1 s1) ⟨x1, rfl, ⟨a1, s1, rfl, by omega, by omega⟩, (by first | omega | exact mx1)⟩   -- leaf 1

theorem cOfL_ok (code : List Int) (b0 t0 : Int) (list : List (List UInt8)) (h : CurIn code) (h0 : 0 ≤ b0) (hk : b0 ≤ 899999999999998000) (hl : 0 < list.length) (hm : list.length ≤ 200) : OkM Try.prog 146 (cCur code b0 t0) [.isl 1 (list.map cStr)] (fun r cs => ∃ (q : List UInt8), r = .str q ∧ CurTo code b0 2 cs ∧ q ∈ list) := by
  have := cOf_ok code b0 t0 list h h0 hk hl hm
  rwa [rows_eq] at this
theorem cFont_ok (code : List Int) (b0 t0 : Int)  (h : CurIn code) (h0 : 0 ≤ b0) (hk : b0 ≤ 899999999999890000)  : OkM Try.prog 153 (cCur code b0 t0) [] (fun r cs => ∃ (q : List FSort), r = .fr 56 2 (rows cSort q) ∧ CurTo code b0 110 cs ∧ ((q.length : Int) ≤ 12) ∧ (1 ≤ q.length)) :=
  fnM_intro envOk fieldsOk mixed Try.func153 rfl fun κ X Y L Q m hQ => by
    conv => cbv
    refine r_lenN 12 m.sX rfl (by omega) fun n1 hn1 => ?_   -- n1 = length of [([97] : List UInt8), ([97, 98] : List UInt8), ([97, 98, 99] : List UInt8), ([98] : List UInt8), ([98, 98] : List UInt8), ([99] : List UInt8), ([100] : List UInt8), ([101] : List UInt8), ([102] : List UInt8), ([102, 102] : List UInt8), ([102, 105] : List UInt8), ([105] : List UInt8)]
    conv => cbv
    refine r_loopF (α := Int × Int × List FSort × List (List UInt8) × Int) m 48 [7, 8] [⟨0, 1, 0, 0, 0⟩, ⟨3, 25, 56, 2, 0⟩, ⟨6, 49, 9, 1, 0⟩] (fun σ => [(0, .optr 1 0 0 0 0), (3, .osl 25 0), (6, .osl 49 0), (7, .int .i64 n1), (8, .int .i64 σ.2.2.2.2)]) (fun σ => [(1, 0, .box (cCur code σ.1 σ.2.1)), (25, 0, .row 56 2 (rows cSort σ.2.2.1)), (49, 0, .row 9 1 (rows cStr σ.2.2.2.1))])
      (fun σ => (0 ≤ σ.2.2.2.2) ∧ (σ.2.2.2.2 ≤ n1) ∧ (b0 ≤ σ.1 ∧ σ.1 ≤ b0 + 8 * σ.2.2.2.2) ∧ ((σ.2.2.1.length : Int) ≤ σ.2.2.2.2) ∧ (σ.2.2.2.1 = codesL)) (fun σ => (n1 - σ.2.2.2.2).toNat) (b0, t0, [], [([97] : List UInt8), ([97, 98] : List UInt8), ([97, 98, 99] : List UInt8), ([98] : List UInt8), ([98, 98] : List UInt8), ([99] : List UInt8), ([100] : List UInt8), ([101] : List UInt8), ([102] : List UInt8), ([102, 102] : List UInt8), ([102, 105] : List UInt8), ([105] : List UInt8)], 0) ?_ ?_ ?_ ?_
    · cbv
    · (try dsimp only); simp only [rows_cons, rows_nil]; cbv
    · exact ⟨(by (try dsimp only); first | omega | (simp only [List.length_nil]; omega)), (by (try dsimp only); first | omega | (simp only [List.length_nil]; omega)), (by (try dsimp only); first | omega | (simp only [List.length_nil]; omega)), (by (try dsimp only) <;> first | omega | rfl | (simp [*]; done)), (by (try dsimp only) <;> (rfl))⟩
    rintro ⟨a1, s1, f, ys1, i1⟩ ⟨lo1, hi1, cl1, fl, y⟩ E hE F hF
    dsimp only at lo1 hi1 cl1 fl y
    have yl : (ys1.length : Int) = 12 := by rw [y]; rfl
    conv => cbv
    refine r_lss m.sX (fun h1 => ?_) (fun h1 => ?_) <;> conv => cbv
    · refine r_oindex m.sX (by omega) (by omega) ?_
      conv => cbv
      obtain ⟨code_, hcode_⟩ := get_ex (xs := ys1) (i := Int.toNat i1) (by omega)
      have mcode_ := get_mem hcode_
      have dcode_ := drop_cons hcode_
      have kcode_ := take_snoc hcode_
      have jcode_ : (i1 + 1).toNat = Int.toNat i1 + 1 := by omega
      have bc := codes_len code_ (by rw [← y]; exact mcode_)
      refine r_oload m.sX hcode_ (Nat.le_of_ble_eq_true rfl) ?_
      conv => cbv
      refine r_slen (u := code_) m.sX fun n2 hn2 mn2 => ?_   -- n2 = length of code_
      conv => cbv
      refine r_eql m.sX (fun h2 => ?_) (fun h2 => ?_) <;> conv => cbv
      · refine r_mcall m.sX (cOne_ok code a1 s1 12 h (by omega) (by omega)) ?_
        rintro _ _ ⟨q1, rfl, ⟨a2, s2, rfl, ea2, fa2⟩⟩
        conv => cbv
        rcases Bool.eq_false_or_eq_true q1 with rfl | rfl <;> conv => cbv
        · refine r_slen (u := code_) m.sX fun n3 hn3 mn3 => ?_   -- n3 = length of code_
          conv => cbv
          refine r_gtr m.sX (fun h3 => ?_) (fun h3 => ?_) <;> conv => cbv
          · refine r_mcall m.sX (cOne_ok code a2 s2 3 h (by omega) (by omega)) ?_
            rintro _ _ ⟨q2, rfl, ⟨a3, s3, rfl, ea3, fa3⟩⟩
            conv => cbv
            rcases Bool.eq_false_or_eq_true q2 with rfl | rfl <;> conv => cbv
            · refine r_slen (u := code_) m.sX fun n4 hn4 mn4 => ?_   -- n4 = length of code_
              conv => cbv
              refine r_mcall m.sX (cPick_ok code a3 s3 4 h (by omega) (by omega)) ?_
              rintro _ _ ⟨q3, rfl, ⟨a4, s4, rfl, ea4, fa4⟩, bq3, cq3, dq3⟩
              conv => cbv
              refine r_addf m.sX (by omega) (by omega) fun r1 hr1 => ?_
              conv => cbv
              have mb := mul_bound (a := n4) (A := 3) (b := r1) (B := 5) (by omega) (by omega) (by omega) (by omega)
              refine r_mulf m.sX (by first | omega | (subst_vars; omega)) (by first | omega | (subst_vars; omega)) fun r2 hr2 => ?_
              conv => cbv
              refine r_addf m.sX (by omega) (by omega) fun r3 hr3 => ?_
              conv => cbv
              refine r_append1 ((code_, r3)) m.sX rfl (by first | omega | (dsimp only; omega)) (by first | omega | (dsimp only; omega)) fun f_2 hf_2 => ?_
              conv => cbv
              have lf_2 : (f_2.length : Int) = f.length + 1 := by rw [hf_2]; first | done | (simp; done) | (simp; omega)
              refine r_addf m.sX (by omega) (by omega) fun r4 hr4 => ?_
              conv => cbv
              try have tr4 : Int.toNat r4 = Int.toNat i1 + 1 := by omega
              refine hE _ (a4, s4, f_2, ys1, r4) ?_ ?_ ⟨(by (try dsimp only); first | omega | (simp only [List.length_nil]; omega)), (by (try dsimp only); first | omega | (simp only [List.length_nil]; omega)), (by (try dsimp only); first | omega | (simp only [List.length_nil]; omega)), (by (try dsimp only) <;> first | omega | rfl | (simp [*]; done) | (rw [fl]; simp [*]; done)), (by (try dsimp only) <;> (exact y))⟩ (by first | omega | (dsimp only; omega))
              · cbv
              · cbv
            · refine r_addf m.sX (by omega) (by omega) fun r5 hr5 => ?_
              conv => cbv
              try have tr5 : Int.toNat r5 = Int.toNat i1 + 1 := by omega
              refine hE _ (a3, s3, f, ys1, r5) ?_ ?_ ⟨(by (try dsimp only); first | omega | (simp only [List.length_nil]; omega)), (by (try dsimp only); first | omega | (simp only [List.length_nil]; omega)), (by (try dsimp only); first | omega | (simp only [List.length_nil]; omega)), (by (try dsimp only) <;> first | omega | rfl | (simp [*]; done) | (rw [fl]; simp [*]; done)), (by (try dsimp only) <;> (exact y))⟩ (by first | omega | (dsimp only; omega))
              · cbv
              · cbv
          · refine r_addf m.sX (by omega) (by omega) fun r6 hr6 => ?_
            conv => cbv
            try have tr6 : Int.toNat r6 = Int.toNat i1 + 1 := by omega
            refine hE _ (a2, s2, f, ys1, r6) ?_ ?_ ⟨(by (try dsimp only); first | omega | (simp only [List.length_nil]; omega)), (by (try dsimp only); first | omega | (simp only [List.length_nil]; omega)), (by (try dsimp only); first | omega | (simp only [List.length_nil]; omega)), (by (try dsimp only) <;> first | omega | rfl | (simp [*]; done) | (rw [fl]; simp [*]; done)), (by (try dsimp only) <;> (exact y))⟩ (by first | omega | (dsimp only; omega))
            · cbv
            · cbv
        · refine r_slen (u := code_) m.sX fun n5 hn5 mn5 => ?_   -- n5 = length of code_
          conv => cbv
          refine r_mcall m.sX (cPick_ok code a2 s2 4 h (by omega) (by omega)) ?_
          rintro _ _ ⟨q4, rfl, ⟨a5, s5, rfl, ea5, fa5⟩, bq4, cq4, dq4⟩
          conv => cbv
          refine r_addf m.sX (by omega) (by omega) fun r7 hr7 => ?_
          conv => cbv
          have mb := mul_bound (a := n5) (A := 3) (b := r7) (B := 5) (by omega) (by omega) (by omega) (by omega)
          refine r_mulf m.sX (by first | omega | (subst_vars; omega)) (by first | omega | (subst_vars; omega)) fun r8 hr8 => ?_
          conv => cbv
          refine r_addf m.sX (by omega) (by omega) fun r9 hr9 => ?_
          conv => cbv
          refine r_append1 ((code_, r9)) m.sX rfl (by first | omega | (dsimp only; omega)) (by first | omega | (dsimp only; omega)) fun f_3 hf_3 => ?_
          conv => cbv
          have lf_3 : (f_3.length : Int) = f.length + 1 := by rw [hf_3]; first | done | (simp; done) | (simp; omega)
          refine r_addf m.sX (by omega) (by omega) fun r10 hr10 => ?_
          conv => cbv
          try have tr10 : Int.toNat r10 = Int.toNat i1 + 1 := by omega
          refine hE _ (a5, s5, f_3, ys1, r10) ?_ ?_ ⟨(by (try dsimp only); first | omega | (simp only [List.length_nil]; omega)), (by (try dsimp only); first | omega | (simp only [List.length_nil]; omega)), (by (try dsimp only); first | omega | (simp only [List.length_nil]; omega)), (by (try dsimp only) <;> first | omega | rfl | (simp [*]; done) | (rw [fl]; simp [*]; done)), (by (try dsimp only) <;> (exact y))⟩ (by first | omega | (dsimp only; omega))
          · cbv
          · cbv
      · refine r_slen (u := code_) m.sX fun n6 hn6 mn6 => ?_   -- n6 = length of code_
        conv => cbv
        refine r_gtr m.sX (fun h4 => ?_) (fun h4 => ?_) <;> conv => cbv
        · refine r_mcall m.sX (cOne_ok code a1 s1 3 h (by omega) (by omega)) ?_
          rintro _ _ ⟨q5, rfl, ⟨a6, s6, rfl, ea6, fa6⟩⟩
          conv => cbv
          rcases Bool.eq_false_or_eq_true q5 with rfl | rfl <;> conv => cbv
          · refine r_slen (u := code_) m.sX fun n7 hn7 mn7 => ?_   -- n7 = length of code_
            conv => cbv
            refine r_mcall m.sX (cPick_ok code a6 s6 4 h (by omega) (by omega)) ?_
            rintro _ _ ⟨q6, rfl, ⟨a7, s7, rfl, ea7, fa7⟩, bq6, cq6, dq6⟩
            conv => cbv
            refine r_addf m.sX (by omega) (by omega) fun r11 hr11 => ?_
            conv => cbv
            have mb := mul_bound (a := n7) (A := 3) (b := r11) (B := 5) (by omega) (by omega) (by omega) (by omega)
            refine r_mulf m.sX (by first | omega | (subst_vars; omega)) (by first | omega | (subst_vars; omega)) fun r12 hr12 => ?_
            conv => cbv
            refine r_addf m.sX (by omega) (by omega) fun r13 hr13 => ?_
            conv => cbv
            refine r_append1 ((code_, r13)) m.sX rfl (by first | omega | (dsimp only; omega)) (by first | omega | (dsimp only; omega)) fun f_4 hf_4 => ?_
            conv => cbv
            have lf_4 : (f_4.length : Int) = f.length + 1 := by rw [hf_4]; first | done | (simp; done) | (simp; omega)
            refine r_addf m.sX (by omega) (by omega) fun r14 hr14 => ?_
            conv => cbv
            try have tr14 : Int.toNat r14 = Int.toNat i1 + 1 := by omega
            refine hE _ (a7, s7, f_4, ys1, r14) ?_ ?_ ⟨(by (try dsimp only); first | omega | (simp only [List.length_nil]; omega)), (by (try dsimp only); first | omega | (simp only [List.length_nil]; omega)), (by (try dsimp only); first | omega | (simp only [List.length_nil]; omega)), (by (try dsimp only) <;> first | omega | rfl | (simp [*]; done) | (rw [fl]; simp [*]; done)), (by (try dsimp only) <;> (exact y))⟩ (by first | omega | (dsimp only; omega))
            · cbv
            · cbv
          · refine r_addf m.sX (by omega) (by omega) fun r15 hr15 => ?_
            conv => cbv
            try have tr15 : Int.toNat r15 = Int.toNat i1 + 1 := by omega
            refine hE _ (a6, s6, f, ys1, r15) ?_ ?_ ⟨(by (try dsimp only); first | omega | (simp only [List.length_nil]; omega)), (by (try dsimp only); first | omega | (simp only [List.length_nil]; omega)), (by (try dsimp only); first | omega | (simp only [List.length_nil]; omega)), (by (try dsimp only) <;> first | omega | rfl | (simp [*]; done) | (rw [fl]; simp [*]; done)), (by (try dsimp only) <;> (exact y))⟩ (by first | omega | (dsimp only; omega))
            · cbv
            · cbv
        · refine r_addf m.sX (by omega) (by omega) fun r16 hr16 => ?_
          conv => cbv
          try have tr16 : Int.toNat r16 = Int.toNat i1 + 1 := by omega
          refine hE _ (a1, s1, f, ys1, r16) ?_ ?_ ⟨(by (try dsimp only); first | omega | (simp only [List.length_nil]; omega)), (by (try dsimp only); first | omega | (simp only [List.length_nil]; omega)), (by (try dsimp only); first | omega | (simp only [List.length_nil]; omega)), (by (try dsimp only) <;> first | omega | rfl | (simp [*]; done) | (rw [fl]; simp [*]; done)), (by (try dsimp only) <;> (exact y))⟩ (by first | omega | (dsimp only; omega))
          · cbv
          · cbv
    · have dz_i1 := drop_end (xs := [([97] : List UInt8), ([97, 98] : List UInt8), ([97, 98, 99] : List UInt8), ([98] : List UInt8), ([98, 98] : List UInt8), ([99] : List UInt8), ([100] : List UInt8), ([101] : List UInt8), ([102] : List UInt8), ([102, 102] : List UInt8), ([102, 105] : List UInt8), ([105] : List UInt8)]) (i := Int.toNat i1) (by simp only [List.length_cons, List.length_nil]; omega)
      have tz_i1 := take_end (xs := [([97] : List UInt8), ([97, 98] : List UInt8), ([97, 98, 99] : List UInt8), ([98] : List UInt8), ([98, 98] : List UInt8), ([99] : List UInt8), ([100] : List UInt8), ([101] : List UInt8), ([102] : List UInt8), ([102, 102] : List UInt8), ([102, 105] : List UInt8), ([105] : List UInt8)]) (i := Int.toNat i1) (by simp only [List.length_cons, List.length_nil]; omega)
      refine hF _ _ ?_
      conv => cbv
      refine r_lenR m.sX fun n8 hn8 mn8 => ?_
      conv => cbv
      refine r_eql m.sX (fun h5 => ?_) (fun h5 => ?_) <;> conv => cbv
      · exact hQ (.fr 56 2 [[.str ([97] : List UInt8), .int .i64 9]]) (cCur code a1 s1) ⟨[(([97] : List UInt8), 9)], (by first | rfl | (simp only [rows_nil]; rfl) | (simp only [rows_cons, rows_nil]; rfl)), ⟨a1, s1, rfl, by omega, by omega⟩, (by first | omega | assumption | (simp; done) | (simp [*]; done) | (simp at *; omega)), (by first | omega | assumption | (simp; done) | (simp [*]; done) | (simp at *; omega))⟩   -- leaf 1
      · exact hQ (.fr 56 2 (rows cSort f)) (cCur code a1 s1) ⟨f, rfl, ⟨a1, s1, rfl, by omega, by omega⟩, (by first | omega | assumption | (simp; done) | (simp [*]; done) | (simp at *; omega)), (by first | omega | assumption | (simp; done) | (simp [*]; done) | (simp at *; omega))⟩   -- leaf 2

theorem cAnyFont_ok (code : List Int) (b0 t0 : Int)  (h : CurIn code) (h0 : 0 ≤ b0) (hk : b0 ≤ 899999999999870000)  : OkM Try.prog 98 (cCur code b0 t0) [] (fun r cs => ∃ (q : List FSort), r = .fr 56 2 (rows cSort q) ∧ CurTo code b0 130 cs ∧ ((q.length : Int) ≤ 40)) :=
  OkM.unnil 56 2 (fnM_intro envOk fieldsOk mixed Try.func98 rfl fun κ X Y L Q m hQ => by
    conv => cbv
    refine r_mcall m.sX (cFont_ok code b0 t0 h (by omega) (by omega)) ?_
    rintro _ _ ⟨f, rfl, ⟨a1, s1, rfl, ea1, fa1⟩, bf_1, bf_2⟩
    conv => cbv
    refine r_lenR m.sX fun n1 hn1 mn1 => ?_
    conv => cbv
    refine r_mcall m.sX (cPick_ok code a1 s1 n1 h (by omega) (by omega)) ?_
    rintro _ _ ⟨k, rfl, ⟨a2, s2, rfl, ea2, fa2⟩, bk, ck, dk⟩
    conv => cbv
    refine r_mcall m.sX (cPick_ok code a2 s2 30 h (by omega) (by omega)) ?_
    rintro _ _ ⟨q1, rfl, ⟨a3, s3, rfl, ea3, fa3⟩, bq1, cq1, dq1⟩
    conv => cbv
    refine r_eql m.sX (fun h1 => ?_) (fun h1 => ?_) <;> conv => cbv
    · refine r_mcall m.sX (cOfL_ok code a3 s3 ([([] : List UInt8), ([65] : List UInt8), ([97, 98, 99, 100] : List UInt8), ([97] : List UInt8), ([122, 122, 122] : List UInt8)]) h (by omega) (by omega) (by first | rfl | assumption | omega | (simp only [List.length_append, List.length_cons, List.length_nil] at *; omega)) (by first | rfl | assumption | omega | (simp only [List.length_append, List.length_cons, List.length_nil] at *; omega))) ?_
      rintro _ _ ⟨q2, rfl, ⟨a4, s4, rfl, ea4, fa4⟩, bq2_1⟩
      conv => cbv
      refine r_oindex m.sX (by omega) (by omega) ?_
      conv => cbv
      obtain ⟨⟨y1A, y1B⟩, hy1⟩ := get_ex (xs := f) (i := Int.toNat k) (by omega)
      refine r_ostore (l := Int.toNat k) (q2, y1B) m.sX hy1 (Nat.le_of_ble_eq_true rfl) rfl fun zs1 hzs1 => ?_   -- zs1 = f.set k (q2, y1B)
      have lzs1 : (zs1.length : Int) = f.length := by rw [hzs1]; first | done | (simp; done) | (simp; omega)
      conv => cbv
      exact hQ (.fr 56 2 (rows cSort zs1)) (cCur code a4 s4) ⟨zs1, rfl, ⟨a4, s4, rfl, by omega, by omega⟩, (by first | omega | assumption | (simp; done) | (simp [*]; done) | (simp at *; omega))⟩   -- leaf 1
    · refine r_eql m.sX (fun h2 => ?_) (fun h2 => ?_) <;> conv => cbv
      · refine r_mcall m.sX (cAmong_ok code a3 s3 ([0, 1, 54, 55, -1]) (by simp) h (by omega) (by omega)) ?_
        rintro _ _ ⟨q3, rfl, ⟨a5, s5, rfl, ea5, fa5⟩, bq3⟩
        simp only [List.mem_cons, List.not_mem_nil, or_false] at bq3
        conv => cbv
        refine r_oindex m.sX (by omega) (by omega) ?_
        conv => cbv
        obtain ⟨⟨y2A, y2B⟩, hy2⟩ := get_ex (xs := f) (i := Int.toNat k) (by omega)
        refine r_ostore (l := Int.toNat k) (y2A, q3) m.sX hy2 (Nat.le_of_ble_eq_true rfl) rfl fun zs2 hzs2 => ?_   -- zs2 = f.set k (y2A, q3)
        have lzs2 : (zs2.length : Int) = f.length := by rw [hzs2]; first | done | (simp; done) | (simp; omega)
        conv => cbv
        exact hQ (.fr 56 2 (rows cSort zs2)) (cCur code a5 s5) ⟨zs2, rfl, ⟨a5, s5, rfl, by omega, by omega⟩, (by first | omega | assumption | (simp; done) | (simp [*]; done) | (simp at *; omega))⟩   -- leaf 2
      · refine r_eql m.sX (fun h3 => ?_) (fun h3 => ?_) <;> conv => cbv
        · exact hQ (.nil) (cCur code a3 s3) ⟨[], (by first | rfl | (simp only [rows_nil]; rfl) | (simp only [rows_cons, rows_nil]; rfl)), ⟨a3, s3, rfl, by omega, by omega⟩, (by first | omega | assumption | (simp; done) | (simp [*]; done) | (simp at *; omega))⟩   -- leaf 3
        · refine r_eql m.sX (fun h4 => ?_) (fun h4 => ?_) <;> conv => cbv
          · refine r_mcall m.sX (cPick_ok code a3 s3 2 h (by omega) (by omega)) ?_
            rintro _ _ ⟨q4, rfl, ⟨a6, s6, rfl, ea6, fa6⟩, bq4, cq4, dq4⟩
            conv => cbv
            refine r_addf m.sX (by omega) (by omega) fun n hn => ?_
            conv => cbv
            refine r_loopF (α := List FSort) m 60 [5] [⟨0, 1, 0, 0, 0⟩, ⟨3, 25, 56, 2, 0⟩] (fun σ => [(0, .optr 1 0 0 0 0), (3, .osl 25 0), (5, .int .i64 n)]) (fun σ => [(1, 0, .box (cCur code a6 s6)), (25, 0, .row 56 2 (rows cSort σ))])
              (fun σ => (σ.length : Int) ≤ n) (fun σ => (n - (σ.length : Int)).toNat) ([]) ?_ ?_ ?_ ?_
            · cbv
            · (try dsimp only); simp only [rows_cons, rows_nil]; cbv
            · exact (by (try dsimp only); first | omega | (simp only [List.length_nil]; omega))
            rintro f_2 ll1 E hE F hF
            conv => cbv
            refine r_lenR m.sX fun n2 hn2 mn2 => ?_
            conv => cbv
            refine r_lss m.sX (fun h5 => ?_) (fun h5 => ?_) <;> conv => cbv
            · refine r_lenR m.sX fun n3 hn3 mn3 => ?_
              conv => cbv
              refine r_divf m.sX (by omega) (by omega) fun r1 hr1 br1 => ?_
              conv => cbv
              refine r_addf m.sX (by omega) (by omega) fun r2 hr2 => ?_
              conv => cbv
              refine r_conv m.sX fun r3 hr3 => ?_   -- r3 = uint8 of r2
              conv => cbv
              refine r_lenR m.sX fun n4 hn4 mn4 => ?_
              conv => cbv
              refine r_modf m.sX (by omega) (by omega) fun r4 hr4 br4 => ?_
              conv => cbv
              refine r_addf m.sX (by omega) (by omega) fun r5 hr5 => ?_
              conv => cbv
              refine r_conv m.sX fun r6 hr6 => ?_   -- r6 = uint8 of r5
              conv => cbv
              refine r_tostr ([r3, r6] : List Int) m.sX rfl fun s7 hs7 => ?_   -- s7 = string of bytes
              have ls7 : (s7.length : Int) = 2 := by rw [hs7]; rfl
              conv => cbv
              refine r_append1 ((s7, 9)) m.sX rfl (by first | omega | (dsimp only; omega)) (by first | omega | (dsimp only; omega)) fun f_3 hf_3 => ?_
              conv => cbv
              have lf_3 : (f_3.length : Int) = f_2.length + 1 := by rw [hf_3]; first | done | (simp; done) | (simp; omega)
              refine hE _ f_3 ?_ ?_ (by (try dsimp only); first | omega | (simp only [List.length_nil]; omega)) (by first | omega | (dsimp only; omega))
              · cbv
              · cbv
            · refine hF _ _ ?_
              conv => cbv
              exact hQ (.fr 56 2 (rows cSort f_2)) (cCur code a6 s6) ⟨f_2, rfl, ⟨a6, s6, rfl, by omega, by omega⟩, (by first | omega | assumption | (simp; done) | (simp [*]; done) | (simp at *; omega))⟩   -- leaf 4
          · exact hQ (.fr 56 2 (rows cSort f)) (cCur code a3 s3) ⟨f, rfl, ⟨a3, s3, rfl, by omega, by omega⟩, (by first | omega | assumption | (simp; done) | (simp [*]; done) | (simp at *; omega))⟩)   -- leaf 5

theorem cAnyFont_ex (code : List Int) (b0 t0 : Int) : ∃ r cs, (∃ (q : List FSort), r = PV.fr 56 2 (rows cSort q) ∧ CurTo code b0 130 cs ∧ ((q.length : Int) ≤ 40)) :=
  ⟨_, _, [], rfl, ⟨b0, t0, rfl, by omega, by omega⟩, (by first | omega | simp)⟩

theorem cInked_ok (code : List Int) (b0 t0 : Int)  (h : CurIn code) (h0 : 0 ≤ b0) (hk : b0 ≤ 899999999999700000)  : OkM Try.prog 119 (cCur code b0 t0) [] (fun r cs => ∃ (q : Inked), r = .agg (cInked q) ∧ CurTo code b0 300 cs ∧ ((q.1.length : Int) ≤ 60) ∧ ((q.2.length : Int) ≤ 60)) :=
  fnM_intro envOk fieldsOk mixed Try.func119 rfl fun κ X Y L Q m hQ => by
    conv => cbv
    refine r_mcall m.sX (cPick_ok code b0 t0 14 h (by omega) (by omega)) ?_
    rintro _ _ ⟨n, rfl, ⟨a1, s1, rfl, ea1, fa1⟩, bn, cn, dn⟩
    conv => cbv
    refine r_mcall m.sX (cOne_ok code a1 s1 12 h (by omega) (by omega)) ?_
    rintro _ _ ⟨q1, rfl, ⟨a2, s2, rfl, ea2, fa2⟩⟩
    conv => cbv
    rcases Bool.eq_false_or_eq_true q1 with rfl | rfl <;> conv => cbv
    · refine r_mcall m.sX (cPick_ok code a2 s2 2 h (by omega) (by omega)) ?_
      rintro _ _ ⟨q2, rfl, ⟨a3, s3, rfl, ea3, fa3⟩, bq2, cq2, dq2⟩
      conv => cbv
      refine r_addf m.sX (by omega) (by omega) fun n_2 hn_2 => ?_
      conv => cbv
      refine r_loopF (α := Int × Int × List UInt8 × List UInt8) m 79 [4] [⟨0, 1, 0, 0, 0⟩, ⟨2, 17, 0, 0, 0⟩, ⟨3, 25, 0, 0, 0⟩] (fun σ => [(0, .optr 1 0 0 0 0), (2, .optr 17 0 2 0 0), (3, .optr 25 0 2 0 0), (4, .int .i64 n_2)]) (fun σ => [(1, 0, .box (cCur code σ.1 σ.2.1)), (17, 0, .box [.str ([]), .str ([])]), (25, 0, .box [.str σ.2.2.1, .str σ.2.2.2])])
        (fun σ => ((σ.2.2.1.length : Int) ≤ n_2) ∧ ((σ.2.2.2.length : Int) = σ.2.2.1.length) ∧ (b0 ≤ σ.1 ∧ σ.1 ≤ b0 + 10 + 6 * (σ.2.2.1.length : Int))) (fun σ => (n_2 - (σ.2.2.1.length : Int)).toNat) (a3, s3, [], []) ?_ ?_ ?_ ?_
      · cbv
      · cbv
      · exact ⟨(by (try dsimp only) <;> (simp; omega)), (by (try dsimp only) <;> first | omega | rfl | (simp [*]; done)), (by (try dsimp only) <;> first | omega | rfl | (simp [*]; done))⟩
      rintro ⟨a4, s4, f1, f2⟩ ⟨b1, b2, cu⟩ E hE F hF
      dsimp only at b1 b2 cu
      conv => cbv
      refine r_slen (u := f1) m.sX fun n1 hn1 mn1 => ?_   -- n1 = length of f1
      conv => cbv
      refine r_lss m.sX (fun h1 => ?_) (fun h1 => ?_) <;> conv => cbv
      · refine r_mcall m.sX (cOfL_ok code a4 s4 ([([97] : List UInt8), ([98] : List UInt8), ([99] : List UInt8), ([100] : List UInt8), ([101] : List UInt8), ([102] : List UInt8), ([105] : List UInt8), ([32] : List UInt8)]) h (by omega) (by omega) (by first | rfl | assumption | omega | (simp only [List.length_append, List.length_cons, List.length_nil] at *; omega)) (by first | rfl | assumption | omega | (simp only [List.length_append, List.length_cons, List.length_nil] at *; omega))) ?_
        rintro _ _ ⟨letter, rfl, ⟨a5, s5, rfl, ea5, fa5⟩, bletter_1⟩
        have bl := letters_len letter bletter_1
        conv => cbv
        refine r_scat (u := f1) (v := letter) m.sX (by first | omega | (simp only [List.length_cons, List.length_nil]; omega) | (simp; omega)) fun s6 hs6 => ?_   -- s6 = f1 ++ letter
        have ls6 : (s6.length : Int) = f1.length + letter.length := by rw [hs6, List.length_append, Int.natCast_add]
        try simp only [List.length_cons, List.length_nil] at ls6
        conv => cbv
        refine r_sneq m.sX (fun h2 => ?_) (fun h2 => ?_) <;> conv => cbv
        · refine r_mcall m.sX (cOne_ok code a5 s5 3 h (by omega) (by omega)) ?_
          rintro _ _ ⟨q3, rfl, ⟨a6, s7, rfl, ea6, fa6⟩⟩
          conv => cbv
          rcases Bool.eq_false_or_eq_true q3 with rfl | rfl <;> conv => cbv
          · refine r_scat (u := f2) (v := ([114] : List UInt8)) m.sX (by first | omega | (simp only [List.length_cons, List.length_nil]; omega) | (simp; omega)) fun s8 hs8 => ?_   -- s8 = f2 ++ ([114] : List UInt8)
            have ls8 : (s8.length : Int) = f2.length + ([114] : List UInt8).length := by rw [hs8, List.length_append, Int.natCast_add]
            try simp only [List.length_cons, List.length_nil] at ls8
            conv => cbv
            refine hE _ (a6, s7, s6, s8) ?_ ?_ ⟨(by (try dsimp only) <;> first | omega | rfl | (simp [*]; done) | (rw [b1]; simp [*]; done)), (by (try dsimp only) <;> first | omega | rfl | (simp [*]; done) | (rw [b2]; simp [*]; done)), (by (try dsimp only) <;> first | omega | rfl | (simp [*]; done) | (rw [cu]; simp [*]; done))⟩ (by first | omega | (dsimp only; omega))
            · cbv
            · cbv
          · refine r_scat (u := f2) (v := ([98] : List UInt8)) m.sX (by first | omega | (simp only [List.length_cons, List.length_nil]; omega) | (simp; omega)) fun s9 hs9 => ?_   -- s9 = f2 ++ ([98] : List UInt8)
            have ls9 : (s9.length : Int) = f2.length + ([98] : List UInt8).length := by rw [hs9, List.length_append, Int.natCast_add]
            try simp only [List.length_cons, List.length_nil] at ls9
            conv => cbv
            refine hE _ (a6, s7, s6, s9) ?_ ?_ ⟨(by (try dsimp only) <;> first | omega | rfl | (simp [*]; done) | (rw [b1]; simp [*]; done)), (by (try dsimp only) <;> first | omega | rfl | (simp [*]; done) | (rw [b2]; simp [*]; done)), (by (try dsimp only) <;> first | omega | rfl | (simp [*]; done) | (rw [cu]; simp [*]; done))⟩ (by first | omega | (dsimp only; omega))
            · cbv
            · cbv
        · refine r_scat (u := f2) (v := ([98] : List UInt8)) m.sX (by first | omega | (simp only [List.length_cons, List.length_nil]; omega) | (simp; omega)) fun s10 hs10 => ?_   -- s10 = f2 ++ ([98] : List UInt8)
          have ls10 : (s10.length : Int) = f2.length + ([98] : List UInt8).length := by rw [hs10, List.length_append, Int.natCast_add]
          try simp only [List.length_cons, List.length_nil] at ls10
          conv => cbv
          refine hE _ (a5, s5, s6, s10) ?_ ?_ ⟨(by (try dsimp only) <;> first | omega | rfl | (simp [*]; done) | (rw [b1]; simp [*]; done)), (by (try dsimp only) <;> first | omega | rfl | (simp [*]; done) | (rw [b2]; simp [*]; done)), (by (try dsimp only) <;> first | omega | rfl | (simp [*]; done) | (rw [cu]; simp [*]; done))⟩ (by first | omega | (dsimp only; omega))
          · cbv
          · cbv
      · refine hF _ _ ?_
        conv => cbv
        refine r_mcall m.sX (cPick_ok code a4 s4 24 h (by omega) (by omega)) ?_
        rintro _ _ ⟨q4, rfl, ⟨a7, s11, rfl, ea7, fa7⟩, bq4, cq4, dq4⟩
        conv => cbv
        refine r_eql m.sX (fun h3 => ?_) (fun h3 => ?_) <;> conv => cbv
        · refine r_scat (u := f2) (v := ([98] : List UInt8)) m.sX (by first | omega | (simp only [List.length_cons, List.length_nil]; omega) | (simp; omega)) fun s12 hs12 => ?_   -- s12 = f2 ++ ([98] : List UInt8)
          have ls12 : (s12.length : Int) = f2.length + ([98] : List UInt8).length := by rw [hs12, List.length_append, Int.natCast_add]
          try simp only [List.length_cons, List.length_nil] at ls12
          conv => cbv
          exact hQ (.agg [.str f1, .str s12]) (cCur code a7 s11) ⟨(f1, s12), rfl, ⟨a7, s11, rfl, by omega, by omega⟩, (by first | omega | (dsimp only; omega)), (by first | omega | (dsimp only; omega))⟩   -- leaf 1
        · refine r_eql m.sX (fun h4 => ?_) (fun h4 => ?_) <;> conv => cbv
          · refine r_scat (u := ([32] : List UInt8)) (v := f1) m.sX (by first | omega | (simp only [List.length_cons, List.length_nil]; omega) | (simp; omega)) fun s13 hs13 => ?_   -- s13 = ([32] : List UInt8) ++ f1
            have ls13 : (s13.length : Int) = ([32] : List UInt8).length + f1.length := by rw [hs13, List.length_append, Int.natCast_add]
            try simp only [List.length_cons, List.length_nil] at ls13
            conv => cbv
            refine r_scat (u := ([114] : List UInt8)) (v := f2) m.sX (by first | omega | (simp only [List.length_cons, List.length_nil]; omega) | (simp; omega)) fun s14 hs14 => ?_   -- s14 = ([114] : List UInt8) ++ f2
            have ls14 : (s14.length : Int) = ([114] : List UInt8).length + f2.length := by rw [hs14, List.length_append, Int.natCast_add]
            try simp only [List.length_cons, List.length_nil] at ls14
            conv => cbv
            exact hQ (.agg [.str s13, .str s14]) (cCur code a7 s11) ⟨(s13, s14), rfl, ⟨a7, s11, rfl, by omega, by omega⟩, (by first | omega | (dsimp only; omega)), (by first | omega | (dsimp only; omega))⟩   -- leaf 2
          · refine r_eql m.sX (fun h5 => ?_) (fun h5 => ?_) <;> conv => cbv
            · refine r_scat (u := ([65] : List UInt8)) (v := f1) m.sX (by first | omega | (simp only [List.length_cons, List.length_nil]; omega) | (simp; omega)) fun s15 hs15 => ?_   -- s15 = ([65] : List UInt8) ++ f1
              have ls15 : (s15.length : Int) = ([65] : List UInt8).length + f1.length := by rw [hs15, List.length_append, Int.natCast_add]
              try simp only [List.length_cons, List.length_nil] at ls15
              conv => cbv
              refine r_scat (u := ([98] : List UInt8)) (v := f2) m.sX (by first | omega | (simp only [List.length_cons, List.length_nil]; omega) | (simp; omega)) fun s16 hs16 => ?_   -- s16 = ([98] : List UInt8) ++ f2
              have ls16 : (s16.length : Int) = ([98] : List UInt8).length + f2.length := by rw [hs16, List.length_append, Int.natCast_add]
              try simp only [List.length_cons, List.length_nil] at ls16
              conv => cbv
              exact hQ (.agg [.str s15, .str s16]) (cCur code a7 s11) ⟨(s15, s16), rfl, ⟨a7, s11, rfl, by omega, by omega⟩, (by first | omega | (dsimp only; omega)), (by first | omega | (dsimp only; omega))⟩   -- leaf 3
            · refine r_eql m.sX (fun h6 => ?_) (fun h6 => ?_) <;> conv => cbv
              · refine r_scat (u := ([97] : List UInt8)) (v := f1) m.sX (by first | omega | (simp only [List.length_cons, List.length_nil]; omega) | (simp; omega)) fun s17 hs17 => ?_   -- s17 = ([97] : List UInt8) ++ f1
                have ls17 : (s17.length : Int) = ([97] : List UInt8).length + f1.length := by rw [hs17, List.length_append, Int.natCast_add]
                try simp only [List.length_cons, List.length_nil] at ls17
                conv => cbv
                refine r_scat (u := ([103] : List UInt8)) (v := f2) m.sX (by first | omega | (simp only [List.length_cons, List.length_nil]; omega) | (simp; omega)) fun s18 hs18 => ?_   -- s18 = ([103] : List UInt8) ++ f2
                have ls18 : (s18.length : Int) = ([103] : List UInt8).length + f2.length := by rw [hs18, List.length_append, Int.natCast_add]
                try simp only [List.length_cons, List.length_nil] at ls18
                conv => cbv
                exact hQ (.agg [.str s17, .str s18]) (cCur code a7 s11) ⟨(s17, s18), rfl, ⟨a7, s11, rfl, by omega, by omega⟩, (by first | omega | (dsimp only; omega)), (by first | omega | (dsimp only; omega))⟩   -- leaf 4
              · exact hQ (.agg [.str f1, .str f2]) (cCur code a7 s11) ⟨(f1, f2), rfl, ⟨a7, s11, rfl, by omega, by omega⟩, (by first | omega | (dsimp only; omega)), (by first | omega | (dsimp only; omega))⟩   -- leaf 5
    · refine r_loopF (α := Int × Int × List UInt8 × List UInt8) m 79 [4] [⟨0, 1, 0, 0, 0⟩, ⟨2, 17, 0, 0, 0⟩, ⟨3, 25, 0, 0, 0⟩] (fun σ => [(0, .optr 1 0 0 0 0), (2, .optr 17 0 2 0 0), (3, .optr 25 0 2 0 0), (4, .int .i64 n)]) (fun σ => [(1, 0, .box (cCur code σ.1 σ.2.1)), (17, 0, .box [.str ([]), .str ([])]), (25, 0, .box [.str σ.2.2.1, .str σ.2.2.2])])
        (fun σ => ((σ.2.2.1.length : Int) ≤ n) ∧ ((σ.2.2.2.length : Int) = σ.2.2.1.length) ∧ (b0 ≤ σ.1 ∧ σ.1 ≤ b0 + 10 + 6 * (σ.2.2.1.length : Int))) (fun σ => (n - (σ.2.2.1.length : Int)).toNat) (a2, s2, [], []) ?_ ?_ ?_ ?_
      · cbv
      · cbv
      · exact ⟨(by (try dsimp only) <;> (simp; omega)), (by (try dsimp only) <;> first | omega | rfl | (simp [*]; done)), (by (try dsimp only) <;> first | omega | rfl | (simp [*]; done))⟩
      rintro ⟨a8, s19, f3, f4⟩ ⟨b1, b2, cu⟩ E hE F hF
      dsimp only at b1 b2 cu
      conv => cbv
      refine r_slen (u := f3) m.sX fun n2 hn2 mn2 => ?_   -- n2 = length of f3
      conv => cbv
      refine r_lss m.sX (fun h7 => ?_) (fun h7 => ?_) <;> conv => cbv
      · refine r_mcall m.sX (cOfL_ok code a8 s19 ([([97] : List UInt8), ([98] : List UInt8), ([99] : List UInt8), ([100] : List UInt8), ([101] : List UInt8), ([102] : List UInt8), ([105] : List UInt8), ([32] : List UInt8)]) h (by omega) (by omega) (by first | rfl | assumption | omega | (simp only [List.length_append, List.length_cons, List.length_nil] at *; omega)) (by first | rfl | assumption | omega | (simp only [List.length_append, List.length_cons, List.length_nil] at *; omega))) ?_
        rintro _ _ ⟨letter_2, rfl, ⟨a9, s20, rfl, ea9, fa9⟩, bletter_2_1⟩
        have bl := letters_len letter_2 bletter_2_1
        conv => cbv
        refine r_scat (u := f3) (v := letter_2) m.sX (by first | omega | (simp only [List.length_cons, List.length_nil]; omega) | (simp; omega)) fun s21 hs21 => ?_   -- s21 = f3 ++ letter_2
        have ls21 : (s21.length : Int) = f3.length + letter_2.length := by rw [hs21, List.length_append, Int.natCast_add]
        try simp only [List.length_cons, List.length_nil] at ls21
        conv => cbv
        refine r_sneq m.sX (fun h8 => ?_) (fun h8 => ?_) <;> conv => cbv
        · refine r_mcall m.sX (cOne_ok code a9 s20 3 h (by omega) (by omega)) ?_
          rintro _ _ ⟨q5, rfl, ⟨a10, s22, rfl, ea10, fa10⟩⟩
          conv => cbv
          rcases Bool.eq_false_or_eq_true q5 with rfl | rfl <;> conv => cbv
          · refine r_scat (u := f4) (v := ([114] : List UInt8)) m.sX (by first | omega | (simp only [List.length_cons, List.length_nil]; omega) | (simp; omega)) fun s23 hs23 => ?_   -- s23 = f4 ++ ([114] : List UInt8)
            have ls23 : (s23.length : Int) = f4.length + ([114] : List UInt8).length := by rw [hs23, List.length_append, Int.natCast_add]
            try simp only [List.length_cons, List.length_nil] at ls23
            conv => cbv
            refine hE _ (a10, s22, s21, s23) ?_ ?_ ⟨(by (try dsimp only) <;> first | omega | rfl | (simp [*]; done) | (rw [b1]; simp [*]; done)), (by (try dsimp only) <;> first | omega | rfl | (simp [*]; done) | (rw [b2]; simp [*]; done)), (by (try dsimp only) <;> first | omega | rfl | (simp [*]; done) | (rw [cu]; simp [*]; done))⟩ (by first | omega | (dsimp only; omega))
            · cbv
            · cbv
          · refine r_scat (u := f4) (v := ([98] : List UInt8)) m.sX (by first | omega | (simp only [List.length_cons, List.length_nil]; omega) | (simp; omega)) fun s24 hs24 => ?_   -- s24 = f4 ++ ([98] : List UInt8)
            have ls24 : (s24.length : Int) = f4.length + ([98] : List UInt8).length := by rw [hs24, List.length_append, Int.natCast_add]
            try simp only [List.length_cons, List.length_nil] at ls24
            conv => cbv
            refine hE _ (a10, s22, s21, s24) ?_ ?_ ⟨(by (try dsimp only) <;> first | omega | rfl | (simp [*]; done) | (rw [b1]; simp [*]; done)), (by (try dsimp only) <;> first | omega | rfl | (simp [*]; done) | (rw [b2]; simp [*]; done)), (by (try dsimp only) <;> first | omega | rfl | (simp [*]; done) | (rw [cu]; simp [*]; done))⟩ (by first | omega | (dsimp only; omega))
            · cbv
            · cbv
        · refine r_scat (u := f4) (v := ([98] : List UInt8)) m.sX (by first | omega | (simp only [List.length_cons, List.length_nil]; omega) | (simp; omega)) fun s25 hs25 => ?_   -- s25 = f4 ++ ([98] : List UInt8)
          have ls25 : (s25.length : Int) = f4.length + ([98] : List UInt8).length := by rw [hs25, List.length_append, Int.natCast_add]
          try simp only [List.length_cons, List.length_nil] at ls25
          conv => cbv
          refine hE _ (a9, s20, s21, s25) ?_ ?_ ⟨(by (try dsimp only) <;> first | omega | rfl | (simp [*]; done) | (rw [b1]; simp [*]; done)), (by (try dsimp only) <;> first | omega | rfl | (simp [*]; done) | (rw [b2]; simp [*]; done)), (by (try dsimp only) <;> first | omega | rfl | (simp [*]; done) | (rw [cu]; simp [*]; done))⟩ (by first | omega | (dsimp only; omega))
          · cbv
          · cbv
      · refine hF _ _ ?_
        conv => cbv
        refine r_mcall m.sX (cPick_ok code a8 s19 24 h (by omega) (by omega)) ?_
        rintro _ _ ⟨q6, rfl, ⟨a11, s26, rfl, ea11, fa11⟩, bq6, cq6, dq6⟩
        conv => cbv
        refine r_eql m.sX (fun h9 => ?_) (fun h9 => ?_) <;> conv => cbv
        · refine r_scat (u := f4) (v := ([98] : List UInt8)) m.sX (by first | omega | (simp only [List.length_cons, List.length_nil]; omega) | (simp; omega)) fun s27 hs27 => ?_   -- s27 = f4 ++ ([98] : List UInt8)
          have ls27 : (s27.length : Int) = f4.length + ([98] : List UInt8).length := by rw [hs27, List.length_append, Int.natCast_add]
          try simp only [List.length_cons, List.length_nil] at ls27
          conv => cbv
          exact hQ (.agg [.str f3, .str s27]) (cCur code a11 s26) ⟨(f3, s27), rfl, ⟨a11, s26, rfl, by omega, by omega⟩, (by first | omega | (dsimp only; omega)), (by first | omega | (dsimp only; omega))⟩   -- leaf 6
        · refine r_eql m.sX (fun h10 => ?_) (fun h10 => ?_) <;> conv => cbv
          · refine r_scat (u := ([32] : List UInt8)) (v := f3) m.sX (by first | omega | (simp only [List.length_cons, List.length_nil]; omega) | (simp; omega)) fun s28 hs28 => ?_   -- s28 = ([32] : List UInt8) ++ f3
            have ls28 : (s28.length : Int) = ([32] : List UInt8).length + f3.length := by rw [hs28, List.length_append, Int.natCast_add]
            try simp only [List.length_cons, List.length_nil] at ls28
            conv => cbv
            refine r_scat (u := ([114] : List UInt8)) (v := f4) m.sX (by first | omega | (simp only [List.length_cons, List.length_nil]; omega) | (simp; omega)) fun s29 hs29 => ?_   -- s29 = ([114] : List UInt8) ++ f4
            have ls29 : (s29.length : Int) = ([114] : List UInt8).length + f4.length := by rw [hs29, List.length_append, Int.natCast_add]
            try simp only [List.length_cons, List.length_nil] at ls29
            conv => cbv
            exact hQ (.agg [.str s28, .str s29]) (cCur code a11 s26) ⟨(s28, s29), rfl, ⟨a11, s26, rfl, by omega, by omega⟩, (by first | omega | (dsimp only; omega)), (by first | omega | (dsimp only; omega))⟩   -- leaf 7
          · refine r_eql m.sX (fun h11 => ?_) (fun h11 => ?_) <;> conv => cbv
            · refine r_scat (u := ([65] : List UInt8)) (v := f3) m.sX (by first | omega | (simp only [List.length_cons, List.length_nil]; omega) | (simp; omega)) fun s30 hs30 => ?_   -- s30 = ([65] : List UInt8) ++ f3
              have ls30 : (s30.length : Int) = ([65] : List UInt8).length + f3.length := by rw [hs30, List.length_append, Int.natCast_add]
              try simp only [List.length_cons, List.length_nil] at ls30
              conv => cbv
              refine r_scat (u := ([98] : List UInt8)) (v := f4) m.sX (by first | omega | (simp only [List.length_cons, List.length_nil]; omega) | (simp; omega)) fun s31 hs31 => ?_   -- s31 = ([98] : List UInt8) ++ f4
              have ls31 : (s31.length : Int) = ([98] : List UInt8).length + f4.length := by rw [hs31, List.length_append, Int.natCast_add]
              try simp only [List.length_cons, List.length_nil] at ls31
              conv => cbv
              exact hQ (.agg [.str s30, .str s31]) (cCur code a11 s26) ⟨(s30, s31), rfl, ⟨a11, s26, rfl, by omega, by omega⟩, (by first | omega | (dsimp only; omega)), (by first | omega | (dsimp only; omega))⟩   -- leaf 8
            · refine r_eql m.sX (fun h12 => ?_) (fun h12 => ?_) <;> conv => cbv
              · refine r_scat (u := ([97] : List UInt8)) (v := f3) m.sX (by first | omega | (simp only [List.length_cons, List.length_nil]; omega) | (simp; omega)) fun s32 hs32 => ?_   -- s32 = ([97] : List UInt8) ++ f3
                have ls32 : (s32.length : Int) = ([97] : List UInt8).length + f3.length := by rw [hs32, List.length_append, Int.natCast_add]
                try simp only [List.length_cons, List.length_nil] at ls32
                conv => cbv
                refine r_scat (u := ([103] : List UInt8)) (v := f4) m.sX (by first | omega | (simp only [List.length_cons, List.length_nil]; omega) | (simp; omega)) fun s33 hs33 => ?_   -- s33 = ([103] : List UInt8) ++ f4
                have ls33 : (s33.length : Int) = ([103] : List UInt8).length + f4.length := by rw [hs33, List.length_append, Int.natCast_add]
                try simp only [List.length_cons, List.length_nil] at ls33
                conv => cbv
                exact hQ (.agg [.str s32, .str s33]) (cCur code a11 s26) ⟨(s32, s33), rfl, ⟨a11, s26, rfl, by omega, by omega⟩, (by first | omega | (dsimp only; omega)), (by first | omega | (dsimp only; omega))⟩   -- leaf 9
              · exact hQ (.agg [.str f3, .str f4]) (cCur code a11 s26) ⟨(f3, f4), rfl, ⟨a11, s26, rfl, by omega, by omega⟩, (by first | omega | (dsimp only; omega)), (by first | omega | (dsimp only; omega))⟩   -- leaf 10

theorem cInked_ex (code : List Int) (b0 t0 : Int) : ∃ r cs, (∃ (q : Inked), r = PV.agg (cInked q) ∧ CurTo code b0 300 cs ∧ ((q.1.length : Int) ≤ 60) ∧ ((q.2.length : Int) ≤ 60)) :=
  ⟨_, _, ([], []), rfl, ⟨b0, t0, rfl, by omega, by omega⟩, (by first | omega | simp), (by first | omega | simp)⟩

theorem cInk_ok (code : List Int) (b0 t0 : Int)  (h : CurIn code) (h0 : 0 ≤ b0) (hk : b0 ≤ 899999999999998000)  : OkM Try.prog 120 (cCur code b0 t0) [] (fun r cs => ∃ (q : List UInt8), r = .str q ∧ CurTo code b0 2 cs ∧ ((q.length : Int) ≤ 1)) :=
  fnM_intro envOk fieldsOk mixed Try.func120 rfl fun κ X Y L Q m hQ => by
    conv => cbv
    refine r_mcall m.sX (cOfL_ok code b0 t0 ([([98] : List UInt8), ([114] : List UInt8), ([98] : List UInt8), ([114] : List UInt8), ([98] : List UInt8), ([114] : List UInt8), ([103] : List UInt8)]) h (by omega) (by omega) (by first | rfl | assumption | omega | (simp only [List.length_append, List.length_cons, List.length_nil] at *; omega)) (by first | rfl | assumption | omega | (simp only [List.length_append, List.length_cons, List.length_nil] at *; omega))) ?_
    rintro _ _ ⟨q1, rfl, ⟨a1, s1, rfl, ea1, fa1⟩, bq1_1⟩
    conv => cbv
    exact hQ (.str q1) (cCur code a1 s1) ⟨q1, rfl, ⟨a1, s1, rfl, by omega, by omega⟩, (by first | omega | exact inks_len _ bq1_1)⟩   -- leaf 1

theorem cInk_ex (code : List Int) (b0 t0 : Int) : ∃ r cs, (∃ (q : List UInt8), r = PV.str q ∧ CurTo code b0 2 cs ∧ ((q.length : Int) ≤ 1)) :=
  ⟨_, _, [], rfl, ⟨b0, t0, rfl, by omega, by omega⟩, (by first | omega | simp)⟩

theorem drawRegisterShift_ok (code : List Int) (h : CurIn code) : OkA Try.prog 35 [.isl 1 (rows cU8 code)] (fun r => ∃ (q1 : List Int) (q2 : List Int) (q3 : Int), r = .tup [.isl 1 (rows cInt q1), .isl 1 (rows cInt q2), .int .i64 q3] ∧ ((q1.length : Int) ≤ 9) ∧ ((q2.length : Int) ≤ 9)) :=
  OkA.iceR (fn_intro envOk fieldsOk mixed Try.func35 rfl fun κ X Y L Q m hQ => by
    conv => cbv
    refine r_mcall m.sX (cPick_ok code 0 0 4 h (by omega) (by omega)) ?_
    rintro _ _ ⟨q1, rfl, ⟨a1, s1, rfl, ea1, fa1⟩, bq1, cq1, dq1⟩
    conv => cbv
    refine r_addf m.sX (by omega) (by omega) fun n hn => ?_
    conv => cbv
    refine r_mcall m.sX (cOne_ok code a1 s1 12 h (by omega) (by omega)) ?_
    rintro _ _ ⟨q2, rfl, ⟨a2, s2, rfl, ea2, fa2⟩⟩
    conv => cbv
    rcases Bool.eq_false_or_eq_true q2 with rfl | rfl <;> conv => cbv
    · refine r_mcall m.sX (cAmong_ok code a2 s2 ([0, 8, 9]) (by simp) h (by omega) (by omega)) ?_
      rintro _ _ ⟨n_2, rfl, ⟨a3, s3, rfl, ea3, fa3⟩, bn_2⟩
      simp only [List.mem_cons, List.not_mem_nil, or_false] at bn_2
      conv => cbv
      refine r_mcall m.sX (cPick_ok code a3 s3 9 h (by omega) (by omega)) ?_
      rintro _ _ ⟨q3, rfl, ⟨a4, s4, rfl, ea4, fa4⟩, bq3, cq3, dq3⟩
      conv => cbv
      refine r_subf m.sX (by omega) (by omega) fun by_ hby_ => ?_
      conv => cbv
      refine r_loopF (α := Int × Int × List Int × List Int) m 72 [8, 9] [⟨5, 41, 0, 0, 0⟩, ⟨6, 49, 3, 1, 0⟩, ⟨7, 57, 3, 1, 0⟩] (fun σ => [(5, .optr 41 0 3 0 0), (6, .osl 49 0), (7, .osl 57 0), (8, .int .i64 n_2), (9, .int .i64 by_)]) (fun σ => [(41, 0, .box (cCur code σ.1 σ.2.1)), (49, 0, .row 3 1 (rows cInt σ.2.2.1)), (57, 0, .row 3 1 (rows cInt σ.2.2.2))])
        (fun σ => ((σ.2.2.1.length : Int) ≤ n_2) ∧ (0 ≤ σ.1 ∧ σ.1 ≤ 10 + 6 * (σ.2.2.1.length : Int)) ∧ ((σ.2.2.2.length : Int) = σ.2.2.1.length)) (fun σ => (n_2 - (σ.2.2.1.length : Int)).toNat) (a4, s4, [], []) ?_ ?_ ?_ ?_
      · cbv
      · (try dsimp only); simp only [rows_cons, rows_nil]; cbv
      · exact ⟨(by (try dsimp only); first | omega | (simp only [List.length_nil]; omega)), (by (try dsimp only) <;> first | omega | rfl | (simp [*]; done)), (by (try dsimp only) <;> first | omega | rfl | (simp [*]; done))⟩
      rintro ⟨a5, s5, black, red⟩ ⟨ll1, cu, b2⟩ E hE F hF
      dsimp only at ll1 cu b2
      conv => cbv
      refine r_lenR m.sX fun n1 hn1 mn1 => ?_
      conv => cbv
      refine r_lss m.sX (fun h1 => ?_) (fun h1 => ?_) <;> conv => cbv
      · refine r_mcall m.sX (cPick_ok code a5 s5 100 h (by omega) (by omega)) ?_
        rintro _ _ ⟨q4, rfl, ⟨a6, s6, rfl, ea6, fa6⟩, bq4, cq4, dq4⟩
        conv => cbv
        refine r_addf m.sX (by omega) (by omega) fun x hx => ?_
        conv => cbv
        refine r_append1 (x) m.sX rfl (by first | omega | (dsimp only; omega)) (by first | omega | (dsimp only; omega)) fun black_2 hblack_2 => ?_
        conv => cbv
        have lblack_2 : (black_2.length : Int) = black.length + 1 := by rw [hblack_2]; first | done | (simp; done) | (simp; omega)
        refine r_subf m.sX (by omega) (by omega) fun r1 hr1 => ?_
        conv => cbv
        refine r_mcall m.sX (cAmong_ok code a6 s6 ([0, 0, 0, 1, -1]) (by simp) h (by omega) (by omega)) ?_
        rintro _ _ ⟨q5, rfl, ⟨a7, s7, rfl, ea7, fa7⟩, bq5⟩
        simp only [List.mem_cons, List.not_mem_nil, or_false] at bq5
        conv => cbv
        refine r_addf m.sX (by omega) (by omega) fun r2 hr2 => ?_
        conv => cbv
        refine r_append1 (r2) m.sX rfl (by first | omega | (dsimp only; omega)) (by first | omega | (dsimp only; omega)) fun red_2 hred_2 => ?_
        conv => cbv
        have lred_2 : (red_2.length : Int) = red.length + 1 := by rw [hred_2]; first | done | (simp; done) | (simp; omega)
        refine hE _ (a7, s7, black_2, red_2) ?_ ?_ ⟨(by (try dsimp only); first | omega | (simp only [List.length_nil]; omega)), (by (try dsimp only) <;> first | omega | rfl | (simp [*]; done) | (rw [cu]; simp [*]; done)), (by (try dsimp only) <;> first | omega | rfl | (simp [*]; done) | (rw [b2]; simp [*]; done))⟩ (by first | omega | (dsimp only; omega))
        · cbv
        · cbv
      · refine hF _ _ ?_
        conv => cbv
        refine r_gtr m.sX (fun h2 => ?_) (fun h2 => ?_) <;> conv => cbv
        · refine r_mcall m.sX (cPick_ok code a5 s5 20 h (by omega) (by omega)) ?_
          rintro _ _ ⟨q6, rfl, ⟨a8, s8, rfl, ea8, fa8⟩, bq6, cq6, dq6⟩
          conv => cbv
          refine r_eql m.sX (fun h3 => ?_) (fun h3 => ?_) <;> conv => cbv
          · refine r_mcall m.sX (cPick_ok code a8 s8 n_2 h (by omega) (by omega)) ?_
            rintro _ _ ⟨q7, rfl, ⟨a9, s9, rfl, ea9, fa9⟩, bq7, cq7, dq7⟩
            conv => cbv
            refine r_mcall m.sX (cAmong_ok code a9 s9 ([0, 1000, 1001, -1]) (by simp) h (by omega) (by omega)) ?_
            rintro _ _ ⟨q8, rfl, ⟨a10, s10, rfl, ea10, fa10⟩, bq8⟩
            simp only [List.mem_cons, List.not_mem_nil, or_false] at bq8
            conv => cbv
            refine r_oindex m.sX (by omega) (by omega) ?_
            conv => cbv
            obtain ⟨y1, hy1⟩ := get_ex (xs := black) (i := Int.toNat q7) (by omega)
            refine r_ostore (l := Int.toNat q7) q8 m.sX hy1 (Nat.le_of_ble_eq_true rfl) rfl fun black_3 hblack_3 => ?_   -- black_3 = black.set q7 q8
            have lblack_3 : (black_3.length : Int) = black.length := by rw [hblack_3]; first | done | (simp; done) | (simp; omega)
            conv => cbv
            refine r_mcall m.sX (cAmong_ok code a10 s10 ([4, 21, -1]) (by simp) h (by omega) (by omega)) ?_
            rintro _ _ ⟨q9, rfl, ⟨a11, s11, rfl, ea11, fa11⟩, bq9⟩
            simp only [List.mem_cons, List.not_mem_nil, or_false] at bq9
            conv => cbv
            refine r_mcall m.sX (cAmong_ok code a11 s11 ([0, 3, 5, 20, q9]) (by simp) h (by omega) (by omega)) ?_
            rintro _ _ ⟨q10, rfl, ⟨a12, s12, rfl, ea12, fa12⟩, bq10⟩
            simp only [List.mem_cons, List.not_mem_nil, or_false] at bq10
            conv => cbv
            exact hQ (.tup [.fr 3 1 (rows cInt black_3), .fr 3 1 (rows cInt red), .int .i64 q10]) ⟨black_3, red, q10, rfl, (by first | omega | assumption | (simp; done) | (simp [*]; done) | (simp at *; omega)), (by first | omega | assumption | (simp; done) | (simp [*]; done) | (simp at *; omega))⟩   -- leaf 1
          · refine r_eql m.sX (fun h4 => ?_) (fun h4 => ?_) <;> conv => cbv
            · refine r_islice' (i := 1) m.sX (by omega) (by omega) fun red_3 hred_3 => ?_   -- red_3 = red[1:None]
              have lred_3 : (red_3.length : Int) = red.length - 1 := by rw [hred_3]; first | done | (simp; done) | (simp; omega)
              conv => cbv
              refine r_mcall m.sX (cAmong_ok code a8 s8 ([4, 21, -1]) (by simp) h (by omega) (by omega)) ?_
              rintro _ _ ⟨q11, rfl, ⟨a13, s13, rfl, ea13, fa13⟩, bq11⟩
              simp only [List.mem_cons, List.not_mem_nil, or_false] at bq11
              conv => cbv
              refine r_mcall m.sX (cAmong_ok code a13 s13 ([0, 3, 5, 20, q11]) (by simp) h (by omega) (by omega)) ?_
              rintro _ _ ⟨q12, rfl, ⟨a14, s14, rfl, ea14, fa14⟩, bq12⟩
              simp only [List.mem_cons, List.not_mem_nil, or_false] at bq12
              conv => cbv
              exact hQ (.tup [.fr 3 1 (rows cInt black), .isl 1 (rows cInt red_3), .int .i64 q12]) ⟨black, red_3, q12, rfl, (by first | omega | assumption | (simp; done) | (simp [*]; done) | (simp at *; omega)), (by first | omega | assumption | (simp; done) | (simp [*]; done) | (simp at *; omega))⟩   -- leaf 2
            · refine r_mcall m.sX (cAmong_ok code a8 s8 ([4, 21, -1]) (by simp) h (by omega) (by omega)) ?_
              rintro _ _ ⟨q13, rfl, ⟨a15, s15, rfl, ea15, fa15⟩, bq13⟩
              simp only [List.mem_cons, List.not_mem_nil, or_false] at bq13
              conv => cbv
              refine r_mcall m.sX (cAmong_ok code a15 s15 ([0, 3, 5, 20, q13]) (by simp) h (by omega) (by omega)) ?_
              rintro _ _ ⟨q14, rfl, ⟨a16, s16, rfl, ea16, fa16⟩, bq14⟩
              simp only [List.mem_cons, List.not_mem_nil, or_false] at bq14
              conv => cbv
              exact hQ (.tup [.fr 3 1 (rows cInt black), .fr 3 1 (rows cInt red), .int .i64 q14]) ⟨black, red, q14, rfl, (by first | omega | assumption | (simp; done) | (simp [*]; done) | (simp at *; omega)), (by first | omega | assumption | (simp; done) | (simp [*]; done) | (simp at *; omega))⟩   -- leaf 3
        · refine r_mcall m.sX (cAmong_ok code a5 s5 ([4, 21, -1]) (by simp) h (by omega) (by omega)) ?_
          rintro _ _ ⟨q15, rfl, ⟨a17, s17, rfl, ea17, fa17⟩, bq15⟩
          simp only [List.mem_cons, List.not_mem_nil, or_false] at bq15
          conv => cbv
          refine r_mcall m.sX (cAmong_ok code a17 s17 ([0, 3, 5, 20, q15]) (by simp) h (by omega) (by omega)) ?_
          rintro _ _ ⟨q16, rfl, ⟨a18, s18, rfl, ea18, fa18⟩, bq16⟩
          simp only [List.mem_cons, List.not_mem_nil, or_false] at bq16
          conv => cbv
          exact hQ (.tup [.fr 3 1 (rows cInt black), .fr 3 1 (rows cInt red), .int .i64 q16]) ⟨black, red, q16, rfl, (by first | omega | assumption | (simp; done) | (simp [*]; done) | (simp at *; omega)), (by first | omega | assumption | (simp; done) | (simp [*]; done) | (simp at *; omega))⟩   -- leaf 4
    · refine r_mcall m.sX (cPick_ok code a2 s2 9 h (by omega) (by omega)) ?_
      rintro _ _ ⟨q17, rfl, ⟨a19, s19, rfl, ea19, fa19⟩, bq17, cq17, dq17⟩
      conv => cbv
      refine r_subf m.sX (by omega) (by omega) fun by__2 hby__2 => ?_
      conv => cbv
      refine r_loopF (α := Int × Int × List Int × List Int) m 72 [8, 9] [⟨5, 41, 0, 0, 0⟩, ⟨6, 49, 3, 1, 0⟩, ⟨7, 57, 3, 1, 0⟩] (fun σ => [(5, .optr 41 0 3 0 0), (6, .osl 49 0), (7, .osl 57 0), (8, .int .i64 n), (9, .int .i64 by__2)]) (fun σ => [(41, 0, .box (cCur code σ.1 σ.2.1)), (49, 0, .row 3 1 (rows cInt σ.2.2.1)), (57, 0, .row 3 1 (rows cInt σ.2.2.2))])
        (fun σ => ((σ.2.2.1.length : Int) ≤ n) ∧ (0 ≤ σ.1 ∧ σ.1 ≤ 10 + 6 * (σ.2.2.1.length : Int)) ∧ ((σ.2.2.2.length : Int) = σ.2.2.1.length)) (fun σ => (n - (σ.2.2.1.length : Int)).toNat) (a19, s19, [], []) ?_ ?_ ?_ ?_
      · cbv
      · (try dsimp only); simp only [rows_cons, rows_nil]; cbv
      · exact ⟨(by (try dsimp only); first | omega | (simp only [List.length_nil]; omega)), (by (try dsimp only) <;> first | omega | rfl | (simp [*]; done)), (by (try dsimp only) <;> first | omega | rfl | (simp [*]; done))⟩
      rintro ⟨a20, s20, black_4, red_4⟩ ⟨ll2, cu, b2⟩ E hE F hF
      dsimp only at ll2 cu b2
      conv => cbv
      refine r_lenR m.sX fun n2 hn2 mn2 => ?_
      conv => cbv
      refine r_lss m.sX (fun h5 => ?_) (fun h5 => ?_) <;> conv => cbv
      · refine r_mcall m.sX (cPick_ok code a20 s20 100 h (by omega) (by omega)) ?_
        rintro _ _ ⟨q18, rfl, ⟨a21, s21, rfl, ea21, fa21⟩, bq18, cq18, dq18⟩
        conv => cbv
        refine r_addf m.sX (by omega) (by omega) fun x_2 hx_2 => ?_
        conv => cbv
        refine r_append1 (x_2) m.sX rfl (by first | omega | (dsimp only; omega)) (by first | omega | (dsimp only; omega)) fun black_5 hblack_5 => ?_
        conv => cbv
        have lblack_5 : (black_5.length : Int) = black_4.length + 1 := by rw [hblack_5]; first | done | (simp; done) | (simp; omega)
        refine r_subf m.sX (by omega) (by omega) fun r3 hr3 => ?_
        conv => cbv
        refine r_mcall m.sX (cAmong_ok code a21 s21 ([0, 0, 0, 1, -1]) (by simp) h (by omega) (by omega)) ?_
        rintro _ _ ⟨q19, rfl, ⟨a22, s22, rfl, ea22, fa22⟩, bq19⟩
        simp only [List.mem_cons, List.not_mem_nil, or_false] at bq19
        conv => cbv
        refine r_addf m.sX (by omega) (by omega) fun r4 hr4 => ?_
        conv => cbv
        refine r_append1 (r4) m.sX rfl (by first | omega | (dsimp only; omega)) (by first | omega | (dsimp only; omega)) fun red_5 hred_5 => ?_
        conv => cbv
        have lred_5 : (red_5.length : Int) = red_4.length + 1 := by rw [hred_5]; first | done | (simp; done) | (simp; omega)
        refine hE _ (a22, s22, black_5, red_5) ?_ ?_ ⟨(by (try dsimp only); first | omega | (simp only [List.length_nil]; omega)), (by (try dsimp only) <;> first | omega | rfl | (simp [*]; done) | (rw [cu]; simp [*]; done)), (by (try dsimp only) <;> first | omega | rfl | (simp [*]; done) | (rw [b2]; simp [*]; done))⟩ (by first | omega | (dsimp only; omega))
        · cbv
        · cbv
      · refine hF _ _ ?_
        conv => cbv
        refine r_gtr m.sX (fun h6 => ?_) (fun h6 => ?_) <;> conv => cbv
        · refine r_mcall m.sX (cPick_ok code a20 s20 20 h (by omega) (by omega)) ?_
          rintro _ _ ⟨q20, rfl, ⟨a23, s23, rfl, ea23, fa23⟩, bq20, cq20, dq20⟩
          conv => cbv
          refine r_eql m.sX (fun h7 => ?_) (fun h7 => ?_) <;> conv => cbv
          · refine r_mcall m.sX (cPick_ok code a23 s23 n h (by omega) (by omega)) ?_
            rintro _ _ ⟨q21, rfl, ⟨a24, s24, rfl, ea24, fa24⟩, bq21, cq21, dq21⟩
            conv => cbv
            refine r_mcall m.sX (cAmong_ok code a24 s24 ([0, 1000, 1001, -1]) (by simp) h (by omega) (by omega)) ?_
            rintro _ _ ⟨q22, rfl, ⟨a25, s25, rfl, ea25, fa25⟩, bq22⟩
            simp only [List.mem_cons, List.not_mem_nil, or_false] at bq22
            conv => cbv
            refine r_oindex m.sX (by omega) (by omega) ?_
            conv => cbv
            obtain ⟨y2, hy2⟩ := get_ex (xs := black_4) (i := Int.toNat q21) (by omega)
            refine r_ostore (l := Int.toNat q21) q22 m.sX hy2 (Nat.le_of_ble_eq_true rfl) rfl fun black_6 hblack_6 => ?_   -- black_6 = black_4.set q21 q22
            have lblack_6 : (black_6.length : Int) = black_4.length := by rw [hblack_6]; first | done | (simp; done) | (simp; omega)
            conv => cbv
            refine r_mcall m.sX (cAmong_ok code a25 s25 ([4, 21, -1]) (by simp) h (by omega) (by omega)) ?_
            rintro _ _ ⟨q23, rfl, ⟨a26, s26, rfl, ea26, fa26⟩, bq23⟩
            simp only [List.mem_cons, List.not_mem_nil, or_false] at bq23
            conv => cbv
            refine r_mcall m.sX (cAmong_ok code a26 s26 ([0, 3, 5, 20, q23]) (by simp) h (by omega) (by omega)) ?_
            rintro _ _ ⟨q24, rfl, ⟨a27, s27, rfl, ea27, fa27⟩, bq24⟩
            simp only [List.mem_cons, List.not_mem_nil, or_false] at bq24
            conv => cbv
            exact hQ (.tup [.fr 3 1 (rows cInt black_6), .fr 3 1 (rows cInt red_4), .int .i64 q24]) ⟨black_6, red_4, q24, rfl, (by first | omega | assumption | (simp; done) | (simp [*]; done) | (simp at *; omega)), (by first | omega | assumption | (simp; done) | (simp [*]; done) | (simp at *; omega))⟩   -- leaf 5
          · refine r_eql m.sX (fun h8 => ?_) (fun h8 => ?_) <;> conv => cbv
            · refine r_islice' (i := 1) m.sX (by omega) (by omega) fun red_6 hred_6 => ?_   -- red_6 = red_4[1:None]
              have lred_6 : (red_6.length : Int) = red_4.length - 1 := by rw [hred_6]; first | done | (simp; done) | (simp; omega)
              conv => cbv
              refine r_mcall m.sX (cAmong_ok code a23 s23 ([4, 21, -1]) (by simp) h (by omega) (by omega)) ?_
              rintro _ _ ⟨q25, rfl, ⟨a28, s28, rfl, ea28, fa28⟩, bq25⟩
              simp only [List.mem_cons, List.not_mem_nil, or_false] at bq25
              conv => cbv
              refine r_mcall m.sX (cAmong_ok code a28 s28 ([0, 3, 5, 20, q25]) (by simp) h (by omega) (by omega)) ?_
              rintro _ _ ⟨q26, rfl, ⟨a29, s29, rfl, ea29, fa29⟩, bq26⟩
              simp only [List.mem_cons, List.not_mem_nil, or_false] at bq26
              conv => cbv
              exact hQ (.tup [.fr 3 1 (rows cInt black_4), .isl 1 (rows cInt red_6), .int .i64 q26]) ⟨black_4, red_6, q26, rfl, (by first | omega | assumption | (simp; done) | (simp [*]; done) | (simp at *; omega)), (by first | omega | assumption | (simp; done) | (simp [*]; done) | (simp at *; omega))⟩   -- leaf 6
            · refine r_mcall m.sX (cAmong_ok code a23 s23 ([4, 21, -1]) (by simp) h (by omega) (by omega)) ?_
              rintro _ _ ⟨q27, rfl, ⟨a30, s30, rfl, ea30, fa30⟩, bq27⟩
              simp only [List.mem_cons, List.not_mem_nil, or_false] at bq27
              conv => cbv
              refine r_mcall m.sX (cAmong_ok code a30 s30 ([0, 3, 5, 20, q27]) (by simp) h (by omega) (by omega)) ?_
              rintro _ _ ⟨q28, rfl, ⟨a31, s31, rfl, ea31, fa31⟩, bq28⟩
              simp only [List.mem_cons, List.not_mem_nil, or_false] at bq28
              conv => cbv
              exact hQ (.tup [.fr 3 1 (rows cInt black_4), .fr 3 1 (rows cInt red_4), .int .i64 q28]) ⟨black_4, red_4, q28, rfl, (by first | omega | assumption | (simp; done) | (simp [*]; done) | (simp at *; omega)), (by first | omega | assumption | (simp; done) | (simp [*]; done) | (simp at *; omega))⟩   -- leaf 7
        · refine r_mcall m.sX (cAmong_ok code a20 s20 ([4, 21, -1]) (by simp) h (by omega) (by omega)) ?_
          rintro _ _ ⟨q29, rfl, ⟨a32, s32, rfl, ea32, fa32⟩, bq29⟩
          simp only [List.mem_cons, List.not_mem_nil, or_false] at bq29
          conv => cbv
          refine r_mcall m.sX (cAmong_ok code a32 s32 ([0, 3, 5, 20, q29]) (by simp) h (by omega) (by omega)) ?_
          rintro _ _ ⟨q30, rfl, ⟨a33, s33, rfl, ea33, fa33⟩, bq30⟩
          simp only [List.mem_cons, List.not_mem_nil, or_false] at bq30
          conv => cbv
          exact hQ (.tup [.fr 3 1 (rows cInt black_4), .fr 3 1 (rows cInt red_4), .int .i64 q30]) ⟨black_4, red_4, q30, rfl, (by first | omega | assumption | (simp; done) | (simp [*]; done) | (simp at *; omega)), (by first | omega | assumption | (simp; done) | (simp [*]; done) | (simp at *; omega))⟩)   -- leaf 8

theorem drawBlankUnits_ok (code : List Int) (h : CurIn code) : OkA Try.prog 39 [.isl 1 (rows cU8 code)] (fun r => ∃ (q1 : List FSort) (q2 : Inked) (q3 : List UInt8), r = .tup [.fr 56 2 (rows cSort q1), .agg (cInked q2), .str q3] ∧ ((q1.length : Int) ≤ 40)) :=
  fn_intro envOk fieldsOk mixed Try.func39 rfl fun κ X Y L Q m hQ => by
    conv => cbv
    refine r_mcall m.sX (cAnyFont_ok code 0 0 h (by omega) (by omega)) ?_
    rintro _ _ ⟨q1, rfl, ⟨a1, s1, rfl, ea1, fa1⟩, bq1_1⟩
    conv => cbv
    refine r_mcall m.sX (cInked_ok code a1 s1 h (by omega) (by omega)) ?_
    rintro _ _ ⟨⟨q2A, q2B⟩, rfl, ⟨a2, s2, rfl, ea2, fa2⟩, bq2_1, bq2_2⟩
    conv => cbv
    refine r_mcall m.sX (cInk_ok code a2 s2 h (by omega) (by omega)) ?_
    rintro _ _ ⟨q3, rfl, ⟨a3, s3, rfl, ea3, fa3⟩, bq3_1⟩
    conv => cbv
    exact hQ (.tup [.fr 56 2 (rows cSort q1), .agg [.str q2A, .str q2B], .str q3]) ⟨q1, (q2A, q2B), q3, rfl, (by first | omega | assumption | (simp; done) | (simp [*]; done) | (simp at *; omega))⟩   -- leaf 1

theorem drawIsInked_ok (code : List Int) (h : CurIn code) : OkA Try.prog 126 [.isl 1 (rows cU8 code)] (fun r => ∃ (q : Inked), r = .agg (cInked q) ∧ ((q.1.length : Int) ≤ 60)) :=
  fn_intro envOk fieldsOk mixed Try.func126 rfl fun κ X Y L Q m hQ => by
    conv => cbv
    refine r_mcall m.sX (cInked_ok code 0 0 h (by omega) (by omega)) ?_
    rintro _ _ ⟨⟨q1A, q1B⟩, rfl, ⟨a1, s1, rfl, ea1, fa1⟩, bq1_1, bq1_2⟩
    conv => cbv
    exact hQ (.agg [.str q1A, .str q1B]) ⟨(q1A, q1B), rfl, (by first | omega | assumption | (simp; done) | (simp [*]; done) | (simp at *; omega))⟩   -- leaf 1

theorem drawInkRuns_ok (code : List Int) (h : CurIn code) : OkA Try.prog 42 [.isl 1 (rows cU8 code)] (fun r => ∃ (q : Inked), r = .agg (cInked q) ∧ ((q.1.length : Int) ≤ 60)) :=
  fn_intro envOk fieldsOk mixed Try.func42 rfl fun κ X Y L Q m hQ => by
    conv => cbv
    refine r_callE m.sX (drawIsInked_ok code h) ?_
    rintro _ ⟨⟨q1A, q1B⟩, rfl, bq1_1⟩
    conv => cbv
    exact hQ (.agg [.str q1A, .str q1B]) ⟨(q1A, q1B), rfl, (by first | omega | assumption | (simp; done) | (simp [*]; done) | (simp at *; omega))⟩   -- leaf 1

end Go.Proofs.Ytkcbhjnkpbeigaa.Ai
