/- Contracts of drawn settings. mk28d.py puts the proof for setting() in (its rows stand in structs). -/
import Derived.Test.YtmlojdpfpccgoaaSlipDraw2
import Derived.Test.YtmlojdpfpccgoaaSet
namespace Go.Proofs.Ytmlojdpfpccgoaa.Ai
open Go Go.Proofs
set_option linter.unusedSimpArgs false
set_option maxRecDepth 10000
set_option maxHeartbeats 16000000
set_option linter.unusedVariables false
theorem codesOk_app {f : List FSort} (h : CodesOk f) {y : FSort} (hy : 1 ≤ y.1.length ∧ y.1.length ≤ 3) : CodesOk (f ++ [y]) := fun x hx => by
  rcases List.mem_append.1 hx with hx | hx
  · exact h x hx
  · rw [List.mem_singleton.1 hx]; exact hy
theorem cFontC_ok (code : List Int) (b0 t0 : Int)  (h : CurIn code) (h0 : 0 ≤ b0) (hk : b0 ≤ 899999999999890000)  : OkM Try.prog 142 (cCur code b0 t0) [] (fun r cs => ∃ (q : List FSort), r = .fr 140 2 (rows cSort q) ∧ CurTo code b0 110 cs ∧ ((q.length : Int) ≤ 12) ∧ (1 ≤ q.length) ∧ (∀ x ∈ q, -100 ≤ x.2 ∧ x.2 ≤ 100) ∧ (CodesOk q)) :=
  fnM_intro envOk fieldsOk mixed Try.func142 rfl fun κ X Y L Q m hQ => by
    conv => cbv
    refine r_lenN 12 m.sX rfl (by omega) fun n1 hn1 => ?_   -- n1 = length of [([97] : List UInt8), ([97, 98] : List UInt8), ([97, 98, 99] : List UInt8), ([98] : List UInt8), ([98, 98] : List UInt8), ([99] : List UInt8), ([100] : List UInt8), ([101] : List UInt8), ([102] : List UInt8), ([102, 102] : List UInt8), ([102, 105] : List UInt8), ([105] : List UInt8)]
    conv => cbv
    refine r_loopF (α := Int × Int × List FSort × List (List UInt8) × Int) m 48 [7, 8] [⟨0, 1, 0, 0, 0⟩, ⟨3, 25, 140, 2, 0⟩, ⟨6, 49, 9, 1, 0⟩] (fun σ => [(0, .optr 1 0 0 0 0), (3, .osl 25 0), (6, .osl 49 0), (7, .int .i64 n1), (8, .int .i64 σ.2.2.2.2)]) (fun σ => [(1, 0, .box (cCur code σ.1 σ.2.1)), (25, 0, .row 140 2 (rows cSort σ.2.2.1)), (49, 0, .row 9 1 (rows cStr σ.2.2.2.1))])
      (fun σ => (0 ≤ σ.2.2.2.2) ∧ (σ.2.2.2.2 ≤ n1) ∧ (b0 ≤ σ.1 ∧ σ.1 ≤ b0 + 8 * σ.2.2.2.2) ∧ ((σ.2.2.1.length : Int) ≤ σ.2.2.2.2) ∧ (∀ x ∈ σ.2.2.1, -100 ≤ x.2 ∧ x.2 ≤ 100) ∧ (CodesOk σ.2.2.1) ∧ (σ.2.2.2.1 = codesL)) (fun σ => (n1 - σ.2.2.2.2).toNat) (b0, t0, [], [([97] : List UInt8), ([97, 98] : List UInt8), ([97, 98, 99] : List UInt8), ([98] : List UInt8), ([98, 98] : List UInt8), ([99] : List UInt8), ([100] : List UInt8), ([101] : List UInt8), ([102] : List UInt8), ([102, 102] : List UInt8), ([102, 105] : List UInt8), ([105] : List UInt8)], 0) ?_ ?_ ?_ ?_
    · cbv
    · (try dsimp only); (try simp only [rows_cons, rows_nil]); cbv
    · exact ⟨(by (try dsimp only); first | omega | (simp only [List.length_nil]; omega) | (simp only [List.length_cons, List.length_nil]; omega)), (by (try dsimp only); first | omega | (simp only [List.length_nil]; omega) | (simp only [List.length_cons, List.length_nil]; omega)), (by (try dsimp only); first | omega | (simp only [List.length_nil]; omega) | (simp only [List.length_cons, List.length_nil]; omega)), (by (try dsimp only) <;> first | omega | rfl | (simp [*]; done)), (by (try dsimp only) <;> (intro x hx; cases hx)), (by (try dsimp only) <;> (intro x hx; cases hx)), (by (try dsimp only) <;> (rfl))⟩
    rintro ⟨a1, s1, f, ys1, i1⟩ ⟨lo1, hi1, cl1, fl, fs, fc, y⟩ E hE F hF
    dsimp only at lo1 hi1 cl1 fl fs fc y
    have yl : (ys1.length : Int) = 12 := by rw [y]; rfl
    conv => cbv
    refine r_lss m.sX (fun h1 => ?_) (fun h1 => ?_) <;> conv => cbv
    · refine r_oindex m.sX (by omega) (by omega) ?_
      conv => cbv
      obtain ⟨code_, hcode_⟩ := get_ex (xs := ys1) (i := Int.toNat i1) (by omega)
      have mcode_ := get_mem hcode_
      have dcode_ := drop_cons hcode_
      have kcode_ := take_snoc hcode_
      have jcode_ : (i1 + 1).toNat = Int.toNat i1 + 1 := by omega
      have bc := codes_len code_ (by rw [← y]; exact mcode_)
      refine r_oload m.sX hcode_ (Nat.le_of_ble_eq_true rfl) ?_
      conv => cbv
      refine r_slen (u := code_) m.sX fun n2 hn2 mn2 => ?_   -- n2 = length of code_
      conv => cbv
      refine r_eql m.sX (fun h2 => ?_) (fun h2 => ?_) <;> conv => cbv
      · refine r_mcall m.sX (cOne_ok code a1 s1 12 h (by omega) (by omega)) ?_
        rintro _ _ ⟨q1, rfl, ⟨a2, s2, rfl, ea2, fa2⟩⟩
        conv => cbv
        rcases Bool.eq_false_or_eq_true q1 with rfl | rfl <;> conv => cbv
        · refine r_slen (u := code_) m.sX fun n3 hn3 mn3 => ?_   -- n3 = length of code_
          conv => cbv
          refine r_gtr m.sX (fun h3 => ?_) (fun h3 => ?_) <;> conv => cbv
          · refine r_mcall m.sX (cOne_ok code a2 s2 3 h (by omega) (by omega)) ?_
            rintro _ _ ⟨q2, rfl, ⟨a3, s3, rfl, ea3, fa3⟩⟩
            conv => cbv
            rcases Bool.eq_false_or_eq_true q2 with rfl | rfl <;> conv => cbv
            · refine r_slen (u := code_) m.sX fun n4 hn4 mn4 => ?_   -- n4 = length of code_
              conv => cbv
              refine r_mcall m.sX (cPick_ok code a3 s3 4 h (by omega) (by omega)) ?_
              rintro _ _ ⟨q3, rfl, ⟨a4, s4, rfl, ea4, fa4⟩, bq3, cq3, dq3⟩
              conv => cbv
              refine r_addf m.sX (by omega) (by omega) fun r1 hr1 => ?_
              conv => cbv
              have mb := mul_bound (a := n4) (A := 3) (b := r1) (B := 5) (by omega) (by omega) (by omega) (by omega)
              refine r_mulf m.sX (by first | omega | (subst_vars; omega)) (by first | omega | (subst_vars; omega)) fun r2 hr2 => ?_
              conv => cbv
              refine r_addf m.sX (by omega) (by omega) fun r3 hr3 => ?_
              conv => cbv
              refine r_append1 ((code_, r3)) m.sX rfl (by first | omega | (dsimp only; omega)) (by first | omega | (dsimp only; omega)) fun f_2 hf_2 => ?_
              conv => cbv
              have lf_2 : (f_2.length : Int) = f.length + 1 := by rw [hf_2]; first | done | (simp; done) | (simp; omega)
              refine r_addf m.sX (by omega) (by omega) fun r4 hr4 => ?_
              conv => cbv
              try have tr4 : Int.toNat r4 = Int.toNat i1 + 1 := by omega
              refine hE _ (a4, s4, f_2, ys1, r4) ?_ ?_ ⟨(by (try dsimp only); first | omega | (simp only [List.length_nil]; omega) | (simp only [List.length_cons, List.length_nil]; omega)), (by (try dsimp only); first | omega | (simp only [List.length_nil]; omega) | (simp only [List.length_cons, List.length_nil]; omega)), (by (try dsimp only); first | omega | (simp only [List.length_nil]; omega) | (simp only [List.length_cons, List.length_nil]; omega)), (by (try dsimp only) <;> first | omega | rfl | (simp [*]; done) | (rw [fl]; simp [*]; done)), (by (try dsimp only) <;> (first | exact fs | (rw [hf_2]; exact sets_app fs (by dsimp only; omega)))), (by (try dsimp only) <;> (first | exact fc | (rw [hf_2]; exact codesOk_app fc (by dsimp only; omega)))), (by (try dsimp only) <;> (exact y))⟩ (by first | omega | (dsimp only; omega))
              · cbv
              · cbv
            · refine r_addf m.sX (by omega) (by omega) fun r5 hr5 => ?_
              conv => cbv
              try have tr5 : Int.toNat r5 = Int.toNat i1 + 1 := by omega
              refine hE _ (a3, s3, f, ys1, r5) ?_ ?_ ⟨(by (try dsimp only); first | omega | (simp only [List.length_nil]; omega) | (simp only [List.length_cons, List.length_nil]; omega)), (by (try dsimp only); first | omega | (simp only [List.length_nil]; omega) | (simp only [List.length_cons, List.length_nil]; omega)), (by (try dsimp only); first | omega | (simp only [List.length_nil]; omega) | (simp only [List.length_cons, List.length_nil]; omega)), (by (try dsimp only) <;> first | omega | rfl | (simp [*]; done) | (rw [fl]; simp [*]; done)), (by (try dsimp only) <;> (first | exact fs | (rw [hf]; exact sets_app fs (by dsimp only; omega)))), (by (try dsimp only) <;> (first | exact fc | (rw [hf]; exact codesOk_app fc (by dsimp only; omega)))), (by (try dsimp only) <;> (exact y))⟩ (by first | omega | (dsimp only; omega))
              · cbv
              · cbv
          · refine r_addf m.sX (by omega) (by omega) fun r6 hr6 => ?_
            conv => cbv
            try have tr6 : Int.toNat r6 = Int.toNat i1 + 1 := by omega
            refine hE _ (a2, s2, f, ys1, r6) ?_ ?_ ⟨(by (try dsimp only); first | omega | (simp only [List.length_nil]; omega) | (simp only [List.length_cons, List.length_nil]; omega)), (by (try dsimp only); first | omega | (simp only [List.length_nil]; omega) | (simp only [List.length_cons, List.length_nil]; omega)), (by (try dsimp only); first | omega | (simp only [List.length_nil]; omega) | (simp only [List.length_cons, List.length_nil]; omega)), (by (try dsimp only) <;> first | omega | rfl | (simp [*]; done) | (rw [fl]; simp [*]; done)), (by (try dsimp only) <;> (first | exact fs | (rw [hf]; exact sets_app fs (by dsimp only; omega)))), (by (try dsimp only) <;> (first | exact fc | (rw [hf]; exact codesOk_app fc (by dsimp only; omega)))), (by (try dsimp only) <;> (exact y))⟩ (by first | omega | (dsimp only; omega))
            · cbv
            · cbv
        · refine r_slen (u := code_) m.sX fun n5 hn5 mn5 => ?_   -- n5 = length of code_
          conv => cbv
          refine r_mcall m.sX (cPick_ok code a2 s2 4 h (by omega) (by omega)) ?_
          rintro _ _ ⟨q4, rfl, ⟨a5, s5, rfl, ea5, fa5⟩, bq4, cq4, dq4⟩
          conv => cbv
          refine r_addf m.sX (by omega) (by omega) fun r7 hr7 => ?_
          conv => cbv
          have mb := mul_bound (a := n5) (A := 3) (b := r7) (B := 5) (by omega) (by omega) (by omega) (by omega)
          refine r_mulf m.sX (by first | omega | (subst_vars; omega)) (by first | omega | (subst_vars; omega)) fun r8 hr8 => ?_
          conv => cbv
          refine r_addf m.sX (by omega) (by omega) fun r9 hr9 => ?_
          conv => cbv
          refine r_append1 ((code_, r9)) m.sX rfl (by first | omega | (dsimp only; omega)) (by first | omega | (dsimp only; omega)) fun f_3 hf_3 => ?_
          conv => cbv
          have lf_3 : (f_3.length : Int) = f.length + 1 := by rw [hf_3]; first | done | (simp; done) | (simp; omega)
          refine r_addf m.sX (by omega) (by omega) fun r10 hr10 => ?_
          conv => cbv
          try have tr10 : Int.toNat r10 = Int.toNat i1 + 1 := by omega
          refine hE _ (a5, s5, f_3, ys1, r10) ?_ ?_ ⟨(by (try dsimp only); first | omega | (simp only [List.length_nil]; omega) | (simp only [List.length_cons, List.length_nil]; omega)), (by (try dsimp only); first | omega | (simp only [List.length_nil]; omega) | (simp only [List.length_cons, List.length_nil]; omega)), (by (try dsimp only); first | omega | (simp only [List.length_nil]; omega) | (simp only [List.length_cons, List.length_nil]; omega)), (by (try dsimp only) <;> first | omega | rfl | (simp [*]; done) | (rw [fl]; simp [*]; done)), (by (try dsimp only) <;> (first | exact fs | (rw [hf_3]; exact sets_app fs (by dsimp only; omega)))), (by (try dsimp only) <;> (first | exact fc | (rw [hf_3]; exact codesOk_app fc (by dsimp only; omega)))), (by (try dsimp only) <;> (exact y))⟩ (by first | omega | (dsimp only; omega))
          · cbv
          · cbv
      · refine r_slen (u := code_) m.sX fun n6 hn6 mn6 => ?_   -- n6 = length of code_
        conv => cbv
        refine r_gtr m.sX (fun h4 => ?_) (fun h4 => ?_) <;> conv => cbv
        · refine r_mcall m.sX (cOne_ok code a1 s1 3 h (by omega) (by omega)) ?_
          rintro _ _ ⟨q5, rfl, ⟨a6, s6, rfl, ea6, fa6⟩⟩
          conv => cbv
          rcases Bool.eq_false_or_eq_true q5 with rfl | rfl <;> conv => cbv
          · refine r_slen (u := code_) m.sX fun n7 hn7 mn7 => ?_   -- n7 = length of code_
            conv => cbv
            refine r_mcall m.sX (cPick_ok code a6 s6 4 h (by omega) (by omega)) ?_
            rintro _ _ ⟨q6, rfl, ⟨a7, s7, rfl, ea7, fa7⟩, bq6, cq6, dq6⟩
            conv => cbv
            refine r_addf m.sX (by omega) (by omega) fun r11 hr11 => ?_
            conv => cbv
            have mb := mul_bound (a := n7) (A := 3) (b := r11) (B := 5) (by omega) (by omega) (by omega) (by omega)
            refine r_mulf m.sX (by first | omega | (subst_vars; omega)) (by first | omega | (subst_vars; omega)) fun r12 hr12 => ?_
            conv => cbv
            refine r_addf m.sX (by omega) (by omega) fun r13 hr13 => ?_
            conv => cbv
            refine r_append1 ((code_, r13)) m.sX rfl (by first | omega | (dsimp only; omega)) (by first | omega | (dsimp only; omega)) fun f_4 hf_4 => ?_
            conv => cbv
            have lf_4 : (f_4.length : Int) = f.length + 1 := by rw [hf_4]; first | done | (simp; done) | (simp; omega)
            refine r_addf m.sX (by omega) (by omega) fun r14 hr14 => ?_
            conv => cbv
            try have tr14 : Int.toNat r14 = Int.toNat i1 + 1 := by omega
            refine hE _ (a7, s7, f_4, ys1, r14) ?_ ?_ ⟨(by (try dsimp only); first | omega | (simp only [List.length_nil]; omega) | (simp only [List.length_cons, List.length_nil]; omega)), (by (try dsimp only); first | omega | (simp only [List.length_nil]; omega) | (simp only [List.length_cons, List.length_nil]; omega)), (by (try dsimp only); first | omega | (simp only [List.length_nil]; omega) | (simp only [List.length_cons, List.length_nil]; omega)), (by (try dsimp only) <;> first | omega | rfl | (simp [*]; done) | (rw [fl]; simp [*]; done)), (by (try dsimp only) <;> (first | exact fs | (rw [hf_4]; exact sets_app fs (by dsimp only; omega)))), (by (try dsimp only) <;> (first | exact fc | (rw [hf_4]; exact codesOk_app fc (by dsimp only; omega)))), (by (try dsimp only) <;> (exact y))⟩ (by first | omega | (dsimp only; omega))
            · cbv
            · cbv
          · refine r_addf m.sX (by omega) (by omega) fun r15 hr15 => ?_
            conv => cbv
            try have tr15 : Int.toNat r15 = Int.toNat i1 + 1 := by omega
            refine hE _ (a6, s6, f, ys1, r15) ?_ ?_ ⟨(by (try dsimp only); first | omega | (simp only [List.length_nil]; omega) | (simp only [List.length_cons, List.length_nil]; omega)), (by (try dsimp only); first | omega | (simp only [List.length_nil]; omega) | (simp only [List.length_cons, List.length_nil]; omega)), (by (try dsimp only); first | omega | (simp only [List.length_nil]; omega) | (simp only [List.length_cons, List.length_nil]; omega)), (by (try dsimp only) <;> first | omega | rfl | (simp [*]; done) | (rw [fl]; simp [*]; done)), (by (try dsimp only) <;> (first | exact fs | (rw [hf]; exact sets_app fs (by dsimp only; omega)))), (by (try dsimp only) <;> (first | exact fc | (rw [hf]; exact codesOk_app fc (by dsimp only; omega)))), (by (try dsimp only) <;> (exact y))⟩ (by first | omega | (dsimp only; omega))
            · cbv
            · cbv
        · refine r_addf m.sX (by omega) (by omega) fun r16 hr16 => ?_
          conv => cbv
          try have tr16 : Int.toNat r16 = Int.toNat i1 + 1 := by omega
          refine hE _ (a1, s1, f, ys1, r16) ?_ ?_ ⟨(by (try dsimp only); first | omega | (simp only [List.length_nil]; omega) | (simp only [List.length_cons, List.length_nil]; omega)), (by (try dsimp only); first | omega | (simp only [List.length_nil]; omega) | (simp only [List.length_cons, List.length_nil]; omega)), (by (try dsimp only); first | omega | (simp only [List.length_nil]; omega) | (simp only [List.length_cons, List.length_nil]; omega)), (by (try dsimp only) <;> first | omega | rfl | (simp [*]; done) | (rw [fl]; simp [*]; done)), (by (try dsimp only) <;> (first | exact fs | (rw [hf]; exact sets_app fs (by dsimp only; omega)))), (by (try dsimp only) <;> (first | exact fc | (rw [hf]; exact codesOk_app fc (by dsimp only; omega)))), (by (try dsimp only) <;> (exact y))⟩ (by first | omega | (dsimp only; omega))
          · cbv
          · cbv
    · have dz_i1 := drop_end (xs := [([97] : List UInt8), ([97, 98] : List UInt8), ([97, 98, 99] : List UInt8), ([98] : List UInt8), ([98, 98] : List UInt8), ([99] : List UInt8), ([100] : List UInt8), ([101] : List UInt8), ([102] : List UInt8), ([102, 102] : List UInt8), ([102, 105] : List UInt8), ([105] : List UInt8)]) (i := Int.toNat i1) (by simp only [List.length_cons, List.length_nil]; omega)
      have tz_i1 := take_end (xs := [([97] : List UInt8), ([97, 98] : List UInt8), ([97, 98, 99] : List UInt8), ([98] : List UInt8), ([98, 98] : List UInt8), ([99] : List UInt8), ([100] : List UInt8), ([101] : List UInt8), ([102] : List UInt8), ([102, 102] : List UInt8), ([102, 105] : List UInt8), ([105] : List UInt8)]) (i := Int.toNat i1) (by simp only [List.length_cons, List.length_nil]; omega)
      refine hF _ _ ?_
      conv => cbv
      refine r_lenR m.sX fun n8 hn8 mn8 => ?_
      conv => cbv
      refine r_eql m.sX (fun h5 => ?_) (fun h5 => ?_) <;> conv => cbv
      · exact hQ (.fr 140 2 [[.str ([97] : List UInt8), .int .i64 9]]) (cCur code a1 s1) ⟨[(([97] : List UInt8), 9)], (by first | rfl | (simp only [rows_nil]; rfl) | (simp only [rows_cons, rows_nil]; rfl)), ⟨a1, s1, rfl, by omega, by omega⟩, (by first | omega | assumption | (simp; done) | (simp [*]; done) | (intro x hx; simp at hx; subst hx; decide) | (simp at *; omega)), (by first | omega | assumption | (simp; done) | (simp [*]; done) | (intro x hx; simp at hx; subst hx; decide) | (simp at *; omega)), (by first | omega | assumption | (simp; done) | (simp [*]; done) | (intro x hx; simp at hx; subst hx; decide) | (simp at *; omega)), (by first | omega | assumption | (simp; done) | (simp [*]; done) | (intro x hx; simp at hx; subst hx; decide) | (simp at *; omega))⟩   -- leaf 1
      · exact hQ (.fr 140 2 (rows cSort f)) (cCur code a1 s1) ⟨f, rfl, ⟨a1, s1, rfl, by omega, by omega⟩, (by first | omega | assumption | (simp; done) | (simp [*]; done) | (intro x hx; simp at hx; subst hx; decide) | (simp at *; omega)), (by first | omega | assumption | (simp; done) | (simp [*]; done) | (intro x hx; simp at hx; subst hx; decide) | (simp at *; omega)), (by first | omega | assumption | (simp; done) | (simp [*]; done) | (intro x hx; simp at hx; subst hx; decide) | (simp at *; omega)), (by first | omega | assumption | (simp; done) | (simp [*]; done) | (intro x hx; simp at hx; subst hx; decide) | (simp at *; omega))⟩   -- leaf 2

theorem cWord_ok (code : List Int) (b0 t0 : Int)  (h : CurIn code) (h0 : 0 ≤ b0) (hk : b0 ≤ 899999999999940000)  : OkM Try.prog 144 (cCur code b0 t0) [] (fun r cs => ∃ (q : List UInt8), r = .str q ∧ CurTo code b0 60 cs ∧ ((q.length : Int) ≤ 10)) :=
  fnM_intro envOk fieldsOk mixed Try.func144 rfl fun κ X Y L Q m hQ => by
    conv => cbv
    refine r_mcall m.sX (cPick_ok code b0 t0 6 h (by omega) (by omega)) ?_
    rintro _ _ ⟨q1, rfl, ⟨a1, s1, rfl, ea1, fa1⟩, bq1, cq1, dq1⟩
    conv => cbv
    refine r_addf m.sX (by omega) (by omega) fun n hn => ?_
    conv => cbv
    refine r_loopF (α := Int × Int × List UInt8) m 18 [3, 4] [⟨0, 1, 0, 0, 0⟩] (fun σ => [(0, .optr 1 0 0 0 0), (3, .str σ.2.2), (4, .int .i64 n)]) (fun σ => [(1, 0, .box (cCur code σ.1 σ.2.1))])
      (fun σ => (b0 ≤ σ.1 ∧ σ.1 ≤ b0 + 2 + 2 * (σ.2.2.length : Int)) ∧ ((σ.2.2.length : Int) ≤ n + 2)) (fun σ => (n - (σ.2.2.length : Int)).toNat) (a1, s1, ([] : List UInt8)) ?_ ?_ ?_ ?_
    · cbv
    · cbv
    · exact ⟨(by (try dsimp only) <;> first | omega | rfl | (simp [*]; done)), (by (try dsimp only) <;> (simp; omega))⟩
    rintro ⟨a2, s2, s_⟩ ⟨cu, sl⟩ E hE F hF
    dsimp only at cu sl
    conv => cbv
    refine r_slen (u := s_) m.sX fun n1 hn1 mn1 => ?_   -- n1 = length of s_
    conv => cbv
    refine r_lss m.sX (fun h1 => ?_) (fun h1 => ?_) <;> conv => cbv
    · refine r_mcall m.sX (cOfL_ok code a2 s2 ([([97] : List UInt8), ([98] : List UInt8), ([99] : List UInt8), ([97, 98] : List UInt8), ([98, 98] : List UInt8), ([97, 98, 99] : List UInt8), ([100] : List UInt8), ([101] : List UInt8), ([102] : List UInt8), ([102, 105] : List UInt8)]) h (by omega) (by omega) (by first | rfl | assumption | omega | (simp only [List.length_append, List.length_cons, List.length_nil] at *; omega)) (by first | rfl | assumption | omega | (simp only [List.length_append, List.length_cons, List.length_nil] at *; omega))) ?_
      rintro _ _ ⟨q2, rfl, ⟨a3, s3, rfl, ea3, fa3⟩, bq2_1⟩
      have wl := wordL_len q2 bq2_1
      conv => cbv
      refine r_scat (u := s_) (v := q2) m.sX (by first | omega | (simp only [List.length_cons, List.length_nil]; omega) | (simp; omega)) fun s__2 hs__2 => ?_   -- s__2 = s_ ++ q2
      have ls__2 : (s__2.length : Int) = s_.length + q2.length := by rw [hs__2, List.length_append, Int.natCast_add]
      try simp only [List.length_cons, List.length_nil] at ls__2
      conv => cbv
      refine hE _ (a3, s3, s__2) ?_ ?_ ⟨(by (try dsimp only) <;> first | omega | rfl | (simp [*]; done) | (rw [cu]; simp [*]; done)), (by (try dsimp only) <;> first | omega | rfl | (simp [*]; done) | (rw [sl]; simp [*]; done))⟩ (by first | omega | (dsimp only; omega))
      · cbv
      · cbv
    · refine hF _ _ ?_
      conv => cbv
      exact hQ (.str s_) (cCur code a2 s2) ⟨s_, rfl, ⟨a2, s2, rfl, by omega, by omega⟩, (by first | omega | assumption | (simp; done) | (simp [*]; done) | (simp at *; omega))⟩   -- leaf 1

theorem cWord_ex (code : List Int) (b0 t0 : Int) : ∃ r cs, (∃ (q : List UInt8), r = PV.str q ∧ CurTo code b0 60 cs ∧ ((q.length : Int) ≤ 10)) :=
  ⟨_, _, [], rfl, ⟨b0, t0, rfl, by omega, by omega⟩, (by first | omega | simp)⟩

theorem cAnyWord_ok (code : List Int) (b0 t0 : Int)  (h : CurIn code) (h0 : 0 ≤ b0) (hk : b0 ≤ 899999999999900000)  : OkM Try.prog 106 (cCur code b0 t0) [] (fun r cs => ∃ (q : List UInt8), r = .str q ∧ CurTo code b0 100 cs ∧ ((q.length : Int) ≤ 20)) :=
  fnM_intro envOk fieldsOk mixed Try.func106 rfl fun κ X Y L Q m hQ => by
    conv => cbv
    refine r_mcall m.sX (cPick_ok code b0 t0 30 h (by omega) (by omega)) ?_
    rintro _ _ ⟨q1, rfl, ⟨a1, s1, rfl, ea1, fa1⟩, bq1, cq1, dq1⟩
    conv => cbv
    refine r_eql m.sX (fun h1 => ?_) (fun h1 => ?_) <;> conv => cbv
    · refine r_mcall m.sX (cOfL_ok code a1 s1 ([([] : List UInt8), ([65] : List UInt8), ([97, 32, 98] : List UInt8), ([97, 45, 98] : List UInt8)]) h (by omega) (by omega) (by first | rfl | assumption | omega | (simp only [List.length_append, List.length_cons, List.length_nil] at *; omega)) (by first | rfl | assumption | omega | (simp only [List.length_append, List.length_cons, List.length_nil] at *; omega))) ?_
      rintro _ _ ⟨q2, rfl, ⟨a2, s2, rfl, ea2, fa2⟩, bq2_1⟩
      have wl := wordL2_len q2 bq2_1
      conv => cbv
      exact hQ (.str q2) (cCur code a2 s2) ⟨q2, rfl, ⟨a2, s2, rfl, by omega, by omega⟩, (by first | omega | assumption | (simp; done) | (simp [*]; done) | (simp at *; omega))⟩   -- leaf 1
    · refine r_eql m.sX (fun h2 => ?_) (fun h2 => ?_) <;> conv => cbv
      · refine r_mcall m.sX (cPick_ok code a1 s1 2 h (by omega) (by omega)) ?_
        rintro _ _ ⟨q3, rfl, ⟨a3, s3, rfl, ea3, fa3⟩, bq3, cq3, dq3⟩
        conv => cbv
        refine r_addf m.sX (by omega) (by omega) fun n hn => ?_
        conv => cbv
        refine r_loopF (α := List UInt8) m 31 [3, 4] [⟨0, 1, 0, 0, 0⟩] (fun σ => [(0, .optr 1 0 0 0 0), (3, .str σ), (4, .int .i64 n)]) (fun σ => [(1, 0, .box (cCur code a3 s3))])
          (fun σ => (σ.length : Int) ≤ n) (fun σ => (n - (σ.length : Int)).toNat) ([] : List UInt8) ?_ ?_ ?_ ?_
        · cbv
        · cbv
        · exact (by (try dsimp only) <;> (simp; omega))
        rintro s_ sl E hE F hF
        conv => cbv
        refine r_slen (u := s_) m.sX fun n1 hn1 mn1 => ?_   -- n1 = length of s_
        conv => cbv
        refine r_lss m.sX (fun h3 => ?_) (fun h3 => ?_) <;> conv => cbv
        · refine r_scat (u := s_) (v := ([97] : List UInt8)) m.sX (by first | omega | (simp only [List.length_cons, List.length_nil]; omega) | (simp; omega)) fun s__2 hs__2 => ?_   -- s__2 = s_ ++ ([97] : List UInt8)
          have ls__2 : (s__2.length : Int) = s_.length + ([97] : List UInt8).length := by rw [hs__2, List.length_append, Int.natCast_add]
          try simp only [List.length_cons, List.length_nil] at ls__2
          conv => cbv
          refine hE _ s__2 ?_ ?_ (by (try dsimp only) <;> first | omega | rfl | (simp [*]; done) | (rw [sl]; simp [*]; done)) (by first | omega | (dsimp only; omega))
          · cbv
          · cbv
        · refine hF _ _ ?_
          conv => cbv
          exact hQ (.str s_) (cCur code a3 s3) ⟨s_, rfl, ⟨a3, s3, rfl, by omega, by omega⟩, (by first | omega | assumption | (simp; done) | (simp [*]; done) | (simp at *; omega))⟩   -- leaf 2
      · refine r_eql m.sX (fun h4 => ?_) (fun h4 => ?_) <;> conv => cbv
        · refine r_mcall m.sX (cWord_ok code a1 s1 h (by omega) (by omega)) ?_
          rintro _ _ ⟨q4, rfl, ⟨a4, s4, rfl, ea4, fa4⟩, bq4_1⟩
          conv => cbv
          refine r_scat (u := q4) (v := ([122] : List UInt8)) m.sX (by first | omega | (simp only [List.length_cons, List.length_nil]; omega) | (simp; omega)) fun s5 hs5 => ?_   -- s5 = q4 ++ ([122] : List UInt8)
          have ls5 : (s5.length : Int) = q4.length + ([122] : List UInt8).length := by rw [hs5, List.length_append, Int.natCast_add]
          try simp only [List.length_cons, List.length_nil] at ls5
          conv => cbv
          exact hQ (.str s5) (cCur code a4 s4) ⟨s5, rfl, ⟨a4, s4, rfl, by omega, by omega⟩, (by first | omega | assumption | (simp; done) | (simp [*]; done) | (simp at *; omega))⟩   -- leaf 3
        · refine r_mcall m.sX (cWord_ok code a1 s1 h (by omega) (by omega)) ?_
          rintro _ _ ⟨q5, rfl, ⟨a5, s6, rfl, ea5, fa5⟩, bq5_1⟩
          conv => cbv
          exact hQ (.str q5) (cCur code a5 s6) ⟨q5, rfl, ⟨a5, s6, rfl, by omega, by omega⟩, (by first | omega | assumption | (simp; done) | (simp [*]; done) | (simp at *; omega))⟩   -- leaf 4

theorem cAnyWord_ex (code : List Int) (b0 t0 : Int) : ∃ r cs, (∃ (q : List UInt8), r = PV.str q ∧ CurTo code b0 100 cs ∧ ((q.length : Int) ≤ 20)) :=
  ⟨_, _, [], rfl, ⟨b0, t0, rfl, by omega, by omega⟩, (by first | omega | simp)⟩

theorem flat_cStr : ∀ x, ∀ c ∈ cStr x, flat c := fun x c hc => by
  simp only [cStr, List.mem_cons, List.not_mem_nil, or_false] at hc
  subst hc; trivial
theorem flat_sbO {v : Sett × Bool} : ∀ r, r = sbO v → flatR r := fun r h => by
  subst h
  intro x hx
  simp only [List.mem_cons, List.not_mem_nil, or_false] at hx
  rcases hx with rfl | rfl
  · intro c hc
    simp only [cSetO, List.mem_cons, List.not_mem_nil, or_false] at hc
    rcases hc with rfl | rfl
    · exact flat_rows flat_cBox v.1.1
    · exact flat_rows flat_cStr v.1.2
  · trivial
theorem setSA_cnt {f : List FSort} {s r : Sett} {w : List UInt8} (h : (r, true) = setSA f s w) : cntIn 9999 r.1 ∧ 1 ≤ r.1.length ∧ r.1.length ≤ 33 := by
  have hc := (askedC_spec (setSA_spec h).2.2.2).2.1
  refine ⟨fun x hx => ?_, ?_⟩
  · have := okBox_cnt (case_box hc hx); omega
  · have := case_len hc; omega
theorem cSetting_ok (code : List Int) (b0 t0 : Int)  (h : CurIn code) (h0 : 0 ≤ b0) (hk : b0 ≤ 899999999998000000)  : OkM Try.prog 104 (cCur code b0 t0) [] (fun r cs => ∃ (q1 : List FSort) (q2 : Sett), r = .tup [.isl 2 (rows cSort q1), .agg (cSetting q2)] ∧ CurTo code b0 2000 cs ∧ (q1.length ≤ 12) ∧ (1 ≤ q1.length) ∧ (cntIn 10000 q2.1) ∧ (1 ≤ q2.1.length) ∧ (q2.2.length ≤ 62) ∧ (q2.1.length ≤ 33)) :=
  fnM_intro envOk fieldsOk mixed Try.func104 rfl fun κ X Y L Q m hQ => by
    conv => cbv
    refine r_mcall m.sX (cFontC_ok code b0 t0 h (by omega) (by omega)) ?_
    rintro _ _ ⟨f, rfl, ⟨a1, s1, rfl, ea1, fa1⟩, bf_1, bf_2, bf_3, bf_4⟩
    conv => cbv
    refine r_mcall m.sX (cBoxes_ok code a1 s1 f h (by omega) (by omega) (by first | rfl | assumption | omega | (simp only [List.length_append, List.length_cons, List.length_nil] at *; omega))) ?_
    rintro _ _ ⟨q1, rfl, ⟨a2, s2, rfl, ea2, fa2⟩, bq1_1, bq1_2⟩
    conv => cbv
    refine r_mcall m.sX (cPick_ok code a2 s2 4 h (by omega) (by omega)) ?_
    rintro _ _ ⟨n, rfl, ⟨a3, s3, rfl, ea3, fa3⟩, bn, cn, dn⟩
    conv => cbv
    refine r_loopF (α := Int × Int × List Box × List (List UInt8) × Int) m 75 [4, 6] [⟨0, 1, 0, 0, 0⟩, ⟨3, 25, 0, 0, 0⟩, ⟨5, 41, 0, 0, 0⟩, ⟨5, 8041, 83, 4, 1⟩, ⟨5, 16041, 9, 1, 2⟩] (fun σ => [(0, .optr 1 0 0 0 0), (3, .optr 25 0 2 0 0), (4, .isl 2 (rows cSort f)), (5, .optr 41 0 2 0 0), (6, .int .i64 σ.2.2.2.2)]) (fun σ => [(1, 0, .box (cCur code σ.1 σ.2.1)), (25, 0, .box [.nil, .nil]), (41, 0, .box [.osl 8041 0, .osl 16041 0]), (8041, 0, .row 83 4 (rows cBox σ.2.2.1)), (16041, 0, .row 9 1 (rows cStr σ.2.2.2.1))])
      (fun σ => (a3 ≤ σ.1 ∧ σ.1 ≤ a3 + 62 * (n - σ.2.2.2.2)) ∧ (0 ≤ σ.2.2.2.2 ∧ σ.2.2.2.2 ≤ n) ∧ (σ.2.2.2.1.length ≤ 60) ∧ (1 ≤ σ.2.2.1.length) ∧ (σ.2.2.1.length ≤ 33) ∧ (cntIn 9999 σ.2.2.1)) (fun σ => σ.2.2.2.2.toNat) (a3, s3, q1, [], n) ?_ ?_ ?_ ?_
    · cbv
    · (try dsimp only); (try simp only [rows_cons, rows_nil]); cbv
    · exact ⟨(by (try dsimp only) <;> first | omega | rfl | (simp [*]; done)), (by (try dsimp only) <;> first | omega | rfl | (simp [*]; done)), (by (try dsimp only) <;> (simp)), (by (try dsimp only) <;> (omega)), (by (try dsimp only) <;> (omega)), (by (try dsimp only) <;> (exact cntIn_up bq1_2 (by omega)))⟩
    rintro ⟨a4, s4, ys1, ys2, n_2⟩ ⟨cu, nb, bs, lb_, ub_, ci⟩ E hE F hF
    dsimp only at cu nb bs lb_ ub_ ci
    conv => cbv
    refine r_gtr m.sX (fun h1 => ?_) (fun h1 => ?_) <;> conv => cbv
    · refine r_draw m (by kernel_rfl) ?_
      conv => cbv
      refine r_mcallS m.sY (cWord_ok code a4 s4 h (by omega) (by omega)) (cWord_ex code a4 s4) (by rintro _ _ ⟨_, rfl, _⟩; first | trivial | (intro x hx; simp at hx; rcases hx with rfl | rfl | rfl <;> trivial)) ?_
      rintro _ _ ⟨q2, rfl, ⟨a5, s5, rfl, ea5, fa5⟩, bq2_1⟩
      conv => cbv
      refine .inl (r_callFSO sbO m.sY ((diSet_ok f (ys1, ys2) q2 (by assumption) (by omega) (by dsimp only; omega)).ok flat_sbO) trivial fun v hnextA => ?_)
      obtain ⟨⟨nextA, nextB⟩, ok⟩ := v
      conv => cbv
      try dsimp only at hnext
      have hnext := hnextA
      rcases Bool.eq_false_or_eq_true ok with rfl | rfl <;> conv => cbv
      · have sl := setSA_len hnext
        try dsimp only at sl
        obtain ⟨sc1, sc2, sc3⟩ := setSA_cnt hnext
        dsimp only at sl sc1 sc2 sc3
        refine r_subf m.sX (by omega) (by omega) fun n_3 hn_3 => ?_
        conv => cbv
        refine hE _ (a5, s5, nextA, nextB, n_3) ?_ ?_ ⟨(by (try dsimp only) <;> first | omega | rfl | (simp [*]; done) | (rw [cu]; simp [*]; done)), (by (try dsimp only) <;> first | omega | rfl | (simp [*]; done) | (rw [nb]; simp [*]; done)), (by (try dsimp only) <;> (first | exact sl | exact bs)), (by (try dsimp only) <;> (first | exact sc2 | exact lb_)), (by (try dsimp only) <;> (first | exact sc3 | exact ub_)), (by (try dsimp only) <;> (first | exact sc1 | exact ci))⟩ (by first | omega | (dsimp only; omega))
        · cbv
        · cbv
      · refine r_subf m.sX (by omega) (by omega) fun n_4 hn_4 => ?_
        conv => cbv
        refine hE _ (a5, s5, ys1, ys2, n_4) ?_ ?_ ⟨(by (try dsimp only) <;> first | omega | rfl | (simp [*]; done) | (rw [cu]; simp [*]; done)), (by (try dsimp only) <;> first | omega | rfl | (simp [*]; done) | (rw [nb]; simp [*]; done)), (by (try dsimp only) <;> (first | exact sl | exact bs)), (by (try dsimp only) <;> (first | exact sc2 | exact lb_)), (by (try dsimp only) <;> (first | exact sc3 | exact ub_)), (by (try dsimp only) <;> (first | exact sc1 | exact ci))⟩ (by first | omega | (dsimp only; omega))
        · cbv
        · cbv
    · refine hF _ _ ?_
      conv => cbv
      refine r_mcall m.sX (cPick_ok code a4 s4 24 h (by omega) (by omega)) ?_
      rintro _ _ ⟨q3, rfl, ⟨a6, s6, rfl, ea6, fa6⟩, bq3, cq3, dq3⟩
      conv => cbv
      refine r_eql m.sX (fun h2 => ?_) (fun h2 => ?_) <;> conv => cbv
      · refine .inl (r_callFO (fun l => PV.fr _ _ (rows _ l)) m.sX ((l1OwnS_ok ys2 (by first | rfl | assumption | omega | (simp only [List.length_append, List.length_cons, List.length_nil] at *; omega))).ok (flat_fr flat_cStr)) fun v1 hv1 => ?_)
        conv => cbv
        try dsimp only at hv1
        have lv1 : v1.length = ys2.length := by rw [hv1]
        refine r_mcall m.sX (cOfL_ok code a6 s6 ([([122, 122, 122] : List UInt8), ([] : List UInt8)]) h (by omega) (by omega) (by first | rfl | assumption | omega | (simp only [List.length_append, List.length_cons, List.length_nil] at *; omega)) (by first | rfl | assumption | omega | (simp only [List.length_append, List.length_cons, List.length_nil] at *; omega))) ?_
        rintro _ _ ⟨q4, rfl, ⟨a7, s7, rfl, ea7, fa7⟩, bq4_1⟩
        conv => cbv
        refine r_append1 (q4) m.sX rfl (by first | omega | (dsimp only; omega)) (by first | omega | (dsimp only; omega)) fun zs1 hzs1 => ?_
        conv => cbv
        have lzs1 : (zs1.length : Int) = v1.length + 1 := by rw [hzs1]; first | done | (simp; done) | (simp; omega)
        refine r_draw m (by kernel_rfl) ?_
        conv => cbv
        exact hQ (.tup [.isl 2 (rows cSort f), .agg [.isl 4 (rows cBox ys1), .isl 1 (rows cStr zs1)]]) (cCur code a7 s7) ⟨f, (ys1, zs1), rfl, ⟨a7, s7, rfl, by omega, by omega⟩, (by first | omega | exact cntIn_up ci (by omega) | (rw [ye]; exact cntIn_up ci (by omega)) | (rw [ye]; exact lb_) | (rw [ye]; exact ub_) | (rw [hzs3]; exact cntIn_set ci (by omega) _ (by dsimp only; omega)) | assumption | (simp; done) | (simp [*]; done) | (simp at *; omega)), (by first | omega | exact cntIn_up ci (by omega) | (rw [ye]; exact cntIn_up ci (by omega)) | (rw [ye]; exact lb_) | (rw [ye]; exact ub_) | (rw [hzs3]; exact cntIn_set ci (by omega) _ (by dsimp only; omega)) | assumption | (simp; done) | (simp [*]; done) | (simp at *; omega)), (by first | omega | exact cntIn_up ci (by omega) | (rw [ye]; exact cntIn_up ci (by omega)) | (rw [ye]; exact lb_) | (rw [ye]; exact ub_) | (rw [hzs3]; exact cntIn_set ci (by omega) _ (by dsimp only; omega)) | assumption | (simp; done) | (simp [*]; done) | (simp at *; omega)), (by first | omega | exact cntIn_up ci (by omega) | (rw [ye]; exact cntIn_up ci (by omega)) | (rw [ye]; exact lb_) | (rw [ye]; exact ub_) | (rw [hzs3]; exact cntIn_set ci (by omega) _ (by dsimp only; omega)) | assumption | (simp; done) | (simp [*]; done) | (simp at *; omega)), (by first | omega | exact cntIn_up ci (by omega) | (rw [ye]; exact cntIn_up ci (by omega)) | (rw [ye]; exact lb_) | (rw [ye]; exact ub_) | (rw [hzs3]; exact cntIn_set ci (by omega) _ (by dsimp only; omega)) | assumption | (simp; done) | (simp [*]; done) | (simp at *; omega)), (by first | omega | exact cntIn_up ci (by omega) | (rw [ye]; exact cntIn_up ci (by omega)) | (rw [ye]; exact lb_) | (rw [ye]; exact ub_) | (rw [hzs3]; exact cntIn_set ci (by omega) _ (by dsimp only; omega)) | assumption | (simp; done) | (simp [*]; done) | (simp at *; omega))⟩   -- leaf 1
      · refine r_eql m.sX (fun h3 => ?_) (fun h3 => ?_) <;> conv => cbv
        · refine r_mcall m.sX (cPick_ok code a6 s6 2 h (by omega) (by omega)) ?_
          rintro _ _ ⟨q5, rfl, ⟨a8, s8, rfl, ea8, fa8⟩, bq5, cq5, dq5⟩
          conv => cbv
          refine r_addf m.sX (by omega) (by omega) fun n_5 hn_5 => ?_
          conv => cbv
          refine r_loopF (α := List Box × List (List UInt8)) m 75 [4, 9] [⟨0, 1, 0, 0, 0⟩, ⟨3, 25, 0, 0, 0⟩, ⟨5, 41, 0, 0, 0⟩, ⟨5, 8041, 83, 4, 1⟩, ⟨5, 16041, 9, 1, 2⟩] (fun σ => [(0, .optr 1 0 0 0 0), (3, .optr 25 0 2 0 0), (4, .isl 2 (rows cSort f)), (5, .optr 41 0 2 0 0), (9, .int .i64 n_5)]) (fun σ => [(1, 0, .box (cCur code a8 s8)), (25, 0, .box [.nil, .nil]), (41, 0, .box [.osl 8041 0, .osl 16041 0]), (8041, 0, .row 83 4 (rows cBox σ.1)), (16041, 0, .row 9 1 (rows cStr σ.2))])
            (fun σ => ((σ.2.length : Int) ≤ n_5) ∧ (σ.1 = ys1)) (fun σ => (n_5 - (σ.2.length : Int)).toNat) (ys1, ys2) ?_ ?_ ?_ ?_
          · cbv
          · cbv
          · exact ⟨(by (try dsimp only); first | omega | (simp only [List.length_nil]; omega) | (simp only [List.length_cons, List.length_nil]; omega)), (by (try dsimp only) <;> (rfl))⟩
          rintro ⟨ys3, ys4⟩ ⟨ll2, ye⟩ E hE F hF
          dsimp only at ll2 ye
          conv => cbv
          refine r_lenR m.sX fun n1 hn1 mn1 => ?_
          conv => cbv
          refine r_lss m.sX (fun h4 => ?_) (fun h4 => ?_) <;> conv => cbv
          · refine r_draw m (by kernel_rfl) ?_
            conv => cbv
            refine r_index m.sY (by omega) (by omega) fun v hx1A => ?_
            obtain ⟨x1A, x1B⟩ := v
            conv => cbv
            have hx1 := hx1A
            have mx1 := get_mem hx1
            refine r_append1 (x1A) m.sY rfl (by first | omega | (dsimp only; omega)) (by first | omega | (dsimp only; omega)) fun zs2 hzs2 => ?_
            conv => cbv
            have lzs2 : (zs2.length : Int) = ys4.length + 1 := by rw [hzs2]; first | done | (simp; done) | (simp; omega)
            refine hE _ (ys3, zs2) ?_ ?_ ⟨(by (try dsimp only); first | omega | (simp only [List.length_nil]; omega) | (simp only [List.length_cons, List.length_nil]; omega)), (by (try dsimp only) <;> (exact ye))⟩ (by first | omega | (dsimp only; omega))
            · cbv
            · cbv
          · refine hF _ _ ?_
            conv => cbv
            refine r_draw m (by kernel_rfl) ?_
            conv => cbv
            exact hQ (.tup [.isl 2 (rows cSort f), .agg [.isl 4 (rows cBox ys3), .isl 1 (rows cStr ys4)]]) (cCur code a8 s8) ⟨f, (ys3, ys4), rfl, ⟨a8, s8, rfl, by omega, by omega⟩, (by first | omega | exact cntIn_up ci (by omega) | (rw [ye]; exact cntIn_up ci (by omega)) | (rw [ye]; exact lb_) | (rw [ye]; exact ub_) | (rw [hzs3]; exact cntIn_set ci (by omega) _ (by dsimp only; omega)) | assumption | (simp; done) | (simp [*]; done) | (simp at *; omega)), (by first | omega | exact cntIn_up ci (by omega) | (rw [ye]; exact cntIn_up ci (by omega)) | (rw [ye]; exact lb_) | (rw [ye]; exact ub_) | (rw [hzs3]; exact cntIn_set ci (by omega) _ (by dsimp only; omega)) | assumption | (simp; done) | (simp [*]; done) | (simp at *; omega)), (by first | omega | exact cntIn_up ci (by omega) | (rw [ye]; exact cntIn_up ci (by omega)) | (rw [ye]; exact lb_) | (rw [ye]; exact ub_) | (rw [hzs3]; exact cntIn_set ci (by omega) _ (by dsimp only; omega)) | assumption | (simp; done) | (simp [*]; done) | (simp at *; omega)), (by first | omega | exact cntIn_up ci (by omega) | (rw [ye]; exact cntIn_up ci (by omega)) | (rw [ye]; exact lb_) | (rw [ye]; exact ub_) | (rw [hzs3]; exact cntIn_set ci (by omega) _ (by dsimp only; omega)) | assumption | (simp; done) | (simp [*]; done) | (simp at *; omega)), (by first | omega | exact cntIn_up ci (by omega) | (rw [ye]; exact cntIn_up ci (by omega)) | (rw [ye]; exact lb_) | (rw [ye]; exact ub_) | (rw [hzs3]; exact cntIn_set ci (by omega) _ (by dsimp only; omega)) | assumption | (simp; done) | (simp [*]; done) | (simp at *; omega)), (by first | omega | exact cntIn_up ci (by omega) | (rw [ye]; exact cntIn_up ci (by omega)) | (rw [ye]; exact lb_) | (rw [ye]; exact ub_) | (rw [hzs3]; exact cntIn_set ci (by omega) _ (by dsimp only; omega)) | assumption | (simp; done) | (simp [*]; done) | (simp at *; omega))⟩   -- leaf 2
        · refine r_eql m.sX (fun h5 => ?_) (fun h5 => ?_) <;> conv => cbv
          · refine r_draw m (by kernel_rfl) ?_
            conv => cbv
            refine r_mcallS m.sY (cAmong_ok code a6 s6 ([9999, 10000, 9998]) (by simp) h (by omega) (by omega)) (cAmong_ex code a6 s6 ([9999, 10000, 9998]) (by simp)) (by rintro _ _ ⟨_, rfl, _⟩; first | trivial | (intro x hx; simp at hx; rcases hx with rfl | rfl | rfl <;> trivial)) ?_
            rintro _ _ ⟨q6, rfl, ⟨a9, s9, rfl, ea9, fa9⟩, bq6⟩
            simp only [List.mem_cons, List.not_mem_nil, or_false] at bq6
            conv => cbv
            refine r_oindex m.sY (by omega) (by omega) ?_
            conv => cbv
            obtain ⟨⟨y1A, y1B, y1C, y1D⟩, hy1⟩ := get_ex (xs := ys1) (i := Int.toNat 0) (by omega)
            refine r_ostore (l := Int.toNat 0) (y1A, y1B, y1C, q6) m.sY hy1 (Nat.le_of_ble_eq_true rfl) rfl fun zs3 hzs3 => ?_   -- zs3 = ys1.set 0 (y1A, y1B, y1C, q6)
            have lzs3 : (zs3.length : Int) = ys1.length := by rw [hzs3]; first | done | (simp; done) | (simp; omega)
            conv => cbv
            refine r_draw m (by kernel_rfl) ?_
            conv => cbv
            exact hQ (.tup [.isl 2 (rows cSort f), .agg [.isl 4 (rows cBox zs3), .isl 1 (rows cStr ys2)]]) (cCur code a9 s9) ⟨f, (zs3, ys2), rfl, ⟨a9, s9, rfl, by omega, by omega⟩, (by first | omega | exact cntIn_up ci (by omega) | (rw [ye]; exact cntIn_up ci (by omega)) | (rw [ye]; exact lb_) | (rw [ye]; exact ub_) | (rw [hzs3]; exact cntIn_set ci (by omega) _ (by dsimp only; omega)) | assumption | (simp; done) | (simp [*]; done) | (simp at *; omega)), (by first | omega | exact cntIn_up ci (by omega) | (rw [ye]; exact cntIn_up ci (by omega)) | (rw [ye]; exact lb_) | (rw [ye]; exact ub_) | (rw [hzs3]; exact cntIn_set ci (by omega) _ (by dsimp only; omega)) | assumption | (simp; done) | (simp [*]; done) | (simp at *; omega)), (by first | omega | exact cntIn_up ci (by omega) | (rw [ye]; exact cntIn_up ci (by omega)) | (rw [ye]; exact lb_) | (rw [ye]; exact ub_) | (rw [hzs3]; exact cntIn_set ci (by omega) _ (by dsimp only; omega)) | assumption | (simp; done) | (simp [*]; done) | (simp at *; omega)), (by first | omega | exact cntIn_up ci (by omega) | (rw [ye]; exact cntIn_up ci (by omega)) | (rw [ye]; exact lb_) | (rw [ye]; exact ub_) | (rw [hzs3]; exact cntIn_set ci (by omega) _ (by dsimp only; omega)) | assumption | (simp; done) | (simp [*]; done) | (simp at *; omega)), (by first | omega | exact cntIn_up ci (by omega) | (rw [ye]; exact cntIn_up ci (by omega)) | (rw [ye]; exact lb_) | (rw [ye]; exact ub_) | (rw [hzs3]; exact cntIn_set ci (by omega) _ (by dsimp only; omega)) | assumption | (simp; done) | (simp [*]; done) | (simp at *; omega)), (by first | omega | exact cntIn_up ci (by omega) | (rw [ye]; exact cntIn_up ci (by omega)) | (rw [ye]; exact lb_) | (rw [ye]; exact ub_) | (rw [hzs3]; exact cntIn_set ci (by omega) _ (by dsimp only; omega)) | assumption | (simp; done) | (simp [*]; done) | (simp at *; omega))⟩   -- leaf 3
          · refine r_draw m (by kernel_rfl) ?_
            conv => cbv
            exact hQ (.tup [.isl 2 (rows cSort f), .agg [.isl 4 (rows cBox ys1), .isl 1 (rows cStr ys2)]]) (cCur code a6 s6) ⟨f, (ys1, ys2), rfl, ⟨a6, s6, rfl, by omega, by omega⟩, (by first | omega | exact cntIn_up ci (by omega) | (rw [ye]; exact cntIn_up ci (by omega)) | (rw [ye]; exact lb_) | (rw [ye]; exact ub_) | (rw [hzs3]; exact cntIn_set ci (by omega) _ (by dsimp only; omega)) | assumption | (simp; done) | (simp [*]; done) | (simp at *; omega)), (by first | omega | exact cntIn_up ci (by omega) | (rw [ye]; exact cntIn_up ci (by omega)) | (rw [ye]; exact lb_) | (rw [ye]; exact ub_) | (rw [hzs3]; exact cntIn_set ci (by omega) _ (by dsimp only; omega)) | assumption | (simp; done) | (simp [*]; done) | (simp at *; omega)), (by first | omega | exact cntIn_up ci (by omega) | (rw [ye]; exact cntIn_up ci (by omega)) | (rw [ye]; exact lb_) | (rw [ye]; exact ub_) | (rw [hzs3]; exact cntIn_set ci (by omega) _ (by dsimp only; omega)) | assumption | (simp; done) | (simp [*]; done) | (simp at *; omega)), (by first | omega | exact cntIn_up ci (by omega) | (rw [ye]; exact cntIn_up ci (by omega)) | (rw [ye]; exact lb_) | (rw [ye]; exact ub_) | (rw [hzs3]; exact cntIn_set ci (by omega) _ (by dsimp only; omega)) | assumption | (simp; done) | (simp [*]; done) | (simp at *; omega)), (by first | omega | exact cntIn_up ci (by omega) | (rw [ye]; exact cntIn_up ci (by omega)) | (rw [ye]; exact lb_) | (rw [ye]; exact ub_) | (rw [hzs3]; exact cntIn_set ci (by omega) _ (by dsimp only; omega)) | assumption | (simp; done) | (simp [*]; done) | (simp at *; omega)), (by first | omega | exact cntIn_up ci (by omega) | (rw [ye]; exact cntIn_up ci (by omega)) | (rw [ye]; exact lb_) | (rw [ye]; exact ub_) | (rw [hzs3]; exact cntIn_set ci (by omega) _ (by dsimp only; omega)) | assumption | (simp; done) | (simp [*]; done) | (simp at *; omega))⟩   -- leaf 4

theorem drawLostTypes_ok (code : List Int) (h : CurIn code) : OkA Try.prog 70 [.isl 1 (rows cU8 code)] (fun r => ∃ (q1 : List Box) (q2 : Sett), r = .tup [.isl 4 (rows cBox q1), .agg (cSetting q2)]) :=
  OkA.iceR (fn_intro envOk fieldsOk mixed Try.func70 rfl fun κ X Y L Q m hQ => by
    conv => cbv
    refine r_mcall m.sX (cSetting_ok code 0 0 h (by omega) (by omega)) ?_
    rintro _ _ ⟨q1, ⟨s_A, s_B⟩, rfl, ⟨a1, s1, rfl, ea1, fa1⟩, bq1_1, bq1_2, bq1_3, bq1_4, bq1_5, bq1_6⟩
    try dsimp only at bq1_1 bq1_2 bq1_3 bq1_4 bq1_5 bq1_6
    conv => cbv
    refine r_append0R m.sX (by first | omega | (dsimp only; omega)) (by first | omega | (dsimp only; omega)) fun before hbefore => ?_
    conv => cbv
    have lbefore : (before.length : Int) = s_A.length := by rw [hbefore]; first | done | (simp; done) | (simp; omega)
    refine r_lenR m.sX fun n1 hn1 mn1 => ?_
    conv => cbv
    refine r_loopF (α := Int × Int × List Box × Int) m 49 [22, 23] [⟨3, 25, 0, 0, 0⟩, ⟨4, 33, 0, 0, 0⟩, ⟨6, 49, 0, 0, 0⟩, ⟨7, 57, 83, 4, 0⟩] (fun σ => [(3, .optr 25 0 2 0 0), (4, .optr 33 0 3 0 0), (6, .optr 49 0 2 0 0), (7, .osl 57 0), (22, .int .i64 n1), (23, .int .i64 σ.2.2.2)]) (fun σ => [(25, 0, .box [.nil, .nil]), (33, 0, .box (cCur code σ.1 σ.2.1)), (49, 0, .box [.isl 4 (rows cBox s_A), .isl 1 (rows cStr s_B)]), (57, 0, .row 83 4 (rows cBox σ.2.2.1))])
      (fun σ => (0 ≤ σ.2.2.2) ∧ (σ.2.2.2 ≤ n1) ∧ (a1 ≤ σ.1 ∧ σ.1 ≤ a1 + 4 * σ.2.2.2) ∧ (σ.2.2.1.length = s_A.length) ∧ (cntIn (10000 + 10 * σ.2.2.2) σ.2.2.1)) (fun σ => (n1 - σ.2.2.2).toNat) (a1, s1, before, 0) ?_ ?_ ?_ ?_
    · cbv
    · cbv
    · exact ⟨(by (try dsimp only); first | omega | (simp only [List.length_nil]; omega) | (simp only [List.length_cons, List.length_nil]; omega)), (by (try dsimp only); first | omega | (simp only [List.length_nil]; omega) | (simp only [List.length_cons, List.length_nil]; omega)), (by (try dsimp only); first | omega | (simp only [List.length_nil]; omega) | (simp only [List.length_cons, List.length_nil]; omega)), (by (try dsimp only) <;> (rw [hbefore])), (by (try dsimp only) <;> (rw [hbefore]; exact cntIn_up bq1_3 (by omega)))⟩
    rintro ⟨a2, s2, before_2, i1⟩ ⟨lo1, hi1, cl1, bl, cb⟩ E hE F hF
    dsimp only at lo1 hi1 cl1 bl cb
    conv => cbv
    refine r_lss m.sX (fun h1 => ?_) (fun h1 => ?_) <;> conv => cbv
    · refine r_mcall m.sX (cOne_ok code a2 s2 3 h (by omega) (by omega)) ?_
      rintro _ _ ⟨q2, rfl, ⟨a3, s3, rfl, ea3, fa3⟩⟩
      conv => cbv
      rcases Bool.eq_false_or_eq_true q2 with rfl | rfl <;> conv => cbv
      · refine r_draw m (by kernel_rfl) ?_
        conv => cbv
        refine r_oindex m.sY (by omega) (by omega) ?_
        conv => cbv
        obtain ⟨⟨x1A, x1B, x1C, x1D⟩, hx1⟩ := get_ex (xs := before_2) (i := Int.toNat i1) (by omega)
        have mx1 := get_mem hx1
        have dx1 := drop_cons hx1
        have kx1 := take_snoc hx1
        have jx1 : (i1 + 1).toNat = Int.toNat i1 + 1 := by omega
        have bx := cb _ mx1
        try dsimp only at bx
        refine r_oload m.sY hx1 (Nat.le_of_ble_eq_true rfl) ?_
        conv => cbv
        refine r_mcallS m.sY (cPick_ok code a3 s3 5 h (by omega) (by omega)) (cPick_ex code a3 s3 5) (by rintro _ _ ⟨_, rfl, _⟩; first | trivial | (intro x hx; simp at hx; rcases hx with rfl | rfl | rfl <;> trivial)) ?_
        rintro _ _ ⟨q3, rfl, ⟨a4, s4, rfl, ea4, fa4⟩, bq3, cq3, dq3⟩
        conv => cbv
        refine r_addf m.sY (by omega) (by omega) fun r1 hr1 => ?_
        conv => cbv
        refine r_subf m.sY (by omega) (by omega) fun r2 hr2 => ?_
        conv => cbv
        refine r_callFS (PV.int .i64) m.sY (l1Most_ok 0 r2) trivial fun r3 hr3 => ?_
        conv => cbv
        try dsimp only at hr3
        refine r_oindex m.sY (by omega) (by omega) ?_
        conv => cbv
        obtain ⟨⟨y1A, y1B, y1C, y1D⟩, hy1⟩ := get_ex (xs := before_2) (i := Int.toNat i1) (by omega)
        refine r_ostore (l := Int.toNat i1) (y1A, y1B, y1C, r3) m.sY hy1 (Nat.le_of_ble_eq_true rfl) rfl fun before_3 hbefore_3 => ?_   -- before_3 = before_2.set i1 (y1A, y1B, y1C, r3)
        have lbefore_3 : (before_3.length : Int) = before_2.length := by rw [hbefore_3]; first | done | (simp; done) | (simp; omega)
        conv => cbv
        refine r_addf m.sX (by omega) (by omega) fun r4 hr4 => ?_
        conv => cbv
        try have tr4 : Int.toNat r4 = Int.toNat i1 + 1 := by omega
        refine hE _ (a4, s4, before_3, r4) ?_ ?_ ⟨(by (try dsimp only); first | omega | (simp only [List.length_nil]; omega) | (simp only [List.length_cons, List.length_nil]; omega)), (by (try dsimp only); first | omega | (simp only [List.length_nil]; omega) | (simp only [List.length_cons, List.length_nil]; omega)), (by (try dsimp only); first | omega | (simp only [List.length_nil]; omega) | (simp only [List.length_cons, List.length_nil]; omega)), (by (try dsimp only) <;> first | omega | rfl | (simp [*]; done) | (rw [bl]; simp [*]; done)), (by (try dsimp only) <;> (first | (rw [hbefore_3]; exact cntIn_set cb (by omega) _ (by dsimp only; omega)) | exact cntIn_up cb (by omega)))⟩ (by first | omega | (dsimp only; omega))
        · cbv
        · cbv
      · refine r_addf m.sX (by omega) (by omega) fun r5 hr5 => ?_
        conv => cbv
        try have tr5 : Int.toNat r5 = Int.toNat i1 + 1 := by omega
        refine hE _ (a3, s3, before_2, r5) ?_ ?_ ⟨(by (try dsimp only); first | omega | (simp only [List.length_nil]; omega) | (simp only [List.length_cons, List.length_nil]; omega)), (by (try dsimp only); first | omega | (simp only [List.length_nil]; omega) | (simp only [List.length_cons, List.length_nil]; omega)), (by (try dsimp only); first | omega | (simp only [List.length_nil]; omega) | (simp only [List.length_cons, List.length_nil]; omega)), (by (try dsimp only) <;> first | omega | rfl | (simp [*]; done) | (rw [bl]; simp [*]; done)), (by (try dsimp only) <;> (first | (rw [hbefore_3]; exact cntIn_set cb (by omega) _ (by dsimp only; omega)) | exact cntIn_up cb (by omega)))⟩ (by first | omega | (dsimp only; omega))
        · cbv
        · cbv
    · have dz_i1 := drop_end (xs := before) (i := Int.toNat i1) (by omega)
      have tz_i1 := take_end (xs := before) (i := Int.toNat i1) (by omega)
      refine hF _ _ ?_
      conv => cbv
      refine r_mcall m.sX (cOne_ok code a2 s2 12 h (by omega) (by omega)) ?_
      rintro _ _ ⟨q4, rfl, ⟨a5, s5, rfl, ea5, fa5⟩⟩
      conv => cbv
      rcases Bool.eq_false_or_eq_true q4 with rfl | rfl <;> conv => cbv
      · refine r_mcall m.sX (cAnyCase_ok code a5 s5 h (by omega) (by omega)) ?_
        rintro _ _ ⟨before_4, rfl, ⟨a6, s6, rfl, ea6, fa6⟩, bbefore_4_1⟩
        conv => cbv
        refine r_draw m (by kernel_rfl) ?_
        conv => cbv
        exact hQ (.tup [.isl 4 (rows cBox before_4), .agg [.isl 4 (rows cBox s_A), .isl 1 (rows cStr s_B)]]) ⟨before_4, (s_A, s_B), rfl⟩   -- leaf 1
      · refine r_draw m (by kernel_rfl) ?_
        conv => cbv
        exact hQ (.tup [.fr 83 4 (rows cBox before_2), .agg [.isl 4 (rows cBox s_A), .isl 1 (rows cStr s_B)]]) ⟨before_2, (s_A, s_B), rfl⟩)   -- leaf 2

end Go.Proofs.Ytmlojdpfpccgoaa.Ai
