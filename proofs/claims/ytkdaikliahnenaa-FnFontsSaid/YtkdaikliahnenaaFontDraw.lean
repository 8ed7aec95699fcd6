/- Contracts of drawn fonts and words, with bounds. -/
import Derived.Test.YtkdaikliahnenaaInk
namespace Go.Proofs.Ytkdaikliahnenaa.Ai
open Go Go.Proofs
set_option maxRecDepth 10000
set_option maxHeartbeats 4000000
set_option linter.unusedVariables false

theorem sets_app {f : List FSort} (h : ∀ x ∈ f, -100 ≤ x.2 ∧ x.2 ≤ 100) {y : FSort} (hy : -100 ≤ y.2 ∧ y.2 ≤ 100) : ∀ x ∈ f ++ [y], -100 ≤ x.2 ∧ x.2 ≤ 100 := fun x hx => by
  rcases List.mem_append.1 hx with hx | hx
  · exact h x hx
  · rw [List.mem_singleton.1 hx]; exact hy
theorem sets_set {f : List FSort} (h : ∀ x ∈ f, -100 ≤ x.2 ∧ x.2 ≤ 100) {y : FSort} (k : Nat) (hy : -100 ≤ y.2 ∧ y.2 ≤ 100) : ∀ x ∈ f.set k y, -100 ≤ x.2 ∧ x.2 ≤ 100 := fun x hx => by
  rcases List.mem_or_eq_of_mem_set hx with hx | rfl
  · exact h x hx
  · exact hy
theorem lens_app {l : List (List UInt8)} (h : ∀ w ∈ l, w.length ≤ 20) {y : List UInt8} (hy : y.length ≤ 20) : ∀ w ∈ l ++ [y], w.length ≤ 20 := fun x hx => by
  rcases List.mem_append.1 hx with hx | hx
  · exact h x hx
  · rw [List.mem_singleton.1 hx]; exact hy
theorem lens_set {l : List (List UInt8)} (h : ∀ w ∈ l, w.length ≤ 20) {y : List UInt8} (k : Nat) (hy : y.length ≤ 20) : ∀ w ∈ l.set k y, w.length ≤ 20 := fun x hx => by
  rcases List.mem_or_eq_of_mem_set hx with hx | rfl
  · exact h x hx
  · exact hy

theorem cOf_ok (code : List Int) (b0 t0 : Int) (list : List (List UInt8)) (h : CurIn code) (h0 : 0 ≤ b0) (hk : b0 ≤ 899999999999998000) (hl : 0 < list.length) (hm : list.length ≤ 200) : OkM Try.prog 98 (cCur code b0 t0) [.isl 1 (rows cStr list)] (fun r cs => ∃ (q : List UInt8), r = .str q ∧ CurTo code b0 2 cs ∧ (q ∈ list)) :=
  fnM_intro envOk fieldsOk mixed Try.func98 rfl fun κ X Y L Q m hQ => by
    conv => cbv
    refine r_lenR m.sX fun n1 hn1 mn1 => ?_
    conv => cbv
    refine r_mcall m.sX (cPick_ok code b0 t0 n1 h (by omega) (by omega)) ?_
    rintro _ _ ⟨q1, rfl, ⟨a1, s1, rfl, ea1, fa1⟩, bq1, cq1, dq1⟩
    conv => cbv
    refine r_index m.sX (by omega) (by omega) fun x1 hx1 => ?_
    conv => cbv
    have mx1 := get_mem hx1
    exact hQ (.str x1) (cCur code a1 s1) ⟨x1, rfl, ⟨a1, s1, rfl, by omega, by omega⟩, (by first | omega | exact mx1)⟩   -- leaf 1

theorem cOfL_ok (code : List Int) (b0 t0 : Int) (list : List (List UInt8)) (h : CurIn code) (h0 : 0 ≤ b0) (hk : b0 ≤ 899999999999998000) (hl : 0 < list.length) (hm : list.length ≤ 200) : OkM Try.prog 98 (cCur code b0 t0) [.isl 1 (list.map cStr)] (fun r cs => ∃ (q : List UInt8), r = .str q ∧ CurTo code b0 2 cs ∧ q ∈ list) := by
  have := cOf_ok code b0 t0 list h h0 hk hl hm
  rwa [rows_eq] at this
theorem cFont_ok (code : List Int) (b0 t0 : Int)  (h : CurIn code) (h0 : 0 ≤ b0) (hk : b0 ≤ 899999999999890000)  : OkM Try.prog 127 (cCur code b0 t0) [] (fun r cs => ∃ (q : List FSort), r = .fr 39 2 (rows cSort q) ∧ CurTo code b0 110 cs ∧ ((q.length : Int) ≤ 12) ∧ (1 ≤ q.length) ∧ (∀ x ∈ q, -100 ≤ x.2 ∧ x.2 ≤ 100)) :=
  fnM_intro envOk fieldsOk mixed Try.func127 rfl fun κ X Y L Q m hQ => by
    conv => cbv
    refine r_lenN 12 m.sX rfl (by omega) fun n1 hn1 => ?_   -- n1 = length of [([97] : List UInt8), ([97, 98] : List UInt8), ([97, 98, 99] : List UInt8), ([98] : List UInt8), ([98, 98] : List UInt8), ([99] : List UInt8), ([100] : List UInt8), ([101] : List UInt8), ([102] : List UInt8), ([102, 102] : List UInt8), ([102, 105] : List UInt8), ([105] : List UInt8)]
    conv => cbv
    refine r_loopF (α := Int × Int × List FSort × List (List UInt8) × Int) m 48 [7, 8] [⟨0, 1, 0, 0, 0⟩, ⟨3, 25, 39, 2, 0⟩, ⟨6, 49, 9, 1, 0⟩] (fun σ => [(0, .optr 1 0 0 0 0), (3, .osl 25 0), (6, .osl 49 0), (7, .int .i64 n1), (8, .int .i64 σ.2.2.2.2)]) (fun σ => [(1, 0, .box (cCur code σ.1 σ.2.1)), (25, 0, .row 39 2 (rows cSort σ.2.2.1)), (49, 0, .row 9 1 (rows cStr σ.2.2.2.1))])
      (fun σ => (0 ≤ σ.2.2.2.2) ∧ (σ.2.2.2.2 ≤ n1) ∧ (b0 ≤ σ.1 ∧ σ.1 ≤ b0 + 8 * σ.2.2.2.2) ∧ ((σ.2.2.1.length : Int) ≤ σ.2.2.2.2) ∧ (∀ x ∈ σ.2.2.1, -100 ≤ x.2 ∧ x.2 ≤ 100) ∧ (σ.2.2.2.1 = codesL)) (fun σ => (n1 - σ.2.2.2.2).toNat) (b0, t0, [], [([97] : List UInt8), ([97, 98] : List UInt8), ([97, 98, 99] : List UInt8), ([98] : List UInt8), ([98, 98] : List UInt8), ([99] : List UInt8), ([100] : List UInt8), ([101] : List UInt8), ([102] : List UInt8), ([102, 102] : List UInt8), ([102, 105] : List UInt8), ([105] : List UInt8)], 0) ?_ ?_ ?_ ?_
    · cbv
    · (try dsimp only); simp only [rows_cons, rows_nil]; cbv
    · exact ⟨(by (try dsimp only); first | omega | (simp only [List.length_nil]; omega)), (by (try dsimp only); first | omega | (simp only [List.length_nil]; omega)), (by (try dsimp only); first | omega | (simp only [List.length_nil]; omega)), (by (try dsimp only) <;> first | omega | rfl | (simp [*]; done)), (by (try dsimp only) <;> (intro x hx; cases hx)), (by (try dsimp only) <;> (rfl))⟩
    rintro ⟨a1, s1, f, ys1, i1⟩ ⟨lo1, hi1, cl1, fl, fs, y⟩ E hE F hF
    dsimp only at lo1 hi1 cl1 fl fs y
    have yl : (ys1.length : Int) = 12 := by rw [y]; rfl
    conv => cbv
    refine r_lss m.sX (fun h1 => ?_) (fun h1 => ?_) <;> conv => cbv
    · refine r_oindex m.sX (by omega) (by omega) ?_
      conv => cbv
      obtain ⟨code_, hcode_⟩ := get_ex (xs := ys1) (i := Int.toNat i1) (by omega)
      have mcode_ := get_mem hcode_
      have dcode_ := drop_cons hcode_
      have kcode_ := take_snoc hcode_
      have jcode_ : (i1 + 1).toNat = Int.toNat i1 + 1 := by omega
      have bc := codes_len code_ (by rw [← y]; exact mcode_)
      refine r_oload m.sX hcode_ (Nat.le_of_ble_eq_true rfl) ?_
      conv => cbv
      refine r_slen (u := code_) m.sX fun n2 hn2 mn2 => ?_   -- n2 = length of code_
      conv => cbv
      refine r_eql m.sX (fun h2 => ?_) (fun h2 => ?_) <;> conv => cbv
      · refine r_mcall m.sX (cOne_ok code a1 s1 12 h (by omega) (by omega)) ?_
        rintro _ _ ⟨q1, rfl, ⟨a2, s2, rfl, ea2, fa2⟩⟩
        conv => cbv
        rcases Bool.eq_false_or_eq_true q1 with rfl | rfl <;> conv => cbv
        · refine r_slen (u := code_) m.sX fun n3 hn3 mn3 => ?_   -- n3 = length of code_
          conv => cbv
          refine r_gtr m.sX (fun h3 => ?_) (fun h3 => ?_) <;> conv => cbv
          · refine r_mcall m.sX (cOne_ok code a2 s2 3 h (by omega) (by omega)) ?_
            rintro _ _ ⟨q2, rfl, ⟨a3, s3, rfl, ea3, fa3⟩⟩
            conv => cbv
            rcases Bool.eq_false_or_eq_true q2 with rfl | rfl <;> conv => cbv
            · refine r_slen (u := code_) m.sX fun n4 hn4 mn4 => ?_   -- n4 = length of code_
              conv => cbv
              refine r_mcall m.sX (cPick_ok code a3 s3 4 h (by omega) (by omega)) ?_
              rintro _ _ ⟨q3, rfl, ⟨a4, s4, rfl, ea4, fa4⟩, bq3, cq3, dq3⟩
              conv => cbv
              refine r_addf m.sX (by omega) (by omega) fun r1 hr1 => ?_
              conv => cbv
              have mb := mul_bound (a := n4) (A := 3) (b := r1) (B := 5) (by omega) (by omega) (by omega) (by omega)
              refine r_mulf m.sX (by first | omega | (subst_vars; omega)) (by first | omega | (subst_vars; omega)) fun r2 hr2 => ?_
              conv => cbv
              refine r_addf m.sX (by omega) (by omega) fun r3 hr3 => ?_
              conv => cbv
              refine r_append1 ((code_, r3)) m.sX rfl (by first | omega | (dsimp only; omega)) (by first | omega | (dsimp only; omega)) fun f_2 hf_2 => ?_
              conv => cbv
              have lf_2 : (f_2.length : Int) = f.length + 1 := by rw [hf_2]; first | done | (simp; done) | (simp; omega)
              refine r_addf m.sX (by omega) (by omega) fun r4 hr4 => ?_
              conv => cbv
              try have tr4 : Int.toNat r4 = Int.toNat i1 + 1 := by omega
              refine hE _ (a4, s4, f_2, ys1, r4) ?_ ?_ ⟨(by (try dsimp only); first | omega | (simp only [List.length_nil]; omega)), (by (try dsimp only); first | omega | (simp only [List.length_nil]; omega)), (by (try dsimp only); first | omega | (simp only [List.length_nil]; omega)), (by (try dsimp only) <;> first | omega | rfl | (simp [*]; done) | (rw [fl]; simp [*]; done)), (by (try dsimp only) <;> (first | exact fs | (rw [hf_2]; exact sets_app fs (by dsimp only; omega)))), (by (try dsimp only) <;> (exact y))⟩ (by first | omega | (dsimp only; omega))
              · cbv
              · cbv
            · refine r_addf m.sX (by omega) (by omega) fun r5 hr5 => ?_
              conv => cbv
              try have tr5 : Int.toNat r5 = Int.toNat i1 + 1 := by omega
              refine hE _ (a3, s3, f, ys1, r5) ?_ ?_ ⟨(by (try dsimp only); first | omega | (simp only [List.length_nil]; omega)), (by (try dsimp only); first | omega | (simp only [List.length_nil]; omega)), (by (try dsimp only); first | omega | (simp only [List.length_nil]; omega)), (by (try dsimp only) <;> first | omega | rfl | (simp [*]; done) | (rw [fl]; simp [*]; done)), (by (try dsimp only) <;> (first | exact fs | (rw [hf]; exact sets_app fs (by dsimp only; omega)))), (by (try dsimp only) <;> (exact y))⟩ (by first | omega | (dsimp only; omega))
              · cbv
              · cbv
          · refine r_addf m.sX (by omega) (by omega) fun r6 hr6 => ?_
            conv => cbv
            try have tr6 : Int.toNat r6 = Int.toNat i1 + 1 := by omega
            refine hE _ (a2, s2, f, ys1, r6) ?_ ?_ ⟨(by (try dsimp only); first | omega | (simp only [List.length_nil]; omega)), (by (try dsimp only); first | omega | (simp only [List.length_nil]; omega)), (by (try dsimp only); first | omega | (simp only [List.length_nil]; omega)), (by (try dsimp only) <;> first | omega | rfl | (simp [*]; done) | (rw [fl]; simp [*]; done)), (by (try dsimp only) <;> (first | exact fs | (rw [hf]; exact sets_app fs (by dsimp only; omega)))), (by (try dsimp only) <;> (exact y))⟩ (by first | omega | (dsimp only; omega))
            · cbv
            · cbv
        · refine r_slen (u := code_) m.sX fun n5 hn5 mn5 => ?_   -- n5 = length of code_
          conv => cbv
          refine r_mcall m.sX (cPick_ok code a2 s2 4 h (by omega) (by omega)) ?_
          rintro _ _ ⟨q4, rfl, ⟨a5, s5, rfl, ea5, fa5⟩, bq4, cq4, dq4⟩
          conv => cbv
          refine r_addf m.sX (by omega) (by omega) fun r7 hr7 => ?_
          conv => cbv
          have mb := mul_bound (a := n5) (A := 3) (b := r7) (B := 5) (by omega) (by omega) (by omega) (by omega)
          refine r_mulf m.sX (by first | omega | (subst_vars; omega)) (by first | omega | (subst_vars; omega)) fun r8 hr8 => ?_
          conv => cbv
          refine r_addf m.sX (by omega) (by omega) fun r9 hr9 => ?_
          conv => cbv
          refine r_append1 ((code_, r9)) m.sX rfl (by first | omega | (dsimp only; omega)) (by first | omega | (dsimp only; omega)) fun f_3 hf_3 => ?_
          conv => cbv
          have lf_3 : (f_3.length : Int) = f.length + 1 := by rw [hf_3]; first | done | (simp; done) | (simp; omega)
          refine r_addf m.sX (by omega) (by omega) fun r10 hr10 => ?_
          conv => cbv
          try have tr10 : Int.toNat r10 = Int.toNat i1 + 1 := by omega
          refine hE _ (a5, s5, f_3, ys1, r10) ?_ ?_ ⟨(by (try dsimp only); first | omega | (simp only [List.length_nil]; omega)), (by (try dsimp only); first | omega | (simp only [List.length_nil]; omega)), (by (try dsimp only); first | omega | (simp only [List.length_nil]; omega)), (by (try dsimp only) <;> first | omega | rfl | (simp [*]; done) | (rw [fl]; simp [*]; done)), (by (try dsimp only) <;> (first | exact fs | (rw [hf_3]; exact sets_app fs (by dsimp only; omega)))), (by (try dsimp only) <;> (exact y))⟩ (by first | omega | (dsimp only; omega))
          · cbv
          · cbv
      · refine r_slen (u := code_) m.sX fun n6 hn6 mn6 => ?_   -- n6 = length of code_
        conv => cbv
        refine r_gtr m.sX (fun h4 => ?_) (fun h4 => ?_) <;> conv => cbv
        · refine r_mcall m.sX (cOne_ok code a1 s1 3 h (by omega) (by omega)) ?_
          rintro _ _ ⟨q5, rfl, ⟨a6, s6, rfl, ea6, fa6⟩⟩
          conv => cbv
          rcases Bool.eq_false_or_eq_true q5 with rfl | rfl <;> conv => cbv
          · refine r_slen (u := code_) m.sX fun n7 hn7 mn7 => ?_   -- n7 = length of code_
            conv => cbv
            refine r_mcall m.sX (cPick_ok code a6 s6 4 h (by omega) (by omega)) ?_
            rintro _ _ ⟨q6, rfl, ⟨a7, s7, rfl, ea7, fa7⟩, bq6, cq6, dq6⟩
            conv => cbv
            refine r_addf m.sX (by omega) (by omega) fun r11 hr11 => ?_
            conv => cbv
            have mb := mul_bound (a := n7) (A := 3) (b := r11) (B := 5) (by omega) (by omega) (by omega) (by omega)
            refine r_mulf m.sX (by first | omega | (subst_vars; omega)) (by first | omega | (subst_vars; omega)) fun r12 hr12 => ?_
            conv => cbv
            refine r_addf m.sX (by omega) (by omega) fun r13 hr13 => ?_
            conv => cbv
            refine r_append1 ((code_, r13)) m.sX rfl (by first | omega | (dsimp only; omega)) (by first | omega | (dsimp only; omega)) fun f_4 hf_4 => ?_
            conv => cbv
            have lf_4 : (f_4.length : Int) = f.length + 1 := by rw [hf_4]; first | done | (simp; done) | (simp; omega)
            refine r_addf m.sX (by omega) (by omega) fun r14 hr14 => ?_
            conv => cbv
            try have tr14 : Int.toNat r14 = Int.toNat i1 + 1 := by omega
            refine hE _ (a7, s7, f_4, ys1, r14) ?_ ?_ ⟨(by (try dsimp only); first | omega | (simp only [List.length_nil]; omega)), (by (try dsimp only); first | omega | (simp only [List.length_nil]; omega)), (by (try dsimp only); first | omega | (simp only [List.length_nil]; omega)), (by (try dsimp only) <;> first | omega | rfl | (simp [*]; done) | (rw [fl]; simp [*]; done)), (by (try dsimp only) <;> (first | exact fs | (rw [hf_4]; exact sets_app fs (by dsimp only; omega)))), (by (try dsimp only) <;> (exact y))⟩ (by first | omega | (dsimp only; omega))
            · cbv
            · cbv
          · refine r_addf m.sX (by omega) (by omega) fun r15 hr15 => ?_
            conv => cbv
            try have tr15 : Int.toNat r15 = Int.toNat i1 + 1 := by omega
            refine hE _ (a6, s6, f, ys1, r15) ?_ ?_ ⟨(by (try dsimp only); first | omega | (simp only [List.length_nil]; omega)), (by (try dsimp only); first | omega | (simp only [List.length_nil]; omega)), (by (try dsimp only); first | omega | (simp only [List.length_nil]; omega)), (by (try dsimp only) <;> first | omega | rfl | (simp [*]; done) | (rw [fl]; simp [*]; done)), (by (try dsimp only) <;> (first | exact fs | (rw [hf]; exact sets_app fs (by dsimp only; omega)))), (by (try dsimp only) <;> (exact y))⟩ (by first | omega | (dsimp only; omega))
            · cbv
            · cbv
        · refine r_addf m.sX (by omega) (by omega) fun r16 hr16 => ?_
          conv => cbv
          try have tr16 : Int.toNat r16 = Int.toNat i1 + 1 := by omega
          refine hE _ (a1, s1, f, ys1, r16) ?_ ?_ ⟨(by (try dsimp only); first | omega | (simp only [List.length_nil]; omega)), (by (try dsimp only); first | omega | (simp only [List.length_nil]; omega)), (by (try dsimp only); first | omega | (simp only [List.length_nil]; omega)), (by (try dsimp only) <;> first | omega | rfl | (simp [*]; done) | (rw [fl]; simp [*]; done)), (by (try dsimp only) <;> (first | exact fs | (rw [hf]; exact sets_app fs (by dsimp only; omega)))), (by (try dsimp only) <;> (exact y))⟩ (by first | omega | (dsimp only; omega))
          · cbv
          · cbv
    · have dz_i1 := drop_end (xs := [([97] : List UInt8), ([97, 98] : List UInt8), ([97, 98, 99] : List UInt8), ([98] : List UInt8), ([98, 98] : List UInt8), ([99] : List UInt8), ([100] : List UInt8), ([101] : List UInt8), ([102] : List UInt8), ([102, 102] : List UInt8), ([102, 105] : List UInt8), ([105] : List UInt8)]) (i := Int.toNat i1) (by simp only [List.length_cons, List.length_nil]; omega)
      have tz_i1 := take_end (xs := [([97] : List UInt8), ([97, 98] : List UInt8), ([97, 98, 99] : List UInt8), ([98] : List UInt8), ([98, 98] : List UInt8), ([99] : List UInt8), ([100] : List UInt8), ([101] : List UInt8), ([102] : List UInt8), ([102, 102] : List UInt8), ([102, 105] : List UInt8), ([105] : List UInt8)]) (i := Int.toNat i1) (by simp only [List.length_cons, List.length_nil]; omega)
      refine hF _ _ ?_
      conv => cbv
      refine r_lenR m.sX fun n8 hn8 mn8 => ?_
      conv => cbv
      refine r_eql m.sX (fun h5 => ?_) (fun h5 => ?_) <;> conv => cbv
      · exact hQ (.fr 39 2 [[.str ([97] : List UInt8), .int .i64 9]]) (cCur code a1 s1) ⟨[(([97] : List UInt8), 9)], (by first | rfl | (simp only [rows_nil]; rfl) | (simp only [rows_cons, rows_nil]; rfl)), ⟨a1, s1, rfl, by omega, by omega⟩, (by first | omega | assumption | (simp; done) | (simp [*]; done) | (intro x hx; simp at hx; subst hx; decide) | (simp at *; omega)), (by first | omega | assumption | (simp; done) | (simp [*]; done) | (intro x hx; simp at hx; subst hx; decide) | (simp at *; omega)), (by first | omega | assumption | (simp; done) | (simp [*]; done) | (intro x hx; simp at hx; subst hx; decide) | (simp at *; omega))⟩   -- leaf 1
      · exact hQ (.fr 39 2 (rows cSort f)) (cCur code a1 s1) ⟨f, rfl, ⟨a1, s1, rfl, by omega, by omega⟩, (by first | omega | assumption | (simp; done) | (simp [*]; done) | (intro x hx; simp at hx; subst hx; decide) | (simp at *; omega)), (by first | omega | assumption | (simp; done) | (simp [*]; done) | (intro x hx; simp at hx; subst hx; decide) | (simp at *; omega)), (by first | omega | assumption | (simp; done) | (simp [*]; done) | (intro x hx; simp at hx; subst hx; decide) | (simp at *; omega))⟩   -- leaf 2

theorem cAnyFont_ok (code : List Int) (b0 t0 : Int)  (h : CurIn code) (h0 : 0 ≤ b0) (hk : b0 ≤ 899999999999870000)  : OkM Try.prog 68 (cCur code b0 t0) [] (fun r cs => ∃ (q : List FSort), r = .fr 39 2 (rows cSort q) ∧ CurTo code b0 130 cs ∧ ((q.length : Int) ≤ 40) ∧ (∀ x ∈ q, -100 ≤ x.2 ∧ x.2 ≤ 100)) :=
  OkM.unnil 39 2 (fnM_intro envOk fieldsOk mixed Try.func68 rfl fun κ X Y L Q m hQ => by
    conv => cbv
    refine r_mcall m.sX (cFont_ok code b0 t0 h (by omega) (by omega)) ?_
    rintro _ _ ⟨f, rfl, ⟨a1, s1, rfl, ea1, fa1⟩, bf_1, bf_2, bf_3⟩
    conv => cbv
    refine r_lenR m.sX fun n1 hn1 mn1 => ?_
    conv => cbv
    refine r_mcall m.sX (cPick_ok code a1 s1 n1 h (by omega) (by omega)) ?_
    rintro _ _ ⟨k, rfl, ⟨a2, s2, rfl, ea2, fa2⟩, bk, ck, dk⟩
    conv => cbv
    refine r_mcall m.sX (cPick_ok code a2 s2 30 h (by omega) (by omega)) ?_
    rintro _ _ ⟨q1, rfl, ⟨a3, s3, rfl, ea3, fa3⟩, bq1, cq1, dq1⟩
    conv => cbv
    refine r_eql m.sX (fun h1 => ?_) (fun h1 => ?_) <;> conv => cbv
    · refine r_mcall m.sX (cOfL_ok code a3 s3 ([([] : List UInt8), ([65] : List UInt8), ([97, 98, 99, 100] : List UInt8), ([97] : List UInt8), ([122, 122, 122] : List UInt8)]) h (by omega) (by omega) (by first | rfl | assumption | omega | (simp only [List.length_append, List.length_cons, List.length_nil] at *; omega)) (by first | rfl | assumption | omega | (simp only [List.length_append, List.length_cons, List.length_nil] at *; omega))) ?_
      rintro _ _ ⟨q2, rfl, ⟨a4, s4, rfl, ea4, fa4⟩, bq2_1⟩
      conv => cbv
      refine r_oindex m.sX (by omega) (by omega) ?_
      conv => cbv
      obtain ⟨⟨y1A, y1B⟩, hy1⟩ := get_ex (xs := f) (i := Int.toNat k) (by omega)
      refine r_ostore (l := Int.toNat k) (q2, y1B) m.sX hy1 (Nat.le_of_ble_eq_true rfl) rfl fun zs1 hzs1 => ?_   -- zs1 = f.set k (q2, y1B)
      have lzs1 : (zs1.length : Int) = f.length := by rw [hzs1]; first | done | (simp; done) | (simp; omega)
      conv => cbv
      exact hQ (.fr 39 2 (rows cSort zs1)) (cCur code a4 s4) ⟨zs1, rfl, ⟨a4, s4, rfl, by omega, by omega⟩, (by first | omega | assumption | (simp; done) | (rw [hzs1]; exact sets_set bf_3 _ (by have z := bf_3 _ (List.mem_of_getElem? hy1); exact z)) | (rw [hzs2]; exact sets_set bf_3 _ (by dsimp only; omega)) | (simp [*]; done) | (simp at *; omega)), (by first | omega | assumption | (simp; done) | (rw [hzs1]; exact sets_set bf_3 _ (by have z := bf_3 _ (List.mem_of_getElem? hy1); exact z)) | (rw [hzs2]; exact sets_set bf_3 _ (by dsimp only; omega)) | (simp [*]; done) | (simp at *; omega))⟩   -- leaf 1
    · refine r_eql m.sX (fun h2 => ?_) (fun h2 => ?_) <;> conv => cbv
      · refine r_mcall m.sX (cAmong_ok code a3 s3 ([0, 1, 54, 55, -1]) (by simp) h (by omega) (by omega)) ?_
        rintro _ _ ⟨q3, rfl, ⟨a5, s5, rfl, ea5, fa5⟩, bq3⟩
        simp only [List.mem_cons, List.not_mem_nil, or_false] at bq3
        conv => cbv
        refine r_oindex m.sX (by omega) (by omega) ?_
        conv => cbv
        obtain ⟨⟨y2A, y2B⟩, hy2⟩ := get_ex (xs := f) (i := Int.toNat k) (by omega)
        refine r_ostore (l := Int.toNat k) (y2A, q3) m.sX hy2 (Nat.le_of_ble_eq_true rfl) rfl fun zs2 hzs2 => ?_   -- zs2 = f.set k (y2A, q3)
        have lzs2 : (zs2.length : Int) = f.length := by rw [hzs2]; first | done | (simp; done) | (simp; omega)
        conv => cbv
        exact hQ (.fr 39 2 (rows cSort zs2)) (cCur code a5 s5) ⟨zs2, rfl, ⟨a5, s5, rfl, by omega, by omega⟩, (by first | omega | assumption | (simp; done) | (rw [hzs1]; exact sets_set bf_3 _ (by have z := bf_3 _ (List.mem_of_getElem? hy1); exact z)) | (rw [hzs2]; exact sets_set bf_3 _ (by dsimp only; omega)) | (simp [*]; done) | (simp at *; omega)), (by first | omega | assumption | (simp; done) | (rw [hzs1]; exact sets_set bf_3 _ (by have z := bf_3 _ (List.mem_of_getElem? hy1); exact z)) | (rw [hzs2]; exact sets_set bf_3 _ (by dsimp only; omega)) | (simp [*]; done) | (simp at *; omega))⟩   -- leaf 2
      · refine r_eql m.sX (fun h3 => ?_) (fun h3 => ?_) <;> conv => cbv
        · exact hQ (.nil) (cCur code a3 s3) ⟨[], (by first | rfl | (simp only [rows_nil]; rfl) | (simp only [rows_cons, rows_nil]; rfl)), ⟨a3, s3, rfl, by omega, by omega⟩, (by first | omega | assumption | (simp; done) | (rw [hzs1]; exact sets_set bf_3 _ (by have z := bf_3 _ (List.mem_of_getElem? hy1); exact z)) | (rw [hzs2]; exact sets_set bf_3 _ (by dsimp only; omega)) | (simp [*]; done) | (simp at *; omega)), (by first | omega | assumption | (simp; done) | (rw [hzs1]; exact sets_set bf_3 _ (by have z := bf_3 _ (List.mem_of_getElem? hy1); exact z)) | (rw [hzs2]; exact sets_set bf_3 _ (by dsimp only; omega)) | (simp [*]; done) | (simp at *; omega))⟩   -- leaf 3
        · refine r_eql m.sX (fun h4 => ?_) (fun h4 => ?_) <;> conv => cbv
          · refine r_mcall m.sX (cPick_ok code a3 s3 2 h (by omega) (by omega)) ?_
            rintro _ _ ⟨q4, rfl, ⟨a6, s6, rfl, ea6, fa6⟩, bq4, cq4, dq4⟩
            conv => cbv
            refine r_addf m.sX (by omega) (by omega) fun n hn => ?_
            conv => cbv
            refine r_loopF (α := List FSort) m 60 [5] [⟨0, 1, 0, 0, 0⟩, ⟨3, 25, 39, 2, 0⟩] (fun σ => [(0, .optr 1 0 0 0 0), (3, .osl 25 0), (5, .int .i64 n)]) (fun σ => [(1, 0, .box (cCur code a6 s6)), (25, 0, .row 39 2 (rows cSort σ))])
              (fun σ => ((σ.length : Int) ≤ n) ∧ (∀ x ∈ σ, -100 ≤ x.2 ∧ x.2 ≤ 100)) (fun σ => (n - (σ.length : Int)).toNat) ([]) ?_ ?_ ?_ ?_
            · cbv
            · (try dsimp only); simp only [rows_cons, rows_nil]; cbv
            · exact ⟨(by (try dsimp only); first | omega | (simp only [List.length_nil]; omega)), (by (try dsimp only) <;> (intro x hx; cases hx))⟩
            rintro f_2 ⟨ll1, fs⟩ E hE F hF
            conv => cbv
            refine r_lenR m.sX fun n2 hn2 mn2 => ?_
            conv => cbv
            refine r_lss m.sX (fun h5 => ?_) (fun h5 => ?_) <;> conv => cbv
            · refine r_lenR m.sX fun n3 hn3 mn3 => ?_
              conv => cbv
              first | refine r_divf m.sX (by omega) (by omega) fun r1 hr1 br1 => ?_ | refine r_tdivf m.sX (by omega) (by omega) fun r1 hr1 br1 => ?_
              conv => cbv
              refine r_addf m.sX (by omega) (by omega) fun r2 hr2 => ?_
              conv => cbv
              refine r_conv m.sX fun r3 hr3 => ?_   -- r3 = uint8 of r2
              conv => cbv
              refine r_lenR m.sX fun n4 hn4 mn4 => ?_
              conv => cbv
              refine r_modf m.sX (by omega) (by omega) fun r4 hr4 br4 => ?_
              conv => cbv
              refine r_addf m.sX (by omega) (by omega) fun r5 hr5 => ?_
              conv => cbv
              refine r_conv m.sX fun r6 hr6 => ?_   -- r6 = uint8 of r5
              conv => cbv
              refine r_tostr ([r3, r6] : List Int) m.sX rfl fun s7 hs7 => ?_   -- s7 = string of bytes
              have ls7 : (s7.length : Int) = 2 := by rw [hs7]; rfl
              conv => cbv
              refine r_append1 ((s7, 9)) m.sX rfl (by first | omega | (dsimp only; omega)) (by first | omega | (dsimp only; omega)) fun f_3 hf_3 => ?_
              conv => cbv
              have lf_3 : (f_3.length : Int) = f_2.length + 1 := by rw [hf_3]; first | done | (simp; done) | (simp; omega)
              refine hE _ f_3 ?_ ?_ ⟨(by (try dsimp only); first | omega | (simp only [List.length_nil]; omega)), (by (try dsimp only) <;> (rw [hf_3]; exact sets_app fs (by dsimp only; omega)))⟩ (by first | omega | (dsimp only; omega))
              · cbv
              · cbv
            · refine hF _ _ ?_
              conv => cbv
              exact hQ (.fr 39 2 (rows cSort f_2)) (cCur code a6 s6) ⟨f_2, rfl, ⟨a6, s6, rfl, by omega, by omega⟩, (by first | omega | assumption | (simp; done) | (rw [hzs1]; exact sets_set bf_3 _ (by have z := bf_3 _ (List.mem_of_getElem? hy1); exact z)) | (rw [hzs2]; exact sets_set bf_3 _ (by dsimp only; omega)) | (simp [*]; done) | (simp at *; omega)), (by first | omega | assumption | (simp; done) | (rw [hzs1]; exact sets_set bf_3 _ (by have z := bf_3 _ (List.mem_of_getElem? hy1); exact z)) | (rw [hzs2]; exact sets_set bf_3 _ (by dsimp only; omega)) | (simp [*]; done) | (simp at *; omega))⟩   -- leaf 4
          · exact hQ (.fr 39 2 (rows cSort f)) (cCur code a3 s3) ⟨f, rfl, ⟨a3, s3, rfl, by omega, by omega⟩, (by first | omega | assumption | (simp; done) | (rw [hzs1]; exact sets_set bf_3 _ (by have z := bf_3 _ (List.mem_of_getElem? hy1); exact z)) | (rw [hzs2]; exact sets_set bf_3 _ (by dsimp only; omega)) | (simp [*]; done) | (simp at *; omega)), (by first | omega | assumption | (simp; done) | (rw [hzs1]; exact sets_set bf_3 _ (by have z := bf_3 _ (List.mem_of_getElem? hy1); exact z)) | (rw [hzs2]; exact sets_set bf_3 _ (by dsimp only; omega)) | (simp [*]; done) | (simp at *; omega))⟩)   -- leaf 5

theorem cAnyFont_ex (code : List Int) (b0 t0 : Int) : ∃ r cs, (∃ (q : List FSort), r = PV.fr 39 2 (rows cSort q) ∧ CurTo code b0 130 cs ∧ ((q.length : Int) ≤ 40) ∧ (∀ x ∈ q, -100 ≤ x.2 ∧ x.2 ≤ 100)) :=
  ⟨_, _, [], rfl, ⟨b0, t0, rfl, by omega, by omega⟩, (by first | omega | simp), (by first | omega | simp)⟩

theorem cWord_ok (code : List Int) (b0 t0 : Int)  (h : CurIn code) (h0 : 0 ≤ b0) (hk : b0 ≤ 899999999999940000)  : OkM Try.prog 128 (cCur code b0 t0) [] (fun r cs => ∃ (q : List UInt8), r = .str q ∧ CurTo code b0 60 cs ∧ ((q.length : Int) ≤ 10)) :=
  fnM_intro envOk fieldsOk mixed Try.func128 rfl fun κ X Y L Q m hQ => by
    conv => cbv
    refine r_mcall m.sX (cPick_ok code b0 t0 6 h (by omega) (by omega)) ?_
    rintro _ _ ⟨q1, rfl, ⟨a1, s1, rfl, ea1, fa1⟩, bq1, cq1, dq1⟩
    conv => cbv
    refine r_addf m.sX (by omega) (by omega) fun n hn => ?_
    conv => cbv
    refine r_loopF (α := Int × Int × List UInt8) m 18 [3, 4] [⟨0, 1, 0, 0, 0⟩] (fun σ => [(0, .optr 1 0 0 0 0), (3, .str σ.2.2), (4, .int .i64 n)]) (fun σ => [(1, 0, .box (cCur code σ.1 σ.2.1))])
      (fun σ => (b0 ≤ σ.1 ∧ σ.1 ≤ b0 + 2 + 2 * (σ.2.2.length : Int)) ∧ ((σ.2.2.length : Int) ≤ n + 2)) (fun σ => (n - (σ.2.2.length : Int)).toNat) (a1, s1, ([] : List UInt8)) ?_ ?_ ?_ ?_
    · cbv
    · cbv
    · exact ⟨(by (try dsimp only) <;> first | omega | rfl | (simp [*]; done)), (by (try dsimp only) <;> (simp; omega))⟩
    rintro ⟨a2, s2, s_⟩ ⟨cu, sl⟩ E hE F hF
    dsimp only at cu sl
    conv => cbv
    refine r_slen (u := s_) m.sX fun n1 hn1 mn1 => ?_   -- n1 = length of s_
    conv => cbv
    refine r_lss m.sX (fun h1 => ?_) (fun h1 => ?_) <;> conv => cbv
    · refine r_mcall m.sX (cOfL_ok code a2 s2 ([([97] : List UInt8), ([98] : List UInt8), ([99] : List UInt8), ([97, 98] : List UInt8), ([98, 98] : List UInt8), ([97, 98, 99] : List UInt8), ([100] : List UInt8), ([101] : List UInt8), ([102] : List UInt8), ([102, 105] : List UInt8)]) h (by omega) (by omega) (by first | rfl | assumption | omega | (simp only [List.length_append, List.length_cons, List.length_nil] at *; omega)) (by first | rfl | assumption | omega | (simp only [List.length_append, List.length_cons, List.length_nil] at *; omega))) ?_
      rintro _ _ ⟨q2, rfl, ⟨a3, s3, rfl, ea3, fa3⟩, bq2_1⟩
      have wl := wordL_len q2 bq2_1
      conv => cbv
      refine r_scat (u := s_) (v := q2) m.sX (by first | omega | (simp only [List.length_cons, List.length_nil]; omega) | (simp; omega)) fun s__2 hs__2 => ?_   -- s__2 = s_ ++ q2
      have ls__2 : (s__2.length : Int) = s_.length + q2.length := by rw [hs__2, List.length_append, Int.natCast_add]
      try simp only [List.length_cons, List.length_nil] at ls__2
      conv => cbv
      refine hE _ (a3, s3, s__2) ?_ ?_ ⟨(by (try dsimp only) <;> first | omega | rfl | (simp [*]; done) | (rw [cu]; simp [*]; done)), (by (try dsimp only) <;> first | omega | rfl | (simp [*]; done) | (rw [sl]; simp [*]; done))⟩ (by first | omega | (dsimp only; omega))
      · cbv
      · cbv
    · refine hF _ _ ?_
      conv => cbv
      exact hQ (.str s_) (cCur code a2 s2) ⟨s_, rfl, ⟨a2, s2, rfl, by omega, by omega⟩, (by first | omega | assumption | (simp; done) | (simp [*]; done) | (simp at *; omega))⟩   -- leaf 1

theorem cWord_ex (code : List Int) (b0 t0 : Int) : ∃ r cs, (∃ (q : List UInt8), r = PV.str q ∧ CurTo code b0 60 cs ∧ ((q.length : Int) ≤ 10)) :=
  ⟨_, _, [], rfl, ⟨b0, t0, rfl, by omega, by omega⟩, (by first | omega | simp)⟩

theorem cAnyWord_ok (code : List Int) (b0 t0 : Int)  (h : CurIn code) (h0 : 0 ≤ b0) (hk : b0 ≤ 899999999999900000)  : OkM Try.prog 69 (cCur code b0 t0) [] (fun r cs => ∃ (q : List UInt8), r = .str q ∧ CurTo code b0 100 cs ∧ ((q.length : Int) ≤ 20)) :=
  fnM_intro envOk fieldsOk mixed Try.func69 rfl fun κ X Y L Q m hQ => by
    conv => cbv
    refine r_mcall m.sX (cPick_ok code b0 t0 30 h (by omega) (by omega)) ?_
    rintro _ _ ⟨q1, rfl, ⟨a1, s1, rfl, ea1, fa1⟩, bq1, cq1, dq1⟩
    conv => cbv
    refine r_eql m.sX (fun h1 => ?_) (fun h1 => ?_) <;> conv => cbv
    · refine r_mcall m.sX (cOfL_ok code a1 s1 ([([] : List UInt8), ([65] : List UInt8), ([97, 32, 98] : List UInt8), ([97, 45, 98] : List UInt8)]) h (by omega) (by omega) (by first | rfl | assumption | omega | (simp only [List.length_append, List.length_cons, List.length_nil] at *; omega)) (by first | rfl | assumption | omega | (simp only [List.length_append, List.length_cons, List.length_nil] at *; omega))) ?_
      rintro _ _ ⟨q2, rfl, ⟨a2, s2, rfl, ea2, fa2⟩, bq2_1⟩
      have wl := wordL2_len q2 bq2_1
      conv => cbv
      exact hQ (.str q2) (cCur code a2 s2) ⟨q2, rfl, ⟨a2, s2, rfl, by omega, by omega⟩, (by first | omega | assumption | (simp; done) | (simp [*]; done) | (simp at *; omega))⟩   -- leaf 1
    · refine r_eql m.sX (fun h2 => ?_) (fun h2 => ?_) <;> conv => cbv
      · refine r_mcall m.sX (cPick_ok code a1 s1 2 h (by omega) (by omega)) ?_
        rintro _ _ ⟨q3, rfl, ⟨a3, s3, rfl, ea3, fa3⟩, bq3, cq3, dq3⟩
        conv => cbv
        refine r_addf m.sX (by omega) (by omega) fun n hn => ?_
        conv => cbv
        refine r_loopF (α := List UInt8) m 31 [3, 4] [⟨0, 1, 0, 0, 0⟩] (fun σ => [(0, .optr 1 0 0 0 0), (3, .str σ), (4, .int .i64 n)]) (fun σ => [(1, 0, .box (cCur code a3 s3))])
          (fun σ => (σ.length : Int) ≤ n) (fun σ => (n - (σ.length : Int)).toNat) ([] : List UInt8) ?_ ?_ ?_ ?_
        · cbv
        · cbv
        · exact (by (try dsimp only) <;> (simp; omega))
        rintro s_ sl E hE F hF
        conv => cbv
        refine r_slen (u := s_) m.sX fun n1 hn1 mn1 => ?_   -- n1 = length of s_
        conv => cbv
        refine r_lss m.sX (fun h3 => ?_) (fun h3 => ?_) <;> conv => cbv
        · refine r_scat (u := s_) (v := ([97] : List UInt8)) m.sX (by first | omega | (simp only [List.length_cons, List.length_nil]; omega) | (simp; omega)) fun s__2 hs__2 => ?_   -- s__2 = s_ ++ ([97] : List UInt8)
          have ls__2 : (s__2.length : Int) = s_.length + ([97] : List UInt8).length := by rw [hs__2, List.length_append, Int.natCast_add]
          try simp only [List.length_cons, List.length_nil] at ls__2
          conv => cbv
          refine hE _ s__2 ?_ ?_ (by (try dsimp only) <;> first | omega | rfl | (simp [*]; done) | (rw [sl]; simp [*]; done)) (by first | omega | (dsimp only; omega))
          · cbv
          · cbv
        · refine hF _ _ ?_
          conv => cbv
          exact hQ (.str s_) (cCur code a3 s3) ⟨s_, rfl, ⟨a3, s3, rfl, by omega, by omega⟩, (by first | omega | assumption | (simp; done) | (simp [*]; done) | (simp at *; omega))⟩   -- leaf 2
      · refine r_eql m.sX (fun h4 => ?_) (fun h4 => ?_) <;> conv => cbv
        · refine r_mcall m.sX (cWord_ok code a1 s1 h (by omega) (by omega)) ?_
          rintro _ _ ⟨q4, rfl, ⟨a4, s4, rfl, ea4, fa4⟩, bq4_1⟩
          conv => cbv
          refine r_scat (u := q4) (v := ([122] : List UInt8)) m.sX (by first | omega | (simp only [List.length_cons, List.length_nil]; omega) | (simp; omega)) fun s5 hs5 => ?_   -- s5 = q4 ++ ([122] : List UInt8)
          have ls5 : (s5.length : Int) = q4.length + ([122] : List UInt8).length := by rw [hs5, List.length_append, Int.natCast_add]
          try simp only [List.length_cons, List.length_nil] at ls5
          conv => cbv
          exact hQ (.str s5) (cCur code a4 s4) ⟨s5, rfl, ⟨a4, s4, rfl, by omega, by omega⟩, (by first | omega | assumption | (simp; done) | (simp [*]; done) | (simp at *; omega))⟩   -- leaf 3
        · refine r_mcall m.sX (cWord_ok code a1 s1 h (by omega) (by omega)) ?_
          rintro _ _ ⟨q5, rfl, ⟨a5, s6, rfl, ea5, fa5⟩, bq5_1⟩
          conv => cbv
          exact hQ (.str q5) (cCur code a5 s6) ⟨q5, rfl, ⟨a5, s6, rfl, by omega, by omega⟩, (by first | omega | assumption | (simp; done) | (simp [*]; done) | (simp at *; omega))⟩   -- leaf 4

theorem cAnyWord_ex (code : List Int) (b0 t0 : Int) : ∃ r cs, (∃ (q : List UInt8), r = PV.str q ∧ CurTo code b0 100 cs ∧ ((q.length : Int) ≤ 20)) :=
  ⟨_, _, [], rfl, ⟨b0, t0, rfl, by omega, by omega⟩, (by first | omega | simp)⟩

-- lacks (*spec.l1Cur).words
end Go.Proofs.Ytkdaikliahnenaa.Ai
