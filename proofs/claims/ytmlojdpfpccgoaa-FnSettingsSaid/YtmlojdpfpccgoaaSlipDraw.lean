/- Contracts of drawn cases. -/
import Derived.Test.YtmlojdpfpccgoaaSlip4
import Derived.Test.YtmlojdpfpccgoaaSlip3
import Derived.Test.YtmlojdpfpccgoaaAiIceM
namespace Go.Proofs.Ytmlojdpfpccgoaa.Ai
open Go Go.Proofs
set_option linter.unusedSimpArgs false
set_option maxRecDepth 10000
set_option maxHeartbeats 4000000
set_option linter.unusedVariables false
theorem OkM.iceR {P : Program} {f : FuncId} {cs args : List PV} {Q : PV → List PV → Prop} (h : OkM P f cs args (fun r cs' => Q (Ai.ice r) cs')) : OkM P f cs args Q :=
  h.iceE.mono fun r cs' ⟨r0, q, e⟩ => by rw [e]; exact q
theorem sets_app {f : List FSort} (h : ∀ x ∈ f, -100 ≤ x.2 ∧ x.2 ≤ 100) {y : FSort} (hy : -100 ≤ y.2 ∧ y.2 ≤ 100) : ∀ x ∈ f ++ [y], -100 ≤ x.2 ∧ x.2 ≤ 100 := fun x hx => by
  rcases List.mem_append.1 hx with hx | hx
  · exact h x hx
  · rw [List.mem_singleton.1 hx]; exact hy
def cntIn (B : Int) (l : List Box) : Prop := ∀ x ∈ l, -B ≤ x.2.2.2 ∧ x.2.2.2 ≤ B
theorem cntIn_app {B : Int} {l : List Box} (h : cntIn B l) {y : Box} (hy : -B ≤ y.2.2.2 ∧ y.2.2.2 ≤ B) : cntIn B (l ++ [y]) := fun x hx => by
  rcases List.mem_append.1 hx with hx | hx
  · exact h x hx
  · rw [List.mem_singleton.1 hx]; exact hy
theorem cntIn_set {B C : Int} {l : List Box} (h : cntIn B l) (hB : B ≤ C) {y : Box} (k : Nat) (hy : -C ≤ y.2.2.2 ∧ y.2.2.2 ≤ C) : cntIn C (l.set k y) := fun x hx => by
  rcases List.mem_or_eq_of_mem_set hx with hx | rfl
  · have := h x hx; omega
  · exact hy
theorem cntIn_up {B C : Int} {l : List Box} (h : cntIn B l) (hB : B ≤ C) : cntIn C l := fun x hx => by have := h x hx; omega
theorem cntIn_nil (B : Int) : cntIn B [] := fun x hx => by cases hx
theorem cOf_ok (code : List Int) (b0 t0 : Int) (list : List (List UInt8)) (h : CurIn code) (h0 : 0 ≤ b0) (hk : b0 ≤ 899999999999998000) (hl : 0 < list.length) (hm : list.length ≤ 200) : OkM Try.prog 121 (cCur code b0 t0) [.isl 1 (rows cStr list)] (fun r cs => ∃ (q : List UInt8), r = .str q ∧ CurTo code b0 2 cs ∧ (q ∈ list)) :=
  fnM_intro envOk fieldsOk mixed Try.func121 rfl fun κ X Y L Q m hQ => by
    conv => cbv
    refine r_lenR m.sX fun n1 hn1 mn1 => ?_
    conv => cbv
    refine r_mcall m.sX (cPick_ok code b0 t0 n1 h (by omega) (by omega)) ?_
    rintro _ _ ⟨q1, rfl, ⟨a1, s1, rfl, ea1, fa1⟩, bq1, cq1, dq1⟩
    conv => cbv
    refine r_index m.sX (by omega) (by omega) fun x1 hx1 => ?_
    conv => cbv
    have mx1 := get_mem hx1
    exact hQ (.str x1) (cCur code a1 s1) ⟨x1, rfl, ⟨a1, s1, rfl, by omega, by omega⟩, (by first | omega | exact mx1)⟩   -- leaf 1

theorem cOfL_ok (code : List Int) (b0 t0 : Int) (list : List (List UInt8)) (h : CurIn code) (h0 : 0 ≤ b0) (hk : b0 ≤ 899999999999998000) (hl : 0 < list.length) (hm : list.length ≤ 200) : OkM Try.prog 121 (cCur code b0 t0) [.isl 1 (list.map cStr)] (fun r cs => ∃ (q : List UInt8), r = .str q ∧ CurTo code b0 2 cs ∧ q ∈ list) := by
  have := cOf_ok code b0 t0 list h h0 hk hl hm
  rwa [rows_eq] at this
theorem cFont_ok (code : List Int) (b0 t0 : Int)  (h : CurIn code) (h0 : 0 ≤ b0) (hk : b0 ≤ 899999999999890000)  : OkM Try.prog 142 (cCur code b0 t0) [] (fun r cs => ∃ (q : List FSort), r = .fr 140 2 (rows cSort q) ∧ CurTo code b0 110 cs ∧ ((q.length : Int) ≤ 12) ∧ (1 ≤ q.length) ∧ (∀ x ∈ q, -100 ≤ x.2 ∧ x.2 ≤ 100)) :=
  fnM_intro envOk fieldsOk mixed Try.func142 rfl fun κ X Y L Q m hQ => by
    conv => cbv
    refine r_lenN 12 m.sX rfl (by omega) fun n1 hn1 => ?_   -- n1 = length of [([97] : List UInt8), ([97, 98] : List UInt8), ([97, 98, 99] : List UInt8), ([98] : List UInt8), ([98, 98] : List UInt8), ([99] : List UInt8), ([100] : List UInt8), ([101] : List UInt8), ([102] : List UInt8), ([102, 102] : List UInt8), ([102, 105] : List UInt8), ([105] : List UInt8)]
    conv => cbv
    refine r_loopF (α := Int × Int × List FSort × List (List UInt8) × Int) m 48 [7, 8] [⟨0, 1, 0, 0, 0⟩, ⟨3, 25, 140, 2, 0⟩, ⟨6, 49, 9, 1, 0⟩] (fun σ => [(0, .optr 1 0 0 0 0), (3, .osl 25 0), (6, .osl 49 0), (7, .int .i64 n1), (8, .int .i64 σ.2.2.2.2)]) (fun σ => [(1, 0, .box (cCur code σ.1 σ.2.1)), (25, 0, .row 140 2 (rows cSort σ.2.2.1)), (49, 0, .row 9 1 (rows cStr σ.2.2.2.1))])
      (fun σ => (0 ≤ σ.2.2.2.2) ∧ (σ.2.2.2.2 ≤ n1) ∧ (b0 ≤ σ.1 ∧ σ.1 ≤ b0 + 8 * σ.2.2.2.2) ∧ ((σ.2.2.1.length : Int) ≤ σ.2.2.2.2) ∧ (∀ x ∈ σ.2.2.1, -100 ≤ x.2 ∧ x.2 ≤ 100) ∧ (σ.2.2.2.1 = codesL)) (fun σ => (n1 - σ.2.2.2.2).toNat) (b0, t0, [], [([97] : List UInt8), ([97, 98] : List UInt8), ([97, 98, 99] : List UInt8), ([98] : List UInt8), ([98, 98] : List UInt8), ([99] : List UInt8), ([100] : List UInt8), ([101] : List UInt8), ([102] : List UInt8), ([102, 102] : List UInt8), ([102, 105] : List UInt8), ([105] : List UInt8)], 0) ?_ ?_ ?_ ?_
    · cbv
    · (try dsimp only); (try simp only [rows_cons, rows_nil]); cbv
    · exact ⟨(by (try dsimp only); first | omega | (simp only [List.length_nil]; omega) | (simp only [List.length_cons, List.length_nil]; omega)), (by (try dsimp only); first | omega | (simp only [List.length_nil]; omega) | (simp only [List.length_cons, List.length_nil]; omega)), (by (try dsimp only); first | omega | (simp only [List.length_nil]; omega) | (simp only [List.length_cons, List.length_nil]; omega)), (by (try dsimp only) <;> first | omega | rfl | (simp [*]; done)), (by (try dsimp only) <;> (intro x hx; cases hx)), (by (try dsimp only) <;> (rfl))⟩
    rintro ⟨a1, s1, f, ys1, i1⟩ ⟨lo1, hi1, cl1, fl, fs, y⟩ E hE F hF
    dsimp only at lo1 hi1 cl1 fl fs y
    have yl : (ys1.length : Int) = 12 := by rw [y]; rfl
    conv => cbv
    refine r_lss m.sX (fun h1 => ?_) (fun h1 => ?_) <;> conv => cbv
    · refine r_oindex m.sX (by omega) (by omega) ?_
      conv => cbv
      obtain ⟨code_, hcode_⟩ := get_ex (xs := ys1) (i := Int.toNat i1) (by omega)
      have mcode_ := get_mem hcode_
      have dcode_ := drop_cons hcode_
      have kcode_ := take_snoc hcode_
      have jcode_ : (i1 + 1).toNat = Int.toNat i1 + 1 := by omega
      have bc := codes_len code_ (by rw [← y]; exact mcode_)
      refine r_oload m.sX hcode_ (Nat.le_of_ble_eq_true rfl) ?_
      conv => cbv
      refine r_slen (u := code_) m.sX fun n2 hn2 mn2 => ?_   -- n2 = length of code_
      conv => cbv
      refine r_eql m.sX (fun h2 => ?_) (fun h2 => ?_) <;> conv => cbv
      · refine r_mcall m.sX (cOne_ok code a1 s1 12 h (by omega) (by omega)) ?_
        rintro _ _ ⟨q1, rfl, ⟨a2, s2, rfl, ea2, fa2⟩⟩
        conv => cbv
        rcases Bool.eq_false_or_eq_true q1 with rfl | rfl <;> conv => cbv
        · refine r_slen (u := code_) m.sX fun n3 hn3 mn3 => ?_   -- n3 = length of code_
          conv => cbv
          refine r_gtr m.sX (fun h3 => ?_) (fun h3 => ?_) <;> conv => cbv
          · refine r_mcall m.sX (cOne_ok code a2 s2 3 h (by omega) (by omega)) ?_
            rintro _ _ ⟨q2, rfl, ⟨a3, s3, rfl, ea3, fa3⟩⟩
            conv => cbv
            rcases Bool.eq_false_or_eq_true q2 with rfl | rfl <;> conv => cbv
            · refine r_slen (u := code_) m.sX fun n4 hn4 mn4 => ?_   -- n4 = length of code_
              conv => cbv
              refine r_mcall m.sX (cPick_ok code a3 s3 4 h (by omega) (by omega)) ?_
              rintro _ _ ⟨q3, rfl, ⟨a4, s4, rfl, ea4, fa4⟩, bq3, cq3, dq3⟩
              conv => cbv
              refine r_addf m.sX (by omega) (by omega) fun r1 hr1 => ?_
              conv => cbv
              have mb := mul_bound (a := n4) (A := 3) (b := r1) (B := 5) (by omega) (by omega) (by omega) (by omega)
              refine r_mulf m.sX (by first | omega | (subst_vars; omega)) (by first | omega | (subst_vars; omega)) fun r2 hr2 => ?_
              conv => cbv
              refine r_addf m.sX (by omega) (by omega) fun r3 hr3 => ?_
              conv => cbv
              refine r_append1 ((code_, r3)) m.sX rfl (by first | omega | (dsimp only; omega)) (by first | omega | (dsimp only; omega)) fun f_2 hf_2 => ?_
              conv => cbv
              have lf_2 : (f_2.length : Int) = f.length + 1 := by rw [hf_2]; first | done | (simp; done) | (simp; omega)
              refine r_addf m.sX (by omega) (by omega) fun r4 hr4 => ?_
              conv => cbv
              try have tr4 : Int.toNat r4 = Int.toNat i1 + 1 := by omega
              refine hE _ (a4, s4, f_2, ys1, r4) ?_ ?_ ⟨(by (try dsimp only); first | omega | (simp only [List.length_nil]; omega) | (simp only [List.length_cons, List.length_nil]; omega)), (by (try dsimp only); first | omega | (simp only [List.length_nil]; omega) | (simp only [List.length_cons, List.length_nil]; omega)), (by (try dsimp only); first | omega | (simp only [List.length_nil]; omega) | (simp only [List.length_cons, List.length_nil]; omega)), (by (try dsimp only) <;> first | omega | rfl | (simp [*]; done) | (rw [fl]; simp [*]; done)), (by (try dsimp only) <;> (first | exact fs | (rw [hf_2]; exact sets_app fs (by dsimp only; omega)))), (by (try dsimp only) <;> (exact y))⟩ (by first | omega | (dsimp only; omega))
              · cbv
              · cbv
            · refine r_addf m.sX (by omega) (by omega) fun r5 hr5 => ?_
              conv => cbv
              try have tr5 : Int.toNat r5 = Int.toNat i1 + 1 := by omega
              refine hE _ (a3, s3, f, ys1, r5) ?_ ?_ ⟨(by (try dsimp only); first | omega | (simp only [List.length_nil]; omega) | (simp only [List.length_cons, List.length_nil]; omega)), (by (try dsimp only); first | omega | (simp only [List.length_nil]; omega) | (simp only [List.length_cons, List.length_nil]; omega)), (by (try dsimp only); first | omega | (simp only [List.length_nil]; omega) | (simp only [List.length_cons, List.length_nil]; omega)), (by (try dsimp only) <;> first | omega | rfl | (simp [*]; done) | (rw [fl]; simp [*]; done)), (by (try dsimp only) <;> (first | exact fs | (rw [hf]; exact sets_app fs (by dsimp only; omega)))), (by (try dsimp only) <;> (exact y))⟩ (by first | omega | (dsimp only; omega))
              · cbv
              · cbv
          · refine r_addf m.sX (by omega) (by omega) fun r6 hr6 => ?_
            conv => cbv
            try have tr6 : Int.toNat r6 = Int.toNat i1 + 1 := by omega
            refine hE _ (a2, s2, f, ys1, r6) ?_ ?_ ⟨(by (try dsimp only); first | omega | (simp only [List.length_nil]; omega) | (simp only [List.length_cons, List.length_nil]; omega)), (by (try dsimp only); first | omega | (simp only [List.length_nil]; omega) | (simp only [List.length_cons, List.length_nil]; omega)), (by (try dsimp only); first | omega | (simp only [List.length_nil]; omega) | (simp only [List.length_cons, List.length_nil]; omega)), (by (try dsimp only) <;> first | omega | rfl | (simp [*]; done) | (rw [fl]; simp [*]; done)), (by (try dsimp only) <;> (first | exact fs | (rw [hf]; exact sets_app fs (by dsimp only; omega)))), (by (try dsimp only) <;> (exact y))⟩ (by first | omega | (dsimp only; omega))
            · cbv
            · cbv
        · refine r_slen (u := code_) m.sX fun n5 hn5 mn5 => ?_   -- n5 = length of code_
          conv => cbv
          refine r_mcall m.sX (cPick_ok code a2 s2 4 h (by omega) (by omega)) ?_
          rintro _ _ ⟨q4, rfl, ⟨a5, s5, rfl, ea5, fa5⟩, bq4, cq4, dq4⟩
          conv => cbv
          refine r_addf m.sX (by omega) (by omega) fun r7 hr7 => ?_
          conv => cbv
          have mb := mul_bound (a := n5) (A := 3) (b := r7) (B := 5) (by omega) (by omega) (by omega) (by omega)
          refine r_mulf m.sX (by first | omega | (subst_vars; omega)) (by first | omega | (subst_vars; omega)) fun r8 hr8 => ?_
          conv => cbv
          refine r_addf m.sX (by omega) (by omega) fun r9 hr9 => ?_
          conv => cbv
          refine r_append1 ((code_, r9)) m.sX rfl (by first | omega | (dsimp only; omega)) (by first | omega | (dsimp only; omega)) fun f_3 hf_3 => ?_
          conv => cbv
          have lf_3 : (f_3.length : Int) = f.length + 1 := by rw [hf_3]; first | done | (simp; done) | (simp; omega)
          refine r_addf m.sX (by omega) (by omega) fun r10 hr10 => ?_
          conv => cbv
          try have tr10 : Int.toNat r10 = Int.toNat i1 + 1 := by omega
          refine hE _ (a5, s5, f_3, ys1, r10) ?_ ?_ ⟨(by (try dsimp only); first | omega | (simp only [List.length_nil]; omega) | (simp only [List.length_cons, List.length_nil]; omega)), (by (try dsimp only); first | omega | (simp only [List.length_nil]; omega) | (simp only [List.length_cons, List.length_nil]; omega)), (by (try dsimp only); first | omega | (simp only [List.length_nil]; omega) | (simp only [List.length_cons, List.length_nil]; omega)), (by (try dsimp only) <;> first | omega | rfl | (simp [*]; done) | (rw [fl]; simp [*]; done)), (by (try dsimp only) <;> (first | exact fs | (rw [hf_3]; exact sets_app fs (by dsimp only; omega)))), (by (try dsimp only) <;> (exact y))⟩ (by first | omega | (dsimp only; omega))
          · cbv
          · cbv
      · refine r_slen (u := code_) m.sX fun n6 hn6 mn6 => ?_   -- n6 = length of code_
        conv => cbv
        refine r_gtr m.sX (fun h4 => ?_) (fun h4 => ?_) <;> conv => cbv
        · refine r_mcall m.sX (cOne_ok code a1 s1 3 h (by omega) (by omega)) ?_
          rintro _ _ ⟨q5, rfl, ⟨a6, s6, rfl, ea6, fa6⟩⟩
          conv => cbv
          rcases Bool.eq_false_or_eq_true q5 with rfl | rfl <;> conv => cbv
          · refine r_slen (u := code_) m.sX fun n7 hn7 mn7 => ?_   -- n7 = length of code_
            conv => cbv
            refine r_mcall m.sX (cPick_ok code a6 s6 4 h (by omega) (by omega)) ?_
            rintro _ _ ⟨q6, rfl, ⟨a7, s7, rfl, ea7, fa7⟩, bq6, cq6, dq6⟩
            conv => cbv
            refine r_addf m.sX (by omega) (by omega) fun r11 hr11 => ?_
            conv => cbv
            have mb := mul_bound (a := n7) (A := 3) (b := r11) (B := 5) (by omega) (by omega) (by omega) (by omega)
            refine r_mulf m.sX (by first | omega | (subst_vars; omega)) (by first | omega | (subst_vars; omega)) fun r12 hr12 => ?_
            conv => cbv
            refine r_addf m.sX (by omega) (by omega) fun r13 hr13 => ?_
            conv => cbv
            refine r_append1 ((code_, r13)) m.sX rfl (by first | omega | (dsimp only; omega)) (by first | omega | (dsimp only; omega)) fun f_4 hf_4 => ?_
            conv => cbv
            have lf_4 : (f_4.length : Int) = f.length + 1 := by rw [hf_4]; first | done | (simp; done) | (simp; omega)
            refine r_addf m.sX (by omega) (by omega) fun r14 hr14 => ?_
            conv => cbv
            try have tr14 : Int.toNat r14 = Int.toNat i1 + 1 := by omega
            refine hE _ (a7, s7, f_4, ys1, r14) ?_ ?_ ⟨(by (try dsimp only); first | omega | (simp only [List.length_nil]; omega) | (simp only [List.length_cons, List.length_nil]; omega)), (by (try dsimp only); first | omega | (simp only [List.length_nil]; omega) | (simp only [List.length_cons, List.length_nil]; omega)), (by (try dsimp only); first | omega | (simp only [List.length_nil]; omega) | (simp only [List.length_cons, List.length_nil]; omega)), (by (try dsimp only) <;> first | omega | rfl | (simp [*]; done) | (rw [fl]; simp [*]; done)), (by (try dsimp only) <;> (first | exact fs | (rw [hf_4]; exact sets_app fs (by dsimp only; omega)))), (by (try dsimp only) <;> (exact y))⟩ (by first | omega | (dsimp only; omega))
            · cbv
            · cbv
          · refine r_addf m.sX (by omega) (by omega) fun r15 hr15 => ?_
            conv => cbv
            try have tr15 : Int.toNat r15 = Int.toNat i1 + 1 := by omega
            refine hE _ (a6, s6, f, ys1, r15) ?_ ?_ ⟨(by (try dsimp only); first | omega | (simp only [List.length_nil]; omega) | (simp only [List.length_cons, List.length_nil]; omega)), (by (try dsimp only); first | omega | (simp only [List.length_nil]; omega) | (simp only [List.length_cons, List.length_nil]; omega)), (by (try dsimp only); first | omega | (simp only [List.length_nil]; omega) | (simp only [List.length_cons, List.length_nil]; omega)), (by (try dsimp only) <;> first | omega | rfl | (simp [*]; done) | (rw [fl]; simp [*]; done)), (by (try dsimp only) <;> (first | exact fs | (rw [hf]; exact sets_app fs (by dsimp only; omega)))), (by (try dsimp only) <;> (exact y))⟩ (by first | omega | (dsimp only; omega))
            · cbv
            · cbv
        · refine r_addf m.sX (by omega) (by omega) fun r16 hr16 => ?_
          conv => cbv
          try have tr16 : Int.toNat r16 = Int.toNat i1 + 1 := by omega
          refine hE _ (a1, s1, f, ys1, r16) ?_ ?_ ⟨(by (try dsimp only); first | omega | (simp only [List.length_nil]; omega) | (simp only [List.length_cons, List.length_nil]; omega)), (by (try dsimp only); first | omega | (simp only [List.length_nil]; omega) | (simp only [List.length_cons, List.length_nil]; omega)), (by (try dsimp only); first | omega | (simp only [List.length_nil]; omega) | (simp only [List.length_cons, List.length_nil]; omega)), (by (try dsimp only) <;> first | omega | rfl | (simp [*]; done) | (rw [fl]; simp [*]; done)), (by (try dsimp only) <;> (first | exact fs | (rw [hf]; exact sets_app fs (by dsimp only; omega)))), (by (try dsimp only) <;> (exact y))⟩ (by first | omega | (dsimp only; omega))
          · cbv
          · cbv
    · have dz_i1 := drop_end (xs := [([97] : List UInt8), ([97, 98] : List UInt8), ([97, 98, 99] : List UInt8), ([98] : List UInt8), ([98, 98] : List UInt8), ([99] : List UInt8), ([100] : List UInt8), ([101] : List UInt8), ([102] : List UInt8), ([102, 102] : List UInt8), ([102, 105] : List UInt8), ([105] : List UInt8)]) (i := Int.toNat i1) (by simp only [List.length_cons, List.length_nil]; omega)
      have tz_i1 := take_end (xs := [([97] : List UInt8), ([97, 98] : List UInt8), ([97, 98, 99] : List UInt8), ([98] : List UInt8), ([98, 98] : List UInt8), ([99] : List UInt8), ([100] : List UInt8), ([101] : List UInt8), ([102] : List UInt8), ([102, 102] : List UInt8), ([102, 105] : List UInt8), ([105] : List UInt8)]) (i := Int.toNat i1) (by simp only [List.length_cons, List.length_nil]; omega)
      refine hF _ _ ?_
      conv => cbv
      refine r_lenR m.sX fun n8 hn8 mn8 => ?_
      conv => cbv
      refine r_eql m.sX (fun h5 => ?_) (fun h5 => ?_) <;> conv => cbv
      · exact hQ (.fr 140 2 [[.str ([97] : List UInt8), .int .i64 9]]) (cCur code a1 s1) ⟨[(([97] : List UInt8), 9)], (by first | rfl | (simp only [rows_nil]; rfl) | (simp only [rows_cons, rows_nil]; rfl)), ⟨a1, s1, rfl, by omega, by omega⟩, (by first | omega | assumption | (simp; done) | (simp [*]; done) | (intro x hx; simp at hx; subst hx; decide) | (simp at *; omega)), (by first | omega | assumption | (simp; done) | (simp [*]; done) | (intro x hx; simp at hx; subst hx; decide) | (simp at *; omega)), (by first | omega | assumption | (simp; done) | (simp [*]; done) | (intro x hx; simp at hx; subst hx; decide) | (simp at *; omega))⟩   -- leaf 1
      · exact hQ (.fr 140 2 (rows cSort f)) (cCur code a1 s1) ⟨f, rfl, ⟨a1, s1, rfl, by omega, by omega⟩, (by first | omega | assumption | (simp; done) | (simp [*]; done) | (intro x hx; simp at hx; subst hx; decide) | (simp at *; omega)), (by first | omega | assumption | (simp; done) | (simp [*]; done) | (intro x hx; simp at hx; subst hx; decide) | (simp at *; omega)), (by first | omega | assumption | (simp; done) | (simp [*]; done) | (intro x hx; simp at hx; subst hx; decide) | (simp at *; omega))⟩   -- leaf 2

theorem cBoxes_ok (code : List Int) (b0 t0 : Int) (f : List FSort) (h : CurIn code) (h0 : 0 ≤ b0) (hk : b0 ≤ 899999999999900000) (hl : f.length ≤ 12) : OkM Try.prog 143 (cCur code b0 t0) [.isl 2 (rows cSort f)] (fun r cs => ∃ (q : List Box), r = .fr 83 4 (rows cBox q) ∧ CurTo code b0 100 cs ∧ (q.length = f.length) ∧ (cntIn 100 q)) :=
  fnM_intro envOk fieldsOk mixed Try.func143 rfl fun κ X Y L Q m hQ => by
    conv => cbv
    refine r_mcall m.sX (cPick_ok code b0 t0 20 h (by omega) (by omega)) ?_
    rintro _ _ ⟨at_, rfl, ⟨a1, s1, rfl, ea1, fa1⟩, bat_, cat_, dat_⟩
    conv => cbv
    refine r_lenR m.sX fun n1 hn1 mn1 => ?_
    conv => cbv
    refine r_loopF (α := Int × Int × List Box × Int × Int) m 38 [6, 11, 12, 13] [⟨0, 1, 0, 0, 0⟩, ⟨5, 41, 83, 4, 0⟩] (fun σ => [(0, .optr 1 0 0 0 0), (5, .osl 41 0), (6, .int .i64 σ.2.2.2.1), (11, .isl 2 (rows cSort f)), (12, .int .i64 n1), (13, .int .i64 σ.2.2.2.2)]) (fun σ => [(1, 0, .box (cCur code σ.1 σ.2.1)), (41, 0, .row 83 4 (rows cBox σ.2.2.1))])
      (fun σ => (0 ≤ σ.2.2.2.2) ∧ (σ.2.2.2.2 ≤ n1) ∧ (a1 ≤ σ.1 ∧ σ.1 ≤ a1 + 4 * σ.2.2.2.2) ∧ ((σ.2.2.1.length : Int) = σ.2.2.2.2) ∧ (0 ≤ σ.2.2.2.1 ∧ σ.2.2.2.1 ≤ 20 + 3 * σ.2.2.2.2) ∧ (cntIn 100 σ.2.2.1)) (fun σ => (n1 - σ.2.2.2.2).toNat) (a1, s1, [], at_, 0) ?_ ?_ ?_ ?_
    · cbv
    · (try dsimp only); (try simp only [rows_cons, rows_nil]); cbv
    · exact ⟨(by (try dsimp only); first | omega | (simp only [List.length_nil]; omega) | (simp only [List.length_cons, List.length_nil]; omega)), (by (try dsimp only); first | omega | (simp only [List.length_nil]; omega) | (simp only [List.length_cons, List.length_nil]; omega)), (by (try dsimp only); first | omega | (simp only [List.length_nil]; omega) | (simp only [List.length_cons, List.length_nil]; omega)), (by (try dsimp only) <;> first | omega | rfl | (simp [*]; done)), (by (try dsimp only) <;> first | omega | rfl | (simp [*]; done)), (by (try dsimp only) <;> (exact cntIn_nil _))⟩
    rintro ⟨a2, s2, l, at__2, i1⟩ ⟨lo1, hi1, cl1, ln, ab, cb⟩ E hE F hF
    dsimp only at lo1 hi1 cl1 ln ab cb
    conv => cbv
    refine r_lss m.sX (fun h1 => ?_) (fun h1 => ?_) <;> conv => cbv
    · refine r_index m.sX (by omega) (by omega) fun v hs_A => ?_
      obtain ⟨s_A, s_B⟩ := v
      conv => cbv
      have hs_ := hs_A
      have ms_ := get_mem hs_
      have ds_ := drop_cons hs_
      have ks_ := take_snoc hs_
      have js_ : (i1 + 1).toNat = Int.toNat i1 + 1 := by omega
      refine r_draw m (by kernel_rfl) ?_
      conv => cbv
      first | refine r_divf m.sY (by omega) (by omega) fun r1 hr1 br1 => ?_ | refine r_tdivf m.sY (by omega) (by omega) fun r1 hr1 br1 => ?_
      conv => cbv
      refine r_modf m.sY (by omega) (by omega) fun r2 hr2 br2 => ?_
      conv => cbv
      refine r_modf m.sY (by omega) (by omega) fun r3 hr3 br3 => ?_
      conv => cbv
      refine r_mcallS m.sY (cAmong_ok code a2 s2 ([0, 1, 2, 5, 20]) (by simp) h (by omega) (by omega)) (cAmong_ex code a2 s2 ([0, 1, 2, 5, 20]) (by simp)) (by rintro _ _ ⟨_, rfl, _⟩; first | trivial | (intro x hx; simp at hx; rcases hx with rfl | rfl | rfl <;> trivial)) ?_
      rintro _ _ ⟨q1, rfl, ⟨a3, s3, rfl, ea3, fa3⟩, bq1⟩
      simp only [List.mem_cons, List.not_mem_nil, or_false] at bq1
      conv => cbv
      refine r_append1 ((s_A, r2, r3, q1)) m.sY rfl (by first | omega | (dsimp only; omega)) (by first | omega | (dsimp only; omega)) fun l_2 hl_2 => ?_
      conv => cbv
      have ll_2 : (l_2.length : Int) = l.length + 1 := by rw [hl_2]; first | done | (simp; done) | (simp; omega)
      refine r_mcall m.sX (cPick_ok code a3 s3 2 h (by omega) (by omega)) ?_
      rintro _ _ ⟨q2, rfl, ⟨a4, s4, rfl, ea4, fa4⟩, bq2, cq2, dq2⟩
      conv => cbv
      refine r_addf m.sX (by omega) (by omega) fun r4 hr4 => ?_
      conv => cbv
      refine r_addf m.sX (by omega) (by omega) fun at__3 hat__3 => ?_
      conv => cbv
      refine r_addf m.sX (by omega) (by omega) fun r5 hr5 => ?_
      conv => cbv
      try have tr5 : Int.toNat r5 = Int.toNat i1 + 1 := by omega
      refine hE _ (a4, s4, l_2, at__3, r5) ?_ ?_ ⟨(by (try dsimp only); first | omega | (simp only [List.length_nil]; omega) | (simp only [List.length_cons, List.length_nil]; omega)), (by (try dsimp only); first | omega | (simp only [List.length_nil]; omega) | (simp only [List.length_cons, List.length_nil]; omega)), (by (try dsimp only); first | omega | (simp only [List.length_nil]; omega) | (simp only [List.length_cons, List.length_nil]; omega)), (by (try dsimp only) <;> first | omega | rfl | (simp [*]; done) | (rw [ln]; simp [*]; done)), (by (try dsimp only) <;> first | omega | rfl | (simp [*]; done) | (rw [ab]; simp [*]; done)), (by (try dsimp only) <;> (rw [hl_2]; exact cntIn_app cb (by dsimp only; omega)))⟩ (by first | omega | (dsimp only; omega))
      · cbv
      · cbv
    · have dz_i1 := drop_end (xs := f) (i := Int.toNat i1) (by omega)
      have tz_i1 := take_end (xs := f) (i := Int.toNat i1) (by omega)
      refine hF _ _ ?_
      conv => cbv
      exact hQ (.fr 83 4 (rows cBox l)) (cCur code a2 s2) ⟨l, rfl, ⟨a2, s2, rfl, by omega, by omega⟩, (by first | omega | assumption | (simp; done) | (simp [*]; done) | (simp at *; omega)), (by first | omega | assumption | (simp; done) | (simp [*]; done) | (simp at *; omega))⟩   -- leaf 1

theorem cAnyCase_ok (code : List Int) (b0 t0 : Int)  (h : CurIn code) (h0 : 0 ≤ b0) (hk : b0 ≤ 899999999999600000)  : OkM Try.prog 136 (cCur code b0 t0) [] (fun r cs => ∃ (q : List Box), r = .isl 4 (rows cBox q) ∧ CurTo code b0 400 cs ∧ (q.length ≤ 33)) :=
  OkM.iceR (fnM_intro envOk fieldsOk mixed Try.func136 rfl fun κ X Y L Q m hQ => by
    conv => cbv
    refine r_mcall m.sX (cFont_ok code b0 t0 h (by omega) (by omega)) ?_
    rintro _ _ ⟨q1, rfl, ⟨a1, s1, rfl, ea1, fa1⟩, bq1_1, bq1_2, bq1_3⟩
    conv => cbv
    refine r_mcall m.sX (cBoxes_ok code a1 s1 q1 h (by omega) (by omega) (by first | rfl | assumption | omega | (simp only [List.length_append, List.length_cons, List.length_nil] at *; omega))) ?_
    rintro _ _ ⟨l, rfl, ⟨a2, s2, rfl, ea2, fa2⟩, bl_1, bl_2⟩
    conv => cbv
    refine r_lenR m.sX fun n1 hn1 mn1 => ?_
    conv => cbv
    refine r_mcall m.sX (cPick_ok code a2 s2 n1 h (by omega) (by omega)) ?_
    rintro _ _ ⟨k, rfl, ⟨a3, s3, rfl, ea3, fa3⟩, bk, ck, dk⟩
    conv => cbv
    refine r_mcall m.sX (cPick_ok code a3 s3 30 h (by omega) (by omega)) ?_
    rintro _ _ ⟨q2, rfl, ⟨a4, s4, rfl, ea4, fa4⟩, bq2, cq2, dq2⟩
    conv => cbv
    refine r_eql m.sX (fun h1 => ?_) (fun h1 => ?_) <;> conv => cbv
    · refine r_mcall m.sX (cAmong_ok code a4 s4 ([10, -1, 9]) (by simp) h (by omega) (by omega)) ?_
      rintro _ _ ⟨q3, rfl, ⟨a5, s5, rfl, ea5, fa5⟩, bq3⟩
      simp only [List.mem_cons, List.not_mem_nil, or_false] at bq3
      conv => cbv
      refine r_oindex m.sX (by omega) (by omega) ?_
      conv => cbv
      obtain ⟨⟨y1A, y1B, y1C, y1D⟩, hy1⟩ := get_ex (xs := l) (i := Int.toNat k) (by omega)
      refine r_ostore (l := Int.toNat k) (y1A, q3, y1C, y1D) m.sX hy1 (Nat.le_of_ble_eq_true rfl) rfl fun zs1 hzs1 => ?_   -- zs1 = l.set k (y1A, q3, y1C, y1D)
      have lzs1 : (zs1.length : Int) = l.length := by rw [hzs1]; first | done | (simp; done) | (simp; omega)
      conv => cbv
      exact hQ (.fr 83 4 (rows cBox zs1)) (cCur code a5 s5) ⟨zs1, rfl, ⟨a5, s5, rfl, by omega, by omega⟩, (by first | omega | assumption | (simp; done) | (simp [*]; done) | (simp at *; omega))⟩   -- leaf 1
    · refine r_eql m.sX (fun h2 => ?_) (fun h2 => ?_) <;> conv => cbv
      · refine r_mcall m.sX (cAmong_ok code a4 s4 ([9999, 10000, -1]) (by simp) h (by omega) (by omega)) ?_
        rintro _ _ ⟨q4, rfl, ⟨a6, s6, rfl, ea6, fa6⟩, bq4⟩
        simp only [List.mem_cons, List.not_mem_nil, or_false] at bq4
        conv => cbv
        refine r_oindex m.sX (by omega) (by omega) ?_
        conv => cbv
        obtain ⟨⟨y2A, y2B, y2C, y2D⟩, hy2⟩ := get_ex (xs := l) (i := Int.toNat k) (by omega)
        refine r_ostore (l := Int.toNat k) (y2A, y2B, y2C, q4) m.sX hy2 (Nat.le_of_ble_eq_true rfl) rfl fun zs2 hzs2 => ?_   -- zs2 = l.set k (y2A, y2B, y2C, q4)
        have lzs2 : (zs2.length : Int) = l.length := by rw [hzs2]; first | done | (simp; done) | (simp; omega)
        conv => cbv
        exact hQ (.fr 83 4 (rows cBox zs2)) (cCur code a6 s6) ⟨zs2, rfl, ⟨a6, s6, rfl, by omega, by omega⟩, (by first | omega | assumption | (simp; done) | (simp [*]; done) | (simp at *; omega))⟩   -- leaf 2
      · refine r_eql m.sX (fun h3 => ?_) (fun h3 => ?_) <;> conv => cbv
        · refine r_mcall m.sX (cOfL_ok code a4 s4 ([([] : List UInt8), ([97] : List UInt8), ([122, 122] : List UInt8)]) h (by omega) (by omega) (by first | rfl | assumption | omega | (simp only [List.length_append, List.length_cons, List.length_nil] at *; omega)) (by first | rfl | assumption | omega | (simp only [List.length_append, List.length_cons, List.length_nil] at *; omega))) ?_
          rintro _ _ ⟨q5, rfl, ⟨a7, s7, rfl, ea7, fa7⟩, bq5_1⟩
          conv => cbv
          refine r_oindex m.sX (by omega) (by omega) ?_
          conv => cbv
          obtain ⟨⟨y3A, y3B, y3C, y3D⟩, hy3⟩ := get_ex (xs := l) (i := Int.toNat k) (by omega)
          refine r_ostore (l := Int.toNat k) (q5, y3B, y3C, y3D) m.sX hy3 (Nat.le_of_ble_eq_true rfl) rfl fun zs3 hzs3 => ?_   -- zs3 = l.set k (q5, y3B, y3C, y3D)
          have lzs3 : (zs3.length : Int) = l.length := by rw [hzs3]; first | done | (simp; done) | (simp; omega)
          conv => cbv
          exact hQ (.fr 83 4 (rows cBox zs3)) (cCur code a7 s7) ⟨zs3, rfl, ⟨a7, s7, rfl, by omega, by omega⟩, (by first | omega | assumption | (simp; done) | (simp [*]; done) | (simp at *; omega))⟩   -- leaf 3
        · refine r_eql m.sX (fun h4 => ?_) (fun h4 => ?_) <;> conv => cbv
          · refine r_islice (i := 0) (j := 0) m.sX (by omega) (by omega) (by omega) fun zs4 hzs4 => ?_   -- zs4 = l[None:0]
            have lzs4 : (zs4.length : Int) = 0 - 0 := by rw [hzs4]; first | done | (simp; done) | (simp; omega)
            conv => cbv
            exact hQ (.fr 83 4 (rows cBox zs4)) (cCur code a4 s4) ⟨zs4, rfl, ⟨a4, s4, rfl, by omega, by omega⟩, (by first | omega | assumption | (simp; done) | (simp [*]; done) | (simp at *; omega))⟩   -- leaf 4
          · refine r_eql m.sX (fun h5 => ?_) (fun h5 => ?_) <;> conv => cbv
            · refine r_mcall m.sX (cPick_ok code a4 s4 2 h (by omega) (by omega)) ?_
              rintro _ _ ⟨q6, rfl, ⟨a8, s8, rfl, ea8, fa8⟩, bq6, cq6, dq6⟩
              conv => cbv
              refine r_addf m.sX (by omega) (by omega) fun n hn => ?_
              conv => cbv
              refine r_loopF (α := List Box) m 78 [5] [⟨0, 1, 0, 0, 0⟩, ⟨3, 25, 83, 4, 0⟩] (fun σ => [(0, .optr 1 0 0 0 0), (3, .osl 25 0), (5, .int .i64 n)]) (fun σ => [(1, 0, .box (cCur code a8 s8)), (25, 0, .row 83 4 (rows cBox σ))])
                (fun σ => (σ.length : Int) ≤ n) (fun σ => (n - (σ.length : Int)).toNat) ([]) ?_ ?_ ?_ ?_
              · cbv
              · (try dsimp only); (try simp only [rows_cons, rows_nil]); cbv
              · exact (by (try dsimp only); first | omega | (simp only [List.length_nil]; omega) | (simp only [List.length_cons, List.length_nil]; omega))
              rintro l_2 ll1 E hE F hF
              conv => cbv
              refine r_lenR m.sX fun n2 hn2 mn2 => ?_
              conv => cbv
              refine r_lss m.sX (fun h6 => ?_) (fun h6 => ?_) <;> conv => cbv
              · refine r_lenR m.sX fun i hi mi => ?_
                conv => cbv
                first | refine r_divf m.sX (by omega) (by omega) fun r1 hr1 br1 => ?_ | refine r_tdivf m.sX (by omega) (by omega) fun r1 hr1 br1 => ?_
                conv => cbv
                refine r_addf m.sX (by omega) (by omega) fun r2 hr2 => ?_
                conv => cbv
                refine r_conv m.sX fun r3 hr3 => ?_   -- r3 = uint8 of r2
                conv => cbv
                refine r_modf m.sX (by omega) (by omega) fun r4 hr4 br4 => ?_
                conv => cbv
                refine r_addf m.sX (by omega) (by omega) fun r5 hr5 => ?_
                conv => cbv
                refine r_conv m.sX fun r6 hr6 => ?_   -- r6 = uint8 of r5
                conv => cbv
                refine r_tostr ([r3, r6] : List Int) m.sX rfl fun s9 hs9 => ?_   -- s9 = string of bytes
                have ls9 : (s9.length : Int) = 2 := by rw [hs9]; rfl
                conv => cbv
                first | refine r_divf m.sX (by omega) (by omega) fun r7 hr7 br7 => ?_ | refine r_tdivf m.sX (by omega) (by omega) fun r7 hr7 br7 => ?_
                conv => cbv
                refine r_modf m.sX (by omega) (by omega) fun r8 hr8 br8 => ?_
                conv => cbv
                refine r_append1 ((s9, r7, r8, 1)) m.sX rfl (by first | omega | (dsimp only; omega)) (by first | omega | (dsimp only; omega)) fun l_3 hl_3 => ?_
                conv => cbv
                have ll_3 : (l_3.length : Int) = l_2.length + 1 := by rw [hl_3]; first | done | (simp; done) | (simp; omega)
                refine hE _ l_3 ?_ ?_ (by (try dsimp only); first | omega | (simp only [List.length_nil]; omega) | (simp only [List.length_cons, List.length_nil]; omega)) (by first | omega | (dsimp only; omega))
                · cbv
                · cbv
              · refine hF _ _ ?_
                conv => cbv
                exact hQ (.fr 83 4 (rows cBox l_2)) (cCur code a8 s8) ⟨l_2, rfl, ⟨a8, s8, rfl, by omega, by omega⟩, (by first | omega | assumption | (simp; done) | (simp [*]; done) | (simp at *; omega))⟩   -- leaf 5
            · exact hQ (.fr 83 4 (rows cBox l)) (cCur code a4 s4) ⟨l, rfl, ⟨a4, s4, rfl, by omega, by omega⟩, (by first | omega | assumption | (simp; done) | (simp [*]; done) | (simp at *; omega))⟩)   -- leaf 6

theorem cAnyCase_ex (code : List Int) (b0 t0 : Int) : ∃ r cs, (∃ (q : List Box), r = PV.isl 4 (rows cBox q) ∧ CurTo code b0 400 cs ∧ (q.length ≤ 33)) :=
  ⟨_, _, [], rfl, ⟨b0, t0, rfl, by omega, by omega⟩, (by first | omega | simp)⟩

theorem cMixed_ok (code : List Int) (b0 t0 : Int)  (h : CurIn code) (h0 : 0 ≤ b0) (hk : b0 ≤ 899999999999000000)  : OkM Try.prog 135 (cCur code b0 t0) [] (fun r cs => ∃ (q1 : List Box) (q2 : List Box), r = .tup [.isl 4 (rows cBox q1), .isl 4 (rows cBox q2)] ∧ CurTo code b0 1000 cs ∧ (q1.length ≤ 33) ∧ (q2.length ≤ 33)) :=
  OkM.iceR (fnM_intro envOk fieldsOk mixed Try.func135 rfl fun κ X Y L Q m hQ => by
    conv => cbv
    refine r_mcall m.sX (cFont_ok code b0 t0 h (by omega) (by omega)) ?_
    rintro _ _ ⟨q1, rfl, ⟨a1, s1, rfl, ea1, fa1⟩, bq1_1, bq1_2, bq1_3⟩
    conv => cbv
    refine r_mcall m.sX (cBoxes_ok code a1 s1 q1 h (by omega) (by omega) (by first | rfl | assumption | omega | (simp only [List.length_append, List.length_cons, List.length_nil] at *; omega))) ?_
    rintro _ _ ⟨a, rfl, ⟨a2, s2, rfl, ea2, fa2⟩, ba_1, ba_2⟩
    conv => cbv
    refine r_append0R m.sX (by first | omega | (dsimp only; omega)) (by first | omega | (dsimp only; omega)) fun b hb => ?_
    conv => cbv
    have lb : (b.length : Int) = a.length := by rw [hb]; first | done | (simp; done) | (simp; omega)
    refine r_mcall m.sX (cPick_ok code a2 s2 5 h (by omega) (by omega)) ?_
    rintro _ _ ⟨n, rfl, ⟨a3, s3, rfl, ea3, fa3⟩, bn, cn, dn⟩
    conv => cbv
    refine r_loopF (α := Int × Int × List Box × Int) m 94 [6] [⟨0, 1, 0, 0, 0⟩, ⟨4, 33, 83, 4, 0⟩, ⟨5, 41, 83, 4, 0⟩] (fun σ => [(0, .optr 1 0 0 0 0), (4, .osl 33 0), (5, .osl 41 0), (6, .int .i64 σ.2.2.2)]) (fun σ => [(1, 0, .box (cCur code σ.1 σ.2.1)), (33, 0, .row 83 4 (rows cBox a)), (41, 0, .row 83 4 (rows cBox σ.2.2.1))])
      (fun σ => (a3 ≤ σ.1 ∧ σ.1 ≤ a3 + 6 * (n - σ.2.2.2)) ∧ (0 ≤ σ.2.2.2 ∧ σ.2.2.2 ≤ n) ∧ (σ.2.2.1.length = a.length) ∧ (cntIn (140000 * (5 - σ.2.2.2) + 100) σ.2.2.1)) (fun σ => σ.2.2.2.toNat) (a3, s3, b, n) ?_ ?_ ?_ ?_
    · cbv
    · cbv
    · exact ⟨(by (try dsimp only) <;> first | omega | rfl | (simp [*]; done)), (by (try dsimp only) <;> first | omega | rfl | (simp [*]; done)), (by (try dsimp only) <;> (rw [hb])), (by (try dsimp only) <;> (rw [hb]; exact cntIn_up ba_2 (by omega)))⟩
    rintro ⟨a4, s4, b_2, n_2⟩ ⟨cu, nb, lb2, bd⟩ E hE F hF
    dsimp only at cu nb lb2 bd
    conv => cbv
    refine r_gtr m.sX (fun h1 => ?_) (fun h1 => ?_) <;> conv => cbv
    · refine r_lenR m.sX fun n1 hn1 mn1 => ?_
      conv => cbv
      refine r_mcall m.sX (cPick_ok code a4 s4 n1 h (by omega) (by omega)) ?_
      rintro _ _ ⟨i, rfl, ⟨a5, s5, rfl, ea5, fa5⟩, bi, ci, di⟩
      conv => cbv
      refine r_lenR m.sX fun n2 hn2 mn2 => ?_
      conv => cbv
      refine r_mcall m.sX (cPick_ok code a5 s5 n2 h (by omega) (by omega)) ?_
      rintro _ _ ⟨k, rfl, ⟨a6, s6, rfl, ea6, fa6⟩, bk, ck, dk⟩
      conv => cbv
      refine r_oindex m.sX (by omega) (by omega) ?_
      conv => cbv
      obtain ⟨⟨x1A, x1B, x1C, x1D⟩, hx1⟩ := get_ex (xs := b_2) (i := Int.toNat i) (by omega)
      have mx1 := get_mem hx1
      have bx1 := bd _ mx1
      try dsimp only at bx1
      refine r_oload m.sX hx1 (Nat.le_of_ble_eq_true rfl) ?_
      conv => cbv
      refine r_callF (PV.int .i64) m.sX (l1Most_ok 0 x1D) fun r1 hr1 => ?_
      conv => cbv
      try dsimp only at hr1
      refine r_addf m.sX (by omega) (by omega) fun r2 hr2 => ?_
      conv => cbv
      refine r_mcall m.sX (cPick_ok code a6 s6 r2 h (by omega) (by omega)) ?_
      rintro _ _ ⟨by_, rfl, ⟨a7, s7, rfl, ea7, fa7⟩, bby_, cby_, dby_⟩
      conv => cbv
      refine r_oindex m.sX (by omega) (by omega) ?_
      conv => cbv
      obtain ⟨⟨x2A, x2B, x2C, x2D⟩, hx2⟩ := get_ex (xs := b_2) (i := Int.toNat i) (by omega)
      have mx2 := get_mem hx2
      have bx2 := bd _ mx2
      try dsimp only at bx2
      refine r_oload m.sX hx2 (Nat.le_of_ble_eq_true rfl) ?_
      conv => cbv
      refine r_subf m.sX (by omega) (by omega) fun r3 hr3 => ?_
      conv => cbv
      refine r_oindex m.sX (by omega) (by omega) ?_
      conv => cbv
      obtain ⟨⟨y1A, y1B, y1C, y1D⟩, hy1⟩ := get_ex (xs := b_2) (i := Int.toNat i) (by omega)
      refine r_ostore (l := Int.toNat i) (y1A, y1B, y1C, r3) m.sX hy1 (Nat.le_of_ble_eq_true rfl) rfl fun b_3 hb_3 => ?_   -- b_3 = b_2.set i (y1A, y1B, y1C, r3)
      have lb_3 : (b_3.length : Int) = b_2.length := by rw [hb_3]; first | done | (simp; done) | (simp; omega)
      have bd3 : cntIn (140000 * (5 - n_2) + 65700) b_3 := (by rw [hb_3]; exact cntIn_set bd (by omega) _ (by dsimp only; omega))
      conv => cbv
      refine r_oindex m.sX (by omega) (by omega) ?_
      conv => cbv
      obtain ⟨⟨x3A, x3B, x3C, x3D⟩, hx3⟩ := get_ex (xs := b_3) (i := Int.toNat k) (by omega)
      have mx3 := get_mem hx3
      have bx3 := bd3 _ mx3
      try dsimp only at bx3
      refine r_oload m.sX hx3 (Nat.le_of_ble_eq_true rfl) ?_
      conv => cbv
      refine r_addf m.sX (by omega) (by omega) fun r4 hr4 => ?_
      conv => cbv
      refine r_oindex m.sX (by omega) (by omega) ?_
      conv => cbv
      obtain ⟨⟨y2A, y2B, y2C, y2D⟩, hy2⟩ := get_ex (xs := b_3) (i := Int.toNat k) (by omega)
      refine r_ostore (l := Int.toNat k) (y2A, y2B, y2C, r4) m.sX hy2 (Nat.le_of_ble_eq_true rfl) rfl fun b_4 hb_4 => ?_   -- b_4 = b_3.set k (y2A, y2B, y2C, r4)
      have lb_4 : (b_4.length : Int) = b_3.length := by rw [hb_4]; first | done | (simp; done) | (simp; omega)
      have bd4 : cntIn (140000 * (5 - n_2) + 131300) b_4 := (by rw [hb_4]; exact cntIn_set bd3 (by omega) _ (by dsimp only; omega))
      conv => cbv
      refine r_subf m.sX (by omega) (by omega) fun n_3 hn_3 => ?_
      conv => cbv
      refine hE _ (a7, s7, b_4, n_3) ?_ ?_ ⟨(by (try dsimp only) <;> first | omega | rfl | (simp [*]; done) | (rw [cu]; simp [*]; done)), (by (try dsimp only) <;> first | omega | rfl | (simp [*]; done) | (rw [nb]; simp [*]; done)), (by (try dsimp only) <;> first | omega | rfl | (simp [*]; done) | (rw [lb2]; simp [*]; done)), (by (try dsimp only) <;> (exact cntIn_up bd4 (by omega)))⟩ (by first | omega | (dsimp only; omega))
      · cbv
      · cbv
    · refine hF _ _ ?_
      conv => cbv
      refine r_mcall m.sX (cPick_ok code a4 s4 16 h (by omega) (by omega)) ?_
      rintro _ _ ⟨q2, rfl, ⟨a8, s8, rfl, ea8, fa8⟩, bq2, cq2, dq2⟩
      conv => cbv
      refine r_eql m.sX (fun h2 => ?_) (fun h2 => ?_) <;> conv => cbv
      · refine r_oindex m.sX (by omega) (by omega) ?_
        conv => cbv
        obtain ⟨⟨x4A, x4B, x4C, x4D⟩, hx4⟩ := get_ex (xs := b_2) (i := Int.toNat 0) (by omega)
        have mx4 := get_mem hx4
        have bx4 := bd _ mx4
        try dsimp only at bx4
        refine r_oload m.sX hx4 (Nat.le_of_ble_eq_true rfl) ?_
        conv => cbv
        refine r_addf m.sX (by omega) (by omega) fun r5 hr5 => ?_
        conv => cbv
        refine r_oindex m.sX (by omega) (by omega) ?_
        conv => cbv
        obtain ⟨⟨y3A, y3B, y3C, y3D⟩, hy3⟩ := get_ex (xs := b_2) (i := Int.toNat 0) (by omega)
        refine r_ostore (l := Int.toNat 0) (y3A, y3B, y3C, r5) m.sX hy3 (Nat.le_of_ble_eq_true rfl) rfl fun b_5 hb_5 => ?_   -- b_5 = b_2.set 0 (y3A, y3B, y3C, r5)
        have lb_5 : (b_5.length : Int) = b_2.length := by rw [hb_5]; first | done | (simp; done) | (simp; omega)
        conv => cbv
        exact hQ (.tup [.fr 83 4 (rows cBox a), .fr 83 4 (rows cBox b_5)]) (cCur code a8 s8) ⟨a, b_5, rfl, ⟨a8, s8, rfl, by omega, by omega⟩, (by first | omega | assumption | (simp; done) | (simp [*]; done) | (simp at *; omega)), (by first | omega | assumption | (simp; done) | (simp [*]; done) | (simp at *; omega))⟩   -- leaf 1
      · refine r_eql m.sX (fun h3 => ?_) (fun h3 => ?_) <;> conv => cbv
        · refine r_mcall m.sX (cAnyCase_ok code a8 s8 h (by omega) (by omega)) ?_
          rintro _ _ ⟨q3, rfl, ⟨a9, s9, rfl, ea9, fa9⟩, bq3_1⟩
          conv => cbv
          exact hQ (.tup [.fr 83 4 (rows cBox a), .isl 4 (rows cBox q3)]) (cCur code a9 s9) ⟨a, q3, rfl, ⟨a9, s9, rfl, by omega, by omega⟩, (by first | omega | assumption | (simp; done) | (simp [*]; done) | (simp at *; omega)), (by first | omega | assumption | (simp; done) | (simp [*]; done) | (simp at *; omega))⟩   -- leaf 2
        · refine r_eql m.sX (fun h4 => ?_) (fun h4 => ?_) <;> conv => cbv
          · refine r_oindex m.sX (by omega) (by omega) ?_
            conv => cbv
            obtain ⟨⟨y4A, y4B, y4C, y4D⟩, hy4⟩ := get_ex (xs := a) (i := Int.toNat 0) (by omega)
            refine r_ostore (l := Int.toNat 0) (y4A, y4B, y4C, 9000) m.sX hy4 (Nat.le_of_ble_eq_true rfl) rfl fun zs1 hzs1 => ?_   -- zs1 = a.set 0 (y4A, y4B, y4C, 9000)
            have lzs1 : (zs1.length : Int) = a.length := by rw [hzs1]; first | done | (simp; done) | (simp; omega)
            conv => cbv
            refine r_oindex m.sX (by omega) (by omega) ?_
            conv => cbv
            obtain ⟨⟨y5A, y5B, y5C, y5D⟩, hy5⟩ := get_ex (xs := b_2) (i := Int.toNat 0) (by omega)
            refine r_ostore (l := Int.toNat 0) (y5A, y5B, y5C, 0) m.sX hy5 (Nat.le_of_ble_eq_true rfl) rfl fun b_6 hb_6 => ?_   -- b_6 = b_2.set 0 (y5A, y5B, y5C, 0)
            have lb_6 : (b_6.length : Int) = b_2.length := by rw [hb_6]; first | done | (simp; done) | (simp; omega)
            have bd6 : cntIn (140000 * (5 - n_2) + 131300) b_6 := (by rw [hb_6]; exact cntIn_set bd (by omega) _ (by dsimp only; omega))
            conv => cbv
            refine r_lenR m.sX fun n3 hn3 mn3 => ?_
            conv => cbv
            refine r_subf m.sX (by omega) (by omega) fun r6 hr6 => ?_
            conv => cbv
            refine r_oindex m.sX (by omega) (by omega) ?_
            conv => cbv
            obtain ⟨⟨x5A, x5B, x5C, x5D⟩, hx5⟩ := get_ex (xs := b_6) (i := Int.toNat r6) (by omega)
            have mx5 := get_mem hx5
            have bx5 := bd6 _ mx5
            try dsimp only at bx5
            refine r_oload m.sX hx5 (Nat.le_of_ble_eq_true rfl) ?_
            conv => cbv
            refine r_addf m.sX (by omega) (by omega) fun r7 hr7 => ?_
            conv => cbv
            refine r_oindex m.sX (by omega) (by omega) ?_
            conv => cbv
            obtain ⟨⟨y6A, y6B, y6C, y6D⟩, hy6⟩ := get_ex (xs := b_6) (i := Int.toNat r6) (by omega)
            refine r_ostore (l := Int.toNat r6) (y6A, y6B, y6C, r7) m.sX hy6 (Nat.le_of_ble_eq_true rfl) rfl fun b_7 hb_7 => ?_   -- b_7 = b_6.set r6 (y6A, y6B, y6C, r7)
            have lb_7 : (b_7.length : Int) = b_6.length := by rw [hb_7]; first | done | (simp; done) | (simp; omega)
            conv => cbv
            exact hQ (.tup [.fr 83 4 (rows cBox zs1), .fr 83 4 (rows cBox b_7)]) (cCur code a8 s8) ⟨zs1, b_7, rfl, ⟨a8, s8, rfl, by omega, by omega⟩, (by first | omega | assumption | (simp; done) | (simp [*]; done) | (simp at *; omega)), (by first | omega | assumption | (simp; done) | (simp [*]; done) | (simp at *; omega))⟩   -- leaf 3
          · exact hQ (.tup [.fr 83 4 (rows cBox a), .fr 83 4 (rows cBox b_2)]) (cCur code a8 s8) ⟨a, b_2, rfl, ⟨a8, s8, rfl, by omega, by omega⟩, (by first | omega | assumption | (simp; done) | (simp [*]; done) | (simp at *; omega)), (by first | omega | assumption | (simp; done) | (simp [*]; done) | (simp at *; omega))⟩)   -- leaf 4

theorem cMixed_ex (code : List Int) (b0 t0 : Int) : ∃ r cs, (∃ (q1 : List Box) (q2 : List Box), r = PV.tup [.isl 4 (rows cBox q1), .isl 4 (rows cBox q2)] ∧ CurTo code b0 1000 cs ∧ (q1.length ≤ 33) ∧ (q2.length ≤ 33)) :=
  ⟨_, _, [], [], rfl, ⟨b0, t0, rfl, by omega, by omega⟩, (by first | omega | simp), (by first | omega | simp)⟩

theorem drawCaseDifference_ok (code : List Int) (h : CurIn code) : OkA Try.prog 126 [.isl 1 (rows cU8 code)] (fun r => ∃ (q1 : List Box) (q2 : List Box), r = .tup [.isl 4 (rows cBox q1), .isl 4 (rows cBox q2)]) :=
  fn_intro envOk fieldsOk mixed Try.func126 rfl fun κ X Y L Q m hQ => by
    conv => cbv
    refine r_mcall m.sX (cMixed_ok code 0 0 h (by omega) (by omega)) ?_
    rintro _ _ ⟨q1, q2, rfl, ⟨a1, s1, rfl, ea1, fa1⟩, bq1_1, bq1_2⟩
    conv => cbv
    exact hQ (.tup [.isl 4 (rows cBox q1), .isl 4 (rows cBox q2)]) ⟨q1, q2, rfl⟩   -- leaf 1

theorem drawFindSlips_ok (code : List Int) (h : CurIn code) : OkA Try.prog 57 [.isl 1 (rows cU8 code)] (fun r => ∃ (q1 : List Box) (q2 : List Box), r = .tup [.isl 4 (rows cBox q1), .isl 4 (rows cBox q2)]) :=
  fn_intro envOk fieldsOk mixed Try.func57 rfl fun κ X Y L Q m hQ => by
    conv => cbv
    refine r_callE m.sX (drawCaseDifference_ok code h) ?_
    rintro _ ⟨q1, q2, rfl⟩
    conv => cbv
    exact hQ (.tup [.isl 4 (rows cBox q1), .isl 4 (rows cBox q2)]) ⟨q1, q2, rfl⟩   -- leaf 1

end Go.Proofs.Ytmlojdpfpccgoaa.Ai
