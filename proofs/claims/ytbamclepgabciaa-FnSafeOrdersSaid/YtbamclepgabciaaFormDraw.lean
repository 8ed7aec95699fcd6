/- Contracts of drawn forms, as pg.py prints them without trees: mk29.py turns them. -/
import Derived.Test.YtbamclepgabciaaForm3
namespace Go.Proofs.Ytbamclepgabciaa.Ai
open Go Go.Proofs
set_option linter.unusedSimpArgs false
set_option maxRecDepth 10000
set_option maxHeartbeats 4000000
set_option linter.unusedVariables false
theorem OkM.iceR {P : Program} {f : FuncId} {cs args : List PV} {Q : PV → List PV → Prop} (h : OkM P f cs args (fun r cs' => Q (Ai.ice r) cs')) : OkM P f cs args Q :=
  h.iceE.mono fun r cs' ⟨r0, q, e⟩ => by rw [e]; exact q
def wide (n : Int) (l : List PForm) : Prop := ∀ x ∈ l, (x.1.length : Int) = n ∧ (x.2.length : Int) = n
theorem wide_nil (n : Int) : wide n [] := fun x hx => by cases hx
theorem wide_app {n : Int} {l : List PForm} (h : wide n l) {y : PForm} (h1 : (y.1.length : Int) = n) (h2 : (y.2.length : Int) = n) : wide n (l ++ [y]) := fun x hx => by
  rcases List.mem_append.1 hx with hx | hx
  · exact h x hx
  · rw [List.mem_singleton.1 hx]; exact ⟨h1, h2⟩
theorem cHeldSorts_ok (code : List Int) (b0 t0 : Int) (n : Int) (most : Int) (h : CurIn code) (h0 : 0 ≤ b0) (hk : b0 ≤ 899999999999980000) (hn : 1 ≤ n ∧ n ≤ 6) (hm : 1 ≤ most ∧ most ≤ 1000) : OkM Try.prog 49 (cCur code b0 t0) [.int .i64 n, .int .i64 most] (fun r cs => ∃ (q : List Int), r = .fr 3 1 (rows cInt q) ∧ CurTo code b0 20 cs ∧ ((q.length : Int) = n)) :=
  fnM_intro envOk fieldsOk mixed Try.func49 rfl fun κ X Y L Q m hQ => by
    conv => cbv
    refine r_loopF (α := Int × Int × List Int) m 19 [1, 2] [⟨0, 1, 0, 0, 0⟩, ⟨7, 57, 3, 1, 0⟩] (fun σ => [(0, .optr 1 0 0 0 0), (1, .int .i64 n), (2, .int .i64 most), (7, .osl 57 0)]) (fun σ => [(1, 0, .box (cCur code σ.1 σ.2.1)), (57, 0, .row 3 1 (rows cInt σ.2.2))])
      (fun σ => ((σ.2.2.length : Int) ≤ n) ∧ (b0 ≤ σ.1 ∧ σ.1 ≤ b0 + 2 * (σ.2.2.length : Int))) (fun σ => (n - (σ.2.2.length : Int)).toNat) (b0, t0, []) ?_ ?_ ?_ ?_
    · cbv
    · (try dsimp only); (try simp only [rows_cons, rows_nil]); cbv
    · exact ⟨(by (try dsimp only); first | omega | (simp only [List.length_nil]; omega) | (simp only [List.length_cons, List.length_nil]; omega)), (by (try dsimp only) <;> first | omega | rfl | (simp [*]; done))⟩
    rintro ⟨a1, s1, l⟩ ⟨ll1, cu⟩ E hE F hF
    dsimp only at ll1 cu
    conv => cbv
    refine r_lenR m.sX fun n1 hn1 mn1 => ?_
    conv => cbv
    refine r_lss m.sX (fun h1 => ?_) (fun h1 => ?_) <;> conv => cbv
    · refine r_mcall m.sX (cPick_ok code a1 s1 most h (by omega) (by omega)) ?_
      rintro _ _ ⟨q1, rfl, ⟨a2, s2, rfl, ea2, fa2⟩, bq1, cq1, dq1⟩
      conv => cbv
      refine r_append1 (q1) m.sX rfl (by first | omega | (dsimp only; omega)) (by first | omega | (dsimp only; omega)) fun l_2 hl_2 => ?_
      conv => cbv
      have ll_2 : (l_2.length : Int) = l.length + 1 := by rw [hl_2]; first | done | (simp; done) | (simp; omega)
      refine hE _ (a2, s2, l_2) ?_ ?_ ⟨(by (try dsimp only); first | omega | (simp only [List.length_nil]; omega) | (simp only [List.length_cons, List.length_nil]; omega)), (by (try dsimp only) <;> first | omega | rfl | (simp [*]; done) | (rw [cu]; simp [*]; done))⟩ (by first | omega | (dsimp only; omega))
      · cbv
      · cbv
    · refine hF _ _ ?_
      conv => cbv
      exact hQ (.fr 3 1 (rows cInt l)) (cCur code a1 s1) ⟨l, rfl, ⟨a1, s1, rfl, by omega, by omega⟩, (by first | omega | assumption | (simp; done) | (simp [*]; done) | (simp at *; omega))⟩   -- leaf 1

theorem cForms_ok (code : List Int) (b0 t0 : Int)  (h : CurIn code) (h0 : 0 ≤ b0) (hk : b0 ≤ 899999999999000000)  : OkM Try.prog 31 (cCur code b0 t0) [] (fun r cs => ∃ (q1 : List Int) (q2 : List PForm), r = .tup [.isl 1 (rows cInt q1), .isl 2 (rows cForm q2)] ∧ CurTo code b0 1000 cs ∧ (1 ≤ q1.length) ∧ (q1.length ≤ 7) ∧ (q2.length ≤ 9)) :=
  OkM.iceR (fnM_intro (nestIn_ok 25 envOk) (nestIn_fields 25 fieldsOk) mixed Try.func31 rfl fun κ X Y L Q m hQ => by
    conv => cbv
    refine r_mcall m.sX (cPick_ok code b0 t0 3 h (by omega) (by omega)) ?_
    rintro _ _ ⟨q1, rfl, ⟨a1, s1, rfl, ea1, fa1⟩, bq1, cq1, dq1⟩
    conv => cbv
    refine r_addf m.sX (by omega) (by omega) fun n hn => ?_
    conv => cbv
    refine r_mcall m.sX (cOne_ok code a1 s1 16 h (by omega) (by omega)) ?_
    rintro _ _ ⟨q2, rfl, ⟨a2, s2, rfl, ea2, fa2⟩⟩
    conv => cbv
    rcases Bool.eq_false_or_eq_true q2 with rfl | rfl <;> conv => cbv
    · refine r_mcall m.sX (cHeldSorts_ok code a2 s2 6 4 h (by omega) (by omega) (by first | rfl | assumption | omega | (simp only [List.length_append, List.length_cons, List.length_nil] at *; omega)) (by first | rfl | assumption | omega | (simp only [List.length_append, List.length_cons, List.length_nil] at *; omega))) ?_
      rintro _ _ ⟨free, rfl, ⟨a3, s3, rfl, ea3, fa3⟩, bfree_1⟩
      conv => cbv
      refine r_mcall m.sX (cPick_ok code a3 s3 5 h (by omega) (by omega)) ?_
      rintro _ _ ⟨k, rfl, ⟨a4, s4, rfl, ea4, fa4⟩, bk, ck, dk⟩
      conv => cbv
      refine r_mcall m.sX (cOne_ok code a4 s4 12 h (by omega) (by omega)) ?_
      rintro _ _ ⟨q3, rfl, ⟨a5, s5, rfl, ea5, fa5⟩⟩
      conv => cbv
      rcases Bool.eq_false_or_eq_true q3 with rfl | rfl <;> conv => cbv
      · refine r_mcall m.sX (cPick_ok code a5 s5 2 h (by omega) (by omega)) ?_
        rintro _ _ ⟨q4, rfl, ⟨a6, s6, rfl, ea6, fa6⟩, bq4, cq4, dq4⟩
        conv => cbv
        refine r_addf m.sX (by omega) (by omega) fun k_2 hk_2 => ?_
        conv => cbv
        refine r_loopF (α := Int × Int × List PForm) m 81 [4, 7] [⟨0, 1, 0, 0, 0⟩, ⟨5, 41, 3, 1, 0⟩, ⟨6, 49, 33 + 1000000, 2, 0⟩] (fun σ => [(0, .optr 1 0 0 0 0), (4, .int .i64 6), (5, .osl 41 0), (6, .osl 49 0), (7, .int .i64 k_2)]) (fun σ => [(1, 0, .box (cCur code σ.1 σ.2.1)), (41, 0, .row 3 1 (rows cInt free)), (49, 0, .tree 33 2 (rows cFormN σ.2.2))])
          (fun σ => ((σ.2.2.length : Int) ≤ k_2) ∧ (b0 ≤ σ.1 ∧ σ.1 ≤ b0 + 200 + 60 * (σ.2.2.length : Int)) ∧ (wide 6 σ.2.2)) (fun σ => (k_2 - (σ.2.2.length : Int)).toNat) (a6, s6, []) ?_ ?_ ?_ ?_
        · cbv
        · (try dsimp only); (try simp only [rows_cons, rows_nil]); cbv
        · exact ⟨(by (try dsimp only); first | omega | (simp only [List.length_nil]; omega) | (simp only [List.length_cons, List.length_nil]; omega)), (by (try dsimp only) <;> first | omega | rfl | (simp [*]; done)), (by (try dsimp only) <;> (exact wide_nil _))⟩
        rintro ⟨a7, s7, l⟩ ⟨ll1, cu, lw⟩ E hE F hF
        dsimp only at ll1 cu lw
        conv => cbv
        refine r_lenR m.sX fun n1 hn1 mn1 => ?_
        conv => cbv
        refine r_lss m.sX (fun h1 => ?_) (fun h1 => ?_) <;> conv => cbv
        · refine r_mcall m.sX (cHeldSorts_ok code a7 s7 6 5 h (by omega) (by omega) (by first | rfl | assumption | omega | (simp only [List.length_append, List.length_cons, List.length_nil] at *; omega)) (by first | rfl | assumption | omega | (simp only [List.length_append, List.length_cons, List.length_nil] at *; omega))) ?_
          rintro _ _ ⟨q5, rfl, ⟨a8, s8, rfl, ea8, fa8⟩, bq5_1⟩
          conv => cbv
          refine r_mcall m.sX (cHeldSorts_ok code a8 s8 6 6 h (by omega) (by omega) (by first | rfl | assumption | omega | (simp only [List.length_append, List.length_cons, List.length_nil] at *; omega)) (by first | rfl | assumption | omega | (simp only [List.length_append, List.length_cons, List.length_nil] at *; omega))) ?_
          rintro _ _ ⟨q6, rfl, ⟨a9, s9, rfl, ea9, fa9⟩, bq6_1⟩
          conv => cbv
          refine r_append1 ((q5, q6)) m.sX rfl (by first | omega | (dsimp only; omega)) (by first | omega | (dsimp only; omega)) fun l_2 hl_2 => ?_
          conv => cbv
          have ll_2 : (l_2.length : Int) = l.length + 1 := by rw [hl_2]; first | done | (simp; done) | (simp; omega)
          refine hE _ (a9, s9, l_2) ?_ ?_ ⟨(by (try dsimp only); first | omega | (simp only [List.length_nil]; omega) | (simp only [List.length_cons, List.length_nil]; omega)), (by (try dsimp only) <;> first | omega | rfl | (simp [*]; done) | (rw [cu]; simp [*]; done)), (by (try dsimp only) <;> (rw [hl_2]; exact wide_app lw (by dsimp only; omega) (by dsimp only; omega)))⟩ (by first | omega | (dsimp only; omega))
          · cbv
          · cbv
        · refine hF _ _ ?_
          conv => cbv
          refine r_mcall m.sX (cPick_ok code a7 s7 24 h (by omega) (by omega)) ?_
          rintro _ _ ⟨q7, rfl, ⟨a10, s10, rfl, ea10, fa10⟩, bq7, cq7, dq7⟩
          conv => cbv
          refine r_eql m.sX (fun h2 => ?_) (fun h2 => ?_) <;> conv => cbv
          · refine r_mcall m.sX (cAmong_ok code a10 s10 ([1000, 1001, -1]) (by simp) h (by omega) (by omega)) ?_
            rintro _ _ ⟨q8, rfl, ⟨a11, s11, rfl, ea11, fa11⟩, bq8⟩
            simp only [List.mem_cons, List.not_mem_nil, or_false] at bq8
            conv => cbv
            refine r_oindex m.sX (by omega) (by omega) ?_
            conv => cbv
            obtain ⟨y1, hy1⟩ := get_ex (xs := free) (i := Int.toNat 0) (by omega)
            refine r_ostore (l := Int.toNat 0) q8 m.sX hy1 (Nat.le_of_ble_eq_true rfl) rfl fun zs1 hzs1 => ?_   -- zs1 = free.set 0 q8
            have lzs1 : (zs1.length : Int) = free.length := by rw [hzs1]; first | done | (simp; done) | (simp; omega)
            conv => cbv
            exact hQ (.tup [.fr 3 1 (rows cInt zs1), .isl 2 (coolL (rows cFormN l))]) (cCur code a11 s11) ⟨zs1, l, by rw [cool_cForm]; rfl, ⟨a11, s11, rfl, by omega, by omega⟩, (by first | omega | assumption | (simp; done) | (simp [*]; done) | (simp at *; omega)), (by first | omega | assumption | (simp; done) | (simp [*]; done) | (simp at *; omega)), (by first | omega | assumption | (simp; done) | (simp [*]; done) | (simp at *; omega))⟩   -- leaf 1
          · refine r_eql m.sX (fun h3 => ?_) (fun h3 => ?_) <;> conv => cbv
            · refine r_append1 (0) m.sX rfl (by first | omega | (dsimp only; omega)) (by first | omega | (dsimp only; omega)) fun free_2 hfree_2 => ?_
              conv => cbv
              have lfree_2 : (free_2.length : Int) = free.length + 1 := by rw [hfree_2]; first | done | (simp; done) | (simp; omega)
              exact hQ (.tup [.fr 3 1 (rows cInt free_2), .isl 2 (coolL (rows cFormN l))]) (cCur code a10 s10) ⟨free_2, l, by rw [cool_cForm]; rfl, ⟨a10, s10, rfl, by omega, by omega⟩, (by first | omega | assumption | (simp; done) | (simp [*]; done) | (simp at *; omega)), (by first | omega | assumption | (simp; done) | (simp [*]; done) | (simp at *; omega)), (by first | omega | assumption | (simp; done) | (simp [*]; done) | (simp at *; omega))⟩   -- leaf 2
            · refine r_eql m.sX (fun h4 => ?_) (fun h4 => ?_) <;> conv => cbv
              · refine r_gtr m.sX (fun h5 => ?_) (fun h5 => ?_) <;> conv => cbv
                · refine r_draw m (by kernel_rfl) ?_
                  conv => cbv
                  refine r_oindex m.sY (by omega) (by omega) ?_
                  conv => cbv
                  obtain ⟨⟨x1A, x1B⟩, hx1⟩ := get_ex (xs := l) (i := Int.toNat 0) (by omega)
                  have mx1 := get_mem hx1
                  have bx := lw _ mx1
                  try dsimp only at bx
                  refine r_oload m.sY hx1 (Nat.le_of_ble_eq_true rfl) ?_
                  conv => cbv
                  refine r_mcallS m.sY (cAmong_ok code a10 s10 ([1000, 1001, -1]) (by simp) h (by omega) (by omega)) (cAmong_ex code a10 s10 ([1000, 1001, -1]) (by simp)) (by rintro _ _ ⟨_, rfl, _⟩; first | trivial | (intro x hx; simp at hx; rcases hx with rfl | rfl | rfl <;> trivial)) ?_
                  rintro _ _ ⟨q9, rfl, ⟨a12, s12, rfl, ea12, fa12⟩, bq9⟩
                  simp only [List.mem_cons, List.not_mem_nil, or_false] at bq9
                  conv => cbv
                  refine r_oload m.sY hx1 (Nat.le_of_ble_eq_true rfl) ?_
                  conv => cbv
                  refine r_oindex m.sY (by omega) (by omega) ?_
                  conv => cbv
                  refine r_oload m.sY hx1 (Nat.le_of_ble_eq_true rfl) ?_
                  conv => cbv
                  obtain ⟨x2, hx2⟩ := get_ex (xs := x1A) (i := Int.toNat 0) (by omega)
                  refine r_ostore (x := x2) (l := Int.toNat 0) q9 m.sY hx2 (Nat.le_of_ble_eq_true rfl) rfl fun z1 hz1 => ?_
                  conv => cbv
                  refine r_ostore (l := Int.toNat 0) (z1, x1B) m.sY hx1 (Nat.le_of_ble_eq_true rfl) rfl fun l_st1 hl_st1 => ?_
                  conv => cbv
                  have ll_st1 : (l_st1.length : Int) = l.length := by rw [hl_st1]; simp
                  exact hQ (.tup [.fr 3 1 (rows cInt free), .isl 2 (coolL (rows cFormN l_st1))]) (cCur code a12 s12) ⟨free, l_st1, by rw [cool_cForm]; rfl, ⟨a12, s12, rfl, by omega, by omega⟩, (by first | omega | assumption | (simp; done) | (simp [*]; done) | (simp at *; omega)), (by first | omega | assumption | (simp; done) | (simp [*]; done) | (simp at *; omega)), (by first | omega | assumption | (simp; done) | (simp [*]; done) | (simp at *; omega))⟩   -- leaf 3
                · exact hQ (.tup [.fr 3 1 (rows cInt free), .isl 2 (coolL (rows cFormN l))]) (cCur code a10 s10) ⟨free, l, by rw [cool_cForm]; rfl, ⟨a10, s10, rfl, by omega, by omega⟩, (by first | omega | assumption | (simp; done) | (simp [*]; done) | (simp at *; omega)), (by first | omega | assumption | (simp; done) | (simp [*]; done) | (simp at *; omega)), (by first | omega | assumption | (simp; done) | (simp [*]; done) | (simp at *; omega))⟩   -- leaf 4
              · refine r_eql m.sX (fun h6 => ?_) (fun h6 => ?_) <;> conv => cbv
                · refine r_gtr m.sX (fun h7 => ?_) (fun h7 => ?_) <;> conv => cbv
                  · refine r_draw m (by kernel_rfl) ?_
                    conv => cbv
                    refine r_subf m.sY (by omega) (by omega) fun r1 hr1 => ?_
                    conv => cbv
                    refine r_oindex m.sY (by omega) (by omega) ?_
                    conv => cbv
                    obtain ⟨⟨x3A, x3B⟩, hx3⟩ := get_ex (xs := l) (i := Int.toNat r1) (by omega)
                    have mx3 := get_mem hx3
                    have bx := lw _ mx3
                    try dsimp only at bx
                    refine r_oload m.sY hx3 (Nat.le_of_ble_eq_true rfl) ?_
                    conv => cbv
                    refine r_subf m.sY (by omega) (by omega) fun r2 hr2 => ?_
                    conv => cbv
                    refine r_mcallS m.sY (cAmong_ok code a10 s10 ([1000, 1001, -1, 999]) (by simp) h (by omega) (by omega)) (cAmong_ex code a10 s10 ([1000, 1001, -1, 999]) (by simp)) (by rintro _ _ ⟨_, rfl, _⟩; first | trivial | (intro x hx; simp at hx; rcases hx with rfl | rfl | rfl <;> trivial)) ?_
                    rintro _ _ ⟨q10, rfl, ⟨a13, s13, rfl, ea13, fa13⟩, bq10⟩
                    simp only [List.mem_cons, List.not_mem_nil, or_false] at bq10
                    conv => cbv
                    refine r_oload m.sY hx3 (Nat.le_of_ble_eq_true rfl) ?_
                    conv => cbv
                    refine r_oindex m.sY (by omega) (by omega) ?_
                    conv => cbv
                    refine r_oload m.sY hx3 (Nat.le_of_ble_eq_true rfl) ?_
                    conv => cbv
                    obtain ⟨x4, hx4⟩ := get_ex (xs := x3B) (i := Int.toNat r2) (by omega)
                    refine r_ostore (x := x4) (l := Int.toNat r2) q10 m.sY hx4 (Nat.le_of_ble_eq_true rfl) rfl fun z2 hz2 => ?_
                    conv => cbv
                    refine r_ostore (l := Int.toNat r1) (x3A, z2) m.sY hx3 (Nat.le_of_ble_eq_true rfl) rfl fun l_st2 hl_st2 => ?_
                    conv => cbv
                    have ll_st2 : (l_st2.length : Int) = l.length := by rw [hl_st2]; simp
                    exact hQ (.tup [.fr 3 1 (rows cInt free), .isl 2 (coolL (rows cFormN l_st2))]) (cCur code a13 s13) ⟨free, l_st2, by rw [cool_cForm]; rfl, ⟨a13, s13, rfl, by omega, by omega⟩, (by first | omega | assumption | (simp; done) | (simp [*]; done) | (simp at *; omega)), (by first | omega | assumption | (simp; done) | (simp [*]; done) | (simp at *; omega)), (by first | omega | assumption | (simp; done) | (simp [*]; done) | (simp at *; omega))⟩   -- leaf 5
                  · exact hQ (.tup [.fr 3 1 (rows cInt free), .isl 2 (coolL (rows cFormN l))]) (cCur code a10 s10) ⟨free, l, by rw [cool_cForm]; rfl, ⟨a10, s10, rfl, by omega, by omega⟩, (by first | omega | assumption | (simp; done) | (simp [*]; done) | (simp at *; omega)), (by first | omega | assumption | (simp; done) | (simp [*]; done) | (simp at *; omega)), (by first | omega | assumption | (simp; done) | (simp [*]; done) | (simp at *; omega))⟩   -- leaf 6
                · exact hQ (.tup [.fr 3 1 (rows cInt free), .isl 2 (coolL (rows cFormN l))]) (cCur code a10 s10) ⟨free, l, by rw [cool_cForm]; rfl, ⟨a10, s10, rfl, by omega, by omega⟩, (by first | omega | assumption | (simp; done) | (simp [*]; done) | (simp at *; omega)), (by first | omega | assumption | (simp; done) | (simp [*]; done) | (simp at *; omega)), (by first | omega | assumption | (simp; done) | (simp [*]; done) | (simp at *; omega))⟩   -- leaf 7
      · refine r_loopF (α := Int × Int × List PForm) m 81 [4, 7] [⟨0, 1, 0, 0, 0⟩, ⟨5, 41, 3, 1, 0⟩, ⟨6, 49, 33 + 1000000, 2, 0⟩] (fun σ => [(0, .optr 1 0 0 0 0), (4, .int .i64 6), (5, .osl 41 0), (6, .osl 49 0), (7, .int .i64 k)]) (fun σ => [(1, 0, .box (cCur code σ.1 σ.2.1)), (41, 0, .row 3 1 (rows cInt free)), (49, 0, .tree 33 2 (rows cFormN σ.2.2))])
          (fun σ => ((σ.2.2.length : Int) ≤ k) ∧ (b0 ≤ σ.1 ∧ σ.1 ≤ b0 + 200 + 60 * (σ.2.2.length : Int)) ∧ (wide 6 σ.2.2)) (fun σ => (k - (σ.2.2.length : Int)).toNat) (a5, s5, []) ?_ ?_ ?_ ?_
        · cbv
        · (try dsimp only); (try simp only [rows_cons, rows_nil]); cbv
        · exact ⟨(by (try dsimp only); first | omega | (simp only [List.length_nil]; omega) | (simp only [List.length_cons, List.length_nil]; omega)), (by (try dsimp only) <;> first | omega | rfl | (simp [*]; done)), (by (try dsimp only) <;> (exact wide_nil _))⟩
        rintro ⟨a14, s14, l_3⟩ ⟨ll2, cu, lw⟩ E hE F hF
        dsimp only at ll2 cu lw
        conv => cbv
        refine r_lenR m.sX fun n2 hn2 mn2 => ?_
        conv => cbv
        refine r_lss m.sX (fun h8 => ?_) (fun h8 => ?_) <;> conv => cbv
        · refine r_mcall m.sX (cHeldSorts_ok code a14 s14 6 5 h (by omega) (by omega) (by first | rfl | assumption | omega | (simp only [List.length_append, List.length_cons, List.length_nil] at *; omega)) (by first | rfl | assumption | omega | (simp only [List.length_append, List.length_cons, List.length_nil] at *; omega))) ?_
          rintro _ _ ⟨q11, rfl, ⟨a15, s15, rfl, ea15, fa15⟩, bq11_1⟩
          conv => cbv
          refine r_mcall m.sX (cHeldSorts_ok code a15 s15 6 6 h (by omega) (by omega) (by first | rfl | assumption | omega | (simp only [List.length_append, List.length_cons, List.length_nil] at *; omega)) (by first | rfl | assumption | omega | (simp only [List.length_append, List.length_cons, List.length_nil] at *; omega))) ?_
          rintro _ _ ⟨q12, rfl, ⟨a16, s16, rfl, ea16, fa16⟩, bq12_1⟩
          conv => cbv
          refine r_append1 ((q11, q12)) m.sX rfl (by first | omega | (dsimp only; omega)) (by first | omega | (dsimp only; omega)) fun l_4 hl_4 => ?_
          conv => cbv
          have ll_4 : (l_4.length : Int) = l_3.length + 1 := by rw [hl_4]; first | done | (simp; done) | (simp; omega)
          refine hE _ (a16, s16, l_4) ?_ ?_ ⟨(by (try dsimp only); first | omega | (simp only [List.length_nil]; omega) | (simp only [List.length_cons, List.length_nil]; omega)), (by (try dsimp only) <;> first | omega | rfl | (simp [*]; done) | (rw [cu]; simp [*]; done)), (by (try dsimp only) <;> (rw [hl_4]; exact wide_app lw (by dsimp only; omega) (by dsimp only; omega)))⟩ (by first | omega | (dsimp only; omega))
          · cbv
          · cbv
        · refine hF _ _ ?_
          conv => cbv
          refine r_mcall m.sX (cPick_ok code a14 s14 24 h (by omega) (by omega)) ?_
          rintro _ _ ⟨q13, rfl, ⟨a17, s17, rfl, ea17, fa17⟩, bq13, cq13, dq13⟩
          conv => cbv
          refine r_eql m.sX (fun h9 => ?_) (fun h9 => ?_) <;> conv => cbv
          · refine r_mcall m.sX (cAmong_ok code a17 s17 ([1000, 1001, -1]) (by simp) h (by omega) (by omega)) ?_
            rintro _ _ ⟨q14, rfl, ⟨a18, s18, rfl, ea18, fa18⟩, bq14⟩
            simp only [List.mem_cons, List.not_mem_nil, or_false] at bq14
            conv => cbv
            refine r_oindex m.sX (by omega) (by omega) ?_
            conv => cbv
            obtain ⟨y2, hy2⟩ := get_ex (xs := free) (i := Int.toNat 0) (by omega)
            refine r_ostore (l := Int.toNat 0) q14 m.sX hy2 (Nat.le_of_ble_eq_true rfl) rfl fun zs2 hzs2 => ?_   -- zs2 = free.set 0 q14
            have lzs2 : (zs2.length : Int) = free.length := by rw [hzs2]; first | done | (simp; done) | (simp; omega)
            conv => cbv
            exact hQ (.tup [.fr 3 1 (rows cInt zs2), .isl 2 (coolL (rows cFormN l_3))]) (cCur code a18 s18) ⟨zs2, l_3, by rw [cool_cForm]; rfl, ⟨a18, s18, rfl, by omega, by omega⟩, (by first | omega | assumption | (simp; done) | (simp [*]; done) | (simp at *; omega)), (by first | omega | assumption | (simp; done) | (simp [*]; done) | (simp at *; omega)), (by first | omega | assumption | (simp; done) | (simp [*]; done) | (simp at *; omega))⟩   -- leaf 8
          · refine r_eql m.sX (fun h10 => ?_) (fun h10 => ?_) <;> conv => cbv
            · refine r_append1 (0) m.sX rfl (by first | omega | (dsimp only; omega)) (by first | omega | (dsimp only; omega)) fun free_3 hfree_3 => ?_
              conv => cbv
              have lfree_3 : (free_3.length : Int) = free.length + 1 := by rw [hfree_3]; first | done | (simp; done) | (simp; omega)
              exact hQ (.tup [.fr 3 1 (rows cInt free_3), .isl 2 (coolL (rows cFormN l_3))]) (cCur code a17 s17) ⟨free_3, l_3, by rw [cool_cForm]; rfl, ⟨a17, s17, rfl, by omega, by omega⟩, (by first | omega | assumption | (simp; done) | (simp [*]; done) | (simp at *; omega)), (by first | omega | assumption | (simp; done) | (simp [*]; done) | (simp at *; omega)), (by first | omega | assumption | (simp; done) | (simp [*]; done) | (simp at *; omega))⟩   -- leaf 9
            · refine r_eql m.sX (fun h11 => ?_) (fun h11 => ?_) <;> conv => cbv
              · refine r_gtr m.sX (fun h12 => ?_) (fun h12 => ?_) <;> conv => cbv
                · refine r_draw m (by kernel_rfl) ?_
                  conv => cbv
                  refine r_oindex m.sY (by omega) (by omega) ?_
                  conv => cbv
                  obtain ⟨⟨x5A, x5B⟩, hx5⟩ := get_ex (xs := l_3) (i := Int.toNat 0) (by omega)
                  have mx5 := get_mem hx5
                  have bx := lw _ mx5
                  try dsimp only at bx
                  refine r_oload m.sY hx5 (Nat.le_of_ble_eq_true rfl) ?_
                  conv => cbv
                  refine r_mcallS m.sY (cAmong_ok code a17 s17 ([1000, 1001, -1]) (by simp) h (by omega) (by omega)) (cAmong_ex code a17 s17 ([1000, 1001, -1]) (by simp)) (by rintro _ _ ⟨_, rfl, _⟩; first | trivial | (intro x hx; simp at hx; rcases hx with rfl | rfl | rfl <;> trivial)) ?_
                  rintro _ _ ⟨q15, rfl, ⟨a19, s19, rfl, ea19, fa19⟩, bq15⟩
                  simp only [List.mem_cons, List.not_mem_nil, or_false] at bq15
                  conv => cbv
                  refine r_oload m.sY hx5 (Nat.le_of_ble_eq_true rfl) ?_
                  conv => cbv
                  refine r_oindex m.sY (by omega) (by omega) ?_
                  conv => cbv
                  refine r_oload m.sY hx5 (Nat.le_of_ble_eq_true rfl) ?_
                  conv => cbv
                  obtain ⟨x6, hx6⟩ := get_ex (xs := x5A) (i := Int.toNat 0) (by omega)
                  refine r_ostore (x := x6) (l := Int.toNat 0) q15 m.sY hx6 (Nat.le_of_ble_eq_true rfl) rfl fun z3 hz3 => ?_
                  conv => cbv
                  refine r_ostore (l := Int.toNat 0) (z3, x5B) m.sY hx5 (Nat.le_of_ble_eq_true rfl) rfl fun l_3_st3 hl_3_st3 => ?_
                  conv => cbv
                  have ll_3_st3 : (l_3_st3.length : Int) = l_3.length := by rw [hl_3_st3]; simp
                  exact hQ (.tup [.fr 3 1 (rows cInt free), .isl 2 (coolL (rows cFormN l_3_st3))]) (cCur code a19 s19) ⟨free, l_3_st3, by rw [cool_cForm]; rfl, ⟨a19, s19, rfl, by omega, by omega⟩, (by first | omega | assumption | (simp; done) | (simp [*]; done) | (simp at *; omega)), (by first | omega | assumption | (simp; done) | (simp [*]; done) | (simp at *; omega)), (by first | omega | assumption | (simp; done) | (simp [*]; done) | (simp at *; omega))⟩   -- leaf 10
                · exact hQ (.tup [.fr 3 1 (rows cInt free), .isl 2 (coolL (rows cFormN l_3))]) (cCur code a17 s17) ⟨free, l_3, by rw [cool_cForm]; rfl, ⟨a17, s17, rfl, by omega, by omega⟩, (by first | omega | assumption | (simp; done) | (simp [*]; done) | (simp at *; omega)), (by first | omega | assumption | (simp; done) | (simp [*]; done) | (simp at *; omega)), (by first | omega | assumption | (simp; done) | (simp [*]; done) | (simp at *; omega))⟩   -- leaf 11
              · refine r_eql m.sX (fun h13 => ?_) (fun h13 => ?_) <;> conv => cbv
                · refine r_gtr m.sX (fun h14 => ?_) (fun h14 => ?_) <;> conv => cbv
                  · refine r_draw m (by kernel_rfl) ?_
                    conv => cbv
                    refine r_subf m.sY (by omega) (by omega) fun r3 hr3 => ?_
                    conv => cbv
                    refine r_oindex m.sY (by omega) (by omega) ?_
                    conv => cbv
                    obtain ⟨⟨x7A, x7B⟩, hx7⟩ := get_ex (xs := l_3) (i := Int.toNat r3) (by omega)
                    have mx7 := get_mem hx7
                    have bx := lw _ mx7
                    try dsimp only at bx
                    refine r_oload m.sY hx7 (Nat.le_of_ble_eq_true rfl) ?_
                    conv => cbv
                    refine r_subf m.sY (by omega) (by omega) fun r4 hr4 => ?_
                    conv => cbv
                    refine r_mcallS m.sY (cAmong_ok code a17 s17 ([1000, 1001, -1, 999]) (by simp) h (by omega) (by omega)) (cAmong_ex code a17 s17 ([1000, 1001, -1, 999]) (by simp)) (by rintro _ _ ⟨_, rfl, _⟩; first | trivial | (intro x hx; simp at hx; rcases hx with rfl | rfl | rfl <;> trivial)) ?_
                    rintro _ _ ⟨q16, rfl, ⟨a20, s20, rfl, ea20, fa20⟩, bq16⟩
                    simp only [List.mem_cons, List.not_mem_nil, or_false] at bq16
                    conv => cbv
                    refine r_oload m.sY hx7 (Nat.le_of_ble_eq_true rfl) ?_
                    conv => cbv
                    refine r_oindex m.sY (by omega) (by omega) ?_
                    conv => cbv
                    refine r_oload m.sY hx7 (Nat.le_of_ble_eq_true rfl) ?_
                    conv => cbv
                    obtain ⟨x8, hx8⟩ := get_ex (xs := x7B) (i := Int.toNat r4) (by omega)
                    refine r_ostore (x := x8) (l := Int.toNat r4) q16 m.sY hx8 (Nat.le_of_ble_eq_true rfl) rfl fun z4 hz4 => ?_
                    conv => cbv
                    refine r_ostore (l := Int.toNat r3) (x7A, z4) m.sY hx7 (Nat.le_of_ble_eq_true rfl) rfl fun l_3_st4 hl_3_st4 => ?_
                    conv => cbv
                    have ll_3_st4 : (l_3_st4.length : Int) = l_3.length := by rw [hl_3_st4]; simp
                    exact hQ (.tup [.fr 3 1 (rows cInt free), .isl 2 (coolL (rows cFormN l_3_st4))]) (cCur code a20 s20) ⟨free, l_3_st4, by rw [cool_cForm]; rfl, ⟨a20, s20, rfl, by omega, by omega⟩, (by first | omega | assumption | (simp; done) | (simp [*]; done) | (simp at *; omega)), (by first | omega | assumption | (simp; done) | (simp [*]; done) | (simp at *; omega)), (by first | omega | assumption | (simp; done) | (simp [*]; done) | (simp at *; omega))⟩   -- leaf 12
                  · exact hQ (.tup [.fr 3 1 (rows cInt free), .isl 2 (coolL (rows cFormN l_3))]) (cCur code a17 s17) ⟨free, l_3, by rw [cool_cForm]; rfl, ⟨a17, s17, rfl, by omega, by omega⟩, (by first | omega | assumption | (simp; done) | (simp [*]; done) | (simp at *; omega)), (by first | omega | assumption | (simp; done) | (simp [*]; done) | (simp at *; omega)), (by first | omega | assumption | (simp; done) | (simp [*]; done) | (simp at *; omega))⟩   -- leaf 13
                · exact hQ (.tup [.fr 3 1 (rows cInt free), .isl 2 (coolL (rows cFormN l_3))]) (cCur code a17 s17) ⟨free, l_3, by rw [cool_cForm]; rfl, ⟨a17, s17, rfl, by omega, by omega⟩, (by first | omega | assumption | (simp; done) | (simp [*]; done) | (simp at *; omega)), (by first | omega | assumption | (simp; done) | (simp [*]; done) | (simp at *; omega)), (by first | omega | assumption | (simp; done) | (simp [*]; done) | (simp at *; omega))⟩   -- leaf 14
    · refine r_mcall m.sX (cHeldSorts_ok code a2 s2 n 4 h (by omega) (by omega) (by first | rfl | assumption | omega | (simp only [List.length_append, List.length_cons, List.length_nil] at *; omega)) (by first | rfl | assumption | omega | (simp only [List.length_append, List.length_cons, List.length_nil] at *; omega))) ?_
      rintro _ _ ⟨free_4, rfl, ⟨a21, s21, rfl, ea21, fa21⟩, bfree_4_1⟩
      conv => cbv
      refine r_mcall m.sX (cPick_ok code a21 s21 5 h (by omega) (by omega)) ?_
      rintro _ _ ⟨k_3, rfl, ⟨a22, s22, rfl, ea22, fa22⟩, bk_3, ck_3, dk_3⟩
      conv => cbv
      refine r_mcall m.sX (cOne_ok code a22 s22 12 h (by omega) (by omega)) ?_
      rintro _ _ ⟨q17, rfl, ⟨a23, s23, rfl, ea23, fa23⟩⟩
      conv => cbv
      rcases Bool.eq_false_or_eq_true q17 with rfl | rfl <;> conv => cbv
      · refine r_mcall m.sX (cPick_ok code a23 s23 2 h (by omega) (by omega)) ?_
        rintro _ _ ⟨q18, rfl, ⟨a24, s24, rfl, ea24, fa24⟩, bq18, cq18, dq18⟩
        conv => cbv
        refine r_addf m.sX (by omega) (by omega) fun k_4 hk_4 => ?_
        conv => cbv
        refine r_loopF (α := Int × Int × List PForm) m 81 [4, 7] [⟨0, 1, 0, 0, 0⟩, ⟨5, 41, 3, 1, 0⟩, ⟨6, 49, 33 + 1000000, 2, 0⟩] (fun σ => [(0, .optr 1 0 0 0 0), (4, .int .i64 n), (5, .osl 41 0), (6, .osl 49 0), (7, .int .i64 k_4)]) (fun σ => [(1, 0, .box (cCur code σ.1 σ.2.1)), (41, 0, .row 3 1 (rows cInt free_4)), (49, 0, .tree 33 2 (rows cFormN σ.2.2))])
          (fun σ => ((σ.2.2.length : Int) ≤ k_4) ∧ (b0 ≤ σ.1 ∧ σ.1 ≤ b0 + 200 + 60 * (σ.2.2.length : Int)) ∧ (wide n σ.2.2)) (fun σ => (k_4 - (σ.2.2.length : Int)).toNat) (a24, s24, []) ?_ ?_ ?_ ?_
        · cbv
        · (try dsimp only); (try simp only [rows_cons, rows_nil]); cbv
        · exact ⟨(by (try dsimp only); first | omega | (simp only [List.length_nil]; omega) | (simp only [List.length_cons, List.length_nil]; omega)), (by (try dsimp only) <;> first | omega | rfl | (simp [*]; done)), (by (try dsimp only) <;> (exact wide_nil _))⟩
        rintro ⟨a25, s25, l_5⟩ ⟨ll3, cu, lw⟩ E hE F hF
        dsimp only at ll3 cu lw
        conv => cbv
        refine r_lenR m.sX fun n3 hn3 mn3 => ?_
        conv => cbv
        refine r_lss m.sX (fun h15 => ?_) (fun h15 => ?_) <;> conv => cbv
        · refine r_mcall m.sX (cHeldSorts_ok code a25 s25 n 5 h (by omega) (by omega) (by first | rfl | assumption | omega | (simp only [List.length_append, List.length_cons, List.length_nil] at *; omega)) (by first | rfl | assumption | omega | (simp only [List.length_append, List.length_cons, List.length_nil] at *; omega))) ?_
          rintro _ _ ⟨q19, rfl, ⟨a26, s26, rfl, ea26, fa26⟩, bq19_1⟩
          conv => cbv
          refine r_mcall m.sX (cHeldSorts_ok code a26 s26 n 6 h (by omega) (by omega) (by first | rfl | assumption | omega | (simp only [List.length_append, List.length_cons, List.length_nil] at *; omega)) (by first | rfl | assumption | omega | (simp only [List.length_append, List.length_cons, List.length_nil] at *; omega))) ?_
          rintro _ _ ⟨q20, rfl, ⟨a27, s27, rfl, ea27, fa27⟩, bq20_1⟩
          conv => cbv
          refine r_append1 ((q19, q20)) m.sX rfl (by first | omega | (dsimp only; omega)) (by first | omega | (dsimp only; omega)) fun l_6 hl_6 => ?_
          conv => cbv
          have ll_6 : (l_6.length : Int) = l_5.length + 1 := by rw [hl_6]; first | done | (simp; done) | (simp; omega)
          refine hE _ (a27, s27, l_6) ?_ ?_ ⟨(by (try dsimp only); first | omega | (simp only [List.length_nil]; omega) | (simp only [List.length_cons, List.length_nil]; omega)), (by (try dsimp only) <;> first | omega | rfl | (simp [*]; done) | (rw [cu]; simp [*]; done)), (by (try dsimp only) <;> (rw [hl_6]; exact wide_app lw (by dsimp only; omega) (by dsimp only; omega)))⟩ (by first | omega | (dsimp only; omega))
          · cbv
          · cbv
        · refine hF _ _ ?_
          conv => cbv
          refine r_mcall m.sX (cPick_ok code a25 s25 24 h (by omega) (by omega)) ?_
          rintro _ _ ⟨q21, rfl, ⟨a28, s28, rfl, ea28, fa28⟩, bq21, cq21, dq21⟩
          conv => cbv
          refine r_eql m.sX (fun h16 => ?_) (fun h16 => ?_) <;> conv => cbv
          · refine r_mcall m.sX (cAmong_ok code a28 s28 ([1000, 1001, -1]) (by simp) h (by omega) (by omega)) ?_
            rintro _ _ ⟨q22, rfl, ⟨a29, s29, rfl, ea29, fa29⟩, bq22⟩
            simp only [List.mem_cons, List.not_mem_nil, or_false] at bq22
            conv => cbv
            refine r_oindex m.sX (by omega) (by omega) ?_
            conv => cbv
            obtain ⟨y3, hy3⟩ := get_ex (xs := free_4) (i := Int.toNat 0) (by omega)
            refine r_ostore (l := Int.toNat 0) q22 m.sX hy3 (Nat.le_of_ble_eq_true rfl) rfl fun zs3 hzs3 => ?_   -- zs3 = free_4.set 0 q22
            have lzs3 : (zs3.length : Int) = free_4.length := by rw [hzs3]; first | done | (simp; done) | (simp; omega)
            conv => cbv
            exact hQ (.tup [.fr 3 1 (rows cInt zs3), .isl 2 (coolL (rows cFormN l_5))]) (cCur code a29 s29) ⟨zs3, l_5, by rw [cool_cForm]; rfl, ⟨a29, s29, rfl, by omega, by omega⟩, (by first | omega | assumption | (simp; done) | (simp [*]; done) | (simp at *; omega)), (by first | omega | assumption | (simp; done) | (simp [*]; done) | (simp at *; omega)), (by first | omega | assumption | (simp; done) | (simp [*]; done) | (simp at *; omega))⟩   -- leaf 15
          · refine r_eql m.sX (fun h17 => ?_) (fun h17 => ?_) <;> conv => cbv
            · refine r_append1 (0) m.sX rfl (by first | omega | (dsimp only; omega)) (by first | omega | (dsimp only; omega)) fun free_5 hfree_5 => ?_
              conv => cbv
              have lfree_5 : (free_5.length : Int) = free_4.length + 1 := by rw [hfree_5]; first | done | (simp; done) | (simp; omega)
              exact hQ (.tup [.fr 3 1 (rows cInt free_5), .isl 2 (coolL (rows cFormN l_5))]) (cCur code a28 s28) ⟨free_5, l_5, by rw [cool_cForm]; rfl, ⟨a28, s28, rfl, by omega, by omega⟩, (by first | omega | assumption | (simp; done) | (simp [*]; done) | (simp at *; omega)), (by first | omega | assumption | (simp; done) | (simp [*]; done) | (simp at *; omega)), (by first | omega | assumption | (simp; done) | (simp [*]; done) | (simp at *; omega))⟩   -- leaf 16
            · refine r_eql m.sX (fun h18 => ?_) (fun h18 => ?_) <;> conv => cbv
              · refine r_gtr m.sX (fun h19 => ?_) (fun h19 => ?_) <;> conv => cbv
                · refine r_draw m (by kernel_rfl) ?_
                  conv => cbv
                  refine r_oindex m.sY (by omega) (by omega) ?_
                  conv => cbv
                  obtain ⟨⟨x9A, x9B⟩, hx9⟩ := get_ex (xs := l_5) (i := Int.toNat 0) (by omega)
                  have mx9 := get_mem hx9
                  have bx := lw _ mx9
                  try dsimp only at bx
                  refine r_oload m.sY hx9 (Nat.le_of_ble_eq_true rfl) ?_
                  conv => cbv
                  refine r_mcallS m.sY (cAmong_ok code a28 s28 ([1000, 1001, -1]) (by simp) h (by omega) (by omega)) (cAmong_ex code a28 s28 ([1000, 1001, -1]) (by simp)) (by rintro _ _ ⟨_, rfl, _⟩; first | trivial | (intro x hx; simp at hx; rcases hx with rfl | rfl | rfl <;> trivial)) ?_
                  rintro _ _ ⟨q23, rfl, ⟨a30, s30, rfl, ea30, fa30⟩, bq23⟩
                  simp only [List.mem_cons, List.not_mem_nil, or_false] at bq23
                  conv => cbv
                  refine r_oload m.sY hx9 (Nat.le_of_ble_eq_true rfl) ?_
                  conv => cbv
                  refine r_oindex m.sY (by omega) (by omega) ?_
                  conv => cbv
                  refine r_oload m.sY hx9 (Nat.le_of_ble_eq_true rfl) ?_
                  conv => cbv
                  obtain ⟨x10, hx10⟩ := get_ex (xs := x9A) (i := Int.toNat 0) (by omega)
                  refine r_ostore (x := x10) (l := Int.toNat 0) q23 m.sY hx10 (Nat.le_of_ble_eq_true rfl) rfl fun z5 hz5 => ?_
                  conv => cbv
                  refine r_ostore (l := Int.toNat 0) (z5, x9B) m.sY hx9 (Nat.le_of_ble_eq_true rfl) rfl fun l_5_st5 hl_5_st5 => ?_
                  conv => cbv
                  have ll_5_st5 : (l_5_st5.length : Int) = l_5.length := by rw [hl_5_st5]; simp
                  exact hQ (.tup [.fr 3 1 (rows cInt free_4), .isl 2 (coolL (rows cFormN l_5_st5))]) (cCur code a30 s30) ⟨free_4, l_5_st5, by rw [cool_cForm]; rfl, ⟨a30, s30, rfl, by omega, by omega⟩, (by first | omega | assumption | (simp; done) | (simp [*]; done) | (simp at *; omega)), (by first | omega | assumption | (simp; done) | (simp [*]; done) | (simp at *; omega)), (by first | omega | assumption | (simp; done) | (simp [*]; done) | (simp at *; omega))⟩   -- leaf 17
                · exact hQ (.tup [.fr 3 1 (rows cInt free_4), .isl 2 (coolL (rows cFormN l_5))]) (cCur code a28 s28) ⟨free_4, l_5, by rw [cool_cForm]; rfl, ⟨a28, s28, rfl, by omega, by omega⟩, (by first | omega | assumption | (simp; done) | (simp [*]; done) | (simp at *; omega)), (by first | omega | assumption | (simp; done) | (simp [*]; done) | (simp at *; omega)), (by first | omega | assumption | (simp; done) | (simp [*]; done) | (simp at *; omega))⟩   -- leaf 18
              · refine r_eql m.sX (fun h20 => ?_) (fun h20 => ?_) <;> conv => cbv
                · refine r_gtr m.sX (fun h21 => ?_) (fun h21 => ?_) <;> conv => cbv
                  · refine r_draw m (by kernel_rfl) ?_
                    conv => cbv
                    refine r_subf m.sY (by omega) (by omega) fun r5 hr5 => ?_
                    conv => cbv
                    refine r_oindex m.sY (by omega) (by omega) ?_
                    conv => cbv
                    obtain ⟨⟨x11A, x11B⟩, hx11⟩ := get_ex (xs := l_5) (i := Int.toNat r5) (by omega)
                    have mx11 := get_mem hx11
                    have bx := lw _ mx11
                    try dsimp only at bx
                    refine r_oload m.sY hx11 (Nat.le_of_ble_eq_true rfl) ?_
                    conv => cbv
                    refine r_subf m.sY (by omega) (by omega) fun r6 hr6 => ?_
                    conv => cbv
                    refine r_mcallS m.sY (cAmong_ok code a28 s28 ([1000, 1001, -1, 999]) (by simp) h (by omega) (by omega)) (cAmong_ex code a28 s28 ([1000, 1001, -1, 999]) (by simp)) (by rintro _ _ ⟨_, rfl, _⟩; first | trivial | (intro x hx; simp at hx; rcases hx with rfl | rfl | rfl <;> trivial)) ?_
                    rintro _ _ ⟨q24, rfl, ⟨a31, s31, rfl, ea31, fa31⟩, bq24⟩
                    simp only [List.mem_cons, List.not_mem_nil, or_false] at bq24
                    conv => cbv
                    refine r_oload m.sY hx11 (Nat.le_of_ble_eq_true rfl) ?_
                    conv => cbv
                    refine r_oindex m.sY (by omega) (by omega) ?_
                    conv => cbv
                    refine r_oload m.sY hx11 (Nat.le_of_ble_eq_true rfl) ?_
                    conv => cbv
                    obtain ⟨x12, hx12⟩ := get_ex (xs := x11B) (i := Int.toNat r6) (by omega)
                    refine r_ostore (x := x12) (l := Int.toNat r6) q24 m.sY hx12 (Nat.le_of_ble_eq_true rfl) rfl fun z6 hz6 => ?_
                    conv => cbv
                    refine r_ostore (l := Int.toNat r5) (x11A, z6) m.sY hx11 (Nat.le_of_ble_eq_true rfl) rfl fun l_5_st6 hl_5_st6 => ?_
                    conv => cbv
                    have ll_5_st6 : (l_5_st6.length : Int) = l_5.length := by rw [hl_5_st6]; simp
                    exact hQ (.tup [.fr 3 1 (rows cInt free_4), .isl 2 (coolL (rows cFormN l_5_st6))]) (cCur code a31 s31) ⟨free_4, l_5_st6, by rw [cool_cForm]; rfl, ⟨a31, s31, rfl, by omega, by omega⟩, (by first | omega | assumption | (simp; done) | (simp [*]; done) | (simp at *; omega)), (by first | omega | assumption | (simp; done) | (simp [*]; done) | (simp at *; omega)), (by first | omega | assumption | (simp; done) | (simp [*]; done) | (simp at *; omega))⟩   -- leaf 19
                  · exact hQ (.tup [.fr 3 1 (rows cInt free_4), .isl 2 (coolL (rows cFormN l_5))]) (cCur code a28 s28) ⟨free_4, l_5, by rw [cool_cForm]; rfl, ⟨a28, s28, rfl, by omega, by omega⟩, (by first | omega | assumption | (simp; done) | (simp [*]; done) | (simp at *; omega)), (by first | omega | assumption | (simp; done) | (simp [*]; done) | (simp at *; omega)), (by first | omega | assumption | (simp; done) | (simp [*]; done) | (simp at *; omega))⟩   -- leaf 20
                · exact hQ (.tup [.fr 3 1 (rows cInt free_4), .isl 2 (coolL (rows cFormN l_5))]) (cCur code a28 s28) ⟨free_4, l_5, by rw [cool_cForm]; rfl, ⟨a28, s28, rfl, by omega, by omega⟩, (by first | omega | assumption | (simp; done) | (simp [*]; done) | (simp at *; omega)), (by first | omega | assumption | (simp; done) | (simp [*]; done) | (simp at *; omega)), (by first | omega | assumption | (simp; done) | (simp [*]; done) | (simp at *; omega))⟩   -- leaf 21
      · refine r_loopF (α := Int × Int × List PForm) m 81 [4, 7] [⟨0, 1, 0, 0, 0⟩, ⟨5, 41, 3, 1, 0⟩, ⟨6, 49, 33 + 1000000, 2, 0⟩] (fun σ => [(0, .optr 1 0 0 0 0), (4, .int .i64 n), (5, .osl 41 0), (6, .osl 49 0), (7, .int .i64 k_3)]) (fun σ => [(1, 0, .box (cCur code σ.1 σ.2.1)), (41, 0, .row 3 1 (rows cInt free_4)), (49, 0, .tree 33 2 (rows cFormN σ.2.2))])
          (fun σ => ((σ.2.2.length : Int) ≤ k_3) ∧ (b0 ≤ σ.1 ∧ σ.1 ≤ b0 + 200 + 60 * (σ.2.2.length : Int)) ∧ (wide n σ.2.2)) (fun σ => (k_3 - (σ.2.2.length : Int)).toNat) (a23, s23, []) ?_ ?_ ?_ ?_
        · cbv
        · (try dsimp only); (try simp only [rows_cons, rows_nil]); cbv
        · exact ⟨(by (try dsimp only); first | omega | (simp only [List.length_nil]; omega) | (simp only [List.length_cons, List.length_nil]; omega)), (by (try dsimp only) <;> first | omega | rfl | (simp [*]; done)), (by (try dsimp only) <;> (exact wide_nil _))⟩
        rintro ⟨a32, s32, l_7⟩ ⟨ll4, cu, lw⟩ E hE F hF
        dsimp only at ll4 cu lw
        conv => cbv
        refine r_lenR m.sX fun n4 hn4 mn4 => ?_
        conv => cbv
        refine r_lss m.sX (fun h22 => ?_) (fun h22 => ?_) <;> conv => cbv
        · refine r_mcall m.sX (cHeldSorts_ok code a32 s32 n 5 h (by omega) (by omega) (by first | rfl | assumption | omega | (simp only [List.length_append, List.length_cons, List.length_nil] at *; omega)) (by first | rfl | assumption | omega | (simp only [List.length_append, List.length_cons, List.length_nil] at *; omega))) ?_
          rintro _ _ ⟨q25, rfl, ⟨a33, s33, rfl, ea33, fa33⟩, bq25_1⟩
          conv => cbv
          refine r_mcall m.sX (cHeldSorts_ok code a33 s33 n 6 h (by omega) (by omega) (by first | rfl | assumption | omega | (simp only [List.length_append, List.length_cons, List.length_nil] at *; omega)) (by first | rfl | assumption | omega | (simp only [List.length_append, List.length_cons, List.length_nil] at *; omega))) ?_
          rintro _ _ ⟨q26, rfl, ⟨a34, s34, rfl, ea34, fa34⟩, bq26_1⟩
          conv => cbv
          refine r_append1 ((q25, q26)) m.sX rfl (by first | omega | (dsimp only; omega)) (by first | omega | (dsimp only; omega)) fun l_8 hl_8 => ?_
          conv => cbv
          have ll_8 : (l_8.length : Int) = l_7.length + 1 := by rw [hl_8]; first | done | (simp; done) | (simp; omega)
          refine hE _ (a34, s34, l_8) ?_ ?_ ⟨(by (try dsimp only); first | omega | (simp only [List.length_nil]; omega) | (simp only [List.length_cons, List.length_nil]; omega)), (by (try dsimp only) <;> first | omega | rfl | (simp [*]; done) | (rw [cu]; simp [*]; done)), (by (try dsimp only) <;> (rw [hl_8]; exact wide_app lw (by dsimp only; omega) (by dsimp only; omega)))⟩ (by first | omega | (dsimp only; omega))
          · cbv
          · cbv
        · refine hF _ _ ?_
          conv => cbv
          refine r_mcall m.sX (cPick_ok code a32 s32 24 h (by omega) (by omega)) ?_
          rintro _ _ ⟨q27, rfl, ⟨a35, s35, rfl, ea35, fa35⟩, bq27, cq27, dq27⟩
          conv => cbv
          refine r_eql m.sX (fun h23 => ?_) (fun h23 => ?_) <;> conv => cbv
          · refine r_mcall m.sX (cAmong_ok code a35 s35 ([1000, 1001, -1]) (by simp) h (by omega) (by omega)) ?_
            rintro _ _ ⟨q28, rfl, ⟨a36, s36, rfl, ea36, fa36⟩, bq28⟩
            simp only [List.mem_cons, List.not_mem_nil, or_false] at bq28
            conv => cbv
            refine r_oindex m.sX (by omega) (by omega) ?_
            conv => cbv
            obtain ⟨y4, hy4⟩ := get_ex (xs := free_4) (i := Int.toNat 0) (by omega)
            refine r_ostore (l := Int.toNat 0) q28 m.sX hy4 (Nat.le_of_ble_eq_true rfl) rfl fun zs4 hzs4 => ?_   -- zs4 = free_4.set 0 q28
            have lzs4 : (zs4.length : Int) = free_4.length := by rw [hzs4]; first | done | (simp; done) | (simp; omega)
            conv => cbv
            exact hQ (.tup [.fr 3 1 (rows cInt zs4), .isl 2 (coolL (rows cFormN l_7))]) (cCur code a36 s36) ⟨zs4, l_7, by rw [cool_cForm]; rfl, ⟨a36, s36, rfl, by omega, by omega⟩, (by first | omega | assumption | (simp; done) | (simp [*]; done) | (simp at *; omega)), (by first | omega | assumption | (simp; done) | (simp [*]; done) | (simp at *; omega)), (by first | omega | assumption | (simp; done) | (simp [*]; done) | (simp at *; omega))⟩   -- leaf 22
          · refine r_eql m.sX (fun h24 => ?_) (fun h24 => ?_) <;> conv => cbv
            · refine r_append1 (0) m.sX rfl (by first | omega | (dsimp only; omega)) (by first | omega | (dsimp only; omega)) fun free_6 hfree_6 => ?_
              conv => cbv
              have lfree_6 : (free_6.length : Int) = free_4.length + 1 := by rw [hfree_6]; first | done | (simp; done) | (simp; omega)
              exact hQ (.tup [.fr 3 1 (rows cInt free_6), .isl 2 (coolL (rows cFormN l_7))]) (cCur code a35 s35) ⟨free_6, l_7, by rw [cool_cForm]; rfl, ⟨a35, s35, rfl, by omega, by omega⟩, (by first | omega | assumption | (simp; done) | (simp [*]; done) | (simp at *; omega)), (by first | omega | assumption | (simp; done) | (simp [*]; done) | (simp at *; omega)), (by first | omega | assumption | (simp; done) | (simp [*]; done) | (simp at *; omega))⟩   -- leaf 23
            · refine r_eql m.sX (fun h25 => ?_) (fun h25 => ?_) <;> conv => cbv
              · refine r_gtr m.sX (fun h26 => ?_) (fun h26 => ?_) <;> conv => cbv
                · refine r_draw m (by kernel_rfl) ?_
                  conv => cbv
                  refine r_oindex m.sY (by omega) (by omega) ?_
                  conv => cbv
                  obtain ⟨⟨x13A, x13B⟩, hx13⟩ := get_ex (xs := l_7) (i := Int.toNat 0) (by omega)
                  have mx13 := get_mem hx13
                  have bx := lw _ mx13
                  try dsimp only at bx
                  refine r_oload m.sY hx13 (Nat.le_of_ble_eq_true rfl) ?_
                  conv => cbv
                  refine r_mcallS m.sY (cAmong_ok code a35 s35 ([1000, 1001, -1]) (by simp) h (by omega) (by omega)) (cAmong_ex code a35 s35 ([1000, 1001, -1]) (by simp)) (by rintro _ _ ⟨_, rfl, _⟩; first | trivial | (intro x hx; simp at hx; rcases hx with rfl | rfl | rfl <;> trivial)) ?_
                  rintro _ _ ⟨q29, rfl, ⟨a37, s37, rfl, ea37, fa37⟩, bq29⟩
                  simp only [List.mem_cons, List.not_mem_nil, or_false] at bq29
                  conv => cbv
                  refine r_oload m.sY hx13 (Nat.le_of_ble_eq_true rfl) ?_
                  conv => cbv
                  refine r_oindex m.sY (by omega) (by omega) ?_
                  conv => cbv
                  refine r_oload m.sY hx13 (Nat.le_of_ble_eq_true rfl) ?_
                  conv => cbv
                  obtain ⟨x14, hx14⟩ := get_ex (xs := x13A) (i := Int.toNat 0) (by omega)
                  refine r_ostore (x := x14) (l := Int.toNat 0) q29 m.sY hx14 (Nat.le_of_ble_eq_true rfl) rfl fun z7 hz7 => ?_
                  conv => cbv
                  refine r_ostore (l := Int.toNat 0) (z7, x13B) m.sY hx13 (Nat.le_of_ble_eq_true rfl) rfl fun l_7_st7 hl_7_st7 => ?_
                  conv => cbv
                  have ll_7_st7 : (l_7_st7.length : Int) = l_7.length := by rw [hl_7_st7]; simp
                  exact hQ (.tup [.fr 3 1 (rows cInt free_4), .isl 2 (coolL (rows cFormN l_7_st7))]) (cCur code a37 s37) ⟨free_4, l_7_st7, by rw [cool_cForm]; rfl, ⟨a37, s37, rfl, by omega, by omega⟩, (by first | omega | assumption | (simp; done) | (simp [*]; done) | (simp at *; omega)), (by first | omega | assumption | (simp; done) | (simp [*]; done) | (simp at *; omega)), (by first | omega | assumption | (simp; done) | (simp [*]; done) | (simp at *; omega))⟩   -- leaf 24
                · exact hQ (.tup [.fr 3 1 (rows cInt free_4), .isl 2 (coolL (rows cFormN l_7))]) (cCur code a35 s35) ⟨free_4, l_7, by rw [cool_cForm]; rfl, ⟨a35, s35, rfl, by omega, by omega⟩, (by first | omega | assumption | (simp; done) | (simp [*]; done) | (simp at *; omega)), (by first | omega | assumption | (simp; done) | (simp [*]; done) | (simp at *; omega)), (by first | omega | assumption | (simp; done) | (simp [*]; done) | (simp at *; omega))⟩   -- leaf 25
              · refine r_eql m.sX (fun h27 => ?_) (fun h27 => ?_) <;> conv => cbv
                · refine r_gtr m.sX (fun h28 => ?_) (fun h28 => ?_) <;> conv => cbv
                  · refine r_draw m (by kernel_rfl) ?_
                    conv => cbv
                    refine r_subf m.sY (by omega) (by omega) fun r7 hr7 => ?_
                    conv => cbv
                    refine r_oindex m.sY (by omega) (by omega) ?_
                    conv => cbv
                    obtain ⟨⟨x15A, x15B⟩, hx15⟩ := get_ex (xs := l_7) (i := Int.toNat r7) (by omega)
                    have mx15 := get_mem hx15
                    have bx := lw _ mx15
                    try dsimp only at bx
                    refine r_oload m.sY hx15 (Nat.le_of_ble_eq_true rfl) ?_
                    conv => cbv
                    refine r_subf m.sY (by omega) (by omega) fun r8 hr8 => ?_
                    conv => cbv
                    refine r_mcallS m.sY (cAmong_ok code a35 s35 ([1000, 1001, -1, 999]) (by simp) h (by omega) (by omega)) (cAmong_ex code a35 s35 ([1000, 1001, -1, 999]) (by simp)) (by rintro _ _ ⟨_, rfl, _⟩; first | trivial | (intro x hx; simp at hx; rcases hx with rfl | rfl | rfl <;> trivial)) ?_
                    rintro _ _ ⟨q30, rfl, ⟨a38, s38, rfl, ea38, fa38⟩, bq30⟩
                    simp only [List.mem_cons, List.not_mem_nil, or_false] at bq30
                    conv => cbv
                    refine r_oload m.sY hx15 (Nat.le_of_ble_eq_true rfl) ?_
                    conv => cbv
                    refine r_oindex m.sY (by omega) (by omega) ?_
                    conv => cbv
                    refine r_oload m.sY hx15 (Nat.le_of_ble_eq_true rfl) ?_
                    conv => cbv
                    obtain ⟨x16, hx16⟩ := get_ex (xs := x15B) (i := Int.toNat r8) (by omega)
                    refine r_ostore (x := x16) (l := Int.toNat r8) q30 m.sY hx16 (Nat.le_of_ble_eq_true rfl) rfl fun z8 hz8 => ?_
                    conv => cbv
                    refine r_ostore (l := Int.toNat r7) (x15A, z8) m.sY hx15 (Nat.le_of_ble_eq_true rfl) rfl fun l_7_st8 hl_7_st8 => ?_
                    conv => cbv
                    have ll_7_st8 : (l_7_st8.length : Int) = l_7.length := by rw [hl_7_st8]; simp
                    exact hQ (.tup [.fr 3 1 (rows cInt free_4), .isl 2 (coolL (rows cFormN l_7_st8))]) (cCur code a38 s38) ⟨free_4, l_7_st8, by rw [cool_cForm]; rfl, ⟨a38, s38, rfl, by omega, by omega⟩, (by first | omega | assumption | (simp; done) | (simp [*]; done) | (simp at *; omega)), (by first | omega | assumption | (simp; done) | (simp [*]; done) | (simp at *; omega)), (by first | omega | assumption | (simp; done) | (simp [*]; done) | (simp at *; omega))⟩   -- leaf 26
                  · exact hQ (.tup [.fr 3 1 (rows cInt free_4), .isl 2 (coolL (rows cFormN l_7))]) (cCur code a35 s35) ⟨free_4, l_7, by rw [cool_cForm]; rfl, ⟨a35, s35, rfl, by omega, by omega⟩, (by first | omega | assumption | (simp; done) | (simp [*]; done) | (simp at *; omega)), (by first | omega | assumption | (simp; done) | (simp [*]; done) | (simp at *; omega)), (by first | omega | assumption | (simp; done) | (simp [*]; done) | (simp at *; omega))⟩   -- leaf 27
                · exact hQ (.tup [.fr 3 1 (rows cInt free_4), .isl 2 (coolL (rows cFormN l_7))]) (cCur code a35 s35) ⟨free_4, l_7, by rw [cool_cForm]; rfl, ⟨a35, s35, rfl, by omega, by omega⟩, (by first | omega | assumption | (simp; done) | (simp [*]; done) | (simp at *; omega)), (by first | omega | assumption | (simp; done) | (simp [*]; done) | (simp at *; omega)), (by first | omega | assumption | (simp; done) | (simp [*]; done) | (simp at *; omega))⟩)   -- leaf 28

theorem cFormOf_ok (code : List Int) (b0 t0 : Int) (n : Int) (h : CurIn code) (h0 : 0 ≤ b0) (hk : b0 ≤ 899999999999980000) (hn : 0 ≤ n ∧ n ≤ 1000) : OkM Try.prog 32 (cCur code b0 t0) [.int .i64 n] (fun r cs => ∃ (q : Int), r = .int .i64 q ∧ CurTo code b0 20 cs) :=
  fnM_intro envOk fieldsOk mixed Try.func32 rfl fun κ X Y L Q m hQ => by
    conv => cbv
    refine r_addf m.sX (by omega) (by omega) fun r1 hr1 => ?_
    conv => cbv
    refine r_mcall m.sX (cPick_ok code b0 t0 r1 h (by omega) (by omega)) ?_
    rintro _ _ ⟨q1, rfl, ⟨a1, s1, rfl, ea1, fa1⟩, bq1, cq1, dq1⟩
    conv => cbv
    refine r_addf m.sX (by omega) (by omega) fun r2 hr2 => ?_
    conv => cbv
    refine r_mcall m.sX (cPick_ok code a1 s1 r2 h (by omega) (by omega)) ?_
    rintro _ _ ⟨q2, rfl, ⟨a2, s2, rfl, ea2, fa2⟩, bq2, cq2, dq2⟩
    conv => cbv
    refine r_subf m.sX (by omega) (by omega) fun r3 hr3 => ?_
    conv => cbv
    refine r_mcall m.sX (cAmong_ok code a2 s2 ([n, -1]) (by simp) h (by omega) (by omega)) ?_
    rintro _ _ ⟨q3, rfl, ⟨a3, s3, rfl, ea3, fa3⟩, bq3⟩
    simp only [List.mem_cons, List.not_mem_nil, or_false] at bq3
    conv => cbv
    refine r_mcall m.sX (cAmong_ok code a3 s3 ([0, q1, q2, r3, q3]) (by simp) h (by omega) (by omega)) ?_
    rintro _ _ ⟨q4, rfl, ⟨a4, s4, rfl, ea4, fa4⟩, bq4⟩
    simp only [List.mem_cons, List.not_mem_nil, or_false] at bq4
    conv => cbv
    exact hQ (.int .i64 q4) (cCur code a4 s4) ⟨q4, rfl, ⟨a4, s4, rfl, by omega, by omega⟩⟩   -- leaf 1

theorem cFormOf_ex (code : List Int) (b0 t0 : Int) : ∃ r cs, (∃ (q : Int), r = PV.int .i64 q ∧ CurTo code b0 20 cs) :=
  ⟨_, _, 0, rfl, ⟨b0, t0, rfl, by omega, by omega⟩⟩

theorem drawAreForms_ok (code : List Int) (h : CurIn code) : OkA Try.prog 22 [.isl 1 (rows cU8 code)] (fun r => ∃ (q1 : List Int) (q2 : List PForm), r = .tup [.isl 1 (rows cInt q1), .isl 2 (rows cForm q2)]) :=
  fn_intro envOk fieldsOk mixed Try.func22 rfl fun κ X Y L Q m hQ => by
    conv => cbv
    refine r_mcall m.sX (cForms_ok code 0 0 h (by omega) (by omega)) ?_
    rintro _ _ ⟨q1, q2, rfl, ⟨a1, s1, rfl, ea1, fa1⟩, bq1_1, bq1_2, bq1_3⟩
    conv => cbv
    exact hQ (.tup [.isl 1 (rows cInt q1), .isl 2 (rows cForm q2)]) ⟨q1, q2, rfl⟩   -- leaf 1

theorem drawSafeOrder_ok (code : List Int) (h : CurIn code) : OkA Try.prog 5 [.isl 1 (rows cU8 code)] (fun r => ∃ (q1 : List Int) (q2 : List PForm), r = .tup [.isl 1 (rows cInt q1), .isl 2 (rows cForm q2)]) :=
  fn_intro envOk fieldsOk mixed Try.func5 rfl fun κ X Y L Q m hQ => by
    conv => cbv
    refine r_callE m.sX (drawAreForms_ok code h) ?_
    rintro _ ⟨q1, q2, rfl⟩
    conv => cbv
    exact hQ (.tup [.isl 1 (rows cInt q1), .isl 2 (rows cForm q2)]) ⟨q1, q2, rfl⟩   -- leaf 1

theorem drawCanFinish_ok (code : List Int) (h : CurIn code) : OkA Try.prog 35 [.isl 1 (rows cU8 code)] (fun r => ∃ (q1 : List Int) (q2 : List PForm) (q3 : Int), r = .tup [.isl 1 (rows cInt q1), .isl 2 (rows cForm q2), .int .i64 q3]) :=
  fn_intro envOk fieldsOk mixed Try.func35 rfl fun κ X Y L Q m hQ => by
    conv => cbv
    refine r_mcall m.sX (cForms_ok code 0 0 h (by omega) (by omega)) ?_
    rintro _ _ ⟨free, l, rfl, ⟨a1, s1, rfl, ea1, fa1⟩, bfree_1, bfree_2, bfree_3⟩
    conv => cbv
    refine r_lenR m.sX fun n1 hn1 mn1 => ?_
    conv => cbv
    refine r_mcall m.sX (cFormOf_ok code a1 s1 n1 h (by omega) (by omega) (by first | rfl | assumption | omega | (simp only [List.length_append, List.length_cons, List.length_nil] at *; omega))) ?_
    rintro _ _ ⟨q1, rfl, ⟨a2, s2, rfl, ea2, fa2⟩⟩
    conv => cbv
    exact hQ (.tup [.isl 1 (rows cInt free), .isl 2 (rows cForm l), .int .i64 q1]) ⟨free, l, q1, rfl⟩   -- leaf 1

theorem drawFinishForm_ok (code : List Int) (h : CurIn code) : OkA Try.prog 15 [.isl 1 (rows cU8 code)] (fun r => ∃ (q1 : List Int) (q2 : List PForm) (q3 : Int), r = .tup [.isl 1 (rows cInt q1), .isl 2 (rows cForm q2), .int .i64 q3]) :=
  fn_intro envOk fieldsOk mixed Try.func15 rfl fun κ X Y L Q m hQ => by
    conv => cbv
    refine r_callE m.sX (drawCanFinish_ok code h) ?_
    rintro _ ⟨q1, q2, q3, rfl⟩
    conv => cbv
    exact hQ (.tup [.isl 1 (rows cInt q1), .isl 2 (rows cForm q2), .int .i64 q3]) ⟨q1, q2, q3, rfl⟩   -- leaf 1

-- lacks spec.DrawLackingFor
-- lacks spec.DrawGiveSorts
-- lacks spec.DrawWaitsFor
theorem drawLeastCast_ok (code : List Int) (h : CurIn code) : OkA Try.prog 12 [.isl 1 (rows cU8 code)] (fun r => ∃ (q1 : List Int) (q2 : List PForm) (q3 : Int), r = .tup [.isl 1 (rows cInt q1), .isl 2 (rows cForm q2), .int .i64 q3]) :=
  fn_intro envOk fieldsOk mixed Try.func12 rfl fun κ X Y L Q m hQ => by
    conv => cbv
    refine r_mcall m.sX (cForms_ok code 0 0 h (by omega) (by omega)) ?_
    rintro _ _ ⟨free, l, rfl, ⟨a1, s1, rfl, ea1, fa1⟩, bfree_1, bfree_2, bfree_3⟩
    conv => cbv
    refine r_lenR m.sX fun n1 hn1 mn1 => ?_
    conv => cbv
    refine r_mcall m.sX (cFormOf_ok code a1 s1 n1 h (by omega) (by omega) (by first | rfl | assumption | omega | (simp only [List.length_append, List.length_cons, List.length_nil] at *; omega))) ?_
    rintro _ _ ⟨q1, rfl, ⟨a2, s2, rfl, ea2, fa2⟩⟩
    conv => cbv
    exact hQ (.tup [.isl 1 (rows cInt free), .isl 2 (rows cForm l), .int .i64 q1]) ⟨free, l, q1, rfl⟩   -- leaf 1

-- lacks spec.DrawAllOfSort
end Go.Proofs.Ytbamclepgabciaa.Ai
