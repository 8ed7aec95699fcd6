/- Contracts of what the laws on folds draw. -/
import Derived.Test.YtbamclepgabciaaDoorFold2
import Derived.Test.YtbamclepgabciaaDoorCur2
namespace Go.Proofs.YtbamclepgabciaaDoor.Ai
open Go Go.Proofs
set_option linter.unusedSimpArgs false
set_option maxRecDepth 10000
set_option maxHeartbeats 4000000
set_option linter.unusedVariables false

theorem cFolds_ok (code : List Int) (b0 t0 : Int) (h : CurIn code) (h0 : 0 ≤ b0) (hk : b0 ≤ 900000000000000000) : OkM Tryd.prog 98 (cCur code b0 t0) [] (fun r cs => ∃ q : List Fold, r = .fr 116 2 (rows cFold q) ∧ CurTo code b0 60 cs ∧ q.length ≤ 5) :=
  fnM_intro envOk fieldsOk mixed Tryd.func98 rfl fun κ X Y L Q m hQ => by
    conv => cbv
    refine r_mcall m.sX (cPick_ok code b0 t0 4 h (by omega) (by omega)) ?_
    rintro _ _ ⟨q1, rfl, ⟨a1, s1, rfl, ea1, fa1⟩, bq1, cq1, dq1⟩
    have cq1 := cq1 (by omega)
    conv => cbv
    refine r_mcall m.sX (cOne_ok code a1 s1 8 h (by omega) (by omega)) ?_
    rintro _ _ ⟨q2, rfl, ⟨a2, s2, rfl, ea2, fa2⟩⟩
    conv => cbv
    cases q2 <;> conv => cbv
    · have hle : 0 ≤ q1 ∧ q1 ≤ 5 := by omega
      refine r_loop (α := List Fold × Int × Int) m 41 [4] [⟨0, 1, 0, 0, 0⟩, ⟨3, 25, 116, 2, 0⟩] (fun a => [(0, .optr 1 0 0 0 0), (3, .osl 25 0), (4, .int .i64 q1)]) (fun a => [(1, 0, .box (cCur code a.2.1 a.2.2)), (25, 0, .row 116 2 (rows cFold a.1))])
        (fun a => a.1.length ≤ q1 ∧ b0 ≤ a.2.1 ∧ a.2.1 ≤ b0 + 10 + 4 * a.1.length) (fun a => (q1 - a.1.length).toNat) ([], a2, s2) ?_ ?_ ?_ ?_
      · cbv
      · (try dsimp only); simp only [rows_nil]; cbv
      · exact ⟨by simp; omega, by dsimp only; omega, by dsimp only; omega⟩
      rintro ⟨ys1, b, t⟩ ⟨p1, p2, p3⟩ E hE
      dsimp only at p1 p2 p3
      conv => cbv
      refine r_lenR m.sX fun n1 hn1 mn1 => ?_
      conv => cbv
      refine r_lss m.sX (fun h1 => ?_) (fun h1 => ?_) <;> conv => cbv
      · refine r_mcall m.sX (cAmong_ok code b t ([1, 2]) (by simp) h (by omega) (by omega)) ?_
        rintro _ _ ⟨q4, rfl, ⟨a4, s4, rfl, ea4, fa4⟩, bq4⟩
        conv => cbv
        refine r_mcall m.sX (cOne_ok code a4 s4 2 h (by omega) (by omega)) ?_
        rintro _ _ ⟨q5, rfl, ⟨a5, s5, rfl, ea5, fa5⟩⟩
        conv => cbv
        refine r_append1 ((q4, q5)) m.sX rfl (by first | omega | (dsimp only; omega)) (by first | omega | (dsimp only; omega)) fun zs1 hzs1 => ?_
        conv => cbv
        have hzl : zs1.length = ys1.length + 1 := by rw [hzs1]; simp
        refine hE _ (zs1, a5, s5) ?_ ?_ ⟨by dsimp only; omega, by dsimp only; omega, by dsimp only; omega⟩ (by first | omega | (dsimp only; omega))
        · cbv
        · cbv
      · refine r_gtr m.sX (fun h2 => ?_) (fun h2 => ?_) <;> conv => cbv
        · refine r_mcall m.sX (cOne_ok code b t 24 h (by omega) (by omega)) ?_
          rintro _ _ ⟨q6, rfl, ⟨a6, s6, rfl, ea6, fa6⟩⟩
          conv => cbv
          cases q6 <;> conv => cbv
          · exact hQ (.fr 116 2 (rows cFold ys1)) (cCur code a6 s6) ⟨ys1, rfl, ⟨a6, s6, rfl, by omega, by omega⟩, by omega⟩
          · refine r_mcall m.sX (cPick_ok code a6 s6 q1 h (by omega) (by omega)) ?_
            rintro _ _ ⟨q7, rfl, ⟨a7, s7, rfl, ea7, fa7⟩, bq7, cq7, dq7⟩
            have cq7 := cq7 (by omega)
            conv => cbv
            refine r_mcall m.sX (cAmong_ok code a7 s7 ([0, 3, -1]) (by simp) h (by omega) (by omega)) ?_
            rintro _ _ ⟨q8, rfl, ⟨a8, s8, rfl, ea8, fa8⟩, bq8⟩
            conv => cbv
            refine r_oindex m.sX (by omega) (by omega) ?_
            conv => cbv
            obtain ⟨y1, hy1⟩ := get_ex (xs := ys1) (i := Int.toNat q7) (by omega)
            refine r_ostore (l := Int.toNat q7) (q8, y1.2) m.sX hy1 (Nat.le_of_ble_eq_true rfl) rfl fun zs2 hzs2 => ?_
            conv => cbv
            have hzl : zs2.length = ys1.length := by rw [hzs2]; simp
            exact hQ (.fr 116 2 (rows cFold zs2)) (cCur code a8 s8) ⟨zs2, rfl, ⟨a8, s8, rfl, by omega, by omega⟩, by omega⟩
        · exact hQ (.fr 116 2 (rows cFold ys1)) (cCur code b t) ⟨ys1, rfl, ⟨b, t, rfl, by omega, by omega⟩, by omega⟩
    · refine r_mcall m.sX (cPick_ok code a2 s2 2 h (by omega) (by omega)) ?_
      rintro _ _ ⟨q3, rfl, ⟨a3, s3, rfl, ea3, fa3⟩, bq3, cq3, dq3⟩
      have cq3 := cq3 (by omega)
      conv => cbv
      refine r_addf m.sX (by omega) (by omega) fun r1 hr1 => ?_
      conv => cbv
      have hle : 0 ≤ r1 ∧ r1 ≤ 5 := by omega
      refine r_loop (α := List Fold × Int × Int) m 41 [4] [⟨0, 1, 0, 0, 0⟩, ⟨3, 25, 116, 2, 0⟩] (fun a => [(0, .optr 1 0 0 0 0), (3, .osl 25 0), (4, .int .i64 r1)]) (fun a => [(1, 0, .box (cCur code a.2.1 a.2.2)), (25, 0, .row 116 2 (rows cFold a.1))])
        (fun a => a.1.length ≤ r1 ∧ b0 ≤ a.2.1 ∧ a.2.1 ≤ b0 + 10 + 4 * a.1.length) (fun a => (r1 - a.1.length).toNat) ([], a3, s3) ?_ ?_ ?_ ?_
      · cbv
      · (try dsimp only); simp only [rows_nil]; cbv
      · exact ⟨by simp; omega, by dsimp only; omega, by dsimp only; omega⟩
      rintro ⟨ys1, b, t⟩ ⟨p1, p2, p3⟩ E hE
      dsimp only at p1 p2 p3
      conv => cbv
      refine r_lenR m.sX fun n1 hn1 mn1 => ?_
      conv => cbv
      refine r_lss m.sX (fun h1 => ?_) (fun h1 => ?_) <;> conv => cbv
      · refine r_mcall m.sX (cAmong_ok code b t ([1, 2]) (by simp) h (by omega) (by omega)) ?_
        rintro _ _ ⟨q4, rfl, ⟨a4, s4, rfl, ea4, fa4⟩, bq4⟩
        conv => cbv
        refine r_mcall m.sX (cOne_ok code a4 s4 2 h (by omega) (by omega)) ?_
        rintro _ _ ⟨q5, rfl, ⟨a5, s5, rfl, ea5, fa5⟩⟩
        conv => cbv
        refine r_append1 ((q4, q5)) m.sX rfl (by first | omega | (dsimp only; omega)) (by first | omega | (dsimp only; omega)) fun zs1 hzs1 => ?_
        conv => cbv
        have hzl : zs1.length = ys1.length + 1 := by rw [hzs1]; simp
        refine hE _ (zs1, a5, s5) ?_ ?_ ⟨by dsimp only; omega, by dsimp only; omega, by dsimp only; omega⟩ (by first | omega | (dsimp only; omega))
        · cbv
        · cbv
      · refine r_gtr m.sX (fun h2 => ?_) (fun h2 => ?_) <;> conv => cbv
        · refine r_mcall m.sX (cOne_ok code b t 24 h (by omega) (by omega)) ?_
          rintro _ _ ⟨q6, rfl, ⟨a6, s6, rfl, ea6, fa6⟩⟩
          conv => cbv
          cases q6 <;> conv => cbv
          · exact hQ (.fr 116 2 (rows cFold ys1)) (cCur code a6 s6) ⟨ys1, rfl, ⟨a6, s6, rfl, by omega, by omega⟩, by omega⟩
          · refine r_mcall m.sX (cPick_ok code a6 s6 r1 h (by omega) (by omega)) ?_
            rintro _ _ ⟨q7, rfl, ⟨a7, s7, rfl, ea7, fa7⟩, bq7, cq7, dq7⟩
            have cq7 := cq7 (by omega)
            conv => cbv
            refine r_mcall m.sX (cAmong_ok code a7 s7 ([0, 3, -1]) (by simp) h (by omega) (by omega)) ?_
            rintro _ _ ⟨q8, rfl, ⟨a8, s8, rfl, ea8, fa8⟩, bq8⟩
            conv => cbv
            refine r_oindex m.sX (by omega) (by omega) ?_
            conv => cbv
            obtain ⟨y1, hy1⟩ := get_ex (xs := ys1) (i := Int.toNat q7) (by omega)
            refine r_ostore (l := Int.toNat q7) (q8, y1.2) m.sX hy1 (Nat.le_of_ble_eq_true rfl) rfl fun zs2 hzs2 => ?_
            conv => cbv
            have hzl : zs2.length = ys1.length := by rw [hzs2]; simp
            exact hQ (.fr 116 2 (rows cFold zs2)) (cCur code a8 s8) ⟨zs2, rfl, ⟨a8, s8, rfl, by omega, by omega⟩, by omega⟩
        · exact hQ (.fr 116 2 (rows cFold ys1)) (cCur code b t) ⟨ys1, rfl, ⟨b, t, rfl, by omega, by omega⟩, by omega⟩

def foldsN (r : PV) : Prop := ∃ (q : List Fold) (n : Int), r = .tup [.fr 116 2 (rows cFold q), .int .i64 n] ∧ q.length ≤ 5 ∧ -1 ≤ n ∧ n ≤ 1001

theorem drawPlaceOfPage_ok (code : List Int) (h : CurIn code) : OkA Tryd.prog 38 [.isl 1 (rows cU8 code)] foldsN :=
  fn_intro envOk fieldsOk mixed Tryd.func38 rfl fun κ X Y L Q m hQ => by
    conv => cbv
    refine r_mcall m.sX (cFolds_ok code 0 0 h (by omega) (by omega)) ?_
    rintro _ _ ⟨q1, rfl, ⟨a1, s1, rfl, ea1, fa1⟩, bq1⟩
    conv => cbv
    refine r_mcall m.sX (cAmong_ok code a1 s1 ([5, 0, 33, -1]) (by simp) h (by omega) (by omega)) ?_
    rintro _ _ ⟨q2, rfl, ⟨a2, s2, rfl, ea2, fa2⟩, bq2⟩
    simp only [List.mem_cons, List.not_mem_nil, or_false] at bq2
    conv => cbv
    refine r_mcall m.sX (cAmong_ok code a2 s2 ([1, 2, 3, 4, 7, 8, 16, 32, q2]) (by simp) h (by omega) (by omega)) ?_
    rintro _ _ ⟨q3, rfl, ⟨a3, s3, rfl, ea3, fa3⟩, bq3⟩
    simp only [List.mem_cons, List.not_mem_nil, or_false] at bq3
    conv => cbv
    exact hQ (.tup [.fr 116 2 (rows cFold q1), .int .i64 q3]) ⟨q1, q3, rfl, bq1, by omega, by omega⟩

end Go.Proofs.YtbamclepgabciaaDoor.Ai
