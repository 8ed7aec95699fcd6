/- Contracts of what the laws on cut-ins draw. -/
import Derived.Test.YtnanackogloioaaCut2
import Derived.Test.YtnanackogloioaaCommon
namespace Go.Proofs.Ytnanackogloioaa.Ai
open Go Go.Proofs
set_option maxRecDepth 10000
set_option maxHeartbeats 4000000
set_option linter.unusedVariables false

theorem cCutIn_ok (code : List Int) (b0 t0 : Int) (h : CurIn code) (h0 : 0 ≤ b0) (hk : b0 ≤ 900000000000000000) : OkM Try.prog 225 (cCur code b0 t0) [] (fun r cs => ∃ x : CutIn, r = .agg (cCutIn x) ∧ CurTo code b0 12 cs) :=
  fnM_intro envOk fieldsOk mixed Try.func225 rfl fun κ X Y L Q m hQ => by
    conv => cbv
    refine r_mcall m.sX (cPick_ok code b0 t0 12 h (by omega) (by omega)) ?_
    rintro _ _ ⟨q1, rfl, ⟨a1, s1, rfl, ea1, fa1⟩, bq1⟩
    conv => cbv
    refine r_mcall m.sX (cPick_ok code a1 s1 4 h (by omega) (by omega)) ?_
    rintro _ _ ⟨q2, rfl, ⟨a2, s2, rfl, ea2, fa2⟩, bq2, cq2, dq2⟩
    conv => cbv
    refine r_addf m.sX (by omega) (by omega) fun r1 hr1 => ?_
    conv => cbv
    refine r_mcall m.sX (cPick_ok code a2 s2 8 h (by omega) (by omega)) ?_
    rintro _ _ ⟨q3, rfl, ⟨a3, s3, rfl, ea3, fa3⟩, bq3, cq3, dq3⟩
    conv => cbv
    refine r_addf m.sX (by omega) (by omega) fun r2 hr2 => ?_
    conv => cbv
    refine r_mulf m.sX (by omega) (by omega) fun r3 hr3 => ?_
    conv => cbv
    refine r_mcall m.sX (cPick_ok code a3 s3 2 h (by omega) (by omega)) ?_
    rintro _ _ ⟨q4, rfl, ⟨a4, s4, rfl, ea4, fa4⟩, bq4⟩
    conv => cbv
    refine r_mcall m.sX (cPick_ok code a4 s4 30 h (by omega) (by omega)) ?_
    rintro _ _ ⟨q5, rfl, ⟨a5, s5, rfl, ea5, fa5⟩, bq5⟩
    conv => cbv
    refine r_eql m.sX (fun h1 => ?_) (fun h1 => ?_) <;> conv => cbv
    · refine r_mcall m.sX (cAmong_ok code a5 s5 ([-1, 200, 201]) (by simp) h (by omega) (by omega)) ?_
      rintro _ _ ⟨q6, rfl, ⟨a6, s6, rfl, ea6, fa6⟩, bq6⟩
      conv => cbv
      exact hQ (.agg (cCutIn (q6, r1, r3, q4))) (cCur code a6 s6) ⟨(q6, r1, r3, q4), rfl, ⟨a6, s6, rfl, by omega, by omega⟩⟩
    · refine r_eql m.sX (fun h2 => ?_) (fun h2 => ?_) <;> conv => cbv
      · refine r_mcall m.sX (cAmong_ok code a5 s5 ([0, 30, 31]) (by simp) h (by omega) (by omega)) ?_
        rintro _ _ ⟨q7, rfl, ⟨a7, s7, rfl, ea7, fa7⟩, bq7⟩
        conv => cbv
        exact hQ (.agg (cCutIn (q1, q7, r3, q4))) (cCur code a7 s7) ⟨(q1, q7, r3, q4), rfl, ⟨a7, s7, rfl, by omega, by omega⟩⟩
      · refine r_eql m.sX (fun h3 => ?_) (fun h3 => ?_) <;> conv => cbv
        · refine r_mcall m.sX (cAmong_ok code a5 s5 ([0, 160, 161, 600, -9223372036854775808]) (by simp) h (by omega) (by omega)) ?_
          rintro _ _ ⟨q8, rfl, ⟨a8, s8, rfl, ea8, fa8⟩, bq8⟩
          conv => cbv
          exact hQ (.agg (cCutIn (q1, r1, q8, q4))) (cCur code a8 s8) ⟨(q1, r1, q8, q4), rfl, ⟨a8, s8, rfl, by omega, by omega⟩⟩
        · refine r_eql m.sX (fun h4 => ?_) (fun h4 => ?_) <;> conv => cbv
          · refine r_mcall m.sX (cAmong_ok code a5 s5 ([-1, 2]) (by simp) h (by omega) (by omega)) ?_
            rintro _ _ ⟨q9, rfl, ⟨a9, s9, rfl, ea9, fa9⟩, bq9⟩
            conv => cbv
            exact hQ (.agg (cCutIn (q1, r1, r3, q9))) (cCur code a9 s9) ⟨(q1, r1, r3, q9), rfl, ⟨a9, s9, rfl, by omega, by omega⟩⟩
          · exact hQ (.agg (cCutIn (q1, r1, r3, q4))) (cCur code a5 s5) ⟨(q1, r1, r3, q4), rfl, ⟨a5, s5, rfl, by omega, by omega⟩⟩

theorem cCutIns_ok (code : List Int) (b0 t0 : Int) (h : CurIn code) (h0 : 0 ≤ b0) (hk : b0 ≤ 800000000000000000) : OkM Try.prog 182 (cCur code b0 t0) [] (fun r cs => ∃ (q : Int) (l : List CutIn), r = .tup [.int .i64 q, .fr 167 4 (rows cCutIn l)] ∧ CurTo code b0 200 cs ∧ 39 ≤ q ∧ q ≤ 601 ∧ l.length ≤ 12) :=
  fnM_intro envOk fieldsOk mixed Try.func182 rfl fun κ X Y L Q m hQ => by
    conv => cbv
    refine r_mcall m.sX (cAmong_ok code b0 t0 ([40, 600, 39, 601]) (by simp) h (by omega) (by omega)) ?_
    rintro _ _ ⟨q1, rfl, ⟨a1, s1, rfl, ea1, fa1⟩, bq1⟩
    simp only [List.mem_cons, List.not_mem_nil, or_false] at bq1
    conv => cbv
    refine r_mcall m.sX (cAmong_ok code a1 s1 ([200, 200, 240, 180, q1]) (by simp) h (by omega) (by omega)) ?_
    rintro _ _ ⟨q2, rfl, ⟨a2, s2, rfl, ea2, fa2⟩, bq2⟩
    simp only [List.mem_cons, List.not_mem_nil, or_false] at bq2
    have hq2 : 39 ≤ q2 ∧ q2 ≤ 601 := by omega
    clear bq1 bq2
    conv => cbv
    refine r_mcall m.sX (cPick_ok code a2 s2 5 h (by omega) (by omega)) ?_
    rintro _ _ ⟨q3, rfl, ⟨a3, s3, rfl, ea3, fa3⟩, bq3, cq3, dq3⟩
    have cq3 := cq3 (by omega)
    conv => cbv
    refine r_loop (α := Int × Int × List CutIn × Int) m 53 [4, 6] [⟨0, 1, 0, 0, 0⟩, ⟨5, 41, 167, 4, 0⟩] (fun a => [(0, .optr 1 0 0 0 0), (4, .int .i64 q2), (5, .osl 41 0), (6, .int .i64 a.2.2.2)]) (fun a => [(1, 0, .box (cCur code a.1 a.2.1)), (41, 0, .row 167 4 (rows cCutIn a.2.2.1))])
      (fun a => 0 ≤ a.2.2.2 ∧ a.2.2.1.length + a.2.2.2 ≤ 4 ∧ b0 ≤ a.1 ∧ a.1 ≤ b0 + 6 + 20 * (4 - a.2.2.2)) (fun a => a.2.2.2.toNat) (a3, s3, [], q3) ?_ ?_ ?_ ?_
    · cbv
    · (try dsimp only); simp only [rows_nil]; cbv
    · exact ⟨by dsimp only; omega, by simp; omega, by dsimp only; omega, by dsimp only; omega⟩
    rintro ⟨a4, s4, ys1, i1⟩ ⟨p1, p2, p3, p4⟩ E hE
    dsimp only at p1 p2 p3 p4
    conv => cbv
    refine r_gtr m.sX (fun h1 => ?_) (fun h1 => ?_) <;> conv => cbv
    · refine r_mcall m.sX (cCutIn_ok code a4 s4 h (by omega) (by omega)) ?_
      rintro _ _ ⟨⟨x1, x2, x3, x4⟩, rfl, ⟨a5, s5, rfl, ea5, fa5⟩⟩
      conv => cbv
      refine .inl (r_callFO (fun l => PV.fr _ _ (rows _ l)) m.sX ((inWith_ok ys1 (x1, x2, x3, x4) (by omega)).ok (flat_fr flat_cCutIn)) fun v1 hv1 => ?_)
      conv => cbv
      have hl1 : v1.length = ys1.length + 1 := by rw [hv1]; simp
      refine .inl (r_callBO m.sX ((inGood_ok q2 v1 (by omega) (by omega) (by omega)).ok flat_bool) (fun h2 => ?_) (fun h2 => ?_)) <;> conv => cbv
      · refine .inl (r_callFO (fun l => PV.fr _ _ (rows _ l)) m.sX ((inWith_ok ys1 (x1, x2, x3, x4) (by omega)).ok (flat_fr flat_cCutIn)) fun v2 hv2 => ?_)
        conv => cbv
        have hl2 : v2.length = ys1.length + 1 := by rw [hv2]; simp
        refine r_subf m.sX (by omega) (by omega) fun r1 hr1 => ?_
        conv => cbv
        refine hE _ (a5, s5, v2, r1) ?_ ?_ ⟨by dsimp only; omega, by dsimp only; omega, by dsimp only; omega, by dsimp only; omega⟩ (by first | omega | (dsimp only; omega))
        · cbv
        · cbv
      · refine r_mcall m.sX (cOne_ok code a5 s5 16 h (by omega) (by omega)) ?_
        rintro _ _ ⟨q5, rfl, ⟨a6, s6, rfl, ea6, fa6⟩⟩
        conv => cbv
        cases q5 <;> conv => cbv
        · refine r_subf m.sX (by omega) (by omega) fun r3 hr3 => ?_
          conv => cbv
          refine hE _ (a6, s6, ys1, r3) ?_ ?_ ⟨by dsimp only; omega, by dsimp only; omega, by dsimp only; omega, by dsimp only; omega⟩ (by first | omega | (dsimp only; omega))
          · cbv
          · cbv
        · refine .inl (r_callFO (fun l => PV.fr _ _ (rows _ l)) m.sX ((inWith_ok ys1 (x1, x2, x3, x4) (by omega)).ok (flat_fr flat_cCutIn)) fun v3 hv3 => ?_)
          conv => cbv
          have hl3 : v3.length = ys1.length + 1 := by rw [hv3]; simp
          refine r_subf m.sX (by omega) (by omega) fun r2 hr2 => ?_
          conv => cbv
          refine hE _ (a6, s6, v3, r2) ?_ ?_ ⟨by dsimp only; omega, by dsimp only; omega, by dsimp only; omega, by dsimp only; omega⟩ (by first | omega | (dsimp only; omega))
          · cbv
          · cbv
    · refine r_mcall m.sX (cOne_ok code a4 s4 16 h (by omega) (by omega)) ?_
      rintro _ _ ⟨q6, rfl, ⟨a7, s7, rfl, ea7, fa7⟩⟩
      conv => cbv
      cases q6 <;> conv => cbv
      · exact hQ (.tup [.int .i64 q2, .fr 167 4 (rows cCutIn ys1)]) (cCur code a7 s7) ⟨q2, ys1, rfl, ⟨a7, s7, rfl, by omega, by omega⟩, hq2.1, hq2.2, by omega⟩
      · refine r_mcall m.sX (cPick_ok code a7 s7 2 h (by omega) (by omega)) ?_
        rintro _ _ ⟨q7, rfl, ⟨a8, s8, rfl, ea8, fa8⟩, bq7, cq7, dq7⟩
        have cq7 := cq7 (by omega)
        conv => cbv
        refine r_addf m.sX (by omega) (by omega) fun r4 hr4 => ?_
        conv => cbv
        refine r_loop (α := List CutIn) m 53 [4, 8] [⟨0, 1, 0, 0, 0⟩, ⟨5, 41, 167, 4, 0⟩] (fun a => [(0, .optr 1 0 0 0 0), (4, .int .i64 q2), (5, .osl 41 0), (8, .int .i64 r4)]) (fun a => [(1, 0, .box (cCur code a8 s8)), (41, 0, .row 167 4 (rows cCutIn a))])
          (fun a => (a.length : Int) ≤ r4) (fun a => (r4 - a.length).toNat) [] ?_ ?_ ?_ ?_
        · cbv
        · (try dsimp only); simp only [rows_nil]; cbv
        · simp; omega
        rintro ys2 p5 E2 hE2
        conv => cbv
        refine r_lenR m.sX fun n1 hn1 mn1 => ?_
        conv => cbv
        refine r_lss m.sX (fun h3 => ?_) (fun h3 => ?_) <;> conv => cbv
        · refine r_lenR m.sX fun n2 hn2 mn2 => ?_
          conv => cbv
          refine r_mulf m.sX (by omega) (by omega) fun r5 hr5 => ?_
          conv => cbv
          refine r_append1 ((r5, 20, 30, 0)) m.sX rfl (by first | omega | (dsimp only; omega)) (by first | omega | (dsimp only; omega)) fun zs1 hzs1 => ?_
          conv => cbv
          have hzl : zs1.length = ys2.length + 1 := by rw [hzs1]; simp
          refine hE2 _ zs1 ?_ ?_ (by omega) (by omega)
          · cbv
          · cbv
        · exact hQ (.tup [.int .i64 q2, .fr 167 4 (rows cCutIn ys2)]) (cCur code a8 s8) ⟨q2, ys2, rfl, ⟨a8, s8, rfl, by omega, by omega⟩, hq2.1, hq2.2, by omega⟩

theorem cLineNumber_ok (code : List Int) (b0 t0 : Int) (h : CurIn code) (h0 : 0 ≤ b0) (hk : b0 ≤ 900000000000000000) : OkM Try.prog 220 (cCur code b0 t0) [] (fun r cs => ∃ q : Int, r = .int .i64 q ∧ CurTo code b0 8 cs) :=
  fnM_intro envOk fieldsOk mixed Try.func220 rfl fun κ X Y L Q m hQ => by
    conv => cbv
    refine r_mcall m.sX (cPick_ok code b0 t0 16 h (by omega) (by omega)) ?_
    rintro _ _ ⟨q1, rfl, ⟨a1, s1, rfl, ea1, fa1⟩, bq1⟩
    conv => cbv
    refine r_mcall m.sX (cPick_ok code a1 s1 16 h (by omega) (by omega)) ?_
    rintro _ _ ⟨q2, rfl, ⟨a2, s2, rfl, ea2, fa2⟩, bq2⟩
    conv => cbv
    refine r_mcall m.sX (cAmong_ok code a2 s2 ([300, 301, -1, 230]) (by simp) h (by omega) (by omega)) ?_
    rintro _ _ ⟨q3, rfl, ⟨a3, s3, rfl, ea3, fa3⟩, bq3⟩
    conv => cbv
    refine r_mcall m.sX (cAmong_ok code a3 s3 ([0, 1, 3, q1, q2, 40, q3]) (by simp) h (by omega) (by omega)) ?_
    rintro _ _ ⟨q4, rfl, ⟨a4, s4, rfl, ea4, fa4⟩, bq4⟩
    conv => cbv
    exact hQ (.int .i64 q4) (cCur code a4 s4) ⟨q4, rfl, ⟨a4, s4, rfl, by omega, by omega⟩⟩

def cutX (r : PV) : Prop := ∃ (me : Int) (l : List CutIn) (x : CutIn), r = .tup [.int .i64 me, .fr 167 4 (rows cCutIn l), .agg (cCutIn x)] ∧ 39 ≤ me ∧ me ≤ 601 ∧ l.length ≤ 12

end Go.Proofs.Ytnanackogloioaa.Ai
