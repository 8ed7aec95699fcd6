/- Contracts of what the law on given jobs draws. -/
import Derived.Test.YtkdaikliahnenabCraftM
import Derived.Test.YtkdaikliahnenabTariff
namespace Go.Proofs.Ytkdaikliahnenab.Ai
open Go Go.Proofs
set_option maxRecDepth 10000
set_option maxHeartbeats 4000000
set_option linter.unusedVariables false
theorem cPeople_ok (code : List Int) (b0 t0 : Int) (l : List Craft) (h : CurIn code) (h0 : 0 ≤ b0) (hk : b0 ≤ 899999999999400000) (hll : l.length ≤ 11) : OkM Try.prog 117 (cCur code b0 t0) [.isl 2 (rows cCraft l)] (fun r cs => ∃ (q : List (List Int)), r = .fr 27 1 (rows (cSl 1 cInt) q) ∧ CurTo code b0 600 cs ∧ ((q.length : Int) ≤ 7)) :=
  fnM_intro envOk fieldsOk mixed Try.func117 rfl fun κ X Y L Q m hQ => by
    conv => cbv
    refine r_mcall m.sX (cPick_ok code b0 t0 5 h (by omega) (by omega)) ?_
    rintro _ _ ⟨n, rfl, ⟨a1, s1, rfl, ea1, fa1⟩, bn, cn, dn⟩
    conv => cbv
    refine r_mcall m.sX (cOne_ok code a1 s1 12 h (by omega) (by omega)) ?_
    rintro _ _ ⟨q1, rfl, ⟨a2, s2, rfl, ea2, fa2⟩⟩
    conv => cbv
    rcases Bool.eq_false_or_eq_true q1 with rfl | rfl <;> conv => cbv
    · refine r_mcall m.sX (cPick_ok code a2 s2 2 h (by omega) (by omega)) ?_
      rintro _ _ ⟨q2, rfl, ⟨a3, s3, rfl, ea3, fa3⟩, bq2, cq2, dq2⟩
      conv => cbv
      refine r_addf m.sX (by omega) (by omega) fun n_2 hn_2 => ?_
      conv => cbv
      refine r_loopF (α := Int × Int × List (List Int)) m 25 [1, 6] [⟨0, 1, 0, 0, 0⟩, ⟨5, 41, 27, 1, 0⟩] (fun σ => [(0, .optr 1 0 0 0 0), (1, .isl 2 (rows cCraft l)), (5, .osl 41 0), (6, .int .i64 n_2)]) (fun σ => [(1, 0, .box (cCur code σ.1 σ.2.1)), (41, 0, .row 27 1 (rows (cSl 1 cInt) σ.2.2))])
        (fun σ => ((σ.2.2.length : Int) ≤ n_2) ∧ (a3 ≤ σ.1 ∧ σ.1 ≤ a3 + 60 * (σ.2.2.length : Int))) (fun σ => (n_2 - (σ.2.2.length : Int)).toNat) (a3, s3, []) ?_ ?_ ?_ ?_
      · cbv
      · (try dsimp only); simp only [rows_cons, rows_nil]; cbv
      · exact ⟨(by (try dsimp only); first | omega | (simp only [List.length_nil]; omega)), (by (try dsimp only); first | omega | (simp only [List.length_nil]; omega))⟩
      rintro ⟨a4, s4, out⟩ ⟨ll1, cl1⟩ E hE F hF
      dsimp only at ll1 cl1
      conv => cbv
      refine r_lenR m.sX fun n1 hn1 mn1 => ?_
      conv => cbv
      refine r_lss m.sX (fun h1 => ?_) (fun h1 => ?_) <;> conv => cbv
      · refine r_mcall m.sX (cLearnt_ok code a4 s4 l h (by omega) (by omega) (by first | rfl | assumption | omega | (simp only [List.length_append, List.length_cons, List.length_nil] at *; omega))) ?_
        rintro _ _ ⟨q3, rfl, ⟨a5, s5, rfl, ea5, fa5⟩, bq3_1⟩
        conv => cbv
        refine r_append1 (q3) m.sX rfl (by first | omega | (dsimp only; omega)) (by first | omega | (dsimp only; omega)) fun out_2 hout_2 => ?_
        conv => cbv
        have lout_2 : (out_2.length : Int) = out.length + 1 := by rw [hout_2]; first | done | (simp; done) | (simp; omega)
        refine hE _ (a5, s5, out_2) ?_ ?_ ⟨(by (try dsimp only); first | omega | (simp only [List.length_nil]; omega)), (by (try dsimp only); first | omega | (simp only [List.length_nil]; omega))⟩ (by first | omega | (dsimp only; omega))
        · cbv
        · cbv
      · refine hF _ _ ?_
        conv => cbv
        exact hQ (.fr 27 1 (rows (cSl 1 cInt) out)) (cCur code a4 s4) ⟨out, rfl, ⟨a4, s4, rfl, by omega, by omega⟩, (by first | omega | assumption | (simp; done) | (simp [*]; done) | (simp at *; omega))⟩   -- leaf 1
    · refine r_loopF (α := Int × Int × List (List Int)) m 25 [1, 6] [⟨0, 1, 0, 0, 0⟩, ⟨5, 41, 27, 1, 0⟩] (fun σ => [(0, .optr 1 0 0 0 0), (1, .isl 2 (rows cCraft l)), (5, .osl 41 0), (6, .int .i64 n)]) (fun σ => [(1, 0, .box (cCur code σ.1 σ.2.1)), (41, 0, .row 27 1 (rows (cSl 1 cInt) σ.2.2))])
        (fun σ => ((σ.2.2.length : Int) ≤ n) ∧ (a2 ≤ σ.1 ∧ σ.1 ≤ a2 + 60 * (σ.2.2.length : Int))) (fun σ => (n - (σ.2.2.length : Int)).toNat) (a2, s2, []) ?_ ?_ ?_ ?_
      · cbv
      · (try dsimp only); simp only [rows_cons, rows_nil]; cbv
      · exact ⟨(by (try dsimp only); first | omega | (simp only [List.length_nil]; omega)), (by (try dsimp only); first | omega | (simp only [List.length_nil]; omega))⟩
      rintro ⟨a6, s6, out_3⟩ ⟨ll2, cl2⟩ E hE F hF
      dsimp only at ll2 cl2
      conv => cbv
      refine r_lenR m.sX fun n2 hn2 mn2 => ?_
      conv => cbv
      refine r_lss m.sX (fun h2 => ?_) (fun h2 => ?_) <;> conv => cbv
      · refine r_mcall m.sX (cLearnt_ok code a6 s6 l h (by omega) (by omega) (by first | rfl | assumption | omega | (simp only [List.length_append, List.length_cons, List.length_nil] at *; omega))) ?_
        rintro _ _ ⟨q4, rfl, ⟨a7, s7, rfl, ea7, fa7⟩, bq4_1⟩
        conv => cbv
        refine r_append1 (q4) m.sX rfl (by first | omega | (dsimp only; omega)) (by first | omega | (dsimp only; omega)) fun out_4 hout_4 => ?_
        conv => cbv
        have lout_4 : (out_4.length : Int) = out_3.length + 1 := by rw [hout_4]; first | done | (simp; done) | (simp; omega)
        refine hE _ (a7, s7, out_4) ?_ ?_ ⟨(by (try dsimp only); first | omega | (simp only [List.length_nil]; omega)), (by (try dsimp only); first | omega | (simp only [List.length_nil]; omega))⟩ (by first | omega | (dsimp only; omega))
        · cbv
        · cbv
      · refine hF _ _ ?_
        conv => cbv
        exact hQ (.fr 27 1 (rows (cSl 1 cInt) out_3)) (cCur code a6 s6) ⟨out_3, rfl, ⟨a6, s6, rfl, by omega, by omega⟩, (by first | omega | assumption | (simp; done) | (simp [*]; done) | (simp at *; omega))⟩   -- leaf 2

theorem cPeople_ex (code : List Int) (b0 t0 : Int) : ∃ r cs, (∃ (q : List (List Int)), r = PV.fr 27 1 (rows (cSl 1 cInt) q) ∧ CurTo code b0 600 cs ∧ ((q.length : Int) ≤ 7)) :=
  ⟨_, _, [], rfl, ⟨b0, t0, rfl, by omega, by omega⟩, (by first | omega | simp)⟩

theorem drawGiveJobs_ok (code : List Int) (h : CurIn code) : OkA Try.prog 51 [.isl 1 (rows cU8 code)] (fun r => ∃ (q1 : List Craft) (q2 : List (List Int)) (q3 : List Int), r = .tup [.isl 2 (rows cCraft q1), .fr 27 1 (rows (cSl 1 cInt) q2), .fr 3 1 (rows cInt q3)] ∧ ((q1.length : Int) ≤ 11) ∧ ((q2.length : Int) ≤ 7) ∧ ((q3.length : Int) ≤ 7)) :=
  fn_intro envOk fieldsOk mixed Try.func51 rfl fun κ X Y L Q m hQ => by
    conv => cbv
    refine r_mcall m.sX (cCrafts_ok code 0 0 h (by omega) (by omega)) ?_
    rintro _ _ ⟨l, rfl, ⟨a1, s1, rfl, ea1, fa1⟩, bl_1⟩
    conv => cbv
    refine r_mcall m.sX (cPeople_ok code a1 s1 l h (by omega) (by omega) (by first | rfl | assumption | omega | (simp only [List.length_append, List.length_cons, List.length_nil] at *; omega))) ?_
    rintro _ _ ⟨people, rfl, ⟨a2, s2, rfl, ea2, fa2⟩, bpeople_1⟩
    conv => cbv
    refine r_mcall m.sX (cPick_ok code a2 s2 5 h (by omega) (by omega)) ?_
    rintro _ _ ⟨n, rfl, ⟨a3, s3, rfl, ea3, fa3⟩, bn, cn, dn⟩
    conv => cbv
    refine r_mcall m.sX (cOne_ok code a3 s3 12 h (by omega) (by omega)) ?_
    rintro _ _ ⟨q1, rfl, ⟨a4, s4, rfl, ea4, fa4⟩⟩
    conv => cbv
    rcases Bool.eq_false_or_eq_true q1 with rfl | rfl <;> conv => cbv
    · refine r_mcall m.sX (cPick_ok code a4 s4 2 h (by omega) (by omega)) ?_
      rintro _ _ ⟨q2, rfl, ⟨a5, s5, rfl, ea5, fa5⟩, bq2, cq2, dq2⟩
      conv => cbv
      refine r_addf m.sX (by omega) (by omega) fun n_2 hn_2 => ?_
      conv => cbv
      refine r_loopF (α := Int × Int × List Int) m 55 [6, 9] [⟨5, 41, 0, 0, 0⟩, ⟨7, 57, 27, 1, 0⟩, ⟨8, 65, 3, 1, 0⟩] (fun σ => [(5, .optr 41 0 3 0 0), (6, .isl 2 (rows cCraft l)), (7, .osl 57 0), (8, .osl 65 0), (9, .int .i64 n_2)]) (fun σ => [(41, 0, .box (cCur code σ.1 σ.2.1)), (57, 0, .row 27 1 (rows (cSl 1 cInt) people)), (65, 0, .row 3 1 (rows cInt σ.2.2))])
        (fun σ => ((σ.2.2.length : Int) ≤ n_2) ∧ (a5 ≤ σ.1 ∧ σ.1 ≤ a5 + 2 * (σ.2.2.length : Int))) (fun σ => (n_2 - (σ.2.2.length : Int)).toNat) (a5, s5, []) ?_ ?_ ?_ ?_
      · cbv
      · (try dsimp only); simp only [rows_cons, rows_nil]; cbv
      · exact ⟨(by (try dsimp only); first | omega | (simp only [List.length_nil]; omega)), (by (try dsimp only); first | omega | (simp only [List.length_nil]; omega))⟩
      rintro ⟨a6, s6, jobs⟩ ⟨ll1, cl1⟩ E hE F hF
      dsimp only at ll1 cl1
      conv => cbv
      refine r_lenR m.sX fun n1 hn1 mn1 => ?_
      conv => cbv
      refine r_lss m.sX (fun h1 => ?_) (fun h1 => ?_) <;> conv => cbv
      · refine r_lenR m.sX fun n2 hn2 mn2 => ?_
        conv => cbv
        refine r_callF (PV.int .i64) m.sX (l1Most_ok 1 n2) fun r1 hr1 => ?_
        conv => cbv
        refine r_mcall m.sX (cPick_ok code a6 s6 r1 h (by omega) (by omega)) ?_
        rintro _ _ ⟨q3, rfl, ⟨a7, s7, rfl, ea7, fa7⟩, bq3, cq3, dq3⟩
        conv => cbv
        refine r_append1 (q3) m.sX rfl (by first | omega | (dsimp only; omega)) (by first | omega | (dsimp only; omega)) fun jobs_2 hjobs_2 => ?_
        conv => cbv
        have ljobs_2 : (jobs_2.length : Int) = jobs.length + 1 := by rw [hjobs_2]; first | done | (simp; done) | (simp; omega)
        refine hE _ (a7, s7, jobs_2) ?_ ?_ ⟨(by (try dsimp only); first | omega | (simp only [List.length_nil]; omega)), (by (try dsimp only); first | omega | (simp only [List.length_nil]; omega))⟩ (by first | omega | (dsimp only; omega))
        · cbv
        · cbv
      · refine hF _ _ ?_
        conv => cbv
        refine r_gtr m.sX (fun h2 => ?_) (fun h2 => ?_) <;> conv => cbv
        · refine r_mcall m.sX (cOne_ok code a6 s6 16 h (by omega) (by omega)) ?_
          rintro _ _ ⟨q4, rfl, ⟨a8, s8, rfl, ea8, fa8⟩⟩
          conv => cbv
          rcases Bool.eq_false_or_eq_true q4 with rfl | rfl <;> conv => cbv
          · refine r_mcall m.sX (cPick_ok code a8 s8 n_2 h (by omega) (by omega)) ?_
            rintro _ _ ⟨q5, rfl, ⟨a9, s9, rfl, ea9, fa9⟩, bq5, cq5, dq5⟩
            conv => cbv
            refine r_lenR m.sX fun n3 hn3 mn3 => ?_
            conv => cbv
            refine r_mcall m.sX (cCraftOf_ok code a9 s9 n3 h (by omega) (by omega) (by first | rfl | assumption | omega | (simp only [List.length_append, List.length_cons, List.length_nil] at *; omega))) ?_
            rintro _ _ ⟨q6, rfl, ⟨a10, s10, rfl, ea10, fa10⟩⟩
            conv => cbv
            refine r_oindex m.sX (by omega) (by omega) ?_
            conv => cbv
            obtain ⟨y1, hy1⟩ := get_ex (xs := jobs) (i := Int.toNat q5) (by omega)
            refine r_ostore (l := Int.toNat q5) q6 m.sX hy1 (Nat.le_of_ble_eq_true rfl) rfl fun jobs_3 hjobs_3 => ?_   -- jobs_3 = jobs.set q5 q6
            have ljobs_3 : (jobs_3.length : Int) = jobs.length := by rw [hjobs_3]; first | done | (simp; done) | (simp; omega)
            conv => cbv
            exact hQ (.tup [.isl 2 (rows cCraft l), .fr 27 1 (rows (cSl 1 cInt) people), .fr 3 1 (rows cInt jobs_3)]) ⟨l, people, jobs_3, rfl, (by first | omega | assumption | (simp; done) | (simp [*]; done) | (simp at *; omega)), (by first | omega | assumption | (simp; done) | (simp [*]; done) | (simp at *; omega)), (by first | omega | assumption | (simp; done) | (simp [*]; done) | (simp at *; omega))⟩   -- leaf 1
          · exact hQ (.tup [.isl 2 (rows cCraft l), .fr 27 1 (rows (cSl 1 cInt) people), .fr 3 1 (rows cInt jobs)]) ⟨l, people, jobs, rfl, (by first | omega | assumption | (simp; done) | (simp [*]; done) | (simp at *; omega)), (by first | omega | assumption | (simp; done) | (simp [*]; done) | (simp at *; omega)), (by first | omega | assumption | (simp; done) | (simp [*]; done) | (simp at *; omega))⟩   -- leaf 2
        · exact hQ (.tup [.isl 2 (rows cCraft l), .fr 27 1 (rows (cSl 1 cInt) people), .fr 3 1 (rows cInt jobs)]) ⟨l, people, jobs, rfl, (by first | omega | assumption | (simp; done) | (simp [*]; done) | (simp at *; omega)), (by first | omega | assumption | (simp; done) | (simp [*]; done) | (simp at *; omega)), (by first | omega | assumption | (simp; done) | (simp [*]; done) | (simp at *; omega))⟩   -- leaf 3
    · refine r_loopF (α := Int × Int × List Int) m 55 [6, 9] [⟨5, 41, 0, 0, 0⟩, ⟨7, 57, 27, 1, 0⟩, ⟨8, 65, 3, 1, 0⟩] (fun σ => [(5, .optr 41 0 3 0 0), (6, .isl 2 (rows cCraft l)), (7, .osl 57 0), (8, .osl 65 0), (9, .int .i64 n)]) (fun σ => [(41, 0, .box (cCur code σ.1 σ.2.1)), (57, 0, .row 27 1 (rows (cSl 1 cInt) people)), (65, 0, .row 3 1 (rows cInt σ.2.2))])
        (fun σ => ((σ.2.2.length : Int) ≤ n) ∧ (a4 ≤ σ.1 ∧ σ.1 ≤ a4 + 2 * (σ.2.2.length : Int))) (fun σ => (n - (σ.2.2.length : Int)).toNat) (a4, s4, []) ?_ ?_ ?_ ?_
      · cbv
      · (try dsimp only); simp only [rows_cons, rows_nil]; cbv
      · exact ⟨(by (try dsimp only); first | omega | (simp only [List.length_nil]; omega)), (by (try dsimp only); first | omega | (simp only [List.length_nil]; omega))⟩
      rintro ⟨a11, s11, jobs_4⟩ ⟨ll2, cl2⟩ E hE F hF
      dsimp only at ll2 cl2
      conv => cbv
      refine r_lenR m.sX fun n4 hn4 mn4 => ?_
      conv => cbv
      refine r_lss m.sX (fun h3 => ?_) (fun h3 => ?_) <;> conv => cbv
      · refine r_lenR m.sX fun n5 hn5 mn5 => ?_
        conv => cbv
        refine r_callF (PV.int .i64) m.sX (l1Most_ok 1 n5) fun r2 hr2 => ?_
        conv => cbv
        refine r_mcall m.sX (cPick_ok code a11 s11 r2 h (by omega) (by omega)) ?_
        rintro _ _ ⟨q7, rfl, ⟨a12, s12, rfl, ea12, fa12⟩, bq7, cq7, dq7⟩
        conv => cbv
        refine r_append1 (q7) m.sX rfl (by first | omega | (dsimp only; omega)) (by first | omega | (dsimp only; omega)) fun jobs_5 hjobs_5 => ?_
        conv => cbv
        have ljobs_5 : (jobs_5.length : Int) = jobs_4.length + 1 := by rw [hjobs_5]; first | done | (simp; done) | (simp; omega)
        refine hE _ (a12, s12, jobs_5) ?_ ?_ ⟨(by (try dsimp only); first | omega | (simp only [List.length_nil]; omega)), (by (try dsimp only); first | omega | (simp only [List.length_nil]; omega))⟩ (by first | omega | (dsimp only; omega))
        · cbv
        · cbv
      · refine hF _ _ ?_
        conv => cbv
        refine r_gtr m.sX (fun h4 => ?_) (fun h4 => ?_) <;> conv => cbv
        · refine r_mcall m.sX (cOne_ok code a11 s11 16 h (by omega) (by omega)) ?_
          rintro _ _ ⟨q8, rfl, ⟨a13, s13, rfl, ea13, fa13⟩⟩
          conv => cbv
          rcases Bool.eq_false_or_eq_true q8 with rfl | rfl <;> conv => cbv
          · refine r_mcall m.sX (cPick_ok code a13 s13 n h (by omega) (by omega)) ?_
            rintro _ _ ⟨q9, rfl, ⟨a14, s14, rfl, ea14, fa14⟩, bq9, cq9, dq9⟩
            conv => cbv
            refine r_lenR m.sX fun n6 hn6 mn6 => ?_
            conv => cbv
            refine r_mcall m.sX (cCraftOf_ok code a14 s14 n6 h (by omega) (by omega) (by first | rfl | assumption | omega | (simp only [List.length_append, List.length_cons, List.length_nil] at *; omega))) ?_
            rintro _ _ ⟨q10, rfl, ⟨a15, s15, rfl, ea15, fa15⟩⟩
            conv => cbv
            refine r_oindex m.sX (by omega) (by omega) ?_
            conv => cbv
            obtain ⟨y2, hy2⟩ := get_ex (xs := jobs_4) (i := Int.toNat q9) (by omega)
            refine r_ostore (l := Int.toNat q9) q10 m.sX hy2 (Nat.le_of_ble_eq_true rfl) rfl fun jobs_6 hjobs_6 => ?_   -- jobs_6 = jobs_4.set q9 q10
            have ljobs_6 : (jobs_6.length : Int) = jobs_4.length := by rw [hjobs_6]; first | done | (simp; done) | (simp; omega)
            conv => cbv
            exact hQ (.tup [.isl 2 (rows cCraft l), .fr 27 1 (rows (cSl 1 cInt) people), .fr 3 1 (rows cInt jobs_6)]) ⟨l, people, jobs_6, rfl, (by first | omega | assumption | (simp; done) | (simp [*]; done) | (simp at *; omega)), (by first | omega | assumption | (simp; done) | (simp [*]; done) | (simp at *; omega)), (by first | omega | assumption | (simp; done) | (simp [*]; done) | (simp at *; omega))⟩   -- leaf 4
          · exact hQ (.tup [.isl 2 (rows cCraft l), .fr 27 1 (rows (cSl 1 cInt) people), .fr 3 1 (rows cInt jobs_4)]) ⟨l, people, jobs_4, rfl, (by first | omega | assumption | (simp; done) | (simp [*]; done) | (simp at *; omega)), (by first | omega | assumption | (simp; done) | (simp [*]; done) | (simp at *; omega)), (by first | omega | assumption | (simp; done) | (simp [*]; done) | (simp at *; omega))⟩   -- leaf 5
        · exact hQ (.tup [.isl 2 (rows cCraft l), .fr 27 1 (rows (cSl 1 cInt) people), .fr 3 1 (rows cInt jobs_4)]) ⟨l, people, jobs_4, rfl, (by first | omega | assumption | (simp; done) | (simp [*]; done) | (simp at *; omega)), (by first | omega | assumption | (simp; done) | (simp [*]; done) | (simp at *; omega)), (by first | omega | assumption | (simp; done) | (simp [*]; done) | (simp at *; omega))⟩   -- leaf 6

theorem drawRarestCraft_ok (code : List Int) (h : CurIn code) : OkA Try.prog 56 [.isl 1 (rows cU8 code)] (fun r => ∃ (q1 : List Craft) (q2 : List (List Int)), r = .tup [.isl 2 (rows cCraft q1), .fr 27 1 (rows (cSl 1 cInt) q2)] ∧ ((q1.length : Int) ≤ 11) ∧ ((q2.length : Int) ≤ 7)) :=
  fn_intro envOk fieldsOk mixed Try.func56 rfl fun κ X Y L Q m hQ => by
    conv => cbv
    refine r_mcall m.sX (cCrafts_ok code 0 0 h (by omega) (by omega)) ?_
    rintro _ _ ⟨l, rfl, ⟨a1, s1, rfl, ea1, fa1⟩, bl_1⟩
    conv => cbv
    refine r_mcall m.sX (cPeople_ok code a1 s1 l h (by omega) (by omega) (by first | rfl | assumption | omega | (simp only [List.length_append, List.length_cons, List.length_nil] at *; omega))) ?_
    rintro _ _ ⟨q1, rfl, ⟨a2, s2, rfl, ea2, fa2⟩, bq1_1⟩
    conv => cbv
    exact hQ (.tup [.isl 2 (rows cCraft l), .fr 27 1 (rows (cSl 1 cInt) q1)]) ⟨l, q1, rfl, (by first | omega | assumption | (simp; done) | (simp [*]; done) | (simp at *; omega)), (by first | omega | assumption | (simp; done) | (simp [*]; done) | (simp at *; omega))⟩   -- leaf 1

theorem drawWhoMay_ok (code : List Int) (h : CurIn code) : OkA Try.prog 59 [.isl 1 (rows cU8 code)] (fun r => ∃ (q1 : List Craft) (q2 : List (List Int)) (q3 : Int), r = .tup [.isl 2 (rows cCraft q1), .fr 27 1 (rows (cSl 1 cInt) q2), .int .i64 q3] ∧ ((q1.length : Int) ≤ 11) ∧ ((q2.length : Int) ≤ 7)) :=
  fn_intro envOk fieldsOk mixed Try.func59 rfl fun κ X Y L Q m hQ => by
    conv => cbv
    refine r_mcall m.sX (cCrafts_ok code 0 0 h (by omega) (by omega)) ?_
    rintro _ _ ⟨l, rfl, ⟨a1, s1, rfl, ea1, fa1⟩, bl_1⟩
    conv => cbv
    refine r_mcall m.sX (cPeople_ok code a1 s1 l h (by omega) (by omega) (by first | rfl | assumption | omega | (simp only [List.length_append, List.length_cons, List.length_nil] at *; omega))) ?_
    rintro _ _ ⟨q1, rfl, ⟨a2, s2, rfl, ea2, fa2⟩, bq1_1⟩
    conv => cbv
    refine r_lenR m.sX fun n1 hn1 mn1 => ?_
    conv => cbv
    refine r_mcall m.sX (cCraftOf_ok code a2 s2 n1 h (by omega) (by omega) (by first | rfl | assumption | omega | (simp only [List.length_append, List.length_cons, List.length_nil] at *; omega))) ?_
    rintro _ _ ⟨q2, rfl, ⟨a3, s3, rfl, ea3, fa3⟩⟩
    conv => cbv
    exact hQ (.tup [.isl 2 (rows cCraft l), .fr 27 1 (rows (cSl 1 cInt) q1), .int .i64 q2]) ⟨l, q1, q2, rfl, (by first | omega | assumption | (simp; done) | (simp [*]; done) | (simp at *; omega)), (by first | omega | assumption | (simp; done) | (simp [*]; done) | (simp at *; omega))⟩   -- leaf 1

theorem drawWageOf_ok (code : List Int) (h : CurIn code) : OkA Try.prog 60 [.isl 1 (rows cU8 code)] (fun r => ∃ (q1 : List Craft) (q2 : List Int) (q3 : Int) (q4 : Int), r = .tup [.isl 2 (rows cCraft q1), .isl 1 (rows cInt q2), .int .i64 q3, .int .i64 q4] ∧ ((q1.length : Int) ≤ 11) ∧ ((q2.length : Int) ≤ 20)) :=
  fn_intro envOk fieldsOk mixed Try.func60 rfl fun κ X Y L Q m hQ => by
    conv => cbv
    refine r_mcall m.sX (cCrafts_ok code 0 0 h (by omega) (by omega)) ?_
    rintro _ _ ⟨l, rfl, ⟨a1, s1, rfl, ea1, fa1⟩, bl_1⟩
    conv => cbv
    refine r_mcall m.sX (cLearnt_ok code a1 s1 l h (by omega) (by omega) (by first | rfl | assumption | omega | (simp only [List.length_append, List.length_cons, List.length_nil] at *; omega))) ?_
    rintro _ _ ⟨q1, rfl, ⟨a2, s2, rfl, ea2, fa2⟩, bq1_1⟩
    conv => cbv
    refine r_mcall m.sX (cAmong_ok code a2 s2 ([100000, 100001, -1]) (by simp) h (by omega) (by omega)) ?_
    rintro _ _ ⟨q2, rfl, ⟨a3, s3, rfl, ea3, fa3⟩, bq2⟩
    simp only [List.mem_cons, List.not_mem_nil, or_false] at bq2
    conv => cbv
    refine r_mcall m.sX (cAmong_ok code a3 s3 ([0, 500, 1000, q2]) (by simp) h (by omega) (by omega)) ?_
    rintro _ _ ⟨q3, rfl, ⟨a4, s4, rfl, ea4, fa4⟩, bq3⟩
    simp only [List.mem_cons, List.not_mem_nil, or_false] at bq3
    conv => cbv
    refine r_mcall m.sX (cAmong_ok code a4 s4 ([10000, 10001, -1]) (by simp) h (by omega) (by omega)) ?_
    rintro _ _ ⟨q4, rfl, ⟨a5, s5, rfl, ea5, fa5⟩, bq4⟩
    simp only [List.mem_cons, List.not_mem_nil, or_false] at bq4
    conv => cbv
    refine r_mcall m.sX (cAmong_ok code a5 s5 ([0, 50, 100, q4]) (by simp) h (by omega) (by omega)) ?_
    rintro _ _ ⟨q5, rfl, ⟨a6, s6, rfl, ea6, fa6⟩, bq5⟩
    simp only [List.mem_cons, List.not_mem_nil, or_false] at bq5
    conv => cbv
    exact hQ (.tup [.isl 2 (rows cCraft l), .isl 1 (rows cInt q1), .int .i64 q3, .int .i64 q5]) ⟨l, q1, q3, q5, rfl, (by first | omega | assumption | (simp; done) | (simp [*]; done) | (simp at *; omega)), (by first | omega | assumption | (simp; done) | (simp [*]; done) | (simp at *; omega))⟩   -- leaf 1

end Go.Proofs.Ytkdaikliahnenab.Ai
