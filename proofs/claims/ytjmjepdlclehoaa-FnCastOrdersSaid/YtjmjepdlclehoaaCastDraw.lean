/- Contracts of what the laws on castings draw. -/
import Derived.Test.YtjmjepdlclehoaaCast3
import Derived.Test.YtjmjepdlclehoaaAiIceM
namespace Go.Proofs.Ytjmjepdlclehoaa.Ai
open Go Go.Proofs
set_option linter.unusedSimpArgs false
set_option maxRecDepth 10000
set_option maxHeartbeats 4000000
set_option linter.unusedVariables false
theorem OkM.iceR {P : Program} {f : FuncId} {cs args : List PV} {Q : PV → List PV → Prop} (h : OkM P f cs args (fun r cs' => Q (Ai.ice r) cs')) : OkM P f cs args Q :=
  h.iceE.mono fun r cs' ⟨r0, q, e⟩ => by rw [e]; exact q
theorem timeF_bound {m : CMach} {l : List Casting} {o : List Int} (h : askB m l o = true) : 0 ≤ timeF m l o ∧ timeF m l o ≤ 56000000 := by
  rw [timeF, lastG_last]
  cases e : (endsG m l m.1 0 o).getLast? with
  | none => simp
  | some x => exact (ends_fits h).2.1 x (List.mem_of_getLast? e)
theorem cMachine_ok (code : List Int) (b0 t0 : Int)  (h : CurIn code) (h0 : 0 ≤ b0) (hk : b0 ≤ 899999999999960000)  : OkM Try.prog 64 (cCur code b0 t0) [] (fun r cs => ∃ (q : CMach), r = .agg (cMachine q) ∧ CurTo code b0 40 cs) :=
  fnM_intro envOk fieldsOk mixed Try.func64 rfl fun κ X Y L Q m hQ => by
    conv => cbv
    refine r_mcall m.sX (cAmong_ok code b0 t0 ([8, 10, 12]) (by simp) h (by omega) (by omega)) ?_
    rintro _ _ ⟨q1, rfl, ⟨a1, s1, rfl, ea1, fa1⟩, bq1⟩
    simp only [List.mem_cons, List.not_mem_nil, or_false] at bq1
    conv => cbv
    refine r_mcall m.sX (cAmong_ok code a1 s1 ([1000, 3000, 2500, 60]) (by simp) h (by omega) (by omega)) ?_
    rintro _ _ ⟨q2, rfl, ⟨a2, s2, rfl, ea2, fa2⟩, bq2⟩
    simp only [List.mem_cons, List.not_mem_nil, or_false] at bq2
    conv => cbv
    refine r_mcall m.sX (cAmong_ok code a2 s2 ([0, 10, 20, 45]) (by simp) h (by omega) (by omega)) ?_
    rintro _ _ ⟨q3, rfl, ⟨a3, s3, rfl, ea3, fa3⟩, bq3⟩
    simp only [List.mem_cons, List.not_mem_nil, or_false] at bq3
    conv => cbv
    refine r_mcall m.sX (cPick_ok code a3 s3 24 h (by omega) (by omega)) ?_
    rintro _ _ ⟨q4, rfl, ⟨a4, s4, rfl, ea4, fa4⟩, bq4, cq4, dq4⟩
    conv => cbv
    refine r_eql m.sX (fun h1 => ?_) (fun h1 => ?_) <;> conv => cbv
    · refine r_mcall m.sX (cAmong_ok code a4 s4 ([0, 1, 72, 73]) (by simp) h (by omega) (by omega)) ?_
      rintro _ _ ⟨q5, rfl, ⟨a5, s5, rfl, ea5, fa5⟩, bq5⟩
      simp only [List.mem_cons, List.not_mem_nil, or_false] at bq5
      conv => cbv
      exact hQ (.agg [.int .i64 q5, .int .i64 q2, .int .i64 q3]) (cCur code a5 s5) ⟨(q5, q2, q3), rfl, ⟨a5, s5, rfl, by omega, by omega⟩⟩   -- leaf 1
    · refine r_eql m.sX (fun h2 => ?_) (fun h2 => ?_) <;> conv => cbv
      · refine r_mcall m.sX (cAmong_ok code a4 s4 ([0, 1, 10000, 10001]) (by simp) h (by omega) (by omega)) ?_
        rintro _ _ ⟨q6, rfl, ⟨a6, s6, rfl, ea6, fa6⟩, bq6⟩
        simp only [List.mem_cons, List.not_mem_nil, or_false] at bq6
        conv => cbv
        exact hQ (.agg [.int .i64 q1, .int .i64 q6, .int .i64 q3]) (cCur code a6 s6) ⟨(q1, q6, q3), rfl, ⟨a6, s6, rfl, by omega, by omega⟩⟩   -- leaf 2
      · refine r_eql m.sX (fun h3 => ?_) (fun h3 => ?_) <;> conv => cbv
        · refine r_mcall m.sX (cAmong_ok code a4 s4 ([-1, 600, 601]) (by simp) h (by omega) (by omega)) ?_
          rintro _ _ ⟨q7, rfl, ⟨a7, s7, rfl, ea7, fa7⟩, bq7⟩
          simp only [List.mem_cons, List.not_mem_nil, or_false] at bq7
          conv => cbv
          exact hQ (.agg [.int .i64 q1, .int .i64 q2, .int .i64 q7]) (cCur code a7 s7) ⟨(q1, q2, q7), rfl, ⟨a7, s7, rfl, by omega, by omega⟩⟩   -- leaf 3
        · exact hQ (.agg [.int .i64 q1, .int .i64 q2, .int .i64 q3]) (cCur code a4 s4) ⟨(q1, q2, q3), rfl, ⟨a4, s4, rfl, by omega, by omega⟩⟩   -- leaf 4

theorem cMachine_ex (code : List Int) (b0 t0 : Int) : ∃ r cs, (∃ (q : CMach), r = PV.agg (cMachine q) ∧ CurTo code b0 40 cs) :=
  ⟨_, _, (0, 0, 0), rfl, ⟨b0, t0, rfl, by omega, by omega⟩⟩

theorem cCasting_ok (code : List Int) (b0 t0 : Int)  (h : CurIn code) (h0 : 0 ≤ b0) (hk : b0 ≤ 899999999999970000)  : OkM Try.prog 80 (cCur code b0 t0) [] (fun r cs => ∃ (q : Casting), r = .agg (cCasting q) ∧ CurTo code b0 30 cs) :=
  fnM_intro envOk fieldsOk mixed Try.func80 rfl fun κ X Y L Q m hQ => by
    conv => cbv
    refine r_mcall m.sX (cAmong_ok code b0 t0 ([8, 10, 12]) (by simp) h (by omega) (by omega)) ?_
    rintro _ _ ⟨q1, rfl, ⟨a1, s1, rfl, ea1, fa1⟩, bq1⟩
    simp only [List.mem_cons, List.not_mem_nil, or_false] at bq1
    conv => cbv
    refine r_mcall m.sX (cPick_ok code a1 s1 900 h (by omega) (by omega)) ?_
    rintro _ _ ⟨q2, rfl, ⟨a2, s2, rfl, ea2, fa2⟩, bq2, cq2, dq2⟩
    conv => cbv
    refine r_addf m.sX (by omega) (by omega) fun r1 hr1 => ?_
    conv => cbv
    refine r_mcall m.sX (cAmong_ok code a2 s2 ([100, 500, 1000, 2500, r1]) (by simp) h (by omega) (by omega)) ?_
    rintro _ _ ⟨q3, rfl, ⟨a3, s3, rfl, ea3, fa3⟩, bq3⟩
    simp only [List.mem_cons, List.not_mem_nil, or_false] at bq3
    conv => cbv
    refine r_mcall m.sX (cPick_ok code a3 s3 30 h (by omega) (by omega)) ?_
    rintro _ _ ⟨q4, rfl, ⟨a4, s4, rfl, ea4, fa4⟩, bq4, cq4, dq4⟩
    conv => cbv
    refine r_eql m.sX (fun h1 => ?_) (fun h1 => ?_) <;> conv => cbv
    · refine r_mcall m.sX (cAmong_ok code a4 s4 ([0, 1, 72, 73]) (by simp) h (by omega) (by omega)) ?_
      rintro _ _ ⟨q5, rfl, ⟨a5, s5, rfl, ea5, fa5⟩, bq5⟩
      simp only [List.mem_cons, List.not_mem_nil, or_false] at bq5
      conv => cbv
      exact hQ (.agg [.int .i64 q5, .int .i64 q3]) (cCur code a5 s5) ⟨(q5, q3), rfl, ⟨a5, s5, rfl, by omega, by omega⟩⟩   -- leaf 1
    · refine r_eql m.sX (fun h2 => ?_) (fun h2 => ?_) <;> conv => cbv
      · refine r_mcall m.sX (cAmong_ok code a4 s4 ([0, 1, 100000, 100001]) (by simp) h (by omega) (by omega)) ?_
        rintro _ _ ⟨q6, rfl, ⟨a6, s6, rfl, ea6, fa6⟩, bq6⟩
        simp only [List.mem_cons, List.not_mem_nil, or_false] at bq6
        conv => cbv
        exact hQ (.agg [.int .i64 q1, .int .i64 q6]) (cCur code a6 s6) ⟨(q1, q6), rfl, ⟨a6, s6, rfl, by omega, by omega⟩⟩   -- leaf 2
      · exact hQ (.agg [.int .i64 q1, .int .i64 q3]) (cCur code a4 s4) ⟨(q1, q3), rfl, ⟨a4, s4, rfl, by omega, by omega⟩⟩   -- leaf 3

theorem cCasting_ex (code : List Int) (b0 t0 : Int) : ∃ r cs, (∃ (q : Casting), r = PV.agg (cCasting q) ∧ CurTo code b0 30 cs) :=
  ⟨_, _, (0, 0), rfl, ⟨b0, t0, rfl, by omega, by omega⟩⟩

theorem cCastings_ok (code : List Int) (b0 t0 : Int)  (h : CurIn code) (h0 : 0 ≤ b0) (hk : b0 ≤ 899999999999600000)  : OkM Try.prog 66 (cCur code b0 t0) [] (fun r cs => ∃ (q : List Casting), r = .isl 2 (rows cCasting q) ∧ CurTo code b0 400 cs ∧ ((q.length : Int) ≤ 9)) :=
  OkM.iceR (fnM_intro envOk fieldsOk mixed Try.func66 rfl fun κ X Y L Q m hQ => by
    conv => cbv
    refine r_mcall m.sX (cPick_ok code b0 t0 6 h (by omega) (by omega)) ?_
    rintro _ _ ⟨n, rfl, ⟨a1, s1, rfl, ea1, fa1⟩, bn, cn, dn⟩
    conv => cbv
    refine r_mcall m.sX (cOne_ok code a1 s1 24 h (by omega) (by omega)) ?_
    rintro _ _ ⟨q1, rfl, ⟨a2, s2, rfl, ea2, fa2⟩⟩
    conv => cbv
    rcases Bool.eq_false_or_eq_true q1 with rfl | rfl <;> conv => cbv
    · refine r_mcall m.sX (cPick_ok code a2 s2 2 h (by omega) (by omega)) ?_
      rintro _ _ ⟨q2, rfl, ⟨a3, s3, rfl, ea3, fa3⟩, bq2, cq2, dq2⟩
      conv => cbv
      refine r_addf m.sX (by omega) (by omega) fun n_2 hn_2 => ?_
      conv => cbv
      refine r_loopF (α := Int × Int × List Casting) m 22 [4] [⟨0, 1, 0, 0, 0⟩, ⟨3, 25, 41, 2, 0⟩] (fun σ => [(0, .optr 1 0 0 0 0), (3, .osl 25 0), (4, .int .i64 n_2)]) (fun σ => [(1, 0, .box (cCur code σ.1 σ.2.1)), (25, 0, .row 41 2 (rows cCasting σ.2.2))])
        (fun σ => ((σ.2.2.length : Int) ≤ n_2) ∧ (a3 ≤ σ.1 ∧ σ.1 ≤ a3 + 30 * (σ.2.2.length : Int))) (fun σ => (n_2 - (σ.2.2.length : Int)).toNat) (a3, s3, []) ?_ ?_ ?_ ?_
      · cbv
      · (try dsimp only); (try simp only [rows_cons, rows_nil]); cbv
      · exact ⟨(by (try dsimp only); first | omega | (simp only [List.length_nil]; omega) | (simp only [List.length_cons, List.length_nil]; omega)), (by (try dsimp only); first | omega | (simp only [List.length_nil]; omega) | (simp only [List.length_cons, List.length_nil]; omega))⟩
      rintro ⟨a4, s4, l⟩ ⟨ll1, cl1⟩ E hE F hF
      dsimp only at ll1 cl1
      conv => cbv
      refine r_lenR m.sX fun n1 hn1 mn1 => ?_
      conv => cbv
      refine r_lss m.sX (fun h1 => ?_) (fun h1 => ?_) <;> conv => cbv
      · refine r_mcall m.sX (cCasting_ok code a4 s4 h (by omega) (by omega)) ?_
        rintro _ _ ⟨⟨q3A, q3B⟩, rfl, ⟨a5, s5, rfl, ea5, fa5⟩⟩
        conv => cbv
        refine r_append1 ((q3A, q3B)) m.sX rfl (by first | omega | (dsimp only; omega)) (by first | omega | (dsimp only; omega)) fun l_2 hl_2 => ?_
        conv => cbv
        have ll_2 : (l_2.length : Int) = l.length + 1 := by rw [hl_2]; first | done | (simp; done) | (simp; omega)
        refine hE _ (a5, s5, l_2) ?_ ?_ ⟨(by (try dsimp only); first | omega | (simp only [List.length_nil]; omega) | (simp only [List.length_cons, List.length_nil]; omega)), (by (try dsimp only); first | omega | (simp only [List.length_nil]; omega) | (simp only [List.length_cons, List.length_nil]; omega))⟩ (by first | omega | (dsimp only; omega))
        · cbv
        · cbv
      · refine hF _ _ ?_
        conv => cbv
        exact hQ (.fr 41 2 (rows cCasting l)) (cCur code a4 s4) ⟨l, rfl, ⟨a4, s4, rfl, by omega, by omega⟩, (by first | omega | assumption | (simp; done) | (simp [*]; done) | (simp at *; omega))⟩   -- leaf 1
    · refine r_loopF (α := Int × Int × List Casting) m 22 [4] [⟨0, 1, 0, 0, 0⟩, ⟨3, 25, 41, 2, 0⟩] (fun σ => [(0, .optr 1 0 0 0 0), (3, .osl 25 0), (4, .int .i64 n)]) (fun σ => [(1, 0, .box (cCur code σ.1 σ.2.1)), (25, 0, .row 41 2 (rows cCasting σ.2.2))])
        (fun σ => ((σ.2.2.length : Int) ≤ n) ∧ (a2 ≤ σ.1 ∧ σ.1 ≤ a2 + 30 * (σ.2.2.length : Int))) (fun σ => (n - (σ.2.2.length : Int)).toNat) (a2, s2, []) ?_ ?_ ?_ ?_
      · cbv
      · (try dsimp only); (try simp only [rows_cons, rows_nil]); cbv
      · exact ⟨(by (try dsimp only); first | omega | (simp only [List.length_nil]; omega) | (simp only [List.length_cons, List.length_nil]; omega)), (by (try dsimp only); first | omega | (simp only [List.length_nil]; omega) | (simp only [List.length_cons, List.length_nil]; omega))⟩
      rintro ⟨a6, s6, l_3⟩ ⟨ll2, cl2⟩ E hE F hF
      dsimp only at ll2 cl2
      conv => cbv
      refine r_lenR m.sX fun n2 hn2 mn2 => ?_
      conv => cbv
      refine r_lss m.sX (fun h2 => ?_) (fun h2 => ?_) <;> conv => cbv
      · refine r_mcall m.sX (cCasting_ok code a6 s6 h (by omega) (by omega)) ?_
        rintro _ _ ⟨⟨q4A, q4B⟩, rfl, ⟨a7, s7, rfl, ea7, fa7⟩⟩
        conv => cbv
        refine r_append1 ((q4A, q4B)) m.sX rfl (by first | omega | (dsimp only; omega)) (by first | omega | (dsimp only; omega)) fun l_4 hl_4 => ?_
        conv => cbv
        have ll_4 : (l_4.length : Int) = l_3.length + 1 := by rw [hl_4]; first | done | (simp; done) | (simp; omega)
        refine hE _ (a7, s7, l_4) ?_ ?_ ⟨(by (try dsimp only); first | omega | (simp only [List.length_nil]; omega) | (simp only [List.length_cons, List.length_nil]; omega)), (by (try dsimp only); first | omega | (simp only [List.length_nil]; omega) | (simp only [List.length_cons, List.length_nil]; omega))⟩ (by first | omega | (dsimp only; omega))
        · cbv
        · cbv
      · refine hF _ _ ?_
        conv => cbv
        exact hQ (.fr 41 2 (rows cCasting l_3)) (cCur code a6 s6) ⟨l_3, rfl, ⟨a6, s6, rfl, by omega, by omega⟩, (by first | omega | assumption | (simp; done) | (simp [*]; done) | (simp at *; omega))⟩)   -- leaf 2

theorem cCastings_ex (code : List Int) (b0 t0 : Int) : ∃ r cs, (∃ (q : List Casting), r = PV.isl 2 (rows cCasting q) ∧ CurTo code b0 400 cs ∧ ((q.length : Int) ≤ 9)) :=
  ⟨_, _, [], rfl, ⟨b0, t0, rfl, by omega, by omega⟩, (by first | omega | simp)⟩

theorem cCastOrder_ok (code : List Int) (b0 t0 : Int) (l : List Casting) (h : CurIn code) (h0 : 0 ≤ b0) (hk : b0 ≤ 899999999999900000) (hl : (l.length : Int) ≤ 9) : OkM Try.prog 85 (cCur code b0 t0) [.isl 2 (rows cCasting l)] (fun r cs => ∃ (q : List Int), r = .isl 1 (rows cInt q) ∧ CurTo code b0 100 cs ∧ ((q.length : Int) ≤ 10)) :=
  OkM.iceR (fnM_intro envOk fieldsOk mixed Try.func85 rfl fun κ X Y L Q m hQ => by
    conv => cbv
    refine r_lenR m.sX fun n1 hn1 mn1 => ?_
    conv => cbv
    refine r_loopF (α := Int × Int × List Int × Int) m 44 [1, 9, 10] [⟨0, 1, 0, 0, 0⟩, ⟨5, 41, 3, 1, 0⟩] (fun σ => [(0, .optr 1 0 0 0 0), (1, .isl 2 (rows cCasting l)), (5, .osl 41 0), (9, .int .i64 n1), (10, .int .i64 σ.2.2.2)]) (fun σ => [(1, 0, .box (cCur code σ.1 σ.2.1)), (41, 0, .row 3 1 (rows cInt σ.2.2.1))])
      (fun σ => (0 ≤ σ.2.2.2) ∧ (σ.2.2.2 ≤ n1) ∧ (b0 ≤ σ.1 ∧ σ.1 ≤ b0 + 4 * σ.2.2.2) ∧ ((σ.2.2.1.length : Int) ≤ σ.2.2.2)) (fun σ => (n1 - σ.2.2.2).toNat) (b0, t0, [], 0) ?_ ?_ ?_ ?_
    · cbv
    · (try dsimp only); (try simp only [rows_cons, rows_nil]); cbv
    · exact ⟨(by (try dsimp only); first | omega | (simp only [List.length_nil]; omega) | (simp only [List.length_cons, List.length_nil]; omega)), (by (try dsimp only); first | omega | (simp only [List.length_nil]; omega) | (simp only [List.length_cons, List.length_nil]; omega)), (by (try dsimp only); first | omega | (simp only [List.length_nil]; omega) | (simp only [List.length_cons, List.length_nil]; omega)), (by (try dsimp only) <;> first | omega | rfl | (simp [*]; done))⟩
    rintro ⟨a1, s1, order, i1⟩ ⟨lo1, hi1, cl1, ob⟩ E hE F hF
    dsimp only at lo1 hi1 cl1 ob
    conv => cbv
    refine r_lss m.sX (fun h1 => ?_) (fun h1 => ?_) <;> conv => cbv
    · refine r_mcall m.sX (cOne_ok code a1 s1 4 h (by omega) (by omega)) ?_
      rintro _ _ ⟨q1, rfl, ⟨a2, s2, rfl, ea2, fa2⟩⟩
      conv => cbv
      rcases Bool.eq_false_or_eq_true q1 with rfl | rfl <;> conv => cbv
      · refine r_addf m.sX (by omega) (by omega) fun r1 hr1 => ?_
        conv => cbv
        try have tr1 : Int.toNat r1 = Int.toNat i1 + 1 := by omega
        refine hE _ (a2, s2, order, r1) ?_ ?_ ⟨(by (try dsimp only); first | omega | (simp only [List.length_nil]; omega) | (simp only [List.length_cons, List.length_nil]; omega)), (by (try dsimp only); first | omega | (simp only [List.length_nil]; omega) | (simp only [List.length_cons, List.length_nil]; omega)), (by (try dsimp only); first | omega | (simp only [List.length_nil]; omega) | (simp only [List.length_cons, List.length_nil]; omega)), (by (try dsimp only) <;> (omega))⟩ (by first | omega | (dsimp only; omega))
        · cbv
        · cbv
      · refine r_lenR m.sX fun n2 hn2 mn2 => ?_
        conv => cbv
        refine r_addf m.sX (by omega) (by omega) fun r2 hr2 => ?_
        conv => cbv
        refine r_mcall m.sX (cPick_ok code a2 s2 r2 h (by omega) (by omega)) ?_
        rintro _ _ ⟨k, rfl, ⟨a3, s3, rfl, ea3, fa3⟩, bk, ck, dk⟩
        conv => cbv
        refine r_drawT 5 m rfl rfl (by kernel_rfl) ?_
        conv => cbv
        refine r_islice (i := 0) (j := k) m.sY (by omega) (by omega) (by omega) fun zs1 hzs1 => ?_   -- zs1 = order[None:k]
        have lzs1 : (zs1.length : Int) = k - 0 := by rw [hzs1]; first | done | (simp; done) | (simp; omega)
        conv => cbv
        refine r_callFS (fun l => PV.fr _ _ (rows _ l)) m.sY (l1Own_ok zs1 (by first | rfl | assumption | omega | (simp only [List.length_append, List.length_cons, List.length_nil] at *; omega))) trivial fun v1 hv1 => ?_
        conv => cbv
        have lv1 := congrArg List.length hv1
        refine r_append1 (i1) m.sY rfl (by first | omega | (dsimp only; omega)) (by first | omega | (dsimp only; omega)) fun zs2 hzs2 => ?_
        conv => cbv
        have lzs2 : (zs2.length : Int) = v1.length + 1 := by rw [hzs2]; first | done | (simp; done) | (simp; omega)
        refine r_islice' (i := k) m.sY (by omega) (by omega) fun zs3 hzs3 => ?_   -- zs3 = order[k:None]
        have lzs3 : (zs3.length : Int) = order.length - k := by rw [hzs3]; first | done | (simp; done) | (simp; omega)
        conv => cbv
        refine r_append m.sY (by first | omega | (dsimp only; omega)) (by first | omega | (dsimp only; omega)) fun order_2 horder_2 => ?_
        conv => cbv
        have lorder_2 : (order_2.length : Int) = zs2.length + zs3.length := by rw [horder_2]; first | done | (simp; done) | (simp; omega)
        refine r_addf m.sX (by omega) (by omega) fun r3 hr3 => ?_
        conv => cbv
        try have tr3 : Int.toNat r3 = Int.toNat i1 + 1 := by omega
        refine hE _ (a3, s3, order_2, r3) ?_ ?_ ⟨(by (try dsimp only); first | omega | (simp only [List.length_nil]; omega) | (simp only [List.length_cons, List.length_nil]; omega)), (by (try dsimp only); first | omega | (simp only [List.length_nil]; omega) | (simp only [List.length_cons, List.length_nil]; omega)), (by (try dsimp only); first | omega | (simp only [List.length_nil]; omega) | (simp only [List.length_cons, List.length_nil]; omega)), (by (try dsimp only) <;> (omega))⟩ (by first | omega | (dsimp only; omega))
        · cbv
        · cbv
    · have dz_i1 := drop_end (xs := l) (i := Int.toNat i1) (by omega)
      have tz_i1 := take_end (xs := l) (i := Int.toNat i1) (by omega)
      refine hF _ _ ?_
      conv => cbv
      refine r_mcall m.sX (cOne_ok code a1 s1 16 h (by omega) (by omega)) ?_
      rintro _ _ ⟨q2, rfl, ⟨a4, s4, rfl, ea4, fa4⟩⟩
      conv => cbv
      rcases Bool.eq_false_or_eq_true q2 with rfl | rfl <;> conv => cbv
      · refine r_lenR m.sX fun n3 hn3 mn3 => ?_
        conv => cbv
        refine r_mcall m.sX (cAmong_ok code a4 s4 ([0, n3, -1]) (by simp) h (by omega) (by omega)) ?_
        rintro _ _ ⟨q3, rfl, ⟨a5, s5, rfl, ea5, fa5⟩, bq3⟩
        simp only [List.mem_cons, List.not_mem_nil, or_false] at bq3
        conv => cbv
        refine r_append1 (q3) m.sX rfl (by first | omega | (dsimp only; omega)) (by first | omega | (dsimp only; omega)) fun order_3 horder_3 => ?_
        conv => cbv
        have lorder_3 : (order_3.length : Int) = order.length + 1 := by rw [horder_3]; first | done | (simp; done) | (simp; omega)
        exact hQ (.fr 3 1 (rows cInt order_3)) (cCur code a5 s5) ⟨order_3, rfl, ⟨a5, s5, rfl, by omega, by omega⟩, (by first | omega | assumption | (simp; done) | (simp [*]; done) | (simp at *; omega))⟩   -- leaf 1
      · exact hQ (.fr 3 1 (rows cInt order)) (cCur code a4 s4) ⟨order, rfl, ⟨a4, s4, rfl, by omega, by omega⟩, (by first | omega | assumption | (simp; done) | (simp [*]; done) | (simp at *; omega))⟩)   -- leaf 2

theorem cCastOrder_ex (code : List Int) (b0 t0 : Int) : ∃ r cs, (∃ (q : List Int), r = PV.isl 1 (rows cInt q) ∧ CurTo code b0 100 cs ∧ ((q.length : Int) ≤ 10)) :=
  ⟨_, _, [], rfl, ⟨b0, t0, rfl, by omega, by omega⟩, (by first | omega | simp)⟩

theorem cCastMinutes_ok (code : List Int) (b0 t0 : Int)  (h : CurIn code) (h0 : 0 ≤ b0) (hk : b0 ≤ 899999999999960000)  : OkM Try.prog 73 (cCur code b0 t0) [] (fun r cs => ∃ (q : Int), r = .int .i64 q ∧ CurTo code b0 40 cs) :=
  fnM_intro envOk fieldsOk mixed Try.func73 rfl fun κ X Y L Q m hQ => by
    conv => cbv
    refine r_mcall m.sX (cPick_ok code b0 t0 200 h (by omega) (by omega)) ?_
    rintro _ _ ⟨q1, rfl, ⟨a1, s1, rfl, ea1, fa1⟩, bq1, cq1, dq1⟩
    conv => cbv
    refine r_mcall m.sX (cAmong_ok code a1 s1 ([30, 100000, 100001, -1]) (by simp) h (by omega) (by omega)) ?_
    rintro _ _ ⟨q2, rfl, ⟨a2, s2, rfl, ea2, fa2⟩, bq2⟩
    simp only [List.mem_cons, List.not_mem_nil, or_false] at bq2
    conv => cbv
    refine r_mcall m.sX (cAmong_ok code a2 s2 ([0, 20, 40, 60, 100, q1, q2]) (by simp) h (by omega) (by omega)) ?_
    rintro _ _ ⟨q3, rfl, ⟨a3, s3, rfl, ea3, fa3⟩, bq3⟩
    simp only [List.mem_cons, List.not_mem_nil, or_false] at bq3
    conv => cbv
    exact hQ (.int .i64 q3) (cCur code a3 s3) ⟨q3, rfl, ⟨a3, s3, rfl, by omega, by omega⟩⟩   -- leaf 1

theorem cCastMinutes_ex (code : List Int) (b0 t0 : Int) : ∃ r cs, (∃ (q : Int), r = PV.int .i64 q ∧ CurTo code b0 40 cs) :=
  ⟨_, _, 0, rfl, ⟨b0, t0, rfl, by omega, by omega⟩⟩

theorem drawCastTime_ok (code : List Int) (h : CurIn code) : OkA Try.prog 17 [.isl 1 (rows cU8 code)] (fun r => ∃ (q1 : CMach) (q2 : Casting), r = .tup [.agg (cMachine q1), .agg (cCasting q2)]) :=
  fn_intro envOk fieldsOk mixed Try.func17 rfl fun κ X Y L Q m hQ => by
    conv => cbv
    refine r_mcall m.sX (cMachine_ok code 0 0 h (by omega) (by omega)) ?_
    rintro _ _ ⟨⟨q1A, q1B, q1C⟩, rfl, ⟨a1, s1, rfl, ea1, fa1⟩⟩
    conv => cbv
    refine r_mcall m.sX (cCasting_ok code a1 s1 h (by omega) (by omega)) ?_
    rintro _ _ ⟨⟨q2A, q2B⟩, rfl, ⟨a2, s2, rfl, ea2, fa2⟩⟩
    conv => cbv
    exact hQ (.tup [.agg [.int .i64 q1A, .int .i64 q1B, .int .i64 q1C], .agg [.int .i64 q2A, .int .i64 q2B]]) ⟨(q1A, q1B, q1C), (q2A, q2B), rfl⟩   -- leaf 1

theorem drawOrderTime_ok (code : List Int) (h : CurIn code) : OkA Try.prog 20 [.isl 1 (rows cU8 code)] (fun r => ∃ (q1 : CMach) (q2 : List Casting) (q3 : List Int), r = .tup [.agg (cMachine q1), .isl 2 (rows cCasting q2), .isl 1 (rows cInt q3)] ∧ ((q2.length : Int) ≤ 9) ∧ ((q3.length : Int) ≤ 10)) :=
  fn_intro envOk fieldsOk mixed Try.func20 rfl fun κ X Y L Q m hQ => by
    conv => cbv
    refine r_mcall m.sX (cMachine_ok code 0 0 h (by omega) (by omega)) ?_
    rintro _ _ ⟨⟨m_A, m_B, m_C⟩, rfl, ⟨a1, s1, rfl, ea1, fa1⟩⟩
    conv => cbv
    refine r_mcall m.sX (cCastings_ok code a1 s1 h (by omega) (by omega)) ?_
    rintro _ _ ⟨l, rfl, ⟨a2, s2, rfl, ea2, fa2⟩, bl_1⟩
    conv => cbv
    refine r_draw m (by kernel_rfl) ?_
    conv => cbv
    refine r_mcallS m.sY (cCastOrder_ok code a2 s2 l h (by omega) (by omega) (by first | rfl | assumption | omega | (simp only [List.length_append, List.length_cons, List.length_nil] at *; omega)) ) (cCastOrder_ex code a2 s2) (by rintro _ _ ⟨_, rfl, _⟩; first | trivial | (intro x hx; simp at hx; rcases hx with rfl | rfl | rfl <;> trivial)) ?_
    rintro _ _ ⟨q1, rfl, ⟨a3, s3, rfl, ea3, fa3⟩, bq1_1⟩
    conv => cbv
    exact hQ (.tup [.agg [.int .i64 m_A, .int .i64 m_B, .int .i64 m_C], .isl 2 (rows cCasting l), .isl 1 (rows cInt q1)]) ⟨(m_A, m_B, m_C), l, q1, rfl, (by first | omega | assumption | (simp; done) | (simp [*]; done) | (simp at *; omega)), (by first | omega | assumption | (simp; done) | (simp [*]; done) | (simp at *; omega))⟩   -- leaf 1

theorem drawDoneBy_ok (code : List Int) (h : CurIn code) : OkA Try.prog 29 [.isl 1 (rows cU8 code)] (fun r => ∃ (q1 : CMach) (q2 : List Casting) (q3 : List Int) (q4 : Int), r = .tup [.agg (cMachine q1), .isl 2 (rows cCasting q2), .isl 1 (rows cInt q3), .int .i64 q4] ∧ ((q2.length : Int) ≤ 9) ∧ ((q3.length : Int) ≤ 10)) :=
  fn_intro envOk fieldsOk mixed Try.func29 rfl fun κ X Y L Q m hQ => by
    conv => cbv
    refine r_mcall m.sX (cMachine_ok code 0 0 h (by omega) (by omega)) ?_
    rintro _ _ ⟨⟨m_A, m_B, m_C⟩, rfl, ⟨a1, s1, rfl, ea1, fa1⟩⟩
    conv => cbv
    refine r_mcall m.sX (cCastings_ok code a1 s1 h (by omega) (by omega)) ?_
    rintro _ _ ⟨l, rfl, ⟨a2, s2, rfl, ea2, fa2⟩, bl_1⟩
    conv => cbv
    refine r_mcall m.sX (cCastOrder_ok code a2 s2 l h (by omega) (by omega) (by first | rfl | assumption | omega | (simp only [List.length_append, List.length_cons, List.length_nil] at *; omega))) ?_
    rintro _ _ ⟨order, rfl, ⟨a3, s3, rfl, ea3, fa3⟩, border_1⟩
    conv => cbv
    refine r_callB m.sX (csAsked_ok (m_A, m_B, m_C) l order) (fun h1 => ?_) (fun h1 => ?_) <;> conv => cbv
    · have tb := timeF_bound h1
      try dsimp only at tb
      obtain ⟨g1, g2, g3⟩ := askB_spec h1
      refine r_lenR m.sX fun n1 hn1 mn1 => ?_
      conv => cbv
      refine r_gtr m.sX (fun h2 => ?_) (fun h2 => ?_) <;> conv => cbv
      · refine r_mcall m.sX (cOne_ok code a3 s3 3 h (by omega) (by omega)) ?_
        rintro _ _ ⟨q1, rfl, ⟨a4, s4, rfl, ea4, fa4⟩⟩
        conv => cbv
        rcases Bool.eq_false_or_eq_true q1 with rfl | rfl <;> conv => cbv
        · refine r_draw m (by kernel_rfl) ?_
          conv => cbv
          refine r_callFS (PV.int .i64) m.sY (csLast_ok (m_A, m_B, m_C) l order (by first | rfl | assumption | omega | (simp only [List.length_append, List.length_cons, List.length_nil] at *; omega)) (by first | rfl | assumption | omega | (simp only [List.length_append, List.length_cons, List.length_nil] at *; omega)) (by first | rfl | assumption | omega | (simp only [List.length_append, List.length_cons, List.length_nil] at *; omega))) trivial fun r1 hr1 => ?_
          conv => cbv
          try dsimp only at hr1
          refine r_mcallS m.sY (cPick_ok code a4 s4 2 h (by omega) (by omega)) (cPick_ex code a4 s4 2) (by rintro _ _ ⟨_, rfl, _⟩; first | trivial | (intro x hx; simp at hx; rcases hx with rfl | rfl | rfl <;> trivial)) ?_
          rintro _ _ ⟨q2, rfl, ⟨a5, s5, rfl, ea5, fa5⟩, bq2, cq2, dq2⟩
          conv => cbv
          refine r_subf m.sY (by omega) (by omega) fun r2 hr2 => ?_
          conv => cbv
          refine r_callFS (PV.int .i64) m.sY (l1Least_ok 100000 r2) trivial fun r3 hr3 => ?_
          conv => cbv
          try dsimp only at hr3
          exact hQ (.tup [.agg [.int .i64 m_A, .int .i64 m_B, .int .i64 m_C], .isl 2 (rows cCasting l), .isl 1 (rows cInt order), .int .i64 r3]) ⟨(m_A, m_B, m_C), l, order, r3, rfl, (by first | omega | assumption | (simp; done) | (simp [*]; done) | (simp at *; omega)), (by first | omega | assumption | (simp; done) | (simp [*]; done) | (simp at *; omega))⟩   -- leaf 1
        · refine r_draw m (by kernel_rfl) ?_
          conv => cbv
          refine r_mcallS m.sY (cCastMinutes_ok code a4 s4 h (by omega) (by omega)) (cCastMinutes_ex code a4 s4) (by rintro _ _ ⟨_, rfl, _⟩; first | trivial | (intro x hx; simp at hx; rcases hx with rfl | rfl | rfl <;> trivial)) ?_
          rintro _ _ ⟨q3, rfl, ⟨a6, s6, rfl, ea6, fa6⟩⟩
          conv => cbv
          exact hQ (.tup [.agg [.int .i64 m_A, .int .i64 m_B, .int .i64 m_C], .isl 2 (rows cCasting l), .isl 1 (rows cInt order), .int .i64 q3]) ⟨(m_A, m_B, m_C), l, order, q3, rfl, (by first | omega | assumption | (simp; done) | (simp [*]; done) | (simp at *; omega)), (by first | omega | assumption | (simp; done) | (simp [*]; done) | (simp at *; omega))⟩   -- leaf 2
      · refine r_draw m (by kernel_rfl) ?_
        conv => cbv
        refine r_mcallS m.sY (cCastMinutes_ok code a3 s3 h (by omega) (by omega)) (cCastMinutes_ex code a3 s3) (by rintro _ _ ⟨_, rfl, _⟩; first | trivial | (intro x hx; simp at hx; rcases hx with rfl | rfl | rfl <;> trivial)) ?_
        rintro _ _ ⟨q4, rfl, ⟨a7, s7, rfl, ea7, fa7⟩⟩
        conv => cbv
        exact hQ (.tup [.agg [.int .i64 m_A, .int .i64 m_B, .int .i64 m_C], .isl 2 (rows cCasting l), .isl 1 (rows cInt order), .int .i64 q4]) ⟨(m_A, m_B, m_C), l, order, q4, rfl, (by first | omega | assumption | (simp; done) | (simp [*]; done) | (simp at *; omega)), (by first | omega | assumption | (simp; done) | (simp [*]; done) | (simp at *; omega))⟩   -- leaf 3
    · refine r_draw m (by kernel_rfl) ?_
      conv => cbv
      refine r_mcallS m.sY (cCastMinutes_ok code a3 s3 h (by omega) (by omega)) (cCastMinutes_ex code a3 s3) (by rintro _ _ ⟨_, rfl, _⟩; first | trivial | (intro x hx; simp at hx; rcases hx with rfl | rfl | rfl <;> trivial)) ?_
      rintro _ _ ⟨q5, rfl, ⟨a8, s8, rfl, ea8, fa8⟩⟩
      conv => cbv
      exact hQ (.tup [.agg [.int .i64 m_A, .int .i64 m_B, .int .i64 m_C], .isl 2 (rows cCasting l), .isl 1 (rows cInt order), .int .i64 q5]) ⟨(m_A, m_B, m_C), l, order, q5, rfl, (by first | omega | assumption | (simp; done) | (simp [*]; done) | (simp at *; omega)), (by first | omega | assumption | (simp; done) | (simp [*]; done) | (simp at *; omega))⟩   -- leaf 4

theorem drawMostCastings_ok (code : List Int) (h : CurIn code) : OkA Try.prog 13 [.isl 1 (rows cU8 code)] (fun r => ∃ (q1 : CMach) (q2 : List Casting) (q3 : Int), r = .tup [.agg (cMachine q1), .isl 2 (rows cCasting q2), .int .i64 q3] ∧ ((q2.length : Int) ≤ 9)) :=
  fn_intro envOk fieldsOk mixed Try.func13 rfl fun κ X Y L Q m hQ => by
    conv => cbv
    refine r_mcall m.sX (cMachine_ok code 0 0 h (by omega) (by omega)) ?_
    rintro _ _ ⟨⟨q1A, q1B, q1C⟩, rfl, ⟨a1, s1, rfl, ea1, fa1⟩⟩
    conv => cbv
    refine r_mcall m.sX (cCastings_ok code a1 s1 h (by omega) (by omega)) ?_
    rintro _ _ ⟨q2, rfl, ⟨a2, s2, rfl, ea2, fa2⟩, bq2_1⟩
    conv => cbv
    refine r_mcall m.sX (cCastMinutes_ok code a2 s2 h (by omega) (by omega)) ?_
    rintro _ _ ⟨q3, rfl, ⟨a3, s3, rfl, ea3, fa3⟩⟩
    conv => cbv
    exact hQ (.tup [.agg [.int .i64 q1A, .int .i64 q1B, .int .i64 q1C], .isl 2 (rows cCasting q2), .int .i64 q3]) ⟨(q1A, q1B, q1C), q2, q3, rfl, (by first | omega | assumption | (simp; done) | (simp [*]; done) | (simp at *; omega))⟩   -- leaf 1

theorem drawShareOfMachines_ok (code : List Int) (h : CurIn code) : OkA Try.prog 8 [.isl 1 (rows cU8 code)] (fun r => ∃ (q1 : CMach) (q2 : CMach) (q3 : List Casting), r = .tup [.agg (cMachine q1), .agg (cMachine q2), .isl 2 (rows cCasting q3)] ∧ ((q3.length : Int) ≤ 9)) :=
  fn_intro envOk fieldsOk mixed Try.func8 rfl fun κ X Y L Q m hQ => by
    conv => cbv
    refine r_mcall m.sX (cMachine_ok code 0 0 h (by omega) (by omega)) ?_
    rintro _ _ ⟨⟨m_A, m_B, m_C⟩, rfl, ⟨a1, s1, rfl, ea1, fa1⟩⟩
    conv => cbv
    refine r_mcall m.sX (cOne_ok code a1 s1 3 h (by omega) (by omega)) ?_
    rintro _ _ ⟨q1, rfl, ⟨a2, s2, rfl, ea2, fa2⟩⟩
    conv => cbv
    rcases Bool.eq_false_or_eq_true q1 with rfl | rfl <;> conv => cbv
    · refine r_draw m (by kernel_rfl) ?_
      conv => cbv
      refine r_mcallS m.sY (cCastings_ok code a2 s2 h (by omega) (by omega)) (cCastings_ex code a2 s2) (by rintro _ _ ⟨_, rfl, _⟩; first | trivial | (intro x hx; simp at hx; rcases hx with rfl | rfl | rfl <;> trivial)) ?_
      rintro _ _ ⟨q2, rfl, ⟨a3, s3, rfl, ea3, fa3⟩, bq2_1⟩
      conv => cbv
      exact hQ (.tup [.agg [.int .i64 m_A, .int .i64 m_B, .int .i64 m_C], .agg [.int .i64 m_A, .int .i64 m_B, .int .i64 m_C], .isl 2 (rows cCasting q2)]) ⟨(m_A, m_B, m_C), (m_A, m_B, m_C), q2, rfl, (by first | omega | assumption | (simp; done) | (simp [*]; done) | (simp at *; omega))⟩   -- leaf 1
    · refine r_draw m (by kernel_rfl) ?_
      conv => cbv
      refine r_mcallS m.sY (cMachine_ok code a2 s2 h (by omega) (by omega)) (cMachine_ex code a2 s2) (by rintro _ _ ⟨_, rfl, _⟩; first | trivial | (intro x hx; simp at hx; rcases hx with rfl | rfl | rfl <;> trivial)) ?_
      rintro _ _ ⟨⟨q3A, q3B, q3C⟩, rfl, ⟨a4, s4, rfl, ea4, fa4⟩⟩
      conv => cbv
      refine r_mcallS m.sY (cCastings_ok code a4 s4 h (by omega) (by omega)) (cCastings_ex code a4 s4) (by rintro _ _ ⟨_, rfl, _⟩; first | trivial | (intro x hx; simp at hx; rcases hx with rfl | rfl | rfl <;> trivial)) ?_
      rintro _ _ ⟨q4, rfl, ⟨a5, s5, rfl, ea5, fa5⟩, bq4_1⟩
      conv => cbv
      exact hQ (.tup [.agg [.int .i64 m_A, .int .i64 m_B, .int .i64 m_C], .agg [.int .i64 q3A, .int .i64 q3B, .int .i64 q3C], .isl 2 (rows cCasting q4)]) ⟨(m_A, m_B, m_C), (q3A, q3B, q3C), q4, rfl, (by first | omega | assumption | (simp; done) | (simp [*]; done) | (simp at *; omega))⟩   -- leaf 2

end Go.Proofs.Ytjmjepdlclehoaa.Ai
