/- Contracts of what the law on bills draws. -/
import Derived.Test.YtkcbhjnkpbeigaaBill
import Derived.Test.YtkcbhjnkpbeigaaRegDraw
namespace Go.Proofs.Ytkcbhjnkpbeigaa.Ai
open Go Go.Proofs
set_option maxRecDepth 10000
set_option maxHeartbeats 4000000
set_option linter.unusedVariables false

theorem cTypeStock_ok (code : List Int) (b0 t0 : Int) (f : List FSort) (h : CurIn code) (h0 : 0 ≤ b0) (hk : b0 ≤ 899999999999850000) (hf : f.length ≤ 40) : OkM Try.prog 137 (cCur code b0 t0) [.isl 2 (rows cSort f)] (fun r cs => ∃ (q : List Int), r = .fr 3 1 (rows cInt q) ∧ CurTo code b0 150 cs ∧ ((q.length : Int) ≤ 41)) :=
  fnM_intro envOk fieldsOk mixed Try.func137 rfl fun κ X Y L Q m hQ => by
    conv => cbv
    refine r_lenR m.sX fun n1 hn1 mn1 => ?_
    conv => cbv
    refine r_loopF (α := Int × Int × List Int × Int) m 39 [7, 8] [⟨0, 1, 0, 0, 0⟩, ⟨5, 41, 3, 1, 0⟩] (fun σ => [(0, .optr 1 0 0 0 0), (5, .osl 41 0), (7, .int .i64 n1), (8, .int .i64 σ.2.2.2)]) (fun σ => [(1, 0, .box (cCur code σ.1 σ.2.1)), (41, 0, .row 3 1 (rows cInt σ.2.2.1))])
      (fun σ => (0 ≤ σ.2.2.2) ∧ (σ.2.2.2 ≤ n1) ∧ (b0 ≤ σ.1 ∧ σ.1 ≤ b0 + 2 * σ.2.2.2) ∧ ((σ.2.2.1.length : Int) = σ.2.2.2)) (fun σ => (n1 - σ.2.2.2).toNat) (b0, t0, [], 0) ?_ ?_ ?_ ?_
    · cbv
    · (try dsimp only); simp only [rows_cons, rows_nil]; cbv
    · exact ⟨(by (try dsimp only); first | omega | (simp only [List.length_nil]; omega)), (by (try dsimp only); first | omega | (simp only [List.length_nil]; omega)), (by (try dsimp only); first | omega | (simp only [List.length_nil]; omega)), (by (try dsimp only) <;> first | omega | rfl | (simp [*]; done))⟩
    rintro ⟨a1, s1, l, i1⟩ ⟨lo1, hi1, cl1, ll⟩ E hE F hF
    dsimp only at lo1 hi1 cl1 ll
    conv => cbv
    refine r_lss m.sX (fun h1 => ?_) (fun h1 => ?_) <;> conv => cbv
    · refine r_mcall m.sX (cAmong_ok code a1 s1 ([0, 1, 2, 3, 5, 8, 20, 100]) (by simp) h (by omega) (by omega)) ?_
      rintro _ _ ⟨q1, rfl, ⟨a2, s2, rfl, ea2, fa2⟩, bq1⟩
      simp only [List.mem_cons, List.not_mem_nil, or_false] at bq1
      conv => cbv
      refine r_append1 (q1) m.sX rfl (by first | omega | (dsimp only; omega)) (by first | omega | (dsimp only; omega)) fun l_2 hl_2 => ?_
      conv => cbv
      have ll_2 : (l_2.length : Int) = l.length + 1 := by rw [hl_2]; first | done | (simp; done) | (simp; omega)
      refine r_addf m.sX (by omega) (by omega) fun r1 hr1 => ?_
      conv => cbv
      try have tr1 : Int.toNat r1 = Int.toNat i1 + 1 := by omega
      refine hE _ (a2, s2, l_2, r1) ?_ ?_ ⟨(by (try dsimp only); first | omega | (simp only [List.length_nil]; omega)), (by (try dsimp only); first | omega | (simp only [List.length_nil]; omega)), (by (try dsimp only); first | omega | (simp only [List.length_nil]; omega)), (by (try dsimp only) <;> first | omega | rfl | (simp [*]; done) | (rw [ll]; simp [*]; done))⟩ (by first | omega | (dsimp only; omega))
      · cbv
      · cbv
    · have dz_i1 := drop_end (xs := f) (i := Int.toNat i1) (by omega)
      have tz_i1 := take_end (xs := f) (i := Int.toNat i1) (by omega)
      refine hF _ _ ?_
      conv => cbv
      refine r_mcall m.sX (cPick_ok code a1 s1 24 h (by omega) (by omega)) ?_
      rintro _ _ ⟨q2, rfl, ⟨a3, s3, rfl, ea3, fa3⟩, bq2, cq2, dq2⟩
      conv => cbv
      refine r_eql m.sX (fun h2 => ?_) (fun h2 => ?_) <;> conv => cbv
      · refine r_append1 (1) m.sX rfl (by first | omega | (dsimp only; omega)) (by first | omega | (dsimp only; omega)) fun zs1 hzs1 => ?_
        conv => cbv
        have lzs1 : (zs1.length : Int) = l.length + 1 := by rw [hzs1]; first | done | (simp; done) | (simp; omega)
        exact hQ (.fr 3 1 (rows cInt zs1)) (cCur code a3 s3) ⟨zs1, rfl, ⟨a3, s3, rfl, by omega, by omega⟩, (by first | omega | assumption | (simp; done) | (simp [*]; done) | (simp at *; omega))⟩   -- leaf 1
      · refine r_eql m.sX (fun h3 => ?_) (fun h3 => ?_) <;> conv => cbv
        · refine r_lenR m.sX fun n2 hn2 mn2 => ?_
          conv => cbv
          refine r_gtr m.sX (fun h4 => ?_) (fun h4 => ?_) <;> conv => cbv
          · refine r_lenR m.sX fun n3 hn3 mn3 => ?_
            conv => cbv
            refine r_mcall m.sX (cPick_ok code a3 s3 n3 h (by omega) (by omega)) ?_
            rintro _ _ ⟨q3, rfl, ⟨a4, s4, rfl, ea4, fa4⟩, bq3, cq3, dq3⟩
            conv => cbv
            refine r_mcall m.sX (cAmong_ok code a4 s4 ([100000, 100001, -1]) (by simp) h (by omega) (by omega)) ?_
            rintro _ _ ⟨q4, rfl, ⟨a5, s5, rfl, ea5, fa5⟩, bq4⟩
            simp only [List.mem_cons, List.not_mem_nil, or_false] at bq4
            conv => cbv
            refine r_oindex m.sX (by omega) (by omega) ?_
            conv => cbv
            obtain ⟨y1, hy1⟩ := get_ex (xs := l) (i := Int.toNat q3) (by omega)
            refine r_ostore (l := Int.toNat q3) q4 m.sX hy1 (Nat.le_of_ble_eq_true rfl) rfl fun l_3 hl_3 => ?_   -- l_3 = l.set q3 q4
            have ll_3 : (l_3.length : Int) = l.length := by rw [hl_3]; first | done | (simp; done) | (simp; omega)
            conv => cbv
            exact hQ (.fr 3 1 (rows cInt l_3)) (cCur code a5 s5) ⟨l_3, rfl, ⟨a5, s5, rfl, by omega, by omega⟩, (by first | omega | assumption | (simp; done) | (simp [*]; done) | (simp at *; omega))⟩   -- leaf 2
          · exact hQ (.fr 3 1 (rows cInt l)) (cCur code a3 s3) ⟨l, rfl, ⟨a3, s3, rfl, by omega, by omega⟩, (by first | omega | assumption | (simp; done) | (simp [*]; done) | (simp at *; omega))⟩   -- leaf 3
        · exact hQ (.fr 3 1 (rows cInt l)) (cCur code a3 s3) ⟨l, rfl, ⟨a3, s3, rfl, by omega, by omega⟩, (by first | omega | assumption | (simp; done) | (simp [*]; done) | (simp at *; omega))⟩   -- leaf 4

theorem cTypeStock_ex (code : List Int) (b0 t0 : Int) : ∃ r cs, (∃ (q : List Int), r = PV.fr 3 1 (rows cInt q) ∧ CurTo code b0 150 cs ∧ ((q.length : Int) ≤ 41)) :=
  ⟨_, _, [], rfl, ⟨b0, t0, rfl, by omega, by omega⟩, (by first | omega | simp)⟩

theorem cWord_ok (code : List Int) (b0 t0 : Int)  (h : CurIn code) (h0 : 0 ≤ b0) (hk : b0 ≤ 899999999999940000)  : OkM Try.prog 154 (cCur code b0 t0) [] (fun r cs => ∃ (q : List UInt8), r = .str q ∧ CurTo code b0 60 cs ∧ ((q.length : Int) ≤ 10)) :=
  fnM_intro envOk fieldsOk mixed Try.func154 rfl fun κ X Y L Q m hQ => by
    conv => cbv
    refine r_mcall m.sX (cPick_ok code b0 t0 6 h (by omega) (by omega)) ?_
    rintro _ _ ⟨q1, rfl, ⟨a1, s1, rfl, ea1, fa1⟩, bq1, cq1, dq1⟩
    conv => cbv
    refine r_addf m.sX (by omega) (by omega) fun n hn => ?_
    conv => cbv
    refine r_loopF (α := Int × Int × List UInt8) m 18 [3, 4] [⟨0, 1, 0, 0, 0⟩] (fun σ => [(0, .optr 1 0 0 0 0), (3, .str σ.2.2), (4, .int .i64 n)]) (fun σ => [(1, 0, .box (cCur code σ.1 σ.2.1))])
      (fun σ => (b0 ≤ σ.1 ∧ σ.1 ≤ b0 + 2 + 2 * (σ.2.2.length : Int)) ∧ ((σ.2.2.length : Int) ≤ n + 2)) (fun σ => (n - (σ.2.2.length : Int)).toNat) (a1, s1, ([] : List UInt8)) ?_ ?_ ?_ ?_
    · cbv
    · cbv
    · exact ⟨(by (try dsimp only) <;> first | omega | rfl | (simp [*]; done)), (by (try dsimp only) <;> (simp; omega))⟩
    rintro ⟨a2, s2, s_⟩ ⟨cu, sl⟩ E hE F hF
    dsimp only at cu sl
    conv => cbv
    refine r_slen (u := s_) m.sX fun n1 hn1 mn1 => ?_   -- n1 = length of s_
    conv => cbv
    refine r_lss m.sX (fun h1 => ?_) (fun h1 => ?_) <;> conv => cbv
    · refine r_mcall m.sX (cOfL_ok code a2 s2 ([([97] : List UInt8), ([98] : List UInt8), ([99] : List UInt8), ([97, 98] : List UInt8), ([98, 98] : List UInt8), ([97, 98, 99] : List UInt8), ([100] : List UInt8), ([101] : List UInt8), ([102] : List UInt8), ([102, 105] : List UInt8)]) h (by omega) (by omega) (by first | rfl | assumption | omega | (simp only [List.length_append, List.length_cons, List.length_nil] at *; omega)) (by first | rfl | assumption | omega | (simp only [List.length_append, List.length_cons, List.length_nil] at *; omega))) ?_
      rintro _ _ ⟨q2, rfl, ⟨a3, s3, rfl, ea3, fa3⟩, bq2_1⟩
      have wl := wordL_len q2 bq2_1
      conv => cbv
      refine r_scat (u := s_) (v := q2) m.sX (by first | omega | (simp only [List.length_cons, List.length_nil]; omega) | (simp; omega)) fun s__2 hs__2 => ?_   -- s__2 = s_ ++ q2
      have ls__2 : (s__2.length : Int) = s_.length + q2.length := by rw [hs__2, List.length_append, Int.natCast_add]
      try simp only [List.length_cons, List.length_nil] at ls__2
      conv => cbv
      refine hE _ (a3, s3, s__2) ?_ ?_ ⟨(by (try dsimp only) <;> first | omega | rfl | (simp [*]; done) | (rw [cu]; simp [*]; done)), (by (try dsimp only) <;> first | omega | rfl | (simp [*]; done) | (rw [sl]; simp [*]; done))⟩ (by first | omega | (dsimp only; omega))
      · cbv
      · cbv
    · refine hF _ _ ?_
      conv => cbv
      exact hQ (.str s_) (cCur code a2 s2) ⟨s_, rfl, ⟨a2, s2, rfl, by omega, by omega⟩, (by first | omega | assumption | (simp; done) | (simp [*]; done) | (simp at *; omega))⟩   -- leaf 1

theorem cWord_ex (code : List Int) (b0 t0 : Int) : ∃ r cs, (∃ (q : List UInt8), r = PV.str q ∧ CurTo code b0 60 cs ∧ ((q.length : Int) ≤ 10)) :=
  ⟨_, _, [], rfl, ⟨b0, t0, rfl, by omega, by omega⟩, (by first | omega | simp)⟩

theorem cAnyWord_ok (code : List Int) (b0 t0 : Int)  (h : CurIn code) (h0 : 0 ≤ b0) (hk : b0 ≤ 899999999999900000)  : OkM Try.prog 99 (cCur code b0 t0) [] (fun r cs => ∃ (q : List UInt8), r = .str q ∧ CurTo code b0 100 cs ∧ ((q.length : Int) ≤ 20)) :=
  fnM_intro envOk fieldsOk mixed Try.func99 rfl fun κ X Y L Q m hQ => by
    conv => cbv
    refine r_mcall m.sX (cPick_ok code b0 t0 30 h (by omega) (by omega)) ?_
    rintro _ _ ⟨q1, rfl, ⟨a1, s1, rfl, ea1, fa1⟩, bq1, cq1, dq1⟩
    conv => cbv
    refine r_eql m.sX (fun h1 => ?_) (fun h1 => ?_) <;> conv => cbv
    · refine r_mcall m.sX (cOfL_ok code a1 s1 ([([] : List UInt8), ([65] : List UInt8), ([97, 32, 98] : List UInt8), ([97, 45, 98] : List UInt8)]) h (by omega) (by omega) (by first | rfl | assumption | omega | (simp only [List.length_append, List.length_cons, List.length_nil] at *; omega)) (by first | rfl | assumption | omega | (simp only [List.length_append, List.length_cons, List.length_nil] at *; omega))) ?_
      rintro _ _ ⟨q2, rfl, ⟨a2, s2, rfl, ea2, fa2⟩, bq2_1⟩
      have wl := wordL2_len q2 bq2_1
      conv => cbv
      exact hQ (.str q2) (cCur code a2 s2) ⟨q2, rfl, ⟨a2, s2, rfl, by omega, by omega⟩, (by first | omega | assumption | (simp; done) | (simp [*]; done) | (simp at *; omega))⟩   -- leaf 1
    · refine r_eql m.sX (fun h2 => ?_) (fun h2 => ?_) <;> conv => cbv
      · refine r_mcall m.sX (cPick_ok code a1 s1 2 h (by omega) (by omega)) ?_
        rintro _ _ ⟨q3, rfl, ⟨a3, s3, rfl, ea3, fa3⟩, bq3, cq3, dq3⟩
        conv => cbv
        refine r_addf m.sX (by omega) (by omega) fun n hn => ?_
        conv => cbv
        refine r_loopF (α := List UInt8) m 31 [3, 4] [⟨0, 1, 0, 0, 0⟩] (fun σ => [(0, .optr 1 0 0 0 0), (3, .str σ), (4, .int .i64 n)]) (fun σ => [(1, 0, .box (cCur code a3 s3))])
          (fun σ => (σ.length : Int) ≤ n) (fun σ => (n - (σ.length : Int)).toNat) ([] : List UInt8) ?_ ?_ ?_ ?_
        · cbv
        · cbv
        · exact (by (try dsimp only) <;> (simp; omega))
        rintro s_ sl E hE F hF
        conv => cbv
        refine r_slen (u := s_) m.sX fun n1 hn1 mn1 => ?_   -- n1 = length of s_
        conv => cbv
        refine r_lss m.sX (fun h3 => ?_) (fun h3 => ?_) <;> conv => cbv
        · refine r_scat (u := s_) (v := ([97] : List UInt8)) m.sX (by first | omega | (simp only [List.length_cons, List.length_nil]; omega) | (simp; omega)) fun s__2 hs__2 => ?_   -- s__2 = s_ ++ ([97] : List UInt8)
          have ls__2 : (s__2.length : Int) = s_.length + ([97] : List UInt8).length := by rw [hs__2, List.length_append, Int.natCast_add]
          try simp only [List.length_cons, List.length_nil] at ls__2
          conv => cbv
          refine hE _ s__2 ?_ ?_ (by (try dsimp only) <;> first | omega | rfl | (simp [*]; done) | (rw [sl]; simp [*]; done)) (by first | omega | (dsimp only; omega))
          · cbv
          · cbv
        · refine hF _ _ ?_
          conv => cbv
          exact hQ (.str s_) (cCur code a3 s3) ⟨s_, rfl, ⟨a3, s3, rfl, by omega, by omega⟩, (by first | omega | assumption | (simp; done) | (simp [*]; done) | (simp at *; omega))⟩   -- leaf 2
      · refine r_eql m.sX (fun h4 => ?_) (fun h4 => ?_) <;> conv => cbv
        · refine r_mcall m.sX (cWord_ok code a1 s1 h (by omega) (by omega)) ?_
          rintro _ _ ⟨q4, rfl, ⟨a4, s4, rfl, ea4, fa4⟩, bq4_1⟩
          conv => cbv
          refine r_scat (u := q4) (v := ([122] : List UInt8)) m.sX (by first | omega | (simp only [List.length_cons, List.length_nil]; omega) | (simp; omega)) fun s5 hs5 => ?_   -- s5 = q4 ++ ([122] : List UInt8)
          have ls5 : (s5.length : Int) = q4.length + ([122] : List UInt8).length := by rw [hs5, List.length_append, Int.natCast_add]
          try simp only [List.length_cons, List.length_nil] at ls5
          conv => cbv
          exact hQ (.str s5) (cCur code a4 s4) ⟨s5, rfl, ⟨a4, s4, rfl, by omega, by omega⟩, (by first | omega | assumption | (simp; done) | (simp [*]; done) | (simp at *; omega))⟩   -- leaf 3
        · refine r_mcall m.sX (cWord_ok code a1 s1 h (by omega) (by omega)) ?_
          rintro _ _ ⟨q5, rfl, ⟨a5, s6, rfl, ea5, fa5⟩, bq5_1⟩
          conv => cbv
          exact hQ (.str q5) (cCur code a5 s6) ⟨q5, rfl, ⟨a5, s6, rfl, by omega, by omega⟩, (by first | omega | assumption | (simp; done) | (simp [*]; done) | (simp at *; omega))⟩   -- leaf 4

theorem cAnyWord_ex (code : List Int) (b0 t0 : Int) : ∃ r cs, (∃ (q : List UInt8), r = PV.str q ∧ CurTo code b0 100 cs ∧ ((q.length : Int) ≤ 20)) :=
  ⟨_, _, [], rfl, ⟨b0, t0, rfl, by omega, by omega⟩, (by first | omega | simp)⟩

theorem cWords_ok (code : List Int) (b0 t0 : Int)  (h : CurIn code) (h0 : 0 ≤ b0) (hk : b0 ≤ 899999999980000000)  : OkM Try.prog 138 (cCur code b0 t0) [] (fun r cs => ∃ (q : List (List UInt8)), r = .fr 9 1 (rows cStr q) ∧ CurTo code b0 20000 cs ∧ ((q.length : Int) ≤ 41)) :=
  fnM_intro envOk fieldsOk mixed Try.func138 rfl fun κ X Y L Q m hQ => by
    conv => cbv
    refine r_mcall m.sX (cPick_ok code b0 t0 6 h (by omega) (by omega)) ?_
    rintro _ _ ⟨n, rfl, ⟨a1, s1, rfl, ea1, fa1⟩, bn, cn, dn⟩
    conv => cbv
    refine r_mcall m.sX (cOne_ok code a1 s1 16 h (by omega) (by omega)) ?_
    rintro _ _ ⟨q1, rfl, ⟨a2, s2, rfl, ea2, fa2⟩⟩
    conv => cbv
    rcases Bool.eq_false_or_eq_true q1 with rfl | rfl <;> conv => cbv
    · refine r_mcall m.sX (cPick_ok code a2 s2 2 h (by omega) (by omega)) ?_
      rintro _ _ ⟨q2, rfl, ⟨a3, s3, rfl, ea3, fa3⟩, bq2, cq2, dq2⟩
      conv => cbv
      refine r_addf m.sX (by omega) (by omega) fun n_2 hn_2 => ?_
      conv => cbv
      refine r_loopF (α := Int × Int × List (List UInt8)) m 35 [4] [⟨0, 1, 0, 0, 0⟩, ⟨3, 25, 9, 1, 0⟩] (fun σ => [(0, .optr 1 0 0 0 0), (3, .osl 25 0), (4, .int .i64 n_2)]) (fun σ => [(1, 0, .box (cCur code σ.1 σ.2.1)), (25, 0, .row 9 1 (rows cStr σ.2.2))])
        (fun σ => ((σ.2.2.length : Int) ≤ n_2) ∧ (b0 ≤ σ.1 ∧ σ.1 ≤ b0 + 10 + 60 * (σ.2.2.length : Int))) (fun σ => (n_2 - (σ.2.2.length : Int)).toNat) (a3, s3, []) ?_ ?_ ?_ ?_
      · cbv
      · (try dsimp only); simp only [rows_cons, rows_nil]; cbv
      · exact ⟨(by (try dsimp only); first | omega | (simp only [List.length_nil]; omega)), (by (try dsimp only) <;> first | omega | rfl | (simp [*]; done))⟩
      rintro ⟨a4, s4, l⟩ ⟨ll1, cu⟩ E hE F hF
      dsimp only at ll1 cu
      conv => cbv
      refine r_lenR m.sX fun n1 hn1 mn1 => ?_
      conv => cbv
      refine r_lss m.sX (fun h1 => ?_) (fun h1 => ?_) <;> conv => cbv
      · refine r_mcall m.sX (cWord_ok code a4 s4 h (by omega) (by omega)) ?_
        rintro _ _ ⟨q3, rfl, ⟨a5, s5, rfl, ea5, fa5⟩, bq3_1⟩
        conv => cbv
        refine r_append1 (q3) m.sX rfl (by first | omega | (dsimp only; omega)) (by first | omega | (dsimp only; omega)) fun l_2 hl_2 => ?_
        conv => cbv
        have ll_2 : (l_2.length : Int) = l.length + 1 := by rw [hl_2]; first | done | (simp; done) | (simp; omega)
        refine hE _ (a5, s5, l_2) ?_ ?_ ⟨(by (try dsimp only); first | omega | (simp only [List.length_nil]; omega)), (by (try dsimp only) <;> first | omega | rfl | (simp [*]; done) | (rw [cu]; simp [*]; done))⟩ (by first | omega | (dsimp only; omega))
        · cbv
        · cbv
      · refine hF _ _ ?_
        conv => cbv
        refine r_gtr m.sX (fun h2 => ?_) (fun h2 => ?_) <;> conv => cbv
        · refine r_mcall m.sX (cOne_ok code a4 s4 16 h (by omega) (by omega)) ?_
          rintro _ _ ⟨q4, rfl, ⟨a6, s6, rfl, ea6, fa6⟩⟩
          conv => cbv
          rcases Bool.eq_false_or_eq_true q4 with rfl | rfl <;> conv => cbv
          · refine r_mcall m.sX (cPick_ok code a6 s6 n_2 h (by omega) (by omega)) ?_
            rintro _ _ ⟨q5, rfl, ⟨a7, s7, rfl, ea7, fa7⟩, bq5, cq5, dq5⟩
            conv => cbv
            refine r_mcall m.sX (cAnyWord_ok code a7 s7 h (by omega) (by omega)) ?_
            rintro _ _ ⟨q6, rfl, ⟨a8, s8, rfl, ea8, fa8⟩, bq6_1⟩
            conv => cbv
            refine r_oindex m.sX (by omega) (by omega) ?_
            conv => cbv
            obtain ⟨y1, hy1⟩ := get_ex (xs := l) (i := Int.toNat q5) (by omega)
            refine r_ostore (l := Int.toNat q5) q6 m.sX hy1 (Nat.le_of_ble_eq_true rfl) rfl fun l_3 hl_3 => ?_   -- l_3 = l.set q5 q6
            have ll_3 : (l_3.length : Int) = l.length := by rw [hl_3]; first | done | (simp; done) | (simp; omega)
            conv => cbv
            exact hQ (.fr 9 1 (rows cStr l_3)) (cCur code a8 s8) ⟨l_3, rfl, ⟨a8, s8, rfl, by omega, by omega⟩, (by first | omega | assumption | (simp; done) | (simp [*]; done) | (simp at *; omega))⟩   -- leaf 1
          · exact hQ (.fr 9 1 (rows cStr l)) (cCur code a6 s6) ⟨l, rfl, ⟨a6, s6, rfl, by omega, by omega⟩, (by first | omega | assumption | (simp; done) | (simp [*]; done) | (simp at *; omega))⟩   -- leaf 2
        · exact hQ (.fr 9 1 (rows cStr l)) (cCur code a4 s4) ⟨l, rfl, ⟨a4, s4, rfl, by omega, by omega⟩, (by first | omega | assumption | (simp; done) | (simp [*]; done) | (simp at *; omega))⟩   -- leaf 3
    · refine r_loopF (α := Int × Int × List (List UInt8)) m 35 [4] [⟨0, 1, 0, 0, 0⟩, ⟨3, 25, 9, 1, 0⟩] (fun σ => [(0, .optr 1 0 0 0 0), (3, .osl 25 0), (4, .int .i64 n)]) (fun σ => [(1, 0, .box (cCur code σ.1 σ.2.1)), (25, 0, .row 9 1 (rows cStr σ.2.2))])
        (fun σ => ((σ.2.2.length : Int) ≤ n) ∧ (b0 ≤ σ.1 ∧ σ.1 ≤ b0 + 10 + 60 * (σ.2.2.length : Int))) (fun σ => (n - (σ.2.2.length : Int)).toNat) (a2, s2, []) ?_ ?_ ?_ ?_
      · cbv
      · (try dsimp only); simp only [rows_cons, rows_nil]; cbv
      · exact ⟨(by (try dsimp only); first | omega | (simp only [List.length_nil]; omega)), (by (try dsimp only) <;> first | omega | rfl | (simp [*]; done))⟩
      rintro ⟨a9, s9, l_4⟩ ⟨ll2, cu⟩ E hE F hF
      dsimp only at ll2 cu
      conv => cbv
      refine r_lenR m.sX fun n2 hn2 mn2 => ?_
      conv => cbv
      refine r_lss m.sX (fun h3 => ?_) (fun h3 => ?_) <;> conv => cbv
      · refine r_mcall m.sX (cWord_ok code a9 s9 h (by omega) (by omega)) ?_
        rintro _ _ ⟨q7, rfl, ⟨a10, s10, rfl, ea10, fa10⟩, bq7_1⟩
        conv => cbv
        refine r_append1 (q7) m.sX rfl (by first | omega | (dsimp only; omega)) (by first | omega | (dsimp only; omega)) fun l_5 hl_5 => ?_
        conv => cbv
        have ll_5 : (l_5.length : Int) = l_4.length + 1 := by rw [hl_5]; first | done | (simp; done) | (simp; omega)
        refine hE _ (a10, s10, l_5) ?_ ?_ ⟨(by (try dsimp only); first | omega | (simp only [List.length_nil]; omega)), (by (try dsimp only) <;> first | omega | rfl | (simp [*]; done) | (rw [cu]; simp [*]; done))⟩ (by first | omega | (dsimp only; omega))
        · cbv
        · cbv
      · refine hF _ _ ?_
        conv => cbv
        refine r_gtr m.sX (fun h4 => ?_) (fun h4 => ?_) <;> conv => cbv
        · refine r_mcall m.sX (cOne_ok code a9 s9 16 h (by omega) (by omega)) ?_
          rintro _ _ ⟨q8, rfl, ⟨a11, s11, rfl, ea11, fa11⟩⟩
          conv => cbv
          rcases Bool.eq_false_or_eq_true q8 with rfl | rfl <;> conv => cbv
          · refine r_mcall m.sX (cPick_ok code a11 s11 n h (by omega) (by omega)) ?_
            rintro _ _ ⟨q9, rfl, ⟨a12, s12, rfl, ea12, fa12⟩, bq9, cq9, dq9⟩
            conv => cbv
            refine r_mcall m.sX (cAnyWord_ok code a12 s12 h (by omega) (by omega)) ?_
            rintro _ _ ⟨q10, rfl, ⟨a13, s13, rfl, ea13, fa13⟩, bq10_1⟩
            conv => cbv
            refine r_oindex m.sX (by omega) (by omega) ?_
            conv => cbv
            obtain ⟨y2, hy2⟩ := get_ex (xs := l_4) (i := Int.toNat q9) (by omega)
            refine r_ostore (l := Int.toNat q9) q10 m.sX hy2 (Nat.le_of_ble_eq_true rfl) rfl fun l_6 hl_6 => ?_   -- l_6 = l_4.set q9 q10
            have ll_6 : (l_6.length : Int) = l_4.length := by rw [hl_6]; first | done | (simp; done) | (simp; omega)
            conv => cbv
            exact hQ (.fr 9 1 (rows cStr l_6)) (cCur code a13 s13) ⟨l_6, rfl, ⟨a13, s13, rfl, by omega, by omega⟩, (by first | omega | assumption | (simp; done) | (simp [*]; done) | (simp at *; omega))⟩   -- leaf 4
          · exact hQ (.fr 9 1 (rows cStr l_4)) (cCur code a11 s11) ⟨l_4, rfl, ⟨a11, s11, rfl, by omega, by omega⟩, (by first | omega | assumption | (simp; done) | (simp [*]; done) | (simp at *; omega))⟩   -- leaf 5
        · exact hQ (.fr 9 1 (rows cStr l_4)) (cCur code a9 s9) ⟨l_4, rfl, ⟨a9, s9, rfl, by omega, by omega⟩, (by first | omega | assumption | (simp; done) | (simp [*]; done) | (simp at *; omega))⟩   -- leaf 6

theorem cWords_ex (code : List Int) (b0 t0 : Int) : ∃ r cs, (∃ (q : List (List UInt8)), r = PV.fr 9 1 (rows cStr q) ∧ CurTo code b0 20000 cs ∧ ((q.length : Int) ≤ 41)) :=
  ⟨_, _, [], rfl, ⟨b0, t0, rfl, by omega, by omega⟩, (by first | omega | simp)⟩

theorem drawIsEnough_ok (code : List Int) (h : CurIn code) : OkA Try.prog 128 [.isl 1 (rows cU8 code)] (fun r => ∃ (q1 : List FSort) (q2 : List Int) (q3 : List (List UInt8)), r = .tup [.isl 2 (rows cSort q1), .fr 3 1 (rows cInt q2), .fr 9 1 (rows cStr q3)] ∧ ((q1.length : Int) ≤ 40) ∧ ((q2.length : Int) ≤ 41) ∧ ((q3.length : Int) ≤ 41)) :=
  fn_intro envOk fieldsOk mixed Try.func128 rfl fun κ X Y L Q m hQ => by
    conv => cbv
    refine r_mcall m.sX (cAnyFont_ok code 0 0 h (by omega) (by omega)) ?_
    rintro _ _ ⟨f, rfl, ⟨a1, s1, rfl, ea1, fa1⟩, bf_1⟩
    conv => cbv
    refine r_mcall m.sX (cTypeStock_ok code a1 s1 f h (by omega) (by omega) (by first | rfl | assumption | omega | (simp only [List.length_append, List.length_cons, List.length_nil] at *; omega))) ?_
    rintro _ _ ⟨q1, rfl, ⟨a2, s2, rfl, ea2, fa2⟩, bq1_1⟩
    conv => cbv
    refine r_mcall m.sX (cWords_ok code a2 s2 h (by omega) (by omega)) ?_
    rintro _ _ ⟨q2, rfl, ⟨a3, s3, rfl, ea3, fa3⟩, bq2_1⟩
    conv => cbv
    exact hQ (.tup [.isl 2 (rows cSort f), .fr 3 1 (rows cInt q1), .fr 9 1 (rows cStr q2)]) ⟨f, q1, q2, rfl, (by first | omega | assumption | (simp; done) | (simp [*]; done) | (simp at *; omega)), (by first | omega | assumption | (simp; done) | (simp [*]; done) | (simp at *; omega)), (by first | omega | assumption | (simp; done) | (simp [*]; done) | (simp at *; omega))⟩   -- leaf 1

theorem drawTimesToSet_ok (code : List Int) (h : CurIn code) : OkA Try.prog 47 [.isl 1 (rows cU8 code)] (fun r => ∃ (q1 : List FSort) (q2 : List Int) (q3 : List (List UInt8)), r = .tup [.isl 2 (rows cSort q1), .fr 3 1 (rows cInt q2), .fr 9 1 (rows cStr q3)] ∧ ((q1.length : Int) ≤ 40) ∧ ((q2.length : Int) ≤ 41) ∧ ((q3.length : Int) ≤ 41)) :=
  fn_intro envOk fieldsOk mixed Try.func47 rfl fun κ X Y L Q m hQ => by
    conv => cbv
    refine r_callE m.sX (drawIsEnough_ok code h) ?_
    rintro _ ⟨q1, q2, q3, rfl, bq1_1, bq1_2, bq1_3⟩
    conv => cbv
    exact hQ (.tup [.isl 2 (rows cSort q1), .fr 3 1 (rows cInt q2), .fr 9 1 (rows cStr q3)]) ⟨q1, q2, q3, rfl, (by first | omega | assumption | (simp; done) | (simp [*]; done) | (simp at *; omega)), (by first | omega | assumption | (simp; done) | (simp [*]; done) | (simp at *; omega)), (by first | omega | assumption | (simp; done) | (simp [*]; done) | (simp at *; omega))⟩   -- leaf 1

theorem drawLeastRecast_ok (code : List Int) (h : CurIn code) : OkA Try.prog 57 [.isl 1 (rows cU8 code)] (fun r => ∃ (q1 : List FSort) (q2 : List Int) (q3 : List (List UInt8)) (q4 : Int), r = .tup [.isl 2 (rows cSort q1), .fr 3 1 (rows cInt q2), .fr 9 1 (rows cStr q3), .int .i64 q4] ∧ ((q1.length : Int) ≤ 40) ∧ ((q2.length : Int) ≤ 41) ∧ ((q3.length : Int) ≤ 41)) :=
  fn_intro envOk fieldsOk mixed Try.func57 rfl fun κ X Y L Q m hQ => by
    conv => cbv
    refine r_mcall m.sX (cAnyFont_ok code 0 0 h (by omega) (by omega)) ?_
    rintro _ _ ⟨f, rfl, ⟨a1, s1, rfl, ea1, fa1⟩, bf_1⟩
    conv => cbv
    refine r_mcall m.sX (cTypeStock_ok code a1 s1 f h (by omega) (by omega) (by first | rfl | assumption | omega | (simp only [List.length_append, List.length_cons, List.length_nil] at *; omega))) ?_
    rintro _ _ ⟨q1, rfl, ⟨a2, s2, rfl, ea2, fa2⟩, bq1_1⟩
    conv => cbv
    refine r_mcall m.sX (cWords_ok code a2 s2 h (by omega) (by omega)) ?_
    rintro _ _ ⟨q2, rfl, ⟨a3, s3, rfl, ea3, fa3⟩, bq2_1⟩
    conv => cbv
    refine r_mcall m.sX (cAmong_ok code a3 s3 ([3, 1001, -1]) (by simp) h (by omega) (by omega)) ?_
    rintro _ _ ⟨q3, rfl, ⟨a4, s4, rfl, ea4, fa4⟩, bq3⟩
    simp only [List.mem_cons, List.not_mem_nil, or_false] at bq3
    conv => cbv
    refine r_mcall m.sX (cAmong_ok code a4 s4 ([0, 1, 2, 5, 1000, q3]) (by simp) h (by omega) (by omega)) ?_
    rintro _ _ ⟨q4, rfl, ⟨a5, s5, rfl, ea5, fa5⟩, bq4⟩
    simp only [List.mem_cons, List.not_mem_nil, or_false] at bq4
    conv => cbv
    exact hQ (.tup [.isl 2 (rows cSort f), .fr 3 1 (rows cInt q1), .fr 9 1 (rows cStr q2), .int .i64 q4]) ⟨f, q1, q2, q4, rfl, (by first | omega | assumption | (simp; done) | (simp [*]; done) | (simp at *; omega)), (by first | omega | assumption | (simp; done) | (simp [*]; done) | (simp at *; omega)), (by first | omega | assumption | (simp; done) | (simp [*]; done) | (simp at *; omega))⟩   -- leaf 1

end Go.Proofs.Ytkcbhjnkpbeigaa.Ai
