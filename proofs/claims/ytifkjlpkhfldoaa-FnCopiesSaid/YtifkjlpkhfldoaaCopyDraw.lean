/- Contracts of what FnCopies draws. -/
import Derived.Test.YtifkjlpkhfldoaaCopy2
import Derived.Test.YtifkjlpkhfldoaaAiIceM
namespace Go.Proofs.Ytifkjlpkhfldoaa.Ai
open Go Go.Proofs
set_option maxRecDepth 10000
set_option maxHeartbeats 4000000
set_option linter.unusedVariables false
theorem OkM.iceR {P : Program} {f : FuncId} {cs args : List PV} {Q : PV → List PV → Prop} (h : OkM P f cs args (fun r cs' => Q (Ai.ice r) cs')) : OkM P f cs args Q :=
  h.iceE.mono fun r cs' ⟨r0, q, e⟩ => by rw [e]; exact q
def printL : List (List UInt8) := [[97], [98], [116, 104, 101], [32], [99, 97, 116], [111, 110], [101]]
theorem printL_len (q : List UInt8) (h : q ∈ ([[97], [98], [116, 104, 101], [32], [99, 97, 116], [111, 110], [101]] : List (List UInt8))) : 1 ≤ q.length ∧ q.length ≤ 3 := by
  simp only [List.mem_cons, List.not_mem_nil, or_false] at h
  rcases h with rfl | rfl | rfl | rfl | rfl | rfl | rfl <;> exact ⟨by decide, by decide⟩
theorem cOf_ok (code : List Int) (b0 t0 : Int) (list : List (List UInt8)) (h : CurIn code) (h0 : 0 ≤ b0) (hk : b0 ≤ 899999999999998000) (hl : 0 < list.length) (hm : list.length ≤ 200) : OkM Try.prog 134 (cCur code b0 t0) [.isl 1 (rows cStr list)] (fun r cs => ∃ (q : List UInt8), r = .str q ∧ CurTo code b0 2 cs ∧ (q ∈ list)) :=
  fnM_intro envOk fieldsOk mixed Try.func134 rfl fun κ X Y L Q m hQ => by
    conv => cbv
    refine r_lenR m.sX fun n1 hn1 mn1 => ?_
    conv => cbv
    refine r_mcall m.sX (cPick_ok code b0 t0 n1 h (by omega) (by omega)) ?_
    rintro _ _ ⟨q1, rfl, ⟨a1, s1, rfl, ea1, fa1⟩, bq1, cq1, dq1⟩
    conv => cbv
    refine r_index m.sX (by omega) (by omega) fun x1 hx1 => ?_
    conv => cbv
    have mx1 := get_mem hx1
    exact hQ (.str x1) (cCur code a1 s1) ⟨x1, rfl, ⟨a1, s1, rfl, by omega, by omega⟩, (by first | omega | exact mx1)⟩   -- leaf 1

theorem cOfL_ok (code : List Int) (b0 t0 : Int) (list : List (List UInt8)) (h : CurIn code) (h0 : 0 ≤ b0) (hk : b0 ≤ 899999999999998000) (hl : 0 < list.length) (hm : list.length ≤ 200) : OkM Try.prog 134 (cCur code b0 t0) [.isl 1 (list.map cStr)] (fun r cs => ∃ (q : List UInt8), r = .str q ∧ CurTo code b0 2 cs ∧ q ∈ list) := by
  have := cOf_ok code b0 t0 list h h0 hk hl hm
  rwa [rows_eq] at this
theorem cPrinted_ok (code : List Int) (b0 t0 : Int)  (h : CurIn code) (h0 : 0 ≤ b0) (hk : b0 ≤ 899999999999940000)  : OkM Try.prog 155 (cCur code b0 t0) [] (fun r cs => ∃ (q : List UInt8), r = .str q ∧ CurTo code b0 60 cs ∧ ((q.length : Int) ≤ 20)) :=
  fnM_intro envOk fieldsOk mixed Try.func155 rfl fun κ X Y L Q m hQ => by
    conv => cbv
    refine r_mcall m.sX (cPick_ok code b0 t0 12 h (by omega) (by omega)) ?_
    rintro _ _ ⟨n, rfl, ⟨a1, s1, rfl, ea1, fa1⟩, bn, cn, dn⟩
    conv => cbv
    refine r_loopF (α := Int × Int × List UInt8) m 17 [3, 4] [⟨0, 1, 0, 0, 0⟩] (fun σ => [(0, .optr 1 0 0 0 0), (3, .str σ.2.2), (4, .int .i64 n)]) (fun σ => [(1, 0, .box (cCur code σ.1 σ.2.1))])
      (fun σ => (b0 ≤ σ.1 ∧ σ.1 ≤ b0 + 2 + 2 * (σ.2.2.length : Int)) ∧ ((σ.2.2.length : Int) ≤ n + 2)) (fun σ => (n - (σ.2.2.length : Int)).toNat) (a1, s1, ([] : List UInt8)) ?_ ?_ ?_ ?_
    · cbv
    · cbv
    · exact ⟨(by (try dsimp only) <;> first | omega | rfl | (simp [*]; done)), (by (try dsimp only) <;> (simp only [List.length_nil]; omega))⟩
    rintro ⟨a2, s2, s_⟩ ⟨cu, sl⟩ E hE F hF
    dsimp only at cu sl
    conv => cbv
    refine r_slen (u := s_) m.sX fun n1 hn1 mn1 => ?_   -- n1 = length of s_
    conv => cbv
    refine r_lss m.sX (fun h1 => ?_) (fun h1 => ?_) <;> conv => cbv
    · refine r_mcall m.sX (cOfL_ok code a2 s2 ([([97] : List UInt8), ([98] : List UInt8), ([116, 104, 101] : List UInt8), ([32] : List UInt8), ([99, 97, 116] : List UInt8), ([111, 110] : List UInt8), ([101] : List UInt8)]) h (by omega) (by omega) (by first | rfl | assumption | omega | (simp only [List.length_append, List.length_cons, List.length_nil] at *; omega)) (by first | rfl | assumption | omega | (simp only [List.length_append, List.length_cons, List.length_nil] at *; omega))) ?_
      rintro _ _ ⟨q1, rfl, ⟨a3, s3, rfl, ea3, fa3⟩, bq1_1⟩
      have wl := printL_len q1 bq1_1
      conv => cbv
      refine r_scat (u := s_) (v := q1) m.sX (by first | omega | (simp only [List.length_cons, List.length_nil]; omega) | (simp; omega)) fun s__2 hs__2 => ?_   -- s__2 = s_ ++ q1
      have ls__2 : (s__2.length : Int) = s_.length + q1.length := by rw [hs__2, List.length_append, Int.natCast_add]
      try simp only [List.length_cons, List.length_nil] at ls__2
      conv => cbv
      refine hE _ (a3, s3, s__2) ?_ ?_ ⟨(by (try dsimp only) <;> first | omega | rfl | (simp [*]; done) | (rw [cu]; simp [*]; done)), (by (try dsimp only) <;> first | omega | rfl | (simp [*]; done) | (rw [sl]; simp [*]; done))⟩ (by first | omega | (dsimp only; omega))
      · cbv
      · cbv
    · refine hF _ _ ?_
      conv => cbv
      exact hQ (.str s_) (cCur code a2 s2) ⟨s_, rfl, ⟨a2, s2, rfl, by omega, by omega⟩, (by first | omega | assumption | (simp; done) | (simp [*]; done) | (simp at *; omega))⟩   -- leaf 1

theorem cPrinted_ex (code : List Int) (b0 t0 : Int) : ∃ r cs, (∃ (q : List UInt8), r = PV.str q ∧ CurTo code b0 60 cs ∧ ((q.length : Int) ≤ 20)) :=
  ⟨_, _, [], rfl, ⟨b0, t0, rfl, by omega, by omega⟩, (by first | omega | simp)⟩

theorem cProof_ok (code : List Int) (b0 t0 : Int)  (h : CurIn code) (h0 : 0 ≤ b0) (hk : b0 ≤ 899999999999000000)  : OkM Try.prog 154 (cCur code b0 t0) [] (fun r cs => ∃ (q : List (List UInt8)), r = .isl 1 (rows cStr q) ∧ CurTo code b0 1000 cs ∧ ((q.length : Int) ≤ 13)) :=
  OkM.iceR (fnM_intro envOk fieldsOk mixed Try.func154 rfl fun κ X Y L Q m hQ => by
    conv => cbv
    refine r_mcall m.sX (cPick_ok code b0 t0 3 h (by omega) (by omega)) ?_
    rintro _ _ ⟨q1, rfl, ⟨a1, s1, rfl, ea1, fa1⟩, bq1, cq1, dq1⟩
    conv => cbv
    refine r_addf m.sX (by omega) (by omega) fun n hn => ?_
    conv => cbv
    refine r_mcall m.sX (cOne_ok code a1 s1 16 h (by omega) (by omega)) ?_
    rintro _ _ ⟨q2, rfl, ⟨a2, s2, rfl, ea2, fa2⟩⟩
    conv => cbv
    rcases Bool.eq_false_or_eq_true q2 with rfl | rfl <;> conv => cbv
    · refine r_mcall m.sX (cAmong_ok code a2 s2 ([0, 12, 13]) (by simp) h (by omega) (by omega)) ?_
      rintro _ _ ⟨n_2, rfl, ⟨a3, s3, rfl, ea3, fa3⟩, bn_2⟩
      simp only [List.mem_cons, List.not_mem_nil, or_false] at bn_2
      conv => cbv
      refine r_loopF (α := Int × Int × List (List UInt8)) m 49 [4] [⟨0, 1, 0, 0, 0⟩, ⟨3, 25, 9, 1, 0⟩] (fun σ => [(0, .optr 1 0 0 0 0), (3, .osl 25 0), (4, .int .i64 n_2)]) (fun σ => [(1, 0, .box (cCur code σ.1 σ.2.1)), (25, 0, .row 9 1 (rows cStr σ.2.2))])
        (fun σ => ((σ.2.2.length : Int) ≤ n_2) ∧ (a3 ≤ σ.1 ∧ σ.1 ≤ a3 + 60 * (σ.2.2.length : Int))) (fun σ => (n_2 - (σ.2.2.length : Int)).toNat) (a3, s3, []) ?_ ?_ ?_ ?_
      · cbv
      · (try dsimp only); (try simp only [rows_cons, rows_nil]); cbv
      · exact ⟨(by (try dsimp only); first | omega | (simp only [List.length_nil]; omega) | (simp only [List.length_cons, List.length_nil]; omega)), (by (try dsimp only); first | omega | (simp only [List.length_nil]; omega) | (simp only [List.length_cons, List.length_nil]; omega))⟩
      rintro ⟨a4, s4, l⟩ ⟨ll1, cl1⟩ E hE F hF
      dsimp only at ll1 cl1
      conv => cbv
      refine r_lenR m.sX fun n1 hn1 mn1 => ?_
      conv => cbv
      refine r_lss m.sX (fun h1 => ?_) (fun h1 => ?_) <;> conv => cbv
      · refine r_mcall m.sX (cPrinted_ok code a4 s4 h (by omega) (by omega)) ?_
        rintro _ _ ⟨q3, rfl, ⟨a5, s5, rfl, ea5, fa5⟩, bq3_1⟩
        conv => cbv
        refine r_append1 (q3) m.sX rfl (by first | omega | (dsimp only; omega)) (by first | omega | (dsimp only; omega)) fun l_2 hl_2 => ?_
        conv => cbv
        have ll_2 : (l_2.length : Int) = l.length + 1 := by rw [hl_2]; first | done | (simp; done) | (simp; omega)
        refine hE _ (a5, s5, l_2) ?_ ?_ ⟨(by (try dsimp only); first | omega | (simp only [List.length_nil]; omega) | (simp only [List.length_cons, List.length_nil]; omega)), (by (try dsimp only); first | omega | (simp only [List.length_nil]; omega) | (simp only [List.length_cons, List.length_nil]; omega))⟩ (by first | omega | (dsimp only; omega))
        · cbv
        · cbv
      · refine hF _ _ ?_
        conv => cbv
        refine r_gtr m.sX (fun h2 => ?_) (fun h2 => ?_) <;> conv => cbv
        · refine r_mcall m.sX (cOne_ok code a4 s4 24 h (by omega) (by omega)) ?_
          rintro _ _ ⟨q4, rfl, ⟨a6, s6, rfl, ea6, fa6⟩⟩
          conv => cbv
          rcases Bool.eq_false_or_eq_true q4 with rfl | rfl <;> conv => cbv
          · refine r_mcall m.sX (cPick_ok code a6 s6 2 h (by omega) (by omega)) ?_
            rintro _ _ ⟨q5, rfl, ⟨a7, s7, rfl, ea7, fa7⟩, bq5, cq5, dq5⟩
            conv => cbv
            refine r_addf m.sX (by omega) (by omega) fun k hk => ?_
            conv => cbv
            refine r_loopF (α := Int × Int × List UInt8) m 49 [4, 5, 6] [⟨0, 1, 0, 0, 0⟩, ⟨3, 25, 9, 1, 0⟩] (fun σ => [(0, .optr 1 0 0 0 0), (3, .osl 25 0), (4, .int .i64 n_2), (5, .str σ.2.2), (6, .int .i64 k)]) (fun σ => [(1, 0, .box (cCur code σ.1 σ.2.1)), (25, 0, .row 9 1 (rows cStr l))])
              (fun σ => a7 ≤ σ.1 ∧ σ.1 ≤ a7) (fun σ => (k - (σ.2.2.length : Int)).toNat) (a7, s7, ([] : List UInt8)) ?_ ?_ ?_ ?_
            · cbv
            · (try dsimp only); (try simp only [rows_cons, rows_nil]); cbv
            · exact (by (try dsimp only) <;> first | omega | rfl | (simp [*]; done))
            rintro ⟨a8, s8, s_⟩ cu E hE F hF
            dsimp only at cu
            conv => cbv
            refine r_slen (u := s_) m.sX fun n2 hn2 mn2 => ?_   -- n2 = length of s_
            conv => cbv
            refine r_lss m.sX (fun h3 => ?_) (fun h3 => ?_) <;> conv => cbv
            · refine r_scat (u := s_) (v := ([120] : List UInt8)) m.sX (by first | omega | (simp only [List.length_cons, List.length_nil]; omega) | (simp; omega)) fun s__2 hs__2 => ?_   -- s__2 = s_ ++ ([120] : List UInt8)
              have ls__2 : (s__2.length : Int) = s_.length + ([120] : List UInt8).length := by rw [hs__2, List.length_append, Int.natCast_add]
              try simp only [List.length_cons, List.length_nil] at ls__2
              conv => cbv
              refine hE _ (a8, s8, s__2) ?_ ?_ (by (try dsimp only) <;> first | omega | rfl | (simp [*]; done) | (rw [cu]; simp [*]; done)) (by first | omega | (dsimp only; omega))
              · cbv
              · cbv
            · refine hF _ _ ?_
              conv => cbv
              refine r_mcall m.sX (cPick_ok code a8 s8 n_2 h (by omega) (by omega)) ?_
              rintro _ _ ⟨q6, rfl, ⟨a9, s9, rfl, ea9, fa9⟩, bq6, cq6, dq6⟩
              conv => cbv
              refine r_mcall m.sX (cOfL_ok code a9 s9 ([s_, ([65] : List UInt8), ([97, 46, 98] : List UInt8)]) h (by omega) (by omega) (by first | rfl | assumption | omega | (simp only [List.length_append, List.length_cons, List.length_nil] at *; omega)) (by first | rfl | assumption | omega | (simp only [List.length_append, List.length_cons, List.length_nil] at *; omega))) ?_
              rintro _ _ ⟨q7, rfl, ⟨a10, s10, rfl, ea10, fa10⟩, bq7_1⟩
              conv => cbv
              refine r_oindex m.sX (by omega) (by omega) ?_
              conv => cbv
              obtain ⟨y1, hy1⟩ := get_ex (xs := l) (i := Int.toNat q6) (by omega)
              refine r_ostore (l := Int.toNat q6) q7 m.sX hy1 (Nat.le_of_ble_eq_true rfl) rfl fun l_3 hl_3 => ?_   -- l_3 = l.set q6 q7
              have ll_3 : (l_3.length : Int) = l.length := by rw [hl_3]; first | done | (simp; done) | (simp; omega)
              conv => cbv
              exact hQ (.fr 9 1 (rows cStr l_3)) (cCur code a10 s10) ⟨l_3, rfl, ⟨a10, s10, rfl, by omega, by omega⟩, (by first | omega | assumption | (simp; done) | (simp [*]; done) | (simp at *; omega))⟩   -- leaf 1
          · exact hQ (.fr 9 1 (rows cStr l)) (cCur code a6 s6) ⟨l, rfl, ⟨a6, s6, rfl, by omega, by omega⟩, (by first | omega | assumption | (simp; done) | (simp [*]; done) | (simp at *; omega))⟩   -- leaf 2
        · exact hQ (.fr 9 1 (rows cStr l)) (cCur code a4 s4) ⟨l, rfl, ⟨a4, s4, rfl, by omega, by omega⟩, (by first | omega | assumption | (simp; done) | (simp [*]; done) | (simp at *; omega))⟩   -- leaf 3
    · refine r_loopF (α := Int × Int × List (List UInt8)) m 49 [4] [⟨0, 1, 0, 0, 0⟩, ⟨3, 25, 9, 1, 0⟩] (fun σ => [(0, .optr 1 0 0 0 0), (3, .osl 25 0), (4, .int .i64 n)]) (fun σ => [(1, 0, .box (cCur code σ.1 σ.2.1)), (25, 0, .row 9 1 (rows cStr σ.2.2))])
        (fun σ => ((σ.2.2.length : Int) ≤ n) ∧ (a2 ≤ σ.1 ∧ σ.1 ≤ a2 + 60 * (σ.2.2.length : Int))) (fun σ => (n - (σ.2.2.length : Int)).toNat) (a2, s2, []) ?_ ?_ ?_ ?_
      · cbv
      · (try dsimp only); (try simp only [rows_cons, rows_nil]); cbv
      · exact ⟨(by (try dsimp only); first | omega | (simp only [List.length_nil]; omega) | (simp only [List.length_cons, List.length_nil]; omega)), (by (try dsimp only); first | omega | (simp only [List.length_nil]; omega) | (simp only [List.length_cons, List.length_nil]; omega))⟩
      rintro ⟨a11, s11, l_4⟩ ⟨ll3, cl3⟩ E hE F hF
      dsimp only at ll3 cl3
      conv => cbv
      refine r_lenR m.sX fun n3 hn3 mn3 => ?_
      conv => cbv
      refine r_lss m.sX (fun h4 => ?_) (fun h4 => ?_) <;> conv => cbv
      · refine r_mcall m.sX (cPrinted_ok code a11 s11 h (by omega) (by omega)) ?_
        rintro _ _ ⟨q8, rfl, ⟨a12, s12, rfl, ea12, fa12⟩, bq8_1⟩
        conv => cbv
        refine r_append1 (q8) m.sX rfl (by first | omega | (dsimp only; omega)) (by first | omega | (dsimp only; omega)) fun l_5 hl_5 => ?_
        conv => cbv
        have ll_5 : (l_5.length : Int) = l_4.length + 1 := by rw [hl_5]; first | done | (simp; done) | (simp; omega)
        refine hE _ (a12, s12, l_5) ?_ ?_ ⟨(by (try dsimp only); first | omega | (simp only [List.length_nil]; omega) | (simp only [List.length_cons, List.length_nil]; omega)), (by (try dsimp only); first | omega | (simp only [List.length_nil]; omega) | (simp only [List.length_cons, List.length_nil]; omega))⟩ (by first | omega | (dsimp only; omega))
        · cbv
        · cbv
      · refine hF _ _ ?_
        conv => cbv
        refine r_gtr m.sX (fun h5 => ?_) (fun h5 => ?_) <;> conv => cbv
        · refine r_mcall m.sX (cOne_ok code a11 s11 24 h (by omega) (by omega)) ?_
          rintro _ _ ⟨q9, rfl, ⟨a13, s13, rfl, ea13, fa13⟩⟩
          conv => cbv
          rcases Bool.eq_false_or_eq_true q9 with rfl | rfl <;> conv => cbv
          · refine r_mcall m.sX (cPick_ok code a13 s13 2 h (by omega) (by omega)) ?_
            rintro _ _ ⟨q10, rfl, ⟨a14, s14, rfl, ea14, fa14⟩, bq10, cq10, dq10⟩
            conv => cbv
            refine r_addf m.sX (by omega) (by omega) fun k_2 hk_2 => ?_
            conv => cbv
            refine r_loopF (α := Int × Int × List UInt8) m 49 [4, 5, 6] [⟨0, 1, 0, 0, 0⟩, ⟨3, 25, 9, 1, 0⟩] (fun σ => [(0, .optr 1 0 0 0 0), (3, .osl 25 0), (4, .int .i64 n), (5, .str σ.2.2), (6, .int .i64 k_2)]) (fun σ => [(1, 0, .box (cCur code σ.1 σ.2.1)), (25, 0, .row 9 1 (rows cStr l_4))])
              (fun σ => a14 ≤ σ.1 ∧ σ.1 ≤ a14) (fun σ => (k_2 - (σ.2.2.length : Int)).toNat) (a14, s14, ([] : List UInt8)) ?_ ?_ ?_ ?_
            · cbv
            · (try dsimp only); (try simp only [rows_cons, rows_nil]); cbv
            · exact (by (try dsimp only) <;> first | omega | rfl | (simp [*]; done))
            rintro ⟨a15, s15, s__3⟩ cu E hE F hF
            dsimp only at cu
            conv => cbv
            refine r_slen (u := s__3) m.sX fun n4 hn4 mn4 => ?_   -- n4 = length of s__3
            conv => cbv
            refine r_lss m.sX (fun h6 => ?_) (fun h6 => ?_) <;> conv => cbv
            · refine r_scat (u := s__3) (v := ([120] : List UInt8)) m.sX (by first | omega | (simp only [List.length_cons, List.length_nil]; omega) | (simp; omega)) fun s__4 hs__4 => ?_   -- s__4 = s__3 ++ ([120] : List UInt8)
              have ls__4 : (s__4.length : Int) = s__3.length + ([120] : List UInt8).length := by rw [hs__4, List.length_append, Int.natCast_add]
              try simp only [List.length_cons, List.length_nil] at ls__4
              conv => cbv
              refine hE _ (a15, s15, s__4) ?_ ?_ (by (try dsimp only) <;> first | omega | rfl | (simp [*]; done) | (rw [cu]; simp [*]; done)) (by first | omega | (dsimp only; omega))
              · cbv
              · cbv
            · refine hF _ _ ?_
              conv => cbv
              refine r_mcall m.sX (cPick_ok code a15 s15 n h (by omega) (by omega)) ?_
              rintro _ _ ⟨q11, rfl, ⟨a16, s16, rfl, ea16, fa16⟩, bq11, cq11, dq11⟩
              conv => cbv
              refine r_mcall m.sX (cOfL_ok code a16 s16 ([s__3, ([65] : List UInt8), ([97, 46, 98] : List UInt8)]) h (by omega) (by omega) (by first | rfl | assumption | omega | (simp only [List.length_append, List.length_cons, List.length_nil] at *; omega)) (by first | rfl | assumption | omega | (simp only [List.length_append, List.length_cons, List.length_nil] at *; omega))) ?_
              rintro _ _ ⟨q12, rfl, ⟨a17, s17, rfl, ea17, fa17⟩, bq12_1⟩
              conv => cbv
              refine r_oindex m.sX (by omega) (by omega) ?_
              conv => cbv
              obtain ⟨y2, hy2⟩ := get_ex (xs := l_4) (i := Int.toNat q11) (by omega)
              refine r_ostore (l := Int.toNat q11) q12 m.sX hy2 (Nat.le_of_ble_eq_true rfl) rfl fun l_6 hl_6 => ?_   -- l_6 = l_4.set q11 q12
              have ll_6 : (l_6.length : Int) = l_4.length := by rw [hl_6]; first | done | (simp; done) | (simp; omega)
              conv => cbv
              exact hQ (.fr 9 1 (rows cStr l_6)) (cCur code a17 s17) ⟨l_6, rfl, ⟨a17, s17, rfl, by omega, by omega⟩, (by first | omega | assumption | (simp; done) | (simp [*]; done) | (simp at *; omega))⟩   -- leaf 4
          · exact hQ (.fr 9 1 (rows cStr l_4)) (cCur code a13 s13) ⟨l_4, rfl, ⟨a13, s13, rfl, by omega, by omega⟩, (by first | omega | assumption | (simp; done) | (simp [*]; done) | (simp at *; omega))⟩   -- leaf 5
        · exact hQ (.fr 9 1 (rows cStr l_4)) (cCur code a11 s11) ⟨l_4, rfl, ⟨a11, s11, rfl, by omega, by omega⟩, (by first | omega | assumption | (simp; done) | (simp [*]; done) | (simp at *; omega))⟩)   -- leaf 6

theorem cProof_ex (code : List Int) (b0 t0 : Int) : ∃ r cs, (∃ (q : List (List UInt8)), r = PV.isl 1 (rows cStr q) ∧ CurTo code b0 1000 cs ∧ ((q.length : Int) ≤ 13)) :=
  ⟨_, _, [], rfl, ⟨b0, t0, rfl, by omega, by omega⟩, (by first | omega | simp)⟩

theorem lens_app {l : List (List Tx)} {n : Nat} (h : ∀ p ∈ l, p.length = n) {y : List Tx} (hy : y.length = n) : ∀ p ∈ l ++ [y], p.length = n := fun x hx => by
  rcases List.mem_append.1 hx with hx | hx
  · exact h x hx
  · rw [List.mem_singleton.1 hx]; exact hy
theorem lens_set {l : List (List Tx)} {n : Nat} (h : ∀ p ∈ l, p.length = n) {k : Nat} {y : List Tx} (hn : n ≤ 13) (hy : y.length = n + 1) : ∀ p ∈ l.set k y, p.length ≤ 14 := fun x hx => by
  rcases List.mem_or_eq_of_mem_set hx with hx | rfl
  · have := h x hx; omega
  · omega
theorem lens_le {l : List (List Tx)} {n : Nat} (h : ∀ p ∈ l, p.length = n) (hn : n ≤ 13) : ∀ p ∈ l, p.length ≤ 14 := fun x hx => by have := h x hx; omega
theorem cStates_ok (code : List Int) (b0 t0 : Int)  (h : CurIn code) (h0 : 0 ≤ b0) (hk : b0 ≤ 899999999970000000)  : OkM Try.prog 99 (cCur code b0 t0) [] (fun r cs => ∃ (q : List (List (List UInt8))), r = .isl 1 (rows (cSl 1 cStr) q) ∧ CurTo code b0 30000 cs ∧ ((q.length : Int) ≤ 7) ∧ (∀ p ∈ q, p.length ≤ 14)) :=
  OkM.iceR (OkM.unnil 45 1 (fnM_intro envOk fieldsOk mixed Try.func99 rfl fun κ X Y L Q m hQ => by
    conv => cbv
    refine r_mcall m.sX (cProof_ok code b0 t0 h (by omega) (by omega)) ?_
    rintro _ _ ⟨lines, rfl, ⟨a1, s1, rfl, ea1, fa1⟩, blines_1⟩
    conv => cbv
    refine r_mcall m.sX (cPick_ok code a1 s1 4 h (by omega) (by omega)) ?_
    rintro _ _ ⟨q1, rfl, ⟨a2, s2, rfl, ea2, fa2⟩, bq1, cq1, dq1⟩
    conv => cbv
    refine r_addf m.sX (by omega) (by omega) fun n hn => ?_
    conv => cbv
    refine r_mcall m.sX (cOne_ok code a2 s2 12 h (by omega) (by omega)) ?_
    rintro _ _ ⟨q2, rfl, ⟨a3, s3, rfl, ea3, fa3⟩⟩
    conv => cbv
    rcases Bool.eq_false_or_eq_true q2 with rfl | rfl <;> conv => cbv
    · refine r_mcall m.sX (cPick_ok code a3 s3 2 h (by omega) (by omega)) ?_
      rintro _ _ ⟨q3, rfl, ⟨a4, s4, rfl, ea4, fa4⟩, bq3, cq3, dq3⟩
      conv => cbv
      refine r_addf m.sX (by omega) (by omega) fun n_2 hn_2 => ?_
      conv => cbv
      refine r_loopF (α := Int × Int × List (List (List UInt8))) m 80 [3, 5] [⟨0, 1, 0, 0, 0⟩, ⟨4, 33, 45, 1, 0⟩] (fun σ => [(0, .optr 1 0 0 0 0), (3, .isl 1 (rows cStr lines)), (4, .osl 33 0), (5, .int .i64 n_2)]) (fun σ => [(1, 0, .box (cCur code σ.1 σ.2.1)), (33, 0, .row 45 1 (rows (cSl 1 cStr) σ.2.2))])
        (fun σ => ((σ.2.2.length : Int) ≤ n_2) ∧ (a4 ≤ σ.1 ∧ σ.1 ≤ a4 + 2000 * (σ.2.2.length : Int)) ∧ (1 ≤ (σ.2.2.length : Int)) ∧ (∀ p ∈ σ.2.2, p.length = lines.length)) (fun σ => (n_2 - (σ.2.2.length : Int)).toNat) (a4, s4, [lines]) ?_ ?_ ?_ ?_
      · cbv
      · (try dsimp only); (try simp only [rows_cons, rows_nil]); cbv
      · exact ⟨(by (try dsimp only); first | omega | (simp only [List.length_nil]; omega) | (simp only [List.length_cons, List.length_nil]; omega)), (by (try dsimp only); first | omega | (simp only [List.length_nil]; omega) | (simp only [List.length_cons, List.length_nil]; omega)), (by (try dsimp only) <;> first | omega | rfl | (simp [*]; done)), (by (try dsimp only) <;> (intro p hp; rw [List.mem_singleton.1 hp]))⟩
      rintro ⟨a5, s5, l⟩ ⟨ll1, cl1, nn, pw⟩ E hE F hF
      dsimp only at ll1 cl1 nn pw
      conv => cbv
      refine r_lenR m.sX fun n1 hn1 mn1 => ?_
      conv => cbv
      refine r_lss m.sX (fun h1 => ?_) (fun h1 => ?_) <;> conv => cbv
      · refine r_lenR m.sX fun n2 hn2 mn2 => ?_
        conv => cbv
        refine r_subf m.sX (by omega) (by omega) fun r1 hr1 => ?_
        conv => cbv
        refine r_oindex m.sX (by omega) (by omega) ?_
        conv => cbv
        obtain ⟨x1, hx1⟩ := get_ex (xs := l) (i := Int.toNat r1) (by omega)
        have mx1 := get_mem hx1
        have px := pw x1 mx1
        refine r_oload m.sX hx1 (Nat.le_of_ble_eq_true rfl) ?_
        conv => cbv
        refine r_append0R m.sX (by first | omega | (dsimp only; omega)) (by first | omega | (dsimp only; omega)) fun next hnext => ?_
        conv => cbv
        have lnext : (next.length : Int) = x1.length := by rw [hnext]; first | done | (simp; done) | (simp; omega)
        refine r_lenR m.sX fun n3 hn3 mn3 => ?_
        conv => cbv
        refine r_gtr m.sX (fun h2 => ?_) (fun h2 => ?_) <;> conv => cbv
        · refine r_mcall m.sX (cOne_ok code a5 s5 6 h (by omega) (by omega)) ?_
          rintro _ _ ⟨q4, rfl, ⟨a6, s6, rfl, ea6, fa6⟩⟩
          conv => cbv
          rcases Bool.eq_false_or_eq_true q4 with rfl | rfl <;> conv => cbv
          · refine r_append1 (next) m.sX rfl (by first | omega | (dsimp only; omega)) (by first | omega | (dsimp only; omega)) fun l_2 hl_2 => ?_
            conv => cbv
            have ll_2 : (l_2.length : Int) = l.length + 1 := by rw [hl_2]; first | done | (simp; done) | (simp; omega)
            refine hE _ (a6, s6, l_2) ?_ ?_ ⟨(by (try dsimp only); first | omega | (simp only [List.length_nil]; omega) | (simp only [List.length_cons, List.length_nil]; omega)), (by (try dsimp only); first | omega | (simp only [List.length_nil]; omega) | (simp only [List.length_cons, List.length_nil]; omega)), (by (try dsimp only) <;> first | omega | rfl | (simp [*]; done) | (rw [nn]; simp [*]; done)), (by (try dsimp only) <;> (rw [hl_2]; exact lens_app pw (by omega)))⟩ (by first | omega | (dsimp only; omega))
            · cbv
            · cbv
          · refine r_lenR m.sX fun n4 hn4 mn4 => ?_
            conv => cbv
            refine r_mcall m.sX (cPick_ok code a6 s6 n4 h (by omega) (by omega)) ?_
            rintro _ _ ⟨k, rfl, ⟨a7, s7, rfl, ea7, fa7⟩, bk, ck, dk⟩
            conv => cbv
            refine r_mcall m.sX (cPrinted_ok code a7 s7 h (by omega) (by omega)) ?_
            rintro _ _ ⟨q5, rfl, ⟨a8, s8, rfl, ea8, fa8⟩, bq5_1⟩
            conv => cbv
            refine r_oindex m.sX (by omega) (by omega) ?_
            conv => cbv
            obtain ⟨y1, hy1⟩ := get_ex (xs := next) (i := Int.toNat k) (by omega)
            refine r_ostore (l := Int.toNat k) q5 m.sX hy1 (Nat.le_of_ble_eq_true rfl) rfl fun zs1 hzs1 => ?_   -- zs1 = next.set k q5
            have lzs1 : (zs1.length : Int) = next.length := by rw [hzs1]; first | done | (simp; done) | (simp; omega)
            conv => cbv
            refine r_mcall m.sX (cOne_ok code a8 s8 3 h (by omega) (by omega)) ?_
            rintro _ _ ⟨q6, rfl, ⟨a9, s9, rfl, ea9, fa9⟩⟩
            conv => cbv
            rcases Bool.eq_false_or_eq_true q6 with rfl | rfl <;> conv => cbv
            · refine r_oindex m.sX (by omega) (by omega) ?_
              conv => cbv
              obtain ⟨x2, hx2⟩ := get_ex (xs := l) (i := Int.toNat 0) (by omega)
              have mx2 := get_mem hx2
              have px2 := pw x2 mx2
              refine r_oload m.sX hx2 (Nat.le_of_ble_eq_true rfl) ?_
              conv => cbv
              refine r_index m.sX (by omega) (by omega) fun x3 hx3 => ?_
              conv => cbv
              have mx3 := get_mem hx3
              refine r_oindex m.sX (by omega) (by omega) ?_
              conv => cbv
              obtain ⟨y2, hy2⟩ := get_ex (xs := zs1) (i := Int.toNat k) (by omega)
              refine r_ostore (l := Int.toNat k) x3 m.sX hy2 (Nat.le_of_ble_eq_true rfl) rfl fun zs2 hzs2 => ?_   -- zs2 = zs1.set k x3
              have lzs2 : (zs2.length : Int) = zs1.length := by rw [hzs2]; first | done | (simp; done) | (simp; omega)
              conv => cbv
              refine r_append1 (zs2) m.sX rfl (by first | omega | (dsimp only; omega)) (by first | omega | (dsimp only; omega)) fun l_3 hl_3 => ?_
              conv => cbv
              have ll_3 : (l_3.length : Int) = l.length + 1 := by rw [hl_3]; first | done | (simp; done) | (simp; omega)
              refine hE _ (a9, s9, l_3) ?_ ?_ ⟨(by (try dsimp only); first | omega | (simp only [List.length_nil]; omega) | (simp only [List.length_cons, List.length_nil]; omega)), (by (try dsimp only); first | omega | (simp only [List.length_nil]; omega) | (simp only [List.length_cons, List.length_nil]; omega)), (by (try dsimp only) <;> first | omega | rfl | (simp [*]; done) | (rw [nn]; simp [*]; done)), (by (try dsimp only) <;> (rw [hl_3]; exact lens_app pw (by omega)))⟩ (by first | omega | (dsimp only; omega))
              · cbv
              · cbv
            · refine r_append1 (zs1) m.sX rfl (by first | omega | (dsimp only; omega)) (by first | omega | (dsimp only; omega)) fun l_4 hl_4 => ?_
              conv => cbv
              have ll_4 : (l_4.length : Int) = l.length + 1 := by rw [hl_4]; first | done | (simp; done) | (simp; omega)
              refine hE _ (a9, s9, l_4) ?_ ?_ ⟨(by (try dsimp only); first | omega | (simp only [List.length_nil]; omega) | (simp only [List.length_cons, List.length_nil]; omega)), (by (try dsimp only); first | omega | (simp only [List.length_nil]; omega) | (simp only [List.length_cons, List.length_nil]; omega)), (by (try dsimp only) <;> first | omega | rfl | (simp [*]; done) | (rw [nn]; simp [*]; done)), (by (try dsimp only) <;> (rw [hl_4]; exact lens_app pw (by omega)))⟩ (by first | omega | (dsimp only; omega))
              · cbv
              · cbv
        · refine r_append1 (next) m.sX rfl (by first | omega | (dsimp only; omega)) (by first | omega | (dsimp only; omega)) fun l_5 hl_5 => ?_
          conv => cbv
          have ll_5 : (l_5.length : Int) = l.length + 1 := by rw [hl_5]; first | done | (simp; done) | (simp; omega)
          refine hE _ (a5, s5, l_5) ?_ ?_ ⟨(by (try dsimp only); first | omega | (simp only [List.length_nil]; omega) | (simp only [List.length_cons, List.length_nil]; omega)), (by (try dsimp only); first | omega | (simp only [List.length_nil]; omega) | (simp only [List.length_cons, List.length_nil]; omega)), (by (try dsimp only) <;> first | omega | rfl | (simp [*]; done) | (rw [nn]; simp [*]; done)), (by (try dsimp only) <;> (rw [hl_5]; exact lens_app pw (by omega)))⟩ (by first | omega | (dsimp only; omega))
          · cbv
          · cbv
      · refine hF _ _ ?_
        conv => cbv
        refine r_mcall m.sX (cPick_ok code a5 s5 24 h (by omega) (by omega)) ?_
        rintro _ _ ⟨q7, rfl, ⟨a10, s10, rfl, ea10, fa10⟩, bq7, cq7, dq7⟩
        have pe := lens_le pw (by omega)
        conv => cbv
        refine r_eql m.sX (fun h3 => ?_) (fun h3 => ?_) <;> conv => cbv
        · exact hQ (.nil) (cCur code a10 s10) ⟨[], (by first | rfl | (simp only [rows_nil]; rfl) | (simp only [rows_cons, rows_nil]; rfl)), ⟨a10, s10, rfl, by omega, by omega⟩, (by first | omega | assumption | (simp; done) | (simp [*]; done) | (simp at *; omega)), (by first | omega | assumption | (simp; done) | (simp [*]; done) | (simp at *; omega))⟩   -- leaf 1
        · refine r_eql m.sX (fun h4 => ?_) (fun h4 => ?_) <;> conv => cbv
          · refine r_subf m.sX (by omega) (by omega) fun r2 hr2 => ?_
            conv => cbv
            refine r_append0R m.sX (by first | omega | (dsimp only; omega)) (by first | omega | (dsimp only; omega)) fun zs3 hzs3 => ?_
            conv => cbv
            have lzs3 : (zs3.length : Int) = lines.length := by rw [hzs3]; first | done | (simp; done) | (simp; omega)
            refine r_append1 (([120] : List UInt8)) m.sX rfl (by first | omega | (dsimp only; omega)) (by first | omega | (dsimp only; omega)) fun zs4 hzs4 => ?_
            conv => cbv
            have lzs4 : (zs4.length : Int) = zs3.length + 1 := by rw [hzs4]; first | done | (simp; done) | (simp; omega)
            refine r_oindex m.sX (by omega) (by omega) ?_
            conv => cbv
            obtain ⟨y3, hy3⟩ := get_ex (xs := l) (i := Int.toNat r2) (by omega)
            refine r_ostore (l := Int.toNat r2) zs4 m.sX hy3 (Nat.le_of_ble_eq_true rfl) rfl fun l_6 hl_6 => ?_   -- l_6 = l.set r2 zs4
            have ll_6 : (l_6.length : Int) = l.length := by rw [hl_6]; first | done | (simp; done) | (simp; omega)
            have pz : ∀ p ∈ l_6, p.length ≤ 14 := (by rw [hl_6]; exact lens_set pw (by omega) (by omega))
            conv => cbv
            exact hQ (.fr 45 1 (rows (cSl 1 cStr) l_6)) (cCur code a10 s10) ⟨l_6, rfl, ⟨a10, s10, rfl, by omega, by omega⟩, (by first | omega | assumption | (simp; done) | (simp [*]; done) | (simp at *; omega)), (by first | omega | assumption | (simp; done) | (simp [*]; done) | (simp at *; omega))⟩   -- leaf 2
          · exact hQ (.fr 45 1 (rows (cSl 1 cStr) l)) (cCur code a10 s10) ⟨l, rfl, ⟨a10, s10, rfl, by omega, by omega⟩, (by first | omega | assumption | (simp; done) | (simp [*]; done) | (simp at *; omega)), (by first | omega | assumption | (simp; done) | (simp [*]; done) | (simp at *; omega))⟩   -- leaf 3
    · refine r_loopF (α := Int × Int × List (List (List UInt8))) m 80 [3, 5] [⟨0, 1, 0, 0, 0⟩, ⟨4, 33, 45, 1, 0⟩] (fun σ => [(0, .optr 1 0 0 0 0), (3, .isl 1 (rows cStr lines)), (4, .osl 33 0), (5, .int .i64 n)]) (fun σ => [(1, 0, .box (cCur code σ.1 σ.2.1)), (33, 0, .row 45 1 (rows (cSl 1 cStr) σ.2.2))])
        (fun σ => ((σ.2.2.length : Int) ≤ n) ∧ (a3 ≤ σ.1 ∧ σ.1 ≤ a3 + 2000 * (σ.2.2.length : Int)) ∧ (1 ≤ (σ.2.2.length : Int)) ∧ (∀ p ∈ σ.2.2, p.length = lines.length)) (fun σ => (n - (σ.2.2.length : Int)).toNat) (a3, s3, [lines]) ?_ ?_ ?_ ?_
      · cbv
      · (try dsimp only); (try simp only [rows_cons, rows_nil]); cbv
      · exact ⟨(by (try dsimp only); first | omega | (simp only [List.length_nil]; omega) | (simp only [List.length_cons, List.length_nil]; omega)), (by (try dsimp only); first | omega | (simp only [List.length_nil]; omega) | (simp only [List.length_cons, List.length_nil]; omega)), (by (try dsimp only) <;> first | omega | rfl | (simp [*]; done)), (by (try dsimp only) <;> (intro p hp; rw [List.mem_singleton.1 hp]))⟩
      rintro ⟨a11, s11, l_7⟩ ⟨ll2, cl2, nn, pw⟩ E hE F hF
      dsimp only at ll2 cl2 nn pw
      conv => cbv
      refine r_lenR m.sX fun n5 hn5 mn5 => ?_
      conv => cbv
      refine r_lss m.sX (fun h5 => ?_) (fun h5 => ?_) <;> conv => cbv
      · refine r_lenR m.sX fun n6 hn6 mn6 => ?_
        conv => cbv
        refine r_subf m.sX (by omega) (by omega) fun r3 hr3 => ?_
        conv => cbv
        refine r_oindex m.sX (by omega) (by omega) ?_
        conv => cbv
        obtain ⟨x4, hx4⟩ := get_ex (xs := l_7) (i := Int.toNat r3) (by omega)
        have mx4 := get_mem hx4
        have px := pw x4 mx4
        refine r_oload m.sX hx4 (Nat.le_of_ble_eq_true rfl) ?_
        conv => cbv
        refine r_append0R m.sX (by first | omega | (dsimp only; omega)) (by first | omega | (dsimp only; omega)) fun next_2 hnext_2 => ?_
        conv => cbv
        have lnext_2 : (next_2.length : Int) = x4.length := by rw [hnext_2]; first | done | (simp; done) | (simp; omega)
        refine r_lenR m.sX fun n7 hn7 mn7 => ?_
        conv => cbv
        refine r_gtr m.sX (fun h6 => ?_) (fun h6 => ?_) <;> conv => cbv
        · refine r_mcall m.sX (cOne_ok code a11 s11 6 h (by omega) (by omega)) ?_
          rintro _ _ ⟨q8, rfl, ⟨a12, s12, rfl, ea12, fa12⟩⟩
          conv => cbv
          rcases Bool.eq_false_or_eq_true q8 with rfl | rfl <;> conv => cbv
          · refine r_append1 (next_2) m.sX rfl (by first | omega | (dsimp only; omega)) (by first | omega | (dsimp only; omega)) fun l_8 hl_8 => ?_
            conv => cbv
            have ll_8 : (l_8.length : Int) = l_7.length + 1 := by rw [hl_8]; first | done | (simp; done) | (simp; omega)
            refine hE _ (a12, s12, l_8) ?_ ?_ ⟨(by (try dsimp only); first | omega | (simp only [List.length_nil]; omega) | (simp only [List.length_cons, List.length_nil]; omega)), (by (try dsimp only); first | omega | (simp only [List.length_nil]; omega) | (simp only [List.length_cons, List.length_nil]; omega)), (by (try dsimp only) <;> first | omega | rfl | (simp [*]; done) | (rw [nn]; simp [*]; done)), (by (try dsimp only) <;> (rw [hl_8]; exact lens_app pw (by omega)))⟩ (by first | omega | (dsimp only; omega))
            · cbv
            · cbv
          · refine r_lenR m.sX fun n8 hn8 mn8 => ?_
            conv => cbv
            refine r_mcall m.sX (cPick_ok code a12 s12 n8 h (by omega) (by omega)) ?_
            rintro _ _ ⟨k_2, rfl, ⟨a13, s13, rfl, ea13, fa13⟩, bk_2, ck_2, dk_2⟩
            conv => cbv
            refine r_mcall m.sX (cPrinted_ok code a13 s13 h (by omega) (by omega)) ?_
            rintro _ _ ⟨q9, rfl, ⟨a14, s14, rfl, ea14, fa14⟩, bq9_1⟩
            conv => cbv
            refine r_oindex m.sX (by omega) (by omega) ?_
            conv => cbv
            obtain ⟨y4, hy4⟩ := get_ex (xs := next_2) (i := Int.toNat k_2) (by omega)
            refine r_ostore (l := Int.toNat k_2) q9 m.sX hy4 (Nat.le_of_ble_eq_true rfl) rfl fun zs5 hzs5 => ?_   -- zs5 = next_2.set k_2 q9
            have lzs5 : (zs5.length : Int) = next_2.length := by rw [hzs5]; first | done | (simp; done) | (simp; omega)
            conv => cbv
            refine r_mcall m.sX (cOne_ok code a14 s14 3 h (by omega) (by omega)) ?_
            rintro _ _ ⟨q10, rfl, ⟨a15, s15, rfl, ea15, fa15⟩⟩
            conv => cbv
            rcases Bool.eq_false_or_eq_true q10 with rfl | rfl <;> conv => cbv
            · refine r_oindex m.sX (by omega) (by omega) ?_
              conv => cbv
              obtain ⟨x5, hx5⟩ := get_ex (xs := l_7) (i := Int.toNat 0) (by omega)
              have mx5 := get_mem hx5
              have px2 := pw x5 mx5
              refine r_oload m.sX hx5 (Nat.le_of_ble_eq_true rfl) ?_
              conv => cbv
              refine r_index m.sX (by omega) (by omega) fun x6 hx6 => ?_
              conv => cbv
              have mx6 := get_mem hx6
              refine r_oindex m.sX (by omega) (by omega) ?_
              conv => cbv
              obtain ⟨y5, hy5⟩ := get_ex (xs := zs5) (i := Int.toNat k_2) (by omega)
              refine r_ostore (l := Int.toNat k_2) x6 m.sX hy5 (Nat.le_of_ble_eq_true rfl) rfl fun zs6 hzs6 => ?_   -- zs6 = zs5.set k_2 x6
              have lzs6 : (zs6.length : Int) = zs5.length := by rw [hzs6]; first | done | (simp; done) | (simp; omega)
              conv => cbv
              refine r_append1 (zs6) m.sX rfl (by first | omega | (dsimp only; omega)) (by first | omega | (dsimp only; omega)) fun l_9 hl_9 => ?_
              conv => cbv
              have ll_9 : (l_9.length : Int) = l_7.length + 1 := by rw [hl_9]; first | done | (simp; done) | (simp; omega)
              refine hE _ (a15, s15, l_9) ?_ ?_ ⟨(by (try dsimp only); first | omega | (simp only [List.length_nil]; omega) | (simp only [List.length_cons, List.length_nil]; omega)), (by (try dsimp only); first | omega | (simp only [List.length_nil]; omega) | (simp only [List.length_cons, List.length_nil]; omega)), (by (try dsimp only) <;> first | omega | rfl | (simp [*]; done) | (rw [nn]; simp [*]; done)), (by (try dsimp only) <;> (rw [hl_9]; exact lens_app pw (by omega)))⟩ (by first | omega | (dsimp only; omega))
              · cbv
              · cbv
            · refine r_append1 (zs5) m.sX rfl (by first | omega | (dsimp only; omega)) (by first | omega | (dsimp only; omega)) fun l_10 hl_10 => ?_
              conv => cbv
              have ll_10 : (l_10.length : Int) = l_7.length + 1 := by rw [hl_10]; first | done | (simp; done) | (simp; omega)
              refine hE _ (a15, s15, l_10) ?_ ?_ ⟨(by (try dsimp only); first | omega | (simp only [List.length_nil]; omega) | (simp only [List.length_cons, List.length_nil]; omega)), (by (try dsimp only); first | omega | (simp only [List.length_nil]; omega) | (simp only [List.length_cons, List.length_nil]; omega)), (by (try dsimp only) <;> first | omega | rfl | (simp [*]; done) | (rw [nn]; simp [*]; done)), (by (try dsimp only) <;> (rw [hl_10]; exact lens_app pw (by omega)))⟩ (by first | omega | (dsimp only; omega))
              · cbv
              · cbv
        · refine r_append1 (next_2) m.sX rfl (by first | omega | (dsimp only; omega)) (by first | omega | (dsimp only; omega)) fun l_11 hl_11 => ?_
          conv => cbv
          have ll_11 : (l_11.length : Int) = l_7.length + 1 := by rw [hl_11]; first | done | (simp; done) | (simp; omega)
          refine hE _ (a11, s11, l_11) ?_ ?_ ⟨(by (try dsimp only); first | omega | (simp only [List.length_nil]; omega) | (simp only [List.length_cons, List.length_nil]; omega)), (by (try dsimp only); first | omega | (simp only [List.length_nil]; omega) | (simp only [List.length_cons, List.length_nil]; omega)), (by (try dsimp only) <;> first | omega | rfl | (simp [*]; done) | (rw [nn]; simp [*]; done)), (by (try dsimp only) <;> (rw [hl_11]; exact lens_app pw (by omega)))⟩ (by first | omega | (dsimp only; omega))
          · cbv
          · cbv
      · refine hF _ _ ?_
        conv => cbv
        refine r_mcall m.sX (cPick_ok code a11 s11 24 h (by omega) (by omega)) ?_
        rintro _ _ ⟨q11, rfl, ⟨a16, s16, rfl, ea16, fa16⟩, bq11, cq11, dq11⟩
        have pe := lens_le pw (by omega)
        conv => cbv
        refine r_eql m.sX (fun h7 => ?_) (fun h7 => ?_) <;> conv => cbv
        · exact hQ (.nil) (cCur code a16 s16) ⟨[], (by first | rfl | (simp only [rows_nil]; rfl) | (simp only [rows_cons, rows_nil]; rfl)), ⟨a16, s16, rfl, by omega, by omega⟩, (by first | omega | assumption | (simp; done) | (simp [*]; done) | (simp at *; omega)), (by first | omega | assumption | (simp; done) | (simp [*]; done) | (simp at *; omega))⟩   -- leaf 4
        · refine r_eql m.sX (fun h8 => ?_) (fun h8 => ?_) <;> conv => cbv
          · refine r_subf m.sX (by omega) (by omega) fun r4 hr4 => ?_
            conv => cbv
            refine r_append0R m.sX (by first | omega | (dsimp only; omega)) (by first | omega | (dsimp only; omega)) fun zs7 hzs7 => ?_
            conv => cbv
            have lzs7 : (zs7.length : Int) = lines.length := by rw [hzs7]; first | done | (simp; done) | (simp; omega)
            refine r_append1 (([120] : List UInt8)) m.sX rfl (by first | omega | (dsimp only; omega)) (by first | omega | (dsimp only; omega)) fun zs8 hzs8 => ?_
            conv => cbv
            have lzs8 : (zs8.length : Int) = zs7.length + 1 := by rw [hzs8]; first | done | (simp; done) | (simp; omega)
            refine r_oindex m.sX (by omega) (by omega) ?_
            conv => cbv
            obtain ⟨y6, hy6⟩ := get_ex (xs := l_7) (i := Int.toNat r4) (by omega)
            refine r_ostore (l := Int.toNat r4) zs8 m.sX hy6 (Nat.le_of_ble_eq_true rfl) rfl fun l_12 hl_12 => ?_   -- l_12 = l_7.set r4 zs8
            have ll_12 : (l_12.length : Int) = l_7.length := by rw [hl_12]; first | done | (simp; done) | (simp; omega)
            have pz : ∀ p ∈ l_12, p.length ≤ 14 := (by rw [hl_12]; exact lens_set pw (by omega) (by omega))
            conv => cbv
            exact hQ (.fr 45 1 (rows (cSl 1 cStr) l_12)) (cCur code a16 s16) ⟨l_12, rfl, ⟨a16, s16, rfl, by omega, by omega⟩, (by first | omega | assumption | (simp; done) | (simp [*]; done) | (simp at *; omega)), (by first | omega | assumption | (simp; done) | (simp [*]; done) | (simp at *; omega))⟩   -- leaf 5
          · exact hQ (.fr 45 1 (rows (cSl 1 cStr) l_7)) (cCur code a16 s16) ⟨l_7, rfl, ⟨a16, s16, rfl, by omega, by omega⟩, (by first | omega | assumption | (simp; done) | (simp [*]; done) | (simp at *; omega)), (by first | omega | assumption | (simp; done) | (simp [*]; done) | (simp at *; omega))⟩))   -- leaf 6

theorem cStates_ex (code : List Int) (b0 t0 : Int) : ∃ r cs, (∃ (q : List (List (List UInt8))), r = PV.isl 1 (rows (cSl 1 cStr) q) ∧ CurTo code b0 30000 cs ∧ ((q.length : Int) ≤ 7) ∧ (∀ p ∈ q, p.length ≤ 14)) :=
  ⟨_, _, [], rfl, ⟨b0, t0, rfl, by omega, by omega⟩, (by first | omega | simp), (by first | omega | simp)⟩

end Go.Proofs.Ytifkjlpkhfldoaa.Ai
