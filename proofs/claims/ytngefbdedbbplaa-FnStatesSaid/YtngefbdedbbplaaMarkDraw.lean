/- Contracts of what FnProofs draws. -/
import Derived.Test.YtngefbdedbbplaaMark5
import Derived.Test.YtngefbdedbbplaaAiIceM
namespace Go.Proofs.Ytngefbdedbbplaa.Ai
open Go Go.Proofs
set_option linter.unusedSimpArgs false
set_option maxRecDepth 10000
set_option maxHeartbeats 4000000
set_option linter.unusedVariables false
theorem OkM.iceR {P : Program} {f : FuncId} {cs args : List PV} {Q : PV → List PV → Prop} (h : OkM P f cs args (fun r cs' => Q (Ai.ice r) cs')) : OkM P f cs args Q :=
  h.iceE.mono fun r cs' ⟨r0, q, e⟩ => by rw [e]; exact q
def printL : List (List UInt8) := [[97], [98], [116, 104, 101], [32], [99, 97, 116], [111, 110], [101]]
theorem printL_len (q : List UInt8) (h : q ∈ ([[97], [98], [116, 104, 101], [32], [99, 97, 116], [111, 110], [101]] : List (List UInt8))) : 1 ≤ q.length ∧ q.length ≤ 3 := by
  simp only [List.mem_cons, List.not_mem_nil, or_false] at h
  rcases h with rfl | rfl | rfl | rfl | rfl | rfl | rfl <;> exact ⟨by decide, by decide⟩
theorem sm_app {l : List Tx} (h : ∀ x ∈ l, x.length ≤ 1000) {y : Tx} (hy : y.length ≤ 1000) : ∀ x ∈ l ++ [y], x.length ≤ 1000 := fun x hx => by
  rcases List.mem_append.1 hx with hx | hx
  · exact h x hx
  · rw [List.mem_singleton.1 hx]; exact hy
theorem sm_set {l : List Tx} (h : ∀ x ∈ l, x.length ≤ 1000) {k : Nat} {y : Tx} (hy : y.length ≤ 1000) : ∀ x ∈ l.set k y, x.length ≤ 1000 := fun x hx => by
  rcases List.mem_or_eq_of_mem_set hx with hx | rfl
  · exact h x hx
  · exact hy
theorem cOf_ok (code : List Int) (b0 t0 : Int) (list : List (List UInt8)) (h : CurIn code) (h0 : 0 ≤ b0) (hk : b0 ≤ 899999999999998000) (hl : 0 < list.length) (hm : list.length ≤ 200) : OkM Try.prog 44 (cCur code b0 t0) [.isl 1 (rows cStr list)] (fun r cs => ∃ (q : List UInt8), r = .str q ∧ CurTo code b0 2 cs ∧ (q ∈ list)) :=
  fnM_intro envOk fieldsOk mixed Try.func44 rfl fun κ X Y L Q m hQ => by
    conv => cbv
    refine r_lenR m.sX fun n1 hn1 mn1 => ?_
    conv => cbv
    refine r_mcall m.sX (cPick_ok code b0 t0 n1 h (by omega) (by omega)) ?_
    rintro _ _ ⟨q1, rfl, ⟨a1, s1, rfl, ea1, fa1⟩, bq1, cq1, dq1⟩
    conv => cbv
    refine r_index m.sX (by omega) (by omega) fun x1 hx1 => ?_
    conv => cbv
    have mx1 := get_mem hx1
    exact hQ (.str x1) (cCur code a1 s1) ⟨x1, rfl, ⟨a1, s1, rfl, by omega, by omega⟩, (by first | omega | exact mx1)⟩   -- leaf 1

theorem cOfL_ok (code : List Int) (b0 t0 : Int) (list : List (List UInt8)) (h : CurIn code) (h0 : 0 ≤ b0) (hk : b0 ≤ 899999999999998000) (hl : 0 < list.length) (hm : list.length ≤ 200) : OkM Try.prog 44 (cCur code b0 t0) [.isl 1 (list.map cStr)] (fun r cs => ∃ (q : List UInt8), r = .str q ∧ CurTo code b0 2 cs ∧ q ∈ list) := by
  have := cOf_ok code b0 t0 list h h0 hk hl hm
  rwa [rows_eq] at this
theorem cPrinted_ok (code : List Int) (b0 t0 : Int)  (h : CurIn code) (h0 : 0 ≤ b0) (hk : b0 ≤ 899999999999940000)  : OkM Try.prog 41 (cCur code b0 t0) [] (fun r cs => ∃ (q : List UInt8), r = .str q ∧ CurTo code b0 60 cs ∧ ((q.length : Int) ≤ 20)) :=
  fnM_intro envOk fieldsOk mixed Try.func41 rfl fun κ X Y L Q m hQ => by
    conv => cbv
    refine r_mcall m.sX (cPick_ok code b0 t0 12 h (by omega) (by omega)) ?_
    rintro _ _ ⟨n, rfl, ⟨a1, s1, rfl, ea1, fa1⟩, bn, cn, dn⟩
    conv => cbv
    refine r_loopF (α := Int × Int × List UInt8) m 17 [3, 4] [⟨0, 1, 0, 0, 0⟩] (fun σ => [(0, .optr 1 0 0 0 0), (3, .str σ.2.2), (4, .int .i64 n)]) (fun σ => [(1, 0, .box (cCur code σ.1 σ.2.1))])
      (fun σ => (b0 ≤ σ.1 ∧ σ.1 ≤ b0 + 2 + 2 * (σ.2.2.length : Int)) ∧ ((σ.2.2.length : Int) ≤ n + 2)) (fun σ => (n - (σ.2.2.length : Int)).toNat) (a1, s1, ([] : List UInt8)) ?_ ?_ ?_ ?_
    · cbv
    · cbv
    · exact ⟨(by (try dsimp only) <;> first | omega | rfl | (simp [*]; done)), (by (try dsimp only) <;> (simp only [List.length_nil]; omega))⟩
    rintro ⟨a2, s2, s_⟩ ⟨cu, sl⟩ E hE F hF
    dsimp only at cu sl
    conv => cbv
    refine r_slen (u := s_) m.sX fun n1 hn1 mn1 => ?_   -- n1 = length of s_
    conv => cbv
    refine r_lss m.sX (fun h1 => ?_) (fun h1 => ?_) <;> conv => cbv
    · refine r_mcall m.sX (cOfL_ok code a2 s2 ([([97] : List UInt8), ([98] : List UInt8), ([116, 104, 101] : List UInt8), ([32] : List UInt8), ([99, 97, 116] : List UInt8), ([111, 110] : List UInt8), ([101] : List UInt8)]) h (by omega) (by omega) (by first | rfl | assumption | omega | (simp only [List.length_append, List.length_cons, List.length_nil] at *; omega)) (by first | rfl | assumption | omega | (simp only [List.length_append, List.length_cons, List.length_nil] at *; omega))) ?_
      rintro _ _ ⟨q1, rfl, ⟨a3, s3, rfl, ea3, fa3⟩, bq1_1⟩
      have wl := printL_len q1 bq1_1
      conv => cbv
      refine r_scat (u := s_) (v := q1) m.sX (by first | omega | (simp only [List.length_cons, List.length_nil]; omega) | (simp; omega)) fun s__2 hs__2 => ?_   -- s__2 = s_ ++ q1
      have ls__2 : (s__2.length : Int) = s_.length + q1.length := by rw [hs__2, List.length_append, Int.natCast_add]
      try simp only [List.length_cons, List.length_nil] at ls__2
      conv => cbv
      refine hE _ (a3, s3, s__2) ?_ ?_ ⟨(by (try dsimp only) <;> first | omega | rfl | (simp [*]; done) | (rw [cu]; simp [*]; done)), (by (try dsimp only) <;> first | omega | rfl | (simp [*]; done) | (rw [sl]; simp [*]; done))⟩ (by first | omega | (dsimp only; omega))
      · cbv
      · cbv
    · refine hF _ _ ?_
      conv => cbv
      exact hQ (.str s_) (cCur code a2 s2) ⟨s_, rfl, ⟨a2, s2, rfl, by omega, by omega⟩, (by first | omega | assumption | (simp; done) | (simp [*]; done) | (simp at *; omega))⟩   -- leaf 1

theorem cPrinted_ex (code : List Int) (b0 t0 : Int) : ∃ r cs, (∃ (q : List UInt8), r = PV.str q ∧ CurTo code b0 60 cs ∧ ((q.length : Int) ≤ 20)) :=
  ⟨_, _, [], rfl, ⟨b0, t0, rfl, by omega, by omega⟩, (by first | omega | simp)⟩

theorem cProof_ok (code : List Int) (b0 t0 : Int)  (h : CurIn code) (h0 : 0 ≤ b0) (hk : b0 ≤ 899999999999000000)  : OkM Try.prog 57 (cCur code b0 t0) [] (fun r cs => ∃ (q : List (List UInt8)), r = .isl 1 (rows cStr q) ∧ CurTo code b0 1000 cs ∧ ((q.length : Int) ≤ 13) ∧ (∀ s ∈ q, s.length ≤ 1000)) :=
  OkM.iceR (fnM_intro envOk fieldsOk mixed Try.func57 rfl fun κ X Y L Q m hQ => by
    conv => cbv
    refine r_mcall m.sX (cPick_ok code b0 t0 3 h (by omega) (by omega)) ?_
    rintro _ _ ⟨q1, rfl, ⟨a1, s1, rfl, ea1, fa1⟩, bq1, cq1, dq1⟩
    conv => cbv
    refine r_addf m.sX (by omega) (by omega) fun n hn => ?_
    conv => cbv
    refine r_mcall m.sX (cOne_ok code a1 s1 16 h (by omega) (by omega)) ?_
    rintro _ _ ⟨q2, rfl, ⟨a2, s2, rfl, ea2, fa2⟩⟩
    conv => cbv
    rcases Bool.eq_false_or_eq_true q2 with rfl | rfl <;> conv => cbv
    · refine r_mcall m.sX (cAmong_ok code a2 s2 ([0, 12, 13]) (by simp) h (by omega) (by omega)) ?_
      rintro _ _ ⟨n_2, rfl, ⟨a3, s3, rfl, ea3, fa3⟩, bn_2⟩
      simp only [List.mem_cons, List.not_mem_nil, or_false] at bn_2
      conv => cbv
      refine r_loopF (α := Int × Int × List (List UInt8)) m 49 [4] [⟨0, 1, 0, 0, 0⟩, ⟨3, 25, 9, 1, 0⟩] (fun σ => [(0, .optr 1 0 0 0 0), (3, .osl 25 0), (4, .int .i64 n_2)]) (fun σ => [(1, 0, .box (cCur code σ.1 σ.2.1)), (25, 0, .row 9 1 (rows cStr σ.2.2))])
        (fun σ => ((σ.2.2.length : Int) ≤ n_2) ∧ (a3 ≤ σ.1 ∧ σ.1 ≤ a3 + 60 * (σ.2.2.length : Int)) ∧ (∀ x ∈ σ.2.2, x.length ≤ 1000)) (fun σ => (n_2 - (σ.2.2.length : Int)).toNat) (a3, s3, []) ?_ ?_ ?_ ?_
      · cbv
      · (try dsimp only); (try simp only [rows_cons, rows_nil]); cbv
      · exact ⟨(by (try dsimp only); first | omega | (simp only [List.length_nil]; omega) | (simp only [List.length_cons, List.length_nil]; omega)), (by (try dsimp only); first | omega | (simp only [List.length_nil]; omega) | (simp only [List.length_cons, List.length_nil]; omega)), (by (try dsimp only) <;> (intro x hx; cases hx))⟩
      rintro ⟨a4, s4, l⟩ ⟨ll1, cl1, sm⟩ E hE F hF
      dsimp only at ll1 cl1 sm
      conv => cbv
      refine r_lenR m.sX fun n1 hn1 mn1 => ?_
      conv => cbv
      refine r_lss m.sX (fun h1 => ?_) (fun h1 => ?_) <;> conv => cbv
      · refine r_mcall m.sX (cPrinted_ok code a4 s4 h (by omega) (by omega)) ?_
        rintro _ _ ⟨q3, rfl, ⟨a5, s5, rfl, ea5, fa5⟩, bq3_1⟩
        conv => cbv
        refine r_append1 (q3) m.sX rfl (by first | omega | (dsimp only; omega)) (by first | omega | (dsimp only; omega)) fun l_2 hl_2 => ?_
        conv => cbv
        have ll_2 : (l_2.length : Int) = l.length + 1 := by rw [hl_2]; first | done | (simp; done) | (simp; omega)
        refine hE _ (a5, s5, l_2) ?_ ?_ ⟨(by (try dsimp only); first | omega | (simp only [List.length_nil]; omega) | (simp only [List.length_cons, List.length_nil]; omega)), (by (try dsimp only); first | omega | (simp only [List.length_nil]; omega) | (simp only [List.length_cons, List.length_nil]; omega)), (by (try dsimp only) <;> (rw [hl_2]; exact sm_app sm (by omega)))⟩ (by first | omega | (dsimp only; omega))
        · cbv
        · cbv
      · refine hF _ _ ?_
        conv => cbv
        refine r_gtr m.sX (fun h2 => ?_) (fun h2 => ?_) <;> conv => cbv
        · refine r_mcall m.sX (cOne_ok code a4 s4 24 h (by omega) (by omega)) ?_
          rintro _ _ ⟨q4, rfl, ⟨a6, s6, rfl, ea6, fa6⟩⟩
          conv => cbv
          rcases Bool.eq_false_or_eq_true q4 with rfl | rfl <;> conv => cbv
          · refine r_mcall m.sX (cPick_ok code a6 s6 2 h (by omega) (by omega)) ?_
            rintro _ _ ⟨q5, rfl, ⟨a7, s7, rfl, ea7, fa7⟩, bq5, cq5, dq5⟩
            conv => cbv
            refine r_addf m.sX (by omega) (by omega) fun k hk => ?_
            conv => cbv
            refine r_loopF (α := Int × Int × List UInt8) m 49 [4, 5, 6] [⟨0, 1, 0, 0, 0⟩, ⟨3, 25, 9, 1, 0⟩] (fun σ => [(0, .optr 1 0 0 0 0), (3, .osl 25 0), (4, .int .i64 n_2), (5, .str σ.2.2), (6, .int .i64 k)]) (fun σ => [(1, 0, .box (cCur code σ.1 σ.2.1)), (25, 0, .row 9 1 (rows cStr l))])
              (fun σ => (a7 ≤ σ.1 ∧ σ.1 ≤ a7) ∧ ((σ.2.2.length : Int) ≤ 42)) (fun σ => (k - (σ.2.2.length : Int)).toNat) (a7, s7, ([] : List UInt8)) ?_ ?_ ?_ ?_
            · cbv
            · (try dsimp only); (try simp only [rows_cons, rows_nil]); cbv
            · exact ⟨(by (try dsimp only) <;> first | omega | rfl | (simp [*]; done)), (by (try dsimp only) <;> (simp))⟩
            rintro ⟨a8, s8, s_⟩ ⟨cu, sl⟩ E hE F hF
            dsimp only at cu sl
            conv => cbv
            refine r_slen (u := s_) m.sX fun n2 hn2 mn2 => ?_   -- n2 = length of s_
            conv => cbv
            refine r_lss m.sX (fun h3 => ?_) (fun h3 => ?_) <;> conv => cbv
            · refine r_scat (u := s_) (v := ([120] : List UInt8)) m.sX (by first | omega | (simp only [List.length_cons, List.length_nil]; omega) | (simp; omega)) fun s__2 hs__2 => ?_   -- s__2 = s_ ++ ([120] : List UInt8)
              have ls__2 : (s__2.length : Int) = s_.length + ([120] : List UInt8).length := by rw [hs__2, List.length_append, Int.natCast_add]
              try simp only [List.length_cons, List.length_nil] at ls__2
              conv => cbv
              refine hE _ (a8, s8, s__2) ?_ ?_ ⟨(by (try dsimp only) <;> first | omega | rfl | (simp [*]; done) | (rw [cu]; simp [*]; done)), (by (try dsimp only) <;> (omega))⟩ (by first | omega | (dsimp only; omega))
              · cbv
              · cbv
            · refine hF _ _ ?_
              conv => cbv
              refine r_mcall m.sX (cPick_ok code a8 s8 n_2 h (by omega) (by omega)) ?_
              rintro _ _ ⟨q6, rfl, ⟨a9, s9, rfl, ea9, fa9⟩, bq6, cq6, dq6⟩
              conv => cbv
              refine r_mcall m.sX (cOfL_ok code a9 s9 ([s_, ([65] : List UInt8), ([97, 46, 98] : List UInt8)]) h (by omega) (by omega) (by first | rfl | assumption | omega | (simp only [List.length_append, List.length_cons, List.length_nil] at *; omega)) (by first | rfl | assumption | omega | (simp only [List.length_append, List.length_cons, List.length_nil] at *; omega))) ?_
              rintro _ _ ⟨q7, rfl, ⟨a10, s10, rfl, ea10, fa10⟩, bq7_1⟩
              have b7 : q7.length ≤ 1000 := by simp only [List.mem_cons, List.not_mem_nil, or_false] at bq7_1; rcases bq7_1 with rfl | rfl | rfl <;> first | omega | decide
              conv => cbv
              refine r_oindex m.sX (by omega) (by omega) ?_
              conv => cbv
              obtain ⟨y1, hy1⟩ := get_ex (xs := l) (i := Int.toNat q6) (by omega)
              refine r_ostore (l := Int.toNat q6) q7 m.sX hy1 (Nat.le_of_ble_eq_true rfl) rfl fun l_3 hl_3 => ?_   -- l_3 = l.set q6 q7
              have ll_3 : (l_3.length : Int) = l.length := by rw [hl_3]; first | done | (simp; done) | (simp; omega)
              have sz : ∀ x ∈ l_3, x.length ≤ 1000 := by rw [hl_3]; exact sm_set sm b7
              conv => cbv
              exact hQ (.fr 9 1 (rows cStr l_3)) (cCur code a10 s10) ⟨l_3, rfl, ⟨a10, s10, rfl, by omega, by omega⟩, (by first | omega | assumption | (simp; done) | (simp [*]; done) | (simp at *; omega)), (by first | omega | assumption | (simp; done) | (simp [*]; done) | (simp at *; omega))⟩   -- leaf 1
          · exact hQ (.fr 9 1 (rows cStr l)) (cCur code a6 s6) ⟨l, rfl, ⟨a6, s6, rfl, by omega, by omega⟩, (by first | omega | assumption | (simp; done) | (simp [*]; done) | (simp at *; omega)), (by first | omega | assumption | (simp; done) | (simp [*]; done) | (simp at *; omega))⟩   -- leaf 2
        · exact hQ (.fr 9 1 (rows cStr l)) (cCur code a4 s4) ⟨l, rfl, ⟨a4, s4, rfl, by omega, by omega⟩, (by first | omega | assumption | (simp; done) | (simp [*]; done) | (simp at *; omega)), (by first | omega | assumption | (simp; done) | (simp [*]; done) | (simp at *; omega))⟩   -- leaf 3
    · refine r_loopF (α := Int × Int × List (List UInt8)) m 49 [4] [⟨0, 1, 0, 0, 0⟩, ⟨3, 25, 9, 1, 0⟩] (fun σ => [(0, .optr 1 0 0 0 0), (3, .osl 25 0), (4, .int .i64 n)]) (fun σ => [(1, 0, .box (cCur code σ.1 σ.2.1)), (25, 0, .row 9 1 (rows cStr σ.2.2))])
        (fun σ => ((σ.2.2.length : Int) ≤ n) ∧ (a2 ≤ σ.1 ∧ σ.1 ≤ a2 + 60 * (σ.2.2.length : Int)) ∧ (∀ x ∈ σ.2.2, x.length ≤ 1000)) (fun σ => (n - (σ.2.2.length : Int)).toNat) (a2, s2, []) ?_ ?_ ?_ ?_
      · cbv
      · (try dsimp only); (try simp only [rows_cons, rows_nil]); cbv
      · exact ⟨(by (try dsimp only); first | omega | (simp only [List.length_nil]; omega) | (simp only [List.length_cons, List.length_nil]; omega)), (by (try dsimp only); first | omega | (simp only [List.length_nil]; omega) | (simp only [List.length_cons, List.length_nil]; omega)), (by (try dsimp only) <;> (intro x hx; cases hx))⟩
      rintro ⟨a11, s11, l_4⟩ ⟨ll3, cl3, sm⟩ E hE F hF
      dsimp only at ll3 cl3 sm
      conv => cbv
      refine r_lenR m.sX fun n3 hn3 mn3 => ?_
      conv => cbv
      refine r_lss m.sX (fun h4 => ?_) (fun h4 => ?_) <;> conv => cbv
      · refine r_mcall m.sX (cPrinted_ok code a11 s11 h (by omega) (by omega)) ?_
        rintro _ _ ⟨q8, rfl, ⟨a12, s12, rfl, ea12, fa12⟩, bq8_1⟩
        conv => cbv
        refine r_append1 (q8) m.sX rfl (by first | omega | (dsimp only; omega)) (by first | omega | (dsimp only; omega)) fun l_5 hl_5 => ?_
        conv => cbv
        have ll_5 : (l_5.length : Int) = l_4.length + 1 := by rw [hl_5]; first | done | (simp; done) | (simp; omega)
        refine hE _ (a12, s12, l_5) ?_ ?_ ⟨(by (try dsimp only); first | omega | (simp only [List.length_nil]; omega) | (simp only [List.length_cons, List.length_nil]; omega)), (by (try dsimp only); first | omega | (simp only [List.length_nil]; omega) | (simp only [List.length_cons, List.length_nil]; omega)), (by (try dsimp only) <;> (rw [hl_5]; exact sm_app sm (by omega)))⟩ (by first | omega | (dsimp only; omega))
        · cbv
        · cbv
      · refine hF _ _ ?_
        conv => cbv
        refine r_gtr m.sX (fun h5 => ?_) (fun h5 => ?_) <;> conv => cbv
        · refine r_mcall m.sX (cOne_ok code a11 s11 24 h (by omega) (by omega)) ?_
          rintro _ _ ⟨q9, rfl, ⟨a13, s13, rfl, ea13, fa13⟩⟩
          conv => cbv
          rcases Bool.eq_false_or_eq_true q9 with rfl | rfl <;> conv => cbv
          · refine r_mcall m.sX (cPick_ok code a13 s13 2 h (by omega) (by omega)) ?_
            rintro _ _ ⟨q10, rfl, ⟨a14, s14, rfl, ea14, fa14⟩, bq10, cq10, dq10⟩
            conv => cbv
            refine r_addf m.sX (by omega) (by omega) fun k_2 hk_2 => ?_
            conv => cbv
            refine r_loopF (α := Int × Int × List UInt8) m 49 [4, 5, 6] [⟨0, 1, 0, 0, 0⟩, ⟨3, 25, 9, 1, 0⟩] (fun σ => [(0, .optr 1 0 0 0 0), (3, .osl 25 0), (4, .int .i64 n), (5, .str σ.2.2), (6, .int .i64 k_2)]) (fun σ => [(1, 0, .box (cCur code σ.1 σ.2.1)), (25, 0, .row 9 1 (rows cStr l_4))])
              (fun σ => (a14 ≤ σ.1 ∧ σ.1 ≤ a14) ∧ ((σ.2.2.length : Int) ≤ 42)) (fun σ => (k_2 - (σ.2.2.length : Int)).toNat) (a14, s14, ([] : List UInt8)) ?_ ?_ ?_ ?_
            · cbv
            · (try dsimp only); (try simp only [rows_cons, rows_nil]); cbv
            · exact ⟨(by (try dsimp only) <;> first | omega | rfl | (simp [*]; done)), (by (try dsimp only) <;> (simp))⟩
            rintro ⟨a15, s15, s__3⟩ ⟨cu, sl⟩ E hE F hF
            dsimp only at cu sl
            conv => cbv
            refine r_slen (u := s__3) m.sX fun n4 hn4 mn4 => ?_   -- n4 = length of s__3
            conv => cbv
            refine r_lss m.sX (fun h6 => ?_) (fun h6 => ?_) <;> conv => cbv
            · refine r_scat (u := s__3) (v := ([120] : List UInt8)) m.sX (by first | omega | (simp only [List.length_cons, List.length_nil]; omega) | (simp; omega)) fun s__4 hs__4 => ?_   -- s__4 = s__3 ++ ([120] : List UInt8)
              have ls__4 : (s__4.length : Int) = s__3.length + ([120] : List UInt8).length := by rw [hs__4, List.length_append, Int.natCast_add]
              try simp only [List.length_cons, List.length_nil] at ls__4
              conv => cbv
              refine hE _ (a15, s15, s__4) ?_ ?_ ⟨(by (try dsimp only) <;> first | omega | rfl | (simp [*]; done) | (rw [cu]; simp [*]; done)), (by (try dsimp only) <;> (omega))⟩ (by first | omega | (dsimp only; omega))
              · cbv
              · cbv
            · refine hF _ _ ?_
              conv => cbv
              refine r_mcall m.sX (cPick_ok code a15 s15 n h (by omega) (by omega)) ?_
              rintro _ _ ⟨q11, rfl, ⟨a16, s16, rfl, ea16, fa16⟩, bq11, cq11, dq11⟩
              conv => cbv
              refine r_mcall m.sX (cOfL_ok code a16 s16 ([s__3, ([65] : List UInt8), ([97, 46, 98] : List UInt8)]) h (by omega) (by omega) (by first | rfl | assumption | omega | (simp only [List.length_append, List.length_cons, List.length_nil] at *; omega)) (by first | rfl | assumption | omega | (simp only [List.length_append, List.length_cons, List.length_nil] at *; omega))) ?_
              rintro _ _ ⟨q12, rfl, ⟨a17, s17, rfl, ea17, fa17⟩, bq12_1⟩
              have b12 : q12.length ≤ 1000 := by simp only [List.mem_cons, List.not_mem_nil, or_false] at bq12_1; rcases bq12_1 with rfl | rfl | rfl <;> first | omega | decide
              conv => cbv
              refine r_oindex m.sX (by omega) (by omega) ?_
              conv => cbv
              obtain ⟨y2, hy2⟩ := get_ex (xs := l_4) (i := Int.toNat q11) (by omega)
              refine r_ostore (l := Int.toNat q11) q12 m.sX hy2 (Nat.le_of_ble_eq_true rfl) rfl fun l_6 hl_6 => ?_   -- l_6 = l_4.set q11 q12
              have ll_6 : (l_6.length : Int) = l_4.length := by rw [hl_6]; first | done | (simp; done) | (simp; omega)
              have sz : ∀ x ∈ l_6, x.length ≤ 1000 := by rw [hl_6]; exact sm_set sm b12
              conv => cbv
              exact hQ (.fr 9 1 (rows cStr l_6)) (cCur code a17 s17) ⟨l_6, rfl, ⟨a17, s17, rfl, by omega, by omega⟩, (by first | omega | assumption | (simp; done) | (simp [*]; done) | (simp at *; omega)), (by first | omega | assumption | (simp; done) | (simp [*]; done) | (simp at *; omega))⟩   -- leaf 4
          · exact hQ (.fr 9 1 (rows cStr l_4)) (cCur code a13 s13) ⟨l_4, rfl, ⟨a13, s13, rfl, by omega, by omega⟩, (by first | omega | assumption | (simp; done) | (simp [*]; done) | (simp at *; omega)), (by first | omega | assumption | (simp; done) | (simp [*]; done) | (simp at *; omega))⟩   -- leaf 5
        · exact hQ (.fr 9 1 (rows cStr l_4)) (cCur code a11 s11) ⟨l_4, rfl, ⟨a11, s11, rfl, by omega, by omega⟩, (by first | omega | assumption | (simp; done) | (simp [*]; done) | (simp at *; omega)), (by first | omega | assumption | (simp; done) | (simp [*]; done) | (simp at *; omega))⟩)   -- leaf 6

theorem cProof_ex (code : List Int) (b0 t0 : Int) : ∃ r cs, (∃ (q : List (List UInt8)), r = PV.isl 1 (rows cStr q) ∧ CurTo code b0 1000 cs ∧ ((q.length : Int) ≤ 13) ∧ (∀ s ∈ q, s.length ≤ 1000)) :=
  ⟨_, _, [], rfl, ⟨b0, t0, rfl, by omega, by omega⟩, (by first | omega | simp), (by first | omega | simp)⟩

theorem cSpoilt_ok (code : List Int) (b0 t0 : Int) (t : List UInt8) (with_ : List UInt8) (h : CurIn code) (h0 : 0 ≤ b0) (hk : b0 ≤ 899999999999940000) (ht : t.length ≤ 100) (hw : 0 < with_.length ∧ with_.length ≤ 100) : OkM Try.prog 43 (cCur code b0 t0) [.str t, .str with_] (fun r cs => ∃ (q : List UInt8), r = .str q ∧ CurTo code b0 60 cs) :=
  fnM_intro envOk fieldsOk mixed Try.func43 rfl fun κ X Y L Q m hQ => by
    conv => cbv
    refine r_mcall m.sX (cPick_ok code b0 t0 2 h (by omega) (by omega)) ?_
    rintro _ _ ⟨q1, rfl, ⟨a1, s1, rfl, ea1, fa1⟩, bq1, cq1, dq1⟩
    conv => cbv
    refine r_addf m.sX (by omega) (by omega) fun n hn => ?_
    conv => cbv
    refine r_loopF (α := Int × Int × List UInt8 × Int) m 68 [1, 2, 7] [⟨0, 1, 0, 0, 0⟩] (fun σ => [(0, .optr 1 0 0 0 0), (1, .str σ.2.2.1), (2, .str with_), (7, .int .i64 σ.2.2.2)]) (fun σ => [(1, 0, .box (cCur code σ.1 σ.2.1))])
      (fun σ => (0 ≤ σ.2.2.2 ∧ σ.2.2.2 ≤ 2) ∧ (a1 ≤ σ.1 ∧ σ.1 ≤ a1 + 20 * (2 - σ.2.2.2)) ∧ ((σ.2.2.1.length : Int) ≤ 102 - σ.2.2.2)) (fun σ => σ.2.2.2.toNat) (a1, s1, t, n) ?_ ?_ ?_ ?_
    · cbv
    · cbv
    · exact ⟨(by (try dsimp only) <;> (omega)), (by (try dsimp only) <;> (omega)), (by (try dsimp only) <;> (omega))⟩
    rintro ⟨a2, s2, t_2, n_2⟩ ⟨nn, cu, tl⟩ E hE F hF
    dsimp only at nn cu tl
    conv => cbv
    refine r_gtr m.sX (fun h1 => ?_) (fun h1 => ?_) <;> conv => cbv
    · refine r_slen (u := t_2) m.sX fun n1 hn1 mn1 => ?_   -- n1 = length of t_2
      conv => cbv
      refine r_gtr m.sX (fun h2 => ?_) (fun h2 => ?_) <;> conv => cbv
      · refine r_slen (u := t_2) m.sX fun n2 hn2 mn2 => ?_   -- n2 = length of t_2
        conv => cbv
        refine r_mcall m.sX (cPick_ok code a2 s2 n2 h (by omega) (by omega)) ?_
        rintro _ _ ⟨i, rfl, ⟨a3, s3, rfl, ea3, fa3⟩, bi, ci, di⟩
        conv => cbv
        refine r_slen (u := with_) m.sX fun n3 hn3 mn3 => ?_   -- n3 = length of with_
        conv => cbv
        refine r_mcall m.sX (cPick_ok code a3 s3 n3 h (by omega) (by omega)) ?_
        rintro _ _ ⟨q2, rfl, ⟨a4, s4, rfl, ea4, fa4⟩, bq2, cq2, dq2⟩
        conv => cbv
        refine r_sidx (u := with_) (i := q2) m.sX (by omega) (by first | omega | (simp only [List.length_cons, List.length_nil]; omega) | (simp; omega)) fun x1 hx1 c1 hc1 bc1 => ?_   -- x1 = with_[q2]
        have dx1 := drop_cons hx1
        have kx1 := take_snoc hx1
        have jx1 : (q2 + 1).toNat = Int.toNat q2 + 1 := by omega
        conv => cbv
        refine r_tostr ([c1] : List Int) m.sX rfl fun w hw => ?_   -- w = string of bytes
        have lw : (w.length : Int) = 1 := by rw [hw]; rfl
        conv => cbv
        refine r_mcall m.sX (cPick_ok code a4 s4 3 h (by omega) (by omega)) ?_
        rintro _ _ ⟨q3, rfl, ⟨a5, s5, rfl, ea5, fa5⟩, bq3, cq3, dq3⟩
        conv => cbv
        refine r_eql m.sX (fun h3 => ?_) (fun h3 => ?_) <;> conv => cbv
        · refine r_draw m (by kernel_rfl) ?_
          conv => cbv
          refine r_sslice (u := t_2) (i := 0) (j := i) m.sY (by omega) (by omega) (by first | omega | (simp only [List.length_cons, List.length_nil]; omega) | (simp; omega)) fun s6 hs6 => ?_   -- s6 = t_2[None:i]
          have ls6 : (s6.length : Int) = i - 0 := by rw [hs6]; first | done | (simp; done) | (simp; omega)
          conv => cbv
          refine r_scat (u := s6) (v := w) m.sY (by first | omega | (simp only [List.length_cons, List.length_nil]; omega) | (simp; omega)) fun s7 hs7 => ?_   -- s7 = s6 ++ w
          have ls7 : (s7.length : Int) = s6.length + w.length := by rw [hs7, List.length_append, Int.natCast_add]
          try simp only [List.length_cons, List.length_nil] at ls7
          conv => cbv
          refine r_sslice' (u := t_2) (i := i) m.sY (by omega) (by first | omega | (simp only [List.length_cons, List.length_nil]; omega) | (simp; omega)) fun s8 hs8 => ?_   -- s8 = t_2[i:]
          have ls8 : (s8.length : Int) = t_2.length - i := by rw [hs8]; first | done | (simp; done) | (simp; omega)
          conv => cbv
          refine r_scat (u := s7) (v := s8) m.sY (by first | omega | (simp only [List.length_cons, List.length_nil]; omega) | (simp; omega)) fun t_3 ht_3 => ?_   -- t_3 = s7 ++ s8
          have lt_3 : (t_3.length : Int) = s7.length + s8.length := by rw [ht_3, List.length_append, Int.natCast_add]
          try simp only [List.length_cons, List.length_nil] at lt_3
          conv => cbv
          refine r_subf m.sX (by omega) (by omega) fun n_3 hn_3 => ?_
          conv => cbv
          refine hE _ (a5, s5, t_3, n_3) ?_ ?_ ⟨(by (try dsimp only) <;> (omega)), (by (try dsimp only) <;> (omega)), (by (try dsimp only) <;> (omega))⟩ (by first | omega | (dsimp only; omega))
          · cbv
          · cbv
        · refine r_eql m.sX (fun h4 => ?_) (fun h4 => ?_) <;> conv => cbv
          · refine r_draw m (by kernel_rfl) ?_
            conv => cbv
            refine r_sslice (u := t_2) (i := 0) (j := i) m.sY (by omega) (by omega) (by first | omega | (simp only [List.length_cons, List.length_nil]; omega) | (simp; omega)) fun s9 hs9 => ?_   -- s9 = t_2[None:i]
            have ls9 : (s9.length : Int) = i - 0 := by rw [hs9]; first | done | (simp; done) | (simp; omega)
            conv => cbv
            refine r_scat (u := s9) (v := w) m.sY (by first | omega | (simp only [List.length_cons, List.length_nil]; omega) | (simp; omega)) fun s10 hs10 => ?_   -- s10 = s9 ++ w
            have ls10 : (s10.length : Int) = s9.length + w.length := by rw [hs10, List.length_append, Int.natCast_add]
            try simp only [List.length_cons, List.length_nil] at ls10
            conv => cbv
            refine r_addf m.sY (by omega) (by omega) fun r1 hr1 => ?_
            conv => cbv
            refine r_sslice' (u := t_2) (i := r1) m.sY (by omega) (by first | omega | (simp only [List.length_cons, List.length_nil]; omega) | (simp; omega)) fun s11 hs11 => ?_   -- s11 = t_2[r1:]
            have ls11 : (s11.length : Int) = t_2.length - r1 := by rw [hs11]; first | done | (simp; done) | (simp; omega)
            conv => cbv
            refine r_scat (u := s10) (v := s11) m.sY (by first | omega | (simp only [List.length_cons, List.length_nil]; omega) | (simp; omega)) fun t_4 ht_4 => ?_   -- t_4 = s10 ++ s11
            have lt_4 : (t_4.length : Int) = s10.length + s11.length := by rw [ht_4, List.length_append, Int.natCast_add]
            try simp only [List.length_cons, List.length_nil] at lt_4
            conv => cbv
            refine r_subf m.sX (by omega) (by omega) fun n_4 hn_4 => ?_
            conv => cbv
            refine hE _ (a5, s5, t_4, n_4) ?_ ?_ ⟨(by (try dsimp only) <;> (omega)), (by (try dsimp only) <;> (omega)), (by (try dsimp only) <;> (omega))⟩ (by first | omega | (dsimp only; omega))
            · cbv
            · cbv
          · refine r_draw m (by kernel_rfl) ?_
            conv => cbv
            refine r_sslice (u := t_2) (i := 0) (j := i) m.sY (by omega) (by omega) (by first | omega | (simp only [List.length_cons, List.length_nil]; omega) | (simp; omega)) fun s12 hs12 => ?_   -- s12 = t_2[None:i]
            have ls12 : (s12.length : Int) = i - 0 := by rw [hs12]; first | done | (simp; done) | (simp; omega)
            conv => cbv
            refine r_addf m.sY (by omega) (by omega) fun r2 hr2 => ?_
            conv => cbv
            refine r_sslice' (u := t_2) (i := r2) m.sY (by omega) (by first | omega | (simp only [List.length_cons, List.length_nil]; omega) | (simp; omega)) fun s13 hs13 => ?_   -- s13 = t_2[r2:]
            have ls13 : (s13.length : Int) = t_2.length - r2 := by rw [hs13]; first | done | (simp; done) | (simp; omega)
            conv => cbv
            refine r_scat (u := s12) (v := s13) m.sY (by first | omega | (simp only [List.length_cons, List.length_nil]; omega) | (simp; omega)) fun t_5 ht_5 => ?_   -- t_5 = s12 ++ s13
            have lt_5 : (t_5.length : Int) = s12.length + s13.length := by rw [ht_5, List.length_append, Int.natCast_add]
            try simp only [List.length_cons, List.length_nil] at lt_5
            conv => cbv
            refine r_subf m.sX (by omega) (by omega) fun n_5 hn_5 => ?_
            conv => cbv
            refine hE _ (a5, s5, t_5, n_5) ?_ ?_ ⟨(by (try dsimp only) <;> (omega)), (by (try dsimp only) <;> (omega)), (by (try dsimp only) <;> (omega))⟩ (by first | omega | (dsimp only; omega))
            · cbv
            · cbv
      · refine hF _ _ ?_
        conv => cbv
        exact hQ (.str t_2) (cCur code a2 s2) ⟨t_2, rfl, ⟨a2, s2, rfl, by omega, by omega⟩⟩   -- leaf 1
    · refine hF _ _ ?_
      conv => cbv
      exact hQ (.str t_2) (cCur code a2 s2) ⟨t_2, rfl, ⟨a2, s2, rfl, by omega, by omega⟩⟩   -- leaf 2

theorem cSpoilt_ex (code : List Int) (b0 t0 : Int) : ∃ r cs, (∃ (q : List UInt8), r = PV.str q ∧ CurTo code b0 60 cs) :=
  ⟨_, _, [], rfl, ⟨b0, t0, rfl, by omega, by omega⟩⟩

end Go.Proofs.Ytngefbdedbbplaa.Ai
