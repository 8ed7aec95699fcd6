/- Contracts of what FnInks draws. -/
import Derived.Test.YtjohfigipllpoaaRegDraw
import Derived.Test.YtjohfigipllpoaaInkS
import Derived.Test.YtjohfigipllpoaaAiIceM
namespace Go.Proofs.Ytjohfigipllpoaa.Ai
open Go Go.Proofs
set_option linter.unusedSimpArgs false
set_option maxRecDepth 10000
set_option maxHeartbeats 4000000
set_option linter.unusedVariables false
theorem printL_len (q : List UInt8) (h : q ∈ ([[97], [98], [116, 104, 101], [32], [99, 97, 116], [111, 110], [101]] : List (List UInt8))) : 1 ≤ q.length ∧ q.length ≤ 3 := by
  simp only [List.mem_cons, List.not_mem_nil, or_false] at h
  rcases h with rfl | rfl | rfl | rfl | rfl | rfl | rfl <;> exact ⟨by decide, by decide⟩
theorem mem_len {L : List (List UInt8)} {q : List UInt8} (h : q ∈ L) (hl : (L.all fun q => decide (q.length ≤ 100)) = true) : q.length ≤ 100 := of_decide_eq_true (List.all_eq_true.1 hl q h)
theorem cPrinted_ok (code : List Int) (b0 t0 : Int)  (h : CurIn code) (h0 : 0 ≤ b0) (hk : b0 ≤ 899999999999940000)  : OkM Try.prog 31 (cCur code b0 t0) [] (fun r cs => ∃ (q : List UInt8), r = .str q ∧ CurTo code b0 60 cs ∧ ((q.length : Int) ≤ 20)) :=
  fnM_intro envOk fieldsOk mixed Try.func31 rfl fun κ X Y L Q m hQ => by
    conv => cbv
    refine r_mcall m.sX (cPick_ok code b0 t0 12 h (by omega) (by omega)) ?_
    rintro _ _ ⟨n, rfl, ⟨a1, s1, rfl, ea1, fa1⟩, bn, cn, dn⟩
    conv => cbv
    refine r_loopF (α := Int × Int × List UInt8) m 17 [3, 4] [⟨0, 1, 0, 0, 0⟩] (fun σ => [(0, .optr 1 0 0 0 0), (3, .str σ.2.2), (4, .int .i64 n)]) (fun σ => [(1, 0, .box (cCur code σ.1 σ.2.1))])
      (fun σ => (b0 ≤ σ.1 ∧ σ.1 ≤ b0 + 2 + 2 * (σ.2.2.length : Int)) ∧ ((σ.2.2.length : Int) ≤ n + 2)) (fun σ => (n - (σ.2.2.length : Int)).toNat) (a1, s1, ([] : List UInt8)) ?_ ?_ ?_ ?_
    · cbv
    · cbv
    · exact ⟨(by (try dsimp only) <;> first | omega | rfl | (simp [*]; done)), (by (try dsimp only) <;> (simp only [List.length_nil]; omega))⟩
    rintro ⟨a2, s2, s_⟩ ⟨cu, sl⟩ E hE F hF
    dsimp only at cu sl
    conv => cbv
    refine r_slen (u := s_) m.sX fun n1 hn1 mn1 => ?_   -- n1 = length of s_
    conv => cbv
    refine r_lss m.sX (fun h1 => ?_) (fun h1 => ?_) <;> conv => cbv
    · refine r_mcall m.sX (cOfL_ok code a2 s2 ([([97] : List UInt8), ([98] : List UInt8), ([116, 104, 101] : List UInt8), ([32] : List UInt8), ([99, 97, 116] : List UInt8), ([111, 110] : List UInt8), ([101] : List UInt8)]) h (by omega) (by omega) (by first | rfl | assumption | omega | (simp only [List.length_append, List.length_cons, List.length_nil] at *; omega)) (by first | rfl | assumption | omega | (simp only [List.length_append, List.length_cons, List.length_nil] at *; omega))) ?_
      rintro _ _ ⟨q1, rfl, ⟨a3, s3, rfl, ea3, fa3⟩, bq1_1⟩
      have wl := printL_len q1 bq1_1
      conv => cbv
      refine r_scat (u := s_) (v := q1) m.sX (by first | omega | (simp only [List.length_cons, List.length_nil]; omega) | (simp; omega)) fun s__2 hs__2 => ?_   -- s__2 = s_ ++ q1
      have ls__2 : (s__2.length : Int) = s_.length + q1.length := by rw [hs__2, List.length_append, Int.natCast_add]
      try simp only [List.length_cons, List.length_nil] at ls__2
      conv => cbv
      refine hE _ (a3, s3, s__2) ?_ ?_ ⟨(by (try dsimp only) <;> first | omega | rfl | (simp [*]; done) | (rw [cu]; simp [*]; done)), (by (try dsimp only) <;> first | omega | rfl | (simp [*]; done) | (rw [sl]; simp [*]; done))⟩ (by first | omega | (dsimp only; omega))
      · cbv
      · cbv
    · refine hF _ _ ?_
      conv => cbv
      exact hQ (.str s_) (cCur code a2 s2) ⟨s_, rfl, ⟨a2, s2, rfl, by omega, by omega⟩, (by first | omega | assumption | (simp; done) | (simp [*]; done) | (simp at *; omega))⟩   -- leaf 1

theorem cPrinted_ex (code : List Int) (b0 t0 : Int) : ∃ r cs, (∃ (q : List UInt8), r = PV.str q ∧ CurTo code b0 60 cs ∧ ((q.length : Int) ≤ 20)) :=
  ⟨_, _, [], rfl, ⟨b0, t0, rfl, by omega, by omega⟩, (by first | omega | simp)⟩

theorem cSpoilt_ok (code : List Int) (b0 t0 : Int) (t : List UInt8) (with_ : List UInt8) (h : CurIn code) (h0 : 0 ≤ b0) (hk : b0 ≤ 899999999999980000) (hwa : 0 < with_.length) (hwb : with_.length ≤ 200) (hta : t.length ≤ 200) : OkM Try.prog 36 (cCur code b0 t0) [.str t, .str with_] (fun r cs => ∃ (q : List UInt8), r = .str q ∧ CurTo code b0 20 cs ∧ ((q.length : Int) ≤ (t.length : Int) + 2)) :=
  fnM_intro envOk fieldsOk mixed Try.func36 rfl fun κ X Y L Q m hQ => by
    conv => cbv
    refine r_mcall m.sX (cPick_ok code b0 t0 2 h (by omega) (by omega)) ?_
    rintro _ _ ⟨q1, rfl, ⟨a1, s1, rfl, ea1, fa1⟩, bq1, cq1, dq1⟩
    conv => cbv
    refine r_addf m.sX (by omega) (by omega) fun n hn => ?_
    conv => cbv
    refine r_loopF (α := Int × Int × List UInt8 × Int) m 68 [1, 2, 7] [⟨0, 1, 0, 0, 0⟩] (fun σ => [(0, .optr 1 0 0 0 0), (1, .str σ.2.2.1), (2, .str with_), (7, .int .i64 σ.2.2.2)]) (fun σ => [(1, 0, .box (cCur code σ.1 σ.2.1))])
      (fun σ => (0 ≤ σ.2.2.2 ∧ σ.2.2.2 ≤ n) ∧ (b0 ≤ σ.1 ∧ σ.1 ≤ b0 + 2 + 6 * (n - σ.2.2.2)) ∧ ((σ.2.2.1.length : Int) ≤ t.length + (n - σ.2.2.2))) (fun σ => σ.2.2.2.toNat) (a1, s1, t, n) ?_ ?_ ?_ ?_
    · cbv
    · cbv
    · exact ⟨(by (try dsimp only) <;> first | omega | rfl | (simp [*]; done)), (by (try dsimp only) <;> first | omega | rfl | (simp [*]; done)), (by (try dsimp only) <;> first | omega | rfl | (simp [*]; done))⟩
    rintro ⟨a2, s2, t_2, n_2⟩ ⟨nn, cu, tl⟩ E hE F hF
    dsimp only at nn cu tl
    conv => cbv
    refine r_gtr m.sX (fun h1 => ?_) (fun h1 => ?_) <;> conv => cbv
    · refine r_slen (u := t_2) m.sX fun n1 hn1 mn1 => ?_   -- n1 = length of t_2
      conv => cbv
      refine r_gtr m.sX (fun h2 => ?_) (fun h2 => ?_) <;> conv => cbv
      · refine r_slen (u := t_2) m.sX fun n2 hn2 mn2 => ?_   -- n2 = length of t_2
        conv => cbv
        refine r_mcall m.sX (cPick_ok code a2 s2 n2 h (by omega) (by omega)) ?_
        rintro _ _ ⟨i, rfl, ⟨a3, s3, rfl, ea3, fa3⟩, bi, ci, di⟩
        conv => cbv
        refine r_slen (u := with_) m.sX fun n3 hn3 mn3 => ?_   -- n3 = length of with_
        conv => cbv
        refine r_mcall m.sX (cPick_ok code a3 s3 n3 h (by omega) (by omega)) ?_
        rintro _ _ ⟨q2, rfl, ⟨a4, s4, rfl, ea4, fa4⟩, bq2, cq2, dq2⟩
        conv => cbv
        refine r_sidx (u := with_) (i := q2) m.sX (by omega) (by first | omega | (simp only [List.length_cons, List.length_nil]; omega) | (simp; omega)) fun x1 hx1 c1 hc1 bc1 => ?_   -- x1 = with_[q2]
        have dx1 := drop_cons hx1
        have kx1 := take_snoc hx1
        have jx1 : (q2 + 1).toNat = Int.toNat q2 + 1 := by omega
        conv => cbv
        refine r_tostr ([c1] : List Int) m.sX rfl fun w hw => ?_   -- w = string of bytes
        have lw : (w.length : Int) = 1 := by rw [hw]; rfl
        conv => cbv
        refine r_mcall m.sX (cPick_ok code a4 s4 3 h (by omega) (by omega)) ?_
        rintro _ _ ⟨q3, rfl, ⟨a5, s5, rfl, ea5, fa5⟩, bq3, cq3, dq3⟩
        conv => cbv
        refine r_eql m.sX (fun h3 => ?_) (fun h3 => ?_) <;> conv => cbv
        · refine r_draw m (by kernel_rfl) ?_
          conv => cbv
          refine r_sslice (u := t_2) (i := 0) (j := i) m.sY (by omega) (by omega) (by first | omega | (simp only [List.length_cons, List.length_nil]; omega) | (simp; omega)) fun s6 hs6 => ?_   -- s6 = t_2[None:i]
          have ls6 : (s6.length : Int) = i - 0 := by rw [hs6]; first | done | (simp; done) | (simp; omega)
          conv => cbv
          refine r_scat (u := s6) (v := w) m.sY (by first | omega | (simp only [List.length_cons, List.length_nil]; omega) | (simp; omega)) fun s7 hs7 => ?_   -- s7 = s6 ++ w
          have ls7 : (s7.length : Int) = s6.length + w.length := by rw [hs7, List.length_append, Int.natCast_add]
          try simp only [List.length_cons, List.length_nil] at ls7
          conv => cbv
          refine r_sslice' (u := t_2) (i := i) m.sY (by omega) (by first | omega | (simp only [List.length_cons, List.length_nil]; omega) | (simp; omega)) fun s8 hs8 => ?_   -- s8 = t_2[i:]
          have ls8 : (s8.length : Int) = t_2.length - i := by rw [hs8]; first | done | (simp; done) | (simp; omega)
          conv => cbv
          refine r_scat (u := s7) (v := s8) m.sY (by first | omega | (simp only [List.length_cons, List.length_nil]; omega) | (simp; omega)) fun t_3 ht_3 => ?_   -- t_3 = s7 ++ s8
          have lt_3 : (t_3.length : Int) = s7.length + s8.length := by rw [ht_3, List.length_append, Int.natCast_add]
          try simp only [List.length_cons, List.length_nil] at lt_3
          conv => cbv
          refine r_subf m.sX (by omega) (by omega) fun n_3 hn_3 => ?_
          conv => cbv
          refine hE _ (a5, s5, t_3, n_3) ?_ ?_ ⟨(by (try dsimp only) <;> first | omega | rfl | (simp [*]; done) | (rw [nn]; simp [*]; done)), (by (try dsimp only) <;> first | omega | rfl | (simp [*]; done) | (rw [cu]; simp [*]; done)), (by (try dsimp only) <;> first | omega | rfl | (simp [*]; done) | (rw [tl]; simp [*]; done))⟩ (by first | omega | (dsimp only; omega))
          · cbv
          · cbv
        · refine r_eql m.sX (fun h4 => ?_) (fun h4 => ?_) <;> conv => cbv
          · refine r_draw m (by kernel_rfl) ?_
            conv => cbv
            refine r_sslice (u := t_2) (i := 0) (j := i) m.sY (by omega) (by omega) (by first | omega | (simp only [List.length_cons, List.length_nil]; omega) | (simp; omega)) fun s9 hs9 => ?_   -- s9 = t_2[None:i]
            have ls9 : (s9.length : Int) = i - 0 := by rw [hs9]; first | done | (simp; done) | (simp; omega)
            conv => cbv
            refine r_scat (u := s9) (v := w) m.sY (by first | omega | (simp only [List.length_cons, List.length_nil]; omega) | (simp; omega)) fun s10 hs10 => ?_   -- s10 = s9 ++ w
            have ls10 : (s10.length : Int) = s9.length + w.length := by rw [hs10, List.length_append, Int.natCast_add]
            try simp only [List.length_cons, List.length_nil] at ls10
            conv => cbv
            refine r_addf m.sY (by omega) (by omega) fun r1 hr1 => ?_
            conv => cbv
            refine r_sslice' (u := t_2) (i := r1) m.sY (by omega) (by first | omega | (simp only [List.length_cons, List.length_nil]; omega) | (simp; omega)) fun s11 hs11 => ?_   -- s11 = t_2[r1:]
            have ls11 : (s11.length : Int) = t_2.length - r1 := by rw [hs11]; first | done | (simp; done) | (simp; omega)
            conv => cbv
            refine r_scat (u := s10) (v := s11) m.sY (by first | omega | (simp only [List.length_cons, List.length_nil]; omega) | (simp; omega)) fun t_4 ht_4 => ?_   -- t_4 = s10 ++ s11
            have lt_4 : (t_4.length : Int) = s10.length + s11.length := by rw [ht_4, List.length_append, Int.natCast_add]
            try simp only [List.length_cons, List.length_nil] at lt_4
            conv => cbv
            refine r_subf m.sX (by omega) (by omega) fun n_4 hn_4 => ?_
            conv => cbv
            refine hE _ (a5, s5, t_4, n_4) ?_ ?_ ⟨(by (try dsimp only) <;> first | omega | rfl | (simp [*]; done) | (rw [nn]; simp [*]; done)), (by (try dsimp only) <;> first | omega | rfl | (simp [*]; done) | (rw [cu]; simp [*]; done)), (by (try dsimp only) <;> first | omega | rfl | (simp [*]; done) | (rw [tl]; simp [*]; done))⟩ (by first | omega | (dsimp only; omega))
            · cbv
            · cbv
          · refine r_draw m (by kernel_rfl) ?_
            conv => cbv
            refine r_sslice (u := t_2) (i := 0) (j := i) m.sY (by omega) (by omega) (by first | omega | (simp only [List.length_cons, List.length_nil]; omega) | (simp; omega)) fun s12 hs12 => ?_   -- s12 = t_2[None:i]
            have ls12 : (s12.length : Int) = i - 0 := by rw [hs12]; first | done | (simp; done) | (simp; omega)
            conv => cbv
            refine r_addf m.sY (by omega) (by omega) fun r2 hr2 => ?_
            conv => cbv
            refine r_sslice' (u := t_2) (i := r2) m.sY (by omega) (by first | omega | (simp only [List.length_cons, List.length_nil]; omega) | (simp; omega)) fun s13 hs13 => ?_   -- s13 = t_2[r2:]
            have ls13 : (s13.length : Int) = t_2.length - r2 := by rw [hs13]; first | done | (simp; done) | (simp; omega)
            conv => cbv
            refine r_scat (u := s12) (v := s13) m.sY (by first | omega | (simp only [List.length_cons, List.length_nil]; omega) | (simp; omega)) fun t_5 ht_5 => ?_   -- t_5 = s12 ++ s13
            have lt_5 : (t_5.length : Int) = s12.length + s13.length := by rw [ht_5, List.length_append, Int.natCast_add]
            try simp only [List.length_cons, List.length_nil] at lt_5
            conv => cbv
            refine r_subf m.sX (by omega) (by omega) fun n_5 hn_5 => ?_
            conv => cbv
            refine hE _ (a5, s5, t_5, n_5) ?_ ?_ ⟨(by (try dsimp only) <;> first | omega | rfl | (simp [*]; done) | (rw [nn]; simp [*]; done)), (by (try dsimp only) <;> first | omega | rfl | (simp [*]; done) | (rw [cu]; simp [*]; done)), (by (try dsimp only) <;> first | omega | rfl | (simp [*]; done) | (rw [tl]; simp [*]; done))⟩ (by first | omega | (dsimp only; omega))
            · cbv
            · cbv
      · refine hF _ _ ?_
        conv => cbv
        exact hQ (.str t_2) (cCur code a2 s2) ⟨t_2, rfl, ⟨a2, s2, rfl, by omega, by omega⟩, (by first | omega | assumption | (simp; done) | (simp [*]; done) | (simp at *; omega))⟩   -- leaf 1
    · refine hF _ _ ?_
      conv => cbv
      exact hQ (.str t_2) (cCur code a2 s2) ⟨t_2, rfl, ⟨a2, s2, rfl, by omega, by omega⟩, (by first | omega | assumption | (simp; done) | (simp [*]; done) | (simp at *; omega))⟩   -- leaf 2

theorem drawSwapInks_ok (code : List Int) (h : CurIn code) : OkA Try.prog 4 [.isl 1 (rows cU8 code)] (fun r => ∃ (q : Inked), r = .agg (cInked q) ∧ ((q.1.length : Int) ≤ 60)) :=
  fn_intro envOk fieldsOk mixed Try.func4 rfl fun κ X Y L Q m hQ => by
    conv => cbv
    refine r_callE m.sX (drawIsInked_ok code h) ?_
    rintro _ ⟨⟨q1A, q1B⟩, rfl, bq1_1⟩
    conv => cbv
    exact hQ (.agg [.str q1A, .str q1B]) ⟨(q1A, q1B), rfl, (by first | omega | assumption | (simp; done) | (simp [*]; done) | (simp at *; omega))⟩   -- leaf 1

theorem drawFormeOf_ok (code : List Int) (h : CurIn code) : OkA Try.prog 16 [.isl 1 (rows cU8 code)] (fun r => ∃ (q1 : Inked) (q2 : List UInt8), r = .tup [.agg (cInked q1), .str q2] ∧ ((q1.1.length : Int) ≤ 60) ∧ ((q2.length : Int) ≤ 1)) :=
  fn_intro envOk fieldsOk mixed Try.func16 rfl fun κ X Y L Q m hQ => by
    conv => cbv
    refine r_mcall m.sX (cInked_ok code 0 0 h (by omega) (by omega)) ?_
    rintro _ _ ⟨⟨q1A, q1B⟩, rfl, ⟨a1, s1, rfl, ea1, fa1⟩, bq1_1, bq1_2⟩
    try dsimp only at bq1_1 bq1_2
    conv => cbv
    refine r_mcall m.sX (cInk_ok code a1 s1 h (by omega) (by omega)) ?_
    rintro _ _ ⟨q2, rfl, ⟨a2, s2, rfl, ea2, fa2⟩, bq2_1⟩
    conv => cbv
    exact hQ (.tup [.agg [.str q1A, .str q1B], .str q2]) ⟨(q1A, q1B), q2, rfl, (by first | omega | assumption | (simp; done) | (simp [*]; done) | (simp at *; omega)), (by first | omega | assumption | (simp; done) | (simp [*]; done) | (simp at *; omega))⟩   -- leaf 1

theorem drawLayFormes_ok (code : List Int) (h : CurIn code) : OkA Try.prog 14 [.isl 1 (rows cU8 code)] (fun r => ∃ (q1 : List UInt8) (q2 : List UInt8), r = .tup [.str q1, .str q2] ∧ ((q1.length : Int) ≤ 60) ∧ ((q2.length : Int) ≤ 60)) :=
  fn_intro envOk fieldsOk mixed Try.func14 rfl fun κ X Y L Q m hQ => by
    conv => cbv
    refine r_mcall m.sX (cInked_ok code 0 0 h (by omega) (by omega)) ?_
    rintro _ _ ⟨⟨xA, xB⟩, rfl, ⟨a1, s1, rfl, ea1, fa1⟩, bx_1, bx_2⟩
    try dsimp only at bx_1 bx_2
    conv => cbv
    refine r_callB m.sX (coGood_ok (xA, xB)) (fun h1 => ?_) (fun h1 => ?_) <;> conv => cbv
    · refine r_mcall m.sX (cOne_ok code a1 s1 6 h (by omega) (by omega)) ?_
      rintro _ _ ⟨q1, rfl, ⟨a2, s2, rfl, ea2, fa2⟩⟩
      conv => cbv
      rcases Bool.eq_false_or_eq_true q1 with rfl | rfl <;> conv => cbv
      · refine r_mcall m.sX (cPrinted_ok code a2 s2 h (by omega) (by omega)) ?_
        rintro _ _ ⟨q2, rfl, ⟨a3, s3, rfl, ea3, fa3⟩, bq2_1⟩
        conv => cbv
        refine r_mcall m.sX (cPrinted_ok code a3 s3 h (by omega) (by omega)) ?_
        rintro _ _ ⟨q3, rfl, ⟨a4, s4, rfl, ea4, fa4⟩, bq3_1⟩
        conv => cbv
        exact hQ (.tup [.str q2, .str q3]) ⟨q2, q3, rfl, (by first | omega | assumption | (simp; done) | (simp [*]; done) | (simp at *; omega)), (by first | omega | assumption | (simp; done) | (simp [*]; done) | (simp at *; omega))⟩   -- leaf 1
      · refine r_draw m (by kernel_rfl) ?_
        conv => cbv
        refine r_callFS .str m.sY (coForme_ok (xA, xB) ([98] : List UInt8) (by first | rfl | assumption | omega | (simp only [List.length_append, List.length_cons, List.length_nil] at *; omega)) (by first | rfl | assumption | omega | (simp only [List.length_append, List.length_cons, List.length_nil] at *; omega))) trivial fun v1 hv1 => ?_
        conv => cbv
        try dsimp only at hv1
        have vl : v1.length = xA.length := by rw [hv1]; exact zipU_length _ (okInked_spec h1).len
        refine r_callFS .str m.sY (coForme_ok (xA, xB) ([114] : List UInt8) (by first | rfl | assumption | omega | (simp only [List.length_append, List.length_cons, List.length_nil] at *; omega)) (by first | rfl | assumption | omega | (simp only [List.length_append, List.length_cons, List.length_nil] at *; omega))) trivial fun v2 hv2 => ?_
        conv => cbv
        try dsimp only at hv2
        have vl2 : v2.length = xA.length := by rw [hv2]; exact zipU_length _ (okInked_spec h1).len
        exact hQ (.tup [.str v1, .str v2]) ⟨v1, v2, rfl, (by first | omega | assumption | (simp; done) | (simp [*]; done) | (simp at *; omega)), (by first | omega | assumption | (simp; done) | (simp [*]; done) | (simp at *; omega))⟩   -- leaf 2
    · refine r_mcall m.sX (cPrinted_ok code a1 s1 h (by omega) (by omega)) ?_
      rintro _ _ ⟨q4, rfl, ⟨a5, s5, rfl, ea5, fa5⟩, bq4_1⟩
      conv => cbv
      refine r_mcall m.sX (cPrinted_ok code a5 s5 h (by omega) (by omega)) ?_
      rintro _ _ ⟨q5, rfl, ⟨a6, s6, rfl, ea6, fa6⟩, bq5_1⟩
      conv => cbv
      exact hQ (.tup [.str q4, .str q5]) ⟨q4, q5, rfl, (by first | omega | assumption | (simp; done) | (simp [*]; done) | (simp at *; omega)), (by first | omega | assumption | (simp; done) | (simp [*]; done) | (simp at *; omega))⟩   -- leaf 3

theorem drawParseInked_ok (code : List Int) (h : CurIn code) : OkA Try.prog 19 [.isl 1 (rows cU8 code)] (fun r => ∃ (q : List UInt8), r = .str q ∧ ((q.length : Int) ≤ 100)) :=
  fn_intro envOk fieldsOk mixed Try.func19 rfl fun κ X Y L Q m hQ => by
    conv => cbv
    refine r_mcall m.sX (cInked_ok code 0 0 h (by omega) (by omega)) ?_
    rintro _ _ ⟨⟨xA, xB⟩, rfl, ⟨a1, s1, rfl, ea1, fa1⟩, bx_1, bx_2⟩
    try dsimp only at bx_1 bx_2
    conv => cbv
    refine r_callB m.sX (coGood_ok (xA, xB)) (fun h1 => ?_) (fun h1 => ?_) <;> conv => cbv
    · refine r_callF .str m.sX (coTold_ok (xA, xB) (by first | rfl | assumption | omega | (simp only [List.length_append, List.length_cons, List.length_nil] at *; omega))) fun s_ hs_ => ?_
      conv => cbv
      try dsimp only at hs_
      have sl : s_.length = xA.length := by rw [hs_]; exact zipU_length _ (okInked_spec h1).len
      refine r_mcall m.sX (cPick_ok code a1 s1 4 h (by omega) (by omega)) ?_
      rintro _ _ ⟨q1, rfl, ⟨a2, s2, rfl, ea2, fa2⟩, bq1, cq1, dq1⟩
      conv => cbv
      refine r_eql m.sX (fun h2 => ?_) (fun h2 => ?_) <;> conv => cbv
      · refine r_mcall m.sX (cSpoilt_ok code a2 s2 s_ ([97, 65, 32, 46, 49] : List UInt8) h (by omega) (by omega) (by first | rfl | assumption | omega | (simp only [List.length_append, List.length_cons, List.length_nil] at *; omega)) (by first | rfl | assumption | omega | (simp only [List.length_append, List.length_cons, List.length_nil] at *; omega)) (by first | rfl | assumption | omega | (simp only [List.length_append, List.length_cons, List.length_nil] at *; omega))) ?_
        rintro _ _ ⟨q2, rfl, ⟨a3, s3, rfl, ea3, fa3⟩, bq2_1⟩
        conv => cbv
        exact hQ (.str q2) ⟨q2, rfl, (by first | omega | assumption | (simp; done) | (simp [*]; done) | (simp at *; omega))⟩   -- leaf 1
      · refine r_eql m.sX (fun h3 => ?_) (fun h3 => ?_) <;> conv => cbv
        · refine r_mcall m.sX (cOfL_ok code a2 s2 ([([] : List UInt8), ([32] : List UInt8), ([65] : List UInt8), ([97, 46, 98] : List UInt8), ([116, 104, 101, 32, 82, 101, 100, 32, 99, 97, 116] : List UInt8), ([97, 98, 99, 100, 101, 102, 103, 104, 105, 106, 107, 108, 109, 110, 111, 112, 113, 114, 115, 116, 117, 118, 119, 120, 121, 122, 97, 98, 99, 100] : List UInt8), ([97, 98, 99, 100, 101, 102, 103, 104, 105, 106, 107, 108, 109, 110, 111, 112, 113, 114, 115, 116, 117, 118, 119, 120, 121, 122, 97, 98, 99, 100, 101] : List UInt8)]) h (by omega) (by omega) (by first | rfl | assumption | omega | (simp only [List.length_append, List.length_cons, List.length_nil] at *; omega)) (by first | rfl | assumption | omega | (simp only [List.length_append, List.length_cons, List.length_nil] at *; omega))) ?_
          rintro _ _ ⟨q3, rfl, ⟨a4, s4, rfl, ea4, fa4⟩, bq3_1⟩
          have ql := mem_len bq3_1 (by decide)
          try dsimp only at ql
          conv => cbv
          exact hQ (.str q3) ⟨q3, rfl, (by first | omega | assumption | (simp; done) | (simp [*]; done) | (simp at *; omega))⟩   -- leaf 2
        · exact hQ (.str s_) ⟨s_, rfl, (by first | omega | assumption | (simp; done) | (simp [*]; done) | (simp at *; omega))⟩   -- leaf 3
    · refine r_mcall m.sX (cPick_ok code a1 s1 4 h (by omega) (by omega)) ?_
      rintro _ _ ⟨q4, rfl, ⟨a5, s5, rfl, ea5, fa5⟩, bq4, cq4, dq4⟩
      conv => cbv
      refine r_eql m.sX (fun h4 => ?_) (fun h4 => ?_) <;> conv => cbv
      · refine r_mcall m.sX (cSpoilt_ok code a5 s5 ([116, 104, 101, 32, 82, 101, 100, 32, 99, 97, 116] : List UInt8) ([97, 65, 32, 46, 49] : List UInt8) h (by omega) (by omega) (by first | rfl | assumption | omega | (simp only [List.length_append, List.length_cons, List.length_nil] at *; omega)) (by first | rfl | assumption | omega | (simp only [List.length_append, List.length_cons, List.length_nil] at *; omega)) (by first | rfl | assumption | omega | (simp only [List.length_append, List.length_cons, List.length_nil] at *; omega))) ?_
        rintro _ _ ⟨q5, rfl, ⟨a6, s6, rfl, ea6, fa6⟩, bq5_1⟩
        conv => cbv
        exact hQ (.str q5) ⟨q5, rfl, (by first | omega | assumption | (simp; done) | (simp [*]; done) | (simp at *; omega))⟩   -- leaf 4
      · refine r_eql m.sX (fun h5 => ?_) (fun h5 => ?_) <;> conv => cbv
        · refine r_mcall m.sX (cOfL_ok code a5 s5 ([([] : List UInt8), ([32] : List UInt8), ([65] : List UInt8), ([97, 46, 98] : List UInt8), ([116, 104, 101, 32, 82, 101, 100, 32, 99, 97, 116] : List UInt8), ([97, 98, 99, 100, 101, 102, 103, 104, 105, 106, 107, 108, 109, 110, 111, 112, 113, 114, 115, 116, 117, 118, 119, 120, 121, 122, 97, 98, 99, 100] : List UInt8), ([97, 98, 99, 100, 101, 102, 103, 104, 105, 106, 107, 108, 109, 110, 111, 112, 113, 114, 115, 116, 117, 118, 119, 120, 121, 122, 97, 98, 99, 100, 101] : List UInt8)]) h (by omega) (by omega) (by first | rfl | assumption | omega | (simp only [List.length_append, List.length_cons, List.length_nil] at *; omega)) (by first | rfl | assumption | omega | (simp only [List.length_append, List.length_cons, List.length_nil] at *; omega))) ?_
          rintro _ _ ⟨q6, rfl, ⟨a7, s7, rfl, ea7, fa7⟩, bq6_1⟩
          have ql := mem_len bq6_1 (by decide)
          try dsimp only at ql
          conv => cbv
          exact hQ (.str q6) ⟨q6, rfl, (by first | omega | assumption | (simp; done) | (simp [*]; done) | (simp at *; omega))⟩   -- leaf 5
        · exact hQ (.str ([116, 104, 101, 32, 82, 101, 100, 32, 99, 97, 116] : List UInt8)) ⟨([116, 104, 101, 32, 82, 101, 100, 32, 99, 97, 116] : List UInt8), rfl, (by first | omega | assumption | (simp; done) | (simp [*]; done) | (simp at *; omega))⟩   -- leaf 6

end Go.Proofs.Ytjohfigipllpoaa.Ai
