/- Contracts of what the law on measures draws. -/
import Derived.Test.YtfnfjgdepilgkaaMeas
import Derived.Test.YtfnfjgdepilgkaaJustDraw
import Derived.Test.YtfnfjgdepilgkaaFontDraw
namespace Go.Proofs.Ytfnfjgdepilgkaa.Ai
open Go Go.Proofs
set_option maxRecDepth 10000
set_option maxHeartbeats 4000000
set_option linter.unusedVariables false

theorem idxF_len (c : List UInt8) (f : List FSort) : 0 ≤ idxF c f 0 → codeL f (idxF c f 0) = c.length := by
  intro h
  rcases idxF_is c f with ⟨h1, _⟩ | ⟨i, x, h1, h2, h3, _⟩
  · omega
  · rw [h1, codeL_some (by simpa using h2), h3]

theorem tySetG_ok (f : List FSort) (word : List UInt8) (hw : word.length ≤ 100) : OkA Try.prog 203 [.isl 2 (rows cSort f), .str word] (fun r => ∃ (q1 : List Int) (q2 : Bool), r = .tup [.fr 3 1 (rows cInt q1), .bool q2] ∧ (∀ z ∈ q1, 0 ≤ z ∧ z < (f.length : Int)) ∧ ((q1.length : Int) ≤ word.length)) :=
  OkA.unnilR 3 1 (fn_intro envOk fieldsOk mixed Try.func203 rfl fun κ X Y L Q m hQ => by
    conv => cbv
    refine r_loopF (α := List Int × Int) m 50 [0, 1, 7] [⟨6, 49, 3, 1, 0⟩] (fun σ => [(0, .isl 2 (rows cSort f)), (1, .str word), (6, .osl 49 0), (7, .int .i64 σ.2)]) (fun σ => [(49, 0, .row 3 1 (rows cInt σ.1))])
      (fun σ => (0 ≤ σ.2) ∧ (σ.2 ≤ (word.length : Int)) ∧ (∀ z ∈ σ.1, 0 ≤ z ∧ z < (f.length : Int)) ∧ ((σ.1.length : Int) ≤ σ.2)) (fun σ => ((word.length : Int) - σ.2).toNat) ([], 0) ?_ ?_ ?_ ?_
    · cbv
    · (try dsimp only); simp only [rows_cons, rows_nil]; cbv
    · exact ⟨(by (try dsimp only); first | omega | (simp only [List.length_nil]; omega)), (by (try dsimp only); first | omega | (simp only [List.length_nil]; omega)), (by (try dsimp only) <;> (intro z hz; cases hz)), (by (try dsimp only) <;> first | omega | rfl | (simp [*]; done))⟩
    rintro ⟨out, at_⟩ ⟨lo1, hi1, bo, ln⟩ E hE F hF
    dsimp only at lo1 hi1 bo ln
    conv => cbv
    refine r_slen (u := word) m.sX fun n1 hn1 mn1 => ?_   -- n1 = length of word
    conv => cbv
    refine r_lss m.sX (fun h1 => ?_) (fun h1 => ?_) <;> conv => cbv
    · refine r_slen (u := word) m.sX fun n2 hn2 mn2 => ?_   -- n2 = length of word
      conv => cbv
      refine r_subf m.sX (by omega) (by omega) fun r1 hr1 => ?_
      conv => cbv
      refine r_callF (PV.int .i64) m.sX (l1Least_ok 3 r1) fun n hn => ?_
      conv => cbv
      refine r_loopF (α := Int × Int) m 50 [0, 1, 7, 8, 9] [⟨6, 49, 3, 1, 0⟩] (fun σ => [(0, .isl 2 (rows cSort f)), (1, .str word), (6, .osl 49 0), (7, .int .i64 at_), (8, .int .i64 σ.1), (9, .int .i64 σ.2)]) (fun σ => [(49, 0, .row 3 1 (rows cInt out))])
        (fun σ => (-1 ≤ σ.1 ∧ σ.1 < f.length) ∧ (0 ≤ σ.2 ∧ σ.2 ≤ r1) ∧ (0 ≤ σ.1 → 1 ≤ codeL f σ.1 ∧ codeL f σ.1 ≤ r1)) (fun σ => σ.2.toNat) (-1, n) ?_ ?_ ?_ ?_
      · cbv
      · cbv
      · exact ⟨(by (try dsimp only) <;> (omega)), (by (try dsimp only) <;> (omega)), (by (try dsimp only) <;> (intro e; omega))⟩
      rintro ⟨best, n_2⟩ ⟨bb, nb, bl⟩ E2 hE2 F2 hF2
      dsimp only at bb nb bl
      conv => cbv
      refine r_gtr m.sX (fun h2 => ?_) (fun h2 => ?_) <;> conv => cbv
      · refine r_lss m.sX (fun h3 => ?_) (fun h3 => ?_) <;> conv => cbv
        · refine r_addf m.sX (by omega) (by omega) fun r2 hr2 => ?_
          conv => cbv
          refine r_sslice (u := word) (i := at_) (j := r2) m.sX (by omega) (by omega) (by first | omega | (simp only [List.length_cons, List.length_nil]; omega) | (simp; omega)) fun s1 hs1 => ?_   -- s1 = word[at_:r2]
          have ls1 : (s1.length : Int) = r2 - at_ := by rw [hs1]; first | done | (simp; done) | (simp; omega)
          conv => cbv
          refine r_callF (PV.int .i64) m.sX (tyFind_ok f s1) fun best_2 hbest_2 => ?_
          conv => cbv
          have fi := idxF_in s1 f
          have il := idxF_len s1 f
          rw [← hbest_2] at fi il
          refine r_subf m.sX (by omega) (by omega) fun n_3 hn_3 => ?_
          conv => cbv
          refine hE2 _ (best_2, n_3) ?_ ?_ ⟨(by (try dsimp only) <;> (omega)), (by (try dsimp only) <;> (omega)), (by (try dsimp only) <;> (intro e; have z := il e; omega))⟩ (by first | omega | (dsimp only; omega))
          · cbv
          · cbv
        · refine hF2 _ _ ?_
          conv => cbv
          refine r_lss m.sX (fun h4 => ?_) (fun h4 => ?_) <;> conv => cbv
          · refine hF _ _ ?_
            conv => cbv
            exact hQ (.tup [.nil, .bool false]) ⟨[], false, (by first | rfl | (simp only [rows_nil]; rfl) | (simp only [rows_cons, rows_nil]; rfl)), (by first | omega | assumption | (simp; done) | (simp [*]; done) | (simp at *; omega)), (by first | omega | assumption | (simp; done) | (simp [*]; done) | (simp at *; omega))⟩   -- leaf 1
          · refine r_append1 (best) m.sX rfl (by first | omega | (dsimp only; omega)) (by first | omega | (dsimp only; omega)) fun out_2 hout_2 => ?_
            conv => cbv
            have lout_2 : (out_2.length : Int) = out.length + 1 := by rw [hout_2]; first | done | (simp; done) | (simp; omega)
            refine r_index m.sX (by omega) (by omega) fun v hx1A => ?_
            obtain ⟨x1A, x1B⟩ := v
            conv => cbv
            have hx1 := hx1A
            have mx1 := get_mem hx1
            have c1 : codeL f best = x1A.length := codeL_some hx1
            have bz := bl (by omega)
            try dsimp only at bz
            refine r_slen (u := x1A) m.sX fun n3 hn3 mn3 => ?_   -- n3 = length of x1A
            conv => cbv
            refine r_addf m.sX (by omega) (by omega) fun at__2 hat__2 => ?_
            conv => cbv
            try have tat__2 : Int.toNat at__2 = Int.toNat at_ + 1 := by omega
            refine hE _ (out_2, at__2) ?_ ?_ ⟨(by (try dsimp only); first | omega | (simp only [List.length_nil]; omega)), (by (try dsimp only); first | omega | (simp only [List.length_nil]; omega)), (by (try dsimp only) <;> (intro z hz; rw [hout_2] at hz; rcases List.mem_append.1 hz with hz | hz; exact bo z hz; (rw [List.mem_singleton.1 hz]; omega))), (by (try dsimp only) <;> (omega))⟩ (by first | omega | (dsimp only; omega))
            · cbv
            · cbv
      · refine hF2 _ _ ?_
        conv => cbv
        refine r_lss m.sX (fun h5 => ?_) (fun h5 => ?_) <;> conv => cbv
        · refine hF _ _ ?_
          conv => cbv
          exact hQ (.tup [.nil, .bool false]) ⟨[], false, (by first | rfl | (simp only [rows_nil]; rfl) | (simp only [rows_cons, rows_nil]; rfl)), (by first | omega | assumption | (simp; done) | (simp [*]; done) | (simp at *; omega)), (by first | omega | assumption | (simp; done) | (simp [*]; done) | (simp at *; omega))⟩   -- leaf 2
        · refine r_append1 (best) m.sX rfl (by first | omega | (dsimp only; omega)) (by first | omega | (dsimp only; omega)) fun out_3 hout_3 => ?_
          conv => cbv
          have lout_3 : (out_3.length : Int) = out.length + 1 := by rw [hout_3]; first | done | (simp; done) | (simp; omega)
          refine r_index m.sX (by omega) (by omega) fun v hx2A => ?_
          obtain ⟨x2A, x2B⟩ := v
          conv => cbv
          have hx2 := hx2A
          have mx2 := get_mem hx2
          have c1 : codeL f best = x2A.length := codeL_some hx2
          have bz := bl (by omega)
          try dsimp only at bz
          refine r_slen (u := x2A) m.sX fun n4 hn4 mn4 => ?_   -- n4 = length of x2A
          conv => cbv
          refine r_addf m.sX (by omega) (by omega) fun at__3 hat__3 => ?_
          conv => cbv
          try have tat__3 : Int.toNat at__3 = Int.toNat at_ + 1 := by omega
          refine hE _ (out_3, at__3) ?_ ?_ ⟨(by (try dsimp only); first | omega | (simp only [List.length_nil]; omega)), (by (try dsimp only); first | omega | (simp only [List.length_nil]; omega)), (by (try dsimp only) <;> (intro z hz; rw [hout_3] at hz; rcases List.mem_append.1 hz with hz | hz; exact bo z hz; (rw [List.mem_singleton.1 hz]; omega))), (by (try dsimp only) <;> (omega))⟩ (by first | omega | (dsimp only; omega))
          · cbv
          · cbv
    · refine hF _ _ ?_
      conv => cbv
      exact hQ (.tup [.fr 3 1 (rows cInt out), .bool true]) ⟨out, true, rfl, (by first | omega | assumption | (simp; done) | (simp [*]; done) | (simp at *; omega)), (by first | omega | assumption | (simp; done) | (simp [*]; done) | (simp at *; omega))⟩)   -- leaf 3

theorem tyWideG_ok (f : List FSort) (sorts : List Int) (hz : ∀ z ∈ sorts, 0 ≤ z ∧ z < f.length) (hl : sorts.length ≤ 100) (hf : ∀ k, -100 ≤ setAt f k ∧ setAt f k ≤ 100) : OkA Try.prog 204 [.isl 2 (rows cSort f), .isl 1 (rows cInt sorts)] (· = .int .i64 (wideI f sorts)) :=
  fn_intro envOk fieldsOk mixed Try.func204 rfl fun κ X Y L Q m hQ => by
    conv => cbv
    refine r_lenR m.sX fun n1 hn1 mn1 => ?_
    conv => cbv
    refine r_loopF (α := Int × Int) m 23 [0, 5, 8, 9, 10] [] (fun σ => [(0, .isl 2 (rows cSort f)), (5, .int .i64 σ.1), (8, .isl 1 (rows cInt sorts)), (9, .int .i64 n1), (10, .int .i64 σ.2)]) (fun σ => [])
      (fun σ => (0 ≤ σ.2) ∧ (σ.2 ≤ n1) ∧ (σ.1 = wideI f (sorts.take σ.2.toNat)) ∧ (-(100 * σ.2) ≤ σ.1 ∧ σ.1 ≤ 100 * σ.2)) (fun σ => (n1 - σ.2).toNat) (0, 0) ?_ ?_ ?_ ?_
    · cbv
    · cbv
    · exact ⟨(by (try dsimp only); first | omega | (simp only [List.length_nil]; omega)), (by (try dsimp only); first | omega | (simp only [List.length_nil]; omega)), (by (try dsimp only) <;> (rfl)), (by (try dsimp only) <;> first | omega | rfl | (simp [*]; done))⟩
    rintro ⟨sum, i1⟩ ⟨lo1, hi1, q, sb⟩ E hE F hF
    dsimp only at lo1 hi1 q sb
    conv => cbv
    refine r_lss m.sX (fun h1 => ?_) (fun h1 => ?_) <;> conv => cbv
    · refine r_index m.sX (by omega) (by omega) fun i hi => ?_
      conv => cbv
      have mi := get_mem hi
      have di := drop_cons hi
      have ki := take_snoc hi
      have ji : (i1 + 1).toNat = Int.toNat i1 + 1 := by omega
      have vi := nth_some hi
      have bi := hz _ mi
      refine r_index m.sX (by omega) (by omega) fun v hx1A => ?_
      obtain ⟨x1A, x1B⟩ := v
      conv => cbv
      have hx1 := hx1A
      have mx1 := get_mem hx1
      have sv : setAt f i = x1B := setAt_some hx1
      have sb1 := hf i
      try dsimp only at sb1
      refine r_addf m.sX (by omega) (by omega) fun sum_2 hsum_2 => ?_
      conv => cbv
      refine r_addf m.sX (by omega) (by omega) fun r1 hr1 => ?_
      conv => cbv
      try have tr1 : Int.toNat r1 = Int.toNat i1 + 1 := by omega
      refine hE _ (sum_2, r1) ?_ ?_ ⟨(by (try dsimp only); first | omega | (simp only [List.length_nil]; omega)), (by (try dsimp only); first | omega | (simp only [List.length_nil]; omega)), (by (try dsimp only) <;> (rw [hsum_2, q, tr1, wideI_take hi, sv])), (by (try dsimp only) <;> (omega))⟩ (by first | omega | (dsimp only; omega))
      · cbv
      · cbv
    · have dz_i1 := drop_end (xs := sorts) (i := Int.toNat i1) (by omega)
      have tz_i1 := take_end (xs := sorts) (i := Int.toNat i1) (by omega)
      refine hF _ _ ?_
      conv => cbv
      exact hQ (.int .i64 sum) (Eq.trans (by first | rfl | (simp only [lb, lbI, rows_cons, rows_nil, unnilT, unnil, unnilTI, unnilI]; done) | (simp only [lb, lbI, rows_cons, rows_nil, unnilT, unnil, unnilTI, unnilI]; rfl)) (congrArg (PV.int .i64) (show sum = wideI f sorts from by rw [q, tz_i1])))   -- leaf 1

theorem tyWidthG_ok (f : List FSort) (word : List UInt8) (hw : word.length ≤ 100) (hf : ∀ k, -100 ≤ setAt f k ∧ setAt f k ≤ 100) : OkA Try.prog 190 [.isl 2 (rows cSort f), .str word] (fun r => ∃ (q1 : Int) (q2 : Bool), r = .tup [.int .i64 q1, .bool q2] ∧ (-20000 ≤ q1 ∧ q1 ≤ 20000)) :=
  fn_intro envOk fieldsOk mixed Try.func190 rfl fun κ X Y L Q m hQ => by
    conv => cbv
    refine r_callE m.sX (tySetG_ok f word (by first | rfl | assumption | omega | (simp only [List.length_append, List.length_cons, List.length_nil] at *; omega))) ?_
    rintro _ ⟨sorts, ok, rfl, bsorts_1, bsorts_2⟩
    conv => cbv
    refine .inl (r_callFO intPV m.sX ((tyWideG_ok f sorts (by first | rfl | assumption | omega | (simp only [List.length_append, List.length_cons, List.length_nil] at *; omega)) (by first | rfl | assumption | omega | (simp only [List.length_append, List.length_cons, List.length_nil] at *; omega)) (by first | rfl | assumption | omega | (simp only [List.length_append, List.length_cons, List.length_nil] at *; omega))).ok flat_int) fun r1 hr1 => ?_)
    conv => cbv
    have wb := wideI_bound hf sorts
    rw [← hr1] at wb
    exact hQ (.tup [.int .i64 r1, .bool ok]) ⟨r1, ok, rfl, (by first | omega | assumption | (simp; done) | (simp [*]; done) | (simp at *; omega))⟩   -- leaf 1

theorem juWidthsG_ok (f : List FSort) (words : List (List UInt8)) (hl : words.length ≤ 1000) (hk : ∀ w ∈ words, w.length ≤ 100) (hf : ∀ k, -100 ≤ setAt f k ∧ setAt f k ≤ 100) : OkA Try.prog 140 [.isl 2 (rows cSort f), .isl 1 (rows cStr words)] (fun r => ∃ (q1 : List Int) (q2 : Bool), r = .tup [.fr 3 1 (rows cInt q1), .bool q2] ∧ ((q1.length : Int) ≤ 1000)) :=
  OkA.unnilR 3 1 (fn_intro envOk fieldsOk mixed Try.func140 rfl fun κ X Y L Q m hQ => by
    conv => cbv
    refine r_lenR m.sX fun n1 hn1 mn1 => ?_
    conv => cbv
    refine r_loopF (α := List Int × Int) m 31 [0, 11, 12, 13] [⟨6, 49, 3, 1, 0⟩] (fun σ => [(0, .isl 2 (rows cSort f)), (6, .osl 49 0), (11, .isl 1 (rows cStr words)), (12, .int .i64 n1), (13, .int .i64 σ.2)]) (fun σ => [(49, 0, .row 3 1 (rows cInt σ.1))])
      (fun σ => (0 ≤ σ.2) ∧ (σ.2 ≤ n1) ∧ ((σ.1.length : Int) ≤ σ.2)) (fun σ => (n1 - σ.2).toNat) ([], 0) ?_ ?_ ?_ ?_
    · cbv
    · (try dsimp only); simp only [rows_cons, rows_nil]; cbv
    · exact ⟨(by (try dsimp only); first | omega | (simp only [List.length_nil]; omega)), (by (try dsimp only); first | omega | (simp only [List.length_nil]; omega)), (by (try dsimp only) <;> first | omega | rfl | (simp [*]; done))⟩
    rintro ⟨out, i1⟩ ⟨lo1, hi1, ln⟩ E hE F hF
    dsimp only at lo1 hi1 ln
    conv => cbv
    refine r_lss m.sX (fun h1 => ?_) (fun h1 => ?_) <;> conv => cbv
    · refine r_index m.sX (by omega) (by omega) fun w hw => ?_
      conv => cbv
      have mw := get_mem hw
      have dw := drop_cons hw
      have kw := take_snoc hw
      have jw : (i1 + 1).toNat = Int.toNat i1 + 1 := by omega
      have wl := hk w mw
      refine r_callE m.sX (tyWidthG_ok f w (by first | rfl | assumption | omega | (simp only [List.length_append, List.length_cons, List.length_nil] at *; omega)) (by first | rfl | assumption | omega | (simp only [List.length_append, List.length_cons, List.length_nil] at *; omega))) ?_
      rintro _ ⟨n, ok, rfl, bn_1⟩
      conv => cbv
      rcases Bool.eq_false_or_eq_true ok with rfl | rfl <;> conv => cbv
      · refine r_append1 (n) m.sX rfl (by first | omega | (dsimp only; omega)) (by first | omega | (dsimp only; omega)) fun out_2 hout_2 => ?_
        conv => cbv
        have lout_2 : (out_2.length : Int) = out.length + 1 := by rw [hout_2]; first | done | (simp; done) | (simp; omega)
        refine r_addf m.sX (by omega) (by omega) fun r1 hr1 => ?_
        conv => cbv
        try have tr1 : Int.toNat r1 = Int.toNat i1 + 1 := by omega
        refine hE _ (out_2, r1) ?_ ?_ ⟨(by (try dsimp only); first | omega | (simp only [List.length_nil]; omega)), (by (try dsimp only); first | omega | (simp only [List.length_nil]; omega)), (by (try dsimp only) <;> first | omega | rfl | (simp [*]; done) | (rw [ln]; simp [*]; done))⟩ (by first | omega | (dsimp only; omega))
        · cbv
        · cbv
      · refine hF _ _ ?_
        conv => cbv
        exact hQ (.tup [.nil, .bool false]) ⟨[], false, (by first | rfl | (simp only [rows_nil]; rfl) | (simp only [rows_cons, rows_nil]; rfl)), (by first | omega | assumption | (simp; done) | (simp [*]; done) | (simp at *; omega))⟩   -- leaf 1
    · have dz_i1 := drop_end (xs := words) (i := Int.toNat i1) (by omega)
      have tz_i1 := take_end (xs := words) (i := Int.toNat i1) (by omega)
      refine hF _ _ ?_
      conv => cbv
      exact hQ (.tup [.fr 3 1 (rows cInt out), .bool true]) ⟨out, true, rfl, (by first | omega | assumption | (simp; done) | (simp [*]; done) | (simp at *; omega))⟩)   -- leaf 2

theorem cMeasureOfG_ok (code : List Int) (b0 t0 : Int) (words : List Int) (r : JRule) (h : CurIn code) (h0 : 0 ≤ b0) (hk : b0 ≤ 899999999999980000)  : OkM Try.prog 132 (cCur code b0 t0) [.isl 1 (rows cInt words), .agg (cRule r)] (fun r cs => ∃ (q : Int), r = .int .i64 q ∧ CurTo code b0 20 cs ∧ (-1 ≤ q ∧ q ≤ 2001)) := by
  obtain ⟨rA, rB, rC⟩ := r
  try dsimp only at *
  exact fnM_intro envOk fieldsOk mixed Try.func132 rfl fun κ X Y L Q m hQ => by
    conv => cbv
    refine r_callB m.sX (juLine_ok words) (fun h1 => ?_) (fun h1 => ?_) <;> conv => cbv
    · have s1 := line_sum h1
      try dsimp only at s1
      have s0 := line_fits h1
      try dsimp only at s0
      refine r_callB m.sX (juRule_ok (rA, rB, rC)) (fun h2 => ?_) (fun h2 => ?_) <;> conv => cbv
      · have s2 := okRule_spec h2
        try dsimp only at s2
        refine r_mcall m.sX (cOne_ok code b0 t0 4 h (by omega) (by omega)) ?_
        rintro _ _ ⟨q1, rfl, ⟨a1, s1, rfl, ea1, fa1⟩⟩
        conv => cbv
        rcases Bool.eq_false_or_eq_true q1 with rfl | rfl <;> conv => cbv
        · refine r_mcall m.sX (cAmong_ok code a1 s1 ([100, 0, 2001]) (by simp) h (by omega) (by omega)) ?_
          rintro _ _ ⟨q2, rfl, ⟨a2, s2, rfl, ea2, fa2⟩, bq2⟩
          simp only [List.mem_cons, List.not_mem_nil, or_false] at bq2
          conv => cbv
          refine r_mcall m.sX (cAmong_ok code a2 s2 ([1, 50, 86, 120, 2000, q2]) (by simp) h (by omega) (by omega)) ?_
          rintro _ _ ⟨q3, rfl, ⟨a3, s3, rfl, ea3, fa3⟩, bq3⟩
          simp only [List.mem_cons, List.not_mem_nil, or_false] at bq3
          conv => cbv
          exact hQ (.int .i64 q3) (cCur code a3 s3) ⟨q3, rfl, ⟨a3, s3, rfl, by omega, by omega⟩, (by first | omega | assumption | (simp; done) | (simp [*]; done) | (simp at *; omega))⟩   -- leaf 1
        · refine r_draw m (by kernel_rfl) ?_
          conv => cbv
          refine r_callFS (PV.int .i64) m.sY (juSum_ok words (by first | rfl | assumption | omega | (simp only [List.length_append, List.length_cons, List.length_nil] at *; omega))) trivial fun r1 hr1 => ?_
          conv => cbv
          try dsimp only at hr1
          refine r_lenRS m.sY (by omega) fun n1 hn1 => ?_
          conv => cbv
          refine r_subf m.sY (by omega) (by omega) fun r2 hr2 => ?_
          conv => cbv
          have g1 := gaps_mul (show 0 ≤ r2 ∧ r2 ≤ 19 by omega) (show 1 ≤ rA ∧ rA ≤ 54 by omega)
          try dsimp only at g1
          refine r_mulf m.sY (by first | omega | (subst_vars; omega)) (by first | omega | (subst_vars; omega)) fun r3 hr3 => ?_
          conv => cbv
          refine r_addf m.sY (by omega) (by omega) fun low hlow => ?_
          conv => cbv
          refine r_callFS (PV.int .i64) m.sY (juSum_ok words (by first | rfl | assumption | omega | (simp only [List.length_append, List.length_cons, List.length_nil] at *; omega))) trivial fun y1 hy1 => ?_
          obtain rfl := hr1.trans hy1.symm
          clear hy1
          conv => cbv
          refine r_lenRS m.sY (by omega) fun n2 hn2 => ?_
          conv => cbv
          refine r_subf m.sY (by omega) (by omega) fun r4 hr4 => ?_
          conv => cbv
          have g2 := gaps_mul (show 0 ≤ r4 ∧ r4 ≤ 19 by omega) (show 1 ≤ rC ∧ rC ≤ 54 by omega)
          try dsimp only at g2
          refine r_mulf m.sY (by first | omega | (subst_vars; omega)) (by first | omega | (subst_vars; omega)) fun r5 hr5 => ?_
          conv => cbv
          refine r_addf m.sY (by omega) (by omega) fun high hhigh => ?_
          conv => cbv
          refine r_subf m.sX (by omega) (by omega) fun r6 hr6 => ?_
          conv => cbv
          refine r_addf m.sX (by omega) (by omega) fun r7 hr7 => ?_
          conv => cbv
          refine r_mcall m.sX (cPick_ok code a1 s1 r7 h (by omega) (by omega)) ?_
          rintro _ _ ⟨q4, rfl, ⟨a4, s4, rfl, ea4, fa4⟩, bq4, cq4, dq4⟩
          conv => cbv
          refine r_addf m.sX (by omega) (by omega) fun r8 hr8 => ?_
          conv => cbv
          refine r_subf m.sX (by omega) (by omega) fun r9 hr9 => ?_
          conv => cbv
          refine r_callF (PV.int .i64) m.sX (l1Least_ok 2000 r9) fun r10 hr10 => ?_
          conv => cbv
          try dsimp only at hr10
          exact hQ (.int .i64 r10) (cCur code a4 s4) ⟨r10, rfl, ⟨a4, s4, rfl, by omega, by omega⟩, (by first | omega | assumption | (simp; done) | (simp [*]; done) | (simp at *; omega))⟩   -- leaf 2
      · refine r_mcall m.sX (cAmong_ok code b0 t0 ([100, 0, 2001]) (by simp) h (by omega) (by omega)) ?_
        rintro _ _ ⟨q5, rfl, ⟨a5, s5, rfl, ea5, fa5⟩, bq5⟩
        simp only [List.mem_cons, List.not_mem_nil, or_false] at bq5
        conv => cbv
        refine r_mcall m.sX (cAmong_ok code a5 s5 ([1, 50, 86, 120, 2000, q5]) (by simp) h (by omega) (by omega)) ?_
        rintro _ _ ⟨q6, rfl, ⟨a6, s6, rfl, ea6, fa6⟩, bq6⟩
        simp only [List.mem_cons, List.not_mem_nil, or_false] at bq6
        conv => cbv
        exact hQ (.int .i64 q6) (cCur code a6 s6) ⟨q6, rfl, ⟨a6, s6, rfl, by omega, by omega⟩, (by first | omega | assumption | (simp; done) | (simp [*]; done) | (simp at *; omega))⟩   -- leaf 3
    · refine r_mcall m.sX (cAmong_ok code b0 t0 ([100, 0, 2001]) (by simp) h (by omega) (by omega)) ?_
      rintro _ _ ⟨q7, rfl, ⟨a7, s7, rfl, ea7, fa7⟩, bq7⟩
      simp only [List.mem_cons, List.not_mem_nil, or_false] at bq7
      conv => cbv
      refine r_mcall m.sX (cAmong_ok code a7 s7 ([1, 50, 86, 120, 2000, q7]) (by simp) h (by omega) (by omega)) ?_
      rintro _ _ ⟨q8, rfl, ⟨a8, s8, rfl, ea8, fa8⟩, bq8⟩
      simp only [List.mem_cons, List.not_mem_nil, or_false] at bq8
      conv => cbv
      exact hQ (.int .i64 q8) (cCur code a8 s8) ⟨q8, rfl, ⟨a8, s8, rfl, by omega, by omega⟩, (by first | omega | assumption | (simp; done) | (simp [*]; done) | (simp at *; omega))⟩   -- leaf 4

theorem cMeasureOfG_ex (code : List Int) (b0 t0 : Int) : ∃ r cs, (∃ (q : Int), r = PV.int .i64 q ∧ CurTo code b0 20 cs ∧ (-1 ≤ q ∧ q ≤ 2001)) :=
  ⟨_, _, 0, rfl, ⟨b0, t0, rfl, by omega, by omega⟩, (by first | omega | simp)⟩

theorem drawWordsThatFit_ok (code : List Int) (h : CurIn code) : OkA Try.prog 49 [.isl 1 (rows cU8 code)] (fun r => ∃ (q1 : List Int) (q2 : JRule) (q3 : Int), r = .tup [.fr 3 1 (rows cInt q1), .agg (cRule q2), .int .i64 q3] ∧ ((q1.length : Int) ≤ 61)) :=
  fn_intro envOk fieldsOk mixed Try.func49 rfl fun κ X Y L Q m hQ => by
    conv => cbv
    refine r_mcall m.sX (cWidths_ok code 0 0 20 h (by omega) (by omega) (by first | rfl | assumption | omega | (simp only [List.length_append, List.length_cons, List.length_nil] at *; omega))) ?_
    rintro _ _ ⟨q1, rfl, ⟨a1, s1, rfl, ea1, fa1⟩, bq1_1⟩
    conv => cbv
    refine r_mcall m.sX (cRule_ok code a1 s1 h (by omega) (by omega)) ?_
    rintro _ _ ⟨⟨q2A, q2B, q2C⟩, rfl, ⟨a2, s2, rfl, ea2, fa2⟩⟩
    conv => cbv
    refine r_mcall m.sX (cAmong_ok code a2 s2 ([50, 0, 2001]) (by simp) h (by omega) (by omega)) ?_
    rintro _ _ ⟨q3, rfl, ⟨a3, s3, rfl, ea3, fa3⟩, bq3⟩
    simp only [List.mem_cons, List.not_mem_nil, or_false] at bq3
    conv => cbv
    refine r_mcall m.sX (cAmong_ok code a3 s3 ([1, 10, 40, 60, 86, 100, 2000, q3]) (by simp) h (by omega) (by omega)) ?_
    rintro _ _ ⟨q4, rfl, ⟨a4, s4, rfl, ea4, fa4⟩, bq4⟩
    simp only [List.mem_cons, List.not_mem_nil, or_false] at bq4
    conv => cbv
    exact hQ (.tup [.fr 3 1 (rows cInt q1), .agg [.int .i64 q2A, .int .i64 q2B, .int .i64 q2C], .int .i64 q4]) ⟨q1, (q2A, q2B, q2C), q4, rfl, (by first | omega | assumption | (simp; done) | (simp [*]; done) | (simp at *; omega))⟩   -- leaf 1

theorem drawBestMeasure_ok (code : List Int) (h : CurIn code) : OkA Try.prog 53 [.isl 1 (rows cU8 code)] (fun r => ∃ (q1 : List Int) (q2 : JRule) (q3 : Int) (q4 : Int), r = .tup [.isl 1 (rows cInt q1), .agg (cRule q2), .int .i64 q3, .int .i64 q4] ∧ ((q1.length : Int) ≤ 61)) :=
  fn_intro envOk fieldsOk mixed Try.func53 rfl fun κ X Y L Q m hQ => by
    conv => cbv
    refine r_mcall m.sX (cWidths_ok code 0 0 20 h (by omega) (by omega) (by first | rfl | assumption | omega | (simp only [List.length_append, List.length_cons, List.length_nil] at *; omega))) ?_
    rintro _ _ ⟨words, rfl, ⟨a1, s1, rfl, ea1, fa1⟩, bwords_1⟩
    conv => cbv
    refine r_mcall m.sX (cRule_ok code a1 s1 h (by omega) (by omega)) ?_
    rintro _ _ ⟨⟨rA, rB, rC⟩, rfl, ⟨a2, s2, rfl, ea2, fa2⟩⟩
    conv => cbv
    refine r_mcall m.sX (cMeasureOfG_ok code a2 s2 words (rA, rB, rC) h (by omega) (by omega)) ?_
    rintro _ _ ⟨n, rfl, ⟨a3, s3, rfl, ea3, fa3⟩, bn_1⟩
    conv => cbv
    refine r_draw m (by kernel_rfl) ?_
    conv => cbv
    refine r_mcallS m.sY (cAmong_ok code a3 s3 ([0, 3, 10, -1, 30, 2000]) (by simp) h (by omega) (by omega)) (cAmong_ex code a3 s3 ([0, 3, 10, -1, 30, 2000]) (by simp)) (by rintro _ _ ⟨_, rfl, _⟩; first | trivial | (intro x hx; simp at hx; rcases hx with rfl | rfl | rfl <;> trivial)) ?_
    rintro _ _ ⟨q1, rfl, ⟨a4, s4, rfl, ea4, fa4⟩, bq1⟩
    simp only [List.mem_cons, List.not_mem_nil, or_false] at bq1
    conv => cbv
    refine r_addf m.sY (by omega) (by omega) fun r1 hr1 => ?_
    conv => cbv
    exact hQ (.tup [.isl 1 (rows cInt words), .agg [.int .i64 rA, .int .i64 rB, .int .i64 rC], .int .i64 n, .int .i64 r1]) ⟨words, (rA, rB, rC), n, r1, rfl, (by first | omega | assumption | (simp; done) | (simp [*]; done) | (simp at *; omega))⟩   -- leaf 1

theorem drawSpacesFor_ok (code : List Int) (h : CurIn code) : OkA Try.prog 57 [.isl 1 (rows cU8 code)] (fun r => ∃ (q1 : List FSort) (q2 : List (List UInt8)) (q3 : JRule) (q4 : Int), r = .tup [.isl 2 (rows cSort q1), .isl 1 (rows cStr q2), .agg (cRule q3), .int .i64 q4] ∧ ((q1.length : Int) ≤ 40) ∧ ((q2.length : Int) ≤ 41)) :=
  fn_intro envOk fieldsOk mixed Try.func57 rfl fun κ X Y L Q m hQ => by
    conv => cbv
    refine r_mcall m.sX (cAnyFont_ok code 0 0 h (by omega) (by omega)) ?_
    rintro _ _ ⟨f, rfl, ⟨a1, s1, rfl, ea1, fa1⟩, bf_1, bf_2⟩
    have sf := sets_any bf_2
    conv => cbv
    refine r_mcall m.sX (cWords_ok code a1 s1 h (by omega) (by omega)) ?_
    rintro _ _ ⟨words, rfl, ⟨a2, s2, rfl, ea2, fa2⟩, bwords_1, bwords_2⟩
    have wk : ∀ w ∈ words, w.length ≤ 100 := fun w hw => by have z := bwords_2 w hw; omega
    conv => cbv
    refine r_mcall m.sX (cRule_ok code a2 s2 h (by omega) (by omega)) ?_
    rintro _ _ ⟨⟨rA, rB, rC⟩, rfl, ⟨a3, s3, rfl, ea3, fa3⟩⟩
    conv => cbv
    refine .inr (r_pcallE m.sX (juWidthsG_ok f words (by first | rfl | assumption | omega | (simp only [List.length_append, List.length_cons, List.length_nil] at *; omega)) (by first | rfl | assumption | omega | (simp only [List.length_append, List.length_cons, List.length_nil] at *; omega)) (by first | rfl | assumption | omega | (simp only [List.length_append, List.length_cons, List.length_nil] at *; omega))) ?_)
    rintro _ ⟨widths, ok, rfl, bwidths_1⟩
    conv => cbv
    rcases Bool.eq_false_or_eq_true ok with rfl | rfl <;> conv => cbv
    · refine r_draw m (by kernel_rfl) ?_
      conv => cbv
      refine r_mcallS m.sY (cMeasureOfG_ok code a3 s3 widths (rA, rB, rC) h (by omega) (by omega)) (cMeasureOfG_ex code a3 s3) (by rintro _ _ ⟨_, rfl, _⟩; first | trivial | (intro x hx; simp at hx; rcases hx with rfl | rfl | rfl <;> trivial)) ?_
      rintro _ _ ⟨q1, rfl, ⟨a4, s4, rfl, ea4, fa4⟩, bq1_1⟩
      conv => cbv
      exact hQ (.tup [.isl 2 (rows cSort f), .isl 1 (rows cStr words), .agg [.int .i64 rA, .int .i64 rB, .int .i64 rC], .int .i64 q1]) ⟨f, words, (rA, rB, rC), q1, rfl, (by first | omega | assumption | (simp; done) | (simp [*]; done) | (simp at *; omega)), (by first | omega | assumption | (simp; done) | (simp [*]; done) | (simp at *; omega))⟩   -- leaf 1
    · refine r_draw m (by kernel_rfl) ?_
      conv => cbv
      refine r_mcallS m.sY (cAmong_ok code a3 s3 ([60, 100]) (by simp) h (by omega) (by omega)) (cAmong_ex code a3 s3 ([60, 100]) (by simp)) (by rintro _ _ ⟨_, rfl, _⟩; first | trivial | (intro x hx; simp at hx; rcases hx with rfl | rfl | rfl <;> trivial)) ?_
      rintro _ _ ⟨q2, rfl, ⟨a5, s5, rfl, ea5, fa5⟩, bq2⟩
      simp only [List.mem_cons, List.not_mem_nil, or_false] at bq2
      conv => cbv
      exact hQ (.tup [.isl 2 (rows cSort f), .isl 1 (rows cStr words), .agg [.int .i64 rA, .int .i64 rB, .int .i64 rC], .int .i64 q2]) ⟨f, words, (rA, rB, rC), q2, rfl, (by first | omega | assumption | (simp; done) | (simp [*]; done) | (simp at *; omega)), (by first | omega | assumption | (simp; done) | (simp [*]; done) | (simp at *; omega))⟩   -- leaf 2

end Go.Proofs.Ytfnfjgdepilgkaa.Ai
