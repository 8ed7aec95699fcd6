/- Contracts of the functions on setting words and counting sorts. -/
import Derived.Test.YtkcbhjnkpbeigaaBillLaw
import Derived.Test.YtkcbhjnkpbeigaaInk
namespace Go.Proofs.Ytkcbhjnkpbeigaa.Ai
open Go Go.Proofs
set_option maxRecDepth 10000
set_option maxHeartbeats 4000000
set_option linter.unusedVariables false

theorem liteHasPrefix_ok (s_ : List UInt8) (prefix_ : List UInt8)  : OkA Try.prog 158 [.str s_, .str prefix_] (· = .bool (preB s_ prefix_)) :=
  fn_intro envOk fieldsOk mixed Try.func158 rfl fun κ X Y L Q m hQ => by
    conv => cbv
    refine r_slen (u := s_) m.sX fun n1 hn1 mn1 => ?_   -- n1 = length of s_
    conv => cbv
    refine r_slen (u := prefix_) m.sX fun n2 hn2 mn2 => ?_   -- n2 = length of prefix_
    conv => cbv
    refine r_geq m.sX (fun h1 => ?_) (fun h1 => ?_) <;> conv => cbv
    · refine r_slen (u := prefix_) m.sX fun n3 hn3 mn3 => ?_   -- n3 = length of prefix_
      conv => cbv
      refine r_sslice (u := s_) (i := 0) (j := n3) m.sX (by omega) (by omega) (by first | omega | (simp only [List.length_cons, List.length_nil]; omega) | (simp; omega)) fun s1 hs1 => ?_   -- s1 = s_[None:n3]
      have ls1 : (s1.length : Int) = n3 - 0 := by rw [hs1]; first | done | (simp; done) | (simp; omega)
      conv => cbv
      refine r_seql m.sX (fun h2 => ?_) (fun h2 => ?_) <;> conv => cbv
      · exact hQ _ (congrArg PV.bool (by rw [preB, decide_eq_true (by omega), show s_.take prefix_.length = prefix_ by rw [← h2, hs1, hn3]; simp]; simp))   -- leaf 1
      · exact hQ _ (congrArg PV.bool (by rw [preB, decide_eq_true (by omega), decide_eq_false (fun e => h2 (by rw [hs1, hn3, ← e]; simp))]; rfl))   -- leaf 2
    · exact hQ _ (congrArg PV.bool (by rw [preB, decide_eq_false (by omega)]; rfl))   -- leaf 3

theorem HasPrefix_ok (s_ : List UInt8) (prefix_ : List UInt8)  : OkA Try.prog 108 [.str s_, .str prefix_] (· = .bool (preB s_ prefix_)) :=
  fn_intro envOk fieldsOk mixed Try.func108 rfl fun κ X Y L Q m hQ => by
    conv => cbv
    refine r_callB m.sX (liteHasPrefix_ok s_ prefix_) (fun h1 => ?_) (fun h1 => ?_) <;> conv => cbv
    · exact hQ _ (congrArg PV.bool (by exact h1.symm))   -- leaf 1
    · exact hQ _ (congrArg PV.bool (by exact h1.symm))   -- leaf 2

theorem isWord_ok (s_ : List UInt8)  : OkA Try.prog 101 [.str s_] (· = .bool (okWord s_)) :=
  fn_intro envOk fieldsOk mixed Try.func101 rfl fun κ X Y L Q m hQ => by
    conv => cbv
    refine r_callB m.sX (areLetters_ok s_ 1 16) (fun h1 => ?_) (fun h1 => ?_) <;> conv => cbv
    · exact hQ _ (congrArg PV.bool (by exact h1.symm))   -- leaf 1
    · exact hQ _ (congrArg PV.bool (by exact h1.symm))   -- leaf 2

theorem areWords_ok (l : List (List UInt8))  : OkA Try.prog 161 [.isl 1 (rows cStr l)] (· = .bool (okWords l)) :=
  fn_intro envOk fieldsOk mixed Try.func161 rfl fun κ X Y L Q m hQ => by
    conv => cbv
    refine r_lenR m.sX fun n1 hn1 mn1 => ?_
    conv => cbv
    refine r_loopF (α := Int) m 18 [0, 5, 6, 7] [] (fun σ => [(0, .isl 1 (rows cStr l)), (5, .isl 1 (rows cStr l)), (6, .int .i64 n1), (7, .int .i64 σ)]) (fun σ => [])
      (fun σ => (0 ≤ σ) ∧ (σ ≤ n1) ∧ (l.all okWord = (l.drop σ.toNat).all okWord)) (fun σ => (n1 - σ).toNat) 0 ?_ ?_ ?_ ?_
    · cbv
    · cbv
    · exact ⟨(by (try dsimp only); first | omega | (simp only [List.length_nil]; omega)), (by (try dsimp only); first | omega | (simp only [List.length_nil]; omega)), (by (try dsimp only) <;> (rfl))⟩
    rintro i1 ⟨lo1, hi1, q⟩ E hE F hF
    conv => cbv
    refine r_lss m.sX (fun h1 => ?_) (fun h1 => ?_) <;> conv => cbv
    · refine r_index m.sX (by omega) (by omega) fun w hw => ?_
      conv => cbv
      have mw := get_mem hw
      have dw := drop_cons hw
      have kw := take_snoc hw
      have jw : (i1 + 1).toNat = Int.toNat i1 + 1 := by omega
      refine r_callB m.sX (isWord_ok w) (fun h2 => ?_) (fun h2 => ?_) <;> conv => cbv
      · refine r_addf m.sX (by omega) (by omega) fun r1 hr1 => ?_
        conv => cbv
        try have tr1 : Int.toNat r1 = Int.toNat i1 + 1 := by omega
        refine hE _ r1 ?_ ?_ ⟨(by (try dsimp only); first | omega | (simp only [List.length_nil]; omega)), (by (try dsimp only); first | omega | (simp only [List.length_nil]; omega)), (by (try dsimp only) <;> (rw [q, okWords_drop hw, h2, Bool.true_and, tr1]))⟩ (by first | omega | (dsimp only; omega))
        · cbv
        · cbv
      · refine hF _ _ ?_
        conv => cbv
        exact hQ _ (congrArg PV.bool (by rw [okWords, q, okWords_drop hw, h2]; rfl))   -- leaf 1
    · have dz_i1 := drop_end (xs := l) (i := Int.toNat i1) (by omega)
      have tz_i1 := take_end (xs := l) (i := Int.toNat i1) (by omega)
      refine hF _ _ ?_
      conv => cbv
      refine r_lenR m.sX fun n2 hn2 mn2 => ?_
      conv => cbv
      refine r_leq m.sX (fun h3 => ?_) (fun h3 => ?_) <;> conv => cbv
      · exact hQ _ (congrArg PV.bool (by rw [okWords, q, dz_i1, decide_eq_true (by omega)]; rfl))   -- leaf 2
      · exact hQ _ (congrArg PV.bool (by rw [okWords, q, dz_i1, decide_eq_false (by omega)]; rfl))   -- leaf 3

theorem sortsOf_ok (f : List FSort) (word : List UInt8) (hc : CodesOk f) (hw : word.length ≤ 16) : OkA Try.prog 102 [.isl 2 (rows cSort f), .str word] (· = (lb 3 1 cInt) (setW f word [])) :=
  OkA.unnil 3 1 (fn_intro envOk fieldsOk mixed Try.func102 rfl fun κ X Y L Q m hQ => by
    conv => cbv
    refine r_loopF (α := List UInt8 × List Int) m 59 [0, 1] [⟨6, 49, 3, 1, 0⟩] (fun σ => [(0, .isl 2 (rows cSort f)), (1, .str σ.1), (6, .osl 49 0)]) (fun σ => [(49, 0, .row 3 1 (rows cInt σ.2))])
      (fun σ => (setW f word [] = setW f σ.1 σ.2) ∧ ((σ.2.length : Int) + (σ.1.length : Int) ≤ 16)) (fun σ => σ.1.length) (word, []) ?_ ?_ ?_ ?_
    · cbv
    · (try dsimp only); simp only [rows_cons, rows_nil]; cbv
    · exact ⟨(by (try dsimp only) <;> (rfl)), (by (try dsimp only) <;> (simp; omega))⟩
    rintro ⟨word_2, list⟩ ⟨q, ln⟩ E hE F hF
    dsimp only at q ln
    conv => cbv
    refine r_slen (u := word_2) m.sX fun n1 hn1 mn1 => ?_   -- n1 = length of word_2
    conv => cbv
    refine r_gtr m.sX (fun h1 => ?_) (fun h1 => ?_) <;> conv => cbv
    · refine r_lenR m.sX fun n2 hn2 mn2 => ?_
      conv => cbv
      refine r_loopF (α := Int × Int) m 59 [0, 1, 7, 14, 15, 16] [⟨6, 49, 3, 1, 0⟩] (fun σ => [(0, .isl 2 (rows cSort f)), (1, .str word_2), (6, .osl 49 0), (7, .int .i64 σ.1), (14, .isl 2 (rows cSort f)), (15, .int .i64 n2), (16, .int .i64 σ.2)]) (fun σ => [(49, 0, .row 3 1 (rows cInt list))])
        (fun σ => (0 ≤ σ.2) ∧ (σ.2 ≤ n2) ∧ (bestF f word_2 = bestG f word_2 (f.drop σ.2.toNat) σ.2 σ.1) ∧ (-1 ≤ σ.1 ∧ σ.1 < n2)) (fun σ => (n2 - σ.2).toNat) (-1, 0) ?_ ?_ ?_ ?_
      · cbv
      · cbv
      · exact ⟨(by (try dsimp only); first | omega | (simp only [List.length_nil]; omega)), (by (try dsimp only); first | omega | (simp only [List.length_nil]; omega)), (by (try dsimp only) <;> (rfl)), (by (try dsimp only) <;> first | omega | rfl | (simp [*]; done))⟩
      rintro ⟨best, i1⟩ ⟨lo2, hi2, q2, bb⟩ E2 hE2 F2 hF2
      dsimp only at lo2 hi2 q2 bb
      conv => cbv
      refine r_lss m.sX (fun h2 => ?_) (fun h2 => ?_) <;> conv => cbv
      · refine r_index m.sX (by omega) (by omega) fun v hs_A => ?_
        obtain ⟨s_A, s_B⟩ := v
        conv => cbv
        have hs_ := hs_A
        have ms_ := get_mem hs_
        have ds_ := drop_cons hs_
        have ks_ := take_snoc hs_
        have js_ : (i1 + 1).toNat = Int.toNat i1 + 1 := by omega
        have cb := hc _ ms_
        try dsimp only at cb
        refine r_draw m (by kernel_rfl) ?_
        conv => cbv
        refine r_callBS m.sY (HasPrefix_ok word_2 s_A) (fun h3 => ?_) (fun h3 => ?_) <;> conv => cbv
        · have pv : preB word_2 s_A = true := h3
          refine r_lss m.sY (fun h4 => ?_) (fun h4 => ?_) <;> conv => cbv
          · have c1 : preB word_2 s_A = true ∧ (best < 0 ∨ codeL f best < (s_A.length : Int)) := ⟨pv, .inl h4⟩
            refine r_addf m.sX (by omega) (by omega) fun r1 hr1 => ?_
            conv => cbv
            try have tr1 : Int.toNat r1 = Int.toNat i1 + 1 := by omega
            refine hE2 _ (i1, r1) ?_ ?_ ⟨(by (try dsimp only); first | omega | (simp only [List.length_nil]; omega)), (by (try dsimp only); first | omega | (simp only [List.length_nil]; omega)), (by (try dsimp only) <;> (first | rw [q2, bestG_drop _ _ _ hs_, if_pos c1, tr1, show r1 = i1 + 1 by omega] | rw [q2, bestG_drop _ _ _ hs_, if_neg c1, tr1, show r1 = i1 + 1 by omega])), (by (try dsimp only) <;> (omega))⟩ (by first | omega | (dsimp only; omega))
            · cbv
            · cbv
          · refine r_slenS (u := s_A) m.sY (by omega) fun n3 hn3 => ?_   -- n3 = length of s_A
            conv => cbv
            refine r_index m.sY (by omega) (by omega) fun v hx1A => ?_
            obtain ⟨x1A, x1B⟩ := v
            conv => cbv
            have hx1 := hx1A
            have mx1 := get_mem hx1
            have cb1 := hc _ mx1
            try dsimp only at cb1
            have cl : codeL f best = x1A.length := codeL_some hx1
            refine r_slenS (u := x1A) m.sY (by omega) fun n4 hn4 => ?_   -- n4 = length of x1A
            conv => cbv
            refine r_gtr m.sY (fun h5 => ?_) (fun h5 => ?_) <;> conv => cbv
            · have c1 : preB word_2 s_A = true ∧ (best < 0 ∨ codeL f best < (s_A.length : Int)) := ⟨pv, .inr (by omega)⟩
              refine r_addf m.sX (by omega) (by omega) fun r2 hr2 => ?_
              conv => cbv
              try have tr2 : Int.toNat r2 = Int.toNat i1 + 1 := by omega
              refine hE2 _ (i1, r2) ?_ ?_ ⟨(by (try dsimp only); first | omega | (simp only [List.length_nil]; omega)), (by (try dsimp only); first | omega | (simp only [List.length_nil]; omega)), (by (try dsimp only) <;> (first | rw [q2, bestG_drop _ _ _ hs_, if_pos c1, tr2, show r2 = i1 + 1 by omega] | rw [q2, bestG_drop _ _ _ hs_, if_neg c1, tr2, show r2 = i1 + 1 by omega])), (by (try dsimp only) <;> (omega))⟩ (by first | omega | (dsimp only; omega))
              · cbv
              · cbv
            · have c1 : ¬ (preB word_2 s_A = true ∧ (best < 0 ∨ codeL f best < (s_A.length : Int))) := fun e => by rcases e.2 with e | e <;> omega
              refine r_addf m.sX (by omega) (by omega) fun r3 hr3 => ?_
              conv => cbv
              try have tr3 : Int.toNat r3 = Int.toNat i1 + 1 := by omega
              refine hE2 _ (best, r3) ?_ ?_ ⟨(by (try dsimp only); first | omega | (simp only [List.length_nil]; omega)), (by (try dsimp only); first | omega | (simp only [List.length_nil]; omega)), (by (try dsimp only) <;> (first | rw [q2, bestG_drop _ _ _ hs_, if_pos c1, tr3, show r3 = i1 + 1 by omega] | rw [q2, bestG_drop _ _ _ hs_, if_neg c1, tr3, show r3 = i1 + 1 by omega])), (by (try dsimp only) <;> (omega))⟩ (by first | omega | (dsimp only; omega))
              · cbv
              · cbv
        · have c1 : ¬ (preB word_2 s_A = true ∧ (best < 0 ∨ codeL f best < (s_A.length : Int))) := fun e => by rw [h3] at e; cases e.1
          refine r_addf m.sX (by omega) (by omega) fun r4 hr4 => ?_
          conv => cbv
          try have tr4 : Int.toNat r4 = Int.toNat i1 + 1 := by omega
          refine hE2 _ (best, r4) ?_ ?_ ⟨(by (try dsimp only); first | omega | (simp only [List.length_nil]; omega)), (by (try dsimp only); first | omega | (simp only [List.length_nil]; omega)), (by (try dsimp only) <;> (first | rw [q2, bestG_drop _ _ _ hs_, if_pos c1, tr4, show r4 = i1 + 1 by omega] | rw [q2, bestG_drop _ _ _ hs_, if_neg c1, tr4, show r4 = i1 + 1 by omega])), (by (try dsimp only) <;> (omega))⟩ (by first | omega | (dsimp only; omega))
          · cbv
          · cbv
      · have dz_i1 := drop_end (xs := f) (i := Int.toNat i1) (by omega)
        have tz_i1 := take_end (xs := f) (i := Int.toNat i1) (by omega)
        refine hF2 _ _ ?_
        conv => cbv
        refine r_lss m.sX (fun h6 => ?_) (fun h6 => ?_) <;> conv => cbv
        · have bq : bestF f word_2 = best := by rw [q2, dz_i1, bestG]
          refine hF _ _ ?_
          conv => cbv
          exact hQ (.tup [.fr 3 1 [], .bool false]) (Eq.trans (by first | rfl | (simp only [lb, lbI, rows_cons, rows_nil, unnilT, unnil, unnilTI, unnilI]; done) | (simp only [lb, lbI, rows_cons, rows_nil, unnilT, unnil, unnilTI, unnilI]; rfl)) (congrArg ((lb 3 1 cInt)) (show ([], false) = setW f word [] from by rw [q, setW_none _ (by omega) (by omega)])))   -- leaf 1
        · have bq : bestF f word_2 = best := by rw [q2, dz_i1, bestG]
          have bp := best_pos hc (w := word_2) (by omega)
          try dsimp only at bp
          rw [bq] at bp
          refine r_append1 (best) m.sX rfl (by first | omega | (dsimp only; omega)) (by first | omega | (dsimp only; omega)) fun list_2 hlist_2 => ?_
          conv => cbv
          have llist_2 : (list_2.length : Int) = list.length + 1 := by rw [hlist_2]; first | done | (simp; done) | (simp; omega)
          refine r_index m.sX (by omega) (by omega) fun v hx2A => ?_
          obtain ⟨x2A, x2B⟩ := v
          conv => cbv
          have hx2 := hx2A
          have mx2 := get_mem hx2
          have c2 : codeL f best = x2A.length := codeL_some hx2
          refine r_slen (u := x2A) m.sX fun n5 hn5 mn5 => ?_   -- n5 = length of x2A
          conv => cbv
          refine r_sslice' (u := word_2) (i := n5) m.sX (by omega) (by first | omega | (simp only [List.length_cons, List.length_nil]; omega) | (simp; omega)) fun word_3 hword_3 => ?_   -- word_3 = word_2[n5:]
          have lword_3 : (word_3.length : Int) = word_2.length - n5 := by rw [hword_3]; first | done | (simp; done) | (simp; omega)
          conv => cbv
          refine hE _ (word_3, list_2) ?_ ?_ ⟨(by (try dsimp only) <;> (rw [q, setW_step hc _ (by omega) (by omega), bq, c2, hword_3, hn5, hlist_2]; first | done | simp)), (by (try dsimp only) <;> (omega))⟩ (by first | omega | (dsimp only; omega))
          · cbv
          · cbv
    · refine hF _ _ ?_
      conv => cbv
      exact hQ (.tup [.fr 3 1 (rows cInt list), .bool true]) (Eq.trans (by first | rfl | (simp only [lb, lbI, rows_cons, rows_nil, unnilT, unnil, unnilTI, unnilI]; done) | (simp only [lb, lbI, rows_cons, rows_nil, unnilT, unnil, unnilTI, unnilI]; rfl)) (congrArg ((lb 3 1 cInt)) (show (list, true) = setW f word [] from by rw [q, setW_nil (by omega)]))))   -- leaf 2

theorem countSorts_ok (f : List FSort) (words : List (List UInt8))  : OkA Try.prog 129 [.isl 2 (rows cSort f), .isl 1 (rows cStr words)] (· = (lb 3 1 cInt) (countsA f words)) :=
  OkA.unnil 3 1 (fn_intro envOk fieldsOk mixed Try.func129 rfl fun κ X Y L Q m hQ => by
    conv => cbv
    refine r_callB m.sX (IsFont_ok f) (fun h1 => ?_) (fun h1 => ?_) <;> conv => cbv
    · refine r_callB m.sX (areWords_ok words) (fun h2 => ?_) (fun h2 => ?_) <;> conv => cbv
      · have hc := okFont_codes h1
        have ow := okWords_spec h2
        have fb := (okFont_sets h1).2
        refine r_lenR m.sX fun n1 hn1 mn1 => ?_
        conv => cbv
        refine r_make cInt 0 m.sX rfl (by omega) (by omega) (by dsimp only; omega) (by omega) fun need hneed => ?_   -- need = replicate n1
        have lneed : (need.length : Int) = n1 := by rw [hneed]; first | done | (simp; done) | (simp; omega)
        conv => cbv
        refine r_lenR m.sX fun n2 hn2 mn2 => ?_
        conv => cbv
        refine r_loopF (α := List Int × Int) m 55 [0, 25, 26, 27] [⟨6, 49, 3, 1, 0⟩] (fun σ => [(0, .isl 2 (rows cSort f)), (6, .osl 49 0), (25, .isl 1 (rows cStr words)), (26, .int .i64 n2), (27, .int .i64 σ.2)]) (fun σ => [(49, 0, .row 3 1 (rows cInt σ.1))])
          (fun σ => (0 ≤ σ.2) ∧ (σ.2 ≤ n2) ∧ (cntA f words (List.replicate f.length 0) = cntA f (words.drop σ.2.toNat) σ.1) ∧ (σ.1.length = f.length) ∧ (∀ z ∈ σ.1, 0 ≤ z ∧ z ≤ 16 * σ.2)) (fun σ => (n2 - σ.2).toNat) (need, 0) ?_ ?_ ?_ ?_
        · cbv
        · cbv
        · exact ⟨(by (try dsimp only); first | omega | (simp only [List.length_nil]; omega)), (by (try dsimp only); first | omega | (simp only [List.length_nil]; omega)), (by (try dsimp only) <;> (rw [hneed, show n1.toNat = f.length by omega]; rfl)), (by (try dsimp only) <;> (rw [hneed, List.length_replicate]; omega)), (by (try dsimp only) <;> (intro z hz; rw [hneed] at hz; rw [List.eq_of_mem_replicate hz]; omega))⟩
        rintro ⟨need_2, i1⟩ ⟨lo1, hi1, q, nl, nb⟩ E hE F hF
        dsimp only at lo1 hi1 q nl nb
        conv => cbv
        refine r_lss m.sX (fun h3 => ?_) (fun h3 => ?_) <;> conv => cbv
        · refine r_index m.sX (by omega) (by omega) fun w hw => ?_
          conv => cbv
          have mw := get_mem hw
          have dw := drop_cons hw
          have kw := take_snoc hw
          have jw : (i1 + 1).toNat = Int.toNat i1 + 1 := by omega
          have wl := okWord_len (ow.1 w mw)
          refine r_callF (lb 3 1 cInt) m.sX (sortsOf_ok f w (by first | rfl | assumption | omega | (simp only [List.length_append, List.length_cons, List.length_nil] at *; omega)) (by first | rfl | assumption | omega | (simp only [List.length_append, List.length_cons, List.length_nil] at *; omega))) fun v hlist => ?_
          obtain ⟨list, ok⟩ := v
          conv => cbv
          have wi := wordI_in hc w
          have we := setW_wordI hlist
          rw [← we] at wi
          rcases Bool.eq_false_or_eq_true ok with rfl | rfl <;> conv => cbv
          · refine r_lenR m.sX fun n3 hn3 mn3 => ?_
            conv => cbv
            refine r_loopF (α := List Int × Int) m 55 [0, 25, 26, 27, 41, 42] [⟨6, 49, 3, 1, 0⟩, ⟨40, 321, 3, 1, 0⟩] (fun σ => [(0, .isl 2 (rows cSort f)), (6, .osl 49 0), (25, .isl 1 (rows cStr words)), (26, .int .i64 n2), (27, .int .i64 i1), (40, .osl 321 0), (41, .int .i64 n3), (42, .int .i64 σ.2)]) (fun σ => [(49, 0, .row 3 1 (rows cInt σ.1)), (321, 0, .row 3 1 (rows cInt list))])
              (fun σ => (0 ≤ σ.2) ∧ (σ.2 ≤ n3) ∧ (cntW list need_2 = cntW (list.drop σ.2.toNat) σ.1) ∧ (σ.1.length = f.length) ∧ (∀ z ∈ σ.1, 0 ≤ z ∧ z ≤ 16 * i1 + σ.2)) (fun σ => (n3 - σ.2).toNat) (need_2, 0) ?_ ?_ ?_ ?_
            · cbv
            · cbv
            · exact ⟨(by (try dsimp only); first | omega | (simp only [List.length_nil]; omega)), (by (try dsimp only); first | omega | (simp only [List.length_nil]; omega)), (by (try dsimp only) <;> (rfl)), (by (try dsimp only) <;> first | omega | rfl | (simp [*]; done)), (by (try dsimp only) <;> (intro z hz; have := nb z hz; omega))⟩
            rintro ⟨need_3, i2⟩ ⟨lo2, hi2, q2, nl2, nb2⟩ E2 hE2 F2 hF2
            dsimp only at lo2 hi2 q2 nl2 nb2
            conv => cbv
            refine r_lss m.sX (fun h4 => ?_) (fun h4 => ?_) <;> conv => cbv
            · refine r_oindex m.sX (by omega) (by omega) ?_
              conv => cbv
              obtain ⟨i, hi⟩ := get_ex (xs := list) (i := Int.toNat i2) (by omega)
              have mi := get_mem hi
              have di := drop_cons hi
              have ki := take_snoc hi
              have ji : (i2 + 1).toNat = Int.toNat i2 + 1 := by omega
              have vi := nth_some hi
              have bi := wi.1 i mi
              refine r_oload m.sX hi (Nat.le_of_ble_eq_true rfl) ?_
              conv => cbv
              refine r_oindex m.sX (by omega) (by omega) ?_
              conv => cbv
              obtain ⟨x1, hx1⟩ := get_ex (xs := need_3) (i := Int.toNat i) (by omega)
              have mx1 := get_mem hx1
              have vx1 := nth_some hx1
              have xb := nb2 x1 mx1
              refine r_oload m.sX hx1 (Nat.le_of_ble_eq_true rfl) ?_
              conv => cbv
              refine r_addf m.sX (by omega) (by omega) fun r1 hr1 => ?_
              conv => cbv
              refine r_oindex m.sX (by omega) (by omega) ?_
              conv => cbv
              obtain ⟨y1, hy1⟩ := get_ex (xs := need_3) (i := Int.toNat i) (by omega)
              refine r_ostore (l := Int.toNat i) r1 m.sX hy1 (Nat.le_of_ble_eq_true rfl) rfl fun need_4 hneed_4 => ?_   -- need_4 = need_3.set i r1
              have lneed_4 : (need_4.length : Int) = need_3.length := by rw [hneed_4]; first | done | (simp; done) | (simp; omega)
              have nu : need_4 = bump need_3 i := by rw [hneed_4, bump, nth_some hx1, hr1]
              conv => cbv
              refine r_addf m.sX (by omega) (by omega) fun r2 hr2 => ?_
              conv => cbv
              try have tr2 : Int.toNat r2 = Int.toNat i2 + 1 := by omega
              refine hE2 _ (need_4, r2) ?_ ?_ ⟨(by (try dsimp only); first | omega | (simp only [List.length_nil]; omega)), (by (try dsimp only); first | omega | (simp only [List.length_nil]; omega)), (by (try dsimp only) <;> (rw [q2, cntW_drop _ hi, ← nu, tr2])), (by (try dsimp only) <;> (rw [hneed_4, List.length_set]; exact nl2)), (by (try dsimp only) <;> (intro z hz; rw [nu] at hz; have := bump_bounds nb2 (x := i) (by omega) z hz; omega))⟩ (by first | omega | (dsimp only; omega))
              · cbv
              · cbv
            · have dz_i2 := drop_end (xs := list) (i := Int.toNat i2) (by omega)
              have tz_i2 := take_end (xs := list) (i := Int.toNat i2) (by omega)
              refine hF2 _ _ ?_
              conv => cbv
              refine r_addf m.sX (by omega) (by omega) fun r3 hr3 => ?_
              conv => cbv
              try have tr3 : Int.toNat r3 = Int.toNat i1 + 1 := by omega
              refine hE _ (need_3, r3) ?_ ?_ ⟨(by (try dsimp only); first | omega | (simp only [List.length_nil]; omega)), (by (try dsimp only); first | omega | (simp only [List.length_nil]; omega)), (by (try dsimp only) <;> (rw [q, cntA_ok _ hw hlist, q2, dz_i2, tr3]; rfl)), (by (try dsimp only) <;> first | omega | rfl | (simp [*]; done) | (rw [nl]; simp [*]; done)), (by (try dsimp only) <;> (intro z hz; have := nb2 z hz; omega))⟩ (by first | omega | (dsimp only; omega))
              · cbv
              · cbv
          · refine hF _ _ ?_
            conv => cbv
            exact hQ (.tup [.fr 3 1 [], .bool false]) (Eq.trans (by first | rfl | (simp only [lb, lbI, rows_cons, rows_nil, unnilT, unnil, unnilTI, unnilI]; done) | (simp only [lb, lbI, rows_cons, rows_nil, unnilT, unnil, unnilTI, unnilI]; rfl)) (congrArg ((lb 3 1 cInt)) (show ([], false) = countsA f words from by rw [countsA, if_pos (by rw [h1, h2]; rfl), q, cntA_no _ hw hlist])))   -- leaf 1
        · have dz_i1 := drop_end (xs := words) (i := Int.toNat i1) (by omega)
          have tz_i1 := take_end (xs := words) (i := Int.toNat i1) (by omega)
          refine hF _ _ ?_
          conv => cbv
          exact hQ (.tup [.fr 3 1 (rows cInt need_2), .bool true]) (Eq.trans (by first | rfl | (simp only [lb, lbI, rows_cons, rows_nil, unnilT, unnil, unnilTI, unnilI]; done) | (simp only [lb, lbI, rows_cons, rows_nil, unnilT, unnil, unnilTI, unnilI]; rfl)) (congrArg ((lb 3 1 cInt)) (show (need_2, true) = countsA f words from by rw [countsA, if_pos (by rw [h1, h2]; rfl), q, cntA_end _ (by omega)])))   -- leaf 2
      · exact hQ (.tup [.fr 3 1 [], .bool false]) (Eq.trans (by first | rfl | (simp only [lb, lbI, rows_cons, rows_nil, unnilT, unnil, unnilTI, unnilI]; done) | (simp only [lb, lbI, rows_cons, rows_nil, unnilT, unnil, unnilTI, unnilI]; rfl)) (congrArg ((lb 3 1 cInt)) (show ([], false) = countsA f words from by rw [countsA, h1, h2]; rfl)))   -- leaf 3
    · exact hQ (.tup [.fr 3 1 [], .bool false]) (Eq.trans (by first | rfl | (simp only [lb, lbI, rows_cons, rows_nil, unnilT, unnil, unnilTI, unnilI]; done) | (simp only [lb, lbI, rows_cons, rows_nil, unnilT, unnil, unnilTI, unnilI]; rfl)) (congrArg ((lb 3 1 cInt)) (show ([], false) = countsA f words from by rw [countsA, h1]; rfl))))   -- leaf 4

theorem CountSorts_ok (f : List FSort) (words : List (List UInt8))  : OkA Try.prog 48 [.isl 2 (rows cSort f), .isl 1 (rows cStr words)] (· = (lb 3 1 cInt) (countsA f words)) :=
  OkA.unnil 3 1 (fn_intro envOk fieldsOk mixed Try.func48 rfl fun κ X Y L Q m hQ => by
    conv => cbv
    refine r_callF (lb 3 1 cInt) m.sX (countSorts_ok f words) fun v hv1 => ?_
    obtain ⟨v1, v2⟩ := v
    conv => cbv
    exact hQ (.tup [.fr 3 1 (rows cInt v1), .bool v2]) (Eq.trans (by first | rfl | (simp only [lb, lbI, rows_cons, rows_nil, unnilT, unnil, unnilTI, unnilI]; done) | (simp only [lb, lbI, rows_cons, rows_nil, unnilT, unnil, unnilTI, unnilI]; rfl)) (congrArg ((lb 3 1 cInt)) (show (v1, v2) = countsA f words from by first | rfl | omega | (simp [*]; done) | (subst_vars; simp [*]; done)))))   -- leaf 1

theorem areCounts_ok (f : List FSort) (l : List Int)  : OkA Try.prog 136 [.isl 2 (rows cSort f), .isl 1 (rows cInt l)] (· = .bool (okFont f && stockB f l)) :=
  fn_intro envOk fieldsOk mixed Try.func136 rfl fun κ X Y L Q m hQ => by
    conv => cbv
    refine r_lenR m.sX fun n1 hn1 mn1 => ?_
    conv => cbv
    refine r_loopF (α := Int) m 26 [0, 1, 7, 8, 9] [] (fun σ => [(0, .isl 2 (rows cSort f)), (1, .isl 1 (rows cInt l)), (7, .isl 1 (rows cInt l)), (8, .int .i64 n1), (9, .int .i64 σ)]) (fun σ => [])
      (fun σ => (0 ≤ σ) ∧ (σ ≤ n1) ∧ (allB l 0 100000 = allB (l.drop σ.toNat) 0 100000)) (fun σ => (n1 - σ).toNat) 0 ?_ ?_ ?_ ?_
    · cbv
    · cbv
    · exact ⟨(by (try dsimp only); first | omega | (simp only [List.length_nil]; omega)), (by (try dsimp only); first | omega | (simp only [List.length_nil]; omega)), (by (try dsimp only) <;> first | omega | rfl | (simp [*]; done))⟩
    rintro i1 ⟨lo1, hi1, q⟩ E hE F hF
    conv => cbv
    refine r_lss m.sX (fun h1 => ?_) (fun h1 => ?_) <;> conv => cbv
    · refine r_index m.sX (by omega) (by omega) fun n hn => ?_
      conv => cbv
      have mn := get_mem hn
      have dn := drop_cons hn
      have kn := take_snoc hn
      have jn : (i1 + 1).toNat = Int.toNat i1 + 1 := by omega
      have vn := nth_some hn
      refine r_callB m.sX (within_ok n 0 100000) (fun h2 => ?_) (fun h2 => ?_) <;> conv => cbv
      · refine r_addf m.sX (by omega) (by omega) fun r1 hr1 => ?_
        conv => cbv
        try have tr1 : Int.toNat r1 = Int.toNat i1 + 1 := by omega
        refine hE _ r1 ?_ ?_ ⟨(by (try dsimp only); first | omega | (simp only [List.length_nil]; omega)), (by (try dsimp only); first | omega | (simp only [List.length_nil]; omega)), (by (try dsimp only) <;> (rw [q, dn, allB_cons, h2, Bool.true_and, tr1]))⟩ (by first | omega | (dsimp only; omega))
        · cbv
        · cbv
      · refine hF _ _ ?_
        conv => cbv
        exact hQ _ (congrArg PV.bool (by rw [stockB, q, dn, allB_cons, h2]; simp))   -- leaf 1
    · have dz_i1 := drop_end (xs := l) (i := Int.toNat i1) (by omega)
      have tz_i1 := take_end (xs := l) (i := Int.toNat i1) (by omega)
      refine hF _ _ ?_
      conv => cbv
      refine r_callB m.sX (IsFont_ok f) (fun h3 => ?_) (fun h3 => ?_) <;> conv => cbv
      · refine r_lenR m.sX fun n2 hn2 mn2 => ?_
        conv => cbv
        refine r_lenR m.sX fun n3 hn3 mn3 => ?_
        conv => cbv
        refine r_eql m.sX (fun h4 => ?_) (fun h4 => ?_) <;> conv => cbv
        · exact hQ _ (congrArg PV.bool (by rw [h3, stockB, q, dz_i1, allB_nil, decide_eq_true (by omega)]; rfl))   -- leaf 2
        · exact hQ _ (congrArg PV.bool (by rw [stockB, decide_eq_false (by omega)]; simp))   -- leaf 3
      · exact hQ _ (congrArg PV.bool (by rw [h3]; rfl))   -- leaf 4

theorem needWith_ok (f : List FSort) (stock : List Int) (words : List (List UInt8))  : OkA Try.prog 132 [.isl 2 (rows cSort f), .isl 1 (rows cInt stock), .isl 1 (rows cStr words)] (· = (lb 3 1 cInt) (((countsA f words).1, askedB f stock words))) :=
  OkA.unnil 3 1 (fn_intro envOk fieldsOk mixed Try.func132 rfl fun κ X Y L Q m hQ => by
    conv => cbv
    refine r_callF (lb 3 1 cInt) m.sX (countSorts_ok f words) fun v hneed => ?_
    obtain ⟨need, ok⟩ := v
    conv => cbv
    rcases Bool.eq_false_or_eq_true ok with rfl | rfl <;> conv => cbv
    · have fo := (countsA_spec hneed).font
      refine r_callB m.sX (areCounts_ok f stock) (fun h1 => ?_) (fun h1 => ?_) <;> conv => cbv
      · exact hQ (.tup [.fr 3 1 (rows cInt need), .bool true]) (Eq.trans (by first | rfl | (simp only [lb, lbI, rows_cons, rows_nil, unnilT, unnil, unnilTI, unnilI]; done) | (simp only [lb, lbI, rows_cons, rows_nil, unnilT, unnil, unnilTI, unnilI]; rfl)) (congrArg ((lb 3 1 cInt)) (show (need, true) = ((countsA f words).1, askedB f stock words) from by rw [fo, Bool.true_and] at h1; exact Prod.ext (show need = (countsA f words).1 from congrArg Prod.fst hneed) (by show true = askedB f stock words; rw [askedB, ← hneed, h1] <;> rfl))))   -- leaf 1
      · exact hQ (.tup [.fr 3 1 (rows cInt need), .bool false]) (Eq.trans (by first | rfl | (simp only [lb, lbI, rows_cons, rows_nil, unnilT, unnil, unnilTI, unnilI]; done) | (simp only [lb, lbI, rows_cons, rows_nil, unnilT, unnil, unnilTI, unnilI]; rfl)) (congrArg ((lb 3 1 cInt)) (show (need, false) = ((countsA f words).1, askedB f stock words) from by rw [fo, Bool.true_and] at h1; exact Prod.ext (show need = (countsA f words).1 from congrArg Prod.fst hneed) (by show false = askedB f stock words; rw [askedB, ← hneed, h1] <;> rfl))))   -- leaf 2
    · exact hQ (.tup [.fr 3 1 (rows cInt need), .bool false]) (Eq.trans (by first | rfl | (simp only [lb, lbI, rows_cons, rows_nil, unnilT, unnil, unnilTI, unnilI]; done) | (simp only [lb, lbI, rows_cons, rows_nil, unnilT, unnil, unnilTI, unnilI]; rfl)) (congrArg ((lb 3 1 cInt)) (show (need, false) = ((countsA f words).1, askedB f stock words) from by exact Prod.ext (show need = (countsA f words).1 from congrArg Prod.fst hneed) (by show false = askedB f stock words; rw [askedB, ← hneed] <;> rfl)))))   -- leaf 3

theorem IsEnough_ok (f : List FSort) (stock : List Int) (words : List (List UInt8))  : OkA Try.prog 50 [.isl 2 (rows cSort f), .isl 1 (rows cInt stock), .isl 1 (rows cStr words)] (· = bb (enoughA f stock words)) :=
  fn_intro envOk fieldsOk mixed Try.func50 rfl fun κ X Y L Q m hQ => by
    conv => cbv
    refine r_callF (lb 3 1 cInt) m.sX (needWith_ok f stock words) fun v hneed => ?_
    obtain ⟨need, ok⟩ := v
    conv => cbv
    rcases Bool.eq_false_or_eq_true ok with rfl | rfl <;> conv => cbv
    · have nA := (Prod.mk.inj hneed).1
      have aA := (Prod.mk.inj hneed).2.symm
      have ak := askedB_spec aA
      have ln1 := ak.cnt.len
      have ln2 := ak.stock.len
      rw [← nA] at ln1
      refine r_lenR m.sX fun n1 hn1 mn1 => ?_
      conv => cbv
      refine r_loopF (α := Int) m 35 [1, 22, 23] [⟨21, 169, 3, 1, 0⟩] (fun σ => [(1, .isl 1 (rows cInt stock)), (21, .osl 169 0), (22, .int .i64 n1), (23, .int .i64 σ)]) (fun σ => [(169, 0, .row 3 1 (rows cInt need))])
        (fun σ => (0 ≤ σ) ∧ (σ ≤ n1) ∧ (leqB need stock = leqB (need.drop σ.toNat) (stock.drop σ.toNat))) (fun σ => (n1 - σ).toNat) 0 ?_ ?_ ?_ ?_
      · cbv
      · cbv
      · exact ⟨(by (try dsimp only); first | omega | (simp only [List.length_nil]; omega)), (by (try dsimp only); first | omega | (simp only [List.length_nil]; omega)), (by (try dsimp only) <;> (rfl))⟩
      rintro i1 ⟨lo1, hi1, q⟩ E hE F hF
      conv => cbv
      refine r_lss m.sX (fun h1 => ?_) (fun h1 => ?_) <;> conv => cbv
      · refine r_oindex m.sX (by omega) (by omega) ?_
        conv => cbv
        obtain ⟨n, hn⟩ := get_ex (xs := need) (i := Int.toNat i1) (by omega)
        have mn := get_mem hn
        have dn := drop_cons hn
        have kn := take_snoc hn
        have jn : (i1 + 1).toNat = Int.toNat i1 + 1 := by omega
        have vn := nth_some hn
        refine r_oload m.sX hn (Nat.le_of_ble_eq_true rfl) ?_
        conv => cbv
        refine r_index m.sX (by omega) (by omega) fun x1 hx1 => ?_
        conv => cbv
        have mx1 := get_mem hx1
        have dx1 := drop_cons hx1
        have kx1 := take_snoc hx1
        have jx1 : (i1 + 1).toNat = Int.toNat i1 + 1 := by omega
        have vx1 := nth_some hx1
        refine r_gtr m.sX (fun h2 => ?_) (fun h2 => ?_) <;> conv => cbv
        · refine hF _ _ ?_
          conv => cbv
          exact hQ (.tup [.bool false, .bool true]) (Eq.trans (by first | rfl | (simp only [lb, lbI, rows_cons, rows_nil, unnilT, unnil, unnilTI, unnilI]; done) | (simp only [lb, lbI, rows_cons, rows_nil, unnilT, unnil, unnilTI, unnilI]; rfl)) (congrArg (bb) (show (false, true) = enoughA f stock words from by rw [enoughA, if_pos aA, ← nA, q, leqB_drop hn hx1, decide_eq_false (by omega)]; rfl)))   -- leaf 1
        · refine r_addf m.sX (by omega) (by omega) fun r1 hr1 => ?_
          conv => cbv
          try have tr1 : Int.toNat r1 = Int.toNat i1 + 1 := by omega
          refine hE _ r1 ?_ ?_ ⟨(by (try dsimp only); first | omega | (simp only [List.length_nil]; omega)), (by (try dsimp only); first | omega | (simp only [List.length_nil]; omega)), (by (try dsimp only) <;> (rw [q, leqB_drop hn hx1, decide_eq_true (by omega), Bool.true_and, tr1]))⟩ (by first | omega | (dsimp only; omega))
          · cbv
          · cbv
      · have dz_i1 := drop_end (xs := need) (i := Int.toNat i1) (by omega)
        have tz_i1 := take_end (xs := need) (i := Int.toNat i1) (by omega)
        refine hF _ _ ?_
        conv => cbv
        exact hQ (.tup [.bool true, .bool true]) (Eq.trans (by first | rfl | (simp only [lb, lbI, rows_cons, rows_nil, unnilT, unnil, unnilTI, unnilI]; done) | (simp only [lb, lbI, rows_cons, rows_nil, unnilT, unnil, unnilTI, unnilI]; rfl)) (congrArg (bb) (show (true, true) = enoughA f stock words from by rw [enoughA, if_pos aA, ← nA, q, leqB_end (by omega)])))   -- leaf 2
    · exact hQ (.tup [.bool false, .bool false]) (Eq.trans (by first | rfl | (simp only [lb, lbI, rows_cons, rows_nil, unnilT, unnil, unnilTI, unnilI]; done) | (simp only [lb, lbI, rows_cons, rows_nil, unnilT, unnil, unnilTI, unnilI]; rfl)) (congrArg (bb) (show (false, false) = enoughA f stock words from by rw [enoughA, ← (Prod.mk.inj hneed).2]; rfl)))   -- leaf 3

theorem FirstRunOut_ok (f : List FSort) (stock : List Int) (words : List (List UInt8))  : OkA Try.prog 52 [.isl 2 (rows cSort f), .isl 1 (rows cInt stock), .isl 1 (rows cStr words)] (· = iib (outA f stock words)) :=
  fn_intro envOk fieldsOk mixed Try.func52 rfl fun κ X Y L Q m hQ => by
    conv => cbv
    refine r_callF (lb 3 1 cInt) m.sX (needWith_ok f stock words) fun v hv1 => ?_
    obtain ⟨v1, ok⟩ := v
    conv => cbv
    rcases Bool.eq_false_or_eq_true ok with rfl | rfl <;> conv => cbv
    · have aA := (Prod.mk.inj hv1).2.symm
      have ak := askedB_spec aA
      have hc := okFont_codes ak.cnt.font
      have ow := okWords_spec ak.cnt.words
      have ln2 := ak.stock.len
      have fb := (okFont_sets ak.cnt.font).2
      refine r_append0R m.sX (by first | omega | (dsimp only; omega)) (by first | omega | (dsimp only; omega)) fun left hleft => ?_
      conv => cbv
      have lleft : (left.length : Int) = stock.length := by rw [hleft]; first | done | (simp; done) | (simp; omega)
      refine r_lenR m.sX fun n1 hn1 mn1 => ?_
      conv => cbv
      refine r_loopF (α := List Int × Int) m 64 [0, 30, 31, 32] [⟨11, 89, 3, 1, 0⟩] (fun σ => [(0, .isl 2 (rows cSort f)), (11, .osl 89 0), (30, .isl 1 (rows cStr words)), (31, .int .i64 n1), (32, .int .i64 σ.2)]) (fun σ => [(89, 0, .row 3 1 (rows cInt σ.1))])
        (fun σ => (0 ≤ σ.2) ∧ (σ.2 ≤ n1) ∧ (runA f words 0 stock = runA f (words.drop σ.2.toNat) σ.2 σ.1) ∧ (σ.1.length = f.length) ∧ (∀ z ∈ σ.1, 0 ≤ z ∧ z ≤ 100000)) (fun σ => (n1 - σ.2).toNat) (left, 0) ?_ ?_ ?_ ?_
      · cbv
      · cbv
      · exact ⟨(by (try dsimp only); first | omega | (simp only [List.length_nil]; omega)), (by (try dsimp only); first | omega | (simp only [List.length_nil]; omega)), (by (try dsimp only) <;> (rw [hleft]; rfl)), (by (try dsimp only) <;> (rw [hleft]; exact ln2)), (by (try dsimp only) <;> (rw [hleft]; exact ak.stock.bound))⟩
      rintro ⟨left_2, i1⟩ ⟨lo1, hi1, q, nl, nb⟩ E hE F hF
      dsimp only at lo1 hi1 q nl nb
      conv => cbv
      refine r_lss m.sX (fun h1 => ?_) (fun h1 => ?_) <;> conv => cbv
      · refine r_index m.sX (by omega) (by omega) fun w hw => ?_
        conv => cbv
        have mw := get_mem hw
        have dw := drop_cons hw
        have kw := take_snoc hw
        have jw : (i1 + 1).toNat = Int.toNat i1 + 1 := by omega
        have wl := okWord_len (ow.1 w mw)
        refine r_callF (lb 3 1 cInt) m.sX (sortsOf_ok f w (by first | rfl | assumption | omega | (simp only [List.length_append, List.length_cons, List.length_nil] at *; omega)) (by first | rfl | assumption | omega | (simp only [List.length_append, List.length_cons, List.length_nil] at *; omega))) fun v hlist => ?_
        obtain ⟨list, v2⟩ := v
        conv => cbv
        have wi := wordI_in hc w
        have we := setW_wordI hlist
        rw [← we] at wi
        refine r_lenR m.sX fun n2 hn2 mn2 => ?_
        conv => cbv
        refine r_loopF (α := List Int × Int) m 64 [0, 12, 30, 31, 32, 44, 45] [⟨11, 89, 3, 1, 0⟩, ⟨43, 345, 3, 1, 0⟩] (fun σ => [(0, .isl 2 (rows cSort f)), (11, .osl 89 0), (12, .int .i64 i1), (30, .isl 1 (rows cStr words)), (31, .int .i64 n1), (32, .int .i64 i1), (43, .osl 345 0), (44, .int .i64 n2), (45, .int .i64 σ.2)]) (fun σ => [(89, 0, .row 3 1 (rows cInt σ.1)), (345, 0, .row 3 1 (rows cInt list))])
          (fun σ => (0 ≤ σ.2) ∧ (σ.2 ≤ n2) ∧ (runL list left_2 = runL (list.drop σ.2.toNat) σ.1) ∧ (σ.1.length = f.length) ∧ (∀ z ∈ σ.1, 0 ≤ z ∧ z ≤ 100000)) (fun σ => (n2 - σ.2).toNat) (left_2, 0) ?_ ?_ ?_ ?_
        · cbv
        · cbv
        · exact ⟨(by (try dsimp only); first | omega | (simp only [List.length_nil]; omega)), (by (try dsimp only); first | omega | (simp only [List.length_nil]; omega)), (by (try dsimp only) <;> (rfl)), (by (try dsimp only) <;> first | omega | rfl | (simp [*]; done)), (by (try dsimp only) <;> first | omega | rfl | (simp [*]; done))⟩
        rintro ⟨left_3, i2⟩ ⟨lo2, hi2, q2, nl2, nb2⟩ E2 hE2 F2 hF2
        dsimp only at lo2 hi2 q2 nl2 nb2
        conv => cbv
        refine r_lss m.sX (fun h2 => ?_) (fun h2 => ?_) <;> conv => cbv
        · refine r_oindex m.sX (by omega) (by omega) ?_
          conv => cbv
          obtain ⟨i, hi⟩ := get_ex (xs := list) (i := Int.toNat i2) (by omega)
          have mi := get_mem hi
          have di := drop_cons hi
          have ki := take_snoc hi
          have ji : (i2 + 1).toNat = Int.toNat i2 + 1 := by omega
          have vi := nth_some hi
          have bi := wi.1 i mi
          refine r_oload m.sX hi (Nat.le_of_ble_eq_true rfl) ?_
          conv => cbv
          refine r_oindex m.sX (by omega) (by omega) ?_
          conv => cbv
          obtain ⟨x1, hx1⟩ := get_ex (xs := left_3) (i := Int.toNat i) (by omega)
          have mx1 := get_mem hx1
          have vx1 := nth_some hx1
          have xb := nb2 x1 mx1
          have xn : nth left_3 i.toNat = x1 := nth_some hx1
          refine r_oload m.sX hx1 (Nat.le_of_ble_eq_true rfl) ?_
          conv => cbv
          refine r_eql m.sX (fun h3 => ?_) (fun h3 => ?_) <;> conv => cbv
          · refine hF2 _ _ ?_
            conv => cbv
            refine hF _ _ ?_
            conv => cbv
            exact hQ (.tup [.int .i64 i1, .int .i64 i, .bool true]) (Eq.trans (by first | rfl | (simp only [lb, lbI, rows_cons, rows_nil, unnilT, unnil, unnilTI, unnilI]; done) | (simp only [lb, lbI, rows_cons, rows_nil, unnilT, unnil, unnilTI, unnilI]; rfl)) (congrArg (iib) (show (i1, i, true) = outA f stock words from by rw [outA, if_pos aA, q, runA_drop _ _ hw, ← we, q2, runL_drop _ hi, xn, if_pos h3, if_neg (show ¬ i < 0 by omega)])))   -- leaf 1
          · refine r_oindex m.sX (by omega) (by omega) ?_
            conv => cbv
            obtain ⟨x2, hx2⟩ := get_ex (xs := left_3) (i := Int.toNat i) (by omega)
            have mx2 := get_mem hx2
            have vx2 := nth_some hx2
            have xe : x2 = x1 := Option.some.inj (hx2.symm.trans hx1)
            refine r_oload m.sX hx2 (Nat.le_of_ble_eq_true rfl) ?_
            conv => cbv
            refine r_subf m.sX (by omega) (by omega) fun r1 hr1 => ?_
            conv => cbv
            refine r_oindex m.sX (by omega) (by omega) ?_
            conv => cbv
            obtain ⟨y1, hy1⟩ := get_ex (xs := left_3) (i := Int.toNat i) (by omega)
            refine r_ostore (l := Int.toNat i) r1 m.sX hy1 (Nat.le_of_ble_eq_true rfl) rfl fun left_4 hleft_4 => ?_   -- left_4 = left_3.set i r1
            have lleft_4 : (left_4.length : Int) = left_3.length := by rw [hleft_4]; first | done | (simp; done) | (simp; omega)
            conv => cbv
            refine r_addf m.sX (by omega) (by omega) fun r2 hr2 => ?_
            conv => cbv
            try have tr2 : Int.toNat r2 = Int.toNat i2 + 1 := by omega
            refine hE2 _ (left_4, r2) ?_ ?_ ⟨(by (try dsimp only); first | omega | (simp only [List.length_nil]; omega)), (by (try dsimp only); first | omega | (simp only [List.length_nil]; omega)), (by (try dsimp only) <;> (rw [q2, runL_drop _ hi, xn, if_neg h3, hleft_4, hr1, xe, tr2])), (by (try dsimp only) <;> (rw [hleft_4, List.length_set]; exact nl2)), (by (try dsimp only) <;> (intro z hz; rw [hleft_4] at hz; rcases List.mem_or_eq_of_mem_set hz with hz | hz; exact nb2 z hz; omega))⟩ (by first | omega | (dsimp only; omega))
            · cbv
            · cbv
        · have q3 : runL list left_2 = (left_3, -1) := by rw [q2, runL_end _ (by omega)]
          have dz_i2 := drop_end (xs := list) (i := Int.toNat i2) (by omega)
          have tz_i2 := take_end (xs := list) (i := Int.toNat i2) (by omega)
          refine hF2 _ _ ?_
          conv => cbv
          refine r_addf m.sX (by omega) (by omega) fun r3 hr3 => ?_
          conv => cbv
          try have tr3 : Int.toNat r3 = Int.toNat i1 + 1 := by omega
          refine hE _ (left_3, r3) ?_ ?_ ⟨(by (try dsimp only); first | omega | (simp only [List.length_nil]; omega)), (by (try dsimp only); first | omega | (simp only [List.length_nil]; omega)), (by (try dsimp only) <;> (rw [q, runA_drop _ _ hw, ← we, q3, if_pos (show (-1 : Int) < 0 by omega), tr3, show r3 = i1 + 1 by omega])), (by (try dsimp only) <;> first | omega | rfl | (simp [*]; done) | (rw [nl]; simp [*]; done)), (by (try dsimp only) <;> first | omega | rfl | (simp [*]; done) | (rw [nb]; simp [*]; done))⟩ (by first | omega | (dsimp only; omega))
          · cbv
          · cbv
      · have dz_i1 := drop_end (xs := words) (i := Int.toNat i1) (by omega)
        have tz_i1 := take_end (xs := words) (i := Int.toNat i1) (by omega)
        refine hF _ _ ?_
        conv => cbv
        exact hQ (.tup [.int .i64 0, .int .i64 0, .bool false]) (Eq.trans (by first | rfl | (simp only [lb, lbI, rows_cons, rows_nil, unnilT, unnil, unnilTI, unnilI]; done) | (simp only [lb, lbI, rows_cons, rows_nil, unnilT, unnil, unnilTI, unnilI]; rfl)) (congrArg (iib) (show (0, 0, false) = outA f stock words from by rw [outA, if_pos aA, q, runA_end _ _ (by omega)])))   -- leaf 2
    · exact hQ (.tup [.int .i64 0, .int .i64 0, .bool false]) (Eq.trans (by first | rfl | (simp only [lb, lbI, rows_cons, rows_nil, unnilT, unnil, unnilTI, unnilI]; done) | (simp only [lb, lbI, rows_cons, rows_nil, unnilT, unnil, unnilTI, unnilI]; rfl)) (congrArg (iib) (show (0, 0, false) = outA f stock words from by rw [outA, ← (Prod.mk.inj hv1).2]; rfl)))   -- leaf 3

theorem TimesToSet_ok (f : List FSort) (stock : List Int) (words : List (List UInt8))  : OkA Try.prog 54 [.isl 2 (rows cSort f), .isl 1 (rows cInt stock), .isl 1 (rows cStr words)] (· = ib (timesA f stock words)) :=
  fn_intro envOk fieldsOk mixed Try.func54 rfl fun κ X Y L Q m hQ => by
    conv => cbv
    refine r_callF (lb 3 1 cInt) m.sX (needWith_ok f stock words) fun v hneed => ?_
    obtain ⟨need, ok⟩ := v
    conv => cbv
    rcases Bool.eq_false_or_eq_true ok with rfl | rfl <;> conv => cbv
    · have nA := (Prod.mk.inj hneed).1
      have aA := (Prod.mk.inj hneed).2.symm
      have ak := askedB_spec aA
      have ln1 := ak.cnt.len
      have ln2 := ak.stock.len
      rw [← nA] at ln1
      refine r_lenR m.sX fun n1 hn1 mn1 => ?_
      conv => cbv
      refine r_eql m.sX (fun h1 => ?_) (fun h1 => ?_) <;> conv => cbv
      · exact hQ (.tup [.int .i64 0, .bool false]) (Eq.trans (by first | rfl | (simp only [lb, lbI, rows_cons, rows_nil, unnilT, unnil, unnilTI, unnilI]; done) | (simp only [lb, lbI, rows_cons, rows_nil, unnilT, unnil, unnilTI, unnilI]; rfl)) (congrArg (ib) (show (0, false) = timesA f stock words from by rw [timesA, aA, decide_eq_false (by omega)]; rfl)))   -- leaf 1
      · refine r_lenR m.sX fun n2 hn2 mn2 => ?_
        conv => cbv
        refine r_loopF (α := Int × Int) m 46 [1, 10, 28, 29] [⟨27, 217, 3, 1, 0⟩] (fun σ => [(1, .isl 1 (rows cInt stock)), (10, .int .i64 σ.1), (27, .osl 217 0), (28, .int .i64 n2), (29, .int .i64 σ.2)]) (fun σ => [(217, 0, .row 3 1 (rows cInt need))])
          (fun σ => (0 ≤ σ.2) ∧ (σ.2 ≤ n2) ∧ (tmG need stock 100000 = tmG (need.drop σ.2.toNat) (stock.drop σ.2.toNat) σ.1) ∧ (0 ≤ σ.1 ∧ σ.1 ≤ 100000)) (fun σ => (n2 - σ.2).toNat) (100000, 0) ?_ ?_ ?_ ?_
        · cbv
        · cbv
        · exact ⟨(by (try dsimp only); first | omega | (simp only [List.length_nil]; omega)), (by (try dsimp only); first | omega | (simp only [List.length_nil]; omega)), (by (try dsimp only) <;> (rfl)), (by (try dsimp only) <;> first | omega | rfl | (simp [*]; done))⟩
        rintro ⟨times, i1⟩ ⟨lo1, hi1, q, tb⟩ E hE F hF
        dsimp only at lo1 hi1 q tb
        conv => cbv
        refine r_lss m.sX (fun h2 => ?_) (fun h2 => ?_) <;> conv => cbv
        · refine r_oindex m.sX (by omega) (by omega) ?_
          conv => cbv
          obtain ⟨n, hn⟩ := get_ex (xs := need) (i := Int.toNat i1) (by omega)
          have mn := get_mem hn
          have dn := drop_cons hn
          have kn := take_snoc hn
          have jn : (i1 + 1).toNat = Int.toNat i1 + 1 := by omega
          have vn := nth_some hn
          refine r_oload m.sX hn (Nat.le_of_ble_eq_true rfl) ?_
          conv => cbv
          refine r_gtr m.sX (fun h3 => ?_) (fun h3 => ?_) <;> conv => cbv
          · refine r_index m.sX (by omega) (by omega) fun x1 hx1 => ?_
            conv => cbv
            have mx1 := get_mem hx1
            have dx1 := drop_cons hx1
            have kx1 := take_snoc hx1
            have jx1 : (i1 + 1).toNat = Int.toNat i1 + 1 := by omega
            have vx1 := nth_some hx1
            have xb := ak.stock.bound x1 mx1
            refine r_divf m.sX (by omega) (by omega) fun r1 hr1 br1 => ?_
            conv => cbv
            have rb := div_nonneg (a := x1) (b := n) (by omega) (by omega)
            refine r_min m.sX fun times_2 htimes_2 => ?_
            conv => cbv
            refine r_addf m.sX (by omega) (by omega) fun r2 hr2 => ?_
            conv => cbv
            try have tr2 : Int.toNat r2 = Int.toNat i1 + 1 := by omega
            refine hE _ (times_2, r2) ?_ ?_ ⟨(by (try dsimp only); first | omega | (simp only [List.length_nil]; omega)), (by (try dsimp only); first | omega | (simp only [List.length_nil]; omega)), (by (try dsimp only) <;> (first | rw [q, tmG_drop _ hn hx1, if_pos h3, tr2, htimes_2, hr1] | (obtain ⟨s0, hs0⟩ := get_ex (xs := stock) (i := i1.toNat) (by omega); rw [q, tmG_drop _ hn hs0, if_neg (by omega), tr2]))), (by (try dsimp only) <;> (omega))⟩ (by first | omega | (dsimp only; omega))
            · cbv
            · cbv
          · refine r_addf m.sX (by omega) (by omega) fun r3 hr3 => ?_
            conv => cbv
            try have tr3 : Int.toNat r3 = Int.toNat i1 + 1 := by omega
            refine hE _ (times, r3) ?_ ?_ ⟨(by (try dsimp only); first | omega | (simp only [List.length_nil]; omega)), (by (try dsimp only); first | omega | (simp only [List.length_nil]; omega)), (by (try dsimp only) <;> (first | rw [q, tmG_drop _ hn hx1, if_pos h3, tr3, htimes_2, hr1] | (obtain ⟨s0, hs0⟩ := get_ex (xs := stock) (i := i1.toNat) (by omega); rw [q, tmG_drop _ hn hs0, if_neg (by omega), tr3]))), (by (try dsimp only) <;> (omega))⟩ (by first | omega | (dsimp only; omega))
            · cbv
            · cbv
        · have dz_i1 := drop_end (xs := need) (i := Int.toNat i1) (by omega)
          have tz_i1 := take_end (xs := need) (i := Int.toNat i1) (by omega)
          refine hF _ _ ?_
          conv => cbv
          exact hQ (.tup [.int .i64 times, .bool true]) (Eq.trans (by first | rfl | (simp only [lb, lbI, rows_cons, rows_nil, unnilT, unnil, unnilTI, unnilI]; done) | (simp only [lb, lbI, rows_cons, rows_nil, unnilT, unnil, unnilTI, unnilI]; rfl)) (congrArg (ib) (show (times, true) = timesA f stock words from by rw [timesA, if_pos (by rw [aA, decide_eq_true (by omega)]; rfl), ← nA, q, tmG_end _ (by omega)])))   -- leaf 2
    · exact hQ (.tup [.int .i64 0, .bool false]) (Eq.trans (by first | rfl | (simp only [lb, lbI, rows_cons, rows_nil, unnilT, unnil, unnilTI, unnilI]; done) | (simp only [lb, lbI, rows_cons, rows_nil, unnilT, unnil, unnilTI, unnilI]; rfl)) (congrArg (ib) (show (0, false) = timesA f stock words from by rw [timesA, ← (Prod.mk.inj hneed).2]; rfl)))   -- leaf 3

theorem SortsOfWord_ok (f : List FSort) (word : List UInt8)  : OkA Try.prog 24 [.isl 2 (rows cSort f), .str word] (· = (lb 3 1 cInt) (sortsA f word)) :=
  OkA.unnil 3 1 (fn_intro envOk fieldsOk mixed Try.func24 rfl fun κ X Y L Q m hQ => by
    conv => cbv
    refine r_callB m.sX (IsFont_ok f) (fun h1 => ?_) (fun h1 => ?_) <;> conv => cbv
    · refine r_callB m.sX (isWord_ok word) (fun h2 => ?_) (fun h2 => ?_) <;> conv => cbv
      · have hc := okFont_codes h1
        have wl := okWord_len h2
        refine r_callF (lb 3 1 cInt) m.sX (sortsOf_ok f word (by first | rfl | assumption | omega | (simp only [List.length_append, List.length_cons, List.length_nil] at *; omega)) (by first | rfl | assumption | omega | (simp only [List.length_append, List.length_cons, List.length_nil] at *; omega))) fun v hv1 => ?_
        obtain ⟨v1, v2⟩ := v
        conv => cbv
        exact hQ (.tup [.fr 3 1 (rows cInt v1), .bool v2]) (Eq.trans (by first | rfl | (simp only [lb, lbI, rows_cons, rows_nil, unnilT, unnil, unnilTI, unnilI]; done) | (simp only [lb, lbI, rows_cons, rows_nil, unnilT, unnil, unnilTI, unnilI]; rfl)) (congrArg ((lb 3 1 cInt)) (show (v1, v2) = sortsA f word from by rw [sortsA, h1, h2]; exact hv1)))   -- leaf 1
      · exact hQ (.tup [.fr 3 1 [], .bool false]) (Eq.trans (by first | rfl | (simp only [lb, lbI, rows_cons, rows_nil, unnilT, unnil, unnilTI, unnilI]; done) | (simp only [lb, lbI, rows_cons, rows_nil, unnilT, unnil, unnilTI, unnilI]; rfl)) (congrArg ((lb 3 1 cInt)) (show ([], false) = sortsA f word from by rw [sortsA, h1, h2]; rfl)))   -- leaf 2
    · exact hQ (.tup [.fr 3 1 [], .bool false]) (Eq.trans (by first | rfl | (simp only [lb, lbI, rows_cons, rows_nil, unnilT, unnil, unnilTI, unnilI]; done) | (simp only [lb, lbI, rows_cons, rows_nil, unnilT, unnil, unnilTI, unnilI]; rfl)) (congrArg ((lb 3 1 cInt)) (show ([], false) = sortsA f word from by rw [sortsA, h1]; rfl))))   -- leaf 3

theorem LeastRecast_ok (f : List FSort) (stock : List Int) (words : List (List UInt8)) (times : Int)  : OkA Try.prog 56 [.isl 2 (rows cSort f), .isl 1 (rows cInt stock), .isl 1 (rows cStr words), .int .i64 times] (· = (lb 3 1 cInt) (recastA f stock words times)) :=
  OkA.unnil 3 1 (fn_intro envOk fieldsOk mixed Try.func56 rfl fun κ X Y L Q m hQ => by
    conv => cbv
    refine r_callF (lb 3 1 cInt) m.sX (needWith_ok f stock words) fun v hneed => ?_
    obtain ⟨need, ok⟩ := v
    conv => cbv
    rcases Bool.eq_false_or_eq_true ok with rfl | rfl <;> conv => cbv
    · have nA := (Prod.mk.inj hneed).1
      have aA := (Prod.mk.inj hneed).2.symm
      have ak := askedB_spec aA
      have ln1 := ak.cnt.len
      have ln2 := ak.stock.len
      have lbb := ak.cnt.bound
      have sb := ak.stock.bound
      have fo := (okFont_sets ak.cnt.font).2
      rw [← nA] at ln1 lbb
      refine r_callB m.sX (within_ok times 0 1000) (fun h1 => ?_) (fun h1 => ?_) <;> conv => cbv
      · have tb := inB_spec h1
        refine r_lenR m.sX fun n1 hn1 mn1 => ?_
        conv => cbv
        refine r_loopF (α := List Int × Int) m 57 [0, 1, 3, 32, 33] [⟨12, 97, 3, 1, 0⟩, ⟨31, 249, 3, 1, 0⟩] (fun σ => [(0, .isl 2 (rows cSort f)), (1, .isl 1 (rows cInt stock)), (3, .int .i64 times), (12, .osl 97 0), (31, .osl 249 0), (32, .int .i64 n1), (33, .int .i64 σ.2)]) (fun σ => [(97, 0, .row 3 1 (rows cInt σ.1)), (249, 0, .row 3 1 (rows cInt need))])
          (fun σ => (0 ≤ σ.2) ∧ (σ.2 ≤ n1) ∧ (σ.1 = rcG times (need.take σ.2.toNat) (stock.take σ.2.toNat)) ∧ ((σ.1.length : Int) = σ.2)) (fun σ => (n1 - σ.2).toNat) ([], 0) ?_ ?_ ?_ ?_
        · cbv
        · (try dsimp only); simp only [rows_cons, rows_nil]; cbv
        · exact ⟨(by (try dsimp only); first | omega | (simp only [List.length_nil]; omega)), (by (try dsimp only); first | omega | (simp only [List.length_nil]; omega)), (by (try dsimp only) <;> (rfl)), (by (try dsimp only) <;> first | omega | rfl | (simp [*]; done))⟩
        rintro ⟨list, i1⟩ ⟨lo1, hi1, q, ll⟩ E hE F hF
        dsimp only at lo1 hi1 q ll
        conv => cbv
        refine r_lss m.sX (fun h2 => ?_) (fun h2 => ?_) <;> conv => cbv
        · refine r_oindex m.sX (by omega) (by omega) ?_
          conv => cbv
          obtain ⟨n, hn⟩ := get_ex (xs := need) (i := Int.toNat i1) (by omega)
          have mn := get_mem hn
          have dn := drop_cons hn
          have kn := take_snoc hn
          have jn : (i1 + 1).toNat = Int.toNat i1 + 1 := by omega
          have vn := nth_some hn
          have bn := lbb n mn
          have mb := mul_bound (a := n) (A := 640) (b := times) (B := 1000) (by omega) (by omega) (by omega) (by omega)
          refine r_oload m.sX hn (Nat.le_of_ble_eq_true rfl) ?_
          conv => cbv
          refine r_mulf m.sX (by first | omega | (subst_vars; omega)) (by first | omega | (subst_vars; omega)) fun r1 hr1 => ?_
          conv => cbv
          refine r_index m.sX (by omega) (by omega) fun x1 hx1 => ?_
          conv => cbv
          have mx1 := get_mem hx1
          have dx1 := drop_cons hx1
          have kx1 := take_snoc hx1
          have jx1 : (i1 + 1).toNat = Int.toNat i1 + 1 := by omega
          have vx1 := nth_some hx1
          have bx := sb x1 mx1
          refine r_subf m.sX (by omega) (by omega) fun r2 hr2 => ?_
          conv => cbv
          refine r_max m.sX fun r3 hr3 => ?_
          conv => cbv
          refine r_append1 (r3) m.sX rfl (by first | omega | (dsimp only; omega)) (by first | omega | (dsimp only; omega)) fun list_2 hlist_2 => ?_
          conv => cbv
          have llist_2 : (list_2.length : Int) = list.length + 1 := by rw [hlist_2]; first | done | (simp; done) | (simp; omega)
          refine r_addf m.sX (by omega) (by omega) fun r4 hr4 => ?_
          conv => cbv
          try have tr4 : Int.toNat r4 = Int.toNat i1 + 1 := by omega
          refine hE _ (list_2, r4) ?_ ?_ ⟨(by (try dsimp only); first | omega | (simp only [List.length_nil]; omega)), (by (try dsimp only); first | omega | (simp only [List.length_nil]; omega)), (by (try dsimp only) <;> (rw [hlist_2, q, tr4, rcG_take hn hx1, hr3, hr2, hr1])), (by (try dsimp only) <;> (omega))⟩ (by first | omega | (dsimp only; omega))
          · cbv
          · cbv
        · have qe : list = rcG times need stock := by rw [q, List.take_of_length_le (by omega), List.take_of_length_le (by omega)]
          have dz_i1 := drop_end (xs := need) (i := Int.toNat i1) (by omega)
          have tz_i1 := take_end (xs := need) (i := Int.toNat i1) (by omega)
          refine hF _ _ ?_
          conv => cbv
          refine .inl (r_callBO m.sX ((areCounts_ok f list).ok flat_bool) (fun h3 => ?_) (fun h3 => ?_)) <;> conv => cbv
          · exact hQ (.tup [.fr 3 1 (rows cInt list), .bool true]) (Eq.trans (by first | rfl | (simp only [lb, lbI, rows_cons, rows_nil, unnilT, unnil, unnilTI, unnilI]; done) | (simp only [lb, lbI, rows_cons, rows_nil, unnilT, unnil, unnilTI, unnilI]; rfl)) (congrArg ((lb 3 1 cInt)) (show (list, true) = recastA f stock words times from by rw [ak.cnt.font, Bool.true_and, stockB, Bool.and_eq_true] at h3; rw [recastA, aA, h1, ← nA, ← qe, h3.2]; rfl)))   -- leaf 1
          · exact hQ (.tup [.fr 3 1 [], .bool false]) (Eq.trans (by first | rfl | (simp only [lb, lbI, rows_cons, rows_nil, unnilT, unnil, unnilTI, unnilI]; done) | (simp only [lb, lbI, rows_cons, rows_nil, unnilT, unnil, unnilTI, unnilI]; rfl)) (congrArg ((lb 3 1 cInt)) (show ([], false) = recastA f stock words times from by rw [ak.cnt.font, Bool.true_and, stockB, decide_eq_true (by omega), Bool.true_and] at h3; rw [recastA, aA, h1, ← nA, ← qe, h3]; rfl)))   -- leaf 2
      · exact hQ (.tup [.fr 3 1 [], .bool false]) (Eq.trans (by first | rfl | (simp only [lb, lbI, rows_cons, rows_nil, unnilT, unnil, unnilTI, unnilI]; done) | (simp only [lb, lbI, rows_cons, rows_nil, unnilT, unnil, unnilTI, unnilI]; rfl)) (congrArg ((lb 3 1 cInt)) (show ([], false) = recastA f stock words times from by rw [recastA, aA, h1]; rfl)))   -- leaf 3
    · exact hQ (.tup [.fr 3 1 [], .bool false]) (Eq.trans (by first | rfl | (simp only [lb, lbI, rows_cons, rows_nil, unnilT, unnil, unnilTI, unnilI]; done) | (simp only [lb, lbI, rows_cons, rows_nil, unnilT, unnil, unnilTI, unnilI]; rfl)) (congrArg ((lb 3 1 cInt)) (show ([], false) = recastA f stock words times from by rw [recastA, ← (Prod.mk.inj hneed).2]; rfl))))   -- leaf 4

theorem tyWord_ok (s_ : List UInt8)  : OkA Try.prog 157 [.str s_] (· = .bool (okWord s_)) :=
  fn_intro envOk fieldsOk mixed Try.func157 rfl fun κ X Y L Q m hQ => by
    conv => cbv
    refine r_callB m.sX (tyLetters_ok s_ 16) (fun h1 => ?_) (fun h1 => ?_) <;> conv => cbv
    · exact hQ _ (congrArg PV.bool (by exact h1.symm))   -- leaf 1
    · exact hQ _ (congrArg PV.bool (by exact h1.symm))   -- leaf 2

theorem tyWords_ok (words : List (List UInt8))  : OkA Try.prog 162 [.isl 1 (rows cStr words)] (· = .bool (okWords words)) :=
  fn_intro envOk fieldsOk mixed Try.func162 rfl fun κ X Y L Q m hQ => by
    conv => cbv
    refine r_lenR m.sX fun n1 hn1 mn1 => ?_
    conv => cbv
    refine r_loopF (α := Int) m 18 [0, 5, 6, 7] [] (fun σ => [(0, .isl 1 (rows cStr words)), (5, .isl 1 (rows cStr words)), (6, .int .i64 n1), (7, .int .i64 σ)]) (fun σ => [])
      (fun σ => (0 ≤ σ) ∧ (σ ≤ n1) ∧ (words.all okWord = (words.drop σ.toNat).all okWord)) (fun σ => (n1 - σ).toNat) 0 ?_ ?_ ?_ ?_
    · cbv
    · cbv
    · exact ⟨(by (try dsimp only); first | omega | (simp only [List.length_nil]; omega)), (by (try dsimp only); first | omega | (simp only [List.length_nil]; omega)), (by (try dsimp only) <;> (rfl))⟩
    rintro i1 ⟨lo1, hi1, q⟩ E hE F hF
    conv => cbv
    refine r_lss m.sX (fun h1 => ?_) (fun h1 => ?_) <;> conv => cbv
    · refine r_index m.sX (by omega) (by omega) fun w hw => ?_
      conv => cbv
      have mw := get_mem hw
      have dw := drop_cons hw
      have kw := take_snoc hw
      have jw : (i1 + 1).toNat = Int.toNat i1 + 1 := by omega
      refine r_callB m.sX (tyWord_ok w) (fun h2 => ?_) (fun h2 => ?_) <;> conv => cbv
      · refine r_addf m.sX (by omega) (by omega) fun r1 hr1 => ?_
        conv => cbv
        try have tr1 : Int.toNat r1 = Int.toNat i1 + 1 := by omega
        refine hE _ r1 ?_ ?_ ⟨(by (try dsimp only); first | omega | (simp only [List.length_nil]; omega)), (by (try dsimp only); first | omega | (simp only [List.length_nil]; omega)), (by (try dsimp only) <;> (rw [q, okWords_drop hw, h2, Bool.true_and, tr1]))⟩ (by first | omega | (dsimp only; omega))
        · cbv
        · cbv
      · refine hF _ _ ?_
        conv => cbv
        exact hQ _ (congrArg PV.bool (by rw [okWords, q, okWords_drop hw, h2]; rfl))   -- leaf 1
    · have dz_i1 := drop_end (xs := words) (i := Int.toNat i1) (by omega)
      have tz_i1 := take_end (xs := words) (i := Int.toNat i1) (by omega)
      refine hF _ _ ?_
      conv => cbv
      refine r_lenR m.sX fun n2 hn2 mn2 => ?_
      conv => cbv
      refine r_leq m.sX (fun h3 => ?_) (fun h3 => ?_) <;> conv => cbv
      · exact hQ _ (congrArg PV.bool (by rw [okWords, q, dz_i1, decide_eq_true (by omega)]; rfl))   -- leaf 2
      · exact hQ _ (congrArg PV.bool (by rw [okWords, q, dz_i1, decide_eq_false (by omega)]; rfl))   -- leaf 3

theorem tySet_ok (f : List FSort) (word : List UInt8) (hc : CodesOk f) (hw : word.length ≤ 16) : OkA Try.prog 104 [.isl 2 (rows cSort f), .str word] (· = (lb 3 1 cInt) (setW f word [])) :=
  OkA.unnil 3 1 (fn_intro envOk fieldsOk mixed Try.func104 rfl fun κ X Y L Q m hQ => by
    conv => cbv
    refine r_loopF (α := List Int × Int) m 50 [0, 1, 7] [⟨6, 49, 3, 1, 0⟩] (fun σ => [(0, .isl 2 (rows cSort f)), (1, .str word), (6, .osl 49 0), (7, .int .i64 σ.2)]) (fun σ => [(49, 0, .row 3 1 (rows cInt σ.1))])
      (fun σ => (0 ≤ σ.2) ∧ (σ.2 ≤ (word.length : Int)) ∧ (setW f word [] = setW f (word.drop σ.2.toNat) σ.1) ∧ ((σ.1.length : Int) ≤ σ.2)) (fun σ => ((word.length : Int) - σ.2).toNat) ([], 0) ?_ ?_ ?_ ?_
    · cbv
    · (try dsimp only); simp only [rows_cons, rows_nil]; cbv
    · exact ⟨(by (try dsimp only); first | omega | (simp only [List.length_nil]; omega)), (by (try dsimp only); first | omega | (simp only [List.length_nil]; omega)), (by (try dsimp only) <;> (rfl)), (by (try dsimp only) <;> first | omega | rfl | (simp [*]; done))⟩
    rintro ⟨out, at_⟩ ⟨lo1, hi1, q, ln⟩ E hE F hF
    dsimp only at lo1 hi1 q ln
    conv => cbv
    refine r_slen (u := word) m.sX fun n1 hn1 mn1 => ?_   -- n1 = length of word
    conv => cbv
    refine r_lss m.sX (fun h1 => ?_) (fun h1 => ?_) <;> conv => cbv
    · have wd : (word.drop at_.toNat).length = (n1 - at_).toNat := by rw [List.length_drop]; omega
      refine r_slen (u := word) m.sX fun n2 hn2 mn2 => ?_   -- n2 = length of word
      conv => cbv
      refine r_subf m.sX (by omega) (by omega) fun r1 hr1 => ?_
      conv => cbv
      refine r_callF (PV.int .i64) m.sX (l1Least_ok 3 r1) fun n hn => ?_
      conv => cbv
      refine r_loopF (α := Int × Int) m 50 [0, 1, 7, 8, 9] [⟨6, 49, 3, 1, 0⟩] (fun σ => [(0, .isl 2 (rows cSort f)), (1, .str word), (6, .osl 49 0), (7, .int .i64 at_), (8, .int .i64 σ.1), (9, .int .i64 σ.2)]) (fun σ => [(49, 0, .row 3 1 (rows cInt out))])
        (fun σ => (bestF f (word.drop at_.toNat) = if σ.1 < 0 then tryN f (word.drop at_.toNat) σ.2.toNat else σ.1) ∧ (-1 ≤ σ.1 ∧ σ.1 < f.length) ∧ (0 ≤ σ.2 ∧ σ.2 ≤ r1)) (fun σ => σ.2.toNat) (-1, n) ?_ ?_ ?_ ?_
      · cbv
      · cbv
      · exact ⟨(by (try dsimp only) <;> (rw [if_pos (show (-1 : Int) < 0 by omega), ← tryN_best hc, wd, show n.toNat = min 3 (n1 - at_).toNat by omega])), (by (try dsimp only) <;> first | omega | rfl | (simp [*]; done)), (by (try dsimp only) <;> first | omega | rfl | (simp [*]; done))⟩
      rintro ⟨best, n_2⟩ ⟨q2, bb, nb⟩ E2 hE2 F2 hF2
      dsimp only at q2 bb nb
      conv => cbv
      refine r_gtr m.sX (fun h2 => ?_) (fun h2 => ?_) <;> conv => cbv
      · refine r_lss m.sX (fun h3 => ?_) (fun h3 => ?_) <;> conv => cbv
        · refine r_addf m.sX (by omega) (by omega) fun r2 hr2 => ?_
          conv => cbv
          refine r_sslice (u := word) (i := at_) (j := r2) m.sX (by omega) (by omega) (by first | omega | (simp only [List.length_cons, List.length_nil]; omega) | (simp; omega)) fun s1 hs1 => ?_   -- s1 = word[at_:r2]
          have ls1 : (s1.length : Int) = r2 - at_ := by rw [hs1]; first | done | (simp; done) | (simp; omega)
          conv => cbv
          refine r_callF (PV.int .i64) m.sX (tyFind_ok f s1) fun best_2 hbest_2 => ?_
          conv => cbv
          have fi := idxF_in s1 f
          rw [← hbest_2] at fi
          have s1e : s1 = (word.drop at_.toNat).take n_2.toNat := by rw [hs1, List.drop_take]; congr 1; omega
          refine r_subf m.sX (by omega) (by omega) fun n_3 hn_3 => ?_
          conv => cbv
          have st : tryN f (word.drop at_.toNat) n_2.toNat = if 0 ≤ best_2 then best_2 else tryN f (word.drop at_.toNat) n_3.toNat := by rw [show n_2.toNat = n_3.toNat + 1 by omega, tryN, ← show n_2.toNat = n_3.toNat + 1 by omega, ← s1e, ← hbest_2]
          refine hE2 _ (best_2, n_3) ?_ ?_ ⟨(by (try dsimp only) <;> (rw [q2, if_pos h3, st]; by_cases e : best_2 < 0; rw [if_neg (by omega), if_pos e]; rw [if_pos (by omega), if_neg e])), (by (try dsimp only) <;> (omega)), (by (try dsimp only) <;> (omega))⟩ (by first | omega | (dsimp only; omega))
          · cbv
          · cbv
        · have bq : bestF f (word.drop at_.toNat) = best := by rw [q2, if_neg (by omega)]
          refine hF2 _ _ ?_
          conv => cbv
          refine r_lss m.sX (fun h4 => ?_) (fun h4 => ?_) <;> conv => cbv
          · refine hF _ _ ?_
            conv => cbv
            exact hQ (.tup [.nil, .bool false]) (Eq.trans (by first | rfl | (simp only [lb, lbI, rows_cons, rows_nil, unnilT, unnil, unnilTI, unnilI]; done) | (simp only [lb, lbI, rows_cons, rows_nil, unnilT, unnil, unnilTI, unnilI]; rfl)) (congrArg ((lb 3 1 cInt)) (show ([], false) = setW f word [] from by rw [q, setW_none _ (by omega) (by omega)])))   -- leaf 1
          · have bp := best_pos hc (w := word.drop at_.toNat) (by omega)
            rw [bq] at bp
            refine r_append1 (best) m.sX rfl (by first | omega | (dsimp only; omega)) (by first | omega | (dsimp only; omega)) fun out_2 hout_2 => ?_
            conv => cbv
            have lout_2 : (out_2.length : Int) = out.length + 1 := by rw [hout_2]; first | done | (simp; done) | (simp; omega)
            refine r_index m.sX (by omega) (by omega) fun v hx1A => ?_
            obtain ⟨x1A, x1B⟩ := v
            conv => cbv
            have hx1 := hx1A
            have mx1 := get_mem hx1
            have cb1 := hc _ mx1
            try dsimp only at cb1
            have c1 : codeL f best = x1A.length := codeL_some hx1
            refine r_slen (u := x1A) m.sX fun n3 hn3 mn3 => ?_   -- n3 = length of x1A
            conv => cbv
            refine r_addf m.sX (by omega) (by omega) fun at__2 hat__2 => ?_
            conv => cbv
            try have tat__2 : Int.toNat at__2 = Int.toNat at_ + 1 := by omega
            refine hE _ (out_2, at__2) ?_ ?_ ⟨(by (try dsimp only); first | omega | (simp only [List.length_nil]; omega)), (by (try dsimp only); first | omega | (simp only [List.length_nil]; omega)), (by (try dsimp only) <;> (first | (rw [q, setW_step hc _ (by omega) (by omega), bq, c1, List.drop_drop, show at_.toNat + (x1A.length : Int).toNat = at__2.toNat by omega, hout_2]) | (rw [q, setW_step hc _ (by omega) (by omega), bq, c2, List.drop_drop, show at_.toNat + (x2A.length : Int).toNat = at__3.toNat by omega, hout_3]))), (by (try dsimp only) <;> (omega))⟩ (by first | omega | (dsimp only; omega))
            · cbv
            · cbv
      · refine hF2 _ _ ?_
        conv => cbv
        refine r_lss m.sX (fun h5 => ?_) (fun h5 => ?_) <;> conv => cbv
        · have bq : bestF f (word.drop at_.toNat) = -1 := by rw [q2, if_pos h5, show n_2.toNat = 0 by omega, tryN]
          refine hF _ _ ?_
          conv => cbv
          exact hQ (.tup [.nil, .bool false]) (Eq.trans (by first | rfl | (simp only [lb, lbI, rows_cons, rows_nil, unnilT, unnil, unnilTI, unnilI]; done) | (simp only [lb, lbI, rows_cons, rows_nil, unnilT, unnil, unnilTI, unnilI]; rfl)) (congrArg ((lb 3 1 cInt)) (show ([], false) = setW f word [] from by rw [q, setW_none _ (by omega) (by omega)])))   -- leaf 2
        · have bq : bestF f (word.drop at_.toNat) = best := by rw [q2, if_neg (by omega)]
          have bp := best_pos hc (w := word.drop at_.toNat) (by omega)
          try dsimp only at bp
          rw [bq] at bp
          refine r_append1 (best) m.sX rfl (by first | omega | (dsimp only; omega)) (by first | omega | (dsimp only; omega)) fun out_3 hout_3 => ?_
          conv => cbv
          have lout_3 : (out_3.length : Int) = out.length + 1 := by rw [hout_3]; first | done | (simp; done) | (simp; omega)
          refine r_index m.sX (by omega) (by omega) fun v hx2A => ?_
          obtain ⟨x2A, x2B⟩ := v
          conv => cbv
          have hx2 := hx2A
          have mx2 := get_mem hx2
          have cb2 := hc _ mx2
          try dsimp only at cb2
          have c2 : codeL f best = x2A.length := codeL_some hx2
          refine r_slen (u := x2A) m.sX fun n4 hn4 mn4 => ?_   -- n4 = length of x2A
          conv => cbv
          refine r_addf m.sX (by omega) (by omega) fun at__3 hat__3 => ?_
          conv => cbv
          try have tat__3 : Int.toNat at__3 = Int.toNat at_ + 1 := by omega
          refine hE _ (out_3, at__3) ?_ ?_ ⟨(by (try dsimp only); first | omega | (simp only [List.length_nil]; omega)), (by (try dsimp only); first | omega | (simp only [List.length_nil]; omega)), (by (try dsimp only) <;> (first | (rw [q, setW_step hc _ (by omega) (by omega), bq, c1, List.drop_drop, show at_.toNat + (x1A.length : Int).toNat = at__2.toNat by omega, hout_2]) | (rw [q, setW_step hc _ (by omega) (by omega), bq, c2, List.drop_drop, show at_.toNat + (x2A.length : Int).toNat = at__3.toNat by omega, hout_3]))), (by (try dsimp only) <;> (omega))⟩ (by first | omega | (dsimp only; omega))
          · cbv
          · cbv
    · refine hF _ _ ?_
      conv => cbv
      exact hQ (.tup [.fr 3 1 (rows cInt out), .bool true]) (Eq.trans (by first | rfl | (simp only [lb, lbI, rows_cons, rows_nil, unnilT, unnil, unnilTI, unnilI]; done) | (simp only [lb, lbI, rows_cons, rows_nil, unnilT, unnil, unnilTI, unnilI]; rfl)) (congrArg ((lb 3 1 cInt)) (show (out, true) = setW f word [] from by rw [q, setW_nil (by rw [List.length_drop]; omega)]))))   -- leaf 3

theorem biNeed_ok (f : List FSort) (words : List (List UInt8)) (hf : okFont f = true) (hws : okWords words = true) : OkA Try.prog 131 [.isl 2 (rows cSort f), .isl 1 (rows cStr words)] (· = (lb 3 1 cInt) (countsA f words)) :=
  OkA.unnil 3 1 (fn_intro envOk fieldsOk mixed Try.func131 rfl fun κ X Y L Q m hQ => by
    have hc := okFont_codes hf
    have ow := okWords_spec hws
    have fb := (okFont_sets hf).2
    conv => cbv
    refine r_lenR m.sX fun n1 hn1 mn1 => ?_
    conv => cbv
    refine r_make cInt 0 m.sX rfl (by omega) (by omega) (by dsimp only; omega) (by omega) fun out hout => ?_   -- out = replicate n1
    have lout : (out.length : Int) = n1 := by rw [hout]; first | done | (simp; done) | (simp; omega)
    conv => cbv
    refine r_lenR m.sX fun n2 hn2 mn2 => ?_
    conv => cbv
    refine r_loopF (α := List Int × Int) m 45 [0, 16, 17, 18] [⟨6, 49, 3, 1, 0⟩] (fun σ => [(0, .isl 2 (rows cSort f)), (6, .osl 49 0), (16, .isl 1 (rows cStr words)), (17, .int .i64 n2), (18, .int .i64 σ.2)]) (fun σ => [(49, 0, .row 3 1 (rows cInt σ.1))])
      (fun σ => (0 ≤ σ.2) ∧ (σ.2 ≤ n2) ∧ (cntA f words (List.replicate f.length 0) = cntA f (words.drop σ.2.toNat) σ.1) ∧ (σ.1.length = f.length) ∧ (∀ z ∈ σ.1, 0 ≤ z ∧ z ≤ 16 * σ.2)) (fun σ => (n2 - σ.2).toNat) (out, 0) ?_ ?_ ?_ ?_
    · cbv
    · cbv
    · exact ⟨(by (try dsimp only); first | omega | (simp only [List.length_nil]; omega)), (by (try dsimp only); first | omega | (simp only [List.length_nil]; omega)), (by (try dsimp only) <;> (rw [hout, show n1.toNat = f.length by omega]; rfl)), (by (try dsimp only) <;> (rw [hout, List.length_replicate]; omega)), (by (try dsimp only) <;> (intro z hz; rw [hout] at hz; rw [List.eq_of_mem_replicate hz]; omega))⟩
    rintro ⟨out_2, i1⟩ ⟨lo1, hi1, q, nl, nb⟩ E hE F hF
    dsimp only at lo1 hi1 q nl nb
    conv => cbv
    refine r_lss m.sX (fun h1 => ?_) (fun h1 => ?_) <;> conv => cbv
    · refine r_index m.sX (by omega) (by omega) fun w hw => ?_
      conv => cbv
      have mw := get_mem hw
      have dw := drop_cons hw
      have kw := take_snoc hw
      have jw : (i1 + 1).toNat = Int.toNat i1 + 1 := by omega
      have wl := okWord_len (ow.1 w mw)
      refine r_callF (lb 3 1 cInt) m.sX (tySet_ok f w (by first | rfl | assumption | omega | (simp only [List.length_append, List.length_cons, List.length_nil] at *; omega)) (by first | rfl | assumption | omega | (simp only [List.length_append, List.length_cons, List.length_nil] at *; omega))) fun v hsorts => ?_
      obtain ⟨sorts, ok⟩ := v
      conv => cbv
      have wi := wordI_in hc w
      have we := setW_wordI hsorts
      rw [← we] at wi
      rcases Bool.eq_false_or_eq_true ok with rfl | rfl <;> conv => cbv
      · refine r_lenR m.sX fun n3 hn3 mn3 => ?_
        conv => cbv
        refine r_loopF (α := List Int × Int) m 45 [0, 16, 17, 18, 31, 32] [⟨6, 49, 3, 1, 0⟩, ⟨30, 241, 3, 1, 0⟩] (fun σ => [(0, .isl 2 (rows cSort f)), (6, .osl 49 0), (16, .isl 1 (rows cStr words)), (17, .int .i64 n2), (18, .int .i64 i1), (30, .osl 241 0), (31, .int .i64 n3), (32, .int .i64 σ.2)]) (fun σ => [(49, 0, .row 3 1 (rows cInt σ.1)), (241, 0, .row 3 1 (rows cInt sorts))])
          (fun σ => (0 ≤ σ.2) ∧ (σ.2 ≤ n3) ∧ (cntW sorts out_2 = cntW (sorts.drop σ.2.toNat) σ.1) ∧ (σ.1.length = f.length) ∧ (∀ z ∈ σ.1, 0 ≤ z ∧ z ≤ 16 * i1 + σ.2)) (fun σ => (n3 - σ.2).toNat) (out_2, 0) ?_ ?_ ?_ ?_
        · cbv
        · cbv
        · exact ⟨(by (try dsimp only); first | omega | (simp only [List.length_nil]; omega)), (by (try dsimp only); first | omega | (simp only [List.length_nil]; omega)), (by (try dsimp only) <;> (rfl)), (by (try dsimp only) <;> first | omega | rfl | (simp [*]; done)), (by (try dsimp only) <;> (intro z hz; have := nb z hz; omega))⟩
        rintro ⟨out_3, i2⟩ ⟨lo2, hi2, q2, nl2, nb2⟩ E2 hE2 F2 hF2
        dsimp only at lo2 hi2 q2 nl2 nb2
        conv => cbv
        refine r_lss m.sX (fun h2 => ?_) (fun h2 => ?_) <;> conv => cbv
        · refine r_oindex m.sX (by omega) (by omega) ?_
          conv => cbv
          obtain ⟨i, hi⟩ := get_ex (xs := sorts) (i := Int.toNat i2) (by omega)
          have mi := get_mem hi
          have di := drop_cons hi
          have ki := take_snoc hi
          have ji : (i2 + 1).toNat = Int.toNat i2 + 1 := by omega
          have vi := nth_some hi
          have bi := wi.1 i mi
          refine r_oload m.sX hi (Nat.le_of_ble_eq_true rfl) ?_
          conv => cbv
          refine r_oindex m.sX (by omega) (by omega) ?_
          conv => cbv
          obtain ⟨x1, hx1⟩ := get_ex (xs := out_3) (i := Int.toNat i) (by omega)
          have mx1 := get_mem hx1
          have vx1 := nth_some hx1
          have xb := nb2 x1 mx1
          refine r_oload m.sX hx1 (Nat.le_of_ble_eq_true rfl) ?_
          conv => cbv
          refine r_addf m.sX (by omega) (by omega) fun r1 hr1 => ?_
          conv => cbv
          refine r_oindex m.sX (by omega) (by omega) ?_
          conv => cbv
          obtain ⟨y1, hy1⟩ := get_ex (xs := out_3) (i := Int.toNat i) (by omega)
          refine r_ostore (l := Int.toNat i) r1 m.sX hy1 (Nat.le_of_ble_eq_true rfl) rfl fun out_4 hout_4 => ?_   -- out_4 = out_3.set i r1
          have lout_4 : (out_4.length : Int) = out_3.length := by rw [hout_4]; first | done | (simp; done) | (simp; omega)
          have nu : out_4 = bump out_3 i := by rw [hout_4, bump, nth_some hx1, hr1]
          conv => cbv
          refine r_addf m.sX (by omega) (by omega) fun r2 hr2 => ?_
          conv => cbv
          try have tr2 : Int.toNat r2 = Int.toNat i2 + 1 := by omega
          refine hE2 _ (out_4, r2) ?_ ?_ ⟨(by (try dsimp only); first | omega | (simp only [List.length_nil]; omega)), (by (try dsimp only); first | omega | (simp only [List.length_nil]; omega)), (by (try dsimp only) <;> (rw [q2, cntW_drop _ hi, ← nu, tr2])), (by (try dsimp only) <;> (rw [hout_4, List.length_set]; exact nl2)), (by (try dsimp only) <;> (intro z hz; rw [nu] at hz; have := bump_bounds nb2 (x := i) (by omega) z hz; omega))⟩ (by first | omega | (dsimp only; omega))
          · cbv
          · cbv
        · have dz_i2 := drop_end (xs := sorts) (i := Int.toNat i2) (by omega)
          have tz_i2 := take_end (xs := sorts) (i := Int.toNat i2) (by omega)
          refine hF2 _ _ ?_
          conv => cbv
          refine r_addf m.sX (by omega) (by omega) fun r3 hr3 => ?_
          conv => cbv
          try have tr3 : Int.toNat r3 = Int.toNat i1 + 1 := by omega
          refine hE _ (out_3, r3) ?_ ?_ ⟨(by (try dsimp only); first | omega | (simp only [List.length_nil]; omega)), (by (try dsimp only); first | omega | (simp only [List.length_nil]; omega)), (by (try dsimp only) <;> (rw [q, cntA_ok _ hw hsorts, q2, dz_i2, tr3]; rfl)), (by (try dsimp only) <;> first | omega | rfl | (simp [*]; done) | (rw [nl]; simp [*]; done)), (by (try dsimp only) <;> (intro z hz; have := nb2 z hz; omega))⟩ (by first | omega | (dsimp only; omega))
          · cbv
          · cbv
      · refine hF _ _ ?_
        conv => cbv
        exact hQ (.tup [.nil, .bool false]) (Eq.trans (by first | rfl | (simp only [lb, lbI, rows_cons, rows_nil, unnilT, unnil, unnilTI, unnilI]; done) | (simp only [lb, lbI, rows_cons, rows_nil, unnilT, unnil, unnilTI, unnilI]; rfl)) (congrArg ((lb 3 1 cInt)) (show ([], false) = countsA f words from by rw [countsA, if_pos (by rw [hf, hws]; rfl), q, cntA_no _ hw hsorts])))   -- leaf 1
    · have dz_i1 := drop_end (xs := words) (i := Int.toNat i1) (by omega)
      have tz_i1 := take_end (xs := words) (i := Int.toNat i1) (by omega)
      refine hF _ _ ?_
      conv => cbv
      exact hQ (.tup [.fr 3 1 (rows cInt out_2), .bool true]) (Eq.trans (by first | rfl | (simp only [lb, lbI, rows_cons, rows_nil, unnilT, unnil, unnilTI, unnilI]; done) | (simp only [lb, lbI, rows_cons, rows_nil, unnilT, unnil, unnilTI, unnilI]; rfl)) (congrArg ((lb 3 1 cInt)) (show (out_2, true) = countsA f words from by rw [countsA, if_pos (by rw [hf, hws]; rfl), q, cntA_end _ (by omega)]))))   -- leaf 2

theorem biCopy_ok (f : List FSort) (words : List (List UInt8))  : OkA Try.prog 130 [.isl 2 (rows cSort f), .isl 1 (rows cStr words)] (· = .bool ((countsA f words).2)) :=
  fn_intro envOk fieldsOk mixed Try.func130 rfl fun κ X Y L Q m hQ => by
    conv => cbv
    refine r_callB m.sX (tyFont_ok f) (fun h1 => ?_) (fun h1 => ?_) <;> conv => cbv
    · refine r_callB m.sX (tyWords_ok words) (fun h2 => ?_) (fun h2 => ?_) <;> conv => cbv
      · refine r_callF (lb 3 1 cInt) m.sX (biNeed_ok f words (by first | rfl | assumption | omega | (simp only [List.length_append, List.length_cons, List.length_nil] at *; omega)) (by first | rfl | assumption | omega | (simp only [List.length_append, List.length_cons, List.length_nil] at *; omega))) fun v hv1 => ?_
        obtain ⟨v1, ok⟩ := v
        conv => cbv
        exact hQ _ (congrArg PV.bool (by rw [← hv1]))   -- leaf 1
      · exact hQ _ (congrArg PV.bool (by rw [countsA, h1, h2]; rfl))   -- leaf 2
    · exact hQ _ (congrArg PV.bool (by rw [countsA, h1]; rfl))   -- leaf 3

theorem specCountSorts_ok (f : List FSort) (words : List (List UInt8))  : OkA Try.prog 49 [.isl 2 (rows cSort f), .isl 1 (rows cStr words)] (· = (lb 3 1 cInt) (countsA f words)) :=
  OkA.unnil 3 1 (fn_intro envOk fieldsOk mixed Try.func49 rfl fun κ X Y L Q m hQ => by
    conv => cbv
    refine r_callB m.sX (biCopy_ok f words) (fun h1 => ?_) (fun h1 => ?_) <;> conv => cbv
    · have fw1 := (countsA_ok h1).1
      have fw2 := (countsA_ok h1).2
      refine r_callF (lb 3 1 cInt) m.sX (biNeed_ok f words (by first | rfl | assumption | omega | (simp only [List.length_append, List.length_cons, List.length_nil] at *; omega)) (by first | rfl | assumption | omega | (simp only [List.length_append, List.length_cons, List.length_nil] at *; omega))) fun v hv1 => ?_
      obtain ⟨v1, v2⟩ := v
      conv => cbv
      exact hQ (.tup [.fr 3 1 (rows cInt v1), .bool v2]) (Eq.trans (by first | rfl | (simp only [lb, lbI, rows_cons, rows_nil, unnilT, unnil, unnilTI, unnilI]; done) | (simp only [lb, lbI, rows_cons, rows_nil, unnilT, unnil, unnilTI, unnilI]; rfl)) (congrArg ((lb 3 1 cInt)) (show (v1, v2) = countsA f words from by first | rfl | omega | (simp [*]; done) | (subst_vars; simp [*]; done))))   -- leaf 1
    · exact hQ (.tup [.nil, .bool false]) (Eq.trans (by first | rfl | (simp only [lb, lbI, rows_cons, rows_nil, unnilT, unnil, unnilTI, unnilI]; done) | (simp only [lb, lbI, rows_cons, rows_nil, unnilT, unnil, unnilTI, unnilI]; rfl)) (congrArg ((lb 3 1 cInt)) (show ([], false) = countsA f words from by exact (countsA_fail h1).symm))))   -- leaf 2

theorem biStock_ok (f : List FSort) (stock : List Int)  : OkA Try.prog 163 [.isl 2 (rows cSort f), .isl 1 (rows cInt stock)] (· = .bool (stockB f stock)) :=
  fn_intro envOk fieldsOk mixed Try.func163 rfl fun κ X Y L Q m hQ => by
    conv => cbv
    refine r_lenR m.sX fun n1 hn1 mn1 => ?_
    conv => cbv
    refine r_lenR m.sX fun n2 hn2 mn2 => ?_
    conv => cbv
    refine r_eql m.sX (fun h1 => ?_) (fun h1 => ?_) <;> conv => cbv
    · refine r_callB m.sX (l1All_ok stock 0 100000) (fun h2 => ?_) (fun h2 => ?_) <;> conv => cbv
      · exact hQ _ (congrArg PV.bool (by rw [stockB, decide_eq_true (by omega), h2]; rfl))   -- leaf 1
      · exact hQ _ (congrArg PV.bool (by rw [stockB, decide_eq_true (by omega), h2]; rfl))   -- leaf 2
    · exact hQ _ (congrArg PV.bool (by rw [stockB, decide_eq_false (by omega)]; rfl))   -- leaf 3

theorem biAsked_ok (f : List FSort) (stock : List Int) (words : List (List UInt8))  : OkA Try.prog 133 [.isl 2 (rows cSort f), .isl 1 (rows cInt stock), .isl 1 (rows cStr words)] (· = .bool (askedB f stock words)) :=
  fn_intro envOk fieldsOk mixed Try.func133 rfl fun κ X Y L Q m hQ => by
    conv => cbv
    refine r_callB m.sX (biCopy_ok f words) (fun h1 => ?_) (fun h1 => ?_) <;> conv => cbv
    · refine r_callB m.sX (biStock_ok f stock) (fun h2 => ?_) (fun h2 => ?_) <;> conv => cbv
      · exact hQ _ (congrArg PV.bool (by rw [askedB, h1, h2]; rfl))   -- leaf 1
      · exact hQ _ (congrArg PV.bool (by rw [askedB, h1, h2]; rfl))   -- leaf 2
    · exact hQ _ (congrArg PV.bool (by rw [askedB, h1]; rfl))   -- leaf 3

theorem specIsEnough_ok (f : List FSort) (stock : List Int) (words : List (List UInt8))  : OkA Try.prog 51 [.isl 2 (rows cSort f), .isl 1 (rows cInt stock), .isl 1 (rows cStr words)] (· = bb (enoughA f stock words)) :=
  fn_intro envOk fieldsOk mixed Try.func51 rfl fun κ X Y L Q m hQ => by
    conv => cbv
    refine r_callB m.sX (biAsked_ok f stock words) (fun h1 => ?_) (fun h1 => ?_) <;> conv => cbv
    · have ak := askedB_spec h1
      have fw1 := (countsA_ok ak.ok).1
      have fw2 := (countsA_ok ak.ok).2
      refine r_callF (lb 3 1 cInt) m.sX (biNeed_ok f words (by first | rfl | assumption | omega | (simp only [List.length_append, List.length_cons, List.length_nil] at *; omega)) (by first | rfl | assumption | omega | (simp only [List.length_append, List.length_cons, List.length_nil] at *; omega))) fun v hneed => ?_
      obtain ⟨need, v1⟩ := v
      conv => cbv
      have nA : need = (countsA f words).1 := (congrArg Prod.fst hneed)
      have ln1 := ak.cnt.len
      have ln2 := ak.stock.len
      rw [← nA] at ln1
      refine r_lenR m.sX fun n1 hn1 mn1 => ?_
      conv => cbv
      refine r_loopF (α := Int) m 37 [1, 24, 25] [⟨23, 185, 3, 1, 0⟩] (fun σ => [(1, .isl 1 (rows cInt stock)), (23, .osl 185 0), (24, .int .i64 n1), (25, .int .i64 σ)]) (fun σ => [(185, 0, .row 3 1 (rows cInt need))])
        (fun σ => (0 ≤ σ) ∧ (σ ≤ n1) ∧ (leqB need stock = leqB (need.drop σ.toNat) (stock.drop σ.toNat))) (fun σ => (n1 - σ).toNat) 0 ?_ ?_ ?_ ?_
      · cbv
      · cbv
      · exact ⟨(by (try dsimp only); first | omega | (simp only [List.length_nil]; omega)), (by (try dsimp only); first | omega | (simp only [List.length_nil]; omega)), (by (try dsimp only) <;> (rfl))⟩
      rintro i1 ⟨lo1, hi1, q⟩ E hE F hF
      conv => cbv
      refine r_lss m.sX (fun h2 => ?_) (fun h2 => ?_) <;> conv => cbv
      · refine r_oindex m.sX (by omega) (by omega) ?_
        conv => cbv
        obtain ⟨n, hn⟩ := get_ex (xs := need) (i := Int.toNat i1) (by omega)
        have mn := get_mem hn
        have dn := drop_cons hn
        have kn := take_snoc hn
        have jn : (i1 + 1).toNat = Int.toNat i1 + 1 := by omega
        have vn := nth_some hn
        refine r_oload m.sX hn (Nat.le_of_ble_eq_true rfl) ?_
        conv => cbv
        refine r_index m.sX (by omega) (by omega) fun x1 hx1 => ?_
        conv => cbv
        have mx1 := get_mem hx1
        have dx1 := drop_cons hx1
        have kx1 := take_snoc hx1
        have jx1 : (i1 + 1).toNat = Int.toNat i1 + 1 := by omega
        have vx1 := nth_some hx1
        refine r_gtr m.sX (fun h3 => ?_) (fun h3 => ?_) <;> conv => cbv
        · refine hF _ _ ?_
          conv => cbv
          exact hQ (.tup [.bool false, .bool true]) (Eq.trans (by first | rfl | (simp only [lb, lbI, rows_cons, rows_nil, unnilT, unnil, unnilTI, unnilI]; done) | (simp only [lb, lbI, rows_cons, rows_nil, unnilT, unnil, unnilTI, unnilI]; rfl)) (congrArg (bb) (show (false, true) = enoughA f stock words from by rw [enoughA, if_pos h1, ← nA, q, leqB_drop hn hx1, decide_eq_false (by omega)]; rfl)))   -- leaf 1
        · refine r_addf m.sX (by omega) (by omega) fun r1 hr1 => ?_
          conv => cbv
          try have tr1 : Int.toNat r1 = Int.toNat i1 + 1 := by omega
          refine hE _ r1 ?_ ?_ ⟨(by (try dsimp only); first | omega | (simp only [List.length_nil]; omega)), (by (try dsimp only); first | omega | (simp only [List.length_nil]; omega)), (by (try dsimp only) <;> (rw [q, leqB_drop hn hx1, decide_eq_true (by omega), Bool.true_and, tr1]))⟩ (by first | omega | (dsimp only; omega))
          · cbv
          · cbv
      · have dz_i1 := drop_end (xs := need) (i := Int.toNat i1) (by omega)
        have tz_i1 := take_end (xs := need) (i := Int.toNat i1) (by omega)
        refine hF _ _ ?_
        conv => cbv
        exact hQ (.tup [.bool true, .bool true]) (Eq.trans (by first | rfl | (simp only [lb, lbI, rows_cons, rows_nil, unnilT, unnil, unnilTI, unnilI]; done) | (simp only [lb, lbI, rows_cons, rows_nil, unnilT, unnil, unnilTI, unnilI]; rfl)) (congrArg (bb) (show (true, true) = enoughA f stock words from by rw [enoughA, if_pos h1, ← nA, q, leqB_end (by omega)])))   -- leaf 2
    · exact hQ (.tup [.bool false, .bool false]) (Eq.trans (by first | rfl | (simp only [lb, lbI, rows_cons, rows_nil, unnilT, unnil, unnilTI, unnilI]; done) | (simp only [lb, lbI, rows_cons, rows_nil, unnilT, unnil, unnilTI, unnilI]; rfl)) (congrArg (bb) (show (false, false) = enoughA f stock words from by rw [enoughA, h1]; rfl)))   -- leaf 3

theorem specFirstRunOut_ok (f : List FSort) (stock : List Int) (words : List (List UInt8))  : OkA Try.prog 53 [.isl 2 (rows cSort f), .isl 1 (rows cInt stock), .isl 1 (rows cStr words)] (· = iib (outA f stock words)) :=
  fn_intro envOk fieldsOk mixed Try.func53 rfl fun κ X Y L Q m hQ => by
    conv => cbv
    refine r_callB m.sX (biAsked_ok f stock words) (fun h1 => ?_) (fun h1 => ?_) <;> conv => cbv
    · have ak := askedB_spec h1
      have hc := okFont_codes ak.cnt.font
      have ow := okWords_spec ak.cnt.words
      have ln2 := ak.stock.len
      have fb := (okFont_sets ak.cnt.font).2
      refine r_callF (fun l => PV.fr _ _ (rows _ l)) m.sX (l1Own_ok stock (by first | rfl | assumption | omega | (simp only [List.length_append, List.length_cons, List.length_nil] at *; omega))) fun left hleft => ?_
      conv => cbv
      refine r_lenR m.sX fun n1 hn1 mn1 => ?_
      conv => cbv
      refine r_loopF (α := List Int × Int) m 57 [0, 23, 24, 25] [⟨9, 73, 3, 1, 0⟩] (fun σ => [(0, .isl 2 (rows cSort f)), (9, .osl 73 0), (23, .isl 1 (rows cStr words)), (24, .int .i64 n1), (25, .int .i64 σ.2)]) (fun σ => [(73, 0, .row 3 1 (rows cInt σ.1))])
        (fun σ => (0 ≤ σ.2) ∧ (σ.2 ≤ n1) ∧ (runA f words 0 stock = runA f (words.drop σ.2.toNat) σ.2 σ.1) ∧ (σ.1.length = f.length) ∧ (∀ z ∈ σ.1, 0 ≤ z ∧ z ≤ 100000)) (fun σ => (n1 - σ.2).toNat) (left, 0) ?_ ?_ ?_ ?_
      · cbv
      · cbv
      · exact ⟨(by (try dsimp only); first | omega | (simp only [List.length_nil]; omega)), (by (try dsimp only); first | omega | (simp only [List.length_nil]; omega)), (by (try dsimp only) <;> (rw [hleft]; rfl)), (by (try dsimp only) <;> (rw [hleft]; exact ln2)), (by (try dsimp only) <;> (rw [hleft]; exact ak.stock.bound))⟩
      rintro ⟨left_2, i1⟩ ⟨lo1, hi1, q, nl, nb⟩ E hE F hF
      dsimp only at lo1 hi1 q nl nb
      conv => cbv
      refine r_lss m.sX (fun h2 => ?_) (fun h2 => ?_) <;> conv => cbv
      · refine r_index m.sX (by omega) (by omega) fun w hw => ?_
        conv => cbv
        have mw := get_mem hw
        have dw := drop_cons hw
        have kw := take_snoc hw
        have jw : (i1 + 1).toNat = Int.toNat i1 + 1 := by omega
        have wl := okWord_len (ow.1 w mw)
        refine r_callF (lb 3 1 cInt) m.sX (tySet_ok f w (by first | rfl | assumption | omega | (simp only [List.length_append, List.length_cons, List.length_nil] at *; omega)) (by first | rfl | assumption | omega | (simp only [List.length_append, List.length_cons, List.length_nil] at *; omega))) fun v hsorts => ?_
        obtain ⟨sorts, v1⟩ := v
        conv => cbv
        have wi := wordI_in hc w
        have we := setW_wordI hsorts
        rw [← we] at wi
        refine r_lenR m.sX fun n2 hn2 mn2 => ?_
        conv => cbv
        refine r_loopF (α := List Int × Int) m 57 [0, 10, 23, 24, 25, 37, 38] [⟨9, 73, 3, 1, 0⟩, ⟨36, 289, 3, 1, 0⟩] (fun σ => [(0, .isl 2 (rows cSort f)), (9, .osl 73 0), (10, .int .i64 i1), (23, .isl 1 (rows cStr words)), (24, .int .i64 n1), (25, .int .i64 i1), (36, .osl 289 0), (37, .int .i64 n2), (38, .int .i64 σ.2)]) (fun σ => [(73, 0, .row 3 1 (rows cInt σ.1)), (289, 0, .row 3 1 (rows cInt sorts))])
          (fun σ => (0 ≤ σ.2) ∧ (σ.2 ≤ n2) ∧ (runL sorts left_2 = runL (sorts.drop σ.2.toNat) σ.1) ∧ (σ.1.length = f.length) ∧ (∀ z ∈ σ.1, 0 ≤ z ∧ z ≤ 100000)) (fun σ => (n2 - σ.2).toNat) (left_2, 0) ?_ ?_ ?_ ?_
        · cbv
        · cbv
        · exact ⟨(by (try dsimp only); first | omega | (simp only [List.length_nil]; omega)), (by (try dsimp only); first | omega | (simp only [List.length_nil]; omega)), (by (try dsimp only) <;> (rfl)), (by (try dsimp only) <;> first | omega | rfl | (simp [*]; done)), (by (try dsimp only) <;> first | omega | rfl | (simp [*]; done))⟩
        rintro ⟨left_3, i2⟩ ⟨lo2, hi2, q2, nl2, nb2⟩ E2 hE2 F2 hF2
        dsimp only at lo2 hi2 q2 nl2 nb2
        conv => cbv
        refine r_lss m.sX (fun h3 => ?_) (fun h3 => ?_) <;> conv => cbv
        · refine r_oindex m.sX (by omega) (by omega) ?_
          conv => cbv
          obtain ⟨i, hi⟩ := get_ex (xs := sorts) (i := Int.toNat i2) (by omega)
          have mi := get_mem hi
          have di := drop_cons hi
          have ki := take_snoc hi
          have ji : (i2 + 1).toNat = Int.toNat i2 + 1 := by omega
          have vi := nth_some hi
          have bi := wi.1 i mi
          refine r_oload m.sX hi (Nat.le_of_ble_eq_true rfl) ?_
          conv => cbv
          refine r_oindex m.sX (by omega) (by omega) ?_
          conv => cbv
          obtain ⟨x1, hx1⟩ := get_ex (xs := left_3) (i := Int.toNat i) (by omega)
          have mx1 := get_mem hx1
          have vx1 := nth_some hx1
          have xb := nb2 x1 mx1
          have xn : nth left_3 i.toNat = x1 := nth_some hx1
          refine r_oload m.sX hx1 (Nat.le_of_ble_eq_true rfl) ?_
          conv => cbv
          refine r_eql m.sX (fun h4 => ?_) (fun h4 => ?_) <;> conv => cbv
          · refine hF2 _ _ ?_
            conv => cbv
            refine hF _ _ ?_
            conv => cbv
            exact hQ (.tup [.int .i64 i1, .int .i64 i, .bool true]) (Eq.trans (by first | rfl | (simp only [lb, lbI, rows_cons, rows_nil, unnilT, unnil, unnilTI, unnilI]; done) | (simp only [lb, lbI, rows_cons, rows_nil, unnilT, unnil, unnilTI, unnilI]; rfl)) (congrArg (iib) (show (i1, i, true) = outA f stock words from by rw [outA, if_pos h1, q, runA_drop _ _ hw, ← we, q2, runL_drop _ hi, xn, if_pos h4, if_neg (show ¬ i < 0 by omega)])))   -- leaf 1
          · refine r_oindex m.sX (by omega) (by omega) ?_
            conv => cbv
            obtain ⟨x2, hx2⟩ := get_ex (xs := left_3) (i := Int.toNat i) (by omega)
            have mx2 := get_mem hx2
            have vx2 := nth_some hx2
            have xe : x2 = x1 := Option.some.inj (hx2.symm.trans hx1)
            refine r_oload m.sX hx2 (Nat.le_of_ble_eq_true rfl) ?_
            conv => cbv
            refine r_subf m.sX (by omega) (by omega) fun r1 hr1 => ?_
            conv => cbv
            refine r_oindex m.sX (by omega) (by omega) ?_
            conv => cbv
            obtain ⟨y1, hy1⟩ := get_ex (xs := left_3) (i := Int.toNat i) (by omega)
            refine r_ostore (l := Int.toNat i) r1 m.sX hy1 (Nat.le_of_ble_eq_true rfl) rfl fun left_4 hleft_4 => ?_   -- left_4 = left_3.set i r1
            have lleft_4 : (left_4.length : Int) = left_3.length := by rw [hleft_4]; first | done | (simp; done) | (simp; omega)
            conv => cbv
            refine r_addf m.sX (by omega) (by omega) fun r2 hr2 => ?_
            conv => cbv
            try have tr2 : Int.toNat r2 = Int.toNat i2 + 1 := by omega
            refine hE2 _ (left_4, r2) ?_ ?_ ⟨(by (try dsimp only); first | omega | (simp only [List.length_nil]; omega)), (by (try dsimp only); first | omega | (simp only [List.length_nil]; omega)), (by (try dsimp only) <;> (rw [q2, runL_drop _ hi, xn, if_neg h4, hleft_4, hr1, xe, tr2])), (by (try dsimp only) <;> (rw [hleft_4, List.length_set]; exact nl2)), (by (try dsimp only) <;> (intro z hz; rw [hleft_4] at hz; rcases List.mem_or_eq_of_mem_set hz with hz | hz; exact nb2 z hz; omega))⟩ (by first | omega | (dsimp only; omega))
            · cbv
            · cbv
        · have q3 : runL sorts left_2 = (left_3, -1) := by rw [q2, runL_end _ (by omega)]
          have dz_i2 := drop_end (xs := sorts) (i := Int.toNat i2) (by omega)
          have tz_i2 := take_end (xs := sorts) (i := Int.toNat i2) (by omega)
          refine hF2 _ _ ?_
          conv => cbv
          refine r_addf m.sX (by omega) (by omega) fun r3 hr3 => ?_
          conv => cbv
          try have tr3 : Int.toNat r3 = Int.toNat i1 + 1 := by omega
          refine hE _ (left_3, r3) ?_ ?_ ⟨(by (try dsimp only); first | omega | (simp only [List.length_nil]; omega)), (by (try dsimp only); first | omega | (simp only [List.length_nil]; omega)), (by (try dsimp only) <;> (rw [q, runA_drop _ _ hw, ← we, q3, if_pos (show (-1 : Int) < 0 by omega), tr3, show r3 = i1 + 1 by omega])), (by (try dsimp only) <;> first | omega | rfl | (simp [*]; done) | (rw [nl]; simp [*]; done)), (by (try dsimp only) <;> first | omega | rfl | (simp [*]; done) | (rw [nb]; simp [*]; done))⟩ (by first | omega | (dsimp only; omega))
          · cbv
          · cbv
      · have dz_i1 := drop_end (xs := words) (i := Int.toNat i1) (by omega)
        have tz_i1 := take_end (xs := words) (i := Int.toNat i1) (by omega)
        refine hF _ _ ?_
        conv => cbv
        exact hQ (.tup [.int .i64 0, .int .i64 0, .bool false]) (Eq.trans (by first | rfl | (simp only [lb, lbI, rows_cons, rows_nil, unnilT, unnil, unnilTI, unnilI]; done) | (simp only [lb, lbI, rows_cons, rows_nil, unnilT, unnil, unnilTI, unnilI]; rfl)) (congrArg (iib) (show (0, 0, false) = outA f stock words from by rw [outA, if_pos h1, q, runA_end _ _ (by omega)])))   -- leaf 2
    · exact hQ (.tup [.int .i64 0, .int .i64 0, .bool false]) (Eq.trans (by first | rfl | (simp only [lb, lbI, rows_cons, rows_nil, unnilT, unnil, unnilTI, unnilI]; done) | (simp only [lb, lbI, rows_cons, rows_nil, unnilT, unnil, unnilTI, unnilI]; rfl)) (congrArg (iib) (show (0, 0, false) = outA f stock words from by rw [outA, h1]; rfl)))   -- leaf 3

theorem specTimesToSet_ok (f : List FSort) (stock : List Int) (words : List (List UInt8))  : OkA Try.prog 55 [.isl 2 (rows cSort f), .isl 1 (rows cInt stock), .isl 1 (rows cStr words)] (· = ib (timesA f stock words)) :=
  fn_intro envOk fieldsOk mixed Try.func55 rfl fun κ X Y L Q m hQ => by
    conv => cbv
    refine r_callB m.sX (biAsked_ok f stock words) (fun h1 => ?_) (fun h1 => ?_) <;> conv => cbv
    · have ak := askedB_spec h1
      have fw1 := (countsA_ok ak.ok).1
      have fw2 := (countsA_ok ak.ok).2
      refine r_lenR m.sX fun n1 hn1 mn1 => ?_
      conv => cbv
      refine r_eql m.sX (fun h2 => ?_) (fun h2 => ?_) <;> conv => cbv
      · exact hQ (.tup [.int .i64 0, .bool false]) (Eq.trans (by first | rfl | (simp only [lb, lbI, rows_cons, rows_nil, unnilT, unnil, unnilTI, unnilI]; done) | (simp only [lb, lbI, rows_cons, rows_nil, unnilT, unnil, unnilTI, unnilI]; rfl)) (congrArg (ib) (show (0, false) = timesA f stock words from by rw [timesA, h1, decide_eq_false (by omega)]; rfl)))   -- leaf 1
      · refine r_callF (lb 3 1 cInt) m.sX (biNeed_ok f words (by first | rfl | assumption | omega | (simp only [List.length_append, List.length_cons, List.length_nil] at *; omega)) (by first | rfl | assumption | omega | (simp only [List.length_append, List.length_cons, List.length_nil] at *; omega))) fun v hneed => ?_
        obtain ⟨need, v1⟩ := v
        conv => cbv
        have nA : need = (countsA f words).1 := (congrArg Prod.fst hneed)
        have ln1 := ak.cnt.len
        have ln2 := ak.stock.len
        rw [← nA] at ln1
        refine r_lenR m.sX fun n2 hn2 mn2 => ?_
        conv => cbv
        refine r_loopF (α := Int × Int) m 48 [1, 10, 30, 31] [⟨29, 233, 3, 1, 0⟩] (fun σ => [(1, .isl 1 (rows cInt stock)), (10, .int .i64 σ.1), (29, .osl 233 0), (30, .int .i64 n2), (31, .int .i64 σ.2)]) (fun σ => [(233, 0, .row 3 1 (rows cInt need))])
          (fun σ => (0 ≤ σ.2) ∧ (σ.2 ≤ n2) ∧ (tmG need stock 100000 = tmG (need.drop σ.2.toNat) (stock.drop σ.2.toNat) σ.1) ∧ (0 ≤ σ.1 ∧ σ.1 ≤ 100000)) (fun σ => (n2 - σ.2).toNat) (100000, 0) ?_ ?_ ?_ ?_
        · cbv
        · cbv
        · exact ⟨(by (try dsimp only); first | omega | (simp only [List.length_nil]; omega)), (by (try dsimp only); first | omega | (simp only [List.length_nil]; omega)), (by (try dsimp only) <;> (rfl)), (by (try dsimp only) <;> first | omega | rfl | (simp [*]; done))⟩
        rintro ⟨times, i1⟩ ⟨lo1, hi1, q, tb⟩ E hE F hF
        dsimp only at lo1 hi1 q tb
        conv => cbv
        refine r_lss m.sX (fun h3 => ?_) (fun h3 => ?_) <;> conv => cbv
        · refine r_oindex m.sX (by omega) (by omega) ?_
          conv => cbv
          obtain ⟨n, hn⟩ := get_ex (xs := need) (i := Int.toNat i1) (by omega)
          have mn := get_mem hn
          have dn := drop_cons hn
          have kn := take_snoc hn
          have jn : (i1 + 1).toNat = Int.toNat i1 + 1 := by omega
          have vn := nth_some hn
          refine r_oload m.sX hn (Nat.le_of_ble_eq_true rfl) ?_
          conv => cbv
          refine r_gtr m.sX (fun h4 => ?_) (fun h4 => ?_) <;> conv => cbv
          · refine r_index m.sX (by omega) (by omega) fun x1 hx1 => ?_
            conv => cbv
            have mx1 := get_mem hx1
            have dx1 := drop_cons hx1
            have kx1 := take_snoc hx1
            have jx1 : (i1 + 1).toNat = Int.toNat i1 + 1 := by omega
            have vx1 := nth_some hx1
            have xb := ak.stock.bound x1 mx1
            refine r_divf m.sX (by omega) (by omega) fun r1 hr1 br1 => ?_
            conv => cbv
            have rb := div_nonneg (a := x1) (b := n) (by omega) (by omega)
            refine r_callF (PV.int .i64) m.sX (l1Least_ok times r1) fun times_2 htimes_2 => ?_
            conv => cbv
            refine r_addf m.sX (by omega) (by omega) fun r2 hr2 => ?_
            conv => cbv
            try have tr2 : Int.toNat r2 = Int.toNat i1 + 1 := by omega
            refine hE _ (times_2, r2) ?_ ?_ ⟨(by (try dsimp only); first | omega | (simp only [List.length_nil]; omega)), (by (try dsimp only); first | omega | (simp only [List.length_nil]; omega)), (by (try dsimp only) <;> (first | rw [q, tmG_drop _ hn hx1, if_pos h4, tr2, htimes_2, hr1] | (obtain ⟨s0, hs0⟩ := get_ex (xs := stock) (i := i1.toNat) (by omega); rw [q, tmG_drop _ hn hs0, if_neg (by omega), tr2]))), (by (try dsimp only) <;> (omega))⟩ (by first | omega | (dsimp only; omega))
            · cbv
            · cbv
          · refine r_addf m.sX (by omega) (by omega) fun r3 hr3 => ?_
            conv => cbv
            try have tr3 : Int.toNat r3 = Int.toNat i1 + 1 := by omega
            refine hE _ (times, r3) ?_ ?_ ⟨(by (try dsimp only); first | omega | (simp only [List.length_nil]; omega)), (by (try dsimp only); first | omega | (simp only [List.length_nil]; omega)), (by (try dsimp only) <;> (first | rw [q, tmG_drop _ hn hx1, if_pos h4, tr3, htimes_2, hr1] | (obtain ⟨s0, hs0⟩ := get_ex (xs := stock) (i := i1.toNat) (by omega); rw [q, tmG_drop _ hn hs0, if_neg (by omega), tr3]))), (by (try dsimp only) <;> (omega))⟩ (by first | omega | (dsimp only; omega))
            · cbv
            · cbv
        · have dz_i1 := drop_end (xs := need) (i := Int.toNat i1) (by omega)
          have tz_i1 := take_end (xs := need) (i := Int.toNat i1) (by omega)
          refine hF _ _ ?_
          conv => cbv
          exact hQ (.tup [.int .i64 times, .bool true]) (Eq.trans (by first | rfl | (simp only [lb, lbI, rows_cons, rows_nil, unnilT, unnil, unnilTI, unnilI]; done) | (simp only [lb, lbI, rows_cons, rows_nil, unnilT, unnil, unnilTI, unnilI]; rfl)) (congrArg (ib) (show (times, true) = timesA f stock words from by rw [timesA, if_pos (by rw [h1, decide_eq_true (by omega)]; rfl), ← nA, q, tmG_end _ (by omega)])))   -- leaf 2
    · exact hQ (.tup [.int .i64 0, .bool false]) (Eq.trans (by first | rfl | (simp only [lb, lbI, rows_cons, rows_nil, unnilT, unnil, unnilTI, unnilI]; done) | (simp only [lb, lbI, rows_cons, rows_nil, unnilT, unnil, unnilTI, unnilI]; rfl)) (congrArg (ib) (show (0, false) = timesA f stock words from by rw [timesA, h1]; rfl)))   -- leaf 3

theorem specLeastRecast_ok (f : List FSort) (stock : List Int) (words : List (List UInt8)) (times : Int)  : OkA Try.prog 58 [.isl 2 (rows cSort f), .isl 1 (rows cInt stock), .isl 1 (rows cStr words), .int .i64 times] (· = (lb 3 1 cInt) (recastA f stock words times)) :=
  OkA.unnil 3 1 (fn_intro envOk fieldsOk mixed Try.func58 rfl fun κ X Y L Q m hQ => by
    conv => cbv
    refine r_callB m.sX (biAsked_ok f stock words) (fun h1 => ?_) (fun h1 => ?_) <;> conv => cbv
    · have ak := askedB_spec h1
      have fw1 := (countsA_ok ak.ok).1
      have fw2 := (countsA_ok ak.ok).2
      refine r_callB m.sX (l1In_ok times 0 1000) (fun h2 => ?_) (fun h2 => ?_) <;> conv => cbv
      · have tb := inB_spec h2
        refine r_callF (lb 3 1 cInt) m.sX (biNeed_ok f words (by first | rfl | assumption | omega | (simp only [List.length_append, List.length_cons, List.length_nil] at *; omega)) (by first | rfl | assumption | omega | (simp only [List.length_append, List.length_cons, List.length_nil] at *; omega))) fun v hneed => ?_
        obtain ⟨need, v1⟩ := v
        conv => cbv
        have nA : need = (countsA f words).1 := (congrArg Prod.fst hneed)
        have ln1 := ak.cnt.len
        have ln2 := ak.stock.len
        have lbb := ak.cnt.bound
        have sb := ak.stock.bound
        have fo := (okFont_sets ak.cnt.font).2
        rw [← nA] at ln1 lbb
        refine r_lenR m.sX fun n1 hn1 mn1 => ?_
        conv => cbv
        refine r_loopF (α := List Int × Int) m 55 [1, 3, 32, 33] [⟨12, 97, 3, 1, 0⟩, ⟨31, 249, 3, 1, 0⟩] (fun σ => [(1, .isl 1 (rows cInt stock)), (3, .int .i64 times), (12, .osl 97 0), (31, .osl 249 0), (32, .int .i64 n1), (33, .int .i64 σ.2)]) (fun σ => [(97, 0, .row 3 1 (rows cInt σ.1)), (249, 0, .row 3 1 (rows cInt need))])
          (fun σ => (0 ≤ σ.2) ∧ (σ.2 ≤ n1) ∧ (σ.1 = rcG times (need.take σ.2.toNat) (stock.take σ.2.toNat)) ∧ ((σ.1.length : Int) = σ.2)) (fun σ => (n1 - σ.2).toNat) ([], 0) ?_ ?_ ?_ ?_
        · cbv
        · (try dsimp only); simp only [rows_cons, rows_nil]; cbv
        · exact ⟨(by (try dsimp only); first | omega | (simp only [List.length_nil]; omega)), (by (try dsimp only); first | omega | (simp only [List.length_nil]; omega)), (by (try dsimp only) <;> (rfl)), (by (try dsimp only) <;> first | omega | rfl | (simp [*]; done))⟩
        rintro ⟨out, i1⟩ ⟨lo1, hi1, q, ll⟩ E hE F hF
        dsimp only at lo1 hi1 q ll
        conv => cbv
        refine r_lss m.sX (fun h3 => ?_) (fun h3 => ?_) <;> conv => cbv
        · refine r_oindex m.sX (by omega) (by omega) ?_
          conv => cbv
          obtain ⟨n, hn⟩ := get_ex (xs := need) (i := Int.toNat i1) (by omega)
          have mn := get_mem hn
          have dn := drop_cons hn
          have kn := take_snoc hn
          have jn : (i1 + 1).toNat = Int.toNat i1 + 1 := by omega
          have vn := nth_some hn
          have bn := lbb n mn
          have mb := mul_bound (a := times) (A := 1000) (b := n) (B := 640) (by omega) (by omega) (by omega) (by omega)
          refine r_oload m.sX hn (Nat.le_of_ble_eq_true rfl) ?_
          conv => cbv
          refine r_mulf m.sX (by first | omega | (subst_vars; omega)) (by first | omega | (subst_vars; omega)) fun r1 hr1 => ?_
          conv => cbv
          refine r_index m.sX (by omega) (by omega) fun x1 hx1 => ?_
          conv => cbv
          have mx1 := get_mem hx1
          have dx1 := drop_cons hx1
          have kx1 := take_snoc hx1
          have jx1 : (i1 + 1).toNat = Int.toNat i1 + 1 := by omega
          have vx1 := nth_some hx1
          have bx := sb x1 mx1
          refine r_subf m.sX (by omega) (by omega) fun r2 hr2 => ?_
          conv => cbv
          refine r_callF (PV.int .i64) m.sX (l1Most_ok 0 r2) fun r3 hr3 => ?_
          conv => cbv
          refine r_append1 (r3) m.sX rfl (by first | omega | (dsimp only; omega)) (by first | omega | (dsimp only; omega)) fun out_2 hout_2 => ?_
          conv => cbv
          have lout_2 : (out_2.length : Int) = out.length + 1 := by rw [hout_2]; first | done | (simp; done) | (simp; omega)
          refine r_addf m.sX (by omega) (by omega) fun r4 hr4 => ?_
          conv => cbv
          try have tr4 : Int.toNat r4 = Int.toNat i1 + 1 := by omega
          refine hE _ (out_2, r4) ?_ ?_ ⟨(by (try dsimp only); first | omega | (simp only [List.length_nil]; omega)), (by (try dsimp only); first | omega | (simp only [List.length_nil]; omega)), (by (try dsimp only) <;> (rw [hout_2, q, tr4, rcG_take hn hx1, hr3, hr2, hr1, Int.mul_comm times n])), (by (try dsimp only) <;> (omega))⟩ (by first | omega | (dsimp only; omega))
          · cbv
          · cbv
        · have qe : out = rcG times need stock := by rw [q, List.take_of_length_le (by omega), List.take_of_length_le (by omega)]
          have dz_i1 := drop_end (xs := need) (i := Int.toNat i1) (by omega)
          have tz_i1 := take_end (xs := need) (i := Int.toNat i1) (by omega)
          refine hF _ _ ?_
          conv => cbv
          refine .inl (r_callBO m.sX ((l1All_ok out 0 100000).ok flat_bool) (fun h4 => ?_) (fun h4 => ?_)) <;> conv => cbv
          · exact hQ (.tup [.fr 3 1 (rows cInt out), .bool true]) (Eq.trans (by first | rfl | (simp only [lb, lbI, rows_cons, rows_nil, unnilT, unnil, unnilTI, unnilI]; done) | (simp only [lb, lbI, rows_cons, rows_nil, unnilT, unnil, unnilTI, unnilI]; rfl)) (congrArg ((lb 3 1 cInt)) (show (out, true) = recastA f stock words times from by rw [recastA, h1, h2, ← nA, ← qe, h4]; rfl)))   -- leaf 1
          · exact hQ (.tup [.nil, .bool false]) (Eq.trans (by first | rfl | (simp only [lb, lbI, rows_cons, rows_nil, unnilT, unnil, unnilTI, unnilI]; done) | (simp only [lb, lbI, rows_cons, rows_nil, unnilT, unnil, unnilTI, unnilI]; rfl)) (congrArg ((lb 3 1 cInt)) (show ([], false) = recastA f stock words times from by rw [recastA, h1, h2, ← nA, ← qe, h4]; rfl)))   -- leaf 2
      · exact hQ (.tup [.nil, .bool false]) (Eq.trans (by first | rfl | (simp only [lb, lbI, rows_cons, rows_nil, unnilT, unnil, unnilTI, unnilI]; done) | (simp only [lb, lbI, rows_cons, rows_nil, unnilT, unnil, unnilTI, unnilI]; rfl)) (congrArg ((lb 3 1 cInt)) (show ([], false) = recastA f stock words times from by rw [recastA, h1, h2]; rfl)))   -- leaf 3
    · exact hQ (.tup [.nil, .bool false]) (Eq.trans (by first | rfl | (simp only [lb, lbI, rows_cons, rows_nil, unnilT, unnil, unnilTI, unnilI]; done) | (simp only [lb, lbI, rows_cons, rows_nil, unnilT, unnil, unnilTI, unnilI]; rfl)) (congrArg ((lb 3 1 cInt)) (show ([], false) = recastA f stock words times from by rw [recastA, h1]; rfl))))   -- leaf 4

end Go.Proofs.Ytkcbhjnkpbeigaa.Ai
