/- Contracts of the functions on setting words and counting sorts. -/
import Derived.Test.YtmlojdpfpccgoaaBillLaw
import Derived.Test.YtmlojdpfpccgoaaInk
namespace Go.Proofs.Ytmlojdpfpccgoaa.Ai
open Go Go.Proofs
set_option linter.unusedSimpArgs false
set_option maxRecDepth 10000
set_option maxHeartbeats 4000000
set_option linter.unusedVariables false

theorem liteHasPrefix_ok (s_ : List UInt8) (prefix_ : List UInt8)  : OkA Try.prog 161 [.str s_, .str prefix_] (· = .bool (preB s_ prefix_)) :=
  fn_intro envOk fieldsOk mixed Try.func161 rfl fun κ X Y L Q m hQ => by
    conv => cbv
    refine r_slen (u := s_) m.sX fun n1 hn1 mn1 => ?_   -- n1 = length of s_
    conv => cbv
    refine r_slen (u := prefix_) m.sX fun n2 hn2 mn2 => ?_   -- n2 = length of prefix_
    conv => cbv
    refine r_geq m.sX (fun h1 => ?_) (fun h1 => ?_) <;> conv => cbv
    · refine r_slen (u := prefix_) m.sX fun n3 hn3 mn3 => ?_   -- n3 = length of prefix_
      conv => cbv
      refine r_sslice (u := s_) (i := 0) (j := n3) m.sX (by omega) (by omega) (by first | omega | (simp only [List.length_cons, List.length_nil]; omega) | (simp; omega)) fun s1 hs1 => ?_   -- s1 = s_[None:n3]
      have ls1 : (s1.length : Int) = n3 - 0 := by rw [hs1]; first | done | (simp; done) | (simp; omega)
      conv => cbv
      refine r_seql m.sX (fun h2 => ?_) (fun h2 => ?_) <;> conv => cbv
      · exact hQ _ (congrArg PV.bool (by rw [preB, decide_eq_true (by omega), show s_.take prefix_.length = prefix_ by rw [← h2, hs1, hn3]; simp]; simp))   -- leaf 1
      · exact hQ _ (congrArg PV.bool (by rw [preB, decide_eq_true (by omega), decide_eq_false (fun e => h2 (by rw [hs1, hn3, ← e]; simp))]; rfl))   -- leaf 2
    · exact hQ _ (congrArg PV.bool (by rw [preB, decide_eq_false (by omega)]; rfl))   -- leaf 3

theorem HasPrefix_ok (s_ : List UInt8) (prefix_ : List UInt8)  : OkA Try.prog 158 [.str s_, .str prefix_] (· = .bool (preB s_ prefix_)) :=
  fn_intro envOk fieldsOk mixed Try.func158 rfl fun κ X Y L Q m hQ => by
    conv => cbv
    refine r_callB m.sX (liteHasPrefix_ok s_ prefix_) (fun h1 => ?_) (fun h1 => ?_) <;> conv => cbv
    · exact hQ _ (congrArg PV.bool (by exact h1.symm))   -- leaf 1
    · exact hQ _ (congrArg PV.bool (by exact h1.symm))   -- leaf 2

theorem isWord_ok (s_ : List UInt8)  : OkA Try.prog 108 [.str s_] (· = .bool (okWord s_)) :=
  fn_intro envOk fieldsOk mixed Try.func108 rfl fun κ X Y L Q m hQ => by
    conv => cbv
    refine r_callB m.sX (areLetters_ok s_ 1 16) (fun h1 => ?_) (fun h1 => ?_) <;> conv => cbv
    · exact hQ _ (congrArg PV.bool (by exact h1.symm))   -- leaf 1
    · exact hQ _ (congrArg PV.bool (by exact h1.symm))   -- leaf 2

theorem areWords_ok (l : List (List UInt8))  : OkA Try.prog 116 [.isl 1 (rows cStr l)] (· = .bool (okWords l)) :=
  fn_intro envOk fieldsOk mixed Try.func116 rfl fun κ X Y L Q m hQ => by
    conv => cbv
    refine r_lenR m.sX fun n1 hn1 mn1 => ?_
    conv => cbv
    refine r_loopF (α := Int) m 18 [0, 5, 6, 7] [] (fun σ => [(0, .isl 1 (rows cStr l)), (5, .isl 1 (rows cStr l)), (6, .int .i64 n1), (7, .int .i64 σ)]) (fun σ => [])
      (fun σ => (0 ≤ σ) ∧ (σ ≤ n1) ∧ (l.all okWord = (l.drop σ.toNat).all okWord)) (fun σ => (n1 - σ).toNat) 0 ?_ ?_ ?_ ?_
    · cbv
    · cbv
    · exact ⟨(by (try dsimp only); first | omega | (simp only [List.length_nil]; omega) | (simp only [List.length_cons, List.length_nil]; omega)), (by (try dsimp only); first | omega | (simp only [List.length_nil]; omega) | (simp only [List.length_cons, List.length_nil]; omega)), (by (try dsimp only) <;> (rfl))⟩
    rintro i1 ⟨lo1, hi1, q⟩ E hE F hF
    conv => cbv
    refine r_lss m.sX (fun h1 => ?_) (fun h1 => ?_) <;> conv => cbv
    · refine r_index m.sX (by omega) (by omega) fun w hw => ?_
      conv => cbv
      have mw := get_mem hw
      have dw := drop_cons hw
      have kw := take_snoc hw
      have jw : (i1 + 1).toNat = Int.toNat i1 + 1 := by omega
      refine r_callB m.sX (isWord_ok w) (fun h2 => ?_) (fun h2 => ?_) <;> conv => cbv
      · refine r_addf m.sX (by omega) (by omega) fun r1 hr1 => ?_
        conv => cbv
        try have tr1 : Int.toNat r1 = Int.toNat i1 + 1 := by omega
        refine hE _ r1 ?_ ?_ ⟨(by (try dsimp only); first | omega | (simp only [List.length_nil]; omega) | (simp only [List.length_cons, List.length_nil]; omega)), (by (try dsimp only); first | omega | (simp only [List.length_nil]; omega) | (simp only [List.length_cons, List.length_nil]; omega)), (by (try dsimp only) <;> (rw [q, okWords_drop hw, h2, Bool.true_and, tr1]))⟩ (by first | omega | (dsimp only; omega))
        · cbv
        · cbv
      · refine hF _ _ ?_
        conv => cbv
        exact hQ _ (congrArg PV.bool (by rw [okWords, q, okWords_drop hw, h2]; rfl))   -- leaf 1
    · have dz_i1 := drop_end (xs := l) (i := Int.toNat i1) (by omega)
      have tz_i1 := take_end (xs := l) (i := Int.toNat i1) (by omega)
      refine hF _ _ ?_
      conv => cbv
      refine r_lenR m.sX fun n2 hn2 mn2 => ?_
      conv => cbv
      refine r_leq m.sX (fun h3 => ?_) (fun h3 => ?_) <;> conv => cbv
      · exact hQ _ (congrArg PV.bool (by rw [okWords, q, dz_i1, decide_eq_true (by omega)]; rfl))   -- leaf 2
      · exact hQ _ (congrArg PV.bool (by rw [okWords, q, dz_i1, decide_eq_false (by omega)]; rfl))   -- leaf 3

theorem sortsOf_ok (f : List FSort) (word : List UInt8) (hc : CodesOk f) (hw : word.length ≤ 16) : OkA Try.prog 147 [.isl 2 (rows cSort f), .str word] (· = (lb 3 1 cInt) (setW f word [])) :=
  OkA.unnil 3 1 (fn_intro envOk fieldsOk mixed Try.func147 rfl fun κ X Y L Q m hQ => by
    conv => cbv
    refine r_loopF (α := List UInt8 × List Int) m 59 [0, 1] [⟨6, 49, 3, 1, 0⟩] (fun σ => [(0, .isl 2 (rows cSort f)), (1, .str σ.1), (6, .osl 49 0)]) (fun σ => [(49, 0, .row 3 1 (rows cInt σ.2))])
      (fun σ => (setW f word [] = setW f σ.1 σ.2) ∧ ((σ.2.length : Int) + (σ.1.length : Int) ≤ 16)) (fun σ => σ.1.length) (word, []) ?_ ?_ ?_ ?_
    · cbv
    · (try dsimp only); (try simp only [rows_cons, rows_nil]); cbv
    · exact ⟨(by (try dsimp only) <;> (rfl)), (by (try dsimp only) <;> (simp; omega))⟩
    rintro ⟨word_2, list⟩ ⟨q, ln⟩ E hE F hF
    dsimp only at q ln
    conv => cbv
    refine r_slen (u := word_2) m.sX fun n1 hn1 mn1 => ?_   -- n1 = length of word_2
    conv => cbv
    refine r_gtr m.sX (fun h1 => ?_) (fun h1 => ?_) <;> conv => cbv
    · refine r_lenR m.sX fun n2 hn2 mn2 => ?_
      conv => cbv
      refine r_loopF (α := Int × Int) m 59 [0, 1, 7, 14, 15, 16] [⟨6, 49, 3, 1, 0⟩] (fun σ => [(0, .isl 2 (rows cSort f)), (1, .str word_2), (6, .osl 49 0), (7, .int .i64 σ.1), (14, .isl 2 (rows cSort f)), (15, .int .i64 n2), (16, .int .i64 σ.2)]) (fun σ => [(49, 0, .row 3 1 (rows cInt list))])
        (fun σ => (0 ≤ σ.2) ∧ (σ.2 ≤ n2) ∧ (bestF f word_2 = bestG f word_2 (f.drop σ.2.toNat) σ.2 σ.1) ∧ (-1 ≤ σ.1 ∧ σ.1 < n2)) (fun σ => (n2 - σ.2).toNat) (-1, 0) ?_ ?_ ?_ ?_
      · cbv
      · cbv
      · exact ⟨(by (try dsimp only); first | omega | (simp only [List.length_nil]; omega) | (simp only [List.length_cons, List.length_nil]; omega)), (by (try dsimp only); first | omega | (simp only [List.length_nil]; omega) | (simp only [List.length_cons, List.length_nil]; omega)), (by (try dsimp only) <;> (rfl)), (by (try dsimp only) <;> first | omega | rfl | (simp [*]; done))⟩
      rintro ⟨best, i1⟩ ⟨lo2, hi2, q2, bb⟩ E2 hE2 F2 hF2
      dsimp only at lo2 hi2 q2 bb
      conv => cbv
      refine r_lss m.sX (fun h2 => ?_) (fun h2 => ?_) <;> conv => cbv
      · refine r_index m.sX (by omega) (by omega) fun v hs_A => ?_
        obtain ⟨s_A, s_B⟩ := v
        conv => cbv
        have hs_ := hs_A
        have ms_ := get_mem hs_
        have ds_ := drop_cons hs_
        have ks_ := take_snoc hs_
        have js_ : (i1 + 1).toNat = Int.toNat i1 + 1 := by omega
        have cb := hc _ ms_
        try dsimp only at cb
        refine r_draw m (by kernel_rfl) ?_
        conv => cbv
        refine r_callBS m.sY (HasPrefix_ok word_2 s_A) (fun h3 => ?_) (fun h3 => ?_) <;> conv => cbv
        · have pv : preB word_2 s_A = true := h3
          refine r_lss m.sY (fun h4 => ?_) (fun h4 => ?_) <;> conv => cbv
          · have c1 : preB word_2 s_A = true ∧ (best < 0 ∨ codeL f best < (s_A.length : Int)) := ⟨pv, .inl h4⟩
            refine r_addf m.sX (by omega) (by omega) fun r1 hr1 => ?_
            conv => cbv
            try have tr1 : Int.toNat r1 = Int.toNat i1 + 1 := by omega
            refine hE2 _ (i1, r1) ?_ ?_ ⟨(by (try dsimp only); first | omega | (simp only [List.length_nil]; omega) | (simp only [List.length_cons, List.length_nil]; omega)), (by (try dsimp only); first | omega | (simp only [List.length_nil]; omega) | (simp only [List.length_cons, List.length_nil]; omega)), (by (try dsimp only) <;> (first | rw [q2, bestG_drop _ _ _ hs_, if_pos c1, tr1, show r1 = i1 + 1 by omega] | rw [q2, bestG_drop _ _ _ hs_, if_neg c1, tr1, show r1 = i1 + 1 by omega])), (by (try dsimp only) <;> (omega))⟩ (by first | omega | (dsimp only; omega))
            · cbv
            · cbv
          · refine r_slenS (u := s_A) m.sY (by omega) fun n3 hn3 => ?_   -- n3 = length of s_A
            conv => cbv
            refine r_index m.sY (by omega) (by omega) fun v hx1A => ?_
            obtain ⟨x1A, x1B⟩ := v
            conv => cbv
            have hx1 := hx1A
            have mx1 := get_mem hx1
            have cb1 := hc _ mx1
            try dsimp only at cb1
            have cl : codeL f best = x1A.length := codeL_some hx1
            refine r_slenS (u := x1A) m.sY (by omega) fun n4 hn4 => ?_   -- n4 = length of x1A
            conv => cbv
            refine r_gtr m.sY (fun h5 => ?_) (fun h5 => ?_) <;> conv => cbv
            · have c1 : preB word_2 s_A = true ∧ (best < 0 ∨ codeL f best < (s_A.length : Int)) := ⟨pv, .inr (by omega)⟩
              refine r_addf m.sX (by omega) (by omega) fun r2 hr2 => ?_
              conv => cbv
              try have tr2 : Int.toNat r2 = Int.toNat i1 + 1 := by omega
              refine hE2 _ (i1, r2) ?_ ?_ ⟨(by (try dsimp only); first | omega | (simp only [List.length_nil]; omega) | (simp only [List.length_cons, List.length_nil]; omega)), (by (try dsimp only); first | omega | (simp only [List.length_nil]; omega) | (simp only [List.length_cons, List.length_nil]; omega)), (by (try dsimp only) <;> (first | rw [q2, bestG_drop _ _ _ hs_, if_pos c1, tr2, show r2 = i1 + 1 by omega] | rw [q2, bestG_drop _ _ _ hs_, if_neg c1, tr2, show r2 = i1 + 1 by omega])), (by (try dsimp only) <;> (omega))⟩ (by first | omega | (dsimp only; omega))
              · cbv
              · cbv
            · have c1 : ¬ (preB word_2 s_A = true ∧ (best < 0 ∨ codeL f best < (s_A.length : Int))) := fun e => by rcases e.2 with e | e <;> omega
              refine r_addf m.sX (by omega) (by omega) fun r3 hr3 => ?_
              conv => cbv
              try have tr3 : Int.toNat r3 = Int.toNat i1 + 1 := by omega
              refine hE2 _ (best, r3) ?_ ?_ ⟨(by (try dsimp only); first | omega | (simp only [List.length_nil]; omega) | (simp only [List.length_cons, List.length_nil]; omega)), (by (try dsimp only); first | omega | (simp only [List.length_nil]; omega) | (simp only [List.length_cons, List.length_nil]; omega)), (by (try dsimp only) <;> (first | rw [q2, bestG_drop _ _ _ hs_, if_pos c1, tr3, show r3 = i1 + 1 by omega] | rw [q2, bestG_drop _ _ _ hs_, if_neg c1, tr3, show r3 = i1 + 1 by omega])), (by (try dsimp only) <;> (omega))⟩ (by first | omega | (dsimp only; omega))
              · cbv
              · cbv
        · have c1 : ¬ (preB word_2 s_A = true ∧ (best < 0 ∨ codeL f best < (s_A.length : Int))) := fun e => by rw [h3] at e; cases e.1
          refine r_addf m.sX (by omega) (by omega) fun r4 hr4 => ?_
          conv => cbv
          try have tr4 : Int.toNat r4 = Int.toNat i1 + 1 := by omega
          refine hE2 _ (best, r4) ?_ ?_ ⟨(by (try dsimp only); first | omega | (simp only [List.length_nil]; omega) | (simp only [List.length_cons, List.length_nil]; omega)), (by (try dsimp only); first | omega | (simp only [List.length_nil]; omega) | (simp only [List.length_cons, List.length_nil]; omega)), (by (try dsimp only) <;> (first | rw [q2, bestG_drop _ _ _ hs_, if_pos c1, tr4, show r4 = i1 + 1 by omega] | rw [q2, bestG_drop _ _ _ hs_, if_neg c1, tr4, show r4 = i1 + 1 by omega])), (by (try dsimp only) <;> (omega))⟩ (by first | omega | (dsimp only; omega))
          · cbv
          · cbv
      · have dz_i1 := drop_end (xs := f) (i := Int.toNat i1) (by omega)
        have tz_i1 := take_end (xs := f) (i := Int.toNat i1) (by omega)
        refine hF2 _ _ ?_
        conv => cbv
        refine r_lss m.sX (fun h6 => ?_) (fun h6 => ?_) <;> conv => cbv
        · have bq : bestF f word_2 = best := by rw [q2, dz_i1, bestG]
          refine hF _ _ ?_
          conv => cbv
          exact hQ (.tup [.fr 3 1 [], .bool false]) (Eq.trans (by first | rfl | (simp only [lb, lbI, rows_cons, rows_nil, unnilT, unnil, unnilTI, unnilI]; done) | (simp only [lb, lbI, rows_cons, rows_nil, unnilT, unnil, unnilTI, unnilI]; rfl)) (congrArg ((lb 3 1 cInt)) (show ([], false) = setW f word [] from by rw [q, setW_none _ (by omega) (by omega)])))   -- leaf 1
        · have bq : bestF f word_2 = best := by rw [q2, dz_i1, bestG]
          have bp := best_pos hc (w := word_2) (by omega)
          try dsimp only at bp
          rw [bq] at bp
          refine r_append1 (best) m.sX rfl (by first | omega | (dsimp only; omega)) (by first | omega | (dsimp only; omega)) fun list_2 hlist_2 => ?_
          conv => cbv
          have llist_2 : (list_2.length : Int) = list.length + 1 := by rw [hlist_2]; first | done | (simp; done) | (simp; omega)
          refine r_index m.sX (by omega) (by omega) fun v hx2A => ?_
          obtain ⟨x2A, x2B⟩ := v
          conv => cbv
          have hx2 := hx2A
          have mx2 := get_mem hx2
          have c2 : codeL f best = x2A.length := codeL_some hx2
          refine r_slen (u := x2A) m.sX fun n5 hn5 mn5 => ?_   -- n5 = length of x2A
          conv => cbv
          refine r_sslice' (u := word_2) (i := n5) m.sX (by omega) (by first | omega | (simp only [List.length_cons, List.length_nil]; omega) | (simp; omega)) fun word_3 hword_3 => ?_   -- word_3 = word_2[n5:]
          have lword_3 : (word_3.length : Int) = word_2.length - n5 := by rw [hword_3]; first | done | (simp; done) | (simp; omega)
          conv => cbv
          refine hE _ (word_3, list_2) ?_ ?_ ⟨(by (try dsimp only) <;> (rw [q, setW_step hc _ (by omega) (by omega), bq, c2, hword_3, hn5, hlist_2]; first | done | simp)), (by (try dsimp only) <;> (omega))⟩ (by first | omega | (dsimp only; omega))
          · cbv
          · cbv
    · refine hF _ _ ?_
      conv => cbv
      exact hQ (.tup [.fr 3 1 (rows cInt list), .bool true]) (Eq.trans (by first | rfl | (simp only [lb, lbI, rows_cons, rows_nil, unnilT, unnil, unnilTI, unnilI]; done) | (simp only [lb, lbI, rows_cons, rows_nil, unnilT, unnil, unnilTI, unnilI]; rfl)) (congrArg ((lb 3 1 cInt)) (show (list, true) = setW f word [] from by rw [q, setW_nil (by omega)]))))   -- leaf 2

-- lacks impl.countSorts
-- lacks impl.CountSorts
-- lacks impl.areCounts
-- lacks impl.needWith
-- lacks impl.IsEnough
-- lacks impl.FirstRunOut
-- lacks impl.TimesToSet
-- lacks impl.SortsOfWord
-- lacks impl.LeastRecast
theorem tyWord_ok (s_ : List UInt8)  : OkA Try.prog 112 [.str s_] (· = .bool (okWord s_)) :=
  fn_intro envOk fieldsOk mixed Try.func112 rfl fun κ X Y L Q m hQ => by
    conv => cbv
    refine r_callB m.sX (tyLetters_ok s_ 16) (fun h1 => ?_) (fun h1 => ?_) <;> conv => cbv
    · exact hQ _ (congrArg PV.bool (by exact h1.symm))   -- leaf 1
    · exact hQ _ (congrArg PV.bool (by exact h1.symm))   -- leaf 2

theorem tyWords_ok (words : List (List UInt8))  : OkA Try.prog 125 [.isl 1 (rows cStr words)] (· = .bool (okWords words)) :=
  fn_intro envOk fieldsOk mixed Try.func125 rfl fun κ X Y L Q m hQ => by
    conv => cbv
    refine r_lenR m.sX fun n1 hn1 mn1 => ?_
    conv => cbv
    refine r_loopF (α := Int) m 18 [0, 5, 6, 7] [] (fun σ => [(0, .isl 1 (rows cStr words)), (5, .isl 1 (rows cStr words)), (6, .int .i64 n1), (7, .int .i64 σ)]) (fun σ => [])
      (fun σ => (0 ≤ σ) ∧ (σ ≤ n1) ∧ (words.all okWord = (words.drop σ.toNat).all okWord)) (fun σ => (n1 - σ).toNat) 0 ?_ ?_ ?_ ?_
    · cbv
    · cbv
    · exact ⟨(by (try dsimp only); first | omega | (simp only [List.length_nil]; omega) | (simp only [List.length_cons, List.length_nil]; omega)), (by (try dsimp only); first | omega | (simp only [List.length_nil]; omega) | (simp only [List.length_cons, List.length_nil]; omega)), (by (try dsimp only) <;> (rfl))⟩
    rintro i1 ⟨lo1, hi1, q⟩ E hE F hF
    conv => cbv
    refine r_lss m.sX (fun h1 => ?_) (fun h1 => ?_) <;> conv => cbv
    · refine r_index m.sX (by omega) (by omega) fun w hw => ?_
      conv => cbv
      have mw := get_mem hw
      have dw := drop_cons hw
      have kw := take_snoc hw
      have jw : (i1 + 1).toNat = Int.toNat i1 + 1 := by omega
      refine r_callB m.sX (tyWord_ok w) (fun h2 => ?_) (fun h2 => ?_) <;> conv => cbv
      · refine r_addf m.sX (by omega) (by omega) fun r1 hr1 => ?_
        conv => cbv
        try have tr1 : Int.toNat r1 = Int.toNat i1 + 1 := by omega
        refine hE _ r1 ?_ ?_ ⟨(by (try dsimp only); first | omega | (simp only [List.length_nil]; omega) | (simp only [List.length_cons, List.length_nil]; omega)), (by (try dsimp only); first | omega | (simp only [List.length_nil]; omega) | (simp only [List.length_cons, List.length_nil]; omega)), (by (try dsimp only) <;> (rw [q, okWords_drop hw, h2, Bool.true_and, tr1]))⟩ (by first | omega | (dsimp only; omega))
        · cbv
        · cbv
      · refine hF _ _ ?_
        conv => cbv
        exact hQ _ (congrArg PV.bool (by rw [okWords, q, okWords_drop hw, h2]; rfl))   -- leaf 1
    · have dz_i1 := drop_end (xs := words) (i := Int.toNat i1) (by omega)
      have tz_i1 := take_end (xs := words) (i := Int.toNat i1) (by omega)
      refine hF _ _ ?_
      conv => cbv
      refine r_lenR m.sX fun n2 hn2 mn2 => ?_
      conv => cbv
      refine r_leq m.sX (fun h3 => ?_) (fun h3 => ?_) <;> conv => cbv
      · exact hQ _ (congrArg PV.bool (by rw [okWords, q, dz_i1, decide_eq_true (by omega)]; rfl))   -- leaf 2
      · exact hQ _ (congrArg PV.bool (by rw [okWords, q, dz_i1, decide_eq_false (by omega)]; rfl))   -- leaf 3

theorem tySet_ok (f : List FSort) (word : List UInt8) (hc : CodesOk f) (hw : word.length ≤ 16) : OkA Try.prog 152 [.isl 2 (rows cSort f), .str word] (· = (lb 3 1 cInt) (setW f word [])) :=
  OkA.unnil 3 1 (fn_intro envOk fieldsOk mixed Try.func152 rfl fun κ X Y L Q m hQ => by
    conv => cbv
    refine r_loopF (α := List Int × Int) m 50 [0, 1, 7] [⟨6, 49, 3, 1, 0⟩] (fun σ => [(0, .isl 2 (rows cSort f)), (1, .str word), (6, .osl 49 0), (7, .int .i64 σ.2)]) (fun σ => [(49, 0, .row 3 1 (rows cInt σ.1))])
      (fun σ => (0 ≤ σ.2) ∧ (σ.2 ≤ (word.length : Int)) ∧ (setW f word [] = setW f (word.drop σ.2.toNat) σ.1) ∧ ((σ.1.length : Int) ≤ σ.2)) (fun σ => ((word.length : Int) - σ.2).toNat) ([], 0) ?_ ?_ ?_ ?_
    · cbv
    · (try dsimp only); (try simp only [rows_cons, rows_nil]); cbv
    · exact ⟨(by (try dsimp only); first | omega | (simp only [List.length_nil]; omega) | (simp only [List.length_cons, List.length_nil]; omega)), (by (try dsimp only); first | omega | (simp only [List.length_nil]; omega) | (simp only [List.length_cons, List.length_nil]; omega)), (by (try dsimp only) <;> (rfl)), (by (try dsimp only) <;> first | omega | rfl | (simp [*]; done))⟩
    rintro ⟨out, at_⟩ ⟨lo1, hi1, q, ln⟩ E hE F hF
    dsimp only at lo1 hi1 q ln
    conv => cbv
    refine r_slen (u := word) m.sX fun n1 hn1 mn1 => ?_   -- n1 = length of word
    conv => cbv
    refine r_lss m.sX (fun h1 => ?_) (fun h1 => ?_) <;> conv => cbv
    · have wd : (word.drop at_.toNat).length = (n1 - at_).toNat := by rw [List.length_drop]; omega
      refine r_slen (u := word) m.sX fun n2 hn2 mn2 => ?_   -- n2 = length of word
      conv => cbv
      refine r_subf m.sX (by omega) (by omega) fun r1 hr1 => ?_
      conv => cbv
      refine r_callF (PV.int .i64) m.sX (l1Least_ok 3 r1) fun n hn => ?_
      conv => cbv
      refine r_loopF (α := Int × Int) m 50 [0, 1, 7, 8, 9] [⟨6, 49, 3, 1, 0⟩] (fun σ => [(0, .isl 2 (rows cSort f)), (1, .str word), (6, .osl 49 0), (7, .int .i64 at_), (8, .int .i64 σ.1), (9, .int .i64 σ.2)]) (fun σ => [(49, 0, .row 3 1 (rows cInt out))])
        (fun σ => (bestF f (word.drop at_.toNat) = if σ.1 < 0 then tryN f (word.drop at_.toNat) σ.2.toNat else σ.1) ∧ (-1 ≤ σ.1 ∧ σ.1 < f.length) ∧ (0 ≤ σ.2 ∧ σ.2 ≤ r1)) (fun σ => σ.2.toNat) (-1, n) ?_ ?_ ?_ ?_
      · cbv
      · cbv
      · exact ⟨(by (try dsimp only) <;> (rw [if_pos (show (-1 : Int) < 0 by omega), ← tryN_best hc, wd, show n.toNat = min 3 (n1 - at_).toNat by omega])), (by (try dsimp only) <;> first | omega | rfl | (simp [*]; done)), (by (try dsimp only) <;> first | omega | rfl | (simp [*]; done))⟩
      rintro ⟨best, n_2⟩ ⟨q2, bb, nb⟩ E2 hE2 F2 hF2
      dsimp only at q2 bb nb
      conv => cbv
      refine r_gtr m.sX (fun h2 => ?_) (fun h2 => ?_) <;> conv => cbv
      · refine r_lss m.sX (fun h3 => ?_) (fun h3 => ?_) <;> conv => cbv
        · refine r_addf m.sX (by omega) (by omega) fun r2 hr2 => ?_
          conv => cbv
          refine r_sslice (u := word) (i := at_) (j := r2) m.sX (by omega) (by omega) (by first | omega | (simp only [List.length_cons, List.length_nil]; omega) | (simp; omega)) fun s1 hs1 => ?_   -- s1 = word[at_:r2]
          have ls1 : (s1.length : Int) = r2 - at_ := by rw [hs1]; first | done | (simp; done) | (simp; omega)
          conv => cbv
          refine r_callF (PV.int .i64) m.sX (tyFind_ok f s1) fun best_2 hbest_2 => ?_
          conv => cbv
          have fi := idxF_in s1 f
          rw [← hbest_2] at fi
          have s1e : s1 = (word.drop at_.toNat).take n_2.toNat := by rw [hs1, List.drop_take]; congr 1; omega
          refine r_subf m.sX (by omega) (by omega) fun n_3 hn_3 => ?_
          conv => cbv
          have st : tryN f (word.drop at_.toNat) n_2.toNat = if 0 ≤ best_2 then best_2 else tryN f (word.drop at_.toNat) n_3.toNat := by rw [show n_2.toNat = n_3.toNat + 1 by omega, tryN, ← show n_2.toNat = n_3.toNat + 1 by omega, ← s1e, ← hbest_2]
          refine hE2 _ (best_2, n_3) ?_ ?_ ⟨(by (try dsimp only) <;> (rw [q2, if_pos h3, st]; by_cases e : best_2 < 0; rw [if_neg (by omega), if_pos e]; rw [if_pos (by omega), if_neg e])), (by (try dsimp only) <;> (omega)), (by (try dsimp only) <;> (omega))⟩ (by first | omega | (dsimp only; omega))
          · cbv
          · cbv
        · have bq : bestF f (word.drop at_.toNat) = best := by rw [q2, if_neg (by omega)]
          refine hF2 _ _ ?_
          conv => cbv
          refine r_lss m.sX (fun h4 => ?_) (fun h4 => ?_) <;> conv => cbv
          · refine hF _ _ ?_
            conv => cbv
            exact hQ (.tup [.nil, .bool false]) (Eq.trans (by first | rfl | (simp only [lb, lbI, rows_cons, rows_nil, unnilT, unnil, unnilTI, unnilI]; done) | (simp only [lb, lbI, rows_cons, rows_nil, unnilT, unnil, unnilTI, unnilI]; rfl)) (congrArg ((lb 3 1 cInt)) (show ([], false) = setW f word [] from by rw [q, setW_none _ (by omega) (by omega)])))   -- leaf 1
          · have bp := best_pos hc (w := word.drop at_.toNat) (by omega)
            rw [bq] at bp
            refine r_append1 (best) m.sX rfl (by first | omega | (dsimp only; omega)) (by first | omega | (dsimp only; omega)) fun out_2 hout_2 => ?_
            conv => cbv
            have lout_2 : (out_2.length : Int) = out.length + 1 := by rw [hout_2]; first | done | (simp; done) | (simp; omega)
            refine r_index m.sX (by omega) (by omega) fun v hx1A => ?_
            obtain ⟨x1A, x1B⟩ := v
            conv => cbv
            have hx1 := hx1A
            have mx1 := get_mem hx1
            have cb1 := hc _ mx1
            try dsimp only at cb1
            have c1 : codeL f best = x1A.length := codeL_some hx1
            refine r_slen (u := x1A) m.sX fun n3 hn3 mn3 => ?_   -- n3 = length of x1A
            conv => cbv
            refine r_addf m.sX (by omega) (by omega) fun at__2 hat__2 => ?_
            conv => cbv
            try have tat__2 : Int.toNat at__2 = Int.toNat at_ + 1 := by omega
            refine hE _ (out_2, at__2) ?_ ?_ ⟨(by (try dsimp only); first | omega | (simp only [List.length_nil]; omega) | (simp only [List.length_cons, List.length_nil]; omega)), (by (try dsimp only); first | omega | (simp only [List.length_nil]; omega) | (simp only [List.length_cons, List.length_nil]; omega)), (by (try dsimp only) <;> (first | (rw [q, setW_step hc _ (by omega) (by omega), bq, c1, List.drop_drop, show at_.toNat + (x1A.length : Int).toNat = at__2.toNat by omega, hout_2]) | (rw [q, setW_step hc _ (by omega) (by omega), bq, c2, List.drop_drop, show at_.toNat + (x2A.length : Int).toNat = at__3.toNat by omega, hout_3]))), (by (try dsimp only) <;> (omega))⟩ (by first | omega | (dsimp only; omega))
            · cbv
            · cbv
      · refine hF2 _ _ ?_
        conv => cbv
        refine r_lss m.sX (fun h5 => ?_) (fun h5 => ?_) <;> conv => cbv
        · have bq : bestF f (word.drop at_.toNat) = -1 := by rw [q2, if_pos h5, show n_2.toNat = 0 by omega, tryN]
          refine hF _ _ ?_
          conv => cbv
          exact hQ (.tup [.nil, .bool false]) (Eq.trans (by first | rfl | (simp only [lb, lbI, rows_cons, rows_nil, unnilT, unnil, unnilTI, unnilI]; done) | (simp only [lb, lbI, rows_cons, rows_nil, unnilT, unnil, unnilTI, unnilI]; rfl)) (congrArg ((lb 3 1 cInt)) (show ([], false) = setW f word [] from by rw [q, setW_none _ (by omega) (by omega)])))   -- leaf 2
        · have bq : bestF f (word.drop at_.toNat) = best := by rw [q2, if_neg (by omega)]
          have bp := best_pos hc (w := word.drop at_.toNat) (by omega)
          try dsimp only at bp
          rw [bq] at bp
          refine r_append1 (best) m.sX rfl (by first | omega | (dsimp only; omega)) (by first | omega | (dsimp only; omega)) fun out_3 hout_3 => ?_
          conv => cbv
          have lout_3 : (out_3.length : Int) = out.length + 1 := by rw [hout_3]; first | done | (simp; done) | (simp; omega)
          refine r_index m.sX (by omega) (by omega) fun v hx2A => ?_
          obtain ⟨x2A, x2B⟩ := v
          conv => cbv
          have hx2 := hx2A
          have mx2 := get_mem hx2
          have cb2 := hc _ mx2
          try dsimp only at cb2
          have c2 : codeL f best = x2A.length := codeL_some hx2
          refine r_slen (u := x2A) m.sX fun n4 hn4 mn4 => ?_   -- n4 = length of x2A
          conv => cbv
          refine r_addf m.sX (by omega) (by omega) fun at__3 hat__3 => ?_
          conv => cbv
          try have tat__3 : Int.toNat at__3 = Int.toNat at_ + 1 := by omega
          refine hE _ (out_3, at__3) ?_ ?_ ⟨(by (try dsimp only); first | omega | (simp only [List.length_nil]; omega) | (simp only [List.length_cons, List.length_nil]; omega)), (by (try dsimp only); first | omega | (simp only [List.length_nil]; omega) | (simp only [List.length_cons, List.length_nil]; omega)), (by (try dsimp only) <;> (first | (rw [q, setW_step hc _ (by omega) (by omega), bq, c1, List.drop_drop, show at_.toNat + (x1A.length : Int).toNat = at__2.toNat by omega, hout_2]) | (rw [q, setW_step hc _ (by omega) (by omega), bq, c2, List.drop_drop, show at_.toNat + (x2A.length : Int).toNat = at__3.toNat by omega, hout_3]))), (by (try dsimp only) <;> (omega))⟩ (by first | omega | (dsimp only; omega))
          · cbv
          · cbv
    · refine hF _ _ ?_
      conv => cbv
      exact hQ (.tup [.fr 3 1 (rows cInt out), .bool true]) (Eq.trans (by first | rfl | (simp only [lb, lbI, rows_cons, rows_nil, unnilT, unnil, unnilTI, unnilI]; done) | (simp only [lb, lbI, rows_cons, rows_nil, unnilT, unnil, unnilTI, unnilI]; rfl)) (congrArg ((lb 3 1 cInt)) (show (out, true) = setW f word [] from by rw [q, setW_nil (by rw [List.length_drop]; omega)]))))   -- leaf 3

-- lacks spec.biNeed
-- lacks spec.biCopy
-- lacks spec.CountSorts
-- lacks spec.biStock
-- lacks spec.biAsked
-- lacks spec.IsEnough
-- lacks spec.FirstRunOut
-- lacks spec.TimesToSet
-- lacks spec.LeastRecast
end Go.Proofs.Ytmlojdpfpccgoaa.Ai
