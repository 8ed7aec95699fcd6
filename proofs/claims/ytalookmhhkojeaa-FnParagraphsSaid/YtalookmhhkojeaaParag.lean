/- Contracts of the functions on paragraphs: lines, breaks and their costs. -/
import Derived.Test.YtalookmhhkojeaaParagLaw
import Derived.Test.YtalookmhhkojeaaLit
import Derived.Test.YtalookmhhkojeaaThaw
import Derived.Test.YtalookmhhkojeaaTri
namespace Go.Proofs.Ytalookmhhkojeaa.Ai
open Go Go.Proofs
set_option linter.unusedSimpArgs false
set_option maxRecDepth 10000
set_option maxHeartbeats 4000000
set_option linter.unusedVariables false
theorem isParagraph_ok (words : List Int)  : OkA Try.prog 84 [.isl 1 (rows cInt words)] (· = .bool (okPara words)) :=
  fn_intro envOk fieldsOk mixed Try.func84 rfl fun κ X Y L Q m hQ => by
    conv => cbv
    refine r_lenR m.sX fun n1 hn1 mn1 => ?_
    conv => cbv
    refine r_loopF (α := Int) m 18 [0, 5, 6, 7] [] (fun σ => [(0, .isl 1 (rows cInt words)), (5, .isl 1 (rows cInt words)), (6, .int .i64 n1), (7, .int .i64 σ)]) (fun σ => [])
      (fun σ => (0 ≤ σ) ∧ (σ ≤ n1) ∧ (allB words 1 600 = allB (words.drop σ.toNat) 1 600)) (fun σ => (n1 - σ).toNat) 0 ?_ ?_ ?_ ?_
    · cbv
    · cbv
    · exact ⟨(by (try dsimp only); first | omega | (simp only [List.length_nil]; omega) | (simp only [List.length_cons, List.length_nil]; omega)), (by (try dsimp only); first | omega | (simp only [List.length_nil]; omega) | (simp only [List.length_cons, List.length_nil]; omega)), (by (try dsimp only) <;> first | omega | rfl | (simp [*]; done))⟩
    rintro i1 ⟨lo1, hi1, q⟩ E hE F hF
    conv => cbv
    refine r_lss m.sX (fun h1 => ?_) (fun h1 => ?_) <;> conv => cbv
    · refine r_index m.sX (by omega) (by omega) fun n hn => ?_
      conv => cbv
      have mn := get_mem hn
      have dn := drop_cons hn
      have kn := take_snoc hn
      have jn : (i1 + 1).toNat = Int.toNat i1 + 1 := by omega
      have vn := nth_some hn
      refine r_callB m.sX (within_ok n 1 600) (fun h2 => ?_) (fun h2 => ?_) <;> conv => cbv
      · refine r_addf m.sX (by omega) (by omega) fun r1 hr1 => ?_
        conv => cbv
        try have tr1 : Int.toNat r1 = Int.toNat i1 + 1 := by omega
        refine hE _ r1 ?_ ?_ ⟨(by (try dsimp only); first | omega | (simp only [List.length_nil]; omega) | (simp only [List.length_cons, List.length_nil]; omega)), (by (try dsimp only); first | omega | (simp only [List.length_nil]; omega) | (simp only [List.length_cons, List.length_nil]; omega)), (by (try dsimp only) <;> (rw [q, dn, tr1, allB_cons]; simp [*]))⟩ (by first | omega | (dsimp only; omega))
        · cbv
        · cbv
      · refine hF _ _ ?_
        conv => cbv
        exact hQ _ (congrArg PV.bool (by rw [okPara, q, dn, allB_cons]; simp [*]))   -- leaf 1
    · have dz_i1 := drop_end (xs := words) (i := Int.toNat i1) (by omega)
      have tz_i1 := take_end (xs := words) (i := Int.toNat i1) (by omega)
      refine hF _ _ ?_
      conv => cbv
      refine r_lenR m.sX fun n2 hn2 mn2 => ?_
      conv => cbv
      refine r_callB m.sX (within_ok n2 1 24) (fun h3 => ?_) (fun h3 => ?_) <;> conv => cbv
      · exact hQ _ (congrArg PV.bool (by rw [okPara, q, dz_i1, allB_nil, ← hn2, h3]; rfl))   -- leaf 2
      · exact hQ _ (congrArg PV.bool (by rw [okPara, q, dz_i1, allB_nil, ← hn2, h3]; rfl))   -- leaf 3

theorem paWords_ok (words : List Int)  : OkA Try.prog 85 [.isl 1 (rows cInt words)] (· = .bool (okPara words)) :=
  fn_intro envOk fieldsOk mixed Try.func85 rfl fun κ X Y L Q m hQ => by
    conv => cbv
    refine r_lenR m.sX fun n1 hn1 mn1 => ?_
    conv => cbv
    refine r_callB m.sX (l1In_ok n1 1 24) (fun h1 => ?_) (fun h1 => ?_) <;> conv => cbv
    · refine r_callB m.sX (l1All_ok words 1 600) (fun h2 => ?_) (fun h2 => ?_) <;> conv => cbv
      · exact hQ _ (congrArg PV.bool (by first | rfl | omega | (simp [okPara, *]; done) | (subst_vars; simp [okPara, *]; done)))   -- leaf 1
      · exact hQ _ (congrArg PV.bool (by first | rfl | omega | (simp [okPara, *]; done) | (subst_vars; simp [okPara, *]; done)))   -- leaf 2
    · exact hQ _ (congrArg PV.bool (by first | rfl | omega | (simp [okPara, *]; done) | (subst_vars; simp [okPara, *]; done)))   -- leaf 3

theorem isSetParagraph_ok (words : List Int) (r : JRule) (measure : Int)  : OkA Try.prog 74 [.isl 1 (rows cInt words), .agg (cRule r), .int .i64 measure] (· = .bool (askP words r measure)) := by
  obtain ⟨rA, rB, rC⟩ := r
  try dsimp only at *
  exact fn_intro envOk fieldsOk mixed Try.func74 rfl fun κ X Y L Q m hQ => by
    conv => cbv
    refine r_callB m.sX (isParagraph_ok words) (fun h1 => ?_) (fun h1 => ?_) <;> conv => cbv
    · refine r_callB m.sX (IsRule_ok (rA, rB, rC)) (fun h2 => ?_) (fun h2 => ?_) <;> conv => cbv
      · refine r_callB m.sX (isMeasure_ok measure) (fun h3 => ?_) (fun h3 => ?_) <;> conv => cbv
        · exact hQ _ (congrArg PV.bool (by simp [askP, *]))   -- leaf 1
        · exact hQ _ (congrArg PV.bool (by simp [askP, *]))   -- leaf 2
      · exact hQ _ (congrArg PV.bool (by simp [askP, *]))   -- leaf 3
    · exact hQ _ (congrArg PV.bool (by simp [askP, *]))   -- leaf 4

theorem paAsked_ok (words : List Int) (r : JRule) (measure : Int)  : OkA Try.prog 71 [.isl 1 (rows cInt words), .agg (cRule r), .int .i64 measure] (· = .bool (askP words r measure)) := by
  obtain ⟨rA, rB, rC⟩ := r
  try dsimp only at *
  exact fn_intro envOk fieldsOk mixed Try.func71 rfl fun κ X Y L Q m hQ => by
    conv => cbv
    refine r_callB m.sX (paWords_ok words) (fun h1 => ?_) (fun h1 => ?_) <;> conv => cbv
    · refine r_callB m.sX (juRule_ok (rA, rB, rC)) (fun h2 => ?_) (fun h2 => ?_) <;> conv => cbv
      · refine r_callB m.sX (juMeasure_ok measure) (fun h3 => ?_) (fun h3 => ?_) <;> conv => cbv
        · exact hQ _ (congrArg PV.bool (by simp [askP, *]))   -- leaf 1
        · exact hQ _ (congrArg PV.bool (by simp [askP, *]))   -- leaf 2
      · exact hQ _ (congrArg PV.bool (by simp [askP, *]))   -- leaf 3
    · exact hQ _ (congrArg PV.bool (by simp [askP, *]))   -- leaf 4

theorem areBreaks_ok (words : List Int) (breaks : List Int) (hl : words.length ≤ 1000000) : OkA Try.prog 75 [.isl 1 (rows cInt words), .isl 1 (rows cInt breaks)] (· = .bool (rising 1 ((words.length : Int) - 1) none breaks)) :=
  fn_intro envOk fieldsOk mixed Try.func75 rfl fun κ X Y L Q m hQ => by
    conv => cbv
    refine r_lenR m.sX fun n1 hn1 mn1 => ?_
    conv => cbv
    refine r_subf m.sX (by omega) (by omega) fun r1 hr1 => ?_
    conv => cbv
    refine r_callB m.sX (increases_ok breaks 1 r1) (fun h1 => ?_) (fun h1 => ?_) <;> conv => cbv
    · exact hQ _ (congrArg PV.bool (by rw [← hn1, ← hr1, h1]))   -- leaf 1
    · exact hQ _ (congrArg PV.bool (by rw [← hn1, ← hr1, h1]))   -- leaf 2

theorem paBreaks_ok (words : List Int) (breaks : List Int) (hl : words.length ≤ 1000000) : OkA Try.prog 78 [.isl 1 (rows cInt words), .isl 1 (rows cInt breaks)] (· = .bool (rising 1 ((words.length : Int) - 1) none breaks)) :=
  fn_intro envOk fieldsOk mixed Try.func78 rfl fun κ X Y L Q m hQ => by
    conv => cbv
    refine r_lenR m.sX fun n1 hn1 mn1 => ?_
    conv => cbv
    refine r_subf m.sX (by omega) (by omega) fun r1 hr1 => ?_
    conv => cbv
    refine r_callB m.sX (l1Rising_ok breaks 1 r1) (fun h1 => ?_) (fun h1 => ?_) <;> conv => cbv
    · exact hQ _ (congrArg PV.bool (by rw [← hn1, ← hr1, h1]))   -- leaf 1
    · exact hQ _ (congrArg PV.bool (by rw [← hn1, ← hr1, h1]))   -- leaf 2

theorem just_small {ws : List Int} {r : JRule} {m : Int} {xs : List Int} {b : Bool} (hj : Jin ws r m) (h : (xs, b) = justF ws r m) : (∀ n ∈ xs, 0 ≤ n ∧ n ≤ 54) ∧ (xs.length : Int) ≤ 20 := by
  unfold justF at h
  have s1 := line_sum hj.line
  have s2 := okRule_spec hj.rule
  split at h
  · rename_i hf
    rw [(Prod.mk.inj h).1]
    have sa := spaces_all hj hf
    refine ⟨fun n hn => by have := sa n hn; omega, ?_⟩
    rw [spaces_length, gapsF]; omega
  · rw [(Prod.mk.inj h).1]
    exact ⟨fun n hn => (by cases hn), by simp⟩
theorem lineA_just {ws : List Int} {r : JRule} {m c : Int} {xs : List Int} {b : Bool} (hl : (ws.length : Int) ≤ 20) (h : (xs, b) = justF ws r m) (hc : c = costF r xs) : (c, b) = lineA ws r m := by
  subst hc
  unfold justF at h
  unfold lineA optL
  by_cases hf : fitsJ ws r m = true
  · rw [if_pos hf] at h
    rw [if_pos ⟨hl, hf⟩, (Prod.mk.inj h).1, (Prod.mk.inj h).2]
  · rw [if_neg hf] at h
    rw [if_neg (fun e => hf e.2), (Prod.mk.inj h).1, (Prod.mk.inj h).2]
    simp [costF]
theorem lineA_long {ws : List Int} {r : JRule} {m : Int} (hl : 20 < (ws.length : Int)) : lineA ws r m = (0, false) := by
  unfold lineA optL
  rw [if_neg (fun e => by omega)]
theorem lineA_loose {ws : List Int} {r : JRule} {m : Int} (hf : fitsJ ws r m = false) : lineA ws r m = (0, false) := by
  unfold lineA optL
  rw [if_neg (fun e => by rw [hf] at e; exact absurd e.2 (by simp))]
theorem words_fits {ws : List Int} (h1 : ∀ n ∈ ws, 1 ≤ n ∧ n ≤ 600) (h2 : (ws.length : Int) ≤ 24) : SumFits ws ∧ 0 ≤ ws.sum ∧ ws.sum ≤ 14400 := by
  have := sum_bound (ws := ws) (B := 600) (by omega) fun n hn => by have := h1 n hn; omega
  exact ⟨sumfits_of 600 (fun n hn => by have := h1 n hn; omega) (by omega), by omega, by omega⟩
theorem lineCost_ok (words : List Int) (r : JRule) (measure : Int) (hw : ∀ n ∈ words, 1 ≤ n ∧ n ≤ 600) (hl : 1 ≤ (words.length : Int) ∧ (words.length : Int) ≤ 24) (hr : okRule r = true) (hm : inB measure 1 2000 = true) : OkA Try.prog 76 [.isl 1 (rows cInt words), .agg (cRule r), .int .i64 measure] (· = ib (lineA words r measure)) := by
  obtain ⟨rA, rB, rC⟩ := r
  try dsimp only at *
  exact fn_intro envOk fieldsOk mixed Try.func76 rfl fun κ X Y L Q m hQ => by
    conv => cbv
    refine r_lenR m.sX fun n1 hn1 mn1 => ?_
    conv => cbv
    refine r_gtr m.sX (fun h1 => ?_) (fun h1 => ?_) <;> conv => cbv
    · exact hQ (.tup [.int .i64 0, .bool false]) (Eq.trans (by first | rfl | (simp only [lb, lbI, rows_cons, rows_nil, unnilT, unnil, unnilTI, unnilI]; done) | (simp only [lb, lbI, rows_cons, rows_nil, unnilT, unnil, unnilTI, unnilI]; rfl)) (congrArg (ib) (show (0, false) = lineA words (rA, rB, rC) measure from by rw [lineA_long (by omega)])))   -- leaf 1
    · have hj : Jin words (rA, rB, rC) measure := ⟨line_ok hw hl.1 (by omega), hr, hm⟩
      refine r_callF (lb 3 1 cInt) m.sX (justify_ok words (rA, rB, rC) measure (by first | rfl | assumption | omega | (simp only [List.length_append, List.length_cons, List.length_nil] at *; omega))) fun v hspaces => ?_
      obtain ⟨spaces, ok⟩ := v
      conv => cbv
      try dsimp only at hspaces
      obtain ⟨j1, j2⟩ := just_small hj hspaces
      refine .inl (r_callFO intPV m.sX ((costOf_ok spaces (rA, rB, rC) (by first | rfl | assumption | omega | (simp only [List.length_append, List.length_cons, List.length_nil] at *; omega)) (by first | rfl | assumption | omega | (simp only [List.length_append, List.length_cons, List.length_nil] at *; omega)) (by first | rfl | assumption | omega | (simp only [List.length_append, List.length_cons, List.length_nil] at *; omega))).ok flat_int) fun r1 hr1 => ?_)
      conv => cbv
      try dsimp only at hr1
      exact hQ (.tup [.int .i64 r1, .bool ok]) (Eq.trans (by first | rfl | (simp only [lb, lbI, rows_cons, rows_nil, unnilT, unnil, unnilTI, unnilI]; done) | (simp only [lb, lbI, rows_cons, rows_nil, unnilT, unnil, unnilTI, unnilI]; rfl)) (congrArg (ib) (show (r1, ok) = lineA words (rA, rB, rC) measure from by exact lineA_just (by omega) hspaces (by assumption))))   -- leaf 2

theorem canEnd_ok (words : List Int) (r : JRule) (measure : Int) (hw : ∀ n ∈ words, 1 ≤ n ∧ n ≤ 600) (hl : 1 ≤ (words.length : Int) ∧ (words.length : Int) ≤ 24) (hr : okRule r = true) : OkA Try.prog 77 [.isl 1 (rows cInt words), .agg (cRule r), .int .i64 measure] (· = .bool (endL r measure words)) := by
  obtain ⟨rA, rB, rC⟩ := r
  try dsimp only at *
  exact fn_intro envOk fieldsOk mixed Try.func77 rfl fun κ X Y L Q m hQ => by
    obtain ⟨f1, f2, f3⟩ := words_fits hw hl.2
    have s2 := okRule_spec hr
    try dsimp only at s2
    conv => cbv
    refine r_draw m (by kernel_rfl) ?_
    conv => cbv
    refine r_lenRS m.sY (by omega) fun n1 hn1 => ?_
    conv => cbv
    refine r_leq m.sY (fun h1 => ?_) (fun h1 => ?_) <;> conv => cbv
    · refine r_callFS (PV.int .i64) m.sY (sum_ok words (by first | rfl | assumption | omega | (simp only [List.length_append, List.length_cons, List.length_nil] at *; omega))) trivial fun r1 hr1 => ?_
      conv => cbv
      try dsimp only at hr1
      refine r_lenRS m.sY (by omega) fun n2 hn2 => ?_
      conv => cbv
      refine r_subf m.sY (by omega) (by omega) fun r2 hr2 => ?_
      conv => cbv
      have g1 := gaps_mul (show 0 ≤ r2 ∧ r2 ≤ 19 by omega) (show 1 ≤ rB ∧ rB ≤ 54 by omega)
      try dsimp only at g1
      refine r_mulf m.sY (by first | omega | (subst_vars; omega)) (by first | omega | (subst_vars; omega)) fun r3 hr3 => ?_
      conv => cbv
      have e3 : gapsF words * rB = r3 := by rw [gapsF, ← hn2, ← hr2, ← hr3]
      refine r_addf m.sY (by omega) (by omega) fun r4 hr4 => ?_
      conv => cbv
      refine r_leq m.sY (fun h2 => ?_) (fun h2 => ?_) <;> conv => cbv
      · exact hQ _ (congrArg PV.bool (by rw [endL]; dsimp only; rw [e3, decide_eq_true (by omega), decide_eq_true (by omega)]; rfl))   -- leaf 1
      · exact hQ _ (congrArg PV.bool (by rw [endL]; dsimp only; rw [e3, decide_eq_true (show (words.length : Int) ≤ 20 by omega), decide_eq_false (by omega)]; rfl))   -- leaf 2
    · exact hQ _ (congrArg PV.bool (by rw [endL, decide_eq_false (show ¬ (words.length : Int) ≤ 20 by omega)]; rfl))   -- leaf 3

theorem paLine_ok (words : List Int) (r : JRule) (measure : Int) (last : Bool) (hw : ∀ n ∈ words, 1 ≤ n ∧ n ≤ 600) (hl : 1 ≤ (words.length : Int) ∧ (words.length : Int) ≤ 24) (hr : okRule r = true) (hm : inB measure 1 2000 = true) : OkA Try.prog 80 [.isl 1 (rows cInt words), .agg (cRule r), .int .i64 measure, .bool last] (· = ib (lineS words r measure last)) := by
  obtain ⟨rA, rB, rC⟩ := r
  try dsimp only at *
  exact fn_intro envOk fieldsOk mixed Try.func80 rfl fun κ X Y L Q m hQ => by
    obtain ⟨f1, f2, f3⟩ := words_fits hw hl.2
    have s2 := okRule_spec hr
    try dsimp only at s2
    have s3 := inB_spec hm
    try dsimp only at s3
    conv => cbv
    refine r_lenR m.sX fun n1 hn1 mn1 => ?_
    conv => cbv
    refine r_gtr m.sX (fun h1 => ?_) (fun h1 => ?_) <;> conv => cbv
    · exact hQ (.tup [.int .i64 0, .bool false]) (Eq.trans (by first | rfl | (simp only [lb, lbI, rows_cons, rows_nil, unnilT, unnil, unnilTI, unnilI]; done) | (simp only [lb, lbI, rows_cons, rows_nil, unnilT, unnil, unnilTI, unnilI]; rfl)) (congrArg (ib) (show (0, false) = lineS words (rA, rB, rC) measure last from by unfold lineS; split; (rw [endL, decide_eq_false (show ¬ (words.length : Int) ≤ 20 by omega)]; rfl); (rw [lineA_long (by omega)]))))   -- leaf 1
    · have hj : Jin words (rA, rB, rC) measure := ⟨line_ok hw hl.1 (by omega), hr, hm⟩
      rcases Bool.eq_false_or_eq_true last with rfl | rfl <;> conv => cbv
      · refine r_draw m (by kernel_rfl) ?_
        conv => cbv
        refine r_callFS (PV.int .i64) m.sY (juSum_ok words (by first | rfl | assumption | omega | (simp only [List.length_append, List.length_cons, List.length_nil] at *; omega))) trivial fun r1 hr1 => ?_
        conv => cbv
        try dsimp only at hr1
        refine r_lenRS m.sY (by omega) fun n2 hn2 => ?_
        conv => cbv
        refine r_subf m.sY (by omega) (by omega) fun r2 hr2 => ?_
        conv => cbv
        have g1 := gaps_mul (show 0 ≤ r2 ∧ r2 ≤ 19 by omega) (show 1 ≤ rB ∧ rB ≤ 54 by omega)
        try dsimp only at g1
        refine r_mulf m.sY (by first | omega | (subst_vars; omega)) (by first | omega | (subst_vars; omega)) fun r3 hr3 => ?_
        conv => cbv
        have e3 : gapsF words * rB = r3 := by rw [gapsF, ← hn2, ← hr2, ← hr3]
        refine r_addf m.sY (by omega) (by omega) fun r4 hr4 => ?_
        conv => cbv
        refine r_leq m.sY (fun h2 => ?_) (fun h2 => ?_) <;> conv => cbv
        · exact hQ (.tup [.int .i64 0, .bool true]) (Eq.trans (by first | rfl | (simp only [lb, lbI, rows_cons, rows_nil, unnilT, unnil, unnilTI, unnilI]; done) | (simp only [lb, lbI, rows_cons, rows_nil, unnilT, unnil, unnilTI, unnilI]; rfl)) (congrArg (ib) (show (0, true) = lineS words (rA, rB, rC) measure true from by rw [lineS, if_pos rfl, endL]; dsimp only; rw [e3, decide_eq_true (by omega), decide_eq_true (by omega)]; rfl)))   -- leaf 2
        · exact hQ (.tup [.int .i64 0, .bool false]) (Eq.trans (by first | rfl | (simp only [lb, lbI, rows_cons, rows_nil, unnilT, unnil, unnilTI, unnilI]; done) | (simp only [lb, lbI, rows_cons, rows_nil, unnilT, unnil, unnilTI, unnilI]; rfl)) (congrArg (ib) (show (0, false) = lineS words (rA, rB, rC) measure true from by rw [lineS, if_pos rfl, endL]; dsimp only; rw [e3, decide_eq_true (show (words.length : Int) ≤ 20 by omega), decide_eq_false (by omega)]; rfl)))   -- leaf 3
      · refine r_callF (PV.int .i64) m.sX (juWhy_ok words (rA, rB, rC) measure (by first | rfl | assumption | omega | (simp only [List.length_append, List.length_cons, List.length_nil] at *; omega))) fun r5 hr5 => ?_
        conv => cbv
        try dsimp only at hr5
        refine r_neq m.sX (fun h3 => ?_) (fun h3 => ?_) <;> conv => cbv
        · exact hQ (.tup [.int .i64 0, .bool false]) (Eq.trans (by first | rfl | (simp only [lb, lbI, rows_cons, rows_nil, unnilT, unnil, unnilTI, unnilI]; done) | (simp only [lb, lbI, rows_cons, rows_nil, unnilT, unnil, unnilTI, unnilI]; rfl)) (congrArg (ib) (show (0, false) = lineS words (rA, rB, rC) measure false from by rw [lineS, if_neg (by simp), lineA_loose (why_not (by omega))])))   -- leaf 4
        · have ef := why_fits (show whyF words (rA, rB, rC) measure = 0 by omega)
          try dsimp only at ef
          refine r_callF (PV.int .i64) m.sX (juCost_ok words (rA, rB, rC) measure (by first | rfl | assumption | omega | (simp only [List.length_append, List.length_cons, List.length_nil] at *; omega)) (by first | rfl | assumption | omega | (simp only [List.length_append, List.length_cons, List.length_nil] at *; omega))) fun r6 hr6 => ?_
          conv => cbv
          try dsimp only at hr6
          exact hQ (.tup [.int .i64 r6, .bool true]) (Eq.trans (by first | rfl | (simp only [lb, lbI, rows_cons, rows_nil, unnilT, unnil, unnilTI, unnilI]; done) | (simp only [lb, lbI, rows_cons, rows_nil, unnilT, unnil, unnilTI, unnilI]; rfl)) (congrArg (ib) (show (r6, true) = lineS words (rA, rB, rC) measure false from by rw [lineS, if_neg (by simp), lineA, optL, if_pos ⟨by omega, ef⟩, hr6])))   -- leaf 5

/-- What a way through a paragraph asks. -/
structure Pin (ws : List Int) (r : JRule) (m : Int) : Prop where
  para : okPara ws = true
  rule : okRule r = true
  meas : inB m 1 2000 = true
theorem askP_in {ws : List Int} {r : JRule} {m : Int} (h : askP ws r m = true) : Pin ws r m := by
  obtain ⟨a, b, c⟩ := askP_spec h
  exact ⟨a, b, c⟩
theorem Pin.cut {ws : List Int} {r : JRule} {m : Int} (h : Pin ws r m) {i j : Nat} (hij : i < j) (hj : j ≤ ws.length) {zs : List Int} (hz : zs = (ws.take j).drop i) : (∀ n ∈ zs, 1 ≤ n ∧ n ≤ 600) ∧ (1 ≤ (zs.length : Int) ∧ (zs.length : Int) ≤ 24) ∧ zs = cutW ws i j := by
  subst hz
  have sp := okPara_spec h.para
  refine ⟨fun n hn => sp.1 n (cutW_mem hn), ?_, rfl⟩
  have := cutW_length (ws := ws) (show i ≤ j by omega) hj
  unfold cutW at this
  omega
theorem Pin.tail {ws : List Int} {r : JRule} {m : Int} (h : Pin ws r m) {i : Nat} (hi : i < ws.length) {zs : List Int} (hz : zs = ws.drop i) : (∀ n ∈ zs, 1 ≤ n ∧ n ≤ 600) ∧ (1 ≤ (zs.length : Int) ∧ (zs.length : Int) ≤ 24) := by
  subst hz
  have sp := okPara_spec h.para
  refine ⟨fun n hn => sp.1 n (List.mem_of_mem_drop hn), ?_⟩
  rw [List.length_drop]; omega
theorem lineA_paL {ws zs : List Int} {r : JRule} {m c : Int} {i j : Nat} {b : Bool} (hz : zs = cutW ws i j) (h : (c, b) = lineA zs r m) : paL ws r m i j = if b then some c else none := by
  subst hz
  cases b with
  | true => rw [if_pos rfl]; exact lineA_true h
  | false => rw [if_neg (by simp)]; exact lineA_false h
theorem cost_le {zs : List Int} {r : JRule} {m c : Int} {b : Bool} (h1 : ∀ n ∈ zs, 1 ≤ n ∧ n ≤ 600) (h2 : 1 ≤ (zs.length : Int)) (hr : okRule r = true) (hm : inB m 1 2000 = true) (h : (c, b) = lineA zs r m) : 0 ≤ c ∧ c ≤ 58320 := by
  cases b with
  | true => exact optL_bound h1 h2 hr hm (lineA_true h)
  | false =>
    have := lineA_false h
    unfold lineA at h
    rw [this] at h
    rw [(Prod.mk.inj h).1]; omega
/-- The costs of lines, one behind the other. -/
def lsumG (r : JRule) (m : Int) : Int → List (List Int) → Option Int
  | acc, [] => some acc
  | acc, l :: t => if t = [] then (if endL r m l then some acc else none) else match optL r m l with
    | some c => lsumG r m (acc + c) t
    | none => none
theorem linesP_ne (ws : List Int) (i : Nat) (bs : List Int) : linesP ws i bs ≠ [] := by
  intro h
  have := linesP_length ws bs i
  rw [h] at this; simp at this
theorem lsum_path (ws : List Int) (r : JRule) (m : Int) : ∀ (bs : List Int) (i : Nat) (acc : Int), lsumG r m acc (linesP ws i bs) = pathG (paE ws r m) (paL ws r m) acc i bs
  | [], i, acc => by rw [pathG_nil]; rfl
  | t :: q, i, acc => by
    rw [linesP, lsumG, if_neg (linesP_ne ws _ q)]
    cases e : optL r m (cutW ws i t.toNat) with
    | none => rw [pathG_none (L := paL ws r m) e]
    | some c => rw [pathG_step (L := paL ws r m) e]; exact lsum_path ws r m q t.toNat (acc + c)
theorem linesP_mem {ws : List Int} : ∀ (bs : List Int) (i : Nat), i < ws.length → Up i ws.length bs → ∀ l ∈ linesP ws i bs, (∀ n ∈ l, n ∈ ws) ∧ 1 ≤ l.length ∧ l.length ≤ ws.length
  | [], i, hi, _, l, hl => by
    rw [linesP, List.mem_singleton] at hl
    subst hl
    exact ⟨fun n hn => List.mem_of_mem_drop hn, by rw [List.length_drop]; omega, by rw [List.length_drop]; omega⟩
  | t :: q, i, hi, hu, l, hl => by
    obtain ⟨⟨a, b⟩, c⟩ := hu
    rw [linesP] at hl
    rcases List.mem_cons.1 hl with rfl | hl
    · have := cutW_length (ws := ws) (show i ≤ t.toNat by omega) (by omega)
      exact ⟨fun n hn => cutW_mem hn, by omega, by omega⟩
    · exact linesP_mem q t.toNat (by omega) c l hl
def linesT (ws : List Int) : Nat → List Int → List (List Int)
  | _, [] => []
  | i, t :: r => cutW ws i t.toNat :: linesT ws t.toNat r
theorem linesT_end (ws : List Int) : ∀ (bs : List Int) (i : Nat), linesT ws i (bs ++ [(ws.length : Int)]) = linesP ws i bs
  | [], i => by
    show [cutW ws i ((ws.length : Int)).toNat] = [ws.drop i]
    rw [Int.toNat_natCast, cutW_end]
  | t :: r, i => by
    show cutW ws i t.toNat :: linesT ws t.toNat (r ++ [(ws.length : Int)]) = _
    rw [linesT_end ws r]; rfl
def UpT (i n : Nat) : List Int → Prop
  | [] => True
  | t :: r => ((i : Int) < t ∧ t ≤ n) ∧ UpT t.toNat n r
theorem upT_of {n : Nat} : ∀ (bs : List Int) (i : Nat), i < n → Up i n bs → UpT i n (bs ++ [(n : Int)])
  | [], i, h, _ => ⟨⟨by omega, by omega⟩, trivial⟩
  | t :: r, i, h, hu => by
    obtain ⟨⟨a, b⟩, c⟩ := hu
    exact ⟨⟨a, by omega⟩, upT_of r t.toNat (by omega) c⟩
theorem CostOfBreaks_ok (words : List Int) (r : JRule) (measure : Int) (breaks : List Int)  : OkA Try.prog 22 [.isl 1 (rows cInt words), .agg (cRule r), .int .i64 measure, .isl 1 (rows cInt breaks)] (· = ib (costPA words r measure breaks)) := by
  obtain ⟨rA, rB, rC⟩ := r
  try dsimp only at *
  exact fn_intro envOk fieldsOk mixed Try.func22 rfl fun κ X Y L Q m hQ => by
    conv => cbv
    refine r_callB m.sX (isSetParagraph_ok words (rA, rB, rC) measure) (fun h1 => ?_) (fun h1 => ?_) <;> conv => cbv
    · have hp := askP_in h1
      try dsimp only at hp
      have sp := okPara_spec hp.para
      try dsimp only at sp
      refine r_callB m.sX (areBreaks_ok words breaks (by first | rfl | assumption | omega | (simp only [List.length_append, List.length_cons, List.length_nil] at *; omega))) (fun h2 => ?_) (fun h2 => ?_) <;> conv => cbv
      · have ub0 : Up 0 words.length breaks := rising_up _ 0 none (fun _ => rfl) (fun x e => by cases e) h2
        have bl := (up_length breaks 0 (by omega) ub0).1
        try dsimp only at bl
        refine r_lenR m.sX fun n1 hn1 mn1 => ?_
        conv => cbv
        refine r_loopF (α := Int × Int × Int) m 58 [0, 2, 10, 11, 27, 28, 29] [⟨5, 41, 0, 0, 0⟩] (fun σ => [(0, .isl 1 (rows cInt words)), (2, .int .i64 measure), (5, .optr 41 0 3 0 0), (10, .int .i64 σ.1), (11, .int .i64 σ.2.1), (27, .isl 1 (rows cInt breaks)), (28, .int .i64 n1), (29, .int .i64 σ.2.2)]) (fun σ => [(41, 0, .box [.int .i64 rA, .int .i64 rB, .int .i64 rC])])
          (fun σ => (0 ≤ σ.2.2) ∧ (σ.2.2 ≤ n1) ∧ (pathC (paE words (rA, rB, rC) measure) (paL words (rA, rB, rC) measure) 0 breaks = pathG (paE words (rA, rB, rC) measure) (paL words (rA, rB, rC) measure) σ.1 σ.2.1.toNat (breaks.drop σ.2.2.toNat)) ∧ (0 ≤ σ.2.1 ∧ σ.2.1 < words.length) ∧ (Up σ.2.1.toNat words.length (breaks.drop σ.2.2.toNat)) ∧ (0 ≤ σ.1 ∧ σ.1 ≤ 58320 * σ.2.2)) (fun σ => (n1 - σ.2.2).toNat) (0, 0, 0) ?_ ?_ ?_ ?_
        · cbv
        · cbv
        · exact ⟨(by (try dsimp only); first | omega | (simp only [List.length_nil]; omega) | (simp only [List.length_cons, List.length_nil]; omega)), (by (try dsimp only); first | omega | (simp only [List.length_nil]; omega) | (simp only [List.length_cons, List.length_nil]; omega)), (by (try dsimp only) <;> (exact (pathG_zero _ _).symm)), (by (try dsimp only) <;> first | omega | rfl | (simp [*]; done)), (by (try dsimp only) <;> (exact ub0)), (by (try dsimp only) <;> first | omega | rfl | (simp [*]; done))⟩
        rintro ⟨cost, from_, i1⟩ ⟨lo1, hi1, q, fb, ub, cb⟩ E hE F hF
        dsimp only at lo1 hi1 q fb ub cb
        conv => cbv
        refine r_lss m.sX (fun h3 => ?_) (fun h3 => ?_) <;> conv => cbv
        · refine r_index m.sX (by omega) (by omega) fun to_ hto_ => ?_
          conv => cbv
          have mto_ := get_mem hto_
          have dto_ := drop_cons hto_
          have kto_ := take_snoc hto_
          have jto_ : (i1 + 1).toNat = Int.toNat i1 + 1 := by omega
          have vto_ := nth_some hto_
          have ub2 := ub
          try dsimp only at ub2
          rw [dto_] at ub2
          obtain ⟨⟨u1, u2⟩, u3⟩ := ub2
          refine r_draw m (by kernel_rfl) ?_
          conv => cbv
          refine r_islice (i := from_) (j := to_) m.sY (by omega) (by omega) (by omega) fun zs1 hzs1 => ?_   -- zs1 = words[from_:to_]
          have lzs1 : (zs1.length : Int) = to_ - from_ := by rw [hzs1]; first | done | (simp; done) | (simp; omega)
          obtain ⟨z1, z2, z3⟩ := hp.cut (i := from_.toNat) (j := to_.toNat) (by omega) (by omega) hzs1
          have z4 := hp.rule; have z5 := hp.meas
          try dsimp only at z4
          conv => cbv
          refine r_callFS ib m.sY (lineCost_ok zs1 (rA, rB, rC) measure (by first | rfl | assumption | omega | (simp only [List.length_append, List.length_cons, List.length_nil] at *; omega)) (by first | rfl | assumption | omega | (simp only [List.length_append, List.length_cons, List.length_nil] at *; omega)) (by first | rfl | assumption | omega | (simp only [List.length_append, List.length_cons, List.length_nil] at *; omega)) (by first | rfl | assumption | omega | (simp only [List.length_append, List.length_cons, List.length_nil] at *; omega))) (by first | trivial | exact noFr_tup2 trivial trivial | exact noFr_tup3 trivial trivial trivial) fun v hn => ?_
          obtain ⟨n, ok⟩ := v
          conv => cbv
          try dsimp only at hn
          have lp := lineA_paL z3 hn
          try dsimp only at lp
          have cl := cost_le z1 z2.1 z4 z5 hn
          try dsimp only at cl
          rcases Bool.eq_false_or_eq_true ok with rfl | rfl <;> conv => cbv
          · rw [if_pos rfl] at lp
            refine r_addf m.sX (by omega) (by omega) fun cost_2 hcost_2 => ?_
            conv => cbv
            refine r_addf m.sX (by omega) (by omega) fun r1 hr1 => ?_
            conv => cbv
            try have tr1 : Int.toNat r1 = Int.toNat i1 + 1 := by omega
            refine hE _ (cost_2, to_, r1) ?_ ?_ ⟨(by (try dsimp only); first | omega | (simp only [List.length_nil]; omega) | (simp only [List.length_cons, List.length_nil]; omega)), (by (try dsimp only); first | omega | (simp only [List.length_nil]; omega) | (simp only [List.length_cons, List.length_nil]; omega)), (by (try dsimp only) <;> (rw [q, dto_, tr1, pathG_step lp, hcost_2])), (by (try dsimp only) <;> first | omega | rfl | (simp [*]; done) | (rw [fb]; simp [*]; done)), (by (try dsimp only) <;> (rw [tr1]; exact u3)), (by (try dsimp only) <;> first | omega | rfl | (simp [*]; done) | (rw [cb]; simp [*]; done))⟩ (by first | omega | (dsimp only; omega))
            · cbv
            · cbv
          · rw [if_neg (by simp)] at lp
            refine hF _ _ ?_
            conv => cbv
            exact hQ (.tup [.int .i64 0, .bool false]) (Eq.trans (by first | rfl | (simp only [lb, lbI, rows_cons, rows_nil, unnilT, unnil, unnilTI, unnilI]; done) | (simp only [lb, lbI, rows_cons, rows_nil, unnilT, unnil, unnilTI, unnilI]; rfl)) (congrArg (ib) (show (0, false) = costPA words (rA, rB, rC) measure breaks from by rw [costPA, if_pos (by rw [h1, h2]; rfl), q, dto_, pathG_none lp])))   -- leaf 1
        · have dz_i1 := drop_end (xs := breaks) (i := Int.toNat i1) (by omega)
          have tz_i1 := take_end (xs := breaks) (i := Int.toNat i1) (by omega)
          refine hF _ _ ?_
          conv => cbv
          refine r_draw m (by kernel_rfl) ?_
          conv => cbv
          refine r_islice' (i := from_) m.sY (by omega) (by omega) fun zs2 hzs2 => ?_   -- zs2 = words[from_:None]
          have lzs2 : (zs2.length : Int) = words.length - from_ := by rw [hzs2]; first | done | (simp; done) | (simp; omega)
          obtain ⟨y1, y2⟩ := hp.tail (i := from_.toNat) (by omega) hzs2
          have z4 := hp.rule
          try dsimp only at z4
          conv => cbv
          refine r_callBS m.sY (canEnd_ok zs2 (rA, rB, rC) measure (by first | rfl | assumption | omega | (simp only [List.length_append, List.length_cons, List.length_nil] at *; omega)) (by first | rfl | assumption | omega | (simp only [List.length_append, List.length_cons, List.length_nil] at *; omega)) (by first | rfl | assumption | omega | (simp only [List.length_append, List.length_cons, List.length_nil] at *; omega))) (fun h4 => ?_) (fun h4 => ?_) <;> conv => cbv
          · exact hQ (.tup [.int .i64 cost, .bool true]) (Eq.trans (by first | rfl | (simp only [lb, lbI, rows_cons, rows_nil, unnilT, unnil, unnilTI, unnilI]; done) | (simp only [lb, lbI, rows_cons, rows_nil, unnilT, unnil, unnilTI, unnilI]; rfl)) (congrArg (ib) (show (cost, true) = costPA words (rA, rB, rC) measure breaks from by rw [costPA, if_pos (by rw [h1, h2]; rfl), q, dz_i1, pathG_nil, if_pos (by unfold paE; rw [← hzs2]; exact h4)])))   -- leaf 2
          · exact hQ (.tup [.int .i64 0, .bool false]) (Eq.trans (by first | rfl | (simp only [lb, lbI, rows_cons, rows_nil, unnilT, unnil, unnilTI, unnilI]; done) | (simp only [lb, lbI, rows_cons, rows_nil, unnilT, unnil, unnilTI, unnilI]; rfl)) (congrArg (ib) (show (0, false) = costPA words (rA, rB, rC) measure breaks from by rw [costPA, if_pos (by rw [h1, h2]; rfl), q, dz_i1, pathG_nil, if_neg (by unfold paE; rw [← hzs2, h4]; simp)])))   -- leaf 3
      · exact hQ (.tup [.int .i64 0, .bool false]) (Eq.trans (by first | rfl | (simp only [lb, lbI, rows_cons, rows_nil, unnilT, unnil, unnilTI, unnilI]; done) | (simp only [lb, lbI, rows_cons, rows_nil, unnilT, unnil, unnilTI, unnilI]; rfl)) (congrArg (ib) (show (0, false) = costPA words (rA, rB, rC) measure breaks from by rw [costPA, if_neg (by rw [h1, h2]; simp)])))   -- leaf 4
    · exact hQ (.tup [.int .i64 0, .bool false]) (Eq.trans (by first | rfl | (simp only [lb, lbI, rows_cons, rows_nil, unnilT, unnil, unnilTI, unnilI]; done) | (simp only [lb, lbI, rows_cons, rows_nil, unnilT, unnil, unnilTI, unnilI]; rfl)) (congrArg (ib) (show (0, false) = costPA words (rA, rB, rC) measure breaks from by rw [costPA, if_neg (by rw [h1]; simp)])))   -- leaf 5

theorem paLines_ok (words : List Int) (breaks : List Int) (hb : Up 0 words.length breaks) (h0 : 0 < words.length ∧ words.length ≤ 1000) : OkA Try.prog 79 [.isl 1 (rows cInt words), .isl 1 (rows cInt breaks)] (· = .fr 27 1 (rows (cSl 1 cInt) (linesP words 0 breaks))) :=
  OkA.unnil 27 1 (fn_intro envOk fieldsOk mixed Try.func79 rfl fun κ X Y L Q m hQ => by
    have bl := (up_length breaks 0 (by omega) hb).1
    conv => cbv
    refine r_lenR m.sX fun n1 hn1 mn1 => ?_
    conv => cbv
    refine r_loopF (α := List (List Int) × Int × Int) m 32 [0, 6, 9, 10, 11] [⟨5, 41, 27, 1, 0⟩] (fun σ => [(0, .isl 1 (rows cInt words)), (5, .osl 41 0), (6, .int .i64 σ.2.1), (9, .isl 1 (rows cInt breaks)), (10, .int .i64 n1), (11, .int .i64 σ.2.2)]) (fun σ => [(41, 0, .row 27 1 (rows (cSl 1 cInt) σ.1))])
      (fun σ => (0 ≤ σ.2.2) ∧ (σ.2.2 ≤ n1) ∧ (linesP words 0 breaks = σ.1 ++ linesP words σ.2.1.toNat (breaks.drop σ.2.2.toNat)) ∧ (0 ≤ σ.2.1 ∧ σ.2.1 < words.length) ∧ (Up σ.2.1.toNat words.length (breaks.drop σ.2.2.toNat)) ∧ ((σ.1.length : Int) = σ.2.2)) (fun σ => (n1 - σ.2.2).toNat) ([], 0, 0) ?_ ?_ ?_ ?_
    · cbv
    · (try dsimp only); (try simp only [rows_cons, rows_nil]); cbv
    · exact ⟨(by (try dsimp only); first | omega | (simp only [List.length_nil]; omega) | (simp only [List.length_cons, List.length_nil]; omega)), (by (try dsimp only); first | omega | (simp only [List.length_nil]; omega) | (simp only [List.length_cons, List.length_nil]; omega)), (by (try dsimp only) <;> (rfl)), (by (try dsimp only) <;> first | omega | rfl | (simp [*]; done)), (by (try dsimp only) <;> (exact hb)), (by (try dsimp only) <;> first | omega | rfl | (simp [*]; done))⟩
    rintro ⟨out, from_, i1⟩ ⟨lo1, hi1, q, fb, ub, ll⟩ E hE F hF
    dsimp only at lo1 hi1 q fb ub ll
    conv => cbv
    refine r_lss m.sX (fun h1 => ?_) (fun h1 => ?_) <;> conv => cbv
    · refine r_index m.sX (by omega) (by omega) fun k hk => ?_
      conv => cbv
      have mk := get_mem hk
      have dk := drop_cons hk
      have kk := take_snoc hk
      have jk : (i1 + 1).toNat = Int.toNat i1 + 1 := by omega
      have vk := nth_some hk
      have ub2 := ub
      rw [dk] at ub2
      obtain ⟨⟨u1, u2⟩, u3⟩ := ub2
      refine r_islice (i := from_) (j := k) m.sX (by omega) (by omega) (by omega) fun zs1 hzs1 => ?_   -- zs1 = words[from_:k]
      have lzs1 : (zs1.length : Int) = k - from_ := by rw [hzs1]; first | done | (simp; done) | (simp; omega)
      have zl : zs1.length ≤ 1000 := by rw [hzs1, List.length_drop, List.length_take]; omega
      conv => cbv
      refine r_callF (fun l => PV.fr _ _ (rows _ l)) m.sX (l1Own_ok zs1 (by first | rfl | assumption | omega | (simp only [List.length_append, List.length_cons, List.length_nil] at *; omega))) fun v1 hv1 => ?_
      conv => cbv
      refine r_append1 (v1) m.sX rfl (by first | omega | (dsimp only; omega)) (by first | omega | (dsimp only; omega)) fun out_2 hout_2 => ?_
      conv => cbv
      have lout_2 : (out_2.length : Int) = out.length + 1 := by rw [hout_2]; first | done | (simp; done) | (simp; omega)
      refine r_addf m.sX (by omega) (by omega) fun r1 hr1 => ?_
      conv => cbv
      try have tr1 : Int.toNat r1 = Int.toNat i1 + 1 := by omega
      refine hE _ (out_2, k, r1) ?_ ?_ ⟨(by (try dsimp only); first | omega | (simp only [List.length_nil]; omega) | (simp only [List.length_cons, List.length_nil]; omega)), (by (try dsimp only); first | omega | (simp only [List.length_nil]; omega) | (simp only [List.length_cons, List.length_nil]; omega)), (by (try dsimp only) <;> (rw [q, dk, linesP, hout_2, hv1, hzs1, tr1, List.append_assoc]; rfl)), (by (try dsimp only) <;> first | omega | rfl | (simp [*]; done) | (rw [fb]; simp [*]; done)), (by (try dsimp only) <;> (rw [tr1]; exact u3)), (by (try dsimp only) <;> first | omega | rfl | (simp [*]; done) | (rw [ll]; simp [*]; done))⟩ (by first | omega | (dsimp only; omega))
      · cbv
      · cbv
    · have dz_i1 := drop_end (xs := breaks) (i := Int.toNat i1) (by omega)
      have tz_i1 := take_end (xs := breaks) (i := Int.toNat i1) (by omega)
      refine hF _ _ ?_
      conv => cbv
      refine r_islice' (i := from_) m.sX (by omega) (by omega) fun zs2 hzs2 => ?_   -- zs2 = words[from_:None]
      have lzs2 : (zs2.length : Int) = words.length - from_ := by rw [hzs2]; first | done | (simp; done) | (simp; omega)
      have zl : zs2.length ≤ 1000 := by rw [hzs2, List.length_drop]; omega
      conv => cbv
      refine r_callF (fun l => PV.fr _ _ (rows _ l)) m.sX (l1Own_ok zs2 (by first | rfl | assumption | omega | (simp only [List.length_append, List.length_cons, List.length_nil] at *; omega))) fun v2 hv2 => ?_
      conv => cbv
      refine r_append1 (v2) m.sX rfl (by first | omega | (dsimp only; omega)) (by first | omega | (dsimp only; omega)) fun zs3 hzs3 => ?_
      conv => cbv
      have lzs3 : (zs3.length : Int) = out.length + 1 := by rw [hzs3]; first | done | (simp; done) | (simp; omega)
      exact hQ (.fr 27 1 (rows (cSl 1 cInt) zs3)) (Eq.trans (by first | rfl | (simp only [lb, lbI, rows_cons, rows_nil, unnilT, unnil, unnilTI, unnilI]; done) | (simp only [lb, lbI, rows_cons, rows_nil, unnilT, unnil, unnilTI, unnilI]; rfl)) (congrArg (fun l => PV.fr 27 1 (rows (cSl 1 cInt) l)) (show zs3 = linesP words 0 breaks from by rw [hzs3, hv2, hzs2, q, dz_i1]; rfl))))   -- leaf 1

theorem lsum_no {r : JRule} {m acc : Int} {l : List Int} {t : List (List Int)} (ht : t ≠ []) (h : optL r m l = none) : lsumG r m acc (l :: t) = none := by
  rw [lsumG, if_neg ht, h]
theorem lsum_yes {r : JRule} {m acc c : Int} {l : List Int} {t : List (List Int)} (ht : t ≠ []) (h : optL r m l = some c) : lsumG r m acc (l :: t) = lsumG r m (acc + c) t := by
  rw [lsumG, if_neg ht, h]
theorem lineS_last {l : List Int} {r : JRule} {m c : Int} {b : Bool} (h : (c, b) = lineS l r m true) : c = 0 ∧ b = endL r m l := by
  rw [lineS, if_pos rfl] at h
  exact Prod.mk.inj h
theorem lineS_first {l : List Int} {r : JRule} {m c : Int} {b : Bool} (h : (c, b) = lineS l r m false) : optL r m l = if b then some c else none := by
  rw [lineS, if_neg (by simp)] at h
  cases b with
  | true => rw [if_pos rfl]; exact lineA_true h
  | false => rw [if_neg (by simp)]; exact lineA_false h
theorem specCostOfBreaks_ok (words : List Int) (r : JRule) (measure : Int) (breaks : List Int)  : OkA Try.prog 23 [.isl 1 (rows cInt words), .agg (cRule r), .int .i64 measure, .isl 1 (rows cInt breaks)] (· = ib (costPA words r measure breaks)) := by
  obtain ⟨rA, rB, rC⟩ := r
  try dsimp only at *
  exact fn_intro envOk fieldsOk mixed Try.func23 rfl fun κ X Y L Q m hQ => by
    conv => cbv
    refine r_callB m.sX (paAsked_ok words (rA, rB, rC) measure) (fun h1 => ?_) (fun h1 => ?_) <;> conv => cbv
    · have hp := askP_in h1
      try dsimp only at hp
      have sp := okPara_spec hp.para
      try dsimp only at sp
      have z4 := hp.rule; have z5 := hp.meas
      try dsimp only at z4
      refine r_callB m.sX (paBreaks_ok words breaks (by first | rfl | assumption | omega | (simp only [List.length_append, List.length_cons, List.length_nil] at *; omega))) (fun h2 => ?_) (fun h2 => ?_) <;> conv => cbv
      · have ub0 : Up 0 words.length breaks := rising_up _ 0 none (fun _ => rfl) (fun x e => by cases e) h2
        have bl := (up_length breaks 0 (by omega) ub0).1
        try dsimp only at bl
        refine r_callF (fun l => PV.fr _ _ (rows _ l)) m.sX (paLines_ok words breaks (by first | rfl | assumption | omega | (simp only [List.length_append, List.length_cons, List.length_nil] at *; omega)) (by first | rfl | assumption | omega | (simp only [List.length_append, List.length_cons, List.length_nil] at *; omega))) fun lines hlines => ?_
        conv => cbv
        try dsimp only at hlines
        have ll : lines.length = breaks.length + 1 := by rw [hlines, linesP_length]
        have lm := linesP_mem breaks 0 (by omega) ub0
        try dsimp only at lm
        rw [← hlines] at lm
        have cq : costPA words (rA, rB, rC) measure breaks = match lsumG (rA, rB, rC) measure 0 lines with | some c => (c, true) | none => (0, false) := by rw [hlines, lsum_path, pathG_zero, costPA, if_pos (by rw [h1, h2]; rfl)] <;> rfl
        refine r_lenR m.sX fun n1 hn1 mn1 => ?_
        conv => cbv
        refine r_loopF (α := Int × Int) m 56 [2, 10, 30, 31, 32] [⟨5, 41, 0, 0, 0⟩, ⟨11, 89, 27, 1, 0⟩] (fun σ => [(2, .int .i64 measure), (5, .optr 41 0 3 0 0), (10, .int .i64 σ.1), (11, .osl 89 0), (30, .osl 89 0), (31, .int .i64 n1), (32, .int .i64 σ.2)]) (fun σ => [(41, 0, .box [.int .i64 rA, .int .i64 rB, .int .i64 rC]), (89, 0, .row 27 1 (rows (cSl 1 cInt) lines))])
          (fun σ => (0 ≤ σ.2) ∧ (σ.2 ≤ n1) ∧ (lsumG (rA, rB, rC) measure 0 lines = lsumG (rA, rB, rC) measure σ.1 (lines.drop σ.2.toNat)) ∧ (0 ≤ σ.1 ∧ σ.1 ≤ 58320 * σ.2)) (fun σ => (n1 - σ.2).toNat) (0, 0) ?_ ?_ ?_ ?_
        · cbv
        · cbv
        · exact ⟨(by (try dsimp only); first | omega | (simp only [List.length_nil]; omega) | (simp only [List.length_cons, List.length_nil]; omega)), (by (try dsimp only); first | omega | (simp only [List.length_nil]; omega) | (simp only [List.length_cons, List.length_nil]; omega)), (by (try dsimp only) <;> (rfl)), (by (try dsimp only) <;> first | omega | rfl | (simp [*]; done))⟩
        rintro ⟨sum, i1⟩ ⟨lo1, hi1, q, cb⟩ E hE F hF
        dsimp only at lo1 hi1 q cb
        conv => cbv
        refine r_lss m.sX (fun h3 => ?_) (fun h3 => ?_) <;> conv => cbv
        · refine r_oindex m.sX (by omega) (by omega) ?_
          conv => cbv
          obtain ⟨l, hl⟩ := get_ex (xs := lines) (i := Int.toNat i1) (by omega)
          have ml := get_mem hl
          have dl := drop_cons hl
          have kl := take_snoc hl
          have jl : (i1 + 1).toNat = Int.toNat i1 + 1 := by omega
          obtain ⟨l1, l2, l3⟩ := lm l (get_mem hl)
          have l4 : ∀ n ∈ l, 1 ≤ n ∧ n ≤ 600 := fun n hn => sp.1 n (l1 n hn)
          have dl := drop_cons hl
          try dsimp only at dl
          refine r_oload m.sX hl (Nat.le_of_ble_eq_true rfl) ?_
          conv => cbv
          refine r_lenR m.sX fun n2 hn2 mn2 => ?_
          conv => cbv
          refine r_subf m.sX (by omega) (by omega) fun r1 hr1 => ?_
          conv => cbv
          refine r_eql m.sX (fun h4 => ?_) (fun h4 => ?_) <;> conv => cbv
          · have de : lines.drop (i1.toNat + 1) = [] := List.drop_eq_nil_of_le (by omega)
            refine r_callF ib m.sX (paLine_ok l (rA, rB, rC) measure true (by first | rfl | assumption | omega | (simp only [List.length_append, List.length_cons, List.length_nil] at *; omega)) (by first | rfl | assumption | omega | (simp only [List.length_append, List.length_cons, List.length_nil] at *; omega)) (by first | rfl | assumption | omega | (simp only [List.length_append, List.length_cons, List.length_nil] at *; omega)) (by first | rfl | assumption | omega | (simp only [List.length_append, List.length_cons, List.length_nil] at *; omega))) fun v hcost => ?_
            obtain ⟨cost, ok⟩ := v
            conv => cbv
            try dsimp only at hcost
            obtain ⟨c0, be⟩ := lineS_last hcost
            rcases Bool.eq_false_or_eq_true ok with rfl | rfl <;> conv => cbv
            · refine r_addf m.sX (by omega) (by omega) fun sum_2 hsum_2 => ?_
              conv => cbv
              refine r_addf m.sX (by omega) (by omega) fun r2 hr2 => ?_
              conv => cbv
              try have tr2 : Int.toNat r2 = Int.toNat i1 + 1 := by omega
              refine hE _ (sum_2, r2) ?_ ?_ ⟨(by (try dsimp only); first | omega | (simp only [List.length_nil]; omega) | (simp only [List.length_cons, List.length_nil]; omega)), (by (try dsimp only); first | omega | (simp only [List.length_nil]; omega) | (simp only [List.length_cons, List.length_nil]; omega)), (by (try dsimp only) <;> (first | (rw [q, dl, tr2, de, show lsumG (rA, rB, rC) measure sum [l] = some sum from (by rw [lsumG, if_pos rfl, if_pos be.symm]), hsum_2, c0, Int.add_zero]; rfl) | (rw [q, dl, lsum_yes de lo, tr2, hsum_3]))), (by (try dsimp only) <;> first | omega | rfl | (simp [*]; done) | (rw [cb]; simp [*]; done))⟩ (by first | omega | (dsimp only; omega))
              · cbv
              · cbv
            · refine hF _ _ ?_
              conv => cbv
              exact hQ (.tup [.int .i64 0, .bool false]) (Eq.trans (by first | rfl | (simp only [lb, lbI, rows_cons, rows_nil, unnilT, unnil, unnilTI, unnilI]; done) | (simp only [lb, lbI, rows_cons, rows_nil, unnilT, unnil, unnilTI, unnilI]; rfl)) (congrArg (ib) (show (0, false) = costPA words (rA, rB, rC) measure breaks from by rw [cq, q, dl, de, lsumG, if_pos rfl, if_neg (by rw [← be]; simp)])))   -- leaf 1
          · have de : lines.drop (i1.toNat + 1) ≠ [] := fun e => by have := congrArg List.length e; simp at this; omega
            refine r_callF ib m.sX (paLine_ok l (rA, rB, rC) measure false (by first | rfl | assumption | omega | (simp only [List.length_append, List.length_cons, List.length_nil] at *; omega)) (by first | rfl | assumption | omega | (simp only [List.length_append, List.length_cons, List.length_nil] at *; omega)) (by first | rfl | assumption | omega | (simp only [List.length_append, List.length_cons, List.length_nil] at *; omega)) (by first | rfl | assumption | omega | (simp only [List.length_append, List.length_cons, List.length_nil] at *; omega))) fun v hcost_2 => ?_
            obtain ⟨cost_2, ok_2⟩ := v
            conv => cbv
            try dsimp only at hcost_2
            have lo := lineS_first hcost_2
            try dsimp only at lo
            rcases Bool.eq_false_or_eq_true ok_2 with rfl | rfl <;> conv => cbv
            · rw [if_pos rfl] at lo
              have cl := optL_bound l4 (by omega) z4 z5 lo
              try dsimp only at cl
              refine r_addf m.sX (by omega) (by omega) fun sum_3 hsum_3 => ?_
              conv => cbv
              refine r_addf m.sX (by omega) (by omega) fun r3 hr3 => ?_
              conv => cbv
              try have tr3 : Int.toNat r3 = Int.toNat i1 + 1 := by omega
              refine hE _ (sum_3, r3) ?_ ?_ ⟨(by (try dsimp only); first | omega | (simp only [List.length_nil]; omega) | (simp only [List.length_cons, List.length_nil]; omega)), (by (try dsimp only); first | omega | (simp only [List.length_nil]; omega) | (simp only [List.length_cons, List.length_nil]; omega)), (by (try dsimp only) <;> (first | (rw [q, dl, tr3, de, show lsumG (rA, rB, rC) measure sum [l] = some sum from (by rw [lsumG, if_pos rfl, if_pos be.symm]), hsum_2, c0, Int.add_zero]; rfl) | (rw [q, dl, lsum_yes de lo, tr3, hsum_3]))), (by (try dsimp only) <;> first | omega | rfl | (simp [*]; done) | (rw [cb]; simp [*]; done))⟩ (by first | omega | (dsimp only; omega))
              · cbv
              · cbv
            · rw [if_neg (by simp)] at lo
              refine hF _ _ ?_
              conv => cbv
              exact hQ (.tup [.int .i64 0, .bool false]) (Eq.trans (by first | rfl | (simp only [lb, lbI, rows_cons, rows_nil, unnilT, unnil, unnilTI, unnilI]; done) | (simp only [lb, lbI, rows_cons, rows_nil, unnilT, unnil, unnilTI, unnilI]; rfl)) (congrArg (ib) (show (0, false) = costPA words (rA, rB, rC) measure breaks from by rw [cq, q, dl, lsum_no de lo])))   -- leaf 2
        · have dz_i1 := drop_end (xs := lines) (i := Int.toNat i1) (by omega)
          have tz_i1 := take_end (xs := lines) (i := Int.toNat i1) (by omega)
          refine hF _ _ ?_
          conv => cbv
          exact hQ (.tup [.int .i64 sum, .bool true]) (Eq.trans (by first | rfl | (simp only [lb, lbI, rows_cons, rows_nil, unnilT, unnil, unnilTI, unnilI]; done) | (simp only [lb, lbI, rows_cons, rows_nil, unnilT, unnil, unnilTI, unnilI]; rfl)) (congrArg (ib) (show (sum, true) = costPA words (rA, rB, rC) measure breaks from by rw [cq, q, List.drop_eq_nil_of_le (by omega)]; rfl)))   -- leaf 3
      · exact hQ (.tup [.int .i64 0, .bool false]) (Eq.trans (by first | rfl | (simp only [lb, lbI, rows_cons, rows_nil, unnilT, unnil, unnilTI, unnilI]; done) | (simp only [lb, lbI, rows_cons, rows_nil, unnilT, unnil, unnilTI, unnilI]; rfl)) (congrArg (ib) (show (0, false) = costPA words (rA, rB, rC) measure breaks from by rw [costPA, if_neg (by rw [h1, h2]; simp)])))   -- leaf 4
    · exact hQ (.tup [.int .i64 0, .bool false]) (Eq.trans (by first | rfl | (simp only [lb, lbI, rows_cons, rows_nil, unnilT, unnil, unnilTI, unnilI]; done) | (simp only [lb, lbI, rows_cons, rows_nil, unnilT, unnil, unnilTI, unnilI]; rfl)) (congrArg (ib) (show (0, false) = costPA words (rA, rB, rC) measure breaks from by rw [costPA, if_neg (by rw [h1]; simp)])))   -- leaf 5

theorem LinesOfBreaks_ok (words : List Int) (breaks : List Int)  : OkA Try.prog 31 [.isl 1 (rows cInt words), .isl 1 (rows cInt breaks)] (· = (lb 27 1 (cSl 1 cInt)) (linesPA words breaks)) :=
  OkA.unnil 27 1 (fn_intro envOk fieldsOk mixed Try.func31 rfl fun κ X Y L Q m hQ => by
    conv => cbv
    refine r_callB m.sX (isParagraph_ok words) (fun h1 => ?_) (fun h1 => ?_) <;> conv => cbv
    · have sp := okPara_spec h1
      refine r_callB m.sX (areBreaks_ok words breaks (by first | rfl | assumption | omega | (simp only [List.length_append, List.length_cons, List.length_nil] at *; omega))) (fun h2 => ?_) (fun h2 => ?_) <;> conv => cbv
      · have ub0 : Up 0 words.length breaks := rising_up _ 0 none (fun _ => rfl) (fun x e => by cases e) h2
        have bl := (up_length breaks 0 (by omega) ub0).1
        refine r_append0R m.sX (by first | omega | (dsimp only; omega)) (by first | omega | (dsimp only; omega)) fun zs1 hzs1 => ?_
        conv => cbv
        have lzs1 : (zs1.length : Int) = breaks.length := by rw [hzs1]; first | done | (simp; done) | (simp; omega)
        refine r_lenR m.sX fun n1 hn1 mn1 => ?_
        conv => cbv
        refine r_append1 (n1) m.sX rfl (by first | omega | (dsimp only; omega)) (by first | omega | (dsimp only; omega)) fun zs2 hzs2 => ?_
        conv => cbv
        have lzs2 : (zs2.length : Int) = zs1.length + 1 := by rw [hzs2]; first | done | (simp; done) | (simp; omega)
        have zq : zs2 = breaks ++ [(words.length : Int)] := by rw [hzs2, hzs1, hn1]
        have zl : zs2.length = breaks.length + 1 := by rw [zq]; simp
        have ut0 := upT_of breaks 0 (by omega) ub0
        rw [← zq] at ut0
        refine r_lenR m.sX fun n2 hn2 mn2 => ?_
        conv => cbv
        refine r_loopF (α := List (List Int) × Int × Int) m 45 [0, 7, 28, 29] [⟨6, 49, 27, 1, 0⟩, ⟨27, 217, 3, 1, 0⟩] (fun σ => [(0, .isl 1 (rows cInt words)), (6, .osl 49 0), (7, .int .i64 σ.2.1), (27, .osl 217 0), (28, .int .i64 n2), (29, .int .i64 σ.2.2)]) (fun σ => [(49, 0, .row 27 1 (rows (cSl 1 cInt) σ.1)), (217, 0, .row 3 1 (rows cInt zs2))])
          (fun σ => (0 ≤ σ.2.2) ∧ (σ.2.2 ≤ n2) ∧ (linesP words 0 breaks = σ.1 ++ linesT words σ.2.1.toNat (zs2.drop σ.2.2.toNat)) ∧ (0 ≤ σ.2.1 ∧ σ.2.1 ≤ words.length) ∧ (UpT σ.2.1.toNat words.length (zs2.drop σ.2.2.toNat)) ∧ ((σ.1.length : Int) = σ.2.2)) (fun σ => (n2 - σ.2.2).toNat) ([], 0, 0) ?_ ?_ ?_ ?_
        · cbv
        · (try dsimp only); (try simp only [rows_cons, rows_nil]); cbv
        · exact ⟨(by (try dsimp only); first | omega | (simp only [List.length_nil]; omega) | (simp only [List.length_cons, List.length_nil]; omega)), (by (try dsimp only); first | omega | (simp only [List.length_nil]; omega) | (simp only [List.length_cons, List.length_nil]; omega)), (by (try dsimp only) <;> (rw [← linesT_end, zq]; rfl)), (by (try dsimp only) <;> first | omega | rfl | (simp [*]; done)), (by (try dsimp only) <;> (exact ut0)), (by (try dsimp only) <;> first | omega | rfl | (simp [*]; done))⟩
        rintro ⟨lines, from_, i1⟩ ⟨lo1, hi1, q, fb, ub, ll⟩ E hE F hF
        dsimp only at lo1 hi1 q fb ub ll
        conv => cbv
        refine r_lss m.sX (fun h3 => ?_) (fun h3 => ?_) <;> conv => cbv
        · refine r_oindex m.sX (by omega) (by omega) ?_
          conv => cbv
          obtain ⟨to_, hto_⟩ := get_ex (xs := zs2) (i := Int.toNat i1) (by omega)
          have mto_ := get_mem hto_
          have dto_ := drop_cons hto_
          have kto_ := take_snoc hto_
          have jto_ : (i1 + 1).toNat = Int.toNat i1 + 1 := by omega
          have vto_ := nth_some hto_
          have dto := drop_cons hto_
          have ub2 := ub
          rw [dto] at ub2
          obtain ⟨⟨u1, u2⟩, u3⟩ := ub2
          refine r_oload m.sX hto_ (Nat.le_of_ble_eq_true rfl) ?_
          conv => cbv
          refine r_islice (i := from_) (j := to_) m.sX (by omega) (by omega) (by omega) fun zs3 hzs3 => ?_   -- zs3 = words[from_:to_]
          have lzs3 : (zs3.length : Int) = to_ - from_ := by rw [hzs3]; first | done | (simp; done) | (simp; omega)
          have zl3 : zs3.length ≤ 1000 := by rw [hzs3, List.length_drop, List.length_take]; omega
          conv => cbv
          refine r_append0R m.sX (by first | omega | (dsimp only; omega)) (by first | omega | (dsimp only; omega)) fun zs4 hzs4 => ?_
          conv => cbv
          have lzs4 : (zs4.length : Int) = zs3.length := by rw [hzs4]; first | done | (simp; done) | (simp; omega)
          refine r_append1 (zs4) m.sX rfl (by first | omega | (dsimp only; omega)) (by first | omega | (dsimp only; omega)) fun lines_2 hlines_2 => ?_
          conv => cbv
          have llines_2 : (lines_2.length : Int) = lines.length + 1 := by rw [hlines_2]; first | done | (simp; done) | (simp; omega)
          refine r_addf m.sX (by omega) (by omega) fun r1 hr1 => ?_
          conv => cbv
          try have tr1 : Int.toNat r1 = Int.toNat i1 + 1 := by omega
          refine hE _ (lines_2, to_, r1) ?_ ?_ ⟨(by (try dsimp only); first | omega | (simp only [List.length_nil]; omega) | (simp only [List.length_cons, List.length_nil]; omega)), (by (try dsimp only); first | omega | (simp only [List.length_nil]; omega) | (simp only [List.length_cons, List.length_nil]; omega)), (by (try dsimp only) <;> (rw [q, dto, linesT, hlines_2, hzs4, hzs3, tr1, List.append_assoc]; rfl)), (by (try dsimp only) <;> first | omega | rfl | (simp [*]; done) | (rw [fb]; simp [*]; done)), (by (try dsimp only) <;> (rw [tr1]; exact u3)), (by (try dsimp only) <;> first | omega | rfl | (simp [*]; done) | (rw [ll]; simp [*]; done))⟩ (by first | omega | (dsimp only; omega))
          · cbv
          · cbv
        · have dz_i1 := drop_end (xs := zs2) (i := Int.toNat i1) (by omega)
          have tz_i1 := take_end (xs := zs2) (i := Int.toNat i1) (by omega)
          refine hF _ _ ?_
          conv => cbv
          exact hQ (.tup [.fr 27 1 (rows (cSl 1 cInt) lines), .bool true]) (Eq.trans (by first | rfl | (simp only [lb, lbI, rows_cons, rows_nil, unnilT, unnil, unnilTI, unnilI]; done) | (simp only [lb, lbI, rows_cons, rows_nil, unnilT, unnil, unnilTI, unnilI]; rfl)) (congrArg ((lb 27 1 (cSl 1 cInt))) (show (lines, true) = linesPA words breaks from by rw [linesPA, if_pos (by rw [h1, h2]; rfl), q, List.drop_eq_nil_of_le (by omega)]; simp [linesT])))   -- leaf 1
      · exact hQ (.tup [.fr 27 1 [], .bool false]) (Eq.trans (by first | rfl | (simp only [lb, lbI, rows_cons, rows_nil, unnilT, unnil, unnilTI, unnilI]; done) | (simp only [lb, lbI, rows_cons, rows_nil, unnilT, unnil, unnilTI, unnilI]; rfl)) (congrArg ((lb 27 1 (cSl 1 cInt))) (show ([], false) = linesPA words breaks from by rw [linesPA, if_neg (by rw [h1, h2]; simp)])))   -- leaf 2
    · exact hQ (.tup [.fr 27 1 [], .bool false]) (Eq.trans (by first | rfl | (simp only [lb, lbI, rows_cons, rows_nil, unnilT, unnil, unnilTI, unnilI]; done) | (simp only [lb, lbI, rows_cons, rows_nil, unnilT, unnil, unnilTI, unnilI]; rfl)) (congrArg ((lb 27 1 (cSl 1 cInt))) (show ([], false) = linesPA words breaks from by rw [linesPA, if_neg (by rw [h1]; simp)]))))   -- leaf 3

theorem specLinesOfBreaks_ok (words : List Int) (breaks : List Int)  : OkA Try.prog 33 [.isl 1 (rows cInt words), .isl 1 (rows cInt breaks)] (· = (lb 27 1 (cSl 1 cInt)) (linesPA words breaks)) :=
  OkA.unnil 27 1 (fn_intro envOk fieldsOk mixed Try.func33 rfl fun κ X Y L Q m hQ => by
    conv => cbv
    refine r_callB m.sX (paWords_ok words) (fun h1 => ?_) (fun h1 => ?_) <;> conv => cbv
    · have sp := okPara_spec h1
      refine r_callB m.sX (paBreaks_ok words breaks (by first | rfl | assumption | omega | (simp only [List.length_append, List.length_cons, List.length_nil] at *; omega))) (fun h2 => ?_) (fun h2 => ?_) <;> conv => cbv
      · have ub0 : Up 0 words.length breaks := rising_up _ 0 none (fun _ => rfl) (fun x e => by cases e) h2
        refine r_callF (fun l => PV.fr _ _ (rows _ l)) m.sX (paLines_ok words breaks (by first | rfl | assumption | omega | (simp only [List.length_append, List.length_cons, List.length_nil] at *; omega)) (by first | rfl | assumption | omega | (simp only [List.length_append, List.length_cons, List.length_nil] at *; omega))) fun v1 hv1 => ?_
        conv => cbv
        exact hQ (.tup [.fr 27 1 (rows (cSl 1 cInt) v1), .bool true]) (Eq.trans (by first | rfl | (simp only [lb, lbI, rows_cons, rows_nil, unnilT, unnil, unnilTI, unnilI]; done) | (simp only [lb, lbI, rows_cons, rows_nil, unnilT, unnil, unnilTI, unnilI]; rfl)) (congrArg ((lb 27 1 (cSl 1 cInt))) (show (v1, true) = linesPA words breaks from by rw [linesPA, if_pos (by rw [h1, h2]; rfl), hv1])))   -- leaf 1
      · exact hQ (.tup [.nil, .bool false]) (Eq.trans (by first | rfl | (simp only [lb, lbI, rows_cons, rows_nil, unnilT, unnil, unnilTI, unnilI]; done) | (simp only [lb, lbI, rows_cons, rows_nil, unnilT, unnil, unnilTI, unnilI]; rfl)) (congrArg ((lb 27 1 (cSl 1 cInt))) (show ([], false) = linesPA words breaks from by rw [linesPA, if_neg (by rw [h1, h2]; simp)])))   -- leaf 2
    · exact hQ (.tup [.nil, .bool false]) (Eq.trans (by first | rfl | (simp only [lb, lbI, rows_cons, rows_nil, unnilT, unnil, unnilTI, unnilI]; done) | (simp only [lb, lbI, rows_cons, rows_nil, unnilT, unnil, unnilTI, unnilI]; rfl)) (congrArg ((lb 27 1 (cSl 1 cInt))) (show ([], false) = linesPA words breaks from by rw [linesPA, if_neg (by rw [h1]; simp)]))))   -- leaf 3

end Go.Proofs.Ytalookmhhkojeaa.Ai
