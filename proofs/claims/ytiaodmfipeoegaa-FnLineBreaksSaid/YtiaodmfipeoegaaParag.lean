/- Contracts of the functions on paragraphs: lines, breaks and their costs. -/
import Derived.Test.YtiaodmfipeoegaaParagLaw
import Derived.Test.YtiaodmfipeoegaaLit
import Derived.Test.YtiaodmfipeoegaaThaw
import Derived.Test.YtiaodmfipeoegaaTri
namespace Go.Proofs.Ytiaodmfipeoegaa.Ai
open Go Go.Proofs
set_option linter.unusedSimpArgs false
set_option maxRecDepth 10000
set_option maxHeartbeats 4000000
set_option linter.unusedVariables false
theorem isParagraph_ok (words : List Int)  : OkA Try.prog 119 [.isl 1 (rows cInt words)] (· = .bool (okPara words)) :=
  fn_intro envOk fieldsOk mixed Try.func119 rfl fun κ X Y L Q m hQ => by
    conv => cbv
    refine r_lenR m.sX fun n1 hn1 mn1 => ?_
    conv => cbv
    refine r_loopF (α := Int) m 18 [0, 5, 6, 7] [] (fun σ => [(0, .isl 1 (rows cInt words)), (5, .isl 1 (rows cInt words)), (6, .int .i64 n1), (7, .int .i64 σ)]) (fun σ => [])
      (fun σ => (0 ≤ σ) ∧ (σ ≤ n1) ∧ (allB words 1 600 = allB (words.drop σ.toNat) 1 600)) (fun σ => (n1 - σ).toNat) 0 ?_ ?_ ?_ ?_
    · cbv
    · cbv
    · exact ⟨(by (try dsimp only); first | omega | (simp; omega)), (by (try dsimp only); first | omega | (simp; omega)), (by (try dsimp only) <;> first | omega | rfl | (simp [*]; done))⟩
    rintro i1 ⟨lo1, hi1, q⟩ E hE F hF
    conv => cbv
    refine r_lss m.sX (fun h1 => ?_) (fun h1 => ?_) <;> conv => cbv
    · refine r_index m.sX (by omega) (by omega) fun n hn => ?_
      conv => cbv
      have mn := get_mem hn
      have dn := drop_cons hn
      have kn := take_snoc hn
      have jn : (i1 + 1).toNat = Int.toNat i1 + 1 := by omega
      have vn := nth_some hn
      refine r_callB m.sX (within_ok n 1 600) (fun h2 => ?_) (fun h2 => ?_) <;> conv => cbv
      · refine r_addf m.sX (by omega) (by omega) fun r1 hr1 => ?_
        conv => cbv
        try have tr1 : Int.toNat r1 = Int.toNat i1 + 1 := by omega
        refine hE _ r1 ?_ ?_ ⟨(by (try dsimp only); first | omega | (simp; omega)), (by (try dsimp only); first | omega | (simp; omega)), (by (try dsimp only) <;> (rw [q, dn, tr1, allB_cons]; simp [*]))⟩ (by first | omega | (dsimp only; omega))
        · cbv
        · cbv
      · refine hF _ _ ?_
        conv => cbv
        exact hQ _ (congrArg PV.bool (by rw [okPara, q, dn, allB_cons]; simp [*]))
    · have dz_i1 := drop_end (xs := words) (i := Int.toNat i1) (by omega)
      have tz_i1 := take_end (xs := words) (i := Int.toNat i1) (by omega)
      refine hF _ _ ?_
      conv => cbv
      refine r_lenR m.sX fun n2 hn2 mn2 => ?_
      conv => cbv
      refine r_callB m.sX (within_ok n2 1 24) (fun h3 => ?_) (fun h3 => ?_) <;> conv => cbv
      · exact hQ _ (congrArg PV.bool (by rw [okPara, q, dz_i1, allB_nil, ← hn2, h3]; rfl))
      · exact hQ _ (congrArg PV.bool (by rw [okPara, q, dz_i1, allB_nil, ← hn2, h3]; rfl))

theorem paWords_ok (words : List Int)  : OkA Try.prog 145 [.isl 1 (rows cInt words)] (· = .bool (okPara words)) :=
  fn_intro envOk fieldsOk mixed Try.func145 rfl fun κ X Y L Q m hQ => by
    conv => cbv
    refine r_lenR m.sX fun n1 hn1 mn1 => ?_
    conv => cbv
    refine r_callB m.sX (l1In_ok n1 1 24) (fun h1 => ?_) (fun h1 => ?_) <;> conv => cbv
    · refine r_callB m.sX (l1All_ok words 1 600) (fun h2 => ?_) (fun h2 => ?_) <;> conv => cbv
      · exact hQ _ (congrArg PV.bool (by first | rfl | omega | (simp [okPara, *]; done) | (subst_vars; simp [okPara, *]; done)))
      · exact hQ _ (congrArg PV.bool (by first | rfl | omega | (simp [okPara, *]; done) | (subst_vars; simp [okPara, *]; done)))
    · exact hQ _ (congrArg PV.bool (by first | rfl | omega | (simp [okPara, *]; done) | (subst_vars; simp [okPara, *]; done)))

theorem isSetParagraph_ok (words : List Int) (r : JRule) (measure : Int)  : OkA Try.prog 101 [.isl 1 (rows cInt words), .agg (cRule r), .int .i64 measure] (· = .bool (askP words r measure)) := by
  obtain ⟨rA, rB, rC⟩ := r
  try dsimp only at *
  exact fn_intro envOk fieldsOk mixed Try.func101 rfl fun κ X Y L Q m hQ => by
    conv => cbv
    refine r_callB m.sX (isParagraph_ok words) (fun h1 => ?_) (fun h1 => ?_) <;> conv => cbv
    · refine r_callB m.sX (IsRule_ok (rA, rB, rC)) (fun h2 => ?_) (fun h2 => ?_) <;> conv => cbv
      · refine r_callB m.sX (isMeasure_ok measure) (fun h3 => ?_) (fun h3 => ?_) <;> conv => cbv
        · exact hQ _ (congrArg PV.bool (by simp [askP, *]))
        · exact hQ _ (congrArg PV.bool (by simp [askP, *]))
      · exact hQ _ (congrArg PV.bool (by simp [askP, *]))
    · exact hQ _ (congrArg PV.bool (by simp [askP, *]))

theorem paAsked_ok (words : List Int) (r : JRule) (measure : Int)  : OkA Try.prog 103 [.isl 1 (rows cInt words), .agg (cRule r), .int .i64 measure] (· = .bool (askP words r measure)) := by
  obtain ⟨rA, rB, rC⟩ := r
  try dsimp only at *
  exact fn_intro envOk fieldsOk mixed Try.func103 rfl fun κ X Y L Q m hQ => by
    conv => cbv
    refine r_callB m.sX (paWords_ok words) (fun h1 => ?_) (fun h1 => ?_) <;> conv => cbv
    · refine r_callB m.sX (juRule_ok (rA, rB, rC)) (fun h2 => ?_) (fun h2 => ?_) <;> conv => cbv
      · refine r_callB m.sX (juMeasure_ok measure) (fun h3 => ?_) (fun h3 => ?_) <;> conv => cbv
        · exact hQ _ (congrArg PV.bool (by simp [askP, *]))
        · exact hQ _ (congrArg PV.bool (by simp [askP, *]))
      · exact hQ _ (congrArg PV.bool (by simp [askP, *]))
    · exact hQ _ (congrArg PV.bool (by simp [askP, *]))

theorem areBreaks_ok (words : List Int) (breaks : List Int) (hl : words.length ≤ 1000000) : OkA Try.prog 120 [.isl 1 (rows cInt words), .isl 1 (rows cInt breaks)] (· = .bool (rising 1 ((words.length : Int) - 1) none breaks)) :=
  fn_intro envOk fieldsOk mixed Try.func120 rfl fun κ X Y L Q m hQ => by
    conv => cbv
    refine r_lenR m.sX fun n1 hn1 mn1 => ?_
    conv => cbv
    refine r_subf m.sX (by omega) (by omega) fun r1 hr1 => ?_
    conv => cbv
    refine r_callB m.sX (increases_ok breaks 1 r1) (fun h1 => ?_) (fun h1 => ?_) <;> conv => cbv
    · exact hQ _ (congrArg PV.bool (by rw [← hn1, ← hr1, h1]))
    · exact hQ _ (congrArg PV.bool (by rw [← hn1, ← hr1, h1]))

theorem just_small {ws : List Int} {r : JRule} {m : Int} {xs : List Int} {b : Bool} (hj : Jin ws r m) (h : (xs, b) = justF ws r m) : (∀ n ∈ xs, 0 ≤ n ∧ n ≤ 54) ∧ (xs.length : Int) ≤ 20 := by
  unfold justF at h
  have s1 := line_sum hj.line
  have s2 := okRule_spec hj.rule
  split at h
  · rename_i hf
    rw [(Prod.mk.inj h).1]
    have sa := spaces_all hj hf
    refine ⟨fun n hn => by have := sa n hn; omega, ?_⟩
    rw [spaces_length, gapsF]; omega
  · rw [(Prod.mk.inj h).1]
    exact ⟨fun n hn => (by cases hn), by simp⟩
theorem lineA_just {ws : List Int} {r : JRule} {m c : Int} {xs : List Int} {b : Bool} (hl : (ws.length : Int) ≤ 20) (h : (xs, b) = justF ws r m) (hc : c = costF r xs) : (c, b) = lineA ws r m := by
  subst hc
  unfold justF at h
  unfold lineA optL
  by_cases hf : fitsJ ws r m = true
  · rw [if_pos hf] at h
    rw [if_pos ⟨hl, hf⟩, (Prod.mk.inj h).1, (Prod.mk.inj h).2]
  · rw [if_neg hf] at h
    rw [if_neg (fun e => hf e.2), (Prod.mk.inj h).1, (Prod.mk.inj h).2]
    simp [costF]
theorem lineA_long {ws : List Int} {r : JRule} {m : Int} (hl : 20 < (ws.length : Int)) : lineA ws r m = (0, false) := by
  unfold lineA optL
  rw [if_neg (fun e => by omega)]
theorem lineA_loose {ws : List Int} {r : JRule} {m : Int} (hf : fitsJ ws r m = false) : lineA ws r m = (0, false) := by
  unfold lineA optL
  rw [if_neg (fun e => by rw [hf] at e; exact absurd e.2 (by simp))]
theorem words_fits {ws : List Int} (h1 : ∀ n ∈ ws, 1 ≤ n ∧ n ≤ 600) (h2 : (ws.length : Int) ≤ 24) : SumFits ws ∧ 0 ≤ ws.sum ∧ ws.sum ≤ 14400 := by
  have := sum_bound (ws := ws) (B := 600) (by omega) fun n hn => by have := h1 n hn; omega
  exact ⟨sumfits_of 600 (fun n hn => by have := h1 n hn; omega) (by omega), by omega, by omega⟩
theorem lineCost_ok (words : List Int) (r : JRule) (measure : Int) (hw : ∀ n ∈ words, 1 ≤ n ∧ n ≤ 600) (hl : 1 ≤ (words.length : Int) ∧ (words.length : Int) ≤ 24) (hr : okRule r = true) (hm : inB measure 1 2000 = true) : OkA Try.prog 106 [.isl 1 (rows cInt words), .agg (cRule r), .int .i64 measure] (· = ib (lineA words r measure)) := by
  obtain ⟨rA, rB, rC⟩ := r
  try dsimp only at *
  exact fn_intro envOk fieldsOk mixed Try.func106 rfl fun κ X Y L Q m hQ => by
    conv => cbv
    refine r_lenR m.sX fun n1 hn1 mn1 => ?_
    conv => cbv
    refine r_gtr m.sX (fun h1 => ?_) (fun h1 => ?_) <;> conv => cbv
    · exact hQ (.tup [.int .i64 0, .bool false]) (Eq.trans (by first | rfl | (simp only [lb, lbI, rows_cons, rows_nil, unnilT, unnil, unnilTI, unnilI]; try rfl)) (congrArg (ib) (show (0, false) = lineA words (rA, rB, rC) measure from by rw [lineA_long (by omega)])))
    · have hj : Jin words (rA, rB, rC) measure := ⟨line_ok hw hl.1 (by omega), hr, hm⟩
      refine r_callF (lb 3 1 cInt) m.sX (justify_ok words (rA, rB, rC) measure (by first | rfl | assumption | omega | (simp at *; omega))) fun v hspaces => ?_
      obtain ⟨spaces, ok⟩ := v
      conv => cbv
      try dsimp only at hspaces
      obtain ⟨j1, j2⟩ := just_small hj hspaces
      refine .inl (r_callFO intPV m.sX ((costOf_ok spaces (rA, rB, rC) (by first | rfl | assumption | omega | (simp at *; omega)) (by first | rfl | assumption | omega | (simp at *; omega)) (by first | rfl | assumption | omega | (simp at *; omega))).ok flat_int) fun r1 hr1 => ?_)
      conv => cbv
      try dsimp only at hr1
      exact hQ (.tup [.int .i64 r1, .bool ok]) (Eq.trans (by first | rfl | (simp only [lb, lbI, rows_cons, rows_nil, unnilT, unnil, unnilTI, unnilI]; try rfl)) (congrArg (ib) (show (r1, ok) = lineA words (rA, rB, rC) measure from by exact lineA_just (by omega) hspaces (by assumption))))

theorem canEnd_ok (words : List Int) (r : JRule) (measure : Int) (hw : ∀ n ∈ words, 1 ≤ n ∧ n ≤ 600) (hl : 1 ≤ (words.length : Int) ∧ (words.length : Int) ≤ 24) (hr : okRule r = true) : OkA Try.prog 109 [.isl 1 (rows cInt words), .agg (cRule r), .int .i64 measure] (· = .bool (endL r measure words)) := by
  obtain ⟨rA, rB, rC⟩ := r
  try dsimp only at *
  exact fn_intro envOk fieldsOk mixed Try.func109 rfl fun κ X Y L Q m hQ => by
    obtain ⟨f1, f2, f3⟩ := words_fits hw hl.2
    have s2 := okRule_spec hr
    try dsimp only at s2
    conv => cbv
    refine r_draw m (by kernel_rfl) ?_
    conv => cbv
    refine r_lenRS m.sY (by omega) fun n1 hn1 => ?_
    conv => cbv
    refine r_leq m.sY (fun h1 => ?_) (fun h1 => ?_) <;> conv => cbv
    · refine r_callFS (PV.int .i64) m.sY (sum_ok words (by first | rfl | assumption | omega | (simp at *; omega))) trivial fun r1 hr1 => ?_
      conv => cbv
      try dsimp only at hr1
      refine r_lenRS m.sY (by omega) fun n2 hn2 => ?_
      conv => cbv
      refine r_subf m.sY (by omega) (by omega) fun r2 hr2 => ?_
      conv => cbv
      have g1 := gaps_mul (show 0 ≤ r2 ∧ r2 ≤ 19 by omega) (show 1 ≤ rB ∧ rB ≤ 54 by omega)
      try dsimp only at g1
      refine r_mulf m.sY (by first | omega | (subst_vars; omega)) (by first | omega | (subst_vars; omega)) fun r3 hr3 => ?_
      conv => cbv
      have e3 : gapsF words * rB = r3 := by rw [gapsF, ← hn2, ← hr2, ← hr3]
      refine r_addf m.sY (by omega) (by omega) fun r4 hr4 => ?_
      conv => cbv
      refine r_leq m.sY (fun h2 => ?_) (fun h2 => ?_) <;> conv => cbv
      · exact hQ _ (congrArg PV.bool (by rw [endL]; dsimp only; rw [e3, decide_eq_true (by omega), decide_eq_true (by omega)]; rfl))
      · exact hQ _ (congrArg PV.bool (by rw [endL]; dsimp only; rw [e3, decide_eq_true (show (words.length : Int) ≤ 20 by omega), decide_eq_false (by omega)]; rfl))
    · exact hQ _ (congrArg PV.bool (by rw [endL, decide_eq_false (show ¬ (words.length : Int) ≤ 20 by omega)]; rfl))

theorem paLine_ok (words : List Int) (r : JRule) (measure : Int) (last : Bool) (hw : ∀ n ∈ words, 1 ≤ n ∧ n ≤ 600) (hl : 1 ≤ (words.length : Int) ∧ (words.length : Int) ≤ 24) (hr : okRule r = true) (hm : inB measure 1 2000 = true) : OkA Try.prog 108 [.isl 1 (rows cInt words), .agg (cRule r), .int .i64 measure, .bool last] (· = ib (lineS words r measure last)) := by
  obtain ⟨rA, rB, rC⟩ := r
  try dsimp only at *
  exact fn_intro envOk fieldsOk mixed Try.func108 rfl fun κ X Y L Q m hQ => by
    obtain ⟨f1, f2, f3⟩ := words_fits hw hl.2
    have s2 := okRule_spec hr
    try dsimp only at s2
    have s3 := inB_spec hm
    try dsimp only at s3
    conv => cbv
    refine r_lenR m.sX fun n1 hn1 mn1 => ?_
    conv => cbv
    refine r_gtr m.sX (fun h1 => ?_) (fun h1 => ?_) <;> conv => cbv
    · exact hQ (.tup [.int .i64 0, .bool false]) (Eq.trans (by first | rfl | (simp only [lb, lbI, rows_cons, rows_nil, unnilT, unnil, unnilTI, unnilI]; try rfl)) (congrArg (ib) (show (0, false) = lineS words (rA, rB, rC) measure last from by unfold lineS; split; (rw [endL, decide_eq_false (show ¬ (words.length : Int) ≤ 20 by omega)]; rfl); (rw [lineA_long (by omega)]))))
    · have hj : Jin words (rA, rB, rC) measure := ⟨line_ok hw hl.1 (by omega), hr, hm⟩
      rcases Bool.eq_false_or_eq_true last with rfl | rfl <;> conv => cbv
      · refine r_draw m (by kernel_rfl) ?_
        conv => cbv
        refine r_callFS (PV.int .i64) m.sY (juSum_ok words (by first | rfl | assumption | omega | (simp at *; omega))) trivial fun r1 hr1 => ?_
        conv => cbv
        try dsimp only at hr1
        refine r_lenRS m.sY (by omega) fun n2 hn2 => ?_
        conv => cbv
        refine r_subf m.sY (by omega) (by omega) fun r2 hr2 => ?_
        conv => cbv
        have g1 := gaps_mul (show 0 ≤ r2 ∧ r2 ≤ 19 by omega) (show 1 ≤ rB ∧ rB ≤ 54 by omega)
        try dsimp only at g1
        refine r_mulf m.sY (by first | omega | (subst_vars; omega)) (by first | omega | (subst_vars; omega)) fun r3 hr3 => ?_
        conv => cbv
        have e3 : gapsF words * rB = r3 := by rw [gapsF, ← hn2, ← hr2, ← hr3]
        refine r_addf m.sY (by omega) (by omega) fun r4 hr4 => ?_
        conv => cbv
        refine r_leq m.sY (fun h2 => ?_) (fun h2 => ?_) <;> conv => cbv
        · exact hQ (.tup [.int .i64 0, .bool true]) (Eq.trans (by first | rfl | (simp only [lb, lbI, rows_cons, rows_nil, unnilT, unnil, unnilTI, unnilI]; try rfl)) (congrArg (ib) (show (0, true) = lineS words (rA, rB, rC) measure true from by rw [lineS, if_pos rfl, endL]; dsimp only; rw [e3, decide_eq_true (by omega), decide_eq_true (by omega)]; rfl)))
        · exact hQ (.tup [.int .i64 0, .bool false]) (Eq.trans (by first | rfl | (simp only [lb, lbI, rows_cons, rows_nil, unnilT, unnil, unnilTI, unnilI]; try rfl)) (congrArg (ib) (show (0, false) = lineS words (rA, rB, rC) measure true from by rw [lineS, if_pos rfl, endL]; dsimp only; rw [e3, decide_eq_true (show (words.length : Int) ≤ 20 by omega), decide_eq_false (by omega)]; rfl)))
      · refine r_callF (PV.int .i64) m.sX (juWhy_ok words (rA, rB, rC) measure (by first | rfl | assumption | omega | (simp at *; omega))) fun r5 hr5 => ?_
        conv => cbv
        try dsimp only at hr5
        refine r_neq m.sX (fun h3 => ?_) (fun h3 => ?_) <;> conv => cbv
        · exact hQ (.tup [.int .i64 0, .bool false]) (Eq.trans (by first | rfl | (simp only [lb, lbI, rows_cons, rows_nil, unnilT, unnil, unnilTI, unnilI]; try rfl)) (congrArg (ib) (show (0, false) = lineS words (rA, rB, rC) measure false from by rw [lineS, if_neg (by simp), lineA_loose (why_not (by omega))])))
        · have ef := why_fits (show whyF words (rA, rB, rC) measure = 0 by omega)
          try dsimp only at ef
          refine r_callF (PV.int .i64) m.sX (juCost_ok words (rA, rB, rC) measure (by first | rfl | assumption | omega | (simp at *; omega)) (by first | rfl | assumption | omega | (simp at *; omega))) fun r6 hr6 => ?_
          conv => cbv
          try dsimp only at hr6
          exact hQ (.tup [.int .i64 r6, .bool true]) (Eq.trans (by first | rfl | (simp only [lb, lbI, rows_cons, rows_nil, unnilT, unnil, unnilTI, unnilI]; try rfl)) (congrArg (ib) (show (r6, true) = lineS words (rA, rB, rC) measure false from by rw [lineS, if_neg (by simp), lineA, optL, if_pos ⟨by omega, ef⟩, hr6])))

/-- What a way through a paragraph asks. -/
structure Pin (ws : List Int) (r : JRule) (m : Int) : Prop where
  para : okPara ws = true
  rule : okRule r = true
  meas : inB m 1 2000 = true
theorem askP_in {ws : List Int} {r : JRule} {m : Int} (h : askP ws r m = true) : Pin ws r m := by
  obtain ⟨a, b, c⟩ := askP_spec h
  exact ⟨a, b, c⟩
theorem Pin.cut {ws : List Int} {r : JRule} {m : Int} (h : Pin ws r m) {i j : Nat} (hij : i < j) (hj : j ≤ ws.length) {zs : List Int} (hz : zs = (ws.take j).drop i) : (∀ n ∈ zs, 1 ≤ n ∧ n ≤ 600) ∧ (1 ≤ (zs.length : Int) ∧ (zs.length : Int) ≤ 24) ∧ zs = cutW ws i j := by
  subst hz
  have sp := okPara_spec h.para
  refine ⟨fun n hn => sp.1 n (cutW_mem hn), ?_, rfl⟩
  have := cutW_length (ws := ws) (show i ≤ j by omega) hj
  unfold cutW at this
  omega
theorem Pin.tail {ws : List Int} {r : JRule} {m : Int} (h : Pin ws r m) {i : Nat} (hi : i < ws.length) {zs : List Int} (hz : zs = ws.drop i) : (∀ n ∈ zs, 1 ≤ n ∧ n ≤ 600) ∧ (1 ≤ (zs.length : Int) ∧ (zs.length : Int) ≤ 24) := by
  subst hz
  have sp := okPara_spec h.para
  refine ⟨fun n hn => sp.1 n (List.mem_of_mem_drop hn), ?_⟩
  rw [List.length_drop]; omega
theorem lineA_paL {ws zs : List Int} {r : JRule} {m c : Int} {i j : Nat} {b : Bool} (hz : zs = cutW ws i j) (h : (c, b) = lineA zs r m) : paL ws r m i j = if b then some c else none := by
  subst hz
  cases b with
  | true => rw [if_pos rfl]; exact lineA_true h
  | false => rw [if_neg (by simp)]; exact lineA_false h
theorem cost_le {zs : List Int} {r : JRule} {m c : Int} {b : Bool} (h1 : ∀ n ∈ zs, 1 ≤ n ∧ n ≤ 600) (h2 : 1 ≤ (zs.length : Int)) (hr : okRule r = true) (hm : inB m 1 2000 = true) (h : (c, b) = lineA zs r m) : 0 ≤ c ∧ c ≤ 58320 := by
  cases b with
  | true => exact optL_bound h1 h2 hr hm (lineA_true h)
  | false =>
    have := lineA_false h
    unfold lineA at h
    rw [this] at h
    rw [(Prod.mk.inj h).1]; omega
def linesT (ws : List Int) : Nat → List Int → List (List Int)
  | _, [] => []
  | i, t :: r => cutW ws i t.toNat :: linesT ws t.toNat r
theorem linesT_end (ws : List Int) : ∀ (bs : List Int) (i : Nat), linesT ws i (bs ++ [(ws.length : Int)]) = linesP ws i bs
  | [], i => by
    show [cutW ws i ((ws.length : Int)).toNat] = [ws.drop i]
    rw [Int.toNat_natCast, cutW_end]
  | t :: r, i => by
    show cutW ws i t.toNat :: linesT ws t.toNat (r ++ [(ws.length : Int)]) = _
    rw [linesT_end ws r]; rfl
def UpT (i n : Nat) : List Int → Prop
  | [] => True
  | t :: r => ((i : Int) < t ∧ t ≤ n) ∧ UpT t.toNat n r
theorem upT_of {n : Nat} : ∀ (bs : List Int) (i : Nat), i < n → Up i n bs → UpT i n (bs ++ [(n : Int)])
  | [], i, h, _ => ⟨⟨by omega, by omega⟩, trivial⟩
  | t :: r, i, h, hu => by
    obtain ⟨⟨a, b⟩, c⟩ := hu
    exact ⟨⟨a, by omega⟩, upT_of r t.toNat (by omega) c⟩
theorem LinesOfBreaks_ok (words : List Int) (breaks : List Int)  : OkA Try.prog 60 [.isl 1 (rows cInt words), .isl 1 (rows cInt breaks)] (· = (lb 46 1 (cSl 1 cInt)) (linesPA words breaks)) :=
  OkA.unnil 46 1 (fn_intro envOk fieldsOk mixed Try.func60 rfl fun κ X Y L Q m hQ => by
    conv => cbv
    refine r_callB m.sX (isParagraph_ok words) (fun h1 => ?_) (fun h1 => ?_) <;> conv => cbv
    · have sp := okPara_spec h1
      refine r_callB m.sX (areBreaks_ok words breaks (by first | rfl | assumption | omega | (simp at *; omega))) (fun h2 => ?_) (fun h2 => ?_) <;> conv => cbv
      · have ub0 : Up 0 words.length breaks := rising_up _ 0 none (fun _ => rfl) (fun x e => by cases e) h2
        have bl := (up_length breaks 0 (by omega) ub0).1
        refine r_append0R m.sX (by first | omega | (dsimp only; omega)) (by first | omega | (dsimp only; omega)) fun zs1 hzs1 => ?_
        conv => cbv
        have lzs1 : (zs1.length : Int) = breaks.length := by rw [hzs1]; first | done | (simp; done) | (simp; omega)
        refine r_lenR m.sX fun n1 hn1 mn1 => ?_
        conv => cbv
        refine r_append1 (n1) m.sX rfl (by first | omega | (dsimp only; omega)) (by first | omega | (dsimp only; omega)) fun zs2 hzs2 => ?_
        conv => cbv
        have lzs2 : (zs2.length : Int) = zs1.length + 1 := by rw [hzs2]; first | done | (simp; done) | (simp; omega)
        have zq : zs2 = breaks ++ [(words.length : Int)] := by rw [hzs2, hzs1, hn1]
        have zl : zs2.length = breaks.length + 1 := by rw [zq]; simp
        have ut0 := upT_of breaks 0 (by omega) ub0
        rw [← zq] at ut0
        refine r_lenR m.sX fun n2 hn2 mn2 => ?_
        conv => cbv
        refine r_loopF (α := List (List Int) × Int × Int) m 45 [0, 7, 28, 29] [⟨6, 49, 46, 1, 0⟩, ⟨27, 217, 3, 1, 0⟩] (fun σ => [(0, .isl 1 (rows cInt words)), (6, .osl 49 0), (7, .int .i64 σ.2.1), (27, .osl 217 0), (28, .int .i64 n2), (29, .int .i64 σ.2.2)]) (fun σ => [(49, 0, .row 46 1 (rows (cSl 1 cInt) σ.1)), (217, 0, .row 3 1 (rows cInt zs2))])
          (fun σ => (0 ≤ σ.2.2) ∧ (σ.2.2 ≤ n2) ∧ (linesP words 0 breaks = σ.1 ++ linesT words σ.2.1.toNat (zs2.drop σ.2.2.toNat)) ∧ (0 ≤ σ.2.1 ∧ σ.2.1 ≤ words.length) ∧ (UpT σ.2.1.toNat words.length (zs2.drop σ.2.2.toNat)) ∧ ((σ.1.length : Int) = σ.2.2)) (fun σ => (n2 - σ.2.2).toNat) ([], 0, 0) ?_ ?_ ?_ ?_
        · cbv
        · (try dsimp only); (try simp only [rows_cons, rows_nil]); cbv
        · exact ⟨(by (try dsimp only); first | omega | (simp; omega)), (by (try dsimp only); first | omega | (simp; omega)), (by (try dsimp only) <;> (rw [← linesT_end, zq]; rfl)), (by (try dsimp only) <;> first | omega | rfl | (simp [*]; done)), (by (try dsimp only) <;> (exact ut0)), (by (try dsimp only) <;> first | omega | rfl | (simp [*]; done))⟩
        rintro ⟨lines, from_, i1⟩ ⟨lo1, hi1, q, fb, ub, ll⟩ E hE F hF
        dsimp only at lo1 hi1 q fb ub ll
        conv => cbv
        refine r_lss m.sX (fun h3 => ?_) (fun h3 => ?_) <;> conv => cbv
        · refine r_oindex m.sX (by omega) (by omega) ?_
          conv => cbv
          obtain ⟨to_, hto_⟩ := get_ex (xs := zs2) (i := Int.toNat i1) (by omega)
          have mto_ := get_mem hto_
          have dto_ := drop_cons hto_
          have kto_ := take_snoc hto_
          have jto_ : (i1 + 1).toNat = Int.toNat i1 + 1 := by omega
          have vto_ := nth_some hto_
          have dto := drop_cons hto_
          have ub2 := ub
          rw [dto] at ub2
          obtain ⟨⟨u1, u2⟩, u3⟩ := ub2
          refine r_oload m.sX hto_ (Nat.le_of_ble_eq_true rfl) ?_
          conv => cbv
          refine r_islice (i := from_) (j := to_) m.sX (by omega) (by omega) (by omega) fun zs3 hzs3 => ?_
          have lzs3 : (zs3.length : Int) = to_ - from_ := by rw [hzs3]; first | done | (simp; done) | (simp; omega)
          have zl3 : zs3.length ≤ 1000 := by rw [hzs3, List.length_drop, List.length_take]; omega
          conv => cbv
          refine r_append0R m.sX (by first | omega | (dsimp only; omega)) (by first | omega | (dsimp only; omega)) fun zs4 hzs4 => ?_
          conv => cbv
          have lzs4 : (zs4.length : Int) = zs3.length := by rw [hzs4]; first | done | (simp; done) | (simp; omega)
          refine r_append1 (zs4) m.sX rfl (by first | omega | (dsimp only; omega)) (by first | omega | (dsimp only; omega)) fun lines_2 hlines_2 => ?_
          conv => cbv
          have llines_2 : (lines_2.length : Int) = lines.length + 1 := by rw [hlines_2]; first | done | (simp; done) | (simp; omega)
          refine r_addf m.sX (by omega) (by omega) fun r1 hr1 => ?_
          conv => cbv
          try have tr1 : Int.toNat r1 = Int.toNat i1 + 1 := by omega
          refine hE _ (lines_2, to_, r1) ?_ ?_ ⟨(by (try dsimp only); first | omega | (simp; omega)), (by (try dsimp only); first | omega | (simp; omega)), (by (try dsimp only) <;> (rw [q, dto, linesT, hlines_2, hzs4, hzs3, tr1, List.append_assoc]; rfl)), (by (try dsimp only) <;> first | omega | rfl | (simp [*]; done) | (rw [fb]; simp [*]; done)), (by (try dsimp only) <;> (rw [tr1]; exact u3)), (by (try dsimp only) <;> first | omega | rfl | (simp [*]; done) | (rw [ll]; simp [*]; done))⟩ (by first | omega | (dsimp only; omega))
          · cbv
          · cbv
        · have dz_i1 := drop_end (xs := zs2) (i := Int.toNat i1) (by omega)
          have tz_i1 := take_end (xs := zs2) (i := Int.toNat i1) (by omega)
          refine hF _ _ ?_
          conv => cbv
          exact hQ (.tup [.fr 46 1 (rows (cSl 1 cInt) lines), .bool true]) (Eq.trans (by first | rfl | (simp only [lb, lbI, rows_cons, rows_nil, unnilT, unnil, unnilTI, unnilI]; try rfl)) (congrArg ((lb 46 1 (cSl 1 cInt))) (show (lines, true) = linesPA words breaks from by rw [linesPA, if_pos (by rw [h1, h2]; rfl), q, List.drop_eq_nil_of_le (by omega)]; simp [linesT])))
      · exact hQ (.tup [.fr 46 1 [], .bool false]) (Eq.trans (by first | rfl | (simp only [lb, lbI, rows_cons, rows_nil, unnilT, unnil, unnilTI, unnilI]; try rfl)) (congrArg ((lb 46 1 (cSl 1 cInt))) (show ([], false) = linesPA words breaks from by rw [linesPA, if_neg (by rw [h1, h2]; simp)])))
    · exact hQ (.tup [.fr 46 1 [], .bool false]) (Eq.trans (by first | rfl | (simp only [lb, lbI, rows_cons, rows_nil, unnilT, unnil, unnilTI, unnilI]; try rfl)) (congrArg ((lb 46 1 (cSl 1 cInt))) (show ([], false) = linesPA words breaks from by rw [linesPA, if_neg (by rw [h1]; simp)]))))

end Go.Proofs.Ytiaodmfipeoegaa.Ai
