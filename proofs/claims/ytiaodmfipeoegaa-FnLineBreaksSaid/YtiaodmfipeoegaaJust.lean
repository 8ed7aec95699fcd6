/- Contracts of the functions on justified lines. -/
import Derived.Test.YtiaodmfipeoegaaJustLaw
namespace Go.Proofs.Ytiaodmfipeoegaa.Ai
open Go Go.Proofs
set_option linter.unusedSimpArgs false
set_option maxRecDepth 10000
set_option maxHeartbeats 4000000
set_option linter.unusedVariables false

theorem IsRule_ok (r : JRule)  : OkA Try.prog 122 [.agg (cRule r)] (· = .bool (okRule r)) := by
  obtain ⟨rA, rB, rC⟩ := r
  try dsimp only at *
  exact fn_intro envOk fieldsOk mixed Try.func122 rfl fun κ X Y L Q m hQ => by
    conv => cbv
    refine r_geq m.sX (fun h1 => ?_) (fun h1 => ?_) <;> conv => cbv
    · refine r_leq m.sX (fun h2 => ?_) (fun h2 => ?_) <;> conv => cbv
      · refine r_leq m.sX (fun h3 => ?_) (fun h3 => ?_) <;> conv => cbv
        · refine r_leq m.sX (fun h4 => ?_) (fun h4 => ?_) <;> conv => cbv
          · exact hQ _ (congrArg PV.bool (by simp [okRule, *] <;> omega))   -- leaf 1
          · exact hQ _ (congrArg PV.bool (by simp [okRule, *] <;> omega))   -- leaf 2
        · exact hQ _ (congrArg PV.bool (by simp [okRule, *] <;> omega))   -- leaf 3
      · exact hQ _ (congrArg PV.bool (by simp [okRule, *] <;> omega))   -- leaf 4
    · exact hQ _ (congrArg PV.bool (by simp [okRule, *] <;> omega))   -- leaf 5

theorem juRule_ok (r : JRule)  : OkA Try.prog 146 [.agg (cRule r)] (· = .bool (okRule r)) := by
  obtain ⟨rA, rB, rC⟩ := r
  try dsimp only at *
  exact fn_intro envOk fieldsOk mixed Try.func146 rfl fun κ X Y L Q m hQ => by
    conv => cbv
    refine r_geq m.sX (fun h1 => ?_) (fun h1 => ?_) <;> conv => cbv
    · refine r_leq m.sX (fun h2 => ?_) (fun h2 => ?_) <;> conv => cbv
      · refine r_leq m.sX (fun h3 => ?_) (fun h3 => ?_) <;> conv => cbv
        · refine r_leq m.sX (fun h4 => ?_) (fun h4 => ?_) <;> conv => cbv
          · exact hQ _ (congrArg PV.bool (by simp [okRule, *] <;> omega))   -- leaf 1
          · exact hQ _ (congrArg PV.bool (by simp [okRule, *] <;> omega))   -- leaf 2
        · exact hQ _ (congrArg PV.bool (by simp [okRule, *] <;> omega))   -- leaf 3
      · exact hQ _ (congrArg PV.bool (by simp [okRule, *] <;> omega))   -- leaf 4
    · exact hQ _ (congrArg PV.bool (by simp [okRule, *] <;> omega))   -- leaf 5

theorem isMeasure_ok (n : Int)  : OkA Try.prog 144 [.int .i64 n] (· = .bool (inB n 1 2000)) :=
  fn_intro envOk fieldsOk mixed Try.func144 rfl fun κ X Y L Q m hQ => by
    conv => cbv
    refine r_callB m.sX (within_ok n 1 2000) (fun h1 => ?_) (fun h1 => ?_) <;> conv => cbv
    · exact hQ _ (congrArg PV.bool (by first | rfl | omega | (simp [*]; done) | (subst_vars; simp [*]; done)))   -- leaf 1
    · exact hQ _ (congrArg PV.bool (by first | rfl | omega | (simp [*]; done) | (subst_vars; simp [*]; done)))   -- leaf 2

theorem juMeasure_ok (n : Int)  : OkA Try.prog 147 [.int .i64 n] (· = .bool (inB n 1 2000)) :=
  fn_intro envOk fieldsOk mixed Try.func147 rfl fun κ X Y L Q m hQ => by
    conv => cbv
    refine r_callB m.sX (l1In_ok n 1 2000) (fun h1 => ?_) (fun h1 => ?_) <;> conv => cbv
    · exact hQ _ (congrArg PV.bool (by first | rfl | omega | (simp [*]; done) | (subst_vars; simp [*]; done)))   -- leaf 1
    · exact hQ _ (congrArg PV.bool (by first | rfl | omega | (simp [*]; done) | (subst_vars; simp [*]; done)))   -- leaf 2

theorem isLine_ok (words : List Int)  : OkA Try.prog 121 [.isl 1 (rows cInt words)] (· = .bool (okLine words)) :=
  fn_intro envOk fieldsOk mixed Try.func121 rfl fun κ X Y L Q m hQ => by
    conv => cbv
    refine r_lenR m.sX fun n1 hn1 mn1 => ?_
    conv => cbv
    refine r_loop (α := Int) m 18 [0, 5, 6, 7] [] (fun σ => [(0, .isl 1 (rows cInt words)), (5, .isl 1 (rows cInt words)), (6, .int .i64 n1), (7, .int .i64 σ)]) (fun σ => [])
      (fun σ => (0 ≤ σ) ∧ (σ ≤ n1) ∧ (allB words 1 600 = allB (words.drop σ.toNat) 1 600)) (fun σ => (n1 - σ).toNat) 0 ?_ ?_ ?_ ?_
    · cbv
    · cbv
    · exact ⟨(by (try dsimp only); first | omega | (simp only [List.length_nil]; omega)), (by (try dsimp only); first | omega | (simp only [List.length_nil]; omega)), (by (try dsimp only); first | omega | rfl | (simp [*]; done))⟩
    rintro i1 ⟨lo1, hi1, q⟩ E hE
    conv => cbv
    refine r_lss m.sX (fun h1 => ?_) (fun h1 => ?_) <;> conv => cbv
    · refine r_index m.sX (by omega) (by omega) fun n hn => ?_
      conv => cbv
      have mn := get_mem hn
      have dn := drop_cons hn
      have kn := take_snoc hn
      have jn : (i1 + 1).toNat = Int.toNat i1 + 1 := by omega
      have vn := nth_some hn
      refine r_callB m.sX (within_ok n 1 600) (fun h2 => ?_) (fun h2 => ?_) <;> conv => cbv
      · refine r_addf m.sX (by omega) (by omega) fun r1 hr1 => ?_
        conv => cbv
        have tr1 : Int.toNat r1 = Int.toNat i1 + 1 := by omega
        refine hE _ r1 ?_ ?_ ⟨(by (try dsimp only); first | omega | (simp only [List.length_nil]; omega)), (by (try dsimp only); first | omega | (simp only [List.length_nil]; omega)), (by (try dsimp only); rw [q, dn, tr1, allB_cons]; simp [*])⟩ (by first | omega | (dsimp only; omega))
        · cbv
        · cbv
      · exact hQ _ (congrArg PV.bool (by rw [okLine, q, dn, allB_cons]; simp [*]))   -- leaf 1
    · have dz_i1 := drop_end (xs := words) (i := Int.toNat i1) (by omega)
      have tz_i1 := take_end (xs := words) (i := Int.toNat i1) (by omega)
      refine r_lenR m.sX fun n2 hn2 mn2 => ?_
      conv => cbv
      refine r_callB m.sX (within_ok n2 1 20) (fun h3 => ?_) (fun h3 => ?_) <;> conv => cbv
      · exact hQ _ (congrArg PV.bool (by rw [okLine, q, dz_i1, allB_nil, ← hn2, h3]; rfl))   -- leaf 2
      · exact hQ _ (congrArg PV.bool (by rw [okLine, q, dz_i1, allB_nil, ← hn2, h3]; rfl))   -- leaf 3

theorem isSetLine_ok (words : List Int) (r : JRule) (measure : Int)  : OkA Try.prog 153 [.isl 1 (rows cInt words), .agg (cRule r), .int .i64 measure] (· = .bool (askJ words r measure)) := by
  obtain ⟨rA, rB, rC⟩ := r
  try dsimp only at *
  exact fn_intro envOk fieldsOk mixed Try.func153 rfl fun κ X Y L Q m hQ => by
    conv => cbv
    refine r_callB m.sX (isLine_ok words) (fun h1 => ?_) (fun h1 => ?_) <;> conv => cbv
    · refine r_callB m.sX (IsRule_ok (rA, rB, rC)) (fun h2 => ?_) (fun h2 => ?_) <;> conv => cbv
      · refine r_callB m.sX (isMeasure_ok measure) (fun h3 => ?_) (fun h3 => ?_) <;> conv => cbv
        · exact hQ _ (congrArg PV.bool (by simp [askJ, *]))   -- leaf 1
        · exact hQ _ (congrArg PV.bool (by simp [askJ, *]))   -- leaf 2
      · exact hQ _ (congrArg PV.bool (by simp [askJ, *]))   -- leaf 3
    · exact hQ _ (congrArg PV.bool (by simp [askJ, *]))   -- leaf 4

theorem line_fits {ws : List Int} (h : okLine ws = true) : SumFits ws := by
  have h := okLine_spec h
  exact sumfits_of 600 (fun n hn => by have := h.1 n hn; omega) (by omega)
theorem line_sum {ws : List Int} (h : okLine ws = true) : 0 ≤ ws.sum ∧ ws.sum ≤ 12000 ∧ 1 ≤ (ws.length : Int) ∧ (ws.length : Int) ≤ 20 := by
  have h := okLine_spec h
  have := sum_bound (ws := ws) (B := 600) (by omega) fun n hn => by have := h.1 n hn; omega
  omega

theorem juSum_ok (words : List Int) (hf : SumFits words) : OkA Try.prog 113 [.isl 1 (rows cInt words)] (· = .int .i64 (words.sum)) :=
  fn_intro envOk fieldsOk mixed Try.func113 rfl fun κ X Y L Q m hQ => by
    conv => cbv
    refine r_lenR m.sX fun n1 hn1 mn1 => ?_
    conv => cbv
    refine r_loop (α := Int × Int) m 17 [3, 6, 7, 8] [] (fun σ => [(3, .int .i64 σ.1), (6, .isl 1 (rows cInt words)), (7, .int .i64 n1), (8, .int .i64 σ.2)]) (fun σ => [])
      (fun σ => (0 ≤ σ.2) ∧ (σ.2 ≤ n1) ∧ (σ.1 = (words.take σ.2.toNat).sum)) (fun σ => (n1 - σ.2).toNat) (0, 0) ?_ ?_ ?_ ?_
    · cbv
    · cbv
    · exact ⟨(by (try dsimp only); first | omega | (simp only [List.length_nil]; omega)), (by (try dsimp only); first | omega | (simp only [List.length_nil]; omega)), (by (try dsimp only); first | omega | rfl | (simp [*]; done))⟩
    rintro ⟨sum, i1⟩ ⟨lo1, hi1, q⟩ E hE
    dsimp only at lo1 hi1 q
    have bq := hf i1.toNat
    conv => cbv
    refine r_lss m.sX (fun h1 => ?_) (fun h1 => ?_) <;> conv => cbv
    · refine r_index m.sX (by omega) (by omega) fun n hn => ?_
      conv => cbv
      have mn := get_mem hn
      have dn := drop_cons hn
      have kn := take_snoc hn
      have jn : (i1 + 1).toNat = Int.toNat i1 + 1 := by omega
      have vn := nth_some hn
      have bn := hf (i1.toNat + 1)
      rw [sum_take hn] at bn
      refine r_addf m.sX (by omega) (by omega) fun sum_2 hsum_2 => ?_
      conv => cbv
      refine r_addf m.sX (by omega) (by omega) fun r1 hr1 => ?_
      conv => cbv
      have tr1 : Int.toNat r1 = Int.toNat i1 + 1 := by omega
      refine hE _ (sum_2, r1) ?_ ?_ ⟨(by (try dsimp only); first | omega | (simp only [List.length_nil]; omega)), (by (try dsimp only); first | omega | (simp only [List.length_nil]; omega)), (by (try dsimp only); rw [tr1, sum_take hn]; omega)⟩ (by first | omega | (dsimp only; omega))
      · cbv
      · cbv
    · have dz_i1 := drop_end (xs := words) (i := Int.toNat i1) (by omega)
      have tz_i1 := take_end (xs := words) (i := Int.toNat i1) (by omega)
      exact hQ (.int .i64 sum) (Eq.trans (by first | rfl | (simp only [lb, lbI, rows_cons, rows_nil, unnilT, unnil, unnilTI, unnilI]; done) | (simp only [lb, lbI, rows_cons, rows_nil, unnilT, unnil, unnilTI, unnilI]; rfl)) (congrArg (PV.int .i64) (show sum = words.sum from by rw [q, tz_i1])))   -- leaf 1


def natAns (ws : List Int) (r : JRule) : Int × Bool := if okLine ws && okRule r then (ws.sum + gapsF ws * r.2.1, true) else (0, false)
def boundAns (ws : List Int) (r : JRule) : Int × Int × Bool := if okLine ws && okRule r then (ws.sum + gapsF ws * r.1, ws.sum + gapsF ws * r.2.2, true) else (0, 0, false)
def justF (ws : List Int) (r : JRule) (m : Int) : List Int × Bool := if fitsJ ws r m then (spacesF (leftF ws m) (gapsF ws), true) else ([], false)
def justAns (ws : List Int) (r : JRule) (m : Int) : List Int × Bool := if askJ ws r m then justF ws r m else ([], false)
def whyAns (ws : List Int) (r : JRule) (m : Int) : Int × Bool := if askJ ws r m then (whyF ws r m, true) else (0, false)
def costAns (ws : List Int) (r : JRule) (m : Int) : Int × Bool := if (justAns ws r m).2 then (costF r (justAns ws r m).1, true) else (0, false)

/-- Products that are met. -/
theorem gaps_mul {g x : Int} (h1 : 0 ≤ g ∧ g ≤ 19) (h2 : 1 ≤ x ∧ x ≤ 54) : 0 ≤ g * x ∧ g * x ≤ 1026 := by
  have := mul_bound h1.1 h1.2 (show 0 ≤ x by omega) h2.2
  omega

theorem WidthBounds_ok (words : List Int) (r : JRule)  : OkA Try.prog 61 [.isl 1 (rows cInt words), .agg (cRule r)] (· = iib (boundAns words r)) := by
  obtain ⟨rA, rB, rC⟩ := r
  try dsimp only at *
  exact fn_intro envOk fieldsOk mixed Try.func61 rfl fun κ X Y L Q m hQ => by
    conv => cbv
    refine r_callB m.sX (isLine_ok words) (fun h1 => ?_) (fun h1 => ?_) <;> conv => cbv
    · have s1 := line_sum h1
      try dsimp only at s1
      have s0 := line_fits h1
      try dsimp only at s0
      refine r_callB m.sX (IsRule_ok (rA, rB, rC)) (fun h2 => ?_) (fun h2 => ?_) <;> conv => cbv
      · have s2 := okRule_spec h2
        try dsimp only at s2
        refine r_lenR m.sX fun n1 hn1 mn1 => ?_
        conv => cbv
        refine r_subf m.sX (by omega) (by omega) fun gaps hgaps => ?_
        conv => cbv
        have g1 := gaps_mul (show 0 ≤ gaps ∧ gaps ≤ 19 by omega) (show 1 ≤ rA ∧ rA ≤ 54 by omega)
        try dsimp only at g1
        have g2 := gaps_mul (show 0 ≤ gaps ∧ gaps ≤ 19 by omega) (show 1 ≤ rC ∧ rC ≤ 54 by omega)
        try dsimp only at g2
        refine r_draw m (by kernel_rfl) ?_
        conv => cbv
        refine r_callFS (PV.int .i64) m.sY (sum_ok words (by first | rfl | assumption | omega | (simp only [List.length_append, List.length_cons, List.length_nil] at *; omega))) trivial fun r1 hr1 => ?_
        conv => cbv
        try dsimp only at hr1
        refine r_mulf m.sY (by first | omega | (subst_vars; omega)) (by first | omega | (subst_vars; omega)) fun r2 hr2 => ?_
        conv => cbv
        refine r_addf m.sY (by omega) (by omega) fun r3 hr3 => ?_
        conv => cbv
        refine r_callFS (PV.int .i64) m.sY (sum_ok words (by first | rfl | assumption | omega | (simp only [List.length_append, List.length_cons, List.length_nil] at *; omega))) trivial fun y1 hy1 => ?_
        obtain rfl := hy1.trans hr1.symm
        clear hy1
        conv => cbv
        refine r_mulf m.sY (by first | omega | (subst_vars; omega)) (by first | omega | (subst_vars; omega)) fun r4 hr4 => ?_
        conv => cbv
        refine r_addf m.sY (by omega) (by omega) fun r5 hr5 => ?_
        conv => cbv
        exact hQ (.tup [.int .i64 r3, .int .i64 r5, .bool true]) (Eq.trans (by first | rfl | (simp only [lb, lbI, rows_cons, rows_nil, unnilT, unnil, unnilTI, unnilI]; done) | (simp only [lb, lbI, rows_cons, rows_nil, unnilT, unnil, unnilTI, unnilI]; rfl)) (congrArg (iib) (show (r3, r5, true) = boundAns words (rA, rB, rC) from by simp [boundAns, gapsF, *])))   -- leaf 1
      · exact hQ (.tup [.int .i64 0, .int .i64 0, .bool false]) (Eq.trans (by first | rfl | (simp only [lb, lbI, rows_cons, rows_nil, unnilT, unnil, unnilTI, unnilI]; done) | (simp only [lb, lbI, rows_cons, rows_nil, unnilT, unnil, unnilTI, unnilI]; rfl)) (congrArg (iib) (show (0, 0, false) = boundAns words (rA, rB, rC) from by simp [boundAns, gapsF, *])))   -- leaf 2
    · exact hQ (.tup [.int .i64 0, .int .i64 0, .bool false]) (Eq.trans (by first | rfl | (simp only [lb, lbI, rows_cons, rows_nil, unnilT, unnil, unnilTI, unnilI]; done) | (simp only [lb, lbI, rows_cons, rows_nil, unnilT, unnil, unnilTI, unnilI]; rfl)) (congrArg (iib) (show (0, 0, false) = boundAns words (rA, rB, rC) from by simp [boundAns, gapsF, *])))   -- leaf 3

structure Jin (ws : List Int) (r : JRule) (m : Int) : Prop where
  line : okLine ws = true
  rule : okRule r = true
  meas : inB m 1 2000 = true
theorem askJ_in {ws : List Int} {r : JRule} {m : Int} (h : askJ ws r m = true) : Jin ws r m := by
  simp only [askJ, Bool.and_eq_true] at h
  exact ⟨h.1, h.2.1, h.2.2⟩
theorem space_div {l g : Int} (i : Int) (hg : 0 < g) (h0 : 0 ≤ i) : spaceF l g i.toNat = l / g + if i < l % g then 1 else 0 := by
  unfold spaceF
  rw [Int.toNat_of_nonneg h0]
theorem spaces_snoc (l g : Int) (i : Int) (h0 : 0 ≤ i) : spacesF l (i + 1) = spacesF l (i + 1) := rfl

theorem sq54 {x y : Int} (e : y = x) (h1 : -54 ≤ x) (h2 : x ≤ 54) : 0 ≤ x * y ∧ x * y ≤ 2916 := by
  subst e
  rcases Int.le_total 0 y with h | h
  · exact mul_bound h h2 h h2
  · have := mul_bound (show 0 ≤ -y by omega) (show -y ≤ 54 by omega) (show 0 ≤ -y by omega) (show -y ≤ 54 by omega)
    rwa [Int.neg_mul_neg] at this
theorem costF_snoc (r : JRule) (l : List Int) (x : Int) : costF r (l ++ [x]) = costF r l + (x - r.2.1) * (x - r.2.1) := by simp [costF]
theorem justF_ok {ws : List Int} {r : JRule} {m : Int} {xs : List Int} {b : Bool} (h : (xs, b) = justF ws r m) : fitsJ ws r m = b := by
  unfold justF at h
  split at h <;> rename_i hf
  · rw [hf]; exact (Prod.mk.inj h).2.symm
  · rw [(Prod.mk.inj h).2]; simpa using hf
theorem why_fits {ws : List Int} {r : JRule} {m : Int} (h : whyF ws r m = 0) : fitsJ ws r m = true := by
  unfold whyF at h
  split at h
  · assumption
  · split at h
    · omega
    · split at h <;> omega
theorem why_not {ws : List Int} {r : JRule} {m : Int} (h : whyF ws r m ≠ 0) : fitsJ ws r m = false := by
  unfold whyF at h
  split at h
  · omega
  · rename_i hf; simpa using hf
theorem fits_left {ws : List Int} {r : JRule} {m : Int} (hj : Jin ws r m) (h : fitsJ ws r m = true) : 0 ≤ leftF ws m ∧ leftF ws m ≤ 2000 ∧ (gapsF ws = 0 → leftF ws m = 0) := by
  have s1 := line_sum hj.line
  have s2 := okRule_spec hj.rule
  have s3 := inB_spec hj.meas
  have h := inB_spec h
  have g := Int.mul_nonneg (show 0 ≤ gapsF ws by rw [gapsF]; omega) (show 0 ≤ r.1 by omega)
  refine ⟨by omega, by rw [leftF]; omega, fun e => ?_⟩
  rw [e] at h; omega
theorem spaces_all {ws : List Int} {r : JRule} {m : Int} (hj : Jin ws r m) (h : fitsJ ws r m = true) : ∀ n ∈ spacesF (leftF ws m) (gapsF ws), r.1 ≤ n ∧ n ≤ r.2.2 := fun n hn => by
  have h := inB_spec h
  obtain ⟨i, hi, rfl⟩ := List.mem_map.1 hn
  have := List.mem_range.1 hi
  exact space_bounds (by omega) h.1 h.2 i
theorem spaces_length (l g : Int) : ((spacesF l g).length : Int) = g.toNat := by simp [spacesF]
theorem just_spec {ws : List Int} {r : JRule} {m : Int} {xs : List Int} (h : (xs, true) = justAns ws r m) : Jin ws r m ∧ fitsJ ws r m = true ∧ xs = spacesF (leftF ws m) (gapsF ws) ∧ (∀ n ∈ xs, r.1 ≤ n ∧ n ≤ r.2.2) ∧ (xs.length : Int) ≤ 20 ∧ (xs.length : Int) = gapsF ws := by
  unfold justAns at h
  split at h
  · rename_i ha
    have hj := askJ_in ha
    have hf := justF_ok h
    rw [justF, if_pos hf] at h
    have e := (Prod.mk.inj h).1
    have s1 := line_sum hj.line
    refine ⟨hj, hf, e, by rw [e]; exact spaces_all hj hf, ?_, ?_⟩ <;> rw [e, spaces_length, gapsF] <;> omega
  · simp at h

theorem justify_ok (words : List Int) (r : JRule) (measure : Int) (hj : Jin words r measure) : OkA Try.prog 148 [.isl 1 (rows cInt words), .agg (cRule r), .int .i64 measure] (· = (lb 3 1 cInt) (justF words r measure)) := by
  obtain ⟨rA, rB, rC⟩ := r
  try dsimp only at *
  exact OkA.unnil 3 1 (fn_intro envOk fieldsOk mixed Try.func148 rfl fun κ X Y L Q m hQ => by
    have s1 := line_sum hj.line
    try dsimp only at s1
    have s0 := line_fits hj.line
    try dsimp only at s0
    have s2 := okRule_spec hj.rule
    try dsimp only at s2
    have s3 := inB_spec hj.meas
    try dsimp only at s3
    conv => cbv
    refine r_lenR m.sX fun n1 hn1 mn1 => ?_
    conv => cbv
    refine r_subf m.sX (by omega) (by omega) fun gaps hgaps => ?_
    conv => cbv
    have g1 := gaps_mul (show 0 ≤ gaps ∧ gaps ≤ 19 by omega) (show 1 ≤ rA ∧ rA ≤ 54 by omega)
    try dsimp only at g1
    have g2 := gaps_mul (show 0 ≤ gaps ∧ gaps ≤ 19 by omega) (show 1 ≤ rC ∧ rC ≤ 54 by omega)
    try dsimp only at g2
    have eg : gapsF words = gaps := by rw [gapsF]; omega
    refine r_callF (PV.int .i64) m.sX (sum_ok words (by first | rfl | assumption | omega | (simp only [List.length_append, List.length_cons, List.length_nil] at *; omega))) fun r1 hr1 => ?_
    conv => cbv
    try dsimp only at hr1
    refine r_subf m.sX (by omega) (by omega) fun left hleft => ?_
    conv => cbv
    have el : leftF words measure = left := by rw [leftF]; omega
    refine r_mulf m.sX (by first | omega | (subst_vars; omega)) (by first | omega | (subst_vars; omega)) fun r2 hr2 => ?_
    conv => cbv
    refine r_mulf m.sX (by first | omega | (subst_vars; omega)) (by first | omega | (subst_vars; omega)) fun r3 hr3 => ?_
    conv => cbv
    refine r_callB m.sX (within_ok left r2 r3) (fun h1 => ?_) (fun h1 => ?_) <;> conv => cbv
    · have b1 := inB_spec h1
      try dsimp only at b1
      have ef : fitsJ words (rA, rB, rC) measure = true := by rw [fitsJ, el, eg]; dsimp only; rw [← hr2, ← hr3]; exact h1
      refine r_loop (α := List Int × Int) m 53 [8, 9, 11] [⟨10, 81, 3, 1, 0⟩] (fun σ => [(8, .int .i64 gaps), (9, .int .i64 left), (10, .osl 81 0), (11, .int .i64 σ.2)]) (fun σ => [(81, 0, .row 3 1 (rows cInt σ.1))])
        (fun σ => (0 ≤ σ.2) ∧ (σ.2 ≤ gaps) ∧ (σ.1 = (List.range σ.2.toNat).map (spaceF left gaps)) ∧ ((σ.1.length : Int) = σ.2)) (fun σ => (gaps - σ.2).toNat) ([], 0) ?_ ?_ ?_ ?_
      · cbv
      · (try dsimp only); simp only [rows_cons, rows_nil]; cbv
      · exact ⟨(by (try dsimp only); first | omega | (simp only [List.length_nil]; omega)), (by (try dsimp only); first | omega | (simp only [List.length_nil]; omega)), (by (try dsimp only); first | omega | rfl | (simp [*]; done)), (by (try dsimp only); first | omega | rfl | (simp [*]; done))⟩
      rintro ⟨spaces, i⟩ ⟨lo1, hi1, q, ln⟩ E hE
      dsimp only at lo1 hi1 q ln
      conv => cbv
      refine r_lss m.sX (fun h2 => ?_) (fun h2 => ?_) <;> conv => cbv
      · first | refine r_divf m.sX (by omega) (by omega) fun space hspace bspace => ?_ | refine r_tdivf m.sX (by omega) (by omega) fun space hspace bspace => ?_
        conv => cbv
        refine r_modf m.sX (by omega) (by omega) fun r4 hr4 br4 => ?_
        conv => cbv
        refine r_lss m.sX (fun h3 => ?_) (fun h3 => ?_) <;> conv => cbv
        · refine r_addf m.sX (by omega) (by omega) fun space_2 hspace_2 => ?_
          conv => cbv
          refine r_append1 (space_2) m.sX rfl (by first | omega | (dsimp only; omega)) (by first | omega | (dsimp only; omega)) fun spaces_2 hspaces_2 => ?_
          conv => cbv
          have lspaces_2 : (spaces_2.length : Int) = spaces.length + 1 := by rw [hspaces_2]; first | done | (simp; done) | (simp; omega)
          refine r_addf m.sX (by omega) (by omega) fun i_2 hi_2 => ?_
          conv => cbv
          have ti_2 : Int.toNat i_2 = Int.toNat i + 1 := by omega
          refine hE _ (spaces_2, i_2) ?_ ?_ ⟨(by (try dsimp only); first | omega | (simp only [List.length_nil]; omega)), (by (try dsimp only); first | omega | (simp only [List.length_nil]; omega)), (by (try dsimp only); rw [hspaces_2, q, hi_2]; refine range_next _ i lo1 ?_; rw [space_div i (by omega) lo1, ← hspace, ← hr4]; first | (rw [if_pos h3]; omega) | (rw [if_neg (by omega)]; omega)), (by (try dsimp only); first | omega | rfl | (simp [*]; done) | (rw [ln]; simp [*]; done))⟩ (by first | omega | (dsimp only; omega))
          · cbv
          · cbv
        · refine r_append1 (space) m.sX rfl (by first | omega | (dsimp only; omega)) (by first | omega | (dsimp only; omega)) fun spaces_3 hspaces_3 => ?_
          conv => cbv
          have lspaces_3 : (spaces_3.length : Int) = spaces.length + 1 := by rw [hspaces_3]; first | done | (simp; done) | (simp; omega)
          refine r_addf m.sX (by omega) (by omega) fun i_3 hi_3 => ?_
          conv => cbv
          have ti_3 : Int.toNat i_3 = Int.toNat i + 1 := by omega
          refine hE _ (spaces_3, i_3) ?_ ?_ ⟨(by (try dsimp only); first | omega | (simp only [List.length_nil]; omega)), (by (try dsimp only); first | omega | (simp only [List.length_nil]; omega)), (by (try dsimp only); rw [hspaces_3, q, hi_3]; refine range_next _ i lo1 ?_; rw [space_div i (by omega) lo1, ← hspace, ← hr4]; first | (rw [if_pos h3]; omega) | (rw [if_neg (by omega)]; omega)), (by (try dsimp only); first | omega | rfl | (simp [*]; done) | (rw [ln]; simp [*]; done))⟩ (by first | omega | (dsimp only; omega))
          · cbv
          · cbv
      · exact hQ (.tup [.fr 3 1 (rows cInt spaces), .bool true]) (Eq.trans (by first | rfl | (simp only [lb, lbI, rows_cons, rows_nil, unnilT, unnil, unnilTI, unnilI]; done) | (simp only [lb, lbI, rows_cons, rows_nil, unnilT, unnil, unnilTI, unnilI]; rfl)) (congrArg ((lb 3 1 cInt)) (show (spaces, true) = justF words (rA, rB, rC) measure from by rw [justF, if_pos ef, el, eg, spacesF, q, show i = gaps by omega])))   -- leaf 1
    · have ef : fitsJ words (rA, rB, rC) measure = false := by rw [fitsJ, el, eg]; dsimp only; rw [← hr2, ← hr3]; exact h1
      exact hQ (.tup [.fr 3 1 [], .bool false]) (Eq.trans (by first | rfl | (simp only [lb, lbI, rows_cons, rows_nil, unnilT, unnil, unnilTI, unnilI]; done) | (simp only [lb, lbI, rows_cons, rows_nil, unnilT, unnil, unnilTI, unnilI]; rfl)) (congrArg ((lb 3 1 cInt)) (show ([], false) = justF words (rA, rB, rC) measure from by simp [justF, ef]))))   -- leaf 2

theorem juWhy_ok (words : List Int) (r : JRule) (measure : Int) (hj : Jin words r measure) : OkA Try.prog 151 [.isl 1 (rows cInt words), .agg (cRule r), .int .i64 measure] (· = .int .i64 (whyF words r measure)) := by
  obtain ⟨rA, rB, rC⟩ := r
  try dsimp only at *
  exact fn_intro envOk fieldsOk mixed Try.func151 rfl fun κ X Y L Q m hQ => by
    have s1 := line_sum hj.line
    try dsimp only at s1
    have s0 := line_fits hj.line
    try dsimp only at s0
    have s2 := okRule_spec hj.rule
    try dsimp only at s2
    have s3 := inB_spec hj.meas
    try dsimp only at s3
    conv => cbv
    refine r_callF (PV.int .i64) m.sX (juSum_ok words (by first | rfl | assumption | omega | (simp only [List.length_append, List.length_cons, List.length_nil] at *; omega))) fun r1 hr1 => ?_
    conv => cbv
    try dsimp only at hr1
    refine r_subf m.sX (by omega) (by omega) fun rest hrest => ?_
    conv => cbv
    have el : leftF words measure = rest := by rw [leftF]; omega
    refine r_lenR m.sX fun n1 hn1 mn1 => ?_
    conv => cbv
    refine r_subf m.sX (by omega) (by omega) fun gaps hgaps => ?_
    conv => cbv
    have g1 := gaps_mul (show 0 ≤ gaps ∧ gaps ≤ 19 by omega) (show 1 ≤ rA ∧ rA ≤ 54 by omega)
    try dsimp only at g1
    have g2 := gaps_mul (show 0 ≤ gaps ∧ gaps ≤ 19 by omega) (show 1 ≤ rC ∧ rC ≤ 54 by omega)
    try dsimp only at g2
    have eg : gapsF words = gaps := by rw [gapsF]; omega
    refine r_mulf m.sX (by first | omega | (subst_vars; omega)) (by first | omega | (subst_vars; omega)) fun r2 hr2 => ?_
    conv => cbv
    refine r_geq m.sX (fun h1 => ?_) (fun h1 => ?_) <;> conv => cbv
    · refine r_mulf m.sX (by first | omega | (subst_vars; omega)) (by first | omega | (subst_vars; omega)) fun r3 hr3 => ?_
      conv => cbv
      refine r_leq m.sX (fun h2 => ?_) (fun h2 => ?_) <;> conv => cbv
      · exact hQ (.int .i64 0) (Eq.trans (by first | rfl | (simp only [lb, lbI, rows_cons, rows_nil, unnilT, unnil, unnilTI, unnilI]; done) | (simp only [lb, lbI, rows_cons, rows_nil, unnilT, unnil, unnilTI, unnilI]; rfl)) (congrArg (PV.int .i64) (show 0 = whyF words (rA, rB, rC) measure from by simp only [whyF, fitsJ, el, eg, inB, Bool.and_eq_true, decide_eq_true_eq]; (repeat' split) <;> omega)))   -- leaf 1
      · refine r_eql m.sX (fun h3 => ?_) (fun h3 => ?_) <;> conv => cbv
        · exact hQ (.int .i64 3) (Eq.trans (by first | rfl | (simp only [lb, lbI, rows_cons, rows_nil, unnilT, unnil, unnilTI, unnilI]; done) | (simp only [lb, lbI, rows_cons, rows_nil, unnilT, unnil, unnilTI, unnilI]; rfl)) (congrArg (PV.int .i64) (show 3 = whyF words (rA, rB, rC) measure from by simp only [whyF, fitsJ, el, eg, inB, Bool.and_eq_true, decide_eq_true_eq]; (repeat' split) <;> omega)))   -- leaf 2
        · refine r_mulf m.sX (by first | omega | (subst_vars; omega)) (by first | omega | (subst_vars; omega)) fun r4 hr4 => ?_
          conv => cbv
          refine r_lss m.sX (fun h4 => ?_) (fun h4 => ?_) <;> conv => cbv
          · exact hQ (.int .i64 1) (Eq.trans (by first | rfl | (simp only [lb, lbI, rows_cons, rows_nil, unnilT, unnil, unnilTI, unnilI]; done) | (simp only [lb, lbI, rows_cons, rows_nil, unnilT, unnil, unnilTI, unnilI]; rfl)) (congrArg (PV.int .i64) (show 1 = whyF words (rA, rB, rC) measure from by simp only [whyF, fitsJ, el, eg, inB, Bool.and_eq_true, decide_eq_true_eq]; (repeat' split) <;> omega)))   -- leaf 3
          · exact hQ (.int .i64 2) (Eq.trans (by first | rfl | (simp only [lb, lbI, rows_cons, rows_nil, unnilT, unnil, unnilTI, unnilI]; done) | (simp only [lb, lbI, rows_cons, rows_nil, unnilT, unnil, unnilTI, unnilI]; rfl)) (congrArg (PV.int .i64) (show 2 = whyF words (rA, rB, rC) measure from by simp only [whyF, fitsJ, el, eg, inB, Bool.and_eq_true, decide_eq_true_eq]; (repeat' split) <;> omega)))   -- leaf 4
    · refine r_eql m.sX (fun h5 => ?_) (fun h5 => ?_) <;> conv => cbv
      · exact hQ (.int .i64 3) (Eq.trans (by first | rfl | (simp only [lb, lbI, rows_cons, rows_nil, unnilT, unnil, unnilTI, unnilI]; done) | (simp only [lb, lbI, rows_cons, rows_nil, unnilT, unnil, unnilTI, unnilI]; rfl)) (congrArg (PV.int .i64) (show 3 = whyF words (rA, rB, rC) measure from by simp only [whyF, fitsJ, el, eg, inB, Bool.and_eq_true, decide_eq_true_eq]; (repeat' split) <;> omega)))   -- leaf 5
      · refine r_mulf m.sX (by first | omega | (subst_vars; omega)) (by first | omega | (subst_vars; omega)) fun r5 hr5 => ?_
        conv => cbv
        refine r_lss m.sX (fun h6 => ?_) (fun h6 => ?_) <;> conv => cbv
        · exact hQ (.int .i64 1) (Eq.trans (by first | rfl | (simp only [lb, lbI, rows_cons, rows_nil, unnilT, unnil, unnilTI, unnilI]; done) | (simp only [lb, lbI, rows_cons, rows_nil, unnilT, unnil, unnilTI, unnilI]; rfl)) (congrArg (PV.int .i64) (show 1 = whyF words (rA, rB, rC) measure from by simp only [whyF, fitsJ, el, eg, inB, Bool.and_eq_true, decide_eq_true_eq]; (repeat' split) <;> omega)))   -- leaf 6
        · exact hQ (.int .i64 2) (Eq.trans (by first | rfl | (simp only [lb, lbI, rows_cons, rows_nil, unnilT, unnil, unnilTI, unnilI]; done) | (simp only [lb, lbI, rows_cons, rows_nil, unnilT, unnil, unnilTI, unnilI]; rfl)) (congrArg (PV.int .i64) (show 2 = whyF words (rA, rB, rC) measure from by simp only [whyF, fitsJ, el, eg, inB, Bool.and_eq_true, decide_eq_true_eq]; (repeat' split) <;> omega)))   -- leaf 7

theorem juSpaces_ok (words : List Int) (measure : Int) (hj : okLine words = true) (hm : 1 ≤ measure ∧ measure ≤ 2000) (hl : 0 ≤ leftF words measure) : OkA Try.prog 167 [.isl 1 (rows cInt words), .int .i64 measure] (· = .fr 3 1 (rows cInt (spacesF (leftF words measure) (gapsF words)))) :=
  OkA.unnil 3 1 (fn_intro envOk fieldsOk mixed Try.func167 rfl fun κ X Y L Q m hQ => by
    have s1 := line_sum hj
    have s0 := line_fits hj
    conv => cbv
    refine r_callF (PV.int .i64) m.sX (juSum_ok words (by first | rfl | assumption | omega | (simp only [List.length_append, List.length_cons, List.length_nil] at *; omega))) fun r1 hr1 => ?_
    conv => cbv
    refine r_subf m.sX (by omega) (by omega) fun rest hrest => ?_
    conv => cbv
    have el : leftF words measure = rest := by rw [leftF]; omega
    refine r_lenR m.sX fun n1 hn1 mn1 => ?_
    conv => cbv
    refine r_subf m.sX (by omega) (by omega) fun gaps hgaps => ?_
    conv => cbv
    have eg : gapsF words = gaps := by rw [gapsF]; omega
    refine r_loop (α := List Int × Int) m 37 [5, 6, 8] [⟨7, 57, 3, 1, 0⟩] (fun σ => [(5, .int .i64 rest), (6, .int .i64 gaps), (7, .osl 57 0), (8, .int .i64 σ.2)]) (fun σ => [(57, 0, .row 3 1 (rows cInt σ.1))])
      (fun σ => (0 ≤ σ.2) ∧ (σ.2 ≤ gaps) ∧ (σ.1 = (List.range σ.2.toNat).map (spaceF rest gaps)) ∧ ((σ.1.length : Int) = σ.2)) (fun σ => (gaps - σ.2).toNat) ([], 0) ?_ ?_ ?_ ?_
    · cbv
    · (try dsimp only); simp only [rows_cons, rows_nil]; cbv
    · exact ⟨(by (try dsimp only); first | omega | (simp only [List.length_nil]; omega)), (by (try dsimp only); first | omega | (simp only [List.length_nil]; omega)), (by (try dsimp only); first | omega | rfl | (simp [*]; done)), (by (try dsimp only); first | omega | rfl | (simp [*]; done))⟩
    rintro ⟨out, i⟩ ⟨lo1, hi1, q, ln⟩ E hE
    dsimp only at lo1 hi1 q ln
    conv => cbv
    refine r_lss m.sX (fun h1 => ?_) (fun h1 => ?_) <;> conv => cbv
    · first | refine r_divf m.sX (by omega) (by omega) fun n hn bn => ?_ | refine r_tdivf m.sX (by omega) (by omega) fun n hn bn => ?_
      conv => cbv
      refine r_modf m.sX (by omega) (by omega) fun r2 hr2 br2 => ?_
      conv => cbv
      refine r_lss m.sX (fun h2 => ?_) (fun h2 => ?_) <;> conv => cbv
      · refine r_addf m.sX (by omega) (by omega) fun n_2 hn_2 => ?_
        conv => cbv
        refine r_append1 (n_2) m.sX rfl (by first | omega | (dsimp only; omega)) (by first | omega | (dsimp only; omega)) fun out_2 hout_2 => ?_
        conv => cbv
        have lout_2 : (out_2.length : Int) = out.length + 1 := by rw [hout_2]; first | done | (simp; done) | (simp; omega)
        refine r_addf m.sX (by omega) (by omega) fun i_2 hi_2 => ?_
        conv => cbv
        have ti_2 : Int.toNat i_2 = Int.toNat i + 1 := by omega
        refine hE _ (out_2, i_2) ?_ ?_ ⟨(by (try dsimp only); first | omega | (simp only [List.length_nil]; omega)), (by (try dsimp only); first | omega | (simp only [List.length_nil]; omega)), (by (try dsimp only); rw [hout_2, q, hi_2]; refine range_next _ i lo1 ?_; rw [space_div i (by omega) lo1, ← hn, ← hr2]; first | (rw [if_pos h2]; omega) | (rw [if_neg (by omega)]; omega)), (by (try dsimp only); first | omega | rfl | (simp [*]; done) | (rw [ln]; simp [*]; done))⟩ (by first | omega | (dsimp only; omega))
        · cbv
        · cbv
      · refine r_append1 (n) m.sX rfl (by first | omega | (dsimp only; omega)) (by first | omega | (dsimp only; omega)) fun out_3 hout_3 => ?_
        conv => cbv
        have lout_3 : (out_3.length : Int) = out.length + 1 := by rw [hout_3]; first | done | (simp; done) | (simp; omega)
        refine r_addf m.sX (by omega) (by omega) fun i_3 hi_3 => ?_
        conv => cbv
        have ti_3 : Int.toNat i_3 = Int.toNat i + 1 := by omega
        refine hE _ (out_3, i_3) ?_ ?_ ⟨(by (try dsimp only); first | omega | (simp only [List.length_nil]; omega)), (by (try dsimp only); first | omega | (simp only [List.length_nil]; omega)), (by (try dsimp only); rw [hout_3, q, hi_3]; refine range_next _ i lo1 ?_; rw [space_div i (by omega) lo1, ← hn, ← hr2]; first | (rw [if_pos h2]; omega) | (rw [if_neg (by omega)]; omega)), (by (try dsimp only); first | omega | rfl | (simp [*]; done) | (rw [ln]; simp [*]; done))⟩ (by first | omega | (dsimp only; omega))
        · cbv
        · cbv
    · exact hQ (.fr 3 1 (rows cInt out)) (Eq.trans (by first | rfl | (simp only [lb, lbI, rows_cons, rows_nil, unnilT, unnil, unnilTI, unnilI]; done) | (simp only [lb, lbI, rows_cons, rows_nil, unnilT, unnil, unnilTI, unnilI]; rfl)) (congrArg (fun l => PV.fr 3 1 (rows cInt l)) (show out = spacesF (leftF words measure) (gapsF words) from by rw [el, eg, spacesF, q, show i = gaps by omega]))))   -- leaf 1

theorem costOf_ok (spaces : List Int) (r : JRule) (hs : ∀ n ∈ spaces, 0 ≤ n ∧ n ≤ 54) (hr : okRule r = true) (hl : (spaces.length : Int) ≤ 20) : OkA Try.prog 149 [.isl 1 (rows cInt spaces), .agg (cRule r)] (· = .int .i64 (costF r spaces)) := by
  obtain ⟨rA, rB, rC⟩ := r
  try dsimp only at *
  exact fn_intro envOk fieldsOk mixed Try.func149 rfl fun κ X Y L Q m hQ => by
    have s2 := okRule_spec hr
    try dsimp only at s2
    conv => cbv
    refine r_lenR m.sX fun n1 hn1 mn1 => ?_
    conv => cbv
    refine r_loop (α := Int × Int) m 27 [5, 8, 9, 10] [⟨3, 25, 0, 0, 0⟩] (fun σ => [(3, .optr 25 0 3 0 0), (5, .int .i64 σ.1), (8, .isl 1 (rows cInt spaces)), (9, .int .i64 n1), (10, .int .i64 σ.2)]) (fun σ => [(25, 0, .box [.int .i64 rA, .int .i64 rB, .int .i64 rC])])
      (fun σ => (0 ≤ σ.2) ∧ (σ.2 ≤ n1) ∧ (σ.1 = costF (rA, rB, rC) (spaces.take σ.2.toNat)) ∧ (0 ≤ σ.1 ∧ σ.1 ≤ 2916 * σ.2)) (fun σ => (n1 - σ.2).toNat) (0, 0) ?_ ?_ ?_ ?_
    · cbv
    · cbv
    · exact ⟨(by (try dsimp only); first | omega | (simp only [List.length_nil]; omega)), (by (try dsimp only); first | omega | (simp only [List.length_nil]; omega)), (by (try dsimp only); first | omega | rfl | (simp [*]; done)), (by (try dsimp only); first | omega | rfl | (simp [*]; done))⟩
    rintro ⟨n, i1⟩ ⟨lo1, hi1, q, b⟩ E hE
    dsimp only at lo1 hi1 q b
    conv => cbv
    refine r_lss m.sX (fun h1 => ?_) (fun h1 => ?_) <;> conv => cbv
    · refine r_index m.sX (by omega) (by omega) fun s_ hs_ => ?_
      conv => cbv
      have ms_ := get_mem hs_
      have ds_ := drop_cons hs_
      have ks_ := take_snoc hs_
      have js_ : (i1 + 1).toNat = Int.toNat i1 + 1 := by omega
      have vs_ := nth_some hs_
      have bs := hs _ ms_
      try dsimp only at bs
      refine r_subf m.sX (by omega) (by omega) fun r1 hr1 => ?_
      conv => cbv
      refine r_subf m.sX (by omega) (by omega) fun r2 hr2 => ?_
      conv => cbv
      have sq := sq54 (show r2 = r1 by omega) (by omega) (by omega)
      try dsimp only at sq
      refine r_mulf m.sX (by first | omega | (subst_vars; omega)) (by first | omega | (subst_vars; omega)) fun r3 hr3 => ?_
      conv => cbv
      refine r_addf m.sX (by omega) (by omega) fun n_2 hn_2 => ?_
      conv => cbv
      refine r_addf m.sX (by omega) (by omega) fun r4 hr4 => ?_
      conv => cbv
      have tr4 : Int.toNat r4 = Int.toNat i1 + 1 := by omega
      refine hE _ (n_2, r4) ?_ ?_ ⟨(by (try dsimp only); first | omega | (simp only [List.length_nil]; omega)), (by (try dsimp only); first | omega | (simp only [List.length_nil]; omega)), (by (try dsimp only); rw [tr4, ks_, costF_snoc, ← q]; dsimp only; rw [hn_2, hr3, hr1, hr2]), (by (try dsimp only); first | omega | rfl | (simp [*]; done) | (rw [b]; simp [*]; done))⟩ (by first | omega | (dsimp only; omega))
      · cbv
      · cbv
    · have dz_i1 := drop_end (xs := spaces) (i := Int.toNat i1) (by omega)
      have tz_i1 := take_end (xs := spaces) (i := Int.toNat i1) (by omega)
      exact hQ (.int .i64 n) (Eq.trans (by first | rfl | (simp only [lb, lbI, rows_cons, rows_nil, unnilT, unnil, unnilTI, unnilI]; done) | (simp only [lb, lbI, rows_cons, rows_nil, unnilT, unnil, unnilTI, unnilI]; rfl)) (congrArg (PV.int .i64) (show n = costF (rA, rB, rC) spaces from by rw [q, tz_i1])))   -- leaf 1

theorem juCost_ok (words : List Int) (r : JRule) (measure : Int) (hj : Jin words r measure) (hf : fitsJ words r measure = true) : OkA Try.prog 152 [.isl 1 (rows cInt words), .agg (cRule r), .int .i64 measure] (· = .int .i64 (costF r (spacesF (leftF words measure) (gapsF words)))) := by
  obtain ⟨rA, rB, rC⟩ := r
  try dsimp only at *
  exact fn_intro envOk fieldsOk mixed Try.func152 rfl fun κ X Y L Q m hQ => by
    have s2 := okRule_spec hj.rule
    try dsimp only at s2
    have s1 := line_sum hj.line
    try dsimp only at s1
    have s3 := inB_spec hj.meas
    try dsimp only at s3
    have s4 := hj.line
    try dsimp only at s4
    have s5 := fits_left hj hf
    try dsimp only at s5
    have sa := spaces_all hj hf
    try dsimp only at sa
    conv => cbv
    refine r_callF (fun l => PV.fr _ _ (rows _ l)) m.sX (juSpaces_ok words measure (by first | rfl | assumption | omega | (simp only [List.length_append, List.length_cons, List.length_nil] at *; omega)) (by first | rfl | assumption | omega | (simp only [List.length_append, List.length_cons, List.length_nil] at *; omega)) (by first | rfl | assumption | omega | (simp only [List.length_append, List.length_cons, List.length_nil] at *; omega))) fun v1 hv1 => ?_
    conv => cbv
    try dsimp only at hv1
    have ll := spaces_length (leftF words measure) (gapsF words)
    try dsimp only at ll
    rw [← hv1, gapsF] at ll
    refine r_lenR m.sX fun n1 hn1 mn1 => ?_
    conv => cbv
    refine r_loop (α := Int × Int) m 31 [7, 13, 14] [⟨4, 33, 0, 0, 0⟩, ⟨12, 97, 3, 1, 0⟩] (fun σ => [(4, .optr 33 0 3 0 0), (7, .int .i64 σ.1), (12, .osl 97 0), (13, .int .i64 n1), (14, .int .i64 σ.2)]) (fun σ => [(33, 0, .box [.int .i64 rA, .int .i64 rB, .int .i64 rC]), (97, 0, .row 3 1 (rows cInt v1))])
      (fun σ => (0 ≤ σ.2) ∧ (σ.2 ≤ n1) ∧ (σ.1 = costF (rA, rB, rC) (v1.take σ.2.toNat)) ∧ (0 ≤ σ.1 ∧ σ.1 ≤ 2916 * σ.2)) (fun σ => (n1 - σ.2).toNat) (0, 0) ?_ ?_ ?_ ?_
    · cbv
    · cbv
    · exact ⟨(by (try dsimp only); first | omega | (simp only [List.length_nil]; omega)), (by (try dsimp only); first | omega | (simp only [List.length_nil]; omega)), (by (try dsimp only); first | omega | rfl | (simp [*]; done)), (by (try dsimp only); first | omega | rfl | (simp [*]; done))⟩
    rintro ⟨sum, i1⟩ ⟨lo1, hi1, q, b⟩ E hE
    dsimp only at lo1 hi1 q b
    conv => cbv
    refine r_lss m.sX (fun h1 => ?_) (fun h1 => ?_) <;> conv => cbv
    · refine r_oindex m.sX (by omega) (by omega) ?_
      conv => cbv
      obtain ⟨n, hn⟩ := get_ex (xs := v1) (i := Int.toNat i1) (by omega)
      have mn := get_mem hn
      have dn := drop_cons hn
      have kn := take_snoc hn
      have jn : (i1 + 1).toNat = Int.toNat i1 + 1 := by omega
      have vn := nth_some hn
      have bs := sa n (hv1 ▸ get_mem hn)
      try dsimp only at bs
      have kn := take_snoc hn
      try dsimp only at kn
      refine r_oload m.sX hn (Nat.le_of_ble_eq_true rfl) ?_
      conv => cbv
      refine r_subf m.sX (by omega) (by omega) fun r1 hr1 => ?_
      conv => cbv
      refine r_subf m.sX (by omega) (by omega) fun r2 hr2 => ?_
      conv => cbv
      have sq := sq54 (show r2 = r1 by omega) (by omega) (by omega)
      try dsimp only at sq
      refine r_mulf m.sX (by first | omega | (subst_vars; omega)) (by first | omega | (subst_vars; omega)) fun r3 hr3 => ?_
      conv => cbv
      refine r_addf m.sX (by omega) (by omega) fun sum_2 hsum_2 => ?_
      conv => cbv
      refine r_addf m.sX (by omega) (by omega) fun r4 hr4 => ?_
      conv => cbv
      have tr4 : Int.toNat r4 = Int.toNat i1 + 1 := by omega
      refine hE _ (sum_2, r4) ?_ ?_ ⟨(by (try dsimp only); first | omega | (simp only [List.length_nil]; omega)), (by (try dsimp only); first | omega | (simp only [List.length_nil]; omega)), (by (try dsimp only); rw [tr4, kn, costF_snoc, ← q]; dsimp only; rw [hsum_2, hr3, hr1, hr2]), (by (try dsimp only); first | omega | rfl | (simp [*]; done) | (rw [b]; simp [*]; done))⟩ (by first | omega | (dsimp only; omega))
      · cbv
      · cbv
    · have dz_i1 := drop_end (xs := v1) (i := Int.toNat i1) (by omega)
      have tz_i1 := take_end (xs := v1) (i := Int.toNat i1) (by omega)
      exact hQ (.int .i64 sum) (Eq.trans (by first | rfl | (simp only [lb, lbI, rows_cons, rows_nil, unnilT, unnil, unnilTI, unnilI]; done) | (simp only [lb, lbI, rows_cons, rows_nil, unnilT, unnil, unnilTI, unnilI]; rfl)) (congrArg (PV.int .i64) (show sum = costF (rA, rB, rC) (spacesF (leftF words measure) (gapsF words)) from by rw [q, ← hv1, take_end (by omega)])))   -- leaf 1

end Go.Proofs.Ytiaodmfipeoegaa.Ai
