/- Contracts of the reference's functions on best breaks. -/
import Derived.Test.YtalookmhhkojeaaFromB
import Derived.Test.YtalookmhhkojeaaParag3
namespace Go.Proofs.Ytalookmhhkojeaa.Ai
open Go Go.Proofs
set_option linter.unusedSimpArgs false
set_option maxRecDepth 10000
set_option maxHeartbeats 4000000
set_option linter.unusedVariables false
theorem paFrom_ok (words : List Int) (r : JRule) (measure lines : Int) (hp : Pin words r measure) (hl : 0 ≤ lines ∧ lines ≤ 30) : OkA Try.prog 82 [.isl 1 (rows cInt words), .agg (cRule r), .int .i64 measure, .int .i64 lines] (· = (fun x => PV.agg (cPaWay x)) (pV words r measure (md lines lines) 0)) := by
  unfold md
  split
  · rename_i e; exact paFromA_ok words r measure lines hp e
  · exact paFromB_ok words r measure lines hp (by omega)
theorem pV_best1 {ws : List Int} {r : JRule} {m q b d : Int} {c : List Int} (h : ((true, b, c, d) : PW) = pV ws r m q 0) : (c, b, true) = bestF ws r m q := by
  have h0 : 0 ≤ pC ws r m q 0 := of_decide_eq_true (congrArg (·.1) h).symm
  have hb : b = if 0 ≤ pC ws r m q 0 then pC ws r m q 0 else 0 := congrArg (·.2.1) h
  have hc : c = pB ws r m q 0 := congrArg (·.2.2.1) h
  rw [bestF, if_pos h0, hb, if_pos h0, hc]
theorem pV_best0 {ws : List Int} {r : JRule} {m q b d : Int} {c : List Int} (h : ((false, b, c, d) : PW) = pV ws r m q 0) : ([], 0, false) = bestF ws r m q := by
  have h0 : ¬ 0 ≤ pC ws r m q 0 := of_decide_eq_false (congrArg (·.1) h).symm
  rw [bestF, if_neg h0]
theorem bestF_yes {ws : List Int} {r : JRule} {m q b : Int} {c : List Int} (h : (c, b, true) = bestF ws r m q) : 0 ≤ pC ws r m q 0 := by
  unfold bestF at h
  split at h
  · assumption
  · simp at h
theorem bestF_no {ws : List Int} {r : JRule} {m q b : Int} {c : List Int} (h : (c, b, false) = bestF ws r m q) : ¬ 0 ≤ pC ws r m q 0 := by
  unfold bestF at h
  split at h
  · simp at h
  · assumption
theorem paBest_ok (words : List Int) (r : JRule) (measure : Int) (lines : Int) (hp : Pin words r measure) (hl : 0 ≤ lines ∧ lines ≤ 30) : OkA Try.prog 72 [.isl 1 (rows cInt words), .agg (cRule r), .int .i64 measure, .int .i64 lines] (· = (licI 1 cInt) (bestF words r measure (md lines lines))) := by
  obtain ⟨rA, rB, rC⟩ := r
  try dsimp only at *
  exact OkA.iceI 1 (fn_intro envOk fieldsOk mixed Try.func72 rfl fun κ X Y L Q m hQ => by
    conv => cbv
    refine r_callF (fun x => PV.agg (cPaWay x)) m.sX (paFrom_ok words (rA, rB, rC) measure lines hp (by omega)) fun v hbestA => ?_
    obtain ⟨bestA, bestB, bestC, bestD⟩ := v
    conv => cbv
    try dsimp only at hbest
    have hbest := hbestA
    rcases Bool.eq_false_or_eq_true bestA with rfl | rfl <;> conv => cbv
    · refine r_draw m (by kernel_rfl) ?_
      conv => cbv
      exact hQ (.tup [.isl 1 (rows cInt bestC), .int .i64 bestB, .bool true]) (Eq.trans (by first | rfl | (simp only [lic, licI, lb, lbI, rows_cons, rows_nil, unnilT, unnil, unnilTI, unnilI]; done) | (simp only [lic, licI, lb, lbI, rows_cons, rows_nil, unnilT, unnil, unnilTI, unnilI]; rfl)) (congrArg ((licI 1 cInt)) (show (bestC, bestB, true) = bestF words (rA, rB, rC) measure (md lines lines) from by exact pV_best1 hbest)))   -- leaf 1
    · exact hQ (.tup [.nil, .int .i64 0, .bool false]) (Eq.trans (by first | rfl | (simp only [lic, licI, lb, lbI, rows_cons, rows_nil, unnilT, unnil, unnilTI, unnilI]; done) | (simp only [lic, licI, lb, lbI, rows_cons, rows_nil, unnilT, unnil, unnilTI, unnilI]; rfl)) (congrArg ((licI 1 cInt)) (show ([], 0, false) = bestF words (rA, rB, rC) measure (md lines lines) from by exact pV_best0 hbest))))   -- leaf 2

theorem specBestBreaks_ok (words : List Int) (r : JRule) (measure : Int)  : OkA Try.prog 25 [.isl 1 (rows cInt words), .agg (cRule r), .int .i64 measure] (· = (licI 1 cInt) (bestPA words r measure (-1))) := by
  obtain ⟨rA, rB, rC⟩ := r
  try dsimp only at *
  exact OkA.iceI 1 (fn_intro envOk fieldsOk mixed Try.func25 rfl fun κ X Y L Q m hQ => by
    conv => cbv
    refine r_callB m.sX (paAsked_ok words (rA, rB, rC) measure) (fun h1 => ?_) (fun h1 => ?_) <;> conv => cbv
    · have hp := askP_in h1
      try dsimp only at hp
      refine r_callF (licI 1 cInt) m.sX (paBest_ok words (rA, rB, rC) measure 0 (by first | rfl | assumption | omega | (simp only [List.length_append, List.length_cons, List.length_nil] at *; omega)) (by first | rfl | assumption | omega | (simp only [List.length_append, List.length_cons, List.length_nil] at *; omega))) fun v hv1 => ?_
      obtain ⟨v1, v2, v3⟩ := v
      conv => cbv
      try dsimp only at hv1
      exact hQ (.tup [.isl 1 (rows cInt v1), .int .i64 v2, .bool v3]) (Eq.trans (by first | rfl | (simp only [lic, licI, lb, lbI, rows_cons, rows_nil, unnilT, unnil, unnilTI, unnilI]; done) | (simp only [lic, licI, lb, lbI, rows_cons, rows_nil, unnilT, unnil, unnilTI, unnilI]; rfl)) (congrArg ((licI 1 cInt)) (show (v1, v2, v3) = bestPA words (rA, rB, rC) measure (-1) from by rw [best_eq h1]; exact hv1)))   -- leaf 1
    · exact hQ (.tup [.nil, .int .i64 0, .bool false]) (Eq.trans (by first | rfl | (simp only [lic, licI, lb, lbI, rows_cons, rows_nil, unnilT, unnil, unnilTI, unnilI]; done) | (simp only [lic, licI, lb, lbI, rows_cons, rows_nil, unnilT, unnil, unnilTI, unnilI]; rfl)) (congrArg ((licI 1 cInt)) (show ([], 0, false) = bestPA words (rA, rB, rC) measure (-1) from by rw [bestPA, if_neg (by rw [h1]; simp)]))))   -- leaf 2

theorem specCountBreaks_ok (words : List Int) (r : JRule) (measure : Int)  : OkA Try.prog 27 [.isl 1 (rows cInt words), .agg (cRule r), .int .i64 measure] (· = ib (countPA words r measure)) := by
  obtain ⟨rA, rB, rC⟩ := r
  try dsimp only at *
  exact fn_intro envOk fieldsOk mixed Try.func27 rfl fun κ X Y L Q m hQ => by
    conv => cbv
    refine r_callB m.sX (paAsked_ok words (rA, rB, rC) measure) (fun h1 => ?_) (fun h1 => ?_) <;> conv => cbv
    · have hp := askP_in h1
      try dsimp only at hp
      refine r_callF (fun x => PV.agg (cPaWay x)) m.sX (paFrom_ok words (rA, rB, rC) measure 0 hp (by omega)) fun v hv1A => ?_
      obtain ⟨v1A, v1B, v1C, v1D⟩ := v
      conv => cbv
      try dsimp only at hv1
      have hv1 := hv1A
      exact hQ (.tup [.int .i64 v1D, .bool true]) (Eq.trans (by first | rfl | (simp only [lb, lbI, rows_cons, rows_nil, unnilT, unnil, unnilTI, unnilI]; done) | (simp only [lb, lbI, rows_cons, rows_nil, unnilT, unnil, unnilTI, unnilI]; rfl)) (congrArg (ib) (show (v1D, true) = countPA words (rA, rB, rC) measure from by rw [countPA, if_pos h1]; exact congrArg (fun z : PW => (z.2.2.2, true)) hv1)))   -- leaf 1
    · exact hQ (.tup [.int .i64 0, .bool false]) (Eq.trans (by first | rfl | (simp only [lb, lbI, rows_cons, rows_nil, unnilT, unnil, unnilTI, unnilI]; done) | (simp only [lb, lbI, rows_cons, rows_nil, unnilT, unnil, unnilTI, unnilI]; rfl)) (congrArg (ib) (show (0, false) = countPA words (rA, rB, rC) measure from by rw [countPA, if_neg (by rw [h1]; simp)])))   -- leaf 2

theorem specFewestLines_ok (words : List Int) (r : JRule) (measure : Int)  : OkA Try.prog 29 [.isl 1 (rows cInt words), .agg (cRule r), .int .i64 measure] (· = ib (fewPA words r measure)) := by
  obtain ⟨rA, rB, rC⟩ := r
  try dsimp only at *
  exact fn_intro envOk fieldsOk mixed Try.func29 rfl fun κ X Y L Q m hQ => by
    conv => cbv
    refine r_callB m.sX (paAsked_ok words (rA, rB, rC) measure) (fun h1 => ?_) (fun h1 => ?_) <;> conv => cbv
    · have hp := askP_in h1
      try dsimp only at hp
      have sp := okPara_spec hp.para
      try dsimp only at sp
      refine r_loopF (α := Int) m 34 [0, 2, 8] [⟨4, 33, 0, 0, 0⟩] (fun σ => [(0, .isl 1 (rows cInt words)), (2, .int .i64 measure), (4, .optr 33 0 3 0 0), (8, .int .i64 σ)]) (fun σ => [(33, 0, .box [.int .i64 rA, .int .i64 rB, .int .i64 rC])])
        (fun σ => (1 ≤ σ ∧ σ ≤ words.length + 1) ∧ (fewP words (rA, rB, rC) measure = (List.range' σ.toNat (words.length + 1 - σ.toNat)).find? (fun k : Nat => decide (0 ≤ pC words (rA, rB, rC) measure (k : Int) 0)))) (fun σ => ((words.length : Int) + 1 - σ).toNat) 1 ?_ ?_ ?_ ?_
      · cbv
      · cbv
      · exact ⟨(by (try dsimp only) <;> first | omega | rfl | (simp [*]; done)), (by (try dsimp only) <;> (rfl))⟩
      rintro lines ⟨lb, fq⟩ E hE F hF
      have el : ((lines.toNat : Nat) : Int) = lines := Int.toNat_of_nonneg (by omega)
      have ml : md lines lines = lines := if_neg (by omega)
      conv => cbv
      refine r_lenR m.sX fun n1 hn1 mn1 => ?_
      conv => cbv
      refine r_leq m.sX (fun h2 => ?_) (fun h2 => ?_) <;> conv => cbv
      · refine r_callF (licI 1 cInt) m.sX (paBest_ok words (rA, rB, rC) measure lines (by first | rfl | assumption | omega | (simp only [List.length_append, List.length_cons, List.length_nil] at *; omega)) (by first | rfl | assumption | omega | (simp only [List.length_append, List.length_cons, List.length_nil] at *; omega))) fun v hv1 => ?_
        obtain ⟨v1, v2, ok⟩ := v
        conv => cbv
        try dsimp only at hv1
        rcases Bool.eq_false_or_eq_true ok with rfl | rfl <;> conv => cbv
        · refine hF _ _ ?_
          conv => cbv
          exact hQ (.tup [.int .i64 lines, .bool true]) (Eq.trans (by first | rfl | (simp only [lb, lbI, rows_cons, rows_nil, unnilT, unnil, unnilTI, unnilI]; done) | (simp only [lb, lbI, rows_cons, rows_nil, unnilT, unnil, unnilTI, unnilI]; rfl)) (congrArg (ib) (show (lines, true) = fewPA words (rA, rB, rC) measure from by rw [ml] at hv1; rw [fewPA, if_pos h1, fq, range_step (t := lines.toNat) (n := words.length + 1) (by omega), List.find?_cons_of_pos (by rw [el]; simpa using bestF_yes hv1)]; show _ = (((lines.toNat : Nat) : Int), true); rw [el])))   -- leaf 1
        · refine r_addf m.sX (by omega) (by omega) fun lines_2 hlines_2 => ?_
          conv => cbv
          refine hE _ lines_2 ?_ ?_ ⟨(by (try dsimp only) <;> first | omega | rfl | (simp [*]; done) | (rw [lb]; simp [*]; done)), (by (try dsimp only) <;> (rw [ml] at hv1; rw [fq, range_step (t := lines.toNat) (n := words.length + 1) (by omega), List.find?_cons_of_neg (by rw [el]; simpa using bestF_no hv1), show lines_2.toNat = lines.toNat + 1 by omega]))⟩ (by first | omega | (dsimp only; omega))
          · cbv
          · cbv
      · refine hF _ _ ?_
        conv => cbv
        exact hQ (.tup [.int .i64 0, .bool false]) (Eq.trans (by first | rfl | (simp only [lb, lbI, rows_cons, rows_nil, unnilT, unnil, unnilTI, unnilI]; done) | (simp only [lb, lbI, rows_cons, rows_nil, unnilT, unnil, unnilTI, unnilI]; rfl)) (congrArg (ib) (show (0, false) = fewPA words (rA, rB, rC) measure from by rw [fewPA, if_pos h1, fq, show words.length + 1 - lines.toNat = 0 by omega]; rfl)))   -- leaf 2
    · exact hQ (.tup [.int .i64 0, .bool false]) (Eq.trans (by first | rfl | (simp only [lb, lbI, rows_cons, rows_nil, unnilT, unnil, unnilTI, unnilI]; done) | (simp only [lb, lbI, rows_cons, rows_nil, unnilT, unnil, unnilTI, unnilI]; rfl)) (congrArg (ib) (show (0, false) = fewPA words (rA, rB, rC) measure from by rw [fewPA, if_neg (by rw [h1]; simp)])))   -- leaf 3

end Go.Proofs.Ytalookmhhkojeaa.Ai
