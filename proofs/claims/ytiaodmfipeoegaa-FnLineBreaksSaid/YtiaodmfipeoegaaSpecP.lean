/- Contracts of the reference's functions on best breaks. -/
import Derived.Test.YtiaodmfipeoegaaFromB
import Derived.Test.YtiaodmfipeoegaaParag3
namespace Go.Proofs.Ytiaodmfipeoegaa.Ai
open Go Go.Proofs
set_option linter.unusedSimpArgs false
set_option maxRecDepth 10000
set_option maxHeartbeats 4000000
set_option linter.unusedVariables false
theorem paFrom_ok (words : List Int) (r : JRule) (measure lines : Int) (hp : Pin words r measure) (hl : 0 ≤ lines ∧ lines ≤ 30) : OkA Try.prog 107 [.isl 1 (rows cInt words), .agg (cRule r), .int .i64 measure, .int .i64 lines] (· = (fun x => PV.agg (cPaWay x)) (pV words r measure (md lines lines) 0)) := by
  unfold md
  split
  · rename_i e; exact paFromA_ok words r measure lines hp e
  · exact paFromB_ok words r measure lines hp (by omega)
theorem pV_best1 {ws : List Int} {r : JRule} {m q b d : Int} {c : List Int} (h : ((true, b, c, d) : PW) = pV ws r m q 0) : (c, b, true) = bestF ws r m q := by
  have h0 : 0 ≤ pC ws r m q 0 := of_decide_eq_true (congrArg (·.1) h).symm
  have hb : b = if 0 ≤ pC ws r m q 0 then pC ws r m q 0 else 0 := congrArg (·.2.1) h
  have hc : c = pB ws r m q 0 := congrArg (·.2.2.1) h
  rw [bestF, if_pos h0, hb, if_pos h0, hc]
theorem pV_best0 {ws : List Int} {r : JRule} {m q b d : Int} {c : List Int} (h : ((false, b, c, d) : PW) = pV ws r m q 0) : ([], 0, false) = bestF ws r m q := by
  have h0 : ¬ 0 ≤ pC ws r m q 0 := of_decide_eq_false (congrArg (·.1) h).symm
  rw [bestF, if_neg h0]
theorem paBest_ok (words : List Int) (r : JRule) (measure : Int) (lines : Int) (hp : Pin words r measure) (hl : 0 ≤ lines ∧ lines ≤ 30) : OkA Try.prog 104 [.isl 1 (rows cInt words), .agg (cRule r), .int .i64 measure, .int .i64 lines] (· = (licI 1 cInt) (bestF words r measure (md lines lines))) := by
  obtain ⟨rA, rB, rC⟩ := r
  try dsimp only at *
  exact OkA.iceI 1 (fn_intro envOk fieldsOk mixed Try.func104 rfl fun κ X Y L Q m hQ => by
    conv => cbv
    refine r_callF (fun x => PV.agg (cPaWay x)) m.sX (paFrom_ok words (rA, rB, rC) measure lines hp (by omega)) fun v hbestA => ?_
    obtain ⟨bestA, bestB, bestC, bestD⟩ := v
    conv => cbv
    try dsimp only at hbest
    have hbest := hbestA
    rcases Bool.eq_false_or_eq_true bestA with rfl | rfl <;> conv => cbv
    · refine r_draw m (by kernel_rfl) ?_
      conv => cbv
      exact hQ (.tup [.isl 1 (rows cInt bestC), .int .i64 bestB, .bool true]) (Eq.trans (by first | rfl | (simp only [lic, licI, lb, lbI, rows_cons, rows_nil, unnilT, unnil, unnilTI, unnilI]; try rfl)) (congrArg ((licI 1 cInt)) (show (bestC, bestB, true) = bestF words (rA, rB, rC) measure (md lines lines) from by exact pV_best1 hbest)))
    · exact hQ (.tup [.nil, .int .i64 0, .bool false]) (Eq.trans (by first | rfl | (simp only [lic, licI, lb, lbI, rows_cons, rows_nil, unnilT, unnil, unnilTI, unnilI]; try rfl)) (congrArg ((licI 1 cInt)) (show ([], 0, false) = bestF words (rA, rB, rC) measure (md lines lines) from by exact pV_best0 hbest))))

end Go.Proofs.Ytiaodmfipeoegaa.Ai
