/- Contracts of the reference's gifts. -/
import Derived.Test.YtmlojdpfpccgoaaFormGive
namespace Go.Proofs.Ytmlojdpfpccgoaa.Ai
open Go Go.Proofs
set_option linter.unusedSimpArgs false
set_option maxRecDepth 10000
set_option maxHeartbeats 4000000
set_option linter.unusedVariables false
theorem specGiveSorts_ok (free : List Int) (l : List PForm) (i : Int) (counts : List Int)  : OkA Try.prog 27 [.isl 1 (rows cInt free), .isl 2 (rows cForm l), .int .i64 i, .isl 1 (rows cInt counts)] (· = giveI (giveA free l i counts)) :=
  OkA.unnil 3 1 (fn_intro envOk fieldsOk mixed Try.func27 rfl fun κ X Y L Q m hQ => by
    conv => cbv
    refine r_callF giveI m.sX (specGive_ok free l i counts) fun v hv1 => ?_
    obtain ⟨v1, v2, v3⟩ := v
    conv => cbv
    exact hQ (.tup [.isl 1 (rows cInt v1), .isl 2 (rows cForm v2), .bool v3]) (Eq.trans (by first | rfl | (simp only [lb, lbI, rows_cons, rows_nil, unnilT, unnil, unnilTI, unnilI]; done) | (simp only [lb, lbI, rows_cons, rows_nil, unnilT, unnil, unnilTI, unnilI]; rfl)) (congrArg (giveI) (show (v1, v2, v3) = giveA free l i counts from by first | rfl | omega | (simp [*]; done) | (subst_vars; simp [*]; done)))))   -- leaf 1

theorem specIsSafeGift_ok (free : List Int) (l : List PForm) (i : Int) (counts : List Int)  : OkA Try.prog 29 [.isl 1 (rows cInt free), .isl 2 (rows cForm l), .int .i64 i, .isl 1 (rows cInt counts)] (· = bb (safeGA free l i counts)) :=
  fn_intro envOk fieldsOk mixed Try.func29 rfl fun κ X Y L Q m hQ => by
    conv => cbv
    refine r_callF giveI m.sX (specGive_ok free l i counts) fun v hleft => ?_
    obtain ⟨left, out, ok⟩ := v
    conv => cbv
    rcases Bool.eq_false_or_eq_true ok with rfl | rfl <;> conv => cbv
    · obtain ⟨GF, GS⟩ := give_facts hleft
      have G1 := GF.forms'
      have GL := GF.glen
      refine r_callF (fun l => PV.fr _ _ (rows _ l)) m.sX (stOrder_ok left out (by first | rfl | assumption | omega | (simp only [List.length_append, List.length_cons, List.length_nil] at *; omega))) fun v1 hv1 => ?_
      conv => cbv
      refine r_lenR m.sX fun n1 hn1 mn1 => ?_
      conv => cbv
      refine r_lenR m.sX fun n2 hn2 mn2 => ?_
      conv => cbv
      refine r_eql m.sX (fun h1 => ?_) (fun h1 => ?_) <;> conv => cbv
      · exact hQ (.tup [.bool true, .bool true]) (Eq.trans (by first | rfl | (simp only [lb, lbI, rows_cons, rows_nil, unnilT, unnil, unnilTI, unnilI]; done) | (simp only [lb, lbI, rows_cons, rows_nil, unnilT, unnil, unnilTI, unnilI]; rfl)) (congrArg (bb) (show (true, true) = safeGA free l i counts from by rw [GS, isSafeB, ← hv1, decide_eq_true (by omega)])))   -- leaf 1
      · exact hQ (.tup [.bool false, .bool true]) (Eq.trans (by first | rfl | (simp only [lb, lbI, rows_cons, rows_nil, unnilT, unnil, unnilTI, unnilI]; done) | (simp only [lb, lbI, rows_cons, rows_nil, unnilT, unnil, unnilTI, unnilI]; rfl)) (congrArg (bb) (show (false, true) = safeGA free l i counts from by rw [GS, isSafeB, ← hv1, decide_eq_false (by omega)])))   -- leaf 2
    · exact hQ (.tup [.bool false, .bool false]) (Eq.trans (by first | rfl | (simp only [lb, lbI, rows_cons, rows_nil, unnilT, unnil, unnilTI, unnilI]; done) | (simp only [lb, lbI, rows_cons, rows_nil, unnilT, unnil, unnilTI, unnilI]; rfl)) (congrArg (bb) (show (false, false) = safeGA free l i counts from by exact safeGA_no hleft)))   -- leaf 3

end Go.Proofs.Ytmlojdpfpccgoaa.Ai
