/- The law FnExactPoundsText: its body returns true. -/
import Derived.Test.YtbamclepgabciaaDoorPound
namespace Go.Proofs.YtbamclepgabciaaDoor.Ai
open Go Go.Proofs
set_option linter.unusedSimpArgs false
set_option maxRecDepth 10000
set_option maxHeartbeats 4000000
set_option linter.unusedVariables false
theorem lawExactPoundsText_ok (aPence : Int)  : OkA Tryd.prog 7 [.int .i64 aPence] (· = .bool (true)) :=
  fn_intro envOk fieldsOk mixed Tryd.func7 rfl fun κ X Y L Q m hQ => by
    conv => cbv
    refine r_callF sb m.sX (specPoundsText_ok aPence) fun v hw0 => ?_
    obtain ⟨w0, w1⟩ := v
    conv => cbv
    refine r_callF sb m.sX (PoundsText_ok aPence) fun y1 hy1 => ?_
    obtain rfl := hw0.trans hy1.symm
    clear hy1
    conv => cbv
    refine r_sneq m.sX (fun h1 => ?_) (fun h1 => ?_) <;> conv => cbv
    · exfalso; exact h1 rfl   -- leaf 1
    · rcases Bool.eq_false_or_eq_true w1 with rfl | rfl <;> conv => cbv
      · exact hQ _ (congrArg PV.bool (by first | rfl | omega | (simp [*]; done) | (subst_vars; simp [*]; done)))   -- leaf 2
      · exact hQ _ (congrArg PV.bool (by first | rfl | omega | (simp [*]; done) | (subst_vars; simp [*]; done)))   -- leaf 3

