/- Contracts of the craft functions. -/
import Derived.Test.YtngefbdedbbplaaHelp2
namespace Go.Proofs.Ytngefbdedbbplaa.Ai
open Go Go.Proofs
set_option linter.unusedSimpArgs false
set_option maxRecDepth 10000
set_option maxHeartbeats 4000000
set_option linter.unusedVariables false

def inB (a b c : Int) : Bool := decide (b ≤ a) && decide (a ≤ c)
theorem inB_spec {a b c : Int} (h : inB a b c = true) : b ≤ a ∧ a ≤ c := by simpa [inB] using h

theorem within_ok (a b c : Int) : OkA Try.prog 56 [.int .i64 a, .int .i64 b, .int .i64 c] (· = .bool (inB a b c)) :=
  fn_intro envOk fieldsOk mixed Try.func56 rfl fun κ X Y L Q m hQ => by
    conv => cbv
    refine r_geq m.sX (fun h1 => ?_) (fun h1 => ?_) <;> conv => cbv
    · refine r_leq m.sX (fun h2 => ?_) (fun h2 => ?_) <;> conv => cbv
      · exact hQ _ (congrArg PV.bool (by simp [inB]; omega))
      · exact hQ _ (congrArg PV.bool (by simp [inB]; omega))
    · exact hQ _ (congrArg PV.bool (by simp [inB]; omega))

theorem l1In_ok (a b c : Int) : OkA Try.prog 68 [.int .i64 a, .int .i64 b, .int .i64 c] (· = .bool (inB a b c)) :=
  fn_intro envOk fieldsOk mixed Try.func68 rfl fun κ X Y L Q m hQ => by
    conv => cbv
    refine r_geq m.sX (fun h1 => ?_) (fun h1 => ?_) <;> conv => cbv
    · refine r_leq m.sX (fun h2 => ?_) (fun h2 => ?_) <;> conv => cbv
      · exact hQ _ (congrArg PV.bool (by simp [inB]; omega))
      · exact hQ _ (congrArg PV.bool (by simp [inB]; omega))
    · exact hQ _ (congrArg PV.bool (by simp [inB]; omega))

def rising (lo hi : Int) : Option Int → List Int → Bool
  | _, [] => true
  | p, x :: r => inB x lo hi && (match p with | none => true | some y => decide (y < x)) && rising lo hi (some x) r

theorem rising_cons (lo hi : Int) (p : Option Int) (x : Int) (r : List Int) : rising lo hi p (x :: r) = (inB x lo hi && (match p with | none => true | some y => decide (y < x)) && rising lo hi (some x) r) := by cases p <;> rfl

def prev (xs : List Int) (i : Int) : Option Int := if i = 0 then none else xs[(i - 1).toNat]?

def goodFrom : Int → List Craft → Bool
  | _, [] => true
  | i, c :: r => rising 0 (i - 1) none c.1 && inB c.2 1 60 && goodFrom (i + 1) r
def good (cs : List Craft) : Bool := goodFrom 0 cs && decide ((cs.length : Int) ≤ 10)

end Go.Proofs.Ytngefbdedbbplaa.Ai
