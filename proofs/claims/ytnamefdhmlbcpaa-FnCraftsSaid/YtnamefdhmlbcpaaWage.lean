/- Contracts of WageOf, and the law FnExactWageOf. -/
import Derived.Test.YtnamefdhmlbcpaaLearnt
namespace Go.Proofs.Ytnamefdhmlbcpaa.Ai
open Go Go.Proofs
set_option maxRecDepth 10000
set_option maxHeartbeats 4000000
set_option linter.unusedVariables false

def asked (l : List Craft) (set : List Int) : Bool := good l && (rising 0 (l.length - 1) none set && learnt l set)

theorem isLearnt_fst (l : List Craft) (set : List Int) : (isLearnt l set).1 = asked l set := by
  unfold isLearnt asked
  cases good l <;> cases rising 0 (l.length - 1) none set <;> rfl

theorem isApprentice_ok (l : List Craft) (set : List Int) : OkA Try.prog 59 [.isl 2 (rows cCraft l), .isl 1 (rows cInt set)] (· = .bool (asked l set)) :=
  fn_intro envOk fieldsOk mixed Try.func59 rfl fun κ X Y L Q m hQ => by
    conv => cbv
    refine r_callF bb m.sX (IsLearnt_ok l set) fun p hp => ?_
    obtain ⟨p1, p2⟩ := p
    conv => cbv
    exact hQ _ (congrArg PV.bool (by rw [← isLearnt_fst, ← hp]))

theorem apAsked_ok (l : List Craft) (set : List Int) : OkA Try.prog 56 [.isl 2 (rows cCraft l), .isl 1 (rows cInt set)] (· = .bool (asked l set)) :=
  fn_intro envOk fieldsOk mixed Try.func56 rfl fun κ X Y L Q m hQ => by
    conv => cbv
    refine r_callB m.sX (apGood_ok l) (fun h1 => ?_) (fun h1 => ?_) <;> conv => cbv
    · refine r_callF PV.bool m.sX (apLearnt_ok l set) fun r hr => ?_
      conv => cbv
      exact hQ _ (congrArg PV.bool (by rw [asked, h1, hr]; rfl))
    · exact hQ _ (congrArg PV.bool (by rw [asked, h1]; rfl))

def wage (l : List Craft) (set : List Int) (base more : Int) : Int × Bool := if asked l set && inB base 0 100000 && inB more 0 10000 then (IntKind.i64.wrap (base + IntKind.i64.wrap (more * set.length)), true) else (0, false)

end Go.Proofs.Ytnamefdhmlbcpaa.Ai
