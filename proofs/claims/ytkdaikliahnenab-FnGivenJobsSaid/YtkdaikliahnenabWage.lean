/- Contracts of WageOf, and the law FnExactWageOf. -/
import Derived.Test.YtkdaikliahnenabLearnt
namespace Go.Proofs.Ytkdaikliahnenab.Ai
open Go Go.Proofs
set_option maxRecDepth 10000
set_option maxHeartbeats 4000000
set_option linter.unusedVariables false

def asked (l : List Craft) (set : List Int) : Bool := good l && (rising 0 (l.length - 1) none set && learnt l set)

theorem isLearnt_fst (l : List Craft) (set : List Int) : (isLearnt l set).1 = asked l set := by
  unfold isLearnt asked
  cases good l <;> cases rising 0 (l.length - 1) none set <;> rfl

theorem isApprentice_ok (l : List Craft) (set : List Int) : OkA Try.prog 133 [.isl 2 (rows cCraft l), .isl 1 (rows cInt set)] (· = .bool (asked l set)) :=
  fn_intro envOk fieldsOk mixed Try.func133 rfl fun κ X Y L Q m hQ => by
    conv => cbv
    refine r_callF bb m.sX (IsLearnt_ok l set) fun p hp => ?_
    obtain ⟨p1, p2⟩ := p
    conv => cbv
    exact hQ _ (congrArg PV.bool (by rw [← isLearnt_fst, ← hp]))

theorem apAsked_ok (l : List Craft) (set : List Int) : OkA Try.prog 134 [.isl 2 (rows cCraft l), .isl 1 (rows cInt set)] (· = .bool (asked l set)) :=
  fn_intro envOk fieldsOk mixed Try.func134 rfl fun κ X Y L Q m hQ => by
    conv => cbv
    refine r_callB m.sX (apGood_ok l) (fun h1 => ?_) (fun h1 => ?_) <;> conv => cbv
    · refine r_callF PV.bool m.sX (apLearnt_ok l set) fun r hr => ?_
      conv => cbv
      exact hQ _ (congrArg PV.bool (by rw [asked, h1, hr]; rfl))
    · exact hQ _ (congrArg PV.bool (by rw [asked, h1]; rfl))

def wage (l : List Craft) (set : List Int) (base more : Int) : Int × Bool := if asked l set && inB base 0 100000 && inB more 0 10000 then (IntKind.i64.wrap (base + IntKind.i64.wrap (more * set.length)), true) else (0, false)

theorem wageOf_ok (l : List Craft) (set : List Int) (base more : Int) : OkA Try.prog 61 [.isl 2 (rows cCraft l), .isl 1 (rows cInt set), .int .i64 base, .int .i64 more] (· = ib (wage l set base more)) :=
  fn_intro envOk fieldsOk mixed Try.func61 rfl fun κ X Y L Q m hQ => by
    conv => cbv
    refine r_callB m.sX (isApprentice_ok l set) (fun h1 => ?_) (fun h1 => ?_) <;> conv => cbv
    · refine r_callB m.sX (within_ok base 0 100000) (fun h2 => ?_) (fun h2 => ?_) <;> conv => cbv
      · refine r_callB m.sX (within_ok more 0 10000) (fun h3 => ?_) (fun h3 => ?_) <;> conv => cbv
        · refine r_lenR m.sX fun n hn mn => ?_
          conv => cbv
          refine r_mul m.sX fun p hp => ?_
          conv => cbv
          refine r_add m.sX fun s hs => ?_
          conv => cbv
          exact hQ (ib (s, true)) (congrArg ib (by rw [wage, h1, h2, h3, hs, hp, hn]; rfl))
        · exact hQ (ib (0, false)) (congrArg ib (by rw [wage, h1, h2, h3]; rfl))
      · exact hQ (ib (0, false)) (congrArg ib (by rw [wage, h1, h2]; rfl))
    · exact hQ (ib (0, false)) (congrArg ib (by rw [wage, h1]; rfl))

theorem specWageOf_ok (l : List Craft) (set : List Int) (base more : Int) : OkA Try.prog 62 [.isl 2 (rows cCraft l), .isl 1 (rows cInt set), .int .i64 base, .int .i64 more] (· = ib (wage l set base more)) :=
  fn_intro envOk fieldsOk mixed Try.func62 rfl fun κ X Y L Q m hQ => by
    conv => cbv
    refine r_callB m.sX (apAsked_ok l set) (fun h1 => ?_) (fun h1 => ?_) <;> conv => cbv
    · refine r_callB m.sX (l1In_ok base 0 100000) (fun h2 => ?_) (fun h2 => ?_) <;> conv => cbv
      · refine r_callB m.sX (l1In_ok more 0 10000) (fun h3 => ?_) (fun h3 => ?_) <;> conv => cbv
        · refine r_lenR m.sX fun n hn mn => ?_
          conv => cbv
          refine r_mul m.sX fun p hp => ?_
          conv => cbv
          refine r_add m.sX fun s hs => ?_
          conv => cbv
          exact hQ (ib (s, true)) (congrArg ib (by rw [wage, h1, h2, h3, hs, hp, hn]; rfl))
        · exact hQ (ib (0, false)) (congrArg ib (by rw [wage, h1, h2, h3]; rfl))
      · exact hQ (ib (0, false)) (congrArg ib (by rw [wage, h1, h2]; rfl))
    · exact hQ (ib (0, false)) (congrArg ib (by rw [wage, h1]; rfl))

end Go.Proofs.Ytkdaikliahnenab.Ai
