/- The law FnExactIsLearnt: its body returns true. -/
import Derived.Test.YtmgebkckindelaaLearnt
import Derived.Test.YtmgebkckindelaaLawAreCrafts
namespace Go.Proofs.Ytmgebkckindelaa.Ai
open Go Go.Proofs
set_option maxRecDepth 10000
set_option maxHeartbeats 4000000
set_option linter.unusedVariables false

theorem flat_bb {v : Bool × Bool} : ∀ r, r = bb v → flatR r := fun r h => by
  subst h
  intro x hx
  simp only [List.mem_cons, List.not_mem_nil, or_false] at hx
  rcases hx with rfl | rfl <;> trivial

theorem lawIsLearnt_ok (cs : List Craft) (set : List Int) : OkA Try.prog 5 [.isl 2 (rows cCraft cs), .isl 1 (rows cInt set)] (· = .bool true) :=
  fn_intro envOk fieldsOk mixed Try.func5 rfl fun κ X Y L Q m hQ => by
    conv => cbv
    refine r_lenR m.sX fun n hn mn => ?_
    conv => cbv
    refine r_gtr m.sX (fun h0 => ?_) (fun h0 => ?_) <;> conv => cbv
    · exact hQ _ rfl
    refine r_callE m.sX (szCraftS_ok cs 1048576 (by omega) (by omega)) ?_
    rintro _ ⟨q, rfl, h1, h2⟩
    conv => cbv
    refine r_lss m.sX (fun h3 => ?_) (fun h3 => ?_) <;> conv => cbv
    · exact hQ _ rfl
    have hs := h2 h3
    refine r_call m.sX (toCraftS_ok cs hs) ?_
    conv => cbv
    refine r_call m.sX (toIntS_ok set (by omega)) ?_
    conv => cbv
    refine .inl (r_callFO bb m.sX ((specIsLearnt_ok cs set).ok flat_bb) fun p hp => ?_)
    rcases p with ⟨_ | _, _ | _⟩ <;> conv => cbv
    all_goals
      refine r_call m.sX (toCraftS_ok cs hs) ?_
      conv => cbv
      refine r_call m.sX (toIntS_ok set (by omega)) ?_
      conv => cbv
      refine .inl (r_callFO bb m.sX ((IsLearnt_ok cs set).ok flat_bb) fun p' hp' => ?_)
      obtain rfl := hp'.trans hp.symm
      conv => cbv
      refine r_call m.sX (toCraftS_ok cs hs) ?_
      conv => cbv
      refine .inl (r_callO m.sX ((eqCraftS_ok cs).ok flat_bool) ?_)
      conv => cbv
      refine r_call m.sX (toIntS_ok set (by omega)) ?_
      conv => cbv
      refine .inl (r_callO m.sX ((eqIntS_ok set).ok flat_bool) ?_)
      conv => cbv
      exact hQ _ rfl
end Go.Proofs.Ytmgebkckindelaa.Ai
