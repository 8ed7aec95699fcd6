/- The law's body. -/
import Derived.Test.YtmgebkckindelaaCraft
namespace Go.Proofs.Ytmgebkckindelaa.Ai
open Go Go.Proofs
set_option maxRecDepth 10000
set_option maxHeartbeats 4000000
set_option linter.unusedVariables false

theorem flat_bool {v : Bool} : ∀ r, r = PV.bool v → flatR r := fun r h => by subst h; trivial

theorem lawAreCrafts_ok (cs : List Craft) : OkA Try.prog 3 [.isl 2 (rows cCraft cs)] (· = .bool true) :=
  fn_intro envOk fieldsOk mixed Try.func3 rfl fun κ X Y L Q m hQ => by
    conv => cbv
    refine r_callE m.sX (szCraftS_ok cs 1048576 (by omega) (by omega)) ?_
    rintro _ ⟨q, rfl, h1, h2⟩
    conv => cbv
    refine r_lss m.sX (fun h3 => ?_) (fun h3 => ?_) <;> conv => cbv
    · exact hQ _ rfl
    have hs := h2 h3
    refine r_call m.sX (toCraftS_ok cs hs) ?_
    conv => cbv
    refine .inl (r_callFO PV.bool m.sX ((specAreCrafts_ok cs).ok flat_bool) fun b hb => ?_)
    conv => cbv
    refine r_call m.sX (toCraftS_ok cs hs) ?_
    conv => cbv
    refine .inl (r_callFO PV.bool m.sX ((areCrafts_ok cs).ok flat_bool) fun b' hb' => ?_)
    obtain rfl : b' = b := hb'.trans hb.symm
    cases b' <;> conv => cbv
    · refine r_call m.sX (toCraftS_ok cs hs) ?_
      conv => cbv
      refine .inl (r_callO m.sX ((eqCraftS_ok cs).ok flat_bool) ?_)
      conv => cbv
      exact hQ _ rfl
    · refine r_call m.sX (toCraftS_ok cs hs) ?_
      conv => cbv
      refine .inl (r_callO m.sX ((eqCraftS_ok cs).ok flat_bool) ?_)
      conv => cbv
      exact hQ _ rfl
end Go.Proofs.Ytmgebkckindelaa.Ai
