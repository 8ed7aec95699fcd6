/- The law FnExactCheapestTariff: its body returns true. -/
import Derived.Test.YtmgebkckindelaaTariff2
import Derived.Test.YtmgebkckindelaaAiOpen
namespace Go.Proofs.Ytmgebkckindelaa.Ai
open Go Go.Proofs
set_option maxRecDepth 10000
set_option maxHeartbeats 4000000
set_option linter.unusedVariables false

theorem flat_bool' {v : Bool} : ∀ r, r = PV.bool v → flatR r := fun r h => by subst h; trivial
theorem flat_iib {v : Int × Int × Bool} : ∀ r, r = iib v → flatR r := fun r h => by
  subst h
  intro x hx
  simp only [List.mem_cons, List.not_mem_nil, or_false] at hx
  rcases hx with rfl | rfl | rfl <;> trivial

theorem lawCheapestTariff_ok (xs : List Tariff) (ens pg mi : Int) : OkA Try.prog 4 [.isl 4 (rows cTariff xs), .int .i64 ens, .int .i64 pg, .int .i64 mi] (· = .bool true) :=
  fn_intro envOk fieldsOk mixed Try.func4 rfl fun κ X Y L Q m hQ => by
    conv => cbv
    refine r_callE m.sX (szTariffS_ok xs 1048576 (by omega) (by omega)) ?_
    rintro _ ⟨q, rfl, h1, h2⟩
    conv => cbv
    refine r_lss m.sX (fun h3 => ?_) (fun h3 => ?_) <;> conv => cbv
    · exact hQ _ rfl
    have hs := h2 h3
    refine r_call m.sX (toTariffS_ok xs hs) ?_
    conv => cbv
    refine .inl (r_callFO iib m.sX ((specCheapestTariff_ok xs ens pg mi).ok flat_iib) fun p hp => ?_)
    obtain ⟨p1, p2, p3⟩ := p
    conv => cbv
    refine r_call m.sX (toTariffS_ok xs hs) ?_
    conv => cbv
    refine .inl (r_callFO iib m.sX ((CheapestTariff_ok xs ens pg mi).ok flat_iib) fun p' hp' => ?_)
    obtain rfl := hp'.trans hp.symm
    cases p3 <;> conv => cbv
    all_goals
      refine r_neq m.sX (fun h => (by omega)) (fun h => ?_)
      conv => cbv
      refine r_neq m.sX (fun h => (by omega)) (fun h => ?_)
      conv => cbv
      refine r_call m.sX (toTariffS_ok xs hs) ?_
      conv => cbv
      refine .inl (r_callO m.sX ((eqTariffS_ok xs).ok flat_bool') ?_)
      conv => cbv
      exact hQ _ rfl

set_option maxRecDepth 100000
def FitsTariff (c : Tariff) : Prop := Fits c.1 ∧ Fits c.2.1 ∧ Fits c.2.2.1 ∧ Fits c.2.2.2
theorem opensInt' : Opens Try.prog 3 1 cInt Fits := opens_int Try.underlying3 cells3
theorem opensTariff : Opens Try.prog 81 4 cTariff FitsTariff := by
  have h := opens_struct Try.underlying81 cells81 (opensF_cons (o := 0) rfl opensInt' (opensF_cons rfl opensInt' (opensF_cons rfl opensInt' (opensF_cons rfl opensInt' opensF_nil)))) rfl
  exact h.map (fun a => (a.1, a.2.1, a.2.2.1, a.2.2.2.1)) cTariff FitsTariff (fun _ => rfl) (fun _ h => ⟨h.1, h.2.1, h.2.2.1, h.2.2.2.1⟩)
theorem opensTariffS : Opens Try.prog 29 1 (fun xs => [.isl 4 (rows cTariff xs)]) (fun xs => ∀ x ∈ xs, FitsTariff x) := opens_slice Try.underlying29 cells29 (by decide) opensTariff
end Go.Proofs.Ytmgebkckindelaa.Ai
