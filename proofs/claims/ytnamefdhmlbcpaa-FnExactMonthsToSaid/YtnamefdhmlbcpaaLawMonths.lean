/- The law FnExactMonthsTo: its body returns true. -/
import Derived.Test.YtnamefdhmlbcpaaMiss
namespace Go.Proofs.Ytnamefdhmlbcpaa.Ai
open Go Go.Proofs
set_option maxRecDepth 10000
set_option maxHeartbeats 4000000
set_option linter.unusedVariables false

theorem lawMonthsTo_ok (cs : List Craft) (set : List Int) (ct : Int) : OkA Try.prog 4 [.isl 2 (rows cCraft cs), .isl 1 (rows cInt set), .int .i64 ct] (· = .bool true) :=
  fn_intro envOk fieldsOk mixed Try.func4 rfl fun κ X Y L Q m hQ => by
    conv => cbv
    refine r_lenR m.sX fun n hn mn => ?_
    conv => cbv
    refine r_gtr m.sX (fun h0 => ?_) (fun h0 => ?_) <;> conv => cbv
    · exact hQ _ rfl
    refine r_callE m.sX (szCraftS_ok cs 1048576 (by omega) (by omega)) ?_
    rintro _ ⟨q, rfl, h1, h2⟩
    conv => cbv
    refine r_lss m.sX (fun h3 => ?_) (fun h3 => ?_) <;> conv => cbv
    · exact hQ _ rfl
    have hs := h2 h3
    have hset : (set.length : Int) ≤ 1048576 := by omega
    clear h1 h2 h3 h0 hn mn
    refine r_call m.sX (toCraftS_ok cs hs) ?_
    conv => cbv
    refine r_call m.sX (toIntS_ok set hset) ?_
    conv => cbv
    refine .inl (r_callFO ib m.sX ((specMonthsTo_ok cs set ct).ok flat_ib) fun p hp => ?_)
    obtain ⟨p1, p2⟩ := p
    cases p2 <;> conv => cbv
    all_goals
      refine r_call m.sX (toCraftS_ok cs hs) ?_
      conv => cbv
      refine r_call m.sX (toIntS_ok set hset) ?_
      conv => cbv
      refine .inl (r_callFO ib m.sX ((MonthsTo_ok cs set ct).ok flat_ib) fun p' hp' => ?_)
      obtain rfl := hp'.trans hp.symm
      conv => cbv
      refine r_neq m.sX (fun h => absurd rfl h) (fun h => ?_)
      conv => cbv
      refine r_call m.sX (toCraftS_ok cs hs) ?_
      conv => cbv
      refine .inl (r_callO m.sX ((eqCraftS_ok cs).ok flat_bool) ?_)
      conv => cbv
      refine r_call m.sX (toIntS_ok set hset) ?_
      conv => cbv
      refine .inl (r_callO m.sX ((eqIntS_ok set).ok flat_bool) ?_)
      conv => cbv
      exact hQ _ rfl
end Go.Proofs.Ytnamefdhmlbcpaa.Ai
