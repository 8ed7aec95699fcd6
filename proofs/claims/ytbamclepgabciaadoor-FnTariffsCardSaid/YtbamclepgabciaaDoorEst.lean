/- Contracts of the functions behind FnEstimates. -/
import Derived.Test.YtbamclepgabciaaDoorDrawT
namespace Go.Proofs.YtbamclepgabciaaDoor.Ai
open Go Go.Proofs
set_option linter.unusedSimpArgs false
set_option maxRecDepth 10000
set_option maxHeartbeats 4000000
set_option linter.unusedVariables false


def jobPriceOf (t : Tariff) (ens pg mi : Int) : Int × Bool := if goodT t && jobOk ens pg mi then (priceF t ens pg mi, true) else (0, false)
def settingOf (t : Tariff) (ens : Int) : Int × Bool := if goodT t && inB ens 0 3000000 then (settingF t.1 ens, true) else (0, false)
def linesOf (ens me : Int) : Int × Bool := if inB ens 0 3000000 && inB me 1 200 then (upF ens me, true) else (0, false)
def ensOf (a b c : Int) : Int × Bool := if allIn [a, b, c] 0 1000000 then (upF (18 * a) 20 + upF b 2 + upF (3 * c) 2, true) else (0, false)

theorem PriceOfJob_ok (a b c d ens pg mi : Int) : OkA Tryd.prog 43 [.agg (cTariff (a, b, c, d)), .int .i64 ens, .int .i64 pg, .int .i64 mi] (· = ib (jobPriceOf (a, b, c, d) ens pg mi)) :=
  fn_intro envOk fieldsOk mixed Tryd.func43 rfl fun κ X Y L Q m hQ => by
    conv => cbv
    refine r_callB m.sX (IsTariff_ok a b c d) (fun g1 => ?_) (fun g1 => ?_) <;> conv => cbv
    rotate_left
    · exact hQ (ib (0, false)) (congrArg ib (by rw [jobPriceOf, g1]; rfl))
    refine r_callB m.sX (isEns_ok ens) (fun g2 => ?_) (fun g2 => ?_) <;> conv => cbv
    rotate_left
    · exact hQ (ib (0, false)) (congrArg ib (by rw [jobPriceOf, jobOk, g2]; simp))
    refine r_callB m.sX (isJobSize_ok pg) (fun g3 => ?_) (fun g3 => ?_) <;> conv => cbv
    rotate_left
    · exact hQ (ib (0, false)) (congrArg ib (by rw [jobPriceOf, jobOk, g3]; simp))
    refine r_callB m.sX (isJobSize_ok mi) (fun g4 => ?_) (fun g4 => ?_) <;> conv => cbv
    rotate_left
    · exact hQ (ib (0, false)) (congrArg ib (by rw [jobPriceOf, jobOk, g4]; simp))
    refine r_callF (PV.int .i64) m.sX (jobPrice_ok a b c d ens pg mi g1 (inB_spec g2) (inB_spec g3) (inB_spec g4)) fun p hp => ?_
    conv => cbv
    exact hQ (ib (p, true)) (congrArg ib (by rw [jobPriceOf, jobOk, g1, g2, g3, g4, hp]; rfl))

theorem isCopyCount_ok (n : Int) : OkA Tryd.prog 115 [.int .i64 n] (· = .bool (inB n 0 1000000)) :=
  fn_intro envOk fieldsOk mixed Tryd.func115 rfl fun κ X Y L Q m hQ => by
    conv => cbv
    refine r_callF PV.bool m.sX (within_ok n 0 1000000) fun b hb => ?_
    conv => cbv
    exact hQ _ (congrArg PV.bool hb)

def EnsFor (th price low : Int) : Prop := 0 ≤ low ∧ low ≤ 3000000 ∧ settingF th low ≤ price ∧ (low < 3000000 → price < settingF th (low + 1))

theorem settingF_mono {th x y : Int} (h : 0 ≤ th) (hxy : x ≤ y) : settingF th x ≤ settingF th y := by
  unfold settingF upF
  have := Int.mul_le_mul_of_nonneg_right hxy h
  exact Int.ediv_le_ediv (by omega) (by omega)

theorem EnsFor.unique {th price x y : Int} (h : 0 ≤ th) (hx : EnsFor th price x) (hy : EnsFor th price y) : x = y := by
  obtain ⟨x1, x2, x3, x4⟩ := hx
  obtain ⟨y1, y2, y3, y4⟩ := hy
  rcases Int.lt_trichotomy x y with hlt | he | hlt
  · have := settingF_mono h (show x + 1 ≤ y by omega)
    have := x4 (by omega)
    omega
  · exact he
  · have := settingF_mono h (show y + 1 ≤ x by omega)
    have := y4 (by omega)
    omega

def ensForR (t : Tariff) (price : Int) (r : PV) : Prop := ∃ low ok, r = .tup [.int .i64 low, .bool ok] ∧ ok = (goodT t && inB price 0 1000000000) ∧ (ok = true → EnsFor t.1 price low) ∧ (ok = false → low = 0)

end Go.Proofs.YtbamclepgabciaaDoor.Ai
