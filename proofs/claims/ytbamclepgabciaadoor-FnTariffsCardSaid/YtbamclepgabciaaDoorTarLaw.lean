/- Plain laws of tariffs. -/
import Derived.Test.YtbamclepgabciaaDoorEst
import Derived.Test.YtbamclepgabciaaDoorCommon
namespace Go.Proofs.YtbamclepgabciaaDoor.Ai
open Go Go.Proofs
set_option linter.unusedSimpArgs false
set_option linter.unusedVariables false

theorem priceF_nn {t : Tariff} {ens pg mi : Int} (ht : goodT t = true) (hj : jobOk ens pg mi = true) : 0 ≤ priceF t ens pg mi := by
  obtain ⟨a, b, c, d⟩ := t
  have := goodT_spec ht
  unfold priceF
  have h4 : 0 ≤ d := this.2.2.2.1
  dsimp only
  omega
theorem cheap_spec {ens pg mi : Int} (hj : jobOk ens pg mi = true) {b p : Int} : ∀ (r : List Tariff) (i best least : Int), (b, p, true) = cheapFrom ens pg mi i best least r → (0 ≤ least → best < i) →
    (∀ (k : Nat) t, r[k]? = some t → goodT t = true ∧ p ≤ priceF t ens pg mi ∧ (i + k < b → p < priceF t ens pg mi) ∧ (i + k = b → priceF t ens pg mi = p)) ∧ ((b = best ∧ p = least ∧ (least < 0 → r = [])) ∨ (i ≤ b ∧ (least < 0 ∨ p < least)))
  | [], i, best, least, h, hb => by
    simp only [cheapFrom, Prod.mk.injEq] at h
    exact ⟨fun k t hk => by simp at hk, .inl ⟨h.1, h.2.1, fun _ => rfl⟩⟩
  | t :: r, i, best, least, h, hb => by
    unfold cheapFrom at h
    split at h
    case isFalse => simp at h
    rename_i hg
    have hn := priceF_nn hg hj
    split at h
    · rename_i hc
      obtain ⟨h1, h2⟩ := cheap_spec hj r (i + 1) i _ h (fun _ => by omega)
      refine ⟨fun k u hk => ?_, .inr ⟨by omega, by omega⟩⟩
      cases k with
      | zero =>
        obtain rfl := Option.some.inj hk
        exact ⟨hg, by omega, fun _ => by omega, fun _ => by omega⟩
      | succ k =>
        obtain ⟨a, b', c, d⟩ := h1 k u (by simpa using hk)
        exact ⟨a, b', fun hh => c (by omega), fun hh => d (by omega)⟩
    · rename_i hc
      have hb' := hb (by omega)
      obtain ⟨h1, h2⟩ := cheap_spec hj r (i + 1) best least h (fun _ => by omega)
      refine ⟨fun k u hk => ?_, ?_⟩
      · cases k with
        | zero =>
          obtain rfl := Option.some.inj hk
          exact ⟨hg, by omega, fun _ => by omega, fun _ => by omega⟩
        | succ k =>
          obtain ⟨a, b', c, d⟩ := h1 k u (by simpa using hk)
          exact ⟨a, b', fun hh => c (by omega), fun hh => d (by omega)⟩
      · rcases h2 with h2 | h2
        · exact .inl ⟨h2.1, h2.2.1, fun hh => by omega⟩
        · exact .inr ⟨by omega, by omega⟩
theorem cheapest_spec {ens pg mi b p : Int} {xs : List Tariff} (h : (b, p, true) = cheapest ens pg mi xs) :
    ∀ (k : Nat) t, xs[k]? = some t → jobPriceOf t ens pg mi = (priceF t ens pg mi, true) ∧ p ≤ priceF t ens pg mi ∧ ((k : Int) < b → p < priceF t ens pg mi) ∧ ((k : Int) = b → priceF t ens pg mi = p) := by
  unfold cheapest at h
  split at h
  case isFalse => simp at h
  rename_i hc
  simp only [Bool.and_eq_true] at hc
  obtain ⟨h1, -⟩ := cheap_spec hc.2 xs 0 0 (-1) h (by omega)
  intro k t hk
  obtain ⟨a, b', c, d⟩ := h1 k t hk
  exact ⟨by rw [jobPriceOf, a, hc.2]; rfl, b', fun hh => c (by omega), fun hh => d (by omega)⟩

/-- What corrections cost. -/
def corrB (t : Tariff) (marks : List Int) : Int × Bool := if goodT t && decide (marks.length ≤ 40) && allB marks 0 600 then (minutesF t.2.2.1 marks.sum, true) else (0, false)
def pagesB (lines depth body lead : Int) : Int × Bool :=
  if inB lines 0 1000000 && (inB depth 40 2000 && (inB body 4 72 && (inB lead 0 20 && decide (body ≤ depth)))) then (upF lines ((depth + lead) / (body + lead)), true) else (0, false)
theorem allB_sum : ∀ {l : List Int}, allB l 0 600 = true → 0 ≤ l.sum ∧ l.sum ≤ 600 * l.length
  | [], _ => by simp
  | x :: r, h => by
    rw [allB_cons, Bool.and_eq_true] at h
    have h1 := inB_spec h.1
    have h2 := allB_sum h.2
    simp only [List.sum_cons, List.length_cons]
    omega
theorem allB_fits {l : List Int} (h : allB l 0 600 = true) (hl : l.length ≤ 40) : SumFits l := sumfits_of 600 (fun n hn => by have := allB_mem h n hn; omega) (by omega)
theorem upF_mul {n d : Int} (h : 0 < d) : n ≤ upF n d * d ∧ (upF n d - 1) * d < n ∧ upF n d * d ≤ n + d - 1 := by
  have h1 := Int.emod_nonneg (n + d - 1) (show d ≠ 0 by omega)
  have h2 := Int.emod_lt_of_pos (n + d - 1) h
  have h3 := Int.mul_ediv_add_emod (n + d - 1) d
  have h4 : upF n d * d = d * ((n + d - 1) / d) := by rw [upF, Int.mul_comm]
  have h5 : (upF n d - 1) * d = upF n d * d - d := by rw [Int.sub_mul, Int.one_mul]
  omega
theorem fit_ge {depth body lead : Int} (h1 : body ≤ depth) (h2 : 0 < body + lead) (h3 : 0 ≤ depth + lead) : 1 ≤ (depth + lead) / (body + lead) ∧ (depth + lead) / (body + lead) ≤ depth + lead :=
  ⟨by have := Int.ediv_le_ediv h2 (show body + lead ≤ depth + lead by omega); rw [Int.ediv_self (by omega)] at this; exact this, Int.ediv_le_self _ h3⟩
theorem IsTariffT_ok (t : Tariff) : OkA Tryd.prog 54 [.agg (cTariff t)] (· = .bool (goodT t)) := IsTariff_ok t.1 t.2.1 t.2.2.1 t.2.2.2
theorem esTariffT_ok (t : Tariff) : OkA Tryd.prog 108 [.agg (cTariff t)] (· = .bool (goodT t)) := esTariff_ok t.1 t.2.1 t.2.2.1 t.2.2.2
theorem PriceOfJobT_ok (t : Tariff) (ens pg mi : Int) : OkA Tryd.prog 43 [.agg (cTariff t), .int .i64 ens, .int .i64 pg, .int .i64 mi] (· = ib (jobPriceOf t ens pg mi)) := PriceOfJob_ok t.1 t.2.1 t.2.2.1 t.2.2.2 ens pg mi
theorem correctionPriceT_ok (t : Tariff) (mi : Int) (ha : 0 ≤ t.2.2.1 ∧ t.2.2.1 ≤ 100000) (he : 0 ≤ mi ∧ mi ≤ 30000) : OkA Tryd.prog 110 [.agg (cTariff t), .int .i64 mi] (· = .int .i64 (minutesF t.2.2.1 mi)) := correctionPrice_ok t.1 t.2.1 t.2.2.1 t.2.2.2 mi ha he
theorem esMinutesT_ok (t : Tariff) (mi : Int) (ha : 0 ≤ t.2.2.1 ∧ t.2.2.1 ≤ 100000) (he : 0 ≤ mi ∧ mi ≤ 30000) : OkA Tryd.prog 113 [.agg (cTariff t), .int .i64 mi] (· = .int .i64 (minutesF t.2.2.1 mi)) := esMinutes_ok t.1 t.2.1 t.2.2.1 t.2.2.2 mi ha he
end Go.Proofs.YtbamclepgabciaaDoor.Ai
