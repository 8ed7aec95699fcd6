/- Maps from numbers: the rules. -/
import Derived.Test.YtnamefdhmlbcpaaCommonC
set_option linter.unusedVariables false
namespace Go.Proofs.Ytnamefdhmlbcpaa.Ai
open Go Go.RowKit Go.Proofs
section
variable {P : Program} {X : Req → (PV → Prop) → Prop} {K : PV → Prop} {t kt et : Nat} {n : Int}
theorem r_mput (h : Std P false X) {l : List Int} (hu : P.underlying t = some (.map kt et)) (hk : P.underlying kt = some (.int .i64)) (H : ∀ z, z = putM l n → K (.isl 1 (rows cInt z))) : X (.mput t (rows cInt l) n) K := by
  rw [h.eq]
  refine ⟨⟨kt, et, hu, hk⟩, l, rows_eq _ _, ?_⟩
  have := H _ rfl
  rw [rows_eq] at this
  exact this
theorem r_mput0 (h : Std P false X) (hu : P.underlying t = some (.map kt et)) (hk : P.underlying kt = some (.int .i64)) (H : ∀ z, z = [n] → K (.isl 1 (rows cInt z))) : X (.mput t [] n) K := by
  rw [h.eq]
  refine ⟨⟨kt, et, hu, hk⟩, [], rfl, ?_⟩
  have := H [n] rfl
  rw [rows_eq] at this
  exact this
theorem r_mget (h : Std P false X) {l : List Int} (hu : P.underlying t = some (.map kt et)) (hk : P.underlying kt = some (.int .i64)) (he : P.underlying et = some .bool) (hz : ∀ w, (zeroValue et).run P w = .ok (.bool false) w)
    (H1 : n ∈ l → K (.bool true)) (H2 : n ∉ l → K (.bool false)) : X (.mget t (rows cInt l) n) K := by
  rw [h.eq]
  refine ⟨⟨kt, et, hu, hk, he, hz⟩, l, rows_eq _ _, ?_⟩
  by_cases e : n ∈ l
  · rw [decide_eq_true e]; exact H1 e
  · rw [decide_eq_false e]; exact H2 e
end
end Go.Proofs.Ytnamefdhmlbcpaa.Ai
