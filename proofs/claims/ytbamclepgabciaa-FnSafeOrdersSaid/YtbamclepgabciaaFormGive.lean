/- The reference's gift: forms are copied into a tree, and the counts are given in it. -/
import Derived.Test.YtbamclepgabciaaForm
import Derived.Test.YtbamclepgabciaaForm2
import Derived.Test.YtbamclepgabciaaAiNest
namespace Go.Proofs.Ytbamclepgabciaa.Ai
open Go Go.Proofs
set_option linter.unusedSimpArgs false
set_option maxRecDepth 10000
set_option maxHeartbeats 4000000
set_option linter.unusedVariables false
noncomputable def cFormN (x : PForm) : List PV := [.fr 3 1 (rows cInt x.1), .fr 3 1 (rows cInt x.2)]
noncomputable def ownF (x : PForm) : PV := .agg (cFormN x)
theorem cool_cForm (l : List PForm) : coolL (rows cFormN l) = rows cForm l := cool_rows cFormN l
theorem cFormN_pair (a b : List Int) : [PV.fr 3 1 (rows cInt a), PV.fr 3 1 (rows cInt b)] = cFormN (a, b) := rfl
/-! ### Plain -/
theorem giveOk_at {free : List Int} {l : List PForm} {i : Int} {c : List Int} (h : giveOk free l i c = true) {x : PForm} (hx : l[i.toNat]? = some x) {k : Nat} (hk : k < c.length) : 0 ≤ nth c k ∧ nth c k ≤ nth free k ∧ nth c k ≤ nth x.2 k := by
  simp only [giveOk, Bool.and_eq_true, decide_eq_true_eq] at h
  obtain ⟨⟨h1, h2⟩, h3, h4⟩ := h
  obtain ⟨a1, a2, a3, y, a4, a5⟩ := askB_spec h1
  obtain rfl : x = y := Option.some.inj (hx.symm.trans a4)
  obtain ⟨b1, b2, -, -⟩ := formB_spec a5
  obtain ⟨f1, f2, f3, f4⟩ := formsB_spec h4
  have c1 := allB_nth h3 hk
  have c2 := allB_nth f3 (k := k) (by rw [plusL_len]; omega)
  rw [nth_plus (by omega)] at c2
  have hm : (plusL x.1 c 1, plusL x.2 c (-1)) ∈ setF l i.toNat c := by
    rw [setF_some c hx]
    exact List.mem_set (List.getElem?_eq_some_iff.1 hx).1 _
  obtain ⟨-, -, -, d4⟩ := formB_spec (f1 _ hm)
  have c3 := allB_nth d4 (k := k) (by dsimp only; rw [plusL_len]; omega)
  dsimp only at c3
  rw [nth_plus (by omega)] at c3
  omega
theorem giveA_at {free : List Int} {l : List PForm} {i : Int} {c : List Int} {x : PForm} (hx : l[i.toNat]? = some x) {k : Nat} (hk : k < c.length) (hn : ¬ (0 ≤ nth c k ∧ nth c k ≤ nth free k ∧ nth c k ≤ nth x.2 k)) : ([], [], false) = giveA free l i c := by
  refine giveA_no ?_
  cases h : giveOk free l i c with
  | false => rfl
  | true => exact absurd (giveOk_at h hx hk) hn
theorem mixT_next {a c : List Int} {f : Int} {k : Nat} {z : Int} (hk : k < a.length) (hz : z = nth a k + f * nth c k) : (mixT a c f k).set k z = mixT a c f (k + 1) := by rw [hz, mixT_step hk]
theorem set_same {α : Type} {l : List α} {i : Nat} {x : α} (h : l[i]? = some x) : l.set i x = l := by
  obtain ⟨hi, e⟩ := List.getElem?_eq_some_iff.1 h
  rw [← e, List.set_getElem_self]
theorem stOwn_ok (x : PForm) (h1 : x.1.length ≤ 1000) (h2 : x.2.length ≤ 1000) : OkA Try.prog 42 [.agg (cForm x)] (· = ownF x) := by
  obtain ⟨xA, xB⟩ := x
  try dsimp only at *
  exact fn_introO envOk fieldsOk mixed Try.func42 rfl fun κ X Y L Q m hQ => by
    conv => cbv
    refine r_draw m (by kernel_rfl) ?_
    conv => cbv
    refine r_callFS (fun l => PV.fr _ _ (rows _ l)) m.sY (l1Own_ok xA (by omega)) trivial fun v1 hv1 => ?_
    conv => cbv
    try dsimp only at hv1
    refine r_callFS (fun l => PV.fr _ _ (rows _ l)) m.sY (l1Own_ok xB (by omega)) trivial fun v2 hv2 => ?_
    conv => cbv
    try dsimp only at hv2
    subst hv1 hv2
    exact hQ (ownF (v1, v2)) rfl
end Go.Proofs.Ytbamclepgabciaa.Ai
