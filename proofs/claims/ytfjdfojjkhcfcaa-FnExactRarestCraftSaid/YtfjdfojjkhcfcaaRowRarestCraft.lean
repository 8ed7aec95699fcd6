/- Proved: for every input the law FnExactRarestCraft returns true, and each argument reads afterwards as it read before. Conditions: none. -/
import Derived.Test.YtfjdfojjkhcfcaaRows
import Derived.Test.YtfjdfojjkhcfcaaAiOpen
import Derived.Test.YtfjdfojjkhcfcaaRare
import Derived.Test.YtfjdfojjkhcfcaaOpensSS
import Derived.ProofKit
import Derived.OpenShut
import Derived.ShutString
namespace Go.Proofs.Ytfjdfojjkhcfcaa.Ai
open Go Go.Proofs Go.ChangeShapes Go.WideShapes Go.ChangeAt Go.RowKit
set_option linter.unusedVariables false

theorem ownFnExactRarestCraft : ownKnob Try.prog.godebug = none := by kernel_rfl
theorem laidOutFnExactRarestCraft : laidOutB Try.prog = true := by kernel_rfl

set_option maxRecDepth 100000 in
theorem liftedFnExactRarestCraft (os : Os) (started : os.Started) (H : Type) (enc : TypeId × Value → H) :
    ReturnsInHanded {} Try.checked os 6 .any (Rows.fnExactRarestCraftSpec.pre6 enc Try.prog Try.f6 Rows.fnExactRarestCraftRow.domain false) (Rows.fnExactRarestCraftSpec.post enc Try.prog Try.f6 false true false false) := by
  refine returnsInHanded_of_change (C := Try.checked) ownFnExactRarestCraft started (by kernel_rfl) Try.func6
    (ChangeSpec.witness6 (enc := enc) (C := Try.checked) false ⟨#[], #[.slice none 0 0, .slice none 0 0], []⟩ 8 (by kernel_rfl) (by kernel_rfl) (by kernel_rfl) (by kernel_rfl)) ?_
  intro W base args ds gs before hval0 hW hcnd _
  have hval : ∀ (j : Nat) t v, Try.f6.params[j]? = some t → args[j]? = some v → Value.okWide Try.prog W .any base t v := hval0
  have hW' := hW
  obtain ⟨p, q, hA0, hV, rfl, hfz, hnd⟩ := hW
  have hA : DataW.TrodAll enc Try.prog W 0 (fun _ => true) true Try.f6.params.toList args.toList ds p := hA0
  rw [Try.params6] at hA hval
  obtain ⟨v0, vs0, d0, ds0, p0, q0, hargs, rfl, rfl, h0, r0⟩ := trodAll_cons hA
  obtain ⟨v1, vs1, d1, ds1, p1, q1, rfl, rfl, rfl, h1, r1⟩ := trodAll_cons r0
  obtain ⟨rfl, rfl, rfl⟩ := trodAll_nil r1
  obtain rfl : args = #[v0, v1] := by cases args; simp_all
  obtain ⟨rfl, rfl⟩ := trodVars_none hV
  have k0 := h0
  have lt0 : ∀ x ∈ p0, x.block < W.heap.size := by obtain ⟨m, hm⟩ := k0; exact DataW.trod_lt m _ _ _ hm
  obtain ⟨b0, l0, c0, rfl⟩ := okWide_slice Try.underlying49 (hval 0 49 v0 rfl rfl)
  obtain ⟨a0, w0, e0⟩ := arg_one (g := fun a => .isl _ (rows _ a)) opensCraftS rfl h0
  have k1 := h1
  have lt1 : ∀ x ∈ p1, x.block < W.heap.size := by obtain ⟨m, hm⟩ := k1; exact DataW.trod_lt m _ _ _ hm
  obtain ⟨b1, l1, c1, rfl⟩ := okWide_slice Try.underlying62 (hval 1 62 v1 rfl rfl)
  obtain ⟨a1, w1, e1⟩ := arg_one (g := fun a => .isl _ (rows _ a)) opensIntSS rfl h1
  clear hA0 hval0
  refine ((lawRarestCraft_ok a0 a1).2 W (fun k => k < W.heap.size) _ (fun _ h => h) (All2.cons e0 (All2.cons e1 All2.nil))).mono ?_
  rintro e W' ⟨v, r, gs', rfl, rfl, bel, hr⟩
  have hv : v = .bool true := by
    obtain ⟨-, -, hr⟩ := hr
    cases hr with
    | one hr => cases hr with
      | imm hr => cases hr; rfl
  subst hv
  exact ⟨_, rfl, _, _, _, [], _, [], hW', trodAll_mk1 (shut_bool Try.underlying4 _), (trodAll_cons_mk (Below.trod laidOutFnExactRarestCraft (by kernel_rfl) (of_decide_eq_true (by kernel_rfl)) k0 bel lt0) (trodAll_cons_mk (Below.trod laidOutFnExactRarestCraft (by kernel_rfl) (of_decide_eq_true (by kernel_rfl)) k1 bel lt1) trodAll_mk0)), rfl, bel.frame _, fun h => by cases h⟩

theorem overFnExactRarestCraft : Rows.fnExactRarestCraftRow.holds Try.pinned (OpenSpec.ofChange Rows.fnExactRarestCraftSpec) :=
  OpenClaim.holds_of_wide 6 Try.f6 rfl rfl rfl rfl rfl rfl rfl ⟨rfl, rfl, rfl, rfl, rfl⟩ rfl rfl rfl rfl rfl (by kernel_rfl) Try.func6 (by kernel_rfl)
    (of_decide_eq_true (by kernel_rfl)) (by unfold Func.isWrapper; first | (rw [if_pos (by decide +kernel)]; kernel_rfl) | (rw [if_neg (by decide +kernel)]; exact ⟨rfl, rfl⟩))
    (fun os started H enc _ => liftedFnExactRarestCraft os started H enc)

theorem provedFnExactRarestCraft : Rows.FnExactRarestCraftSaid := overFnExactRarestCraft
#print axioms provedFnExactRarestCraft
end Go.Proofs.Ytfjdfojjkhcfcaa.Ai
