/- Proved: for every input the law FnTrials returns true, and each argument reads afterwards as it read before. Conditions: none. -/
import Derived.Test.YtfnfjgdepilgkaaRows
import Derived.Test.YtfnfjgdepilgkaaAiOpen
import Derived.Test.YtfnfjgdepilgkaaLawTrials
import Derived.Test.YtfnfjgdepilgkaaOpensU8
import Derived.ProofKit
import Derived.OpenShut
import Derived.ShutString
namespace Go.Proofs.Ytfnfjgdepilgkaa.Ai
open Go Go.Proofs Go.ChangeShapes Go.WideShapes Go.ChangeAt Go.RowKit
set_option linter.unusedVariables false
set_option maxRecDepth 100000

theorem ownFnTrials : ownKnob Try.prog.godebug = none := by kernel_rfl
theorem laidOutFnTrials : laidOutB Try.prog = true := by kernel_rfl

set_option maxRecDepth 100000 in
theorem liftedFnTrials (os : Os) (started : os.Started) (H : Type) (enc : TypeId × Value → H) :
    ReturnsInHanded {} Try.checked os 3 .any (Rows.fnTrialsSpec.pre6 enc Try.prog Try.f3 Rows.fnTrialsRow.domain false) (Rows.fnTrialsSpec.post enc Try.prog Try.f3 false true false false) := by
  refine returnsInHanded_of_change (C := Try.checked) ownFnTrials started (by kernel_rfl) Try.func3
    (ChangeSpec.witness6 (enc := enc) (C := Try.checked) false ⟨#[], #[.slice none 0 0, .slice none 0 0], []⟩ 8 (by kernel_rfl) (by kernel_rfl) (by kernel_rfl) (by kernel_rfl)) ?_
  intro W base args ds gs before hval0 hW hcnd _
  have hval : ∀ (j : Nat) t v, Try.f3.params[j]? = some t → args[j]? = some v → Value.okWide Try.prog W .any base t v := hval0
  have hW' := hW
  obtain ⟨p, q, hA0, hV, rfl, hfz, hnd⟩ := hW
  have hA : DataW.TrodAll enc Try.prog W 0 (fun _ => true) true Try.f3.params.toList args.toList ds p := hA0
  rw [Try.params3] at hA hval
  obtain ⟨v0, vs0, d0, ds0, p0, q0, hargs, rfl, rfl, h0, r0⟩ := trodAll_cons hA
  obtain ⟨v1, vs1, d1, ds1, p1, q1, rfl, rfl, rfl, h1, r1⟩ := trodAll_cons r0
  obtain ⟨rfl, rfl, rfl⟩ := trodAll_nil r1
  obtain rfl : args = #[v0, v1] := by cases args; simp_all
  obtain ⟨rfl, rfl⟩ := trodVars_none hV
  have k0 := h0
  have lt0 : ∀ x ∈ p0, x.block < W.heap.size := by obtain ⟨m, hm⟩ := k0; exact DataW.trod_lt m _ _ _ hm
  obtain ⟨b0, l0, c0, rfl⟩ := okWide_slice Try.underlying22 (hval 0 22 v0 rfl rfl)
  obtain ⟨a0, w0, e0⟩ := arg_one (g := fun a => .isl _ (rows _ a)) opensU8S rfl h0
  have k1 := h1
  have lt1 : ∀ x ∈ p1, x.block < W.heap.size := by obtain ⟨m, hm⟩ := k1; exact DataW.trod_lt m _ _ _ hm
  obtain ⟨b1, l1, c1, rfl⟩ := okWide_slice Try.underlying22 (hval 1 22 v1 rfl rfl)
  obtain ⟨a1, w1, e1⟩ := arg_one (g := fun a => .isl _ (rows _ a)) opensU8S rfl h1
  clear hA0 hval0
  refine ((lawTrials_ok a0 a1 w0 w1).2 W (fun k => k < W.heap.size) _ (fun _ h => h) (All2.cons e0 (All2.cons e1 All2.nil))).mono ?_
  rintro e W' ⟨v, r, gs', rfl, rfl, bel, hr⟩
  have hv : v = .bool true := by
    obtain ⟨-, -, hr⟩ := hr
    cases hr with
    | one hr => cases hr with
      | imm hr => cases hr; rfl
  subst hv
  exact ⟨_, rfl, _, _, _, [], _, [], hW', trodAll_mk1 (shut_bool Try.underlying4 _), (trodAll_cons_mk (Below.trod laidOutFnTrials (by kernel_rfl) (of_decide_eq_true (by kernel_rfl)) k0 bel lt0) (trodAll_cons_mk (Below.trod laidOutFnTrials (by kernel_rfl) (of_decide_eq_true (by kernel_rfl)) k1 bel lt1) trodAll_mk0)), rfl, bel.frame _, fun h => by cases h⟩

theorem and2FnTrials {a b : Bool} (ha : a = true) (hb : b = true) : (a && b) = true := by rw [ha, hb]; rfl
theorem z0FnTrials : (Rows.fnTrialsRow.wf (OpenSpec.ofChange Rows.fnTrialsSpec)) = true := by kernel_rfl
theorem z1FnTrials : (laidOutB Try.pinned.checked.prog) = true := by kernel_rfl
theorem z2FnTrials : (mapsRowed Try.pinned.checked.prog) = true := by kernel_rfl
theorem z3FnTrials : (Try.f3.params.all (Try.pinned.checked.prog.readableRec ·)) = true := by kernel_rfl
theorem z4FnTrials : (namedTie Try.pinned.checked.prog Rows.fnTrialsRow.named Rows.fnTrialsSpec.vars) = true := by kernel_rfl
theorem z5FnTrials : ((Rows.fnTrialsRow.stops == [])) = true := by kernel_rfl
theorem z6FnTrials : ((Try.pinned.checked.prog.stops == [])) = true := by kernel_rfl
theorem z7FnTrials : ((Rows.fnTrialsRow.knobs == [])) = true := by kernel_rfl
theorem z8FnTrials : ((Try.pinned.checked.prog.stopKnobs == [])) = true := by kernel_rfl
theorem z9FnTrials : ((Rows.fnTrialsRow.inPlace == Try.pinned.checked.prog.inPlace 3)) = true := by kernel_rfl
theorem z10FnTrials : ((Rows.fnTrialsRow.unfollowed == Try.pinned.checked.prog.unfollowed 3)) = true := by kernel_rfl
theorem z11FnTrials : ((Rows.fnTrialsRow.recurses == Try.pinned.checked.prog.recurses 3)) = true := by kernel_rfl
theorem z12FnTrials : ((Rows.fnTrialsRow.named == Try.pinned.checked.prog.varsNamed 3)) = true := by kernel_rfl
theorem z13FnTrials : ((Rows.fnTrialsRow.maps == (Try.f3.params.toList ++ Rows.fnTrialsSpec.plain.varTypes Try.pinned.checked.prog).any (Try.pinned.checked.prog.mapsRec ·))) = true := by kernel_rfl
theorem z14FnTrials : ((Rows.fnTrialsRow.ifaces == (Try.f3.params.toList ++ Rows.fnTrialsSpec.plain.varTypes Try.pinned.checked.prog).any (Try.pinned.checked.prog.ifacesRec ·))) = true := by kernel_rfl
theorem z15FnTrials : ((Rows.fnTrialsRow.mapsOut == Try.pinned.checked.prog.mapsAmong Try.f3.resultTypes.toList)) = true := by kernel_rfl
theorem z16FnTrials : ((Rows.fnTrialsRow.loops == (Try.f3.params.toList ++ Rows.fnTrialsSpec.plain.varTypes Try.pinned.checked.prog).any (Try.pinned.checked.prog.loopsFrom ·))) = true := by kernel_rfl
theorem z17FnTrials : ((Rows.fnTrialsRow.wideKeys == (Try.f3.params.toList ++ Rows.fnTrialsSpec.plain.varTypes Try.pinned.checked.prog ++ Try.f3.resultTypes.toList).any (Try.pinned.checked.prog.wideKeysFrom ·))) = true := by kernel_rfl
theorem z18FnTrials : (Rows.fnTrialsSpec.vars.all (Try.pinned.checked.prog.varReadable ·)) = true := by kernel_rfl
theorem z19FnTrials : (Try.f3.resultTypes.all (fun t => Try.pinned.checked.prog.readableRec t && decide (t < Try.pinned.checked.prog.types.size))) = true := by kernel_rfl
theorem z20FnTrials : ((Rows.fnTrialsRow.ifacesOut == Try.f3.resultTypes.toList.any (Try.pinned.checked.prog.ifacesRec ·))) = true := by kernel_rfl
theorem z21FnTrials : ((Rows.fnTrialsRow.loopsOut == Try.f3.resultTypes.toList.any (Try.pinned.checked.prog.loopsFrom ·))) = true := by kernel_rfl
theorem z22FnTrials : ((Rows.fnTrialsRow.plainKeys == Try.pinned.checked.prog.plainKeys)) = true := by kernel_rfl
theorem z23FnTrials : (Rows.fnTrialsRow.shortTexts.isNone) = true := by kernel_rfl
theorem z24FnTrials : (Try.pinned.checked.prog.stopsHeard) = true := by kernel_rfl
theorem z25FnTrials : (Try.pinned.checked.prog.mayEnter) = true := by kernel_rfl
theorem z26FnTrials : ((Rows.fnTrialsRow.lifted == Try.pinned.checked.prog.liftsFinal)) = true := by kernel_rfl
theorem z27FnTrials : ((Try.pinned.checked.prog.make == some Rows.fnTrialsRow.make)) = true := by kernel_rfl
theorem z28FnTrials : ((Rows.fnTrialsRow.kinds == (if Rows.fnTrialsRow.domain.isEmpty then [] else Try.f3.params.toList.map fun t => match Try.pinned.checked.prog.underlying t with | some (.int k) => some k | _ => none))) = true := by kernel_rfl
theorem z29FnTrials : ((Rows.fnTrialsRow.pinned == Rows.fnTrialsRow.pinnedBy)) = true := by kernel_rfl
theorem z30FnTrials : ((Rows.fnTrialsRow.veiled == (Try.f3.params.toList ++ Rows.fnTrialsSpec.plain.varTypes Try.pinned.checked.prog ++ Try.f3.resultTypes.toList).any (Try.pinned.checked.prog.veiledRec ·))) = true := by kernel_rfl
theorem z31FnTrials : (Rows.fnTrialsRow.veiledFits Try.pinned.checked.prog Try.f3.params.toList (Try.f3.params.toList ++ Rows.fnTrialsSpec.plain.varTypes Try.pinned.checked.prog ++ Try.f3.resultTypes.toList)) = true := by kernel_rfl
theorem closedFnTrials : joinedFacts Try.pinned.checked.prog 3 Try.f3 Rows.fnTrialsSpec Rows.fnTrialsRow = true := (and2FnTrials (and2FnTrials (and2FnTrials (and2FnTrials (and2FnTrials (and2FnTrials (and2FnTrials (and2FnTrials (and2FnTrials (and2FnTrials (and2FnTrials (and2FnTrials (and2FnTrials (and2FnTrials (and2FnTrials (and2FnTrials (and2FnTrials (and2FnTrials (and2FnTrials (and2FnTrials (and2FnTrials (and2FnTrials (and2FnTrials (and2FnTrials (and2FnTrials (and2FnTrials (and2FnTrials (and2FnTrials (and2FnTrials (and2FnTrials (and2FnTrials z0FnTrials z1FnTrials) z2FnTrials) z3FnTrials) z4FnTrials) z5FnTrials) z6FnTrials) z7FnTrials) z8FnTrials) z9FnTrials) z10FnTrials) z11FnTrials) z12FnTrials) z13FnTrials) z14FnTrials) z15FnTrials) z16FnTrials) z17FnTrials) z18FnTrials) z19FnTrials) z20FnTrials) z21FnTrials) z22FnTrials) z23FnTrials) z24FnTrials) z25FnTrials) z26FnTrials) z27FnTrials) z28FnTrials) z29FnTrials) z30FnTrials) z31FnTrials)
theorem namedFnTrials : Try.pinned.checked.prog.funcNamed Rows.fnTrialsRow.func = some 3 := by kernel_rfl

theorem overFnTrials : Rows.fnTrialsRow.holds Try.pinned (OpenSpec.ofChange Rows.fnTrialsSpec) :=
  OpenClaim.holds_of_wide 3 Try.f3 rfl rfl rfl rfl rfl rfl rfl ⟨rfl, rfl, rfl, rfl, rfl⟩ rfl rfl rfl rfl rfl namedFnTrials Try.func3 closedFnTrials
    (of_decide_eq_true (by kernel_rfl)) (by unfold Func.isWrapper; first | (rw [if_pos (by decide +kernel)]; kernel_rfl) | (rw [if_neg (by decide +kernel)]; exact ⟨rfl, rfl⟩))
    (fun os started H enc _ => liftedFnTrials os started H enc)

theorem provedFnTrials : Rows.FnTrialsSaid := overFnTrials
#print axioms provedFnTrials
end Go.Proofs.Ytfnfjgdepilgkaa.Ai
