/- Proved: for every input the law FnMeasures returns true, and each argument reads afterwards as it read before. Conditions: none. -/
import Derived.Test.YtfnfjgdepilgkaaRows
import Derived.Test.YtfnfjgdepilgkaaAiOpen
import Derived.Test.YtfnfjgdepilgkaaLawMeasures
import Derived.Test.YtfnfjgdepilgkaaOpensU8
import Derived.ProofKit
import Derived.OpenShut
import Derived.ShutString
namespace Go.Proofs.Ytfnfjgdepilgkaa.Ai
open Go Go.Proofs Go.ChangeShapes Go.WideShapes Go.ChangeAt Go.RowKit
set_option linter.unusedVariables false
set_option maxRecDepth 100000

theorem ownFnMeasures : ownKnob Try.prog.godebug = none := by kernel_rfl
theorem laidOutFnMeasures : laidOutB Try.prog = true := by kernel_rfl

set_option maxRecDepth 100000 in
theorem liftedFnMeasures (os : Os) (started : os.Started) (H : Type) (enc : TypeId × Value → H) :
    ReturnsInHanded {} Try.checked os 6 .any (Rows.fnMeasuresSpec.pre6 enc Try.prog Try.f6 Rows.fnMeasuresRow.domain false) (Rows.fnMeasuresSpec.post enc Try.prog Try.f6 false true false false) := by
  refine returnsInHanded_of_change (C := Try.checked) ownFnMeasures started (by kernel_rfl) Try.func6
    (ChangeSpec.witness6 (enc := enc) (C := Try.checked) false ⟨#[], #[.slice none 0 0, .slice none 0 0], []⟩ 8 (by kernel_rfl) (by kernel_rfl) (by kernel_rfl) (by kernel_rfl)) ?_
  intro W base args ds gs before hval0 hW hcnd _
  have hval : ∀ (j : Nat) t v, Try.f6.params[j]? = some t → args[j]? = some v → Value.okWide Try.prog W .any base t v := hval0
  have hW' := hW
  obtain ⟨p, q, hA0, hV, rfl, hfz, hnd⟩ := hW
  have hA : DataW.TrodAll enc Try.prog W 0 (fun _ => true) true Try.f6.params.toList args.toList ds p := hA0
  rw [Try.params6] at hA hval
  obtain ⟨v0, vs0, d0, ds0, p0, q0, hargs, rfl, rfl, h0, r0⟩ := trodAll_cons hA
  obtain ⟨v1, vs1, d1, ds1, p1, q1, rfl, rfl, rfl, h1, r1⟩ := trodAll_cons r0
  obtain ⟨rfl, rfl, rfl⟩ := trodAll_nil r1
  obtain rfl : args = #[v0, v1] := by cases args; simp_all
  obtain ⟨rfl, rfl⟩ := trodVars_none hV
  have k0 := h0
  have lt0 : ∀ x ∈ p0, x.block < W.heap.size := by obtain ⟨m, hm⟩ := k0; exact DataW.trod_lt m _ _ _ hm
  obtain ⟨b0, l0, c0, rfl⟩ := okWide_slice Try.underlying22 (hval 0 22 v0 rfl rfl)
  obtain ⟨a0, w0, e0⟩ := arg_one (g := fun a => .isl _ (rows _ a)) opensU8S rfl h0
  have k1 := h1
  have lt1 : ∀ x ∈ p1, x.block < W.heap.size := by obtain ⟨m, hm⟩ := k1; exact DataW.trod_lt m _ _ _ hm
  obtain ⟨b1, l1, c1, rfl⟩ := okWide_slice Try.underlying22 (hval 1 22 v1 rfl rfl)
  obtain ⟨a1, w1, e1⟩ := arg_one (g := fun a => .isl _ (rows _ a)) opensU8S rfl h1
  clear hA0 hval0
  refine ((lawMeasures_ok a0 a1 w0 w1).2 W (fun k => k < W.heap.size) _ (fun _ h => h) (All2.cons e0 (All2.cons e1 All2.nil))).mono ?_
  rintro e W' ⟨v, r, gs', rfl, rfl, bel, hr⟩
  have hv : v = .bool true := by
    obtain ⟨-, -, hr⟩ := hr
    cases hr with
    | one hr => cases hr with
      | imm hr => cases hr; rfl
  subst hv
  exact ⟨_, rfl, _, _, _, [], _, [], hW', trodAll_mk1 (shut_bool Try.underlying4 _), (trodAll_cons_mk (Below.trod laidOutFnMeasures (by kernel_rfl) (of_decide_eq_true (by kernel_rfl)) k0 bel lt0) (trodAll_cons_mk (Below.trod laidOutFnMeasures (by kernel_rfl) (of_decide_eq_true (by kernel_rfl)) k1 bel lt1) trodAll_mk0)), rfl, bel.frame _, fun h => by cases h⟩

theorem and2FnMeasures {a b : Bool} (ha : a = true) (hb : b = true) : (a && b) = true := by rw [ha, hb]; rfl
theorem z0FnMeasures : (Rows.fnMeasuresRow.wf (OpenSpec.ofChange Rows.fnMeasuresSpec)) = true := by kernel_rfl
theorem z1FnMeasures : (laidOutB Try.pinned.checked.prog) = true := by kernel_rfl
theorem z2FnMeasures : (mapsRowed Try.pinned.checked.prog) = true := by kernel_rfl
theorem z3FnMeasures : (Try.f6.params.all (Try.pinned.checked.prog.readableRec ·)) = true := by kernel_rfl
theorem z4FnMeasures : (namedTie Try.pinned.checked.prog Rows.fnMeasuresRow.named Rows.fnMeasuresSpec.vars) = true := by kernel_rfl
theorem z5FnMeasures : ((Rows.fnMeasuresRow.stops == [])) = true := by kernel_rfl
theorem z6FnMeasures : ((Try.pinned.checked.prog.stops == [])) = true := by kernel_rfl
theorem z7FnMeasures : ((Rows.fnMeasuresRow.knobs == [])) = true := by kernel_rfl
theorem z8FnMeasures : ((Try.pinned.checked.prog.stopKnobs == [])) = true := by kernel_rfl
theorem z9FnMeasures : ((Rows.fnMeasuresRow.inPlace == Try.pinned.checked.prog.inPlace 6)) = true := by kernel_rfl
theorem z10FnMeasures : ((Rows.fnMeasuresRow.unfollowed == Try.pinned.checked.prog.unfollowed 6)) = true := by kernel_rfl
theorem z11FnMeasures : ((Rows.fnMeasuresRow.recurses == Try.pinned.checked.prog.recurses 6)) = true := by kernel_rfl
theorem z12FnMeasures : ((Rows.fnMeasuresRow.named == Try.pinned.checked.prog.varsNamed 6)) = true := by kernel_rfl
theorem z13FnMeasures : ((Rows.fnMeasuresRow.maps == (Try.f6.params.toList ++ Rows.fnMeasuresSpec.plain.varTypes Try.pinned.checked.prog).any (Try.pinned.checked.prog.mapsRec ·))) = true := by kernel_rfl
theorem z14FnMeasures : ((Rows.fnMeasuresRow.ifaces == (Try.f6.params.toList ++ Rows.fnMeasuresSpec.plain.varTypes Try.pinned.checked.prog).any (Try.pinned.checked.prog.ifacesRec ·))) = true := by kernel_rfl
theorem z15FnMeasures : ((Rows.fnMeasuresRow.mapsOut == Try.pinned.checked.prog.mapsAmong Try.f6.resultTypes.toList)) = true := by kernel_rfl
theorem z16FnMeasures : ((Rows.fnMeasuresRow.loops == (Try.f6.params.toList ++ Rows.fnMeasuresSpec.plain.varTypes Try.pinned.checked.prog).any (Try.pinned.checked.prog.loopsFrom ·))) = true := by kernel_rfl
theorem z17FnMeasures : ((Rows.fnMeasuresRow.wideKeys == (Try.f6.params.toList ++ Rows.fnMeasuresSpec.plain.varTypes Try.pinned.checked.prog ++ Try.f6.resultTypes.toList).any (Try.pinned.checked.prog.wideKeysFrom ·))) = true := by kernel_rfl
theorem z18FnMeasures : (Rows.fnMeasuresSpec.vars.all (Try.pinned.checked.prog.varReadable ·)) = true := by kernel_rfl
theorem z19FnMeasures : (Try.f6.resultTypes.all (fun t => Try.pinned.checked.prog.readableRec t && decide (t < Try.pinned.checked.prog.types.size))) = true := by kernel_rfl
theorem z20FnMeasures : ((Rows.fnMeasuresRow.ifacesOut == Try.f6.resultTypes.toList.any (Try.pinned.checked.prog.ifacesRec ·))) = true := by kernel_rfl
theorem z21FnMeasures : ((Rows.fnMeasuresRow.loopsOut == Try.f6.resultTypes.toList.any (Try.pinned.checked.prog.loopsFrom ·))) = true := by kernel_rfl
theorem z22FnMeasures : ((Rows.fnMeasuresRow.plainKeys == Try.pinned.checked.prog.plainKeys)) = true := by kernel_rfl
theorem z23FnMeasures : (Rows.fnMeasuresRow.shortTexts.isNone) = true := by kernel_rfl
theorem z24FnMeasures : (Try.pinned.checked.prog.stopsHeard) = true := by kernel_rfl
theorem z25FnMeasures : (Try.pinned.checked.prog.mayEnter) = true := by kernel_rfl
theorem z26FnMeasures : ((Rows.fnMeasuresRow.lifted == Try.pinned.checked.prog.liftsFinal)) = true := by kernel_rfl
theorem z27FnMeasures : ((Try.pinned.checked.prog.make == some Rows.fnMeasuresRow.make)) = true := by kernel_rfl
theorem z28FnMeasures : ((Rows.fnMeasuresRow.kinds == (if Rows.fnMeasuresRow.domain.isEmpty then [] else Try.f6.params.toList.map fun t => match Try.pinned.checked.prog.underlying t with | some (.int k) => some k | _ => none))) = true := by kernel_rfl
theorem z29FnMeasures : ((Rows.fnMeasuresRow.pinned == Rows.fnMeasuresRow.pinnedBy)) = true := by kernel_rfl
theorem z30FnMeasures : ((Rows.fnMeasuresRow.veiled == (Try.f6.params.toList ++ Rows.fnMeasuresSpec.plain.varTypes Try.pinned.checked.prog ++ Try.f6.resultTypes.toList).any (Try.pinned.checked.prog.veiledRec ·))) = true := by kernel_rfl
theorem z31FnMeasures : (Rows.fnMeasuresRow.veiledFits Try.pinned.checked.prog Try.f6.params.toList (Try.f6.params.toList ++ Rows.fnMeasuresSpec.plain.varTypes Try.pinned.checked.prog ++ Try.f6.resultTypes.toList)) = true := by kernel_rfl
theorem closedFnMeasures : joinedFacts Try.pinned.checked.prog 6 Try.f6 Rows.fnMeasuresSpec Rows.fnMeasuresRow = true := (and2FnMeasures (and2FnMeasures (and2FnMeasures (and2FnMeasures (and2FnMeasures (and2FnMeasures (and2FnMeasures (and2FnMeasures (and2FnMeasures (and2FnMeasures (and2FnMeasures (and2FnMeasures (and2FnMeasures (and2FnMeasures (and2FnMeasures (and2FnMeasures (and2FnMeasures (and2FnMeasures (and2FnMeasures (and2FnMeasures (and2FnMeasures (and2FnMeasures (and2FnMeasures (and2FnMeasures (and2FnMeasures (and2FnMeasures (and2FnMeasures (and2FnMeasures (and2FnMeasures (and2FnMeasures (and2FnMeasures z0FnMeasures z1FnMeasures) z2FnMeasures) z3FnMeasures) z4FnMeasures) z5FnMeasures) z6FnMeasures) z7FnMeasures) z8FnMeasures) z9FnMeasures) z10FnMeasures) z11FnMeasures) z12FnMeasures) z13FnMeasures) z14FnMeasures) z15FnMeasures) z16FnMeasures) z17FnMeasures) z18FnMeasures) z19FnMeasures) z20FnMeasures) z21FnMeasures) z22FnMeasures) z23FnMeasures) z24FnMeasures) z25FnMeasures) z26FnMeasures) z27FnMeasures) z28FnMeasures) z29FnMeasures) z30FnMeasures) z31FnMeasures)
theorem namedFnMeasures : Try.pinned.checked.prog.funcNamed Rows.fnMeasuresRow.func = some 6 := by kernel_rfl

theorem overFnMeasures : Rows.fnMeasuresRow.holds Try.pinned (OpenSpec.ofChange Rows.fnMeasuresSpec) :=
  OpenClaim.holds_of_wide 6 Try.f6 rfl rfl rfl rfl rfl rfl rfl ⟨rfl, rfl, rfl, rfl, rfl⟩ rfl rfl rfl rfl rfl namedFnMeasures Try.func6 closedFnMeasures
    (of_decide_eq_true (by kernel_rfl)) (by unfold Func.isWrapper; first | (rw [if_pos (by decide +kernel)]; kernel_rfl) | (rw [if_neg (by decide +kernel)]; exact ⟨rfl, rfl⟩))
    (fun os started H enc _ => liftedFnMeasures os started H enc)

theorem provedFnMeasures : Rows.FnMeasuresSaid := overFnMeasures
#print axioms provedFnMeasures
end Go.Proofs.Ytfnfjgdepilgkaa.Ai
