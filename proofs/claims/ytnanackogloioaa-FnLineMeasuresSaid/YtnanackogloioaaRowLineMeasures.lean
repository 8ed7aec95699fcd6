/- Proved: for every input the law FnLineMeasures returns true, and each argument reads afterwards as it read before. Conditions: none. -/
import Derived.Test.YtnanackogloioaaRows
import Derived.Test.YtnanackogloioaaAiOpen
import Derived.Test.YtnanackogloioaaLawLineMeasures
import Derived.Test.YtnanackogloioaaOpensU8
import Derived.ProofKit
import Derived.OpenShut
import Derived.ShutString
namespace Go.Proofs.Ytnanackogloioaa.Ai
open Go Go.Proofs Go.ChangeShapes Go.WideShapes Go.ChangeAt Go.RowKit
set_option linter.unusedVariables false
set_option maxRecDepth 100000

theorem ownFnLineMeasures : ownKnob Try.prog.godebug = none := by kernel_rfl
theorem laidOutFnLineMeasures : laidOutB Try.prog = true := by kernel_rfl

set_option maxRecDepth 100000 in
theorem liftedFnLineMeasures (os : Os) (started : os.Started) (H : Type) (enc : TypeId × Value → H) :
    ReturnsInHanded {} Try.checked os 7 .any (Rows.fnLineMeasuresSpec.pre6 enc Try.prog Try.f7 Rows.fnLineMeasuresRow.domain false) (Rows.fnLineMeasuresSpec.post enc Try.prog Try.f7 false true false false) := by
  refine returnsInHanded_of_change (C := Try.checked) ownFnLineMeasures started (by kernel_rfl) Try.func7
    (ChangeSpec.witness6 (enc := enc) (C := Try.checked) false ⟨#[], #[.slice none 0 0, .slice none 0 0], []⟩ 8 (by kernel_rfl) (by kernel_rfl) (by kernel_rfl) (by kernel_rfl)) ?_
  intro W base args ds gs before hval0 hW hcnd _
  have hval : ∀ (j : Nat) t v, Try.f7.params[j]? = some t → args[j]? = some v → Value.okWide Try.prog W .any base t v := hval0
  have hW' := hW
  obtain ⟨p, q, hA0, hV, rfl, hfz, hnd⟩ := hW
  have hA : DataW.TrodAll enc Try.prog W 0 (fun _ => true) true Try.f7.params.toList args.toList ds p := hA0
  rw [Try.params7] at hA hval
  obtain ⟨v0, vs0, d0, ds0, p0, q0, hargs, rfl, rfl, h0, r0⟩ := trodAll_cons hA
  obtain ⟨v1, vs1, d1, ds1, p1, q1, rfl, rfl, rfl, h1, r1⟩ := trodAll_cons r0
  obtain ⟨rfl, rfl, rfl⟩ := trodAll_nil r1
  obtain rfl : args = #[v0, v1] := by cases args; simp_all
  obtain ⟨rfl, rfl⟩ := trodVars_none hV
  have k0 := h0
  have lt0 : ∀ x ∈ p0, x.block < W.heap.size := by obtain ⟨m, hm⟩ := k0; exact DataW.trod_lt m _ _ _ hm
  obtain ⟨b0, l0, c0, rfl⟩ := okWide_slice Try.underlying22 (hval 0 22 v0 rfl rfl)
  obtain ⟨a0, w0, e0⟩ := arg_one (g := fun a => .isl _ (rows _ a)) opensU8S rfl h0
  have k1 := h1
  have lt1 : ∀ x ∈ p1, x.block < W.heap.size := by obtain ⟨m, hm⟩ := k1; exact DataW.trod_lt m _ _ _ hm
  obtain ⟨b1, l1, c1, rfl⟩ := okWide_slice Try.underlying22 (hval 1 22 v1 rfl rfl)
  obtain ⟨a1, w1, e1⟩ := arg_one (g := fun a => .isl _ (rows _ a)) opensU8S rfl h1
  clear hA0 hval0
  refine ((lawLineMeasures_ok a0 a1 w0 w1).2 W (fun k => k < W.heap.size) _ (fun _ h => h) (All2.cons e0 (All2.cons e1 All2.nil))).mono ?_
  rintro e W' ⟨v, r, gs', rfl, rfl, bel, hr⟩
  have hv : v = .bool true := by
    obtain ⟨-, -, hr⟩ := hr
    cases hr with
    | one hr => cases hr with
      | imm hr => cases hr; rfl
  subst hv
  exact ⟨_, rfl, _, _, _, [], _, [], hW', trodAll_mk1 (shut_bool Try.underlying4 _), (trodAll_cons_mk (Below.trod laidOutFnLineMeasures (by kernel_rfl) (of_decide_eq_true (by kernel_rfl)) k0 bel lt0) (trodAll_cons_mk (Below.trod laidOutFnLineMeasures (by kernel_rfl) (of_decide_eq_true (by kernel_rfl)) k1 bel lt1) trodAll_mk0)), rfl, bel.frame _, fun h => by cases h⟩

theorem and2FnLineMeasures {a b : Bool} (ha : a = true) (hb : b = true) : (a && b) = true := by rw [ha, hb]; rfl
theorem z0FnLineMeasures : (Rows.fnLineMeasuresRow.wf (OpenSpec.ofChange Rows.fnLineMeasuresSpec)) = true := by kernel_rfl
theorem z1FnLineMeasures : (laidOutB Try.pinned.checked.prog) = true := by kernel_rfl
theorem z2FnLineMeasures : (mapsRowed Try.pinned.checked.prog) = true := by kernel_rfl
theorem z3FnLineMeasures : (Try.f7.params.all (Try.pinned.checked.prog.readableRec ·)) = true := by kernel_rfl
theorem z4FnLineMeasures : (namedTie Try.pinned.checked.prog Rows.fnLineMeasuresRow.named Rows.fnLineMeasuresSpec.vars) = true := by kernel_rfl
theorem z5FnLineMeasures : ((Rows.fnLineMeasuresRow.stops == [])) = true := by kernel_rfl
theorem z6FnLineMeasures : ((Try.pinned.checked.prog.stops == [])) = true := by kernel_rfl
theorem z7FnLineMeasures : ((Rows.fnLineMeasuresRow.knobs == [])) = true := by kernel_rfl
theorem z8FnLineMeasures : ((Try.pinned.checked.prog.stopKnobs == [])) = true := by kernel_rfl
theorem z9FnLineMeasures : ((Rows.fnLineMeasuresRow.inPlace == Try.pinned.checked.prog.inPlace 7)) = true := by kernel_rfl
theorem z10FnLineMeasures : ((Rows.fnLineMeasuresRow.unfollowed == Try.pinned.checked.prog.unfollowed 7)) = true := by kernel_rfl
theorem z11FnLineMeasures : ((Rows.fnLineMeasuresRow.recurses == Try.pinned.checked.prog.recurses 7)) = true := by kernel_rfl
theorem z12FnLineMeasures : ((Rows.fnLineMeasuresRow.named == Try.pinned.checked.prog.varsNamed 7)) = true := by kernel_rfl
theorem z13FnLineMeasures : ((Rows.fnLineMeasuresRow.maps == (Try.f7.params.toList ++ Rows.fnLineMeasuresSpec.plain.varTypes Try.pinned.checked.prog).any (Try.pinned.checked.prog.mapsRec ·))) = true := by kernel_rfl
theorem z14FnLineMeasures : ((Rows.fnLineMeasuresRow.ifaces == (Try.f7.params.toList ++ Rows.fnLineMeasuresSpec.plain.varTypes Try.pinned.checked.prog).any (Try.pinned.checked.prog.ifacesRec ·))) = true := by kernel_rfl
theorem z15FnLineMeasures : ((Rows.fnLineMeasuresRow.mapsOut == Try.pinned.checked.prog.mapsAmong Try.f7.resultTypes.toList)) = true := by kernel_rfl
theorem z16FnLineMeasures : ((Rows.fnLineMeasuresRow.loops == (Try.f7.params.toList ++ Rows.fnLineMeasuresSpec.plain.varTypes Try.pinned.checked.prog).any (Try.pinned.checked.prog.loopsFrom ·))) = true := by kernel_rfl
theorem z17FnLineMeasures : ((Rows.fnLineMeasuresRow.wideKeys == (Try.f7.params.toList ++ Rows.fnLineMeasuresSpec.plain.varTypes Try.pinned.checked.prog ++ Try.f7.resultTypes.toList).any (Try.pinned.checked.prog.wideKeysFrom ·))) = true := by kernel_rfl
theorem z18FnLineMeasures : (Rows.fnLineMeasuresSpec.vars.all (Try.pinned.checked.prog.varReadable ·)) = true := by kernel_rfl
theorem z19FnLineMeasures : (Try.f7.resultTypes.all (fun t => Try.pinned.checked.prog.readableRec t && decide (t < Try.pinned.checked.prog.types.size))) = true := by kernel_rfl
theorem z20FnLineMeasures : ((Rows.fnLineMeasuresRow.ifacesOut == Try.f7.resultTypes.toList.any (Try.pinned.checked.prog.ifacesRec ·))) = true := by kernel_rfl
theorem z21FnLineMeasures : ((Rows.fnLineMeasuresRow.loopsOut == Try.f7.resultTypes.toList.any (Try.pinned.checked.prog.loopsFrom ·))) = true := by kernel_rfl
theorem z22FnLineMeasures : ((Rows.fnLineMeasuresRow.plainKeys == Try.pinned.checked.prog.plainKeys)) = true := by kernel_rfl
theorem z23FnLineMeasures : (Rows.fnLineMeasuresRow.shortTexts.isNone) = true := by kernel_rfl
theorem z24FnLineMeasures : (Try.pinned.checked.prog.stopsHeard) = true := by kernel_rfl
theorem z25FnLineMeasures : (Try.pinned.checked.prog.mayEnter) = true := by kernel_rfl
theorem z26FnLineMeasures : ((Rows.fnLineMeasuresRow.lifted == Try.pinned.checked.prog.liftsFinal)) = true := by kernel_rfl
theorem z27FnLineMeasures : ((Try.pinned.checked.prog.make == some Rows.fnLineMeasuresRow.make)) = true := by kernel_rfl
theorem z28FnLineMeasures : ((Rows.fnLineMeasuresRow.kinds == (if Rows.fnLineMeasuresRow.domain.isEmpty then [] else Try.f7.params.toList.map fun t => match Try.pinned.checked.prog.underlying t with | some (.int k) => some k | _ => none))) = true := by kernel_rfl
theorem z29FnLineMeasures : ((Rows.fnLineMeasuresRow.pinned == Rows.fnLineMeasuresRow.pinnedBy)) = true := by kernel_rfl
theorem z30FnLineMeasures : ((Rows.fnLineMeasuresRow.veiled == (Try.f7.params.toList ++ Rows.fnLineMeasuresSpec.plain.varTypes Try.pinned.checked.prog ++ Try.f7.resultTypes.toList).any (Try.pinned.checked.prog.veiledRec ·))) = true := by kernel_rfl
theorem z31FnLineMeasures : (Rows.fnLineMeasuresRow.veiledFits Try.pinned.checked.prog Try.f7.params.toList (Try.f7.params.toList ++ Rows.fnLineMeasuresSpec.plain.varTypes Try.pinned.checked.prog ++ Try.f7.resultTypes.toList)) = true := by kernel_rfl
theorem closedFnLineMeasures : joinedFacts Try.pinned.checked.prog 7 Try.f7 Rows.fnLineMeasuresSpec Rows.fnLineMeasuresRow = true := (and2FnLineMeasures (and2FnLineMeasures (and2FnLineMeasures (and2FnLineMeasures (and2FnLineMeasures (and2FnLineMeasures (and2FnLineMeasures (and2FnLineMeasures (and2FnLineMeasures (and2FnLineMeasures (and2FnLineMeasures (and2FnLineMeasures (and2FnLineMeasures (and2FnLineMeasures (and2FnLineMeasures (and2FnLineMeasures (and2FnLineMeasures (and2FnLineMeasures (and2FnLineMeasures (and2FnLineMeasures (and2FnLineMeasures (and2FnLineMeasures (and2FnLineMeasures (and2FnLineMeasures (and2FnLineMeasures (and2FnLineMeasures (and2FnLineMeasures (and2FnLineMeasures (and2FnLineMeasures (and2FnLineMeasures (and2FnLineMeasures z0FnLineMeasures z1FnLineMeasures) z2FnLineMeasures) z3FnLineMeasures) z4FnLineMeasures) z5FnLineMeasures) z6FnLineMeasures) z7FnLineMeasures) z8FnLineMeasures) z9FnLineMeasures) z10FnLineMeasures) z11FnLineMeasures) z12FnLineMeasures) z13FnLineMeasures) z14FnLineMeasures) z15FnLineMeasures) z16FnLineMeasures) z17FnLineMeasures) z18FnLineMeasures) z19FnLineMeasures) z20FnLineMeasures) z21FnLineMeasures) z22FnLineMeasures) z23FnLineMeasures) z24FnLineMeasures) z25FnLineMeasures) z26FnLineMeasures) z27FnLineMeasures) z28FnLineMeasures) z29FnLineMeasures) z30FnLineMeasures) z31FnLineMeasures)
theorem namedFnLineMeasures : Try.pinned.checked.prog.funcNamed Rows.fnLineMeasuresRow.func = some 7 := by kernel_rfl

theorem overFnLineMeasures : Rows.fnLineMeasuresRow.holds Try.pinned (OpenSpec.ofChange Rows.fnLineMeasuresSpec) :=
  OpenClaim.holds_of_wide 7 Try.f7 rfl rfl rfl rfl rfl rfl rfl ⟨rfl, rfl, rfl, rfl, rfl⟩ rfl rfl rfl rfl rfl namedFnLineMeasures Try.func7 closedFnLineMeasures
    (of_decide_eq_true (by kernel_rfl)) (by unfold Func.isWrapper; first | (rw [if_pos (by decide +kernel)]; kernel_rfl) | (rw [if_neg (by decide +kernel)]; exact ⟨rfl, rfl⟩))
    (fun os started H enc _ => liftedFnLineMeasures os started H enc)

theorem provedFnLineMeasures : Rows.FnLineMeasuresSaid := overFnLineMeasures
#print axioms provedFnLineMeasures
end Go.Proofs.Ytnanackogloioaa.Ai
