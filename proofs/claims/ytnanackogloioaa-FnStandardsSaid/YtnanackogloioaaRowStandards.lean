/- Proved: for every input the law FnStandards returns true, and each argument reads afterwards as it read before. Conditions: none. -/
import Derived.Test.YtnanackogloioaaRows
import Derived.Test.YtnanackogloioaaAiOpen
import Derived.Test.YtnanackogloioaaLawStandards
import Derived.Test.YtnanackogloioaaOpensU8
import Derived.ProofKit
import Derived.OpenShut
import Derived.ShutString
namespace Go.Proofs.Ytnanackogloioaa.Ai
open Go Go.Proofs Go.ChangeShapes Go.WideShapes Go.ChangeAt Go.RowKit
set_option linter.unusedVariables false
set_option maxRecDepth 100000

theorem ownFnStandards : ownKnob Try.prog.godebug = none := by kernel_rfl
theorem laidOutFnStandards : laidOutB Try.prog = true := by kernel_rfl

set_option maxRecDepth 100000 in
theorem liftedFnStandards (os : Os) (started : os.Started) (H : Type) (enc : TypeId × Value → H) :
    ReturnsInHanded {} Try.checked os 4 .any (Rows.fnStandardsSpec.pre6 enc Try.prog Try.f4 Rows.fnStandardsRow.domain false) (Rows.fnStandardsSpec.post enc Try.prog Try.f4 false true false false) := by
  refine returnsInHanded_of_change (C := Try.checked) ownFnStandards started (by kernel_rfl) Try.func4
    (ChangeSpec.witness6 (enc := enc) (C := Try.checked) false ⟨#[], #[.slice none 0 0, .slice none 0 0], []⟩ 8 (by kernel_rfl) (by kernel_rfl) (by kernel_rfl) (by kernel_rfl)) ?_
  intro W base args ds gs before hval0 hW hcnd _
  have hval : ∀ (j : Nat) t v, Try.f4.params[j]? = some t → args[j]? = some v → Value.okWide Try.prog W .any base t v := hval0
  have hW' := hW
  obtain ⟨p, q, hA0, hV, rfl, hfz, hnd⟩ := hW
  have hA : DataW.TrodAll enc Try.prog W 0 (fun _ => true) true Try.f4.params.toList args.toList ds p := hA0
  rw [Try.params4] at hA hval
  obtain ⟨v0, vs0, d0, ds0, p0, q0, hargs, rfl, rfl, h0, r0⟩ := trodAll_cons hA
  obtain ⟨v1, vs1, d1, ds1, p1, q1, rfl, rfl, rfl, h1, r1⟩ := trodAll_cons r0
  obtain ⟨rfl, rfl, rfl⟩ := trodAll_nil r1
  obtain rfl : args = #[v0, v1] := by cases args; simp_all
  obtain ⟨rfl, rfl⟩ := trodVars_none hV
  have k0 := h0
  have lt0 : ∀ x ∈ p0, x.block < W.heap.size := by obtain ⟨m, hm⟩ := k0; exact DataW.trod_lt m _ _ _ hm
  obtain ⟨b0, l0, c0, rfl⟩ := okWide_slice Try.underlying22 (hval 0 22 v0 rfl rfl)
  obtain ⟨a0, w0, e0⟩ := arg_one (g := fun a => .isl _ (rows _ a)) opensU8S rfl h0
  have k1 := h1
  have lt1 : ∀ x ∈ p1, x.block < W.heap.size := by obtain ⟨m, hm⟩ := k1; exact DataW.trod_lt m _ _ _ hm
  obtain ⟨b1, l1, c1, rfl⟩ := okWide_slice Try.underlying22 (hval 1 22 v1 rfl rfl)
  obtain ⟨a1, w1, e1⟩ := arg_one (g := fun a => .isl _ (rows _ a)) opensU8S rfl h1
  clear hA0 hval0
  refine ((lawStandards_ok a0 a1 w0 w1).2 W (fun k => k < W.heap.size) _ (fun _ h => h) (All2.cons e0 (All2.cons e1 All2.nil))).mono ?_
  rintro e W' ⟨v, r, gs', rfl, rfl, bel, hr⟩
  have hv : v = .bool true := by
    obtain ⟨-, -, hr⟩ := hr
    cases hr with
    | one hr => cases hr with
      | imm hr => cases hr; rfl
  subst hv
  exact ⟨_, rfl, _, _, _, [], _, [], hW', trodAll_mk1 (shut_bool Try.underlying4 _), (trodAll_cons_mk (Below.trod laidOutFnStandards (by kernel_rfl) (of_decide_eq_true (by kernel_rfl)) k0 bel lt0) (trodAll_cons_mk (Below.trod laidOutFnStandards (by kernel_rfl) (of_decide_eq_true (by kernel_rfl)) k1 bel lt1) trodAll_mk0)), rfl, bel.frame _, fun h => by cases h⟩

theorem and2FnStandards {a b : Bool} (ha : a = true) (hb : b = true) : (a && b) = true := by rw [ha, hb]; rfl
theorem z0FnStandards : (Rows.fnStandardsRow.wf (OpenSpec.ofChange Rows.fnStandardsSpec)) = true := by kernel_rfl
theorem z1FnStandards : (laidOutB Try.pinned.checked.prog) = true := by kernel_rfl
theorem z2FnStandards : (mapsRowed Try.pinned.checked.prog) = true := by kernel_rfl
theorem z3FnStandards : (Try.f4.params.all (Try.pinned.checked.prog.readableRec ·)) = true := by kernel_rfl
theorem z4FnStandards : (namedTie Try.pinned.checked.prog Rows.fnStandardsRow.named Rows.fnStandardsSpec.vars) = true := by kernel_rfl
theorem z5FnStandards : ((Rows.fnStandardsRow.stops == [])) = true := by kernel_rfl
theorem z6FnStandards : ((Try.pinned.checked.prog.stops == [])) = true := by kernel_rfl
theorem z7FnStandards : ((Rows.fnStandardsRow.knobs == [])) = true := by kernel_rfl
theorem z8FnStandards : ((Try.pinned.checked.prog.stopKnobs == [])) = true := by kernel_rfl
theorem z9FnStandards : ((Rows.fnStandardsRow.inPlace == Try.pinned.checked.prog.inPlace 4)) = true := by kernel_rfl
theorem z10FnStandards : ((Rows.fnStandardsRow.unfollowed == Try.pinned.checked.prog.unfollowed 4)) = true := by kernel_rfl
theorem z11FnStandards : ((Rows.fnStandardsRow.recurses == Try.pinned.checked.prog.recurses 4)) = true := by kernel_rfl
theorem z12FnStandards : ((Rows.fnStandardsRow.named == Try.pinned.checked.prog.varsNamed 4)) = true := by kernel_rfl
theorem z13FnStandards : ((Rows.fnStandardsRow.maps == (Try.f4.params.toList ++ Rows.fnStandardsSpec.plain.varTypes Try.pinned.checked.prog).any (Try.pinned.checked.prog.mapsRec ·))) = true := by kernel_rfl
theorem z14FnStandards : ((Rows.fnStandardsRow.ifaces == (Try.f4.params.toList ++ Rows.fnStandardsSpec.plain.varTypes Try.pinned.checked.prog).any (Try.pinned.checked.prog.ifacesRec ·))) = true := by kernel_rfl
theorem z15FnStandards : ((Rows.fnStandardsRow.mapsOut == Try.pinned.checked.prog.mapsAmong Try.f4.resultTypes.toList)) = true := by kernel_rfl
theorem z16FnStandards : ((Rows.fnStandardsRow.loops == (Try.f4.params.toList ++ Rows.fnStandardsSpec.plain.varTypes Try.pinned.checked.prog).any (Try.pinned.checked.prog.loopsFrom ·))) = true := by kernel_rfl
theorem z17FnStandards : ((Rows.fnStandardsRow.wideKeys == (Try.f4.params.toList ++ Rows.fnStandardsSpec.plain.varTypes Try.pinned.checked.prog ++ Try.f4.resultTypes.toList).any (Try.pinned.checked.prog.wideKeysFrom ·))) = true := by kernel_rfl
theorem z18FnStandards : (Rows.fnStandardsSpec.vars.all (Try.pinned.checked.prog.varReadable ·)) = true := by kernel_rfl
theorem z19FnStandards : (Try.f4.resultTypes.all (fun t => Try.pinned.checked.prog.readableRec t && decide (t < Try.pinned.checked.prog.types.size))) = true := by kernel_rfl
theorem z20FnStandards : ((Rows.fnStandardsRow.ifacesOut == Try.f4.resultTypes.toList.any (Try.pinned.checked.prog.ifacesRec ·))) = true := by kernel_rfl
theorem z21FnStandards : ((Rows.fnStandardsRow.loopsOut == Try.f4.resultTypes.toList.any (Try.pinned.checked.prog.loopsFrom ·))) = true := by kernel_rfl
theorem z22FnStandards : ((Rows.fnStandardsRow.plainKeys == Try.pinned.checked.prog.plainKeys)) = true := by kernel_rfl
theorem z23FnStandards : (Rows.fnStandardsRow.shortTexts.isNone) = true := by kernel_rfl
theorem z24FnStandards : (Try.pinned.checked.prog.stopsHeard) = true := by kernel_rfl
theorem z25FnStandards : (Try.pinned.checked.prog.mayEnter) = true := by kernel_rfl
theorem z26FnStandards : ((Rows.fnStandardsRow.lifted == Try.pinned.checked.prog.liftsFinal)) = true := by kernel_rfl
theorem z27FnStandards : ((Try.pinned.checked.prog.make == some Rows.fnStandardsRow.make)) = true := by kernel_rfl
theorem z28FnStandards : ((Rows.fnStandardsRow.kinds == (if Rows.fnStandardsRow.domain.isEmpty then [] else Try.f4.params.toList.map fun t => match Try.pinned.checked.prog.underlying t with | some (.int k) => some k | _ => none))) = true := by kernel_rfl
theorem z29FnStandards : ((Rows.fnStandardsRow.pinned == Rows.fnStandardsRow.pinnedBy)) = true := by kernel_rfl
theorem z30FnStandards : ((Rows.fnStandardsRow.veiled == (Try.f4.params.toList ++ Rows.fnStandardsSpec.plain.varTypes Try.pinned.checked.prog ++ Try.f4.resultTypes.toList).any (Try.pinned.checked.prog.veiledRec ·))) = true := by kernel_rfl
theorem z31FnStandards : (Rows.fnStandardsRow.veiledFits Try.pinned.checked.prog Try.f4.params.toList (Try.f4.params.toList ++ Rows.fnStandardsSpec.plain.varTypes Try.pinned.checked.prog ++ Try.f4.resultTypes.toList)) = true := by kernel_rfl
theorem closedFnStandards : joinedFacts Try.pinned.checked.prog 4 Try.f4 Rows.fnStandardsSpec Rows.fnStandardsRow = true := (and2FnStandards (and2FnStandards (and2FnStandards (and2FnStandards (and2FnStandards (and2FnStandards (and2FnStandards (and2FnStandards (and2FnStandards (and2FnStandards (and2FnStandards (and2FnStandards (and2FnStandards (and2FnStandards (and2FnStandards (and2FnStandards (and2FnStandards (and2FnStandards (and2FnStandards (and2FnStandards (and2FnStandards (and2FnStandards (and2FnStandards (and2FnStandards (and2FnStandards (and2FnStandards (and2FnStandards (and2FnStandards (and2FnStandards (and2FnStandards (and2FnStandards z0FnStandards z1FnStandards) z2FnStandards) z3FnStandards) z4FnStandards) z5FnStandards) z6FnStandards) z7FnStandards) z8FnStandards) z9FnStandards) z10FnStandards) z11FnStandards) z12FnStandards) z13FnStandards) z14FnStandards) z15FnStandards) z16FnStandards) z17FnStandards) z18FnStandards) z19FnStandards) z20FnStandards) z21FnStandards) z22FnStandards) z23FnStandards) z24FnStandards) z25FnStandards) z26FnStandards) z27FnStandards) z28FnStandards) z29FnStandards) z30FnStandards) z31FnStandards)
theorem namedFnStandards : Try.pinned.checked.prog.funcNamed Rows.fnStandardsRow.func = some 4 := by kernel_rfl

theorem overFnStandards : Rows.fnStandardsRow.holds Try.pinned (OpenSpec.ofChange Rows.fnStandardsSpec) :=
  OpenClaim.holds_of_wide 4 Try.f4 rfl rfl rfl rfl rfl rfl rfl ⟨rfl, rfl, rfl, rfl, rfl⟩ rfl rfl rfl rfl rfl namedFnStandards Try.func4 closedFnStandards
    (of_decide_eq_true (by kernel_rfl)) (by unfold Func.isWrapper; first | (rw [if_pos (by decide +kernel)]; kernel_rfl) | (rw [if_neg (by decide +kernel)]; exact ⟨rfl, rfl⟩))
    (fun os started H enc _ => liftedFnStandards os started H enc)

theorem provedFnStandards : Rows.FnStandardsSaid := overFnStandards
#print axioms provedFnStandards
end Go.Proofs.Ytnanackogloioaa.Ai
