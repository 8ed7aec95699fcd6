/- Proved: for every input the law FnAdditions returns true, and each argument reads afterwards as it read before. Conditions: none. -/
import Derived.Test.YtkcbhjnkpbeigaaRows
import Derived.Test.YtkcbhjnkpbeigaaAiOpen
import Derived.Test.YtkcbhjnkpbeigaaLawAdditions
import Derived.Test.YtkcbhjnkpbeigaaOpensU8
import Derived.ProofKit
import Derived.OpenShut
import Derived.ShutString
namespace Go.Proofs.Ytkcbhjnkpbeigaa.Ai
open Go Go.Proofs Go.ChangeShapes Go.WideShapes Go.ChangeAt Go.RowKit
set_option linter.unusedVariables false
set_option maxRecDepth 100000

theorem ownFnAdditions : ownKnob Try.prog.godebug = none := by kernel_rfl
theorem laidOutFnAdditions : laidOutB Try.prog = true := by kernel_rfl

set_option maxRecDepth 100000 in
theorem liftedFnAdditions (os : Os) (started : os.Started) (H : Type) (enc : TypeId × Value → H) :
    ReturnsInHanded {} Try.checked os 3 .any (Rows.fnAdditionsSpec.pre6 enc Try.prog Try.f3 Rows.fnAdditionsRow.domain false) (Rows.fnAdditionsSpec.post enc Try.prog Try.f3 false true false false) := by
  refine returnsInHanded_of_change (C := Try.checked) ownFnAdditions started (by kernel_rfl) Try.func3
    (ChangeSpec.witness6 (enc := enc) (C := Try.checked) false ⟨#[], #[.slice none 0 0, .slice none 0 0], []⟩ 8 (by kernel_rfl) (by kernel_rfl) (by kernel_rfl) (by kernel_rfl)) ?_
  intro W base args ds gs before hval0 hW hcnd _
  have hval : ∀ (j : Nat) t v, Try.f3.params[j]? = some t → args[j]? = some v → Value.okWide Try.prog W .any base t v := hval0
  have hW' := hW
  obtain ⟨p, q, hA0, hV, rfl, hfz, hnd⟩ := hW
  have hA : DataW.TrodAll enc Try.prog W 0 (fun _ => true) true Try.f3.params.toList args.toList ds p := hA0
  rw [Try.params3] at hA hval
  obtain ⟨v0, vs0, d0, ds0, p0, q0, hargs, rfl, rfl, h0, r0⟩ := trodAll_cons hA
  obtain ⟨v1, vs1, d1, ds1, p1, q1, rfl, rfl, rfl, h1, r1⟩ := trodAll_cons r0
  obtain ⟨rfl, rfl, rfl⟩ := trodAll_nil r1
  obtain rfl : args = #[v0, v1] := by cases args; simp_all
  obtain ⟨rfl, rfl⟩ := trodVars_none hV
  have k0 := h0
  have lt0 : ∀ x ∈ p0, x.block < W.heap.size := by obtain ⟨m, hm⟩ := k0; exact DataW.trod_lt m _ _ _ hm
  obtain ⟨b0, l0, c0, rfl⟩ := okWide_slice Try.underlying22 (hval 0 22 v0 rfl rfl)
  obtain ⟨a0, w0, e0⟩ := arg_one (g := fun a => .isl _ (rows _ a)) opensU8S rfl h0
  have k1 := h1
  have lt1 : ∀ x ∈ p1, x.block < W.heap.size := by obtain ⟨m, hm⟩ := k1; exact DataW.trod_lt m _ _ _ hm
  obtain ⟨b1, l1, c1, rfl⟩ := okWide_slice Try.underlying22 (hval 1 22 v1 rfl rfl)
  obtain ⟨a1, w1, e1⟩ := arg_one (g := fun a => .isl _ (rows _ a)) opensU8S rfl h1
  clear hA0 hval0
  refine ((lawAdditions_ok a0 a1 w0 w1).2 W (fun k => k < W.heap.size) _ (fun _ h => h) (All2.cons e0 (All2.cons e1 All2.nil))).mono ?_
  rintro e W' ⟨v, r, gs', rfl, rfl, bel, hr⟩
  have hv : v = .bool true := by
    obtain ⟨-, -, hr⟩ := hr
    cases hr with
    | one hr => cases hr with
      | imm hr => cases hr; rfl
  subst hv
  exact ⟨_, rfl, _, _, _, [], _, [], hW', trodAll_mk1 (shut_bool Try.underlying4 _), (trodAll_cons_mk (Below.trod laidOutFnAdditions (by kernel_rfl) (of_decide_eq_true (by kernel_rfl)) k0 bel lt0) (trodAll_cons_mk (Below.trod laidOutFnAdditions (by kernel_rfl) (of_decide_eq_true (by kernel_rfl)) k1 bel lt1) trodAll_mk0)), rfl, bel.frame _, fun h => by cases h⟩

theorem and2FnAdditions {a b : Bool} (ha : a = true) (hb : b = true) : (a && b) = true := by rw [ha, hb]; rfl
theorem z0FnAdditions : (Rows.fnAdditionsRow.wf (OpenSpec.ofChange Rows.fnAdditionsSpec)) = true := by kernel_rfl
theorem z1FnAdditions : (laidOutB Try.pinned.checked.prog) = true := by kernel_rfl
theorem z2FnAdditions : (mapsRowed Try.pinned.checked.prog) = true := by kernel_rfl
theorem z3FnAdditions : (Try.f3.params.all (Try.pinned.checked.prog.readableRec ·)) = true := by kernel_rfl
theorem z4FnAdditions : (namedTie Try.pinned.checked.prog Rows.fnAdditionsRow.named Rows.fnAdditionsSpec.vars) = true := by kernel_rfl
theorem z5FnAdditions : ((Rows.fnAdditionsRow.stops == [])) = true := by kernel_rfl
theorem z6FnAdditions : ((Try.pinned.checked.prog.stops == [])) = true := by kernel_rfl
theorem z7FnAdditions : ((Rows.fnAdditionsRow.knobs == [])) = true := by kernel_rfl
theorem z8FnAdditions : ((Try.pinned.checked.prog.stopKnobs == [])) = true := by kernel_rfl
theorem z9FnAdditions : ((Rows.fnAdditionsRow.inPlace == Try.pinned.checked.prog.inPlace 3)) = true := by kernel_rfl
theorem z10FnAdditions : ((Rows.fnAdditionsRow.unfollowed == Try.pinned.checked.prog.unfollowed 3)) = true := by kernel_rfl
theorem z11FnAdditions : ((Rows.fnAdditionsRow.recurses == Try.pinned.checked.prog.recurses 3)) = true := by kernel_rfl
theorem z12FnAdditions : ((Rows.fnAdditionsRow.named == Try.pinned.checked.prog.varsNamed 3)) = true := by kernel_rfl
theorem z13FnAdditions : ((Rows.fnAdditionsRow.maps == (Try.f3.params.toList ++ Rows.fnAdditionsSpec.plain.varTypes Try.pinned.checked.prog).any (Try.pinned.checked.prog.mapsRec ·))) = true := by kernel_rfl
theorem z14FnAdditions : ((Rows.fnAdditionsRow.ifaces == (Try.f3.params.toList ++ Rows.fnAdditionsSpec.plain.varTypes Try.pinned.checked.prog).any (Try.pinned.checked.prog.ifacesRec ·))) = true := by kernel_rfl
theorem z15FnAdditions : ((Rows.fnAdditionsRow.mapsOut == Try.pinned.checked.prog.mapsAmong Try.f3.resultTypes.toList)) = true := by kernel_rfl
theorem z16FnAdditions : ((Rows.fnAdditionsRow.loops == (Try.f3.params.toList ++ Rows.fnAdditionsSpec.plain.varTypes Try.pinned.checked.prog).any (Try.pinned.checked.prog.loopsFrom ·))) = true := by kernel_rfl
theorem z17FnAdditions : ((Rows.fnAdditionsRow.wideKeys == (Try.f3.params.toList ++ Rows.fnAdditionsSpec.plain.varTypes Try.pinned.checked.prog ++ Try.f3.resultTypes.toList).any (Try.pinned.checked.prog.wideKeysFrom ·))) = true := by kernel_rfl
theorem z18FnAdditions : (Rows.fnAdditionsSpec.vars.all (Try.pinned.checked.prog.varReadable ·)) = true := by kernel_rfl
theorem z19FnAdditions : (Try.f3.resultTypes.all (fun t => Try.pinned.checked.prog.readableRec t && decide (t < Try.pinned.checked.prog.types.size))) = true := by kernel_rfl
theorem z20FnAdditions : ((Rows.fnAdditionsRow.ifacesOut == Try.f3.resultTypes.toList.any (Try.pinned.checked.prog.ifacesRec ·))) = true := by kernel_rfl
theorem z21FnAdditions : ((Rows.fnAdditionsRow.loopsOut == Try.f3.resultTypes.toList.any (Try.pinned.checked.prog.loopsFrom ·))) = true := by kernel_rfl
theorem z22FnAdditions : ((Rows.fnAdditionsRow.plainKeys == Try.pinned.checked.prog.plainKeys)) = true := by kernel_rfl
theorem z23FnAdditions : (Rows.fnAdditionsRow.shortTexts.isNone) = true := by kernel_rfl
theorem z24FnAdditions : (Try.pinned.checked.prog.stopsHeard) = true := by kernel_rfl
theorem z25FnAdditions : (Try.pinned.checked.prog.mayEnter) = true := by kernel_rfl
theorem z26FnAdditions : ((Rows.fnAdditionsRow.lifted == Try.pinned.checked.prog.liftsFinal)) = true := by kernel_rfl
theorem z27FnAdditions : ((Try.pinned.checked.prog.make == some Rows.fnAdditionsRow.make)) = true := by kernel_rfl
theorem z28FnAdditions : ((Rows.fnAdditionsRow.kinds == (if Rows.fnAdditionsRow.domain.isEmpty then [] else Try.f3.params.toList.map fun t => match Try.pinned.checked.prog.underlying t with | some (.int k) => some k | _ => none))) = true := by kernel_rfl
theorem z29FnAdditions : ((Rows.fnAdditionsRow.pinned == Rows.fnAdditionsRow.pinnedBy)) = true := by kernel_rfl
theorem z30FnAdditions : ((Rows.fnAdditionsRow.veiled == (Try.f3.params.toList ++ Rows.fnAdditionsSpec.plain.varTypes Try.pinned.checked.prog ++ Try.f3.resultTypes.toList).any (Try.pinned.checked.prog.veiledRec ·))) = true := by kernel_rfl
theorem z31FnAdditions : (Rows.fnAdditionsRow.veiledFits Try.pinned.checked.prog Try.f3.params.toList (Try.f3.params.toList ++ Rows.fnAdditionsSpec.plain.varTypes Try.pinned.checked.prog ++ Try.f3.resultTypes.toList)) = true := by kernel_rfl
theorem closedFnAdditions : joinedFacts Try.pinned.checked.prog 3 Try.f3 Rows.fnAdditionsSpec Rows.fnAdditionsRow = true := (and2FnAdditions (and2FnAdditions (and2FnAdditions (and2FnAdditions (and2FnAdditions (and2FnAdditions (and2FnAdditions (and2FnAdditions (and2FnAdditions (and2FnAdditions (and2FnAdditions (and2FnAdditions (and2FnAdditions (and2FnAdditions (and2FnAdditions (and2FnAdditions (and2FnAdditions (and2FnAdditions (and2FnAdditions (and2FnAdditions (and2FnAdditions (and2FnAdditions (and2FnAdditions (and2FnAdditions (and2FnAdditions (and2FnAdditions (and2FnAdditions (and2FnAdditions (and2FnAdditions (and2FnAdditions (and2FnAdditions z0FnAdditions z1FnAdditions) z2FnAdditions) z3FnAdditions) z4FnAdditions) z5FnAdditions) z6FnAdditions) z7FnAdditions) z8FnAdditions) z9FnAdditions) z10FnAdditions) z11FnAdditions) z12FnAdditions) z13FnAdditions) z14FnAdditions) z15FnAdditions) z16FnAdditions) z17FnAdditions) z18FnAdditions) z19FnAdditions) z20FnAdditions) z21FnAdditions) z22FnAdditions) z23FnAdditions) z24FnAdditions) z25FnAdditions) z26FnAdditions) z27FnAdditions) z28FnAdditions) z29FnAdditions) z30FnAdditions) z31FnAdditions)
theorem namedFnAdditions : Try.pinned.checked.prog.funcNamed Rows.fnAdditionsRow.func = some 3 := by kernel_rfl

theorem overFnAdditions : Rows.fnAdditionsRow.holds Try.pinned (OpenSpec.ofChange Rows.fnAdditionsSpec) :=
  OpenClaim.holds_of_wide 3 Try.f3 rfl rfl rfl rfl rfl rfl rfl ⟨rfl, rfl, rfl, rfl, rfl⟩ rfl rfl rfl rfl rfl namedFnAdditions Try.func3 closedFnAdditions
    (of_decide_eq_true (by kernel_rfl)) (by unfold Func.isWrapper; first | (rw [if_pos (by decide +kernel)]; kernel_rfl) | (rw [if_neg (by decide +kernel)]; exact ⟨rfl, rfl⟩))
    (fun os started H enc _ => liftedFnAdditions os started H enc)

theorem provedFnAdditions : Rows.FnAdditionsSaid := overFnAdditions
#print axioms provedFnAdditions
end Go.Proofs.Ytkcbhjnkpbeigaa.Ai
