/- Proved: for every input the law FnParallels returns true, and each argument reads afterwards as it read before. Conditions: none. -/
import Derived.Test.YtifkjlpkhfldoaaRows
import Derived.Test.YtifkjlpkhfldoaaAiOpen
import Derived.Test.YtifkjlpkhfldoaaLawParallels
import Derived.Test.YtifkjlpkhfldoaaOpensU8
import Derived.ProofKit
import Derived.OpenShut
import Derived.ShutString
namespace Go.Proofs.Ytifkjlpkhfldoaa.Ai
open Go Go.Proofs Go.ChangeShapes Go.WideShapes Go.ChangeAt Go.RowKit
set_option linter.unusedVariables false
set_option maxRecDepth 100000

theorem ownFnParallels : ownKnob Try.prog.godebug = none := by kernel_rfl
theorem laidOutFnParallels : laidOutB Try.prog = true := by kernel_rfl

set_option maxRecDepth 100000 in
theorem liftedFnParallels (os : Os) (started : os.Started) (H : Type) (enc : TypeId × Value → H) :
    ReturnsInHanded {} Try.checked os 3 .any (Rows.fnParallelsSpec.pre6 enc Try.prog Try.f3 Rows.fnParallelsRow.domain false) (Rows.fnParallelsSpec.post enc Try.prog Try.f3 false true false false) := by
  refine returnsInHanded_of_change (C := Try.checked) ownFnParallels started (by kernel_rfl) Try.func3
    (ChangeSpec.witness6 (enc := enc) (C := Try.checked) false ⟨#[], #[.slice none 0 0, .slice none 0 0], []⟩ 8 (by kernel_rfl) (by kernel_rfl) (by kernel_rfl) (by kernel_rfl)) ?_
  intro W base args ds gs before hval0 hW hcnd _
  have hval : ∀ (j : Nat) t v, Try.f3.params[j]? = some t → args[j]? = some v → Value.okWide Try.prog W .any base t v := hval0
  have hW' := hW
  obtain ⟨p, q, hA0, hV, rfl, hfz, hnd⟩ := hW
  have hA : DataW.TrodAll enc Try.prog W 0 (fun _ => true) true Try.f3.params.toList args.toList ds p := hA0
  rw [Try.params3] at hA hval
  obtain ⟨v0, vs0, d0, ds0, p0, q0, hargs, rfl, rfl, h0, r0⟩ := trodAll_cons hA
  obtain ⟨v1, vs1, d1, ds1, p1, q1, rfl, rfl, rfl, h1, r1⟩ := trodAll_cons r0
  obtain ⟨rfl, rfl, rfl⟩ := trodAll_nil r1
  obtain rfl : args = #[v0, v1] := by cases args; simp_all
  obtain ⟨rfl, rfl⟩ := trodVars_none hV
  have k0 := h0
  have lt0 : ∀ x ∈ p0, x.block < W.heap.size := by obtain ⟨m, hm⟩ := k0; exact DataW.trod_lt m _ _ _ hm
  obtain ⟨b0, l0, c0, rfl⟩ := okWide_slice Try.underlying22 (hval 0 22 v0 rfl rfl)
  obtain ⟨a0, w0, e0⟩ := arg_one (g := fun a => .isl _ (rows _ a)) opensU8S rfl h0
  have k1 := h1
  have lt1 : ∀ x ∈ p1, x.block < W.heap.size := by obtain ⟨m, hm⟩ := k1; exact DataW.trod_lt m _ _ _ hm
  obtain ⟨b1, l1, c1, rfl⟩ := okWide_slice Try.underlying22 (hval 1 22 v1 rfl rfl)
  obtain ⟨a1, w1, e1⟩ := arg_one (g := fun a => .isl _ (rows _ a)) opensU8S rfl h1
  clear hA0 hval0
  refine ((lawParallels_ok a0 a1 w0 w1).2 W (fun k => k < W.heap.size) _ (fun _ h => h) (All2.cons e0 (All2.cons e1 All2.nil))).mono ?_
  rintro e W' ⟨v, r, gs', rfl, rfl, bel, hr⟩
  have hv : v = .bool true := by
    obtain ⟨-, -, hr⟩ := hr
    cases hr with
    | one hr => cases hr with
      | imm hr => cases hr; rfl
  subst hv
  exact ⟨_, rfl, _, _, _, [], _, [], hW', trodAll_mk1 (shut_bool Try.underlying4 _), (trodAll_cons_mk (Below.trod laidOutFnParallels (by kernel_rfl) (of_decide_eq_true (by kernel_rfl)) k0 bel lt0) (trodAll_cons_mk (Below.trod laidOutFnParallels (by kernel_rfl) (of_decide_eq_true (by kernel_rfl)) k1 bel lt1) trodAll_mk0)), rfl, bel.frame _, fun h => by cases h⟩

theorem and2FnParallels {a b : Bool} (ha : a = true) (hb : b = true) : (a && b) = true := by rw [ha, hb]; rfl
theorem z0FnParallels : (Rows.fnParallelsRow.wf (OpenSpec.ofChange Rows.fnParallelsSpec)) = true := by kernel_rfl
theorem z1FnParallels : (laidOutB Try.pinned.checked.prog) = true := by kernel_rfl
theorem z2FnParallels : (mapsRowed Try.pinned.checked.prog) = true := by kernel_rfl
theorem z3FnParallels : (Try.f3.params.all (Try.pinned.checked.prog.readableRec ·)) = true := by kernel_rfl
theorem z4FnParallels : (namedTie Try.pinned.checked.prog Rows.fnParallelsRow.named Rows.fnParallelsSpec.vars) = true := by kernel_rfl
theorem z5FnParallels : ((Rows.fnParallelsRow.stops == [])) = true := by kernel_rfl
theorem z6FnParallels : ((Try.pinned.checked.prog.stops == [])) = true := by kernel_rfl
theorem z7FnParallels : ((Rows.fnParallelsRow.knobs == [])) = true := by kernel_rfl
theorem z8FnParallels : ((Try.pinned.checked.prog.stopKnobs == [])) = true := by kernel_rfl
theorem z9FnParallels : ((Rows.fnParallelsRow.inPlace == Try.pinned.checked.prog.inPlace 3)) = true := by kernel_rfl
theorem z10FnParallels : ((Rows.fnParallelsRow.unfollowed == Try.pinned.checked.prog.unfollowed 3)) = true := by kernel_rfl
theorem z11FnParallels : ((Rows.fnParallelsRow.recurses == Try.pinned.checked.prog.recurses 3)) = true := by kernel_rfl
theorem z12FnParallels : ((Rows.fnParallelsRow.named == Try.pinned.checked.prog.varsNamed 3)) = true := by kernel_rfl
theorem z13FnParallels : ((Rows.fnParallelsRow.maps == (Try.f3.params.toList ++ Rows.fnParallelsSpec.plain.varTypes Try.pinned.checked.prog).any (Try.pinned.checked.prog.mapsRec ·))) = true := by kernel_rfl
theorem z14FnParallels : ((Rows.fnParallelsRow.ifaces == (Try.f3.params.toList ++ Rows.fnParallelsSpec.plain.varTypes Try.pinned.checked.prog).any (Try.pinned.checked.prog.ifacesRec ·))) = true := by kernel_rfl
theorem z15FnParallels : ((Rows.fnParallelsRow.mapsOut == Try.pinned.checked.prog.mapsAmong Try.f3.resultTypes.toList)) = true := by kernel_rfl
theorem z16FnParallels : ((Rows.fnParallelsRow.loops == (Try.f3.params.toList ++ Rows.fnParallelsSpec.plain.varTypes Try.pinned.checked.prog).any (Try.pinned.checked.prog.loopsFrom ·))) = true := by kernel_rfl
theorem z17FnParallels : ((Rows.fnParallelsRow.wideKeys == (Try.f3.params.toList ++ Rows.fnParallelsSpec.plain.varTypes Try.pinned.checked.prog ++ Try.f3.resultTypes.toList).any (Try.pinned.checked.prog.wideKeysFrom ·))) = true := by kernel_rfl
theorem z18FnParallels : (Rows.fnParallelsSpec.vars.all (Try.pinned.checked.prog.varReadable ·)) = true := by kernel_rfl
theorem z19FnParallels : (Try.f3.resultTypes.all (fun t => Try.pinned.checked.prog.readableRec t && decide (t < Try.pinned.checked.prog.types.size))) = true := by kernel_rfl
theorem z20FnParallels : ((Rows.fnParallelsRow.ifacesOut == Try.f3.resultTypes.toList.any (Try.pinned.checked.prog.ifacesRec ·))) = true := by kernel_rfl
theorem z21FnParallels : ((Rows.fnParallelsRow.loopsOut == Try.f3.resultTypes.toList.any (Try.pinned.checked.prog.loopsFrom ·))) = true := by kernel_rfl
theorem z22FnParallels : ((Rows.fnParallelsRow.plainKeys == Try.pinned.checked.prog.plainKeys)) = true := by kernel_rfl
theorem z23FnParallels : (Rows.fnParallelsRow.shortTexts.isNone) = true := by kernel_rfl
theorem z24FnParallels : (Try.pinned.checked.prog.stopsHeard) = true := by kernel_rfl
theorem z25FnParallels : (Try.pinned.checked.prog.mayEnter) = true := by kernel_rfl
theorem z26FnParallels : ((Rows.fnParallelsRow.lifted == Try.pinned.checked.prog.liftsFinal)) = true := by kernel_rfl
theorem z27FnParallels : ((Try.pinned.checked.prog.make == some Rows.fnParallelsRow.make)) = true := by kernel_rfl
theorem z28FnParallels : ((Rows.fnParallelsRow.kinds == (if Rows.fnParallelsRow.domain.isEmpty then [] else Try.f3.params.toList.map fun t => match Try.pinned.checked.prog.underlying t with | some (.int k) => some k | _ => none))) = true := by kernel_rfl
theorem z29FnParallels : ((Rows.fnParallelsRow.pinned == Rows.fnParallelsRow.pinnedBy)) = true := by kernel_rfl
theorem z30FnParallels : ((Rows.fnParallelsRow.veiled == (Try.f3.params.toList ++ Rows.fnParallelsSpec.plain.varTypes Try.pinned.checked.prog ++ Try.f3.resultTypes.toList).any (Try.pinned.checked.prog.veiledRec ·))) = true := by kernel_rfl
theorem z31FnParallels : (Rows.fnParallelsRow.veiledFits Try.pinned.checked.prog Try.f3.params.toList (Try.f3.params.toList ++ Rows.fnParallelsSpec.plain.varTypes Try.pinned.checked.prog ++ Try.f3.resultTypes.toList)) = true := by kernel_rfl
theorem closedFnParallels : joinedFacts Try.pinned.checked.prog 3 Try.f3 Rows.fnParallelsSpec Rows.fnParallelsRow = true := (and2FnParallels (and2FnParallels (and2FnParallels (and2FnParallels (and2FnParallels (and2FnParallels (and2FnParallels (and2FnParallels (and2FnParallels (and2FnParallels (and2FnParallels (and2FnParallels (and2FnParallels (and2FnParallels (and2FnParallels (and2FnParallels (and2FnParallels (and2FnParallels (and2FnParallels (and2FnParallels (and2FnParallels (and2FnParallels (and2FnParallels (and2FnParallels (and2FnParallels (and2FnParallels (and2FnParallels (and2FnParallels (and2FnParallels (and2FnParallels (and2FnParallels z0FnParallels z1FnParallels) z2FnParallels) z3FnParallels) z4FnParallels) z5FnParallels) z6FnParallels) z7FnParallels) z8FnParallels) z9FnParallels) z10FnParallels) z11FnParallels) z12FnParallels) z13FnParallels) z14FnParallels) z15FnParallels) z16FnParallels) z17FnParallels) z18FnParallels) z19FnParallels) z20FnParallels) z21FnParallels) z22FnParallels) z23FnParallels) z24FnParallels) z25FnParallels) z26FnParallels) z27FnParallels) z28FnParallels) z29FnParallels) z30FnParallels) z31FnParallels)
theorem namedFnParallels : Try.pinned.checked.prog.funcNamed Rows.fnParallelsRow.func = some 3 := by kernel_rfl

theorem overFnParallels : Rows.fnParallelsRow.holds Try.pinned (OpenSpec.ofChange Rows.fnParallelsSpec) :=
  OpenClaim.holds_of_wide 3 Try.f3 rfl rfl rfl rfl rfl rfl rfl ⟨rfl, rfl, rfl, rfl, rfl⟩ rfl rfl rfl rfl rfl namedFnParallels Try.func3 closedFnParallels
    (of_decide_eq_true (by kernel_rfl)) (by unfold Func.isWrapper; first | (rw [if_pos (by decide +kernel)]; kernel_rfl) | (rw [if_neg (by decide +kernel)]; exact ⟨rfl, rfl⟩))
    (fun os started H enc _ => liftedFnParallels os started H enc)

theorem provedFnParallels : Rows.FnParallelsSaid := overFnParallels
#print axioms provedFnParallels
end Go.Proofs.Ytifkjlpkhfldoaa.Ai
