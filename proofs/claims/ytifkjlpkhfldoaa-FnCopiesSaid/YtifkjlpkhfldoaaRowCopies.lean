/- Proved: for every input the law FnCopies returns true, and each argument reads afterwards as it read before. Conditions: none. -/
import Derived.Test.YtifkjlpkhfldoaaRows
import Derived.Test.YtifkjlpkhfldoaaAiOpen
import Derived.Test.YtifkjlpkhfldoaaLawCopies
import Derived.Test.YtifkjlpkhfldoaaOpensU8
import Derived.ProofKit
import Derived.OpenShut
import Derived.ShutString
namespace Go.Proofs.Ytifkjlpkhfldoaa.Ai
open Go Go.Proofs Go.ChangeShapes Go.WideShapes Go.ChangeAt Go.RowKit
set_option linter.unusedVariables false
set_option maxRecDepth 100000

theorem ownFnCopies : ownKnob Try.prog.godebug = none := by kernel_rfl
theorem laidOutFnCopies : laidOutB Try.prog = true := by kernel_rfl

set_option maxRecDepth 100000 in
theorem liftedFnCopies (os : Os) (started : os.Started) (H : Type) (enc : TypeId × Value → H) :
    ReturnsInHanded {} Try.checked os 4 .any (Rows.fnCopiesSpec.pre6 enc Try.prog Try.f4 Rows.fnCopiesRow.domain false) (Rows.fnCopiesSpec.post enc Try.prog Try.f4 false true false false) := by
  refine returnsInHanded_of_change (C := Try.checked) ownFnCopies started (by kernel_rfl) Try.func4
    (ChangeSpec.witness6 (enc := enc) (C := Try.checked) false ⟨#[], #[.slice none 0 0, .slice none 0 0], []⟩ 8 (by kernel_rfl) (by kernel_rfl) (by kernel_rfl) (by kernel_rfl)) ?_
  intro W base args ds gs before hval0 hW hcnd _
  have hval : ∀ (j : Nat) t v, Try.f4.params[j]? = some t → args[j]? = some v → Value.okWide Try.prog W .any base t v := hval0
  have hW' := hW
  obtain ⟨p, q, hA0, hV, rfl, hfz, hnd⟩ := hW
  have hA : DataW.TrodAll enc Try.prog W 0 (fun _ => true) true Try.f4.params.toList args.toList ds p := hA0
  rw [Try.params4] at hA hval
  obtain ⟨v0, vs0, d0, ds0, p0, q0, hargs, rfl, rfl, h0, r0⟩ := trodAll_cons hA
  obtain ⟨v1, vs1, d1, ds1, p1, q1, rfl, rfl, rfl, h1, r1⟩ := trodAll_cons r0
  obtain ⟨rfl, rfl, rfl⟩ := trodAll_nil r1
  obtain rfl : args = #[v0, v1] := by cases args; simp_all
  obtain ⟨rfl, rfl⟩ := trodVars_none hV
  have k0 := h0
  have lt0 : ∀ x ∈ p0, x.block < W.heap.size := by obtain ⟨m, hm⟩ := k0; exact DataW.trod_lt m _ _ _ hm
  obtain ⟨b0, l0, c0, rfl⟩ := okWide_slice Try.underlying22 (hval 0 22 v0 rfl rfl)
  obtain ⟨a0, w0, e0⟩ := arg_one (g := fun a => .isl _ (rows _ a)) opensU8S rfl h0
  have k1 := h1
  have lt1 : ∀ x ∈ p1, x.block < W.heap.size := by obtain ⟨m, hm⟩ := k1; exact DataW.trod_lt m _ _ _ hm
  obtain ⟨b1, l1, c1, rfl⟩ := okWide_slice Try.underlying22 (hval 1 22 v1 rfl rfl)
  obtain ⟨a1, w1, e1⟩ := arg_one (g := fun a => .isl _ (rows _ a)) opensU8S rfl h1
  clear hA0 hval0
  refine ((lawCopies_ok a0 a1 w0 w1).2 W (fun k => k < W.heap.size) _ (fun _ h => h) (All2.cons e0 (All2.cons e1 All2.nil))).mono ?_
  rintro e W' ⟨v, r, gs', rfl, rfl, bel, hr⟩
  have hv : v = .bool true := by
    obtain ⟨-, -, hr⟩ := hr
    cases hr with
    | one hr => cases hr with
      | imm hr => cases hr; rfl
  subst hv
  exact ⟨_, rfl, _, _, _, [], _, [], hW', trodAll_mk1 (shut_bool Try.underlying4 _), (trodAll_cons_mk (Below.trod laidOutFnCopies (by kernel_rfl) (of_decide_eq_true (by kernel_rfl)) k0 bel lt0) (trodAll_cons_mk (Below.trod laidOutFnCopies (by kernel_rfl) (of_decide_eq_true (by kernel_rfl)) k1 bel lt1) trodAll_mk0)), rfl, bel.frame _, fun h => by cases h⟩

theorem and2FnCopies {a b : Bool} (ha : a = true) (hb : b = true) : (a && b) = true := by rw [ha, hb]; rfl
theorem z0FnCopies : (Rows.fnCopiesRow.wf (OpenSpec.ofChange Rows.fnCopiesSpec)) = true := by kernel_rfl
theorem z1FnCopies : (laidOutB Try.pinned.checked.prog) = true := by kernel_rfl
theorem z2FnCopies : (mapsRowed Try.pinned.checked.prog) = true := by kernel_rfl
theorem z3FnCopies : (Try.f4.params.all (Try.pinned.checked.prog.readableRec ·)) = true := by kernel_rfl
theorem z4FnCopies : (namedTie Try.pinned.checked.prog Rows.fnCopiesRow.named Rows.fnCopiesSpec.vars) = true := by kernel_rfl
theorem z5FnCopies : ((Rows.fnCopiesRow.stops == [])) = true := by kernel_rfl
theorem z6FnCopies : ((Try.pinned.checked.prog.stops == [])) = true := by kernel_rfl
theorem z7FnCopies : ((Rows.fnCopiesRow.knobs == [])) = true := by kernel_rfl
theorem z8FnCopies : ((Try.pinned.checked.prog.stopKnobs == [])) = true := by kernel_rfl
theorem z9FnCopies : ((Rows.fnCopiesRow.inPlace == Try.pinned.checked.prog.inPlace 4)) = true := by kernel_rfl
theorem z10FnCopies : ((Rows.fnCopiesRow.unfollowed == Try.pinned.checked.prog.unfollowed 4)) = true := by kernel_rfl
theorem z11FnCopies : ((Rows.fnCopiesRow.recurses == Try.pinned.checked.prog.recurses 4)) = true := by kernel_rfl
theorem z12FnCopies : ((Rows.fnCopiesRow.named == Try.pinned.checked.prog.varsNamed 4)) = true := by kernel_rfl
theorem z13FnCopies : ((Rows.fnCopiesRow.maps == (Try.f4.params.toList ++ Rows.fnCopiesSpec.plain.varTypes Try.pinned.checked.prog).any (Try.pinned.checked.prog.mapsRec ·))) = true := by kernel_rfl
theorem z14FnCopies : ((Rows.fnCopiesRow.ifaces == (Try.f4.params.toList ++ Rows.fnCopiesSpec.plain.varTypes Try.pinned.checked.prog).any (Try.pinned.checked.prog.ifacesRec ·))) = true := by kernel_rfl
theorem z15FnCopies : ((Rows.fnCopiesRow.mapsOut == Try.pinned.checked.prog.mapsAmong Try.f4.resultTypes.toList)) = true := by kernel_rfl
theorem z16FnCopies : ((Rows.fnCopiesRow.loops == (Try.f4.params.toList ++ Rows.fnCopiesSpec.plain.varTypes Try.pinned.checked.prog).any (Try.pinned.checked.prog.loopsFrom ·))) = true := by kernel_rfl
theorem z17FnCopies : ((Rows.fnCopiesRow.wideKeys == (Try.f4.params.toList ++ Rows.fnCopiesSpec.plain.varTypes Try.pinned.checked.prog ++ Try.f4.resultTypes.toList).any (Try.pinned.checked.prog.wideKeysFrom ·))) = true := by kernel_rfl
theorem z18FnCopies : (Rows.fnCopiesSpec.vars.all (Try.pinned.checked.prog.varReadable ·)) = true := by kernel_rfl
theorem z19FnCopies : (Try.f4.resultTypes.all (fun t => Try.pinned.checked.prog.readableRec t && decide (t < Try.pinned.checked.prog.types.size))) = true := by kernel_rfl
theorem z20FnCopies : ((Rows.fnCopiesRow.ifacesOut == Try.f4.resultTypes.toList.any (Try.pinned.checked.prog.ifacesRec ·))) = true := by kernel_rfl
theorem z21FnCopies : ((Rows.fnCopiesRow.loopsOut == Try.f4.resultTypes.toList.any (Try.pinned.checked.prog.loopsFrom ·))) = true := by kernel_rfl
theorem z22FnCopies : ((Rows.fnCopiesRow.plainKeys == Try.pinned.checked.prog.plainKeys)) = true := by kernel_rfl
theorem z23FnCopies : (Rows.fnCopiesRow.shortTexts.isNone) = true := by kernel_rfl
theorem z24FnCopies : (Try.pinned.checked.prog.stopsHeard) = true := by kernel_rfl
theorem z25FnCopies : (Try.pinned.checked.prog.mayEnter) = true := by kernel_rfl
theorem z26FnCopies : ((Rows.fnCopiesRow.lifted == Try.pinned.checked.prog.liftsFinal)) = true := by kernel_rfl
theorem z27FnCopies : ((Try.pinned.checked.prog.make == some Rows.fnCopiesRow.make)) = true := by kernel_rfl
theorem z28FnCopies : ((Rows.fnCopiesRow.kinds == (if Rows.fnCopiesRow.domain.isEmpty then [] else Try.f4.params.toList.map fun t => match Try.pinned.checked.prog.underlying t with | some (.int k) => some k | _ => none))) = true := by kernel_rfl
theorem z29FnCopies : ((Rows.fnCopiesRow.pinned == Rows.fnCopiesRow.pinnedBy)) = true := by kernel_rfl
theorem z30FnCopies : ((Rows.fnCopiesRow.veiled == (Try.f4.params.toList ++ Rows.fnCopiesSpec.plain.varTypes Try.pinned.checked.prog ++ Try.f4.resultTypes.toList).any (Try.pinned.checked.prog.veiledRec ·))) = true := by kernel_rfl
theorem z31FnCopies : (Rows.fnCopiesRow.veiledFits Try.pinned.checked.prog Try.f4.params.toList (Try.f4.params.toList ++ Rows.fnCopiesSpec.plain.varTypes Try.pinned.checked.prog ++ Try.f4.resultTypes.toList)) = true := by kernel_rfl
theorem closedFnCopies : joinedFacts Try.pinned.checked.prog 4 Try.f4 Rows.fnCopiesSpec Rows.fnCopiesRow = true := (and2FnCopies (and2FnCopies (and2FnCopies (and2FnCopies (and2FnCopies (and2FnCopies (and2FnCopies (and2FnCopies (and2FnCopies (and2FnCopies (and2FnCopies (and2FnCopies (and2FnCopies (and2FnCopies (and2FnCopies (and2FnCopies (and2FnCopies (and2FnCopies (and2FnCopies (and2FnCopies (and2FnCopies (and2FnCopies (and2FnCopies (and2FnCopies (and2FnCopies (and2FnCopies (and2FnCopies (and2FnCopies (and2FnCopies (and2FnCopies (and2FnCopies z0FnCopies z1FnCopies) z2FnCopies) z3FnCopies) z4FnCopies) z5FnCopies) z6FnCopies) z7FnCopies) z8FnCopies) z9FnCopies) z10FnCopies) z11FnCopies) z12FnCopies) z13FnCopies) z14FnCopies) z15FnCopies) z16FnCopies) z17FnCopies) z18FnCopies) z19FnCopies) z20FnCopies) z21FnCopies) z22FnCopies) z23FnCopies) z24FnCopies) z25FnCopies) z26FnCopies) z27FnCopies) z28FnCopies) z29FnCopies) z30FnCopies) z31FnCopies)
theorem namedFnCopies : Try.pinned.checked.prog.funcNamed Rows.fnCopiesRow.func = some 4 := by kernel_rfl

theorem overFnCopies : Rows.fnCopiesRow.holds Try.pinned (OpenSpec.ofChange Rows.fnCopiesSpec) :=
  OpenClaim.holds_of_wide 4 Try.f4 rfl rfl rfl rfl rfl rfl rfl ⟨rfl, rfl, rfl, rfl, rfl⟩ rfl rfl rfl rfl rfl namedFnCopies Try.func4 closedFnCopies
    (of_decide_eq_true (by kernel_rfl)) (by unfold Func.isWrapper; first | (rw [if_pos (by decide +kernel)]; kernel_rfl) | (rw [if_neg (by decide +kernel)]; exact ⟨rfl, rfl⟩))
    (fun os started H enc _ => liftedFnCopies os started H enc)

theorem provedFnCopies : Rows.FnCopiesSaid := overFnCopies
#print axioms provedFnCopies
end Go.Proofs.Ytifkjlpkhfldoaa.Ai
