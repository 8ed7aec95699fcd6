/- Proved: for every input the law FnExactNextCrafts returns true, and each argument reads afterwards as it read before. Conditions: none. -/
import Derived.Test.YtcjghcagliamfaaRows
import Derived.Test.YtcjghcagliamfaaAiOpen
import Derived.Test.YtcjghcagliamfaaOpensCraft
import Derived.Test.YtcjghcagliamfaaOpensSS
import Derived.Test.YtcjghcagliamfaaLawNext
import Derived.ProofKit
import Derived.OpenShut
import Derived.ShutString
namespace Go.Proofs.Ytcjghcagliamfaa.Ai
open Go Go.Proofs Go.ChangeShapes Go.WideShapes Go.ChangeAt Go.RowKit
set_option linter.unusedVariables false
set_option maxRecDepth 100000

theorem ownFnExactNextCrafts : ownKnob Try.prog.godebug = none := by kernel_rfl
theorem laidOutFnExactNextCrafts : laidOutB Try.prog = true := by kernel_rfl

set_option maxRecDepth 100000 in
theorem liftedFnExactNextCrafts (os : Os) (started : os.Started) (H : Type) (enc : TypeId × Value → H) :
    ReturnsInHanded {} Try.checked os 3 .any (Rows.fnExactNextCraftsSpec.pre6 enc Try.prog Try.f3 Rows.fnExactNextCraftsRow.domain false) (Rows.fnExactNextCraftsSpec.post enc Try.prog Try.f3 false true false false) := by
  refine returnsInHanded_of_change (C := Try.checked) ownFnExactNextCrafts started (by kernel_rfl) Try.func3
    (ChangeSpec.witness6 (enc := enc) (C := Try.checked) false ⟨#[], #[.slice none 0 0, .slice none 0 0], []⟩ 8 (by kernel_rfl) (by kernel_rfl) (by kernel_rfl) (by kernel_rfl)) ?_
  intro W base args ds gs before hval0 hW hcnd _
  have hval : ∀ (j : Nat) t v, Try.f3.params[j]? = some t → args[j]? = some v → Value.okWide Try.prog W .any base t v := hval0
  have hW' := hW
  obtain ⟨p, q, hA0, hV, rfl, hfz, hnd⟩ := hW
  have hA : DataW.TrodAll enc Try.prog W 0 (fun _ => true) true Try.f3.params.toList args.toList ds p := hA0
  rw [Try.params3] at hA hval
  obtain ⟨v0, vs0, d0, ds0, p0, q0, hargs, rfl, rfl, h0, r0⟩ := trodAll_cons hA
  obtain ⟨v1, vs1, d1, ds1, p1, q1, rfl, rfl, rfl, h1, r1⟩ := trodAll_cons r0
  obtain ⟨rfl, rfl, rfl⟩ := trodAll_nil r1
  obtain rfl : args = #[v0, v1] := by cases args; simp_all
  obtain ⟨rfl, rfl⟩ := trodVars_none hV
  have k0 := h0
  have lt0 : ∀ x ∈ p0, x.block < W.heap.size := by obtain ⟨m, hm⟩ := k0; exact DataW.trod_lt m _ _ _ hm
  obtain ⟨b0, l0, c0, rfl⟩ := okWide_slice Try.underlying22 (hval 0 22 v0 rfl rfl)
  obtain ⟨a0, w0, e0⟩ := arg_one (g := fun a => .isl _ (rows _ a)) opensCraftS rfl h0
  have k1 := h1
  have lt1 : ∀ x ∈ p1, x.block < W.heap.size := by obtain ⟨m, hm⟩ := k1; exact DataW.trod_lt m _ _ _ hm
  obtain ⟨b1, l1, c1, rfl⟩ := okWide_slice Try.underlying23 (hval 1 23 v1 rfl rfl)
  obtain ⟨a1, w1, e1⟩ := arg_one (g := fun a => .isl _ (rows _ a)) opensIntS rfl h1
  clear hA0 hval0
  refine ((lawNextCrafts_ok a0 a1).2 W (fun k => k < W.heap.size) _ (fun _ h => h) (All2.cons e0 (All2.cons e1 All2.nil))).mono ?_
  rintro e W' ⟨v, r, gs', rfl, rfl, bel, hr⟩
  have hv : v = .bool true := by
    obtain ⟨-, -, hr⟩ := hr
    cases hr with
    | one hr => cases hr with
      | imm hr => cases hr; rfl
  subst hv
  exact ⟨_, rfl, _, _, _, [], _, [], hW', trodAll_mk1 (shut_bool Try.underlying4 _), (trodAll_cons_mk (Below.trod laidOutFnExactNextCrafts (by kernel_rfl) (of_decide_eq_true (by kernel_rfl)) k0 bel lt0) (trodAll_cons_mk (Below.trod laidOutFnExactNextCrafts (by kernel_rfl) (of_decide_eq_true (by kernel_rfl)) k1 bel lt1) trodAll_mk0)), rfl, bel.frame _, fun h => by cases h⟩

theorem and2FnExactNextCrafts {a b : Bool} (ha : a = true) (hb : b = true) : (a && b) = true := by rw [ha, hb]; rfl
theorem z0FnExactNextCrafts : (Rows.fnExactNextCraftsRow.wf (OpenSpec.ofChange Rows.fnExactNextCraftsSpec)) = true := by kernel_rfl
theorem z1FnExactNextCrafts : (laidOutB Try.pinned.checked.prog) = true := by kernel_rfl
theorem z2FnExactNextCrafts : (mapsRowed Try.pinned.checked.prog) = true := by kernel_rfl
theorem z3FnExactNextCrafts : (Try.f3.params.all (Try.pinned.checked.prog.readableRec ·)) = true := by kernel_rfl
theorem z4FnExactNextCrafts : (namedTie Try.pinned.checked.prog Rows.fnExactNextCraftsRow.named Rows.fnExactNextCraftsSpec.vars) = true := by kernel_rfl
theorem z5FnExactNextCrafts : ((Rows.fnExactNextCraftsRow.stops == [])) = true := by kernel_rfl
theorem z6FnExactNextCrafts : ((Try.pinned.checked.prog.stops == [])) = true := by kernel_rfl
theorem z7FnExactNextCrafts : ((Rows.fnExactNextCraftsRow.knobs == [])) = true := by kernel_rfl
theorem z8FnExactNextCrafts : ((Try.pinned.checked.prog.stopKnobs == [])) = true := by kernel_rfl
theorem z9FnExactNextCrafts : ((Rows.fnExactNextCraftsRow.inPlace == Try.pinned.checked.prog.inPlace 3)) = true := by kernel_rfl
theorem z10FnExactNextCrafts : ((Rows.fnExactNextCraftsRow.unfollowed == Try.pinned.checked.prog.unfollowed 3)) = true := by kernel_rfl
theorem z11FnExactNextCrafts : ((Rows.fnExactNextCraftsRow.recurses == Try.pinned.checked.prog.recurses 3)) = true := by kernel_rfl
theorem z12FnExactNextCrafts : ((Rows.fnExactNextCraftsRow.named == Try.pinned.checked.prog.varsNamed 3)) = true := by kernel_rfl
theorem z13FnExactNextCrafts : ((Rows.fnExactNextCraftsRow.maps == (Try.f3.params.toList ++ Rows.fnExactNextCraftsSpec.plain.varTypes Try.pinned.checked.prog).any (Try.pinned.checked.prog.mapsRec ·))) = true := by kernel_rfl
theorem z14FnExactNextCrafts : ((Rows.fnExactNextCraftsRow.ifaces == (Try.f3.params.toList ++ Rows.fnExactNextCraftsSpec.plain.varTypes Try.pinned.checked.prog).any (Try.pinned.checked.prog.ifacesRec ·))) = true := by kernel_rfl
theorem z15FnExactNextCrafts : ((Rows.fnExactNextCraftsRow.mapsOut == Try.pinned.checked.prog.mapsAmong Try.f3.resultTypes.toList)) = true := by kernel_rfl
theorem z16FnExactNextCrafts : ((Rows.fnExactNextCraftsRow.loops == (Try.f3.params.toList ++ Rows.fnExactNextCraftsSpec.plain.varTypes Try.pinned.checked.prog).any (Try.pinned.checked.prog.loopsFrom ·))) = true := by kernel_rfl
theorem z17FnExactNextCrafts : ((Rows.fnExactNextCraftsRow.wideKeys == (Try.f3.params.toList ++ Rows.fnExactNextCraftsSpec.plain.varTypes Try.pinned.checked.prog ++ Try.f3.resultTypes.toList).any (Try.pinned.checked.prog.wideKeysFrom ·))) = true := by kernel_rfl
theorem z18FnExactNextCrafts : (Rows.fnExactNextCraftsSpec.vars.all (Try.pinned.checked.prog.varReadable ·)) = true := by kernel_rfl
theorem z19FnExactNextCrafts : (Try.f3.resultTypes.all (fun t => Try.pinned.checked.prog.readableRec t && decide (t < Try.pinned.checked.prog.types.size))) = true := by kernel_rfl
theorem z20FnExactNextCrafts : ((Rows.fnExactNextCraftsRow.ifacesOut == Try.f3.resultTypes.toList.any (Try.pinned.checked.prog.ifacesRec ·))) = true := by kernel_rfl
theorem z21FnExactNextCrafts : ((Rows.fnExactNextCraftsRow.loopsOut == Try.f3.resultTypes.toList.any (Try.pinned.checked.prog.loopsFrom ·))) = true := by kernel_rfl
theorem z22FnExactNextCrafts : ((Rows.fnExactNextCraftsRow.plainKeys == Try.pinned.checked.prog.plainKeys)) = true := by kernel_rfl
theorem z23FnExactNextCrafts : (Rows.fnExactNextCraftsRow.shortTexts.isNone) = true := by kernel_rfl
theorem z24FnExactNextCrafts : (Try.pinned.checked.prog.stopsHeard) = true := by kernel_rfl
theorem z25FnExactNextCrafts : (Try.pinned.checked.prog.mayEnter) = true := by kernel_rfl
theorem z26FnExactNextCrafts : ((Rows.fnExactNextCraftsRow.lifted == Try.pinned.checked.prog.liftsFinal)) = true := by kernel_rfl
theorem z27FnExactNextCrafts : ((Try.pinned.checked.prog.make == some Rows.fnExactNextCraftsRow.make)) = true := by kernel_rfl
theorem z28FnExactNextCrafts : ((Rows.fnExactNextCraftsRow.kinds == (if Rows.fnExactNextCraftsRow.domain.isEmpty then [] else Try.f3.params.toList.map fun t => match Try.pinned.checked.prog.underlying t with | some (.int k) => some k | _ => none))) = true := by kernel_rfl
theorem z29FnExactNextCrafts : ((Rows.fnExactNextCraftsRow.pinned == Rows.fnExactNextCraftsRow.pinnedBy)) = true := by kernel_rfl
theorem z30FnExactNextCrafts : ((Rows.fnExactNextCraftsRow.veiled == (Try.f3.params.toList ++ Rows.fnExactNextCraftsSpec.plain.varTypes Try.pinned.checked.prog ++ Try.f3.resultTypes.toList).any (Try.pinned.checked.prog.veiledRec ·))) = true := by kernel_rfl
theorem z31FnExactNextCrafts : (Rows.fnExactNextCraftsRow.veiledFits Try.pinned.checked.prog Try.f3.params.toList (Try.f3.params.toList ++ Rows.fnExactNextCraftsSpec.plain.varTypes Try.pinned.checked.prog ++ Try.f3.resultTypes.toList)) = true := by kernel_rfl
theorem closedFnExactNextCrafts : joinedFacts Try.pinned.checked.prog 3 Try.f3 Rows.fnExactNextCraftsSpec Rows.fnExactNextCraftsRow = true := (and2FnExactNextCrafts (and2FnExactNextCrafts (and2FnExactNextCrafts (and2FnExactNextCrafts (and2FnExactNextCrafts (and2FnExactNextCrafts (and2FnExactNextCrafts (and2FnExactNextCrafts (and2FnExactNextCrafts (and2FnExactNextCrafts (and2FnExactNextCrafts (and2FnExactNextCrafts (and2FnExactNextCrafts (and2FnExactNextCrafts (and2FnExactNextCrafts (and2FnExactNextCrafts (and2FnExactNextCrafts (and2FnExactNextCrafts (and2FnExactNextCrafts (and2FnExactNextCrafts (and2FnExactNextCrafts (and2FnExactNextCrafts (and2FnExactNextCrafts (and2FnExactNextCrafts (and2FnExactNextCrafts (and2FnExactNextCrafts (and2FnExactNextCrafts (and2FnExactNextCrafts (and2FnExactNextCrafts (and2FnExactNextCrafts (and2FnExactNextCrafts z0FnExactNextCrafts z1FnExactNextCrafts) z2FnExactNextCrafts) z3FnExactNextCrafts) z4FnExactNextCrafts) z5FnExactNextCrafts) z6FnExactNextCrafts) z7FnExactNextCrafts) z8FnExactNextCrafts) z9FnExactNextCrafts) z10FnExactNextCrafts) z11FnExactNextCrafts) z12FnExactNextCrafts) z13FnExactNextCrafts) z14FnExactNextCrafts) z15FnExactNextCrafts) z16FnExactNextCrafts) z17FnExactNextCrafts) z18FnExactNextCrafts) z19FnExactNextCrafts) z20FnExactNextCrafts) z21FnExactNextCrafts) z22FnExactNextCrafts) z23FnExactNextCrafts) z24FnExactNextCrafts) z25FnExactNextCrafts) z26FnExactNextCrafts) z27FnExactNextCrafts) z28FnExactNextCrafts) z29FnExactNextCrafts) z30FnExactNextCrafts) z31FnExactNextCrafts)
theorem namedFnExactNextCrafts : Try.pinned.checked.prog.funcNamed Rows.fnExactNextCraftsRow.func = some 3 := by kernel_rfl

theorem overFnExactNextCrafts : Rows.fnExactNextCraftsRow.holds Try.pinned (OpenSpec.ofChange Rows.fnExactNextCraftsSpec) :=
  OpenClaim.holds_of_wide 3 Try.f3 rfl rfl rfl rfl rfl rfl rfl ⟨rfl, rfl, rfl, rfl, rfl⟩ rfl rfl rfl rfl rfl namedFnExactNextCrafts Try.func3 closedFnExactNextCrafts
    (of_decide_eq_true (by kernel_rfl)) (by unfold Func.isWrapper; first | (rw [if_pos (by decide +kernel)]; kernel_rfl) | (rw [if_neg (by decide +kernel)]; exact ⟨rfl, rfl⟩))
    (fun os started H enc _ => liftedFnExactNextCrafts os started H enc)

theorem provedFnExactNextCrafts : Rows.FnExactNextCraftsSaid := overFnExactNextCrafts
#print axioms provedFnExactNextCrafts
end Go.Proofs.Ytcjghcagliamfaa.Ai
