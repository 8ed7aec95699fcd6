/- Proved: for every input the law FnDrifts returns true, and each argument reads afterwards as it read before. Conditions: none. -/
import Derived.Test.YtfnfjgdepilgkaaRows
import Derived.Test.YtfnfjgdepilgkaaAiOpen
import Derived.Test.YtfnfjgdepilgkaaLawDrifts
import Derived.Test.YtfnfjgdepilgkaaOpensU8
import Derived.ProofKit
import Derived.OpenShut
import Derived.ShutString
namespace Go.Proofs.Ytfnfjgdepilgkaa.Ai
open Go Go.Proofs Go.ChangeShapes Go.WideShapes Go.ChangeAt Go.RowKit
set_option linter.unusedVariables false
set_option maxRecDepth 100000

theorem ownFnDrifts : ownKnob Try.prog.godebug = none := by kernel_rfl
theorem laidOutFnDrifts : laidOutB Try.prog = true := by kernel_rfl

set_option maxRecDepth 100000 in
theorem liftedFnDrifts (os : Os) (started : os.Started) (H : Type) (enc : TypeId × Value → H) :
    ReturnsInHanded {} Try.checked os 4 .any (Rows.fnDriftsSpec.pre6 enc Try.prog Try.f4 Rows.fnDriftsRow.domain false) (Rows.fnDriftsSpec.post enc Try.prog Try.f4 false true false false) := by
  refine returnsInHanded_of_change (C := Try.checked) ownFnDrifts started (by kernel_rfl) Try.func4
    (ChangeSpec.witness6 (enc := enc) (C := Try.checked) false ⟨#[], #[.slice none 0 0, .slice none 0 0], []⟩ 8 (by kernel_rfl) (by kernel_rfl) (by kernel_rfl) (by kernel_rfl)) ?_
  intro W base args ds gs before hval0 hW hcnd _
  have hval : ∀ (j : Nat) t v, Try.f4.params[j]? = some t → args[j]? = some v → Value.okWide Try.prog W .any base t v := hval0
  have hW' := hW
  obtain ⟨p, q, hA0, hV, rfl, hfz, hnd⟩ := hW
  have hA : DataW.TrodAll enc Try.prog W 0 (fun _ => true) true Try.f4.params.toList args.toList ds p := hA0
  rw [Try.params4] at hA hval
  obtain ⟨v0, vs0, d0, ds0, p0, q0, hargs, rfl, rfl, h0, r0⟩ := trodAll_cons hA
  obtain ⟨v1, vs1, d1, ds1, p1, q1, rfl, rfl, rfl, h1, r1⟩ := trodAll_cons r0
  obtain ⟨rfl, rfl, rfl⟩ := trodAll_nil r1
  obtain rfl : args = #[v0, v1] := by cases args; simp_all
  obtain ⟨rfl, rfl⟩ := trodVars_none hV
  have k0 := h0
  have lt0 : ∀ x ∈ p0, x.block < W.heap.size := by obtain ⟨m, hm⟩ := k0; exact DataW.trod_lt m _ _ _ hm
  obtain ⟨b0, l0, c0, rfl⟩ := okWide_slice Try.underlying22 (hval 0 22 v0 rfl rfl)
  obtain ⟨a0, w0, e0⟩ := arg_one (g := fun a => .isl _ (rows _ a)) opensU8S rfl h0
  have k1 := h1
  have lt1 : ∀ x ∈ p1, x.block < W.heap.size := by obtain ⟨m, hm⟩ := k1; exact DataW.trod_lt m _ _ _ hm
  obtain ⟨b1, l1, c1, rfl⟩ := okWide_slice Try.underlying22 (hval 1 22 v1 rfl rfl)
  obtain ⟨a1, w1, e1⟩ := arg_one (g := fun a => .isl _ (rows _ a)) opensU8S rfl h1
  clear hA0 hval0
  refine ((lawDrifts_ok a0 a1 w0 w1).2 W (fun k => k < W.heap.size) _ (fun _ h => h) (All2.cons e0 (All2.cons e1 All2.nil))).mono ?_
  rintro e W' ⟨v, r, gs', rfl, rfl, bel, hr⟩
  have hv : v = .bool true := by
    obtain ⟨-, -, hr⟩ := hr
    cases hr with
    | one hr => cases hr with
      | imm hr => cases hr; rfl
  subst hv
  exact ⟨_, rfl, _, _, _, [], _, [], hW', trodAll_mk1 (shut_bool Try.underlying4 _), (trodAll_cons_mk (Below.trod laidOutFnDrifts (by kernel_rfl) (of_decide_eq_true (by kernel_rfl)) k0 bel lt0) (trodAll_cons_mk (Below.trod laidOutFnDrifts (by kernel_rfl) (of_decide_eq_true (by kernel_rfl)) k1 bel lt1) trodAll_mk0)), rfl, bel.frame _, fun h => by cases h⟩

theorem and2FnDrifts {a b : Bool} (ha : a = true) (hb : b = true) : (a && b) = true := by rw [ha, hb]; rfl
theorem z0FnDrifts : (Rows.fnDriftsRow.wf (OpenSpec.ofChange Rows.fnDriftsSpec)) = true := by kernel_rfl
theorem z1FnDrifts : (laidOutB Try.pinned.checked.prog) = true := by kernel_rfl
theorem z2FnDrifts : (mapsRowed Try.pinned.checked.prog) = true := by kernel_rfl
theorem z3FnDrifts : (Try.f4.params.all (Try.pinned.checked.prog.readableRec ·)) = true := by kernel_rfl
theorem z4FnDrifts : (namedTie Try.pinned.checked.prog Rows.fnDriftsRow.named Rows.fnDriftsSpec.vars) = true := by kernel_rfl
theorem z5FnDrifts : ((Rows.fnDriftsRow.stops == [])) = true := by kernel_rfl
theorem z6FnDrifts : ((Try.pinned.checked.prog.stops == [])) = true := by kernel_rfl
theorem z7FnDrifts : ((Rows.fnDriftsRow.knobs == [])) = true := by kernel_rfl
theorem z8FnDrifts : ((Try.pinned.checked.prog.stopKnobs == [])) = true := by kernel_rfl
theorem z9FnDrifts : ((Rows.fnDriftsRow.inPlace == Try.pinned.checked.prog.inPlace 4)) = true := by kernel_rfl
theorem z10FnDrifts : ((Rows.fnDriftsRow.unfollowed == Try.pinned.checked.prog.unfollowed 4)) = true := by kernel_rfl
theorem z11FnDrifts : ((Rows.fnDriftsRow.recurses == Try.pinned.checked.prog.recurses 4)) = true := by kernel_rfl
theorem z12FnDrifts : ((Rows.fnDriftsRow.named == Try.pinned.checked.prog.varsNamed 4)) = true := by kernel_rfl
theorem z13FnDrifts : ((Rows.fnDriftsRow.maps == (Try.f4.params.toList ++ Rows.fnDriftsSpec.plain.varTypes Try.pinned.checked.prog).any (Try.pinned.checked.prog.mapsRec ·))) = true := by kernel_rfl
theorem z14FnDrifts : ((Rows.fnDriftsRow.ifaces == (Try.f4.params.toList ++ Rows.fnDriftsSpec.plain.varTypes Try.pinned.checked.prog).any (Try.pinned.checked.prog.ifacesRec ·))) = true := by kernel_rfl
theorem z15FnDrifts : ((Rows.fnDriftsRow.mapsOut == Try.pinned.checked.prog.mapsAmong Try.f4.resultTypes.toList)) = true := by kernel_rfl
theorem z16FnDrifts : ((Rows.fnDriftsRow.loops == (Try.f4.params.toList ++ Rows.fnDriftsSpec.plain.varTypes Try.pinned.checked.prog).any (Try.pinned.checked.prog.loopsFrom ·))) = true := by kernel_rfl
theorem z17FnDrifts : ((Rows.fnDriftsRow.wideKeys == (Try.f4.params.toList ++ Rows.fnDriftsSpec.plain.varTypes Try.pinned.checked.prog ++ Try.f4.resultTypes.toList).any (Try.pinned.checked.prog.wideKeysFrom ·))) = true := by kernel_rfl
theorem z18FnDrifts : (Rows.fnDriftsSpec.vars.all (Try.pinned.checked.prog.varReadable ·)) = true := by kernel_rfl
theorem z19FnDrifts : (Try.f4.resultTypes.all (fun t => Try.pinned.checked.prog.readableRec t && decide (t < Try.pinned.checked.prog.types.size))) = true := by kernel_rfl
theorem z20FnDrifts : ((Rows.fnDriftsRow.ifacesOut == Try.f4.resultTypes.toList.any (Try.pinned.checked.prog.ifacesRec ·))) = true := by kernel_rfl
theorem z21FnDrifts : ((Rows.fnDriftsRow.loopsOut == Try.f4.resultTypes.toList.any (Try.pinned.checked.prog.loopsFrom ·))) = true := by kernel_rfl
theorem z22FnDrifts : ((Rows.fnDriftsRow.plainKeys == Try.pinned.checked.prog.plainKeys)) = true := by kernel_rfl
theorem z23FnDrifts : (Rows.fnDriftsRow.shortTexts.isNone) = true := by kernel_rfl
theorem z24FnDrifts : (Try.pinned.checked.prog.stopsHeard) = true := by kernel_rfl
theorem z25FnDrifts : (Try.pinned.checked.prog.mayEnter) = true := by kernel_rfl
theorem z26FnDrifts : ((Rows.fnDriftsRow.lifted == Try.pinned.checked.prog.liftsFinal)) = true := by kernel_rfl
theorem z27FnDrifts : ((Try.pinned.checked.prog.make == some Rows.fnDriftsRow.make)) = true := by kernel_rfl
theorem z28FnDrifts : ((Rows.fnDriftsRow.kinds == (if Rows.fnDriftsRow.domain.isEmpty then [] else Try.f4.params.toList.map fun t => match Try.pinned.checked.prog.underlying t with | some (.int k) => some k | _ => none))) = true := by kernel_rfl
theorem z29FnDrifts : ((Rows.fnDriftsRow.pinned == Rows.fnDriftsRow.pinnedBy)) = true := by kernel_rfl
theorem z30FnDrifts : ((Rows.fnDriftsRow.veiled == (Try.f4.params.toList ++ Rows.fnDriftsSpec.plain.varTypes Try.pinned.checked.prog ++ Try.f4.resultTypes.toList).any (Try.pinned.checked.prog.veiledRec ·))) = true := by kernel_rfl
theorem z31FnDrifts : (Rows.fnDriftsRow.veiledFits Try.pinned.checked.prog Try.f4.params.toList (Try.f4.params.toList ++ Rows.fnDriftsSpec.plain.varTypes Try.pinned.checked.prog ++ Try.f4.resultTypes.toList)) = true := by kernel_rfl
theorem closedFnDrifts : joinedFacts Try.pinned.checked.prog 4 Try.f4 Rows.fnDriftsSpec Rows.fnDriftsRow = true := (and2FnDrifts (and2FnDrifts (and2FnDrifts (and2FnDrifts (and2FnDrifts (and2FnDrifts (and2FnDrifts (and2FnDrifts (and2FnDrifts (and2FnDrifts (and2FnDrifts (and2FnDrifts (and2FnDrifts (and2FnDrifts (and2FnDrifts (and2FnDrifts (and2FnDrifts (and2FnDrifts (and2FnDrifts (and2FnDrifts (and2FnDrifts (and2FnDrifts (and2FnDrifts (and2FnDrifts (and2FnDrifts (and2FnDrifts (and2FnDrifts (and2FnDrifts (and2FnDrifts (and2FnDrifts (and2FnDrifts z0FnDrifts z1FnDrifts) z2FnDrifts) z3FnDrifts) z4FnDrifts) z5FnDrifts) z6FnDrifts) z7FnDrifts) z8FnDrifts) z9FnDrifts) z10FnDrifts) z11FnDrifts) z12FnDrifts) z13FnDrifts) z14FnDrifts) z15FnDrifts) z16FnDrifts) z17FnDrifts) z18FnDrifts) z19FnDrifts) z20FnDrifts) z21FnDrifts) z22FnDrifts) z23FnDrifts) z24FnDrifts) z25FnDrifts) z26FnDrifts) z27FnDrifts) z28FnDrifts) z29FnDrifts) z30FnDrifts) z31FnDrifts)
theorem namedFnDrifts : Try.pinned.checked.prog.funcNamed Rows.fnDriftsRow.func = some 4 := by kernel_rfl

theorem overFnDrifts : Rows.fnDriftsRow.holds Try.pinned (OpenSpec.ofChange Rows.fnDriftsSpec) :=
  OpenClaim.holds_of_wide 4 Try.f4 rfl rfl rfl rfl rfl rfl rfl ⟨rfl, rfl, rfl, rfl, rfl⟩ rfl rfl rfl rfl rfl namedFnDrifts Try.func4 closedFnDrifts
    (of_decide_eq_true (by kernel_rfl)) (by unfold Func.isWrapper; first | (rw [if_pos (by decide +kernel)]; kernel_rfl) | (rw [if_neg (by decide +kernel)]; exact ⟨rfl, rfl⟩))
    (fun os started H enc _ => liftedFnDrifts os started H enc)

theorem provedFnDrifts : Rows.FnDriftsSaid := overFnDrifts
#print axioms provedFnDrifts
end Go.Proofs.Ytfnfjgdepilgkaa.Ai
