/- Proved: for every input the law FnCutIns returns true, and each argument reads afterwards as it read before. Conditions: none. -/
import Derived.Test.YtnkikmdkkkhlcaaRows
import Derived.Test.YtnkikmdkkkhlcaaAiOpen
import Derived.Test.YtnkikmdkkkhlcaaLawCutIns
import Derived.Test.YtnkikmdkkkhlcaaOpensU8
import Derived.ProofKit
import Derived.OpenShut
import Derived.ShutString
namespace Go.Proofs.Ytnkikmdkkkhlcaa.Ai
open Go Go.Proofs Go.ChangeShapes Go.WideShapes Go.ChangeAt Go.RowKit
set_option linter.unusedVariables false
set_option maxRecDepth 100000

theorem ownFnCutIns : ownKnob Try.prog.godebug = none := by kernel_rfl
theorem laidOutFnCutIns : laidOutB Try.prog = true := by kernel_rfl

set_option maxRecDepth 100000 in
theorem liftedFnCutIns (os : Os) (started : os.Started) (H : Type) (enc : TypeId × Value → H) :
    ReturnsInHanded {} Try.checked os 5 .any (Rows.fnCutInsSpec.pre6 enc Try.prog Try.f5 Rows.fnCutInsRow.domain false) (Rows.fnCutInsSpec.post enc Try.prog Try.f5 false true false false) := by
  refine returnsInHanded_of_change (C := Try.checked) ownFnCutIns started (by kernel_rfl) Try.func5
    (ChangeSpec.witness6 (enc := enc) (C := Try.checked) false ⟨#[], #[.slice none 0 0, .slice none 0 0], []⟩ 8 (by kernel_rfl) (by kernel_rfl) (by kernel_rfl) (by kernel_rfl)) ?_
  intro W base args ds gs before hval0 hW hcnd _
  have hval : ∀ (j : Nat) t v, Try.f5.params[j]? = some t → args[j]? = some v → Value.okWide Try.prog W .any base t v := hval0
  have hW' := hW
  obtain ⟨p, q, hA0, hV, rfl, hfz, hnd⟩ := hW
  have hA : DataW.TrodAll enc Try.prog W 0 (fun _ => true) true Try.f5.params.toList args.toList ds p := hA0
  rw [Try.params5] at hA hval
  obtain ⟨v0, vs0, d0, ds0, p0, q0, hargs, rfl, rfl, h0, r0⟩ := trodAll_cons hA
  obtain ⟨v1, vs1, d1, ds1, p1, q1, rfl, rfl, rfl, h1, r1⟩ := trodAll_cons r0
  obtain ⟨rfl, rfl, rfl⟩ := trodAll_nil r1
  obtain rfl : args = #[v0, v1] := by cases args; simp_all
  obtain ⟨rfl, rfl⟩ := trodVars_none hV
  have k0 := h0
  have lt0 : ∀ x ∈ p0, x.block < W.heap.size := by obtain ⟨m, hm⟩ := k0; exact DataW.trod_lt m _ _ _ hm
  obtain ⟨b0, l0, c0, rfl⟩ := okWide_slice Try.underlying22 (hval 0 22 v0 rfl rfl)
  obtain ⟨a0, w0, e0⟩ := arg_one (g := fun a => .isl _ (rows _ a)) opensU8S rfl h0
  have k1 := h1
  have lt1 : ∀ x ∈ p1, x.block < W.heap.size := by obtain ⟨m, hm⟩ := k1; exact DataW.trod_lt m _ _ _ hm
  obtain ⟨b1, l1, c1, rfl⟩ := okWide_slice Try.underlying22 (hval 1 22 v1 rfl rfl)
  obtain ⟨a1, w1, e1⟩ := arg_one (g := fun a => .isl _ (rows _ a)) opensU8S rfl h1
  clear hA0 hval0
  refine ((lawCutIns_ok a0 a1 w0 w1).2 W (fun k => k < W.heap.size) _ (fun _ h => h) (All2.cons e0 (All2.cons e1 All2.nil))).mono ?_
  rintro e W' ⟨v, r, gs', rfl, rfl, bel, hr⟩
  have hv : v = .bool true := by
    obtain ⟨-, -, hr⟩ := hr
    cases hr with
    | one hr => cases hr with
      | imm hr => cases hr; rfl
  subst hv
  exact ⟨_, rfl, _, _, _, [], _, [], hW', trodAll_mk1 (shut_bool Try.underlying4 _), (trodAll_cons_mk (Below.trod laidOutFnCutIns (by kernel_rfl) (of_decide_eq_true (by kernel_rfl)) k0 bel lt0) (trodAll_cons_mk (Below.trod laidOutFnCutIns (by kernel_rfl) (of_decide_eq_true (by kernel_rfl)) k1 bel lt1) trodAll_mk0)), rfl, bel.frame _, fun h => by cases h⟩

theorem and2FnCutIns {a b : Bool} (ha : a = true) (hb : b = true) : (a && b) = true := by rw [ha, hb]; rfl
theorem z0FnCutIns : (Rows.fnCutInsRow.wf (OpenSpec.ofChange Rows.fnCutInsSpec)) = true := by kernel_rfl
theorem z1FnCutIns : (laidOutB Try.pinned.checked.prog) = true := by kernel_rfl
theorem z2FnCutIns : (mapsRowed Try.pinned.checked.prog) = true := by kernel_rfl
theorem z3FnCutIns : (Try.f5.params.all (Try.pinned.checked.prog.readableRec ·)) = true := by kernel_rfl
theorem z4FnCutIns : (namedTie Try.pinned.checked.prog Rows.fnCutInsRow.named Rows.fnCutInsSpec.vars) = true := by kernel_rfl
theorem z5FnCutIns : ((Rows.fnCutInsRow.stops == [])) = true := by kernel_rfl
theorem z6FnCutIns : ((Try.pinned.checked.prog.stops == [])) = true := by kernel_rfl
theorem z7FnCutIns : ((Rows.fnCutInsRow.knobs == [])) = true := by kernel_rfl
theorem z8FnCutIns : ((Try.pinned.checked.prog.stopKnobs == [])) = true := by kernel_rfl
theorem z9FnCutIns : ((Rows.fnCutInsRow.inPlace == Try.pinned.checked.prog.inPlace 5)) = true := by kernel_rfl
theorem z10FnCutIns : ((Rows.fnCutInsRow.unfollowed == Try.pinned.checked.prog.unfollowed 5)) = true := by kernel_rfl
theorem z11FnCutIns : ((Rows.fnCutInsRow.recurses == Try.pinned.checked.prog.recurses 5)) = true := by kernel_rfl
theorem z12FnCutIns : ((Rows.fnCutInsRow.named == Try.pinned.checked.prog.varsNamed 5)) = true := by kernel_rfl
theorem z13FnCutIns : ((Rows.fnCutInsRow.maps == (Try.f5.params.toList ++ Rows.fnCutInsSpec.plain.varTypes Try.pinned.checked.prog).any (Try.pinned.checked.prog.mapsRec ·))) = true := by kernel_rfl
theorem z14FnCutIns : ((Rows.fnCutInsRow.ifaces == (Try.f5.params.toList ++ Rows.fnCutInsSpec.plain.varTypes Try.pinned.checked.prog).any (Try.pinned.checked.prog.ifacesRec ·))) = true := by kernel_rfl
theorem z15FnCutIns : ((Rows.fnCutInsRow.mapsOut == Try.pinned.checked.prog.mapsAmong Try.f5.resultTypes.toList)) = true := by kernel_rfl
theorem z16FnCutIns : ((Rows.fnCutInsRow.loops == (Try.f5.params.toList ++ Rows.fnCutInsSpec.plain.varTypes Try.pinned.checked.prog).any (Try.pinned.checked.prog.loopsFrom ·))) = true := by kernel_rfl
theorem z17FnCutIns : ((Rows.fnCutInsRow.wideKeys == (Try.f5.params.toList ++ Rows.fnCutInsSpec.plain.varTypes Try.pinned.checked.prog ++ Try.f5.resultTypes.toList).any (Try.pinned.checked.prog.wideKeysFrom ·))) = true := by kernel_rfl
theorem z18FnCutIns : (Rows.fnCutInsSpec.vars.all (Try.pinned.checked.prog.varReadable ·)) = true := by kernel_rfl
theorem z19FnCutIns : (Try.f5.resultTypes.all (fun t => Try.pinned.checked.prog.readableRec t && decide (t < Try.pinned.checked.prog.types.size))) = true := by kernel_rfl
theorem z20FnCutIns : ((Rows.fnCutInsRow.ifacesOut == Try.f5.resultTypes.toList.any (Try.pinned.checked.prog.ifacesRec ·))) = true := by kernel_rfl
theorem z21FnCutIns : ((Rows.fnCutInsRow.loopsOut == Try.f5.resultTypes.toList.any (Try.pinned.checked.prog.loopsFrom ·))) = true := by kernel_rfl
theorem z22FnCutIns : ((Rows.fnCutInsRow.plainKeys == Try.pinned.checked.prog.plainKeys)) = true := by kernel_rfl
theorem z23FnCutIns : (Rows.fnCutInsRow.shortTexts.isNone) = true := by kernel_rfl
theorem z24FnCutIns : (Try.pinned.checked.prog.stopsHeard) = true := by kernel_rfl
theorem z25FnCutIns : (Try.pinned.checked.prog.mayEnter) = true := by kernel_rfl
theorem z26FnCutIns : ((Rows.fnCutInsRow.lifted == Try.pinned.checked.prog.liftsFinal)) = true := by kernel_rfl
theorem z27FnCutIns : ((Try.pinned.checked.prog.make == some Rows.fnCutInsRow.make)) = true := by kernel_rfl
theorem z28FnCutIns : ((Rows.fnCutInsRow.kinds == (if Rows.fnCutInsRow.domain.isEmpty then [] else Try.f5.params.toList.map fun t => match Try.pinned.checked.prog.underlying t with | some (.int k) => some k | _ => none))) = true := by kernel_rfl
theorem z29FnCutIns : ((Rows.fnCutInsRow.pinned == Rows.fnCutInsRow.pinnedBy)) = true := by kernel_rfl
theorem z30FnCutIns : ((Rows.fnCutInsRow.veiled == (Try.f5.params.toList ++ Rows.fnCutInsSpec.plain.varTypes Try.pinned.checked.prog ++ Try.f5.resultTypes.toList).any (Try.pinned.checked.prog.veiledRec ·))) = true := by kernel_rfl
theorem z31FnCutIns : (Rows.fnCutInsRow.veiledFits Try.pinned.checked.prog Try.f5.params.toList (Try.f5.params.toList ++ Rows.fnCutInsSpec.plain.varTypes Try.pinned.checked.prog ++ Try.f5.resultTypes.toList)) = true := by kernel_rfl
theorem closedFnCutIns : joinedFacts Try.pinned.checked.prog 5 Try.f5 Rows.fnCutInsSpec Rows.fnCutInsRow = true := (and2FnCutIns (and2FnCutIns (and2FnCutIns (and2FnCutIns (and2FnCutIns (and2FnCutIns (and2FnCutIns (and2FnCutIns (and2FnCutIns (and2FnCutIns (and2FnCutIns (and2FnCutIns (and2FnCutIns (and2FnCutIns (and2FnCutIns (and2FnCutIns (and2FnCutIns (and2FnCutIns (and2FnCutIns (and2FnCutIns (and2FnCutIns (and2FnCutIns (and2FnCutIns (and2FnCutIns (and2FnCutIns (and2FnCutIns (and2FnCutIns (and2FnCutIns (and2FnCutIns (and2FnCutIns (and2FnCutIns z0FnCutIns z1FnCutIns) z2FnCutIns) z3FnCutIns) z4FnCutIns) z5FnCutIns) z6FnCutIns) z7FnCutIns) z8FnCutIns) z9FnCutIns) z10FnCutIns) z11FnCutIns) z12FnCutIns) z13FnCutIns) z14FnCutIns) z15FnCutIns) z16FnCutIns) z17FnCutIns) z18FnCutIns) z19FnCutIns) z20FnCutIns) z21FnCutIns) z22FnCutIns) z23FnCutIns) z24FnCutIns) z25FnCutIns) z26FnCutIns) z27FnCutIns) z28FnCutIns) z29FnCutIns) z30FnCutIns) z31FnCutIns)
theorem namedFnCutIns : Try.pinned.checked.prog.funcNamed Rows.fnCutInsRow.func = some 5 := by kernel_rfl

theorem overFnCutIns : Rows.fnCutInsRow.holds Try.pinned (OpenSpec.ofChange Rows.fnCutInsSpec) :=
  OpenClaim.holds_of_wide 5 Try.f5 rfl rfl rfl rfl rfl rfl rfl ⟨rfl, rfl, rfl, rfl, rfl⟩ rfl rfl rfl rfl rfl namedFnCutIns Try.func5 closedFnCutIns
    (of_decide_eq_true (by kernel_rfl)) (by unfold Func.isWrapper; first | (rw [if_pos (by decide +kernel)]; kernel_rfl) | (rw [if_neg (by decide +kernel)]; exact ⟨rfl, rfl⟩))
    (fun os started H enc _ => liftedFnCutIns os started H enc)

theorem provedFnCutIns : Rows.FnCutInsSaid := overFnCutIns
#print axioms provedFnCutIns
end Go.Proofs.Ytnkikmdkkkhlcaa.Ai
