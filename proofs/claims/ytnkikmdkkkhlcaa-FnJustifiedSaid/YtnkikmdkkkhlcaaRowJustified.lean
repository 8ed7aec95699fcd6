/- Proved: for every input the law FnJustified returns true, and each argument reads afterwards as it read before. Conditions: none. -/
import Derived.Test.YtnkikmdkkkhlcaaRows
import Derived.Test.YtnkikmdkkkhlcaaAiOpen
import Derived.Test.YtnkikmdkkkhlcaaLawJustified
import Derived.Test.YtnkikmdkkkhlcaaOpensU8
import Derived.ProofKit
import Derived.OpenShut
import Derived.ShutString
namespace Go.Proofs.Ytnkikmdkkkhlcaa.Ai
open Go Go.Proofs Go.ChangeShapes Go.WideShapes Go.ChangeAt Go.RowKit
set_option linter.unusedVariables false
set_option maxRecDepth 100000

theorem ownFnJustified : ownKnob Try.prog.godebug = none := by kernel_rfl
theorem laidOutFnJustified : laidOutB Try.prog = true := by kernel_rfl

set_option maxRecDepth 100000 in
theorem liftedFnJustified (os : Os) (started : os.Started) (H : Type) (enc : TypeId × Value → H) :
    ReturnsInHanded {} Try.checked os 7 .any (Rows.fnJustifiedSpec.pre6 enc Try.prog Try.f7 Rows.fnJustifiedRow.domain false) (Rows.fnJustifiedSpec.post enc Try.prog Try.f7 false true false false) := by
  refine returnsInHanded_of_change (C := Try.checked) ownFnJustified started (by kernel_rfl) Try.func7
    (ChangeSpec.witness6 (enc := enc) (C := Try.checked) false ⟨#[], #[.slice none 0 0, .slice none 0 0], []⟩ 8 (by kernel_rfl) (by kernel_rfl) (by kernel_rfl) (by kernel_rfl)) ?_
  intro W base args ds gs before hval0 hW hcnd _
  have hval : ∀ (j : Nat) t v, Try.f7.params[j]? = some t → args[j]? = some v → Value.okWide Try.prog W .any base t v := hval0
  have hW' := hW
  obtain ⟨p, q, hA0, hV, rfl, hfz, hnd⟩ := hW
  have hA : DataW.TrodAll enc Try.prog W 0 (fun _ => true) true Try.f7.params.toList args.toList ds p := hA0
  rw [Try.params7] at hA hval
  obtain ⟨v0, vs0, d0, ds0, p0, q0, hargs, rfl, rfl, h0, r0⟩ := trodAll_cons hA
  obtain ⟨v1, vs1, d1, ds1, p1, q1, rfl, rfl, rfl, h1, r1⟩ := trodAll_cons r0
  obtain ⟨rfl, rfl, rfl⟩ := trodAll_nil r1
  obtain rfl : args = #[v0, v1] := by cases args; simp_all
  obtain ⟨rfl, rfl⟩ := trodVars_none hV
  have k0 := h0
  have lt0 : ∀ x ∈ p0, x.block < W.heap.size := by obtain ⟨m, hm⟩ := k0; exact DataW.trod_lt m _ _ _ hm
  obtain ⟨b0, l0, c0, rfl⟩ := okWide_slice Try.underlying22 (hval 0 22 v0 rfl rfl)
  obtain ⟨a0, w0, e0⟩ := arg_one (g := fun a => .isl _ (rows _ a)) opensU8S rfl h0
  have k1 := h1
  have lt1 : ∀ x ∈ p1, x.block < W.heap.size := by obtain ⟨m, hm⟩ := k1; exact DataW.trod_lt m _ _ _ hm
  obtain ⟨b1, l1, c1, rfl⟩ := okWide_slice Try.underlying22 (hval 1 22 v1 rfl rfl)
  obtain ⟨a1, w1, e1⟩ := arg_one (g := fun a => .isl _ (rows _ a)) opensU8S rfl h1
  clear hA0 hval0
  refine ((lawJustified_ok a0 a1 w0 w1).2 W (fun k => k < W.heap.size) _ (fun _ h => h) (All2.cons e0 (All2.cons e1 All2.nil))).mono ?_
  rintro e W' ⟨v, r, gs', rfl, rfl, bel, hr⟩
  have hv : v = .bool true := by
    obtain ⟨-, -, hr⟩ := hr
    cases hr with
    | one hr => cases hr with
      | imm hr => cases hr; rfl
  subst hv
  exact ⟨_, rfl, _, _, _, [], _, [], hW', trodAll_mk1 (shut_bool Try.underlying4 _), (trodAll_cons_mk (Below.trod laidOutFnJustified (by kernel_rfl) (of_decide_eq_true (by kernel_rfl)) k0 bel lt0) (trodAll_cons_mk (Below.trod laidOutFnJustified (by kernel_rfl) (of_decide_eq_true (by kernel_rfl)) k1 bel lt1) trodAll_mk0)), rfl, bel.frame _, fun h => by cases h⟩

theorem and2FnJustified {a b : Bool} (ha : a = true) (hb : b = true) : (a && b) = true := by rw [ha, hb]; rfl
theorem z0FnJustified : (Rows.fnJustifiedRow.wf (OpenSpec.ofChange Rows.fnJustifiedSpec)) = true := by kernel_rfl
theorem z1FnJustified : (laidOutB Try.pinned.checked.prog) = true := by kernel_rfl
theorem z2FnJustified : (mapsRowed Try.pinned.checked.prog) = true := by kernel_rfl
theorem z3FnJustified : (Try.f7.params.all (Try.pinned.checked.prog.readableRec ·)) = true := by kernel_rfl
theorem z4FnJustified : (namedTie Try.pinned.checked.prog Rows.fnJustifiedRow.named Rows.fnJustifiedSpec.vars) = true := by kernel_rfl
theorem z5FnJustified : ((Rows.fnJustifiedRow.stops == [])) = true := by kernel_rfl
theorem z6FnJustified : ((Try.pinned.checked.prog.stops == [])) = true := by kernel_rfl
theorem z7FnJustified : ((Rows.fnJustifiedRow.knobs == [])) = true := by kernel_rfl
theorem z8FnJustified : ((Try.pinned.checked.prog.stopKnobs == [])) = true := by kernel_rfl
theorem z9FnJustified : ((Rows.fnJustifiedRow.inPlace == Try.pinned.checked.prog.inPlace 7)) = true := by kernel_rfl
theorem z10FnJustified : ((Rows.fnJustifiedRow.unfollowed == Try.pinned.checked.prog.unfollowed 7)) = true := by kernel_rfl
theorem z11FnJustified : ((Rows.fnJustifiedRow.recurses == Try.pinned.checked.prog.recurses 7)) = true := by kernel_rfl
theorem z12FnJustified : ((Rows.fnJustifiedRow.named == Try.pinned.checked.prog.varsNamed 7)) = true := by kernel_rfl
theorem z13FnJustified : ((Rows.fnJustifiedRow.maps == (Try.f7.params.toList ++ Rows.fnJustifiedSpec.plain.varTypes Try.pinned.checked.prog).any (Try.pinned.checked.prog.mapsRec ·))) = true := by kernel_rfl
theorem z14FnJustified : ((Rows.fnJustifiedRow.ifaces == (Try.f7.params.toList ++ Rows.fnJustifiedSpec.plain.varTypes Try.pinned.checked.prog).any (Try.pinned.checked.prog.ifacesRec ·))) = true := by kernel_rfl
theorem z15FnJustified : ((Rows.fnJustifiedRow.mapsOut == Try.pinned.checked.prog.mapsAmong Try.f7.resultTypes.toList)) = true := by kernel_rfl
theorem z16FnJustified : ((Rows.fnJustifiedRow.loops == (Try.f7.params.toList ++ Rows.fnJustifiedSpec.plain.varTypes Try.pinned.checked.prog).any (Try.pinned.checked.prog.loopsFrom ·))) = true := by kernel_rfl
theorem z17FnJustified : ((Rows.fnJustifiedRow.wideKeys == (Try.f7.params.toList ++ Rows.fnJustifiedSpec.plain.varTypes Try.pinned.checked.prog ++ Try.f7.resultTypes.toList).any (Try.pinned.checked.prog.wideKeysFrom ·))) = true := by kernel_rfl
theorem z18FnJustified : (Rows.fnJustifiedSpec.vars.all (Try.pinned.checked.prog.varReadable ·)) = true := by kernel_rfl
theorem z19FnJustified : (Try.f7.resultTypes.all (fun t => Try.pinned.checked.prog.readableRec t && decide (t < Try.pinned.checked.prog.types.size))) = true := by kernel_rfl
theorem z20FnJustified : ((Rows.fnJustifiedRow.ifacesOut == Try.f7.resultTypes.toList.any (Try.pinned.checked.prog.ifacesRec ·))) = true := by kernel_rfl
theorem z21FnJustified : ((Rows.fnJustifiedRow.loopsOut == Try.f7.resultTypes.toList.any (Try.pinned.checked.prog.loopsFrom ·))) = true := by kernel_rfl
theorem z22FnJustified : ((Rows.fnJustifiedRow.plainKeys == Try.pinned.checked.prog.plainKeys)) = true := by kernel_rfl
theorem z23FnJustified : (Rows.fnJustifiedRow.shortTexts.isNone) = true := by kernel_rfl
theorem z24FnJustified : (Try.pinned.checked.prog.stopsHeard) = true := by kernel_rfl
theorem z25FnJustified : (Try.pinned.checked.prog.mayEnter) = true := by kernel_rfl
theorem z26FnJustified : ((Rows.fnJustifiedRow.lifted == Try.pinned.checked.prog.liftsFinal)) = true := by kernel_rfl
theorem z27FnJustified : ((Try.pinned.checked.prog.make == some Rows.fnJustifiedRow.make)) = true := by kernel_rfl
theorem z28FnJustified : ((Rows.fnJustifiedRow.kinds == (if Rows.fnJustifiedRow.domain.isEmpty then [] else Try.f7.params.toList.map fun t => match Try.pinned.checked.prog.underlying t with | some (.int k) => some k | _ => none))) = true := by kernel_rfl
theorem z29FnJustified : ((Rows.fnJustifiedRow.pinned == Rows.fnJustifiedRow.pinnedBy)) = true := by kernel_rfl
theorem z30FnJustified : ((Rows.fnJustifiedRow.veiled == (Try.f7.params.toList ++ Rows.fnJustifiedSpec.plain.varTypes Try.pinned.checked.prog ++ Try.f7.resultTypes.toList).any (Try.pinned.checked.prog.veiledRec ·))) = true := by kernel_rfl
theorem z31FnJustified : (Rows.fnJustifiedRow.veiledFits Try.pinned.checked.prog Try.f7.params.toList (Try.f7.params.toList ++ Rows.fnJustifiedSpec.plain.varTypes Try.pinned.checked.prog ++ Try.f7.resultTypes.toList)) = true := by kernel_rfl
theorem closedFnJustified : joinedFacts Try.pinned.checked.prog 7 Try.f7 Rows.fnJustifiedSpec Rows.fnJustifiedRow = true := (and2FnJustified (and2FnJustified (and2FnJustified (and2FnJustified (and2FnJustified (and2FnJustified (and2FnJustified (and2FnJustified (and2FnJustified (and2FnJustified (and2FnJustified (and2FnJustified (and2FnJustified (and2FnJustified (and2FnJustified (and2FnJustified (and2FnJustified (and2FnJustified (and2FnJustified (and2FnJustified (and2FnJustified (and2FnJustified (and2FnJustified (and2FnJustified (and2FnJustified (and2FnJustified (and2FnJustified (and2FnJustified (and2FnJustified (and2FnJustified (and2FnJustified z0FnJustified z1FnJustified) z2FnJustified) z3FnJustified) z4FnJustified) z5FnJustified) z6FnJustified) z7FnJustified) z8FnJustified) z9FnJustified) z10FnJustified) z11FnJustified) z12FnJustified) z13FnJustified) z14FnJustified) z15FnJustified) z16FnJustified) z17FnJustified) z18FnJustified) z19FnJustified) z20FnJustified) z21FnJustified) z22FnJustified) z23FnJustified) z24FnJustified) z25FnJustified) z26FnJustified) z27FnJustified) z28FnJustified) z29FnJustified) z30FnJustified) z31FnJustified)
theorem namedFnJustified : Try.pinned.checked.prog.funcNamed Rows.fnJustifiedRow.func = some 7 := by kernel_rfl

theorem overFnJustified : Rows.fnJustifiedRow.holds Try.pinned (OpenSpec.ofChange Rows.fnJustifiedSpec) :=
  OpenClaim.holds_of_wide 7 Try.f7 rfl rfl rfl rfl rfl rfl rfl ⟨rfl, rfl, rfl, rfl, rfl⟩ rfl rfl rfl rfl rfl namedFnJustified Try.func7 closedFnJustified
    (of_decide_eq_true (by kernel_rfl)) (by unfold Func.isWrapper; first | (rw [if_pos (by decide +kernel)]; kernel_rfl) | (rw [if_neg (by decide +kernel)]; exact ⟨rfl, rfl⟩))
    (fun os started H enc _ => liftedFnJustified os started H enc)

theorem provedFnJustified : Rows.FnJustifiedSaid := overFnJustified
#print axioms provedFnJustified
end Go.Proofs.Ytnkikmdkkkhlcaa.Ai
