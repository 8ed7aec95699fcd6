/- Proved: for every input the law FnExactLearnInOrder returns true, and each argument reads afterwards as it read before. Conditions: none. -/
import Derived.Test.YtnamefdhmlbcpaaRows
import Derived.Test.YtnamefdhmlbcpaaAiOpen
import Derived.Test.YtnamefdhmlbcpaaOpensCraft
import Derived.Test.YtnamefdhmlbcpaaOpensSS
import Derived.Test.YtnamefdhmlbcpaaLawOrder
import Derived.ProofKit
import Derived.OpenShut
import Derived.ShutString
namespace Go.Proofs.Ytnamefdhmlbcpaa.Ai
open Go Go.Proofs Go.ChangeShapes Go.WideShapes Go.ChangeAt Go.RowKit
set_option linter.unusedVariables false
set_option maxRecDepth 100000

theorem ownFnExactLearnInOrder : ownKnob Try.prog.godebug = none := by kernel_rfl
theorem laidOutFnExactLearnInOrder : laidOutB Try.prog = true := by kernel_rfl

set_option maxRecDepth 100000 in
theorem liftedFnExactLearnInOrder (os : Os) (started : os.Started) (H : Type) (enc : TypeId × Value → H) :
    ReturnsInHanded {} Try.checked os 6 .any (Rows.fnExactLearnInOrderSpec.pre6 enc Try.prog Try.f6 Rows.fnExactLearnInOrderRow.domain false) (Rows.fnExactLearnInOrderSpec.post enc Try.prog Try.f6 false true false false) := by
  refine returnsInHanded_of_change (C := Try.checked) ownFnExactLearnInOrder started (by kernel_rfl) Try.func6
    (ChangeSpec.witness6 (enc := enc) (C := Try.checked) false ⟨#[], #[.slice none 0 0, .slice none 0 0, .slice none 0 0], []⟩ 8 (by kernel_rfl) (by kernel_rfl) (by kernel_rfl) (by kernel_rfl)) ?_
  intro W base args ds gs before hval0 hW hcnd _
  have hval : ∀ (j : Nat) t v, Try.f6.params[j]? = some t → args[j]? = some v → Value.okWide Try.prog W .any base t v := hval0
  have hW' := hW
  obtain ⟨p, q, hA0, hV, rfl, hfz, hnd⟩ := hW
  have hA : DataW.TrodAll enc Try.prog W 0 (fun _ => true) true Try.f6.params.toList args.toList ds p := hA0
  rw [Try.params6] at hA hval
  obtain ⟨v0, vs0, d0, ds0, p0, q0, hargs, rfl, rfl, h0, r0⟩ := trodAll_cons hA
  obtain ⟨v1, vs1, d1, ds1, p1, q1, rfl, rfl, rfl, h1, r1⟩ := trodAll_cons r0
  obtain ⟨v2, vs2, d2, ds2, p2, q2, rfl, rfl, rfl, h2, r2⟩ := trodAll_cons r1
  obtain ⟨rfl, rfl, rfl⟩ := trodAll_nil r2
  obtain rfl : args = #[v0, v1, v2] := by cases args; simp_all
  obtain ⟨rfl, rfl⟩ := trodVars_none hV
  have k0 := h0
  have lt0 : ∀ x ∈ p0, x.block < W.heap.size := by obtain ⟨m, hm⟩ := k0; exact DataW.trod_lt m _ _ _ hm
  obtain ⟨b0, l0, c0, rfl⟩ := okWide_slice Try.underlying22 (hval 0 22 v0 rfl rfl)
  obtain ⟨a0, w0, e0⟩ := arg_one (g := fun a => .isl _ (rows _ a)) opensCraftS rfl h0
  have k1 := h1
  have lt1 : ∀ x ∈ p1, x.block < W.heap.size := by obtain ⟨m, hm⟩ := k1; exact DataW.trod_lt m _ _ _ hm
  obtain ⟨b1, l1, c1, rfl⟩ := okWide_slice Try.underlying24 (hval 1 24 v1 rfl rfl)
  obtain ⟨a1, w1, e1⟩ := arg_one (g := fun a => .isl _ (rows _ a)) opensIntS rfl h1
  have k2 := h2
  have lt2 : ∀ x ∈ p2, x.block < W.heap.size := by obtain ⟨m, hm⟩ := k2; exact DataW.trod_lt m _ _ _ hm
  obtain ⟨b2, l2, c2, rfl⟩ := okWide_slice Try.underlying24 (hval 2 24 v2 rfl rfl)
  obtain ⟨a2, w2, e2⟩ := arg_one (g := fun a => .isl _ (rows _ a)) opensIntS rfl h2
  clear hA0 hval0
  refine ((lawLearnInOrder_ok a0 a1 a2).2 W (fun k => k < W.heap.size) _ (fun _ h => h) (All2.cons e0 (All2.cons e1 (All2.cons e2 All2.nil)))).mono ?_
  rintro e W' ⟨v, r, gs', rfl, rfl, bel, hr⟩
  have hv : v = .bool true := by
    obtain ⟨-, -, hr⟩ := hr
    cases hr with
    | one hr => cases hr with
      | imm hr => cases hr; rfl
  subst hv
  exact ⟨_, rfl, _, _, _, [], _, [], hW', trodAll_mk1 (shut_bool Try.underlying4 _), (trodAll_cons_mk (Below.trod laidOutFnExactLearnInOrder (by kernel_rfl) (of_decide_eq_true (by kernel_rfl)) k0 bel lt0) (trodAll_cons_mk (Below.trod laidOutFnExactLearnInOrder (by kernel_rfl) (of_decide_eq_true (by kernel_rfl)) k1 bel lt1) (trodAll_cons_mk (Below.trod laidOutFnExactLearnInOrder (by kernel_rfl) (of_decide_eq_true (by kernel_rfl)) k2 bel lt2) trodAll_mk0))), rfl, bel.frame _, fun h => by cases h⟩

theorem and2FnExactLearnInOrder {a b : Bool} (ha : a = true) (hb : b = true) : (a && b) = true := by rw [ha, hb]; rfl
theorem z0FnExactLearnInOrder : (Rows.fnExactLearnInOrderRow.wf (OpenSpec.ofChange Rows.fnExactLearnInOrderSpec)) = true := by kernel_rfl
theorem z1FnExactLearnInOrder : (laidOutB Try.pinned.checked.prog) = true := by kernel_rfl
theorem z2FnExactLearnInOrder : (mapsRowed Try.pinned.checked.prog) = true := by kernel_rfl
theorem z3FnExactLearnInOrder : (Try.f6.params.all (Try.pinned.checked.prog.readableRec ·)) = true := by kernel_rfl
theorem z4FnExactLearnInOrder : (namedTie Try.pinned.checked.prog Rows.fnExactLearnInOrderRow.named Rows.fnExactLearnInOrderSpec.vars) = true := by kernel_rfl
theorem z5FnExactLearnInOrder : ((Rows.fnExactLearnInOrderRow.stops == [])) = true := by kernel_rfl
theorem z6FnExactLearnInOrder : ((Try.pinned.checked.prog.stops == [])) = true := by kernel_rfl
theorem z7FnExactLearnInOrder : ((Rows.fnExactLearnInOrderRow.knobs == [])) = true := by kernel_rfl
theorem z8FnExactLearnInOrder : ((Try.pinned.checked.prog.stopKnobs == [])) = true := by kernel_rfl
theorem z9FnExactLearnInOrder : ((Rows.fnExactLearnInOrderRow.inPlace == Try.pinned.checked.prog.inPlace 6)) = true := by kernel_rfl
theorem z10FnExactLearnInOrder : ((Rows.fnExactLearnInOrderRow.unfollowed == Try.pinned.checked.prog.unfollowed 6)) = true := by kernel_rfl
theorem z11FnExactLearnInOrder : ((Rows.fnExactLearnInOrderRow.recurses == Try.pinned.checked.prog.recurses 6)) = true := by kernel_rfl
theorem z12FnExactLearnInOrder : ((Rows.fnExactLearnInOrderRow.named == Try.pinned.checked.prog.varsNamed 6)) = true := by kernel_rfl
theorem z13FnExactLearnInOrder : ((Rows.fnExactLearnInOrderRow.maps == (Try.f6.params.toList ++ Rows.fnExactLearnInOrderSpec.plain.varTypes Try.pinned.checked.prog).any (Try.pinned.checked.prog.mapsRec ·))) = true := by kernel_rfl
theorem z14FnExactLearnInOrder : ((Rows.fnExactLearnInOrderRow.ifaces == (Try.f6.params.toList ++ Rows.fnExactLearnInOrderSpec.plain.varTypes Try.pinned.checked.prog).any (Try.pinned.checked.prog.ifacesRec ·))) = true := by kernel_rfl
theorem z15FnExactLearnInOrder : ((Rows.fnExactLearnInOrderRow.mapsOut == Try.pinned.checked.prog.mapsAmong Try.f6.resultTypes.toList)) = true := by kernel_rfl
theorem z16FnExactLearnInOrder : ((Rows.fnExactLearnInOrderRow.loops == (Try.f6.params.toList ++ Rows.fnExactLearnInOrderSpec.plain.varTypes Try.pinned.checked.prog).any (Try.pinned.checked.prog.loopsFrom ·))) = true := by kernel_rfl
theorem z17FnExactLearnInOrder : ((Rows.fnExactLearnInOrderRow.wideKeys == (Try.f6.params.toList ++ Rows.fnExactLearnInOrderSpec.plain.varTypes Try.pinned.checked.prog ++ Try.f6.resultTypes.toList).any (Try.pinned.checked.prog.wideKeysFrom ·))) = true := by kernel_rfl
theorem z18FnExactLearnInOrder : (Rows.fnExactLearnInOrderSpec.vars.all (Try.pinned.checked.prog.varReadable ·)) = true := by kernel_rfl
theorem z19FnExactLearnInOrder : (Try.f6.resultTypes.all (fun t => Try.pinned.checked.prog.readableRec t && decide (t < Try.pinned.checked.prog.types.size))) = true := by kernel_rfl
theorem z20FnExactLearnInOrder : ((Rows.fnExactLearnInOrderRow.ifacesOut == Try.f6.resultTypes.toList.any (Try.pinned.checked.prog.ifacesRec ·))) = true := by kernel_rfl
theorem z21FnExactLearnInOrder : ((Rows.fnExactLearnInOrderRow.loopsOut == Try.f6.resultTypes.toList.any (Try.pinned.checked.prog.loopsFrom ·))) = true := by kernel_rfl
theorem z22FnExactLearnInOrder : ((Rows.fnExactLearnInOrderRow.plainKeys == Try.pinned.checked.prog.plainKeys)) = true := by kernel_rfl
theorem z23FnExactLearnInOrder : (Rows.fnExactLearnInOrderRow.shortTexts.isNone) = true := by kernel_rfl
theorem z24FnExactLearnInOrder : (Try.pinned.checked.prog.stopsHeard) = true := by kernel_rfl
theorem z25FnExactLearnInOrder : (Try.pinned.checked.prog.mayEnter) = true := by kernel_rfl
theorem z26FnExactLearnInOrder : ((Rows.fnExactLearnInOrderRow.lifted == Try.pinned.checked.prog.liftsFinal)) = true := by kernel_rfl
theorem z27FnExactLearnInOrder : ((Try.pinned.checked.prog.make == some Rows.fnExactLearnInOrderRow.make)) = true := by kernel_rfl
theorem z28FnExactLearnInOrder : ((Rows.fnExactLearnInOrderRow.kinds == (if Rows.fnExactLearnInOrderRow.domain.isEmpty then [] else Try.f6.params.toList.map fun t => match Try.pinned.checked.prog.underlying t with | some (.int k) => some k | _ => none))) = true := by kernel_rfl
theorem z29FnExactLearnInOrder : ((Rows.fnExactLearnInOrderRow.pinned == Rows.fnExactLearnInOrderRow.pinnedBy)) = true := by kernel_rfl
theorem z30FnExactLearnInOrder : ((Rows.fnExactLearnInOrderRow.veiled == (Try.f6.params.toList ++ Rows.fnExactLearnInOrderSpec.plain.varTypes Try.pinned.checked.prog ++ Try.f6.resultTypes.toList).any (Try.pinned.checked.prog.veiledRec ·))) = true := by kernel_rfl
theorem z31FnExactLearnInOrder : (Rows.fnExactLearnInOrderRow.veiledFits Try.pinned.checked.prog Try.f6.params.toList (Try.f6.params.toList ++ Rows.fnExactLearnInOrderSpec.plain.varTypes Try.pinned.checked.prog ++ Try.f6.resultTypes.toList)) = true := by kernel_rfl
theorem closedFnExactLearnInOrder : joinedFacts Try.pinned.checked.prog 6 Try.f6 Rows.fnExactLearnInOrderSpec Rows.fnExactLearnInOrderRow = true := (and2FnExactLearnInOrder (and2FnExactLearnInOrder (and2FnExactLearnInOrder (and2FnExactLearnInOrder (and2FnExactLearnInOrder (and2FnExactLearnInOrder (and2FnExactLearnInOrder (and2FnExactLearnInOrder (and2FnExactLearnInOrder (and2FnExactLearnInOrder (and2FnExactLearnInOrder (and2FnExactLearnInOrder (and2FnExactLearnInOrder (and2FnExactLearnInOrder (and2FnExactLearnInOrder (and2FnExactLearnInOrder (and2FnExactLearnInOrder (and2FnExactLearnInOrder (and2FnExactLearnInOrder (and2FnExactLearnInOrder (and2FnExactLearnInOrder (and2FnExactLearnInOrder (and2FnExactLearnInOrder (and2FnExactLearnInOrder (and2FnExactLearnInOrder (and2FnExactLearnInOrder (and2FnExactLearnInOrder (and2FnExactLearnInOrder (and2FnExactLearnInOrder (and2FnExactLearnInOrder (and2FnExactLearnInOrder z0FnExactLearnInOrder z1FnExactLearnInOrder) z2FnExactLearnInOrder) z3FnExactLearnInOrder) z4FnExactLearnInOrder) z5FnExactLearnInOrder) z6FnExactLearnInOrder) z7FnExactLearnInOrder) z8FnExactLearnInOrder) z9FnExactLearnInOrder) z10FnExactLearnInOrder) z11FnExactLearnInOrder) z12FnExactLearnInOrder) z13FnExactLearnInOrder) z14FnExactLearnInOrder) z15FnExactLearnInOrder) z16FnExactLearnInOrder) z17FnExactLearnInOrder) z18FnExactLearnInOrder) z19FnExactLearnInOrder) z20FnExactLearnInOrder) z21FnExactLearnInOrder) z22FnExactLearnInOrder) z23FnExactLearnInOrder) z24FnExactLearnInOrder) z25FnExactLearnInOrder) z26FnExactLearnInOrder) z27FnExactLearnInOrder) z28FnExactLearnInOrder) z29FnExactLearnInOrder) z30FnExactLearnInOrder) z31FnExactLearnInOrder)
theorem namedFnExactLearnInOrder : Try.pinned.checked.prog.funcNamed Rows.fnExactLearnInOrderRow.func = some 6 := by kernel_rfl

theorem overFnExactLearnInOrder : Rows.fnExactLearnInOrderRow.holds Try.pinned (OpenSpec.ofChange Rows.fnExactLearnInOrderSpec) :=
  OpenClaim.holds_of_wide 6 Try.f6 rfl rfl rfl rfl rfl rfl rfl ⟨rfl, rfl, rfl, rfl, rfl⟩ rfl rfl rfl rfl rfl namedFnExactLearnInOrder Try.func6 closedFnExactLearnInOrder
    (of_decide_eq_true (by kernel_rfl)) (by unfold Func.isWrapper; first | (rw [if_pos (by decide +kernel)]; kernel_rfl) | (rw [if_neg (by decide +kernel)]; exact ⟨rfl, rfl⟩))
    (fun os started H enc _ => liftedFnExactLearnInOrder os started H enc)

theorem provedFnExactLearnInOrder : Rows.FnExactLearnInOrderSaid := overFnExactLearnInOrder
#print axioms provedFnExactLearnInOrder
end Go.Proofs.Ytnamefdhmlbcpaa.Ai
