/- Proved: for every input the law FnExactMonthsTo returns true, and each argument reads afterwards as it read before. Conditions: none. -/
import Derived.Test.YtnamefdhmlbcpaaRows
import Derived.Test.YtnamefdhmlbcpaaAiOpen
import Derived.Test.YtnamefdhmlbcpaaOpensCraft
import Derived.Test.YtnamefdhmlbcpaaOpensSS
import Derived.Test.YtnamefdhmlbcpaaLawMonths
import Derived.ProofKit
import Derived.OpenShut
import Derived.ShutString
namespace Go.Proofs.Ytnamefdhmlbcpaa.Ai
open Go Go.Proofs Go.ChangeShapes Go.WideShapes Go.ChangeAt Go.RowKit
set_option linter.unusedVariables false
set_option maxRecDepth 100000

theorem ownFnExactMonthsTo : ownKnob Try.prog.godebug = none := by kernel_rfl
theorem laidOutFnExactMonthsTo : laidOutB Try.prog = true := by kernel_rfl

set_option maxRecDepth 100000 in
theorem liftedFnExactMonthsTo (os : Os) (started : os.Started) (H : Type) (enc : TypeId × Value → H) :
    ReturnsInHanded {} Try.checked os 4 .any (Rows.fnExactMonthsToSpec.pre6 enc Try.prog Try.f4 Rows.fnExactMonthsToRow.domain false) (Rows.fnExactMonthsToSpec.post enc Try.prog Try.f4 false true false false) := by
  refine returnsInHanded_of_change (C := Try.checked) ownFnExactMonthsTo started (by kernel_rfl) Try.func4
    (ChangeSpec.witness6 (enc := enc) (C := Try.checked) false ⟨#[], #[.slice none 0 0, .slice none 0 0, .int .i64 0], []⟩ 8 (by kernel_rfl) (by kernel_rfl) (by kernel_rfl) (by kernel_rfl)) ?_
  intro W base args ds gs before hval0 hW hcnd _
  have hval : ∀ (j : Nat) t v, Try.f4.params[j]? = some t → args[j]? = some v → Value.okWide Try.prog W .any base t v := hval0
  have hW' := hW
  obtain ⟨p, q, hA0, hV, rfl, hfz, hnd⟩ := hW
  have hA : DataW.TrodAll enc Try.prog W 0 (fun _ => true) true Try.f4.params.toList args.toList ds p := hA0
  rw [Try.params4] at hA hval
  obtain ⟨v0, vs0, d0, ds0, p0, q0, hargs, rfl, rfl, h0, r0⟩ := trodAll_cons hA
  obtain ⟨v1, vs1, d1, ds1, p1, q1, rfl, rfl, rfl, h1, r1⟩ := trodAll_cons r0
  obtain ⟨v2, vs2, d2, ds2, p2, q2, rfl, rfl, rfl, h2, r2⟩ := trodAll_cons r1
  obtain ⟨rfl, rfl, rfl⟩ := trodAll_nil r2
  obtain rfl : args = #[v0, v1, v2] := by cases args; simp_all
  obtain ⟨rfl, rfl⟩ := trodVars_none hV
  have k0 := h0
  have lt0 : ∀ x ∈ p0, x.block < W.heap.size := by obtain ⟨m, hm⟩ := k0; exact DataW.trod_lt m _ _ _ hm
  obtain ⟨b0, l0, c0, rfl⟩ := okWide_slice Try.underlying22 (hval 0 22 v0 rfl rfl)
  obtain ⟨a0, w0, e0⟩ := arg_one (g := fun a => .isl _ (rows _ a)) opensCraftS rfl h0
  have k1 := h1
  have lt1 : ∀ x ∈ p1, x.block < W.heap.size := by obtain ⟨m, hm⟩ := k1; exact DataW.trod_lt m _ _ _ hm
  obtain ⟨b1, l1, c1, rfl⟩ := okWide_slice Try.underlying24 (hval 1 24 v1 rfl rfl)
  obtain ⟨a1, w1, e1⟩ := arg_one (g := fun a => .isl _ (rows _ a)) opensIntS rfl h1
  have k2 := h2
  have lt2 : ∀ x ∈ p2, x.block < W.heap.size := by obtain ⟨m, hm⟩ := k2; exact DataW.trod_lt m _ _ _ hm
  obtain ⟨b2, rfl⟩ := okWide_int Try.underlying3 (hval 2 3 v2 rfl rfl)
  obtain ⟨a2, w2, e2⟩ := arg_one (g := fun a => .int .i64 a) opensInt rfl h2
  clear hA0 hval0
  refine ((lawMonthsTo_ok a0 a1 a2).2 W (fun k => k < W.heap.size) _ (fun _ h => h) (All2.cons e0 (All2.cons e1 (All2.cons e2 All2.nil)))).mono ?_
  rintro e W' ⟨v, r, gs', rfl, rfl, bel, hr⟩
  have hv : v = .bool true := by
    obtain ⟨-, -, hr⟩ := hr
    cases hr with
    | one hr => cases hr with
      | imm hr => cases hr; rfl
  subst hv
  exact ⟨_, rfl, _, _, _, [], _, [], hW', trodAll_mk1 (shut_bool Try.underlying4 _), (trodAll_cons_mk (Below.trod laidOutFnExactMonthsTo (by kernel_rfl) (of_decide_eq_true (by kernel_rfl)) k0 bel lt0) (trodAll_cons_mk (Below.trod laidOutFnExactMonthsTo (by kernel_rfl) (of_decide_eq_true (by kernel_rfl)) k1 bel lt1) (trodAll_cons_mk (Below.trod laidOutFnExactMonthsTo (by kernel_rfl) (of_decide_eq_true (by kernel_rfl)) k2 bel lt2) trodAll_mk0))), rfl, bel.frame _, fun h => by cases h⟩

theorem and2FnExactMonthsTo {a b : Bool} (ha : a = true) (hb : b = true) : (a && b) = true := by rw [ha, hb]; rfl
theorem z0FnExactMonthsTo : (Rows.fnExactMonthsToRow.wf (OpenSpec.ofChange Rows.fnExactMonthsToSpec)) = true := by kernel_rfl
theorem z1FnExactMonthsTo : (laidOutB Try.pinned.checked.prog) = true := by kernel_rfl
theorem z2FnExactMonthsTo : (mapsRowed Try.pinned.checked.prog) = true := by kernel_rfl
theorem z3FnExactMonthsTo : (Try.f4.params.all (Try.pinned.checked.prog.readableRec ·)) = true := by kernel_rfl
theorem z4FnExactMonthsTo : (namedTie Try.pinned.checked.prog Rows.fnExactMonthsToRow.named Rows.fnExactMonthsToSpec.vars) = true := by kernel_rfl
theorem z5FnExactMonthsTo : ((Rows.fnExactMonthsToRow.stops == [])) = true := by kernel_rfl
theorem z6FnExactMonthsTo : ((Try.pinned.checked.prog.stops == [])) = true := by kernel_rfl
theorem z7FnExactMonthsTo : ((Rows.fnExactMonthsToRow.knobs == [])) = true := by kernel_rfl
theorem z8FnExactMonthsTo : ((Try.pinned.checked.prog.stopKnobs == [])) = true := by kernel_rfl
theorem z9FnExactMonthsTo : ((Rows.fnExactMonthsToRow.inPlace == Try.pinned.checked.prog.inPlace 4)) = true := by kernel_rfl
theorem z10FnExactMonthsTo : ((Rows.fnExactMonthsToRow.unfollowed == Try.pinned.checked.prog.unfollowed 4)) = true := by kernel_rfl
theorem z11FnExactMonthsTo : ((Rows.fnExactMonthsToRow.recurses == Try.pinned.checked.prog.recurses 4)) = true := by kernel_rfl
theorem z12FnExactMonthsTo : ((Rows.fnExactMonthsToRow.named == Try.pinned.checked.prog.varsNamed 4)) = true := by kernel_rfl
theorem z13FnExactMonthsTo : ((Rows.fnExactMonthsToRow.maps == (Try.f4.params.toList ++ Rows.fnExactMonthsToSpec.plain.varTypes Try.pinned.checked.prog).any (Try.pinned.checked.prog.mapsRec ·))) = true := by kernel_rfl
theorem z14FnExactMonthsTo : ((Rows.fnExactMonthsToRow.ifaces == (Try.f4.params.toList ++ Rows.fnExactMonthsToSpec.plain.varTypes Try.pinned.checked.prog).any (Try.pinned.checked.prog.ifacesRec ·))) = true := by kernel_rfl
theorem z15FnExactMonthsTo : ((Rows.fnExactMonthsToRow.mapsOut == Try.pinned.checked.prog.mapsAmong Try.f4.resultTypes.toList)) = true := by kernel_rfl
theorem z16FnExactMonthsTo : ((Rows.fnExactMonthsToRow.loops == (Try.f4.params.toList ++ Rows.fnExactMonthsToSpec.plain.varTypes Try.pinned.checked.prog).any (Try.pinned.checked.prog.loopsFrom ·))) = true := by kernel_rfl
theorem z17FnExactMonthsTo : ((Rows.fnExactMonthsToRow.wideKeys == (Try.f4.params.toList ++ Rows.fnExactMonthsToSpec.plain.varTypes Try.pinned.checked.prog ++ Try.f4.resultTypes.toList).any (Try.pinned.checked.prog.wideKeysFrom ·))) = true := by kernel_rfl
theorem z18FnExactMonthsTo : (Rows.fnExactMonthsToSpec.vars.all (Try.pinned.checked.prog.varReadable ·)) = true := by kernel_rfl
theorem z19FnExactMonthsTo : (Try.f4.resultTypes.all (fun t => Try.pinned.checked.prog.readableRec t && decide (t < Try.pinned.checked.prog.types.size))) = true := by kernel_rfl
theorem z20FnExactMonthsTo : ((Rows.fnExactMonthsToRow.ifacesOut == Try.f4.resultTypes.toList.any (Try.pinned.checked.prog.ifacesRec ·))) = true := by kernel_rfl
theorem z21FnExactMonthsTo : ((Rows.fnExactMonthsToRow.loopsOut == Try.f4.resultTypes.toList.any (Try.pinned.checked.prog.loopsFrom ·))) = true := by kernel_rfl
theorem z22FnExactMonthsTo : ((Rows.fnExactMonthsToRow.plainKeys == Try.pinned.checked.prog.plainKeys)) = true := by kernel_rfl
theorem z23FnExactMonthsTo : (Rows.fnExactMonthsToRow.shortTexts.isNone) = true := by kernel_rfl
theorem z24FnExactMonthsTo : (Try.pinned.checked.prog.stopsHeard) = true := by kernel_rfl
theorem z25FnExactMonthsTo : (Try.pinned.checked.prog.mayEnter) = true := by kernel_rfl
theorem z26FnExactMonthsTo : ((Rows.fnExactMonthsToRow.lifted == Try.pinned.checked.prog.liftsFinal)) = true := by kernel_rfl
theorem z27FnExactMonthsTo : ((Try.pinned.checked.prog.make == some Rows.fnExactMonthsToRow.make)) = true := by kernel_rfl
theorem z28FnExactMonthsTo : ((Rows.fnExactMonthsToRow.kinds == (if Rows.fnExactMonthsToRow.domain.isEmpty then [] else Try.f4.params.toList.map fun t => match Try.pinned.checked.prog.underlying t with | some (.int k) => some k | _ => none))) = true := by kernel_rfl
theorem z29FnExactMonthsTo : ((Rows.fnExactMonthsToRow.pinned == Rows.fnExactMonthsToRow.pinnedBy)) = true := by kernel_rfl
theorem z30FnExactMonthsTo : ((Rows.fnExactMonthsToRow.veiled == (Try.f4.params.toList ++ Rows.fnExactMonthsToSpec.plain.varTypes Try.pinned.checked.prog ++ Try.f4.resultTypes.toList).any (Try.pinned.checked.prog.veiledRec ·))) = true := by kernel_rfl
theorem z31FnExactMonthsTo : (Rows.fnExactMonthsToRow.veiledFits Try.pinned.checked.prog Try.f4.params.toList (Try.f4.params.toList ++ Rows.fnExactMonthsToSpec.plain.varTypes Try.pinned.checked.prog ++ Try.f4.resultTypes.toList)) = true := by kernel_rfl
theorem closedFnExactMonthsTo : joinedFacts Try.pinned.checked.prog 4 Try.f4 Rows.fnExactMonthsToSpec Rows.fnExactMonthsToRow = true := (and2FnExactMonthsTo (and2FnExactMonthsTo (and2FnExactMonthsTo (and2FnExactMonthsTo (and2FnExactMonthsTo (and2FnExactMonthsTo (and2FnExactMonthsTo (and2FnExactMonthsTo (and2FnExactMonthsTo (and2FnExactMonthsTo (and2FnExactMonthsTo (and2FnExactMonthsTo (and2FnExactMonthsTo (and2FnExactMonthsTo (and2FnExactMonthsTo (and2FnExactMonthsTo (and2FnExactMonthsTo (and2FnExactMonthsTo (and2FnExactMonthsTo (and2FnExactMonthsTo (and2FnExactMonthsTo (and2FnExactMonthsTo (and2FnExactMonthsTo (and2FnExactMonthsTo (and2FnExactMonthsTo (and2FnExactMonthsTo (and2FnExactMonthsTo (and2FnExactMonthsTo (and2FnExactMonthsTo (and2FnExactMonthsTo (and2FnExactMonthsTo z0FnExactMonthsTo z1FnExactMonthsTo) z2FnExactMonthsTo) z3FnExactMonthsTo) z4FnExactMonthsTo) z5FnExactMonthsTo) z6FnExactMonthsTo) z7FnExactMonthsTo) z8FnExactMonthsTo) z9FnExactMonthsTo) z10FnExactMonthsTo) z11FnExactMonthsTo) z12FnExactMonthsTo) z13FnExactMonthsTo) z14FnExactMonthsTo) z15FnExactMonthsTo) z16FnExactMonthsTo) z17FnExactMonthsTo) z18FnExactMonthsTo) z19FnExactMonthsTo) z20FnExactMonthsTo) z21FnExactMonthsTo) z22FnExactMonthsTo) z23FnExactMonthsTo) z24FnExactMonthsTo) z25FnExactMonthsTo) z26FnExactMonthsTo) z27FnExactMonthsTo) z28FnExactMonthsTo) z29FnExactMonthsTo) z30FnExactMonthsTo) z31FnExactMonthsTo)
theorem namedFnExactMonthsTo : Try.pinned.checked.prog.funcNamed Rows.fnExactMonthsToRow.func = some 4 := by kernel_rfl

theorem overFnExactMonthsTo : Rows.fnExactMonthsToRow.holds Try.pinned (OpenSpec.ofChange Rows.fnExactMonthsToSpec) :=
  OpenClaim.holds_of_wide 4 Try.f4 rfl rfl rfl rfl rfl rfl rfl ⟨rfl, rfl, rfl, rfl, rfl⟩ rfl rfl rfl rfl rfl namedFnExactMonthsTo Try.func4 closedFnExactMonthsTo
    (of_decide_eq_true (by kernel_rfl)) (by unfold Func.isWrapper; first | (rw [if_pos (by decide +kernel)]; kernel_rfl) | (rw [if_neg (by decide +kernel)]; exact ⟨rfl, rfl⟩))
    (fun os started H enc _ => liftedFnExactMonthsTo os started H enc)

theorem provedFnExactMonthsTo : Rows.FnExactMonthsToSaid := overFnExactMonthsTo
#print axioms provedFnExactMonthsTo
end Go.Proofs.Ytnamefdhmlbcpaa.Ai
