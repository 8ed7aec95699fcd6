/- Proved: for every input the law FnExactWhoMay returns true, and each argument reads afterwards as it read before. Conditions: none. -/
import Derived.Test.YtcjghcagliamfaaRows
import Derived.Test.YtcjghcagliamfaaAiOpen
import Derived.Test.YtcjghcagliamfaaOpensCraft
import Derived.Test.YtcjghcagliamfaaOpensSS
import Derived.Test.YtcjghcagliamfaaLawWho
import Derived.ProofKit
import Derived.OpenShut
import Derived.ShutString
namespace Go.Proofs.Ytcjghcagliamfaa.Ai
open Go Go.Proofs Go.ChangeShapes Go.WideShapes Go.ChangeAt Go.RowKit
set_option linter.unusedVariables false
set_option maxRecDepth 100000

theorem ownFnExactWhoMay : ownKnob Try.prog.godebug = none := by kernel_rfl
theorem laidOutFnExactWhoMay : laidOutB Try.prog = true := by kernel_rfl

set_option maxRecDepth 100000 in
theorem liftedFnExactWhoMay (os : Os) (started : os.Started) (H : Type) (enc : TypeId × Value → H) :
    ReturnsInHanded {} Try.checked os 5 .any (Rows.fnExactWhoMaySpec.pre6 enc Try.prog Try.f5 Rows.fnExactWhoMayRow.domain false) (Rows.fnExactWhoMaySpec.post enc Try.prog Try.f5 false true false false) := by
  refine returnsInHanded_of_change (C := Try.checked) ownFnExactWhoMay started (by kernel_rfl) Try.func5
    (ChangeSpec.witness6 (enc := enc) (C := Try.checked) false ⟨#[], #[.slice none 0 0, .slice none 0 0, .int .i64 0], []⟩ 8 (by kernel_rfl) (by kernel_rfl) (by kernel_rfl) (by kernel_rfl)) ?_
  intro W base args ds gs before hval0 hW hcnd _
  have hval : ∀ (j : Nat) t v, Try.f5.params[j]? = some t → args[j]? = some v → Value.okWide Try.prog W .any base t v := hval0
  have hW' := hW
  obtain ⟨p, q, hA0, hV, rfl, hfz, hnd⟩ := hW
  have hA : DataW.TrodAll enc Try.prog W 0 (fun _ => true) true Try.f5.params.toList args.toList ds p := hA0
  rw [Try.params5] at hA hval
  obtain ⟨v0, vs0, d0, ds0, p0, q0, hargs, rfl, rfl, h0, r0⟩ := trodAll_cons hA
  obtain ⟨v1, vs1, d1, ds1, p1, q1, rfl, rfl, rfl, h1, r1⟩ := trodAll_cons r0
  obtain ⟨v2, vs2, d2, ds2, p2, q2, rfl, rfl, rfl, h2, r2⟩ := trodAll_cons r1
  obtain ⟨rfl, rfl, rfl⟩ := trodAll_nil r2
  obtain rfl : args = #[v0, v1, v2] := by cases args; simp_all
  obtain ⟨rfl, rfl⟩ := trodVars_none hV
  have k0 := h0
  have lt0 : ∀ x ∈ p0, x.block < W.heap.size := by obtain ⟨m, hm⟩ := k0; exact DataW.trod_lt m _ _ _ hm
  obtain ⟨b0, l0, c0, rfl⟩ := okWide_slice Try.underlying22 (hval 0 22 v0 rfl rfl)
  obtain ⟨a0, w0, e0⟩ := arg_one (g := fun a => .isl _ (rows _ a)) opensCraftS rfl h0
  have k1 := h1
  have lt1 : ∀ x ∈ p1, x.block < W.heap.size := by obtain ⟨m, hm⟩ := k1; exact DataW.trod_lt m _ _ _ hm
  obtain ⟨b1, l1, c1, rfl⟩ := okWide_slice Try.underlying37 (hval 1 37 v1 rfl rfl)
  obtain ⟨a1, w1, e1⟩ := arg_one (g := fun a => .isl _ (rows _ a)) opensIntSS rfl h1
  have k2 := h2
  have lt2 : ∀ x ∈ p2, x.block < W.heap.size := by obtain ⟨m, hm⟩ := k2; exact DataW.trod_lt m _ _ _ hm
  obtain ⟨b2, rfl⟩ := okWide_int Try.underlying3 (hval 2 3 v2 rfl rfl)
  obtain ⟨a2, w2, e2⟩ := arg_one (g := fun a => .int .i64 a) opensInt rfl h2
  clear hA0 hval0
  refine ((lawWhoMay_ok a0 a1 a2).2 W (fun k => k < W.heap.size) _ (fun _ h => h) (All2.cons e0 (All2.cons e1 (All2.cons e2 All2.nil)))).mono ?_
  rintro e W' ⟨v, r, gs', rfl, rfl, bel, hr⟩
  have hv : v = .bool true := by
    obtain ⟨-, -, hr⟩ := hr
    cases hr with
    | one hr => cases hr with
      | imm hr => cases hr; rfl
  subst hv
  exact ⟨_, rfl, _, _, _, [], _, [], hW', trodAll_mk1 (shut_bool Try.underlying4 _), (trodAll_cons_mk (Below.trod laidOutFnExactWhoMay (by kernel_rfl) (of_decide_eq_true (by kernel_rfl)) k0 bel lt0) (trodAll_cons_mk (Below.trod laidOutFnExactWhoMay (by kernel_rfl) (of_decide_eq_true (by kernel_rfl)) k1 bel lt1) (trodAll_cons_mk (Below.trod laidOutFnExactWhoMay (by kernel_rfl) (of_decide_eq_true (by kernel_rfl)) k2 bel lt2) trodAll_mk0))), rfl, bel.frame _, fun h => by cases h⟩

theorem and2FnExactWhoMay {a b : Bool} (ha : a = true) (hb : b = true) : (a && b) = true := by rw [ha, hb]; rfl
theorem z0FnExactWhoMay : (Rows.fnExactWhoMayRow.wf (OpenSpec.ofChange Rows.fnExactWhoMaySpec)) = true := by kernel_rfl
theorem z1FnExactWhoMay : (laidOutB Try.pinned.checked.prog) = true := by kernel_rfl
theorem z2FnExactWhoMay : (mapsRowed Try.pinned.checked.prog) = true := by kernel_rfl
theorem z3FnExactWhoMay : (Try.f5.params.all (Try.pinned.checked.prog.readableRec ·)) = true := by kernel_rfl
theorem z4FnExactWhoMay : (namedTie Try.pinned.checked.prog Rows.fnExactWhoMayRow.named Rows.fnExactWhoMaySpec.vars) = true := by kernel_rfl
theorem z5FnExactWhoMay : ((Rows.fnExactWhoMayRow.stops == [])) = true := by kernel_rfl
theorem z6FnExactWhoMay : ((Try.pinned.checked.prog.stops == [])) = true := by kernel_rfl
theorem z7FnExactWhoMay : ((Rows.fnExactWhoMayRow.knobs == [])) = true := by kernel_rfl
theorem z8FnExactWhoMay : ((Try.pinned.checked.prog.stopKnobs == [])) = true := by kernel_rfl
theorem z9FnExactWhoMay : ((Rows.fnExactWhoMayRow.inPlace == Try.pinned.checked.prog.inPlace 5)) = true := by kernel_rfl
theorem z10FnExactWhoMay : ((Rows.fnExactWhoMayRow.unfollowed == Try.pinned.checked.prog.unfollowed 5)) = true := by kernel_rfl
theorem z11FnExactWhoMay : ((Rows.fnExactWhoMayRow.recurses == Try.pinned.checked.prog.recurses 5)) = true := by kernel_rfl
theorem z12FnExactWhoMay : ((Rows.fnExactWhoMayRow.named == Try.pinned.checked.prog.varsNamed 5)) = true := by kernel_rfl
theorem z13FnExactWhoMay : ((Rows.fnExactWhoMayRow.maps == (Try.f5.params.toList ++ Rows.fnExactWhoMaySpec.plain.varTypes Try.pinned.checked.prog).any (Try.pinned.checked.prog.mapsRec ·))) = true := by kernel_rfl
theorem z14FnExactWhoMay : ((Rows.fnExactWhoMayRow.ifaces == (Try.f5.params.toList ++ Rows.fnExactWhoMaySpec.plain.varTypes Try.pinned.checked.prog).any (Try.pinned.checked.prog.ifacesRec ·))) = true := by kernel_rfl
theorem z15FnExactWhoMay : ((Rows.fnExactWhoMayRow.mapsOut == Try.pinned.checked.prog.mapsAmong Try.f5.resultTypes.toList)) = true := by kernel_rfl
theorem z16FnExactWhoMay : ((Rows.fnExactWhoMayRow.loops == (Try.f5.params.toList ++ Rows.fnExactWhoMaySpec.plain.varTypes Try.pinned.checked.prog).any (Try.pinned.checked.prog.loopsFrom ·))) = true := by kernel_rfl
theorem z17FnExactWhoMay : ((Rows.fnExactWhoMayRow.wideKeys == (Try.f5.params.toList ++ Rows.fnExactWhoMaySpec.plain.varTypes Try.pinned.checked.prog ++ Try.f5.resultTypes.toList).any (Try.pinned.checked.prog.wideKeysFrom ·))) = true := by kernel_rfl
theorem z18FnExactWhoMay : (Rows.fnExactWhoMaySpec.vars.all (Try.pinned.checked.prog.varReadable ·)) = true := by kernel_rfl
theorem z19FnExactWhoMay : (Try.f5.resultTypes.all (fun t => Try.pinned.checked.prog.readableRec t && decide (t < Try.pinned.checked.prog.types.size))) = true := by kernel_rfl
theorem z20FnExactWhoMay : ((Rows.fnExactWhoMayRow.ifacesOut == Try.f5.resultTypes.toList.any (Try.pinned.checked.prog.ifacesRec ·))) = true := by kernel_rfl
theorem z21FnExactWhoMay : ((Rows.fnExactWhoMayRow.loopsOut == Try.f5.resultTypes.toList.any (Try.pinned.checked.prog.loopsFrom ·))) = true := by kernel_rfl
theorem z22FnExactWhoMay : ((Rows.fnExactWhoMayRow.plainKeys == Try.pinned.checked.prog.plainKeys)) = true := by kernel_rfl
theorem z23FnExactWhoMay : (Rows.fnExactWhoMayRow.shortTexts.isNone) = true := by kernel_rfl
theorem z24FnExactWhoMay : (Try.pinned.checked.prog.stopsHeard) = true := by kernel_rfl
theorem z25FnExactWhoMay : (Try.pinned.checked.prog.mayEnter) = true := by kernel_rfl
theorem z26FnExactWhoMay : ((Rows.fnExactWhoMayRow.lifted == Try.pinned.checked.prog.liftsFinal)) = true := by kernel_rfl
theorem z27FnExactWhoMay : ((Try.pinned.checked.prog.make == some Rows.fnExactWhoMayRow.make)) = true := by kernel_rfl
theorem z28FnExactWhoMay : ((Rows.fnExactWhoMayRow.kinds == (if Rows.fnExactWhoMayRow.domain.isEmpty then [] else Try.f5.params.toList.map fun t => match Try.pinned.checked.prog.underlying t with | some (.int k) => some k | _ => none))) = true := by kernel_rfl
theorem z29FnExactWhoMay : ((Rows.fnExactWhoMayRow.pinned == Rows.fnExactWhoMayRow.pinnedBy)) = true := by kernel_rfl
theorem z30FnExactWhoMay : ((Rows.fnExactWhoMayRow.veiled == (Try.f5.params.toList ++ Rows.fnExactWhoMaySpec.plain.varTypes Try.pinned.checked.prog ++ Try.f5.resultTypes.toList).any (Try.pinned.checked.prog.veiledRec ·))) = true := by kernel_rfl
theorem z31FnExactWhoMay : (Rows.fnExactWhoMayRow.veiledFits Try.pinned.checked.prog Try.f5.params.toList (Try.f5.params.toList ++ Rows.fnExactWhoMaySpec.plain.varTypes Try.pinned.checked.prog ++ Try.f5.resultTypes.toList)) = true := by kernel_rfl
theorem closedFnExactWhoMay : joinedFacts Try.pinned.checked.prog 5 Try.f5 Rows.fnExactWhoMaySpec Rows.fnExactWhoMayRow = true := (and2FnExactWhoMay (and2FnExactWhoMay (and2FnExactWhoMay (and2FnExactWhoMay (and2FnExactWhoMay (and2FnExactWhoMay (and2FnExactWhoMay (and2FnExactWhoMay (and2FnExactWhoMay (and2FnExactWhoMay (and2FnExactWhoMay (and2FnExactWhoMay (and2FnExactWhoMay (and2FnExactWhoMay (and2FnExactWhoMay (and2FnExactWhoMay (and2FnExactWhoMay (and2FnExactWhoMay (and2FnExactWhoMay (and2FnExactWhoMay (and2FnExactWhoMay (and2FnExactWhoMay (and2FnExactWhoMay (and2FnExactWhoMay (and2FnExactWhoMay (and2FnExactWhoMay (and2FnExactWhoMay (and2FnExactWhoMay (and2FnExactWhoMay (and2FnExactWhoMay (and2FnExactWhoMay z0FnExactWhoMay z1FnExactWhoMay) z2FnExactWhoMay) z3FnExactWhoMay) z4FnExactWhoMay) z5FnExactWhoMay) z6FnExactWhoMay) z7FnExactWhoMay) z8FnExactWhoMay) z9FnExactWhoMay) z10FnExactWhoMay) z11FnExactWhoMay) z12FnExactWhoMay) z13FnExactWhoMay) z14FnExactWhoMay) z15FnExactWhoMay) z16FnExactWhoMay) z17FnExactWhoMay) z18FnExactWhoMay) z19FnExactWhoMay) z20FnExactWhoMay) z21FnExactWhoMay) z22FnExactWhoMay) z23FnExactWhoMay) z24FnExactWhoMay) z25FnExactWhoMay) z26FnExactWhoMay) z27FnExactWhoMay) z28FnExactWhoMay) z29FnExactWhoMay) z30FnExactWhoMay) z31FnExactWhoMay)
theorem namedFnExactWhoMay : Try.pinned.checked.prog.funcNamed Rows.fnExactWhoMayRow.func = some 5 := by kernel_rfl

theorem overFnExactWhoMay : Rows.fnExactWhoMayRow.holds Try.pinned (OpenSpec.ofChange Rows.fnExactWhoMaySpec) :=
  OpenClaim.holds_of_wide 5 Try.f5 rfl rfl rfl rfl rfl rfl rfl ⟨rfl, rfl, rfl, rfl, rfl⟩ rfl rfl rfl rfl rfl namedFnExactWhoMay Try.func5 closedFnExactWhoMay
    (of_decide_eq_true (by kernel_rfl)) (by unfold Func.isWrapper; first | (rw [if_pos (by decide +kernel)]; kernel_rfl) | (rw [if_neg (by decide +kernel)]; exact ⟨rfl, rfl⟩))
    (fun os started H enc _ => liftedFnExactWhoMay os started H enc)

theorem provedFnExactWhoMay : Rows.FnExactWhoMaySaid := overFnExactWhoMay
#print axioms provedFnExactWhoMay
end Go.Proofs.Ytcjghcagliamfaa.Ai
