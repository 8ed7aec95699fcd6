/- Proved: for every input the law FnRules returns true, and each argument reads afterwards as it read before. Conditions: none. -/
import Derived.Test.YtpjmpgbgglhoeaaRows
import Derived.Test.YtpjmpgbgglhoeaaAiOpen
import Derived.Test.YtpjmpgbgglhoeaaLawRules
import Derived.Test.YtpjmpgbgglhoeaaOpensU8
import Derived.ProofKit
import Derived.OpenShut
import Derived.ShutString
namespace Go.Proofs.Ytpjmpgbgglhoeaa.Ai
open Go Go.Proofs Go.ChangeShapes Go.WideShapes Go.ChangeAt Go.RowKit
set_option linter.unusedVariables false
set_option maxRecDepth 100000

theorem ownFnRules : ownKnob Try.prog.godebug = none := by kernel_rfl
theorem laidOutFnRules : laidOutB Try.prog = true := by kernel_rfl

set_option maxRecDepth 100000 in
theorem liftedFnRules (os : Os) (started : os.Started) (H : Type) (enc : TypeId × Value → H) :
    ReturnsInHanded {} Try.checked os 9 .any (Rows.fnRulesSpec.pre6 enc Try.prog Try.f9 Rows.fnRulesRow.domain false) (Rows.fnRulesSpec.post enc Try.prog Try.f9 false true false false) := by
  refine returnsInHanded_of_change (C := Try.checked) ownFnRules started (by kernel_rfl) Try.func9
    (ChangeSpec.witness6 (enc := enc) (C := Try.checked) false ⟨#[], #[.slice none 0 0, .slice none 0 0], []⟩ 8 (by kernel_rfl) (by kernel_rfl) (by kernel_rfl) (by kernel_rfl)) ?_
  intro W base args ds gs before hval0 hW hcnd _
  have hval : ∀ (j : Nat) t v, Try.f9.params[j]? = some t → args[j]? = some v → Value.okWide Try.prog W .any base t v := hval0
  have hW' := hW
  obtain ⟨p, q, hA0, hV, rfl, hfz, hnd⟩ := hW
  have hA : DataW.TrodAll enc Try.prog W 0 (fun _ => true) true Try.f9.params.toList args.toList ds p := hA0
  rw [Try.params9] at hA hval
  obtain ⟨v0, vs0, d0, ds0, p0, q0, hargs, rfl, rfl, h0, r0⟩ := trodAll_cons hA
  obtain ⟨v1, vs1, d1, ds1, p1, q1, rfl, rfl, rfl, h1, r1⟩ := trodAll_cons r0
  obtain ⟨rfl, rfl, rfl⟩ := trodAll_nil r1
  obtain rfl : args = #[v0, v1] := by cases args; simp_all
  obtain ⟨rfl, rfl⟩ := trodVars_none hV
  have k0 := h0
  have lt0 : ∀ x ∈ p0, x.block < W.heap.size := by obtain ⟨m, hm⟩ := k0; exact DataW.trod_lt m _ _ _ hm
  obtain ⟨b0, l0, c0, rfl⟩ := okWide_slice Try.underlying22 (hval 0 22 v0 rfl rfl)
  obtain ⟨a0, w0, e0⟩ := arg_one (g := fun a => .isl _ (rows _ a)) opensU8S rfl h0
  have k1 := h1
  have lt1 : ∀ x ∈ p1, x.block < W.heap.size := by obtain ⟨m, hm⟩ := k1; exact DataW.trod_lt m _ _ _ hm
  obtain ⟨b1, l1, c1, rfl⟩ := okWide_slice Try.underlying22 (hval 1 22 v1 rfl rfl)
  obtain ⟨a1, w1, e1⟩ := arg_one (g := fun a => .isl _ (rows _ a)) opensU8S rfl h1
  clear hA0 hval0
  refine ((lawRules_ok a0 a1 w0 w1).2 W (fun k => k < W.heap.size) _ (fun _ h => h) (All2.cons e0 (All2.cons e1 All2.nil))).mono ?_
  rintro e W' ⟨v, r, gs', rfl, rfl, bel, hr⟩
  have hv : v = .bool true := by
    obtain ⟨-, -, hr⟩ := hr
    cases hr with
    | one hr => cases hr with
      | imm hr => cases hr; rfl
  subst hv
  exact ⟨_, rfl, _, _, _, [], _, [], hW', trodAll_mk1 (shut_bool Try.underlying4 _), (trodAll_cons_mk (Below.trod laidOutFnRules (by kernel_rfl) (of_decide_eq_true (by kernel_rfl)) k0 bel lt0) (trodAll_cons_mk (Below.trod laidOutFnRules (by kernel_rfl) (of_decide_eq_true (by kernel_rfl)) k1 bel lt1) trodAll_mk0)), rfl, bel.frame _, fun h => by cases h⟩

theorem and2FnRules {a b : Bool} (ha : a = true) (hb : b = true) : (a && b) = true := by rw [ha, hb]; rfl
theorem z0FnRules : (Rows.fnRulesRow.wf (OpenSpec.ofChange Rows.fnRulesSpec)) = true := by kernel_rfl
theorem z1FnRules : (laidOutB Try.pinned.checked.prog) = true := by kernel_rfl
theorem z2FnRules : (mapsRowed Try.pinned.checked.prog) = true := by kernel_rfl
theorem z3FnRules : (Try.f9.params.all (Try.pinned.checked.prog.readableRec ·)) = true := by kernel_rfl
theorem z4FnRules : (namedTie Try.pinned.checked.prog Rows.fnRulesRow.named Rows.fnRulesSpec.vars) = true := by kernel_rfl
theorem z5FnRules : ((Rows.fnRulesRow.stops == [])) = true := by kernel_rfl
theorem z6FnRules : ((Try.pinned.checked.prog.stops == [])) = true := by kernel_rfl
theorem z7FnRules : ((Rows.fnRulesRow.knobs == [])) = true := by kernel_rfl
theorem z8FnRules : ((Try.pinned.checked.prog.stopKnobs == [])) = true := by kernel_rfl
theorem z9FnRules : ((Rows.fnRulesRow.inPlace == Try.pinned.checked.prog.inPlace 9)) = true := by kernel_rfl
theorem z10FnRules : ((Rows.fnRulesRow.unfollowed == Try.pinned.checked.prog.unfollowed 9)) = true := by kernel_rfl
theorem z11FnRules : ((Rows.fnRulesRow.recurses == Try.pinned.checked.prog.recurses 9)) = true := by kernel_rfl
theorem z12FnRules : ((Rows.fnRulesRow.named == Try.pinned.checked.prog.varsNamed 9)) = true := by kernel_rfl
theorem z13FnRules : ((Rows.fnRulesRow.maps == (Try.f9.params.toList ++ Rows.fnRulesSpec.plain.varTypes Try.pinned.checked.prog).any (Try.pinned.checked.prog.mapsRec ·))) = true := by kernel_rfl
theorem z14FnRules : ((Rows.fnRulesRow.ifaces == (Try.f9.params.toList ++ Rows.fnRulesSpec.plain.varTypes Try.pinned.checked.prog).any (Try.pinned.checked.prog.ifacesRec ·))) = true := by kernel_rfl
theorem z15FnRules : ((Rows.fnRulesRow.mapsOut == Try.pinned.checked.prog.mapsAmong Try.f9.resultTypes.toList)) = true := by kernel_rfl
theorem z16FnRules : ((Rows.fnRulesRow.loops == (Try.f9.params.toList ++ Rows.fnRulesSpec.plain.varTypes Try.pinned.checked.prog).any (Try.pinned.checked.prog.loopsFrom ·))) = true := by kernel_rfl
theorem z17FnRules : ((Rows.fnRulesRow.wideKeys == (Try.f9.params.toList ++ Rows.fnRulesSpec.plain.varTypes Try.pinned.checked.prog ++ Try.f9.resultTypes.toList).any (Try.pinned.checked.prog.wideKeysFrom ·))) = true := by kernel_rfl
theorem z18FnRules : (Rows.fnRulesSpec.vars.all (Try.pinned.checked.prog.varReadable ·)) = true := by kernel_rfl
theorem z19FnRules : (Try.f9.resultTypes.all (fun t => Try.pinned.checked.prog.readableRec t && decide (t < Try.pinned.checked.prog.types.size))) = true := by kernel_rfl
theorem z20FnRules : ((Rows.fnRulesRow.ifacesOut == Try.f9.resultTypes.toList.any (Try.pinned.checked.prog.ifacesRec ·))) = true := by kernel_rfl
theorem z21FnRules : ((Rows.fnRulesRow.loopsOut == Try.f9.resultTypes.toList.any (Try.pinned.checked.prog.loopsFrom ·))) = true := by kernel_rfl
theorem z22FnRules : ((Rows.fnRulesRow.plainKeys == Try.pinned.checked.prog.plainKeys)) = true := by kernel_rfl
theorem z23FnRules : (Rows.fnRulesRow.shortTexts.isNone) = true := by kernel_rfl
theorem z24FnRules : (Try.pinned.checked.prog.stopsHeard) = true := by kernel_rfl
theorem z25FnRules : (Try.pinned.checked.prog.mayEnter) = true := by kernel_rfl
theorem z26FnRules : ((Rows.fnRulesRow.lifted == Try.pinned.checked.prog.liftsFinal)) = true := by kernel_rfl
theorem z27FnRules : ((Try.pinned.checked.prog.make == some Rows.fnRulesRow.make)) = true := by kernel_rfl
theorem z28FnRules : ((Rows.fnRulesRow.kinds == (if Rows.fnRulesRow.domain.isEmpty then [] else Try.f9.params.toList.map fun t => match Try.pinned.checked.prog.underlying t with | some (.int k) => some k | _ => none))) = true := by kernel_rfl
theorem z29FnRules : ((Rows.fnRulesRow.pinned == Rows.fnRulesRow.pinnedBy)) = true := by kernel_rfl
theorem z30FnRules : ((Rows.fnRulesRow.veiled == (Try.f9.params.toList ++ Rows.fnRulesSpec.plain.varTypes Try.pinned.checked.prog ++ Try.f9.resultTypes.toList).any (Try.pinned.checked.prog.veiledRec ·))) = true := by kernel_rfl
theorem z31FnRules : (Rows.fnRulesRow.veiledFits Try.pinned.checked.prog Try.f9.params.toList (Try.f9.params.toList ++ Rows.fnRulesSpec.plain.varTypes Try.pinned.checked.prog ++ Try.f9.resultTypes.toList)) = true := by kernel_rfl
theorem closedFnRules : joinedFacts Try.pinned.checked.prog 9 Try.f9 Rows.fnRulesSpec Rows.fnRulesRow = true := (and2FnRules (and2FnRules (and2FnRules (and2FnRules (and2FnRules (and2FnRules (and2FnRules (and2FnRules (and2FnRules (and2FnRules (and2FnRules (and2FnRules (and2FnRules (and2FnRules (and2FnRules (and2FnRules (and2FnRules (and2FnRules (and2FnRules (and2FnRules (and2FnRules (and2FnRules (and2FnRules (and2FnRules (and2FnRules (and2FnRules (and2FnRules (and2FnRules (and2FnRules (and2FnRules (and2FnRules z0FnRules z1FnRules) z2FnRules) z3FnRules) z4FnRules) z5FnRules) z6FnRules) z7FnRules) z8FnRules) z9FnRules) z10FnRules) z11FnRules) z12FnRules) z13FnRules) z14FnRules) z15FnRules) z16FnRules) z17FnRules) z18FnRules) z19FnRules) z20FnRules) z21FnRules) z22FnRules) z23FnRules) z24FnRules) z25FnRules) z26FnRules) z27FnRules) z28FnRules) z29FnRules) z30FnRules) z31FnRules)
theorem namedFnRules : Try.pinned.checked.prog.funcNamed Rows.fnRulesRow.func = some 9 := by kernel_rfl

theorem overFnRules : Rows.fnRulesRow.holds Try.pinned (OpenSpec.ofChange Rows.fnRulesSpec) :=
  OpenClaim.holds_of_wide 9 Try.f9 rfl rfl rfl rfl rfl rfl rfl ⟨rfl, rfl, rfl, rfl, rfl⟩ rfl rfl rfl rfl rfl namedFnRules Try.func9 closedFnRules
    (of_decide_eq_true (by kernel_rfl)) (by unfold Func.isWrapper; first | (rw [if_pos (by decide +kernel)]; kernel_rfl) | (rw [if_neg (by decide +kernel)]; exact ⟨rfl, rfl⟩))
    (fun os started H enc _ => liftedFnRules os started H enc)

theorem provedFnRules : Rows.FnRulesSaid := overFnRules
#print axioms provedFnRules
end Go.Proofs.Ytpjmpgbgglhoeaa.Ai
