/- Proved: for every input the law FnExactMissingCrafts returns true, and each argument reads afterwards as it read before. Conditions: none. -/
import Derived.Test.YtnamefdhmlbcpaaRows
import Derived.Test.YtnamefdhmlbcpaaAiOpen
import Derived.Test.YtnamefdhmlbcpaaOpensCraft
import Derived.Test.YtnamefdhmlbcpaaOpensSS
import Derived.Test.YtnamefdhmlbcpaaLawMissing
import Derived.ProofKit
import Derived.OpenShut
import Derived.ShutString
namespace Go.Proofs.Ytnamefdhmlbcpaa.Ai
open Go Go.Proofs Go.ChangeShapes Go.WideShapes Go.ChangeAt Go.RowKit
set_option linter.unusedVariables false
set_option maxRecDepth 100000

theorem ownFnExactMissingCrafts : ownKnob Try.prog.godebug = none := by kernel_rfl
theorem laidOutFnExactMissingCrafts : laidOutB Try.prog = true := by kernel_rfl

set_option maxRecDepth 100000 in
theorem liftedFnExactMissingCrafts (os : Os) (started : os.Started) (H : Type) (enc : TypeId × Value → H) :
    ReturnsInHanded {} Try.checked os 5 .any (Rows.fnExactMissingCraftsSpec.pre6 enc Try.prog Try.f5 Rows.fnExactMissingCraftsRow.domain false) (Rows.fnExactMissingCraftsSpec.post enc Try.prog Try.f5 false true false false) := by
  refine returnsInHanded_of_change (C := Try.checked) ownFnExactMissingCrafts started (by kernel_rfl) Try.func5
    (ChangeSpec.witness6 (enc := enc) (C := Try.checked) false ⟨#[], #[.slice none 0 0, .slice none 0 0, .int .i64 0], []⟩ 8 (by kernel_rfl) (by kernel_rfl) (by kernel_rfl) (by kernel_rfl)) ?_
  intro W base args ds gs before hval0 hW hcnd _
  have hval : ∀ (j : Nat) t v, Try.f5.params[j]? = some t → args[j]? = some v → Value.okWide Try.prog W .any base t v := hval0
  have hW' := hW
  obtain ⟨p, q, hA0, hV, rfl, hfz, hnd⟩ := hW
  have hA : DataW.TrodAll enc Try.prog W 0 (fun _ => true) true Try.f5.params.toList args.toList ds p := hA0
  rw [Try.params5] at hA hval
  obtain ⟨v0, vs0, d0, ds0, p0, q0, hargs, rfl, rfl, h0, r0⟩ := trodAll_cons hA
  obtain ⟨v1, vs1, d1, ds1, p1, q1, rfl, rfl, rfl, h1, r1⟩ := trodAll_cons r0
  obtain ⟨v2, vs2, d2, ds2, p2, q2, rfl, rfl, rfl, h2, r2⟩ := trodAll_cons r1
  obtain ⟨rfl, rfl, rfl⟩ := trodAll_nil r2
  obtain rfl : args = #[v0, v1, v2] := by cases args; simp_all
  obtain ⟨rfl, rfl⟩ := trodVars_none hV
  have k0 := h0
  have lt0 : ∀ x ∈ p0, x.block < W.heap.size := by obtain ⟨m, hm⟩ := k0; exact DataW.trod_lt m _ _ _ hm
  obtain ⟨b0, l0, c0, rfl⟩ := okWide_slice Try.underlying22 (hval 0 22 v0 rfl rfl)
  obtain ⟨a0, w0, e0⟩ := arg_one (g := fun a => .isl _ (rows _ a)) opensCraftS rfl h0
  have k1 := h1
  have lt1 : ∀ x ∈ p1, x.block < W.heap.size := by obtain ⟨m, hm⟩ := k1; exact DataW.trod_lt m _ _ _ hm
  obtain ⟨b1, l1, c1, rfl⟩ := okWide_slice Try.underlying24 (hval 1 24 v1 rfl rfl)
  obtain ⟨a1, w1, e1⟩ := arg_one (g := fun a => .isl _ (rows _ a)) opensIntS rfl h1
  have k2 := h2
  have lt2 : ∀ x ∈ p2, x.block < W.heap.size := by obtain ⟨m, hm⟩ := k2; exact DataW.trod_lt m _ _ _ hm
  obtain ⟨b2, rfl⟩ := okWide_int Try.underlying3 (hval 2 3 v2 rfl rfl)
  obtain ⟨a2, w2, e2⟩ := arg_one (g := fun a => .int .i64 a) opensInt rfl h2
  clear hA0 hval0
  refine ((lawMissingCrafts_ok a0 a1 a2).2 W (fun k => k < W.heap.size) _ (fun _ h => h) (All2.cons e0 (All2.cons e1 (All2.cons e2 All2.nil)))).mono ?_
  rintro e W' ⟨v, r, gs', rfl, rfl, bel, hr⟩
  have hv : v = .bool true := by
    obtain ⟨-, -, hr⟩ := hr
    cases hr with
    | one hr => cases hr with
      | imm hr => cases hr; rfl
  subst hv
  exact ⟨_, rfl, _, _, _, [], _, [], hW', trodAll_mk1 (shut_bool Try.underlying4 _), (trodAll_cons_mk (Below.trod laidOutFnExactMissingCrafts (by kernel_rfl) (of_decide_eq_true (by kernel_rfl)) k0 bel lt0) (trodAll_cons_mk (Below.trod laidOutFnExactMissingCrafts (by kernel_rfl) (of_decide_eq_true (by kernel_rfl)) k1 bel lt1) (trodAll_cons_mk (Below.trod laidOutFnExactMissingCrafts (by kernel_rfl) (of_decide_eq_true (by kernel_rfl)) k2 bel lt2) trodAll_mk0))), rfl, bel.frame _, fun h => by cases h⟩

theorem and2FnExactMissingCrafts {a b : Bool} (ha : a = true) (hb : b = true) : (a && b) = true := by rw [ha, hb]; rfl
theorem z0FnExactMissingCrafts : (Rows.fnExactMissingCraftsRow.wf (OpenSpec.ofChange Rows.fnExactMissingCraftsSpec)) = true := by kernel_rfl
theorem z1FnExactMissingCrafts : (laidOutB Try.pinned.checked.prog) = true := by kernel_rfl
theorem z2FnExactMissingCrafts : (mapsRowed Try.pinned.checked.prog) = true := by kernel_rfl
theorem z3FnExactMissingCrafts : (Try.f5.params.all (Try.pinned.checked.prog.readableRec ·)) = true := by kernel_rfl
theorem z4FnExactMissingCrafts : (namedTie Try.pinned.checked.prog Rows.fnExactMissingCraftsRow.named Rows.fnExactMissingCraftsSpec.vars) = true := by kernel_rfl
theorem z5FnExactMissingCrafts : ((Rows.fnExactMissingCraftsRow.stops == [])) = true := by kernel_rfl
theorem z6FnExactMissingCrafts : ((Try.pinned.checked.prog.stops == [])) = true := by kernel_rfl
theorem z7FnExactMissingCrafts : ((Rows.fnExactMissingCraftsRow.knobs == [])) = true := by kernel_rfl
theorem z8FnExactMissingCrafts : ((Try.pinned.checked.prog.stopKnobs == [])) = true := by kernel_rfl
theorem z9FnExactMissingCrafts : ((Rows.fnExactMissingCraftsRow.inPlace == Try.pinned.checked.prog.inPlace 5)) = true := by kernel_rfl
theorem z10FnExactMissingCrafts : ((Rows.fnExactMissingCraftsRow.unfollowed == Try.pinned.checked.prog.unfollowed 5)) = true := by kernel_rfl
theorem z11FnExactMissingCrafts : ((Rows.fnExactMissingCraftsRow.recurses == Try.pinned.checked.prog.recurses 5)) = true := by kernel_rfl
theorem z12FnExactMissingCrafts : ((Rows.fnExactMissingCraftsRow.named == Try.pinned.checked.prog.varsNamed 5)) = true := by kernel_rfl
theorem z13FnExactMissingCrafts : ((Rows.fnExactMissingCraftsRow.maps == (Try.f5.params.toList ++ Rows.fnExactMissingCraftsSpec.plain.varTypes Try.pinned.checked.prog).any (Try.pinned.checked.prog.mapsRec ·))) = true := by kernel_rfl
theorem z14FnExactMissingCrafts : ((Rows.fnExactMissingCraftsRow.ifaces == (Try.f5.params.toList ++ Rows.fnExactMissingCraftsSpec.plain.varTypes Try.pinned.checked.prog).any (Try.pinned.checked.prog.ifacesRec ·))) = true := by kernel_rfl
theorem z15FnExactMissingCrafts : ((Rows.fnExactMissingCraftsRow.mapsOut == Try.pinned.checked.prog.mapsAmong Try.f5.resultTypes.toList)) = true := by kernel_rfl
theorem z16FnExactMissingCrafts : ((Rows.fnExactMissingCraftsRow.loops == (Try.f5.params.toList ++ Rows.fnExactMissingCraftsSpec.plain.varTypes Try.pinned.checked.prog).any (Try.pinned.checked.prog.loopsFrom ·))) = true := by kernel_rfl
theorem z17FnExactMissingCrafts : ((Rows.fnExactMissingCraftsRow.wideKeys == (Try.f5.params.toList ++ Rows.fnExactMissingCraftsSpec.plain.varTypes Try.pinned.checked.prog ++ Try.f5.resultTypes.toList).any (Try.pinned.checked.prog.wideKeysFrom ·))) = true := by kernel_rfl
theorem z18FnExactMissingCrafts : (Rows.fnExactMissingCraftsSpec.vars.all (Try.pinned.checked.prog.varReadable ·)) = true := by kernel_rfl
theorem z19FnExactMissingCrafts : (Try.f5.resultTypes.all (fun t => Try.pinned.checked.prog.readableRec t && decide (t < Try.pinned.checked.prog.types.size))) = true := by kernel_rfl
theorem z20FnExactMissingCrafts : ((Rows.fnExactMissingCraftsRow.ifacesOut == Try.f5.resultTypes.toList.any (Try.pinned.checked.prog.ifacesRec ·))) = true := by kernel_rfl
theorem z21FnExactMissingCrafts : ((Rows.fnExactMissingCraftsRow.loopsOut == Try.f5.resultTypes.toList.any (Try.pinned.checked.prog.loopsFrom ·))) = true := by kernel_rfl
theorem z22FnExactMissingCrafts : ((Rows.fnExactMissingCraftsRow.plainKeys == Try.pinned.checked.prog.plainKeys)) = true := by kernel_rfl
theorem z23FnExactMissingCrafts : (Rows.fnExactMissingCraftsRow.shortTexts.isNone) = true := by kernel_rfl
theorem z24FnExactMissingCrafts : (Try.pinned.checked.prog.stopsHeard) = true := by kernel_rfl
theorem z25FnExactMissingCrafts : (Try.pinned.checked.prog.mayEnter) = true := by kernel_rfl
theorem z26FnExactMissingCrafts : ((Rows.fnExactMissingCraftsRow.lifted == Try.pinned.checked.prog.liftsFinal)) = true := by kernel_rfl
theorem z27FnExactMissingCrafts : ((Try.pinned.checked.prog.make == some Rows.fnExactMissingCraftsRow.make)) = true := by kernel_rfl
theorem z28FnExactMissingCrafts : ((Rows.fnExactMissingCraftsRow.kinds == (if Rows.fnExactMissingCraftsRow.domain.isEmpty then [] else Try.f5.params.toList.map fun t => match Try.pinned.checked.prog.underlying t with | some (.int k) => some k | _ => none))) = true := by kernel_rfl
theorem z29FnExactMissingCrafts : ((Rows.fnExactMissingCraftsRow.pinned == Rows.fnExactMissingCraftsRow.pinnedBy)) = true := by kernel_rfl
theorem z30FnExactMissingCrafts : ((Rows.fnExactMissingCraftsRow.veiled == (Try.f5.params.toList ++ Rows.fnExactMissingCraftsSpec.plain.varTypes Try.pinned.checked.prog ++ Try.f5.resultTypes.toList).any (Try.pinned.checked.prog.veiledRec ·))) = true := by kernel_rfl
theorem z31FnExactMissingCrafts : (Rows.fnExactMissingCraftsRow.veiledFits Try.pinned.checked.prog Try.f5.params.toList (Try.f5.params.toList ++ Rows.fnExactMissingCraftsSpec.plain.varTypes Try.pinned.checked.prog ++ Try.f5.resultTypes.toList)) = true := by kernel_rfl
theorem closedFnExactMissingCrafts : joinedFacts Try.pinned.checked.prog 5 Try.f5 Rows.fnExactMissingCraftsSpec Rows.fnExactMissingCraftsRow = true := (and2FnExactMissingCrafts (and2FnExactMissingCrafts (and2FnExactMissingCrafts (and2FnExactMissingCrafts (and2FnExactMissingCrafts (and2FnExactMissingCrafts (and2FnExactMissingCrafts (and2FnExactMissingCrafts (and2FnExactMissingCrafts (and2FnExactMissingCrafts (and2FnExactMissingCrafts (and2FnExactMissingCrafts (and2FnExactMissingCrafts (and2FnExactMissingCrafts (and2FnExactMissingCrafts (and2FnExactMissingCrafts (and2FnExactMissingCrafts (and2FnExactMissingCrafts (and2FnExactMissingCrafts (and2FnExactMissingCrafts (and2FnExactMissingCrafts (and2FnExactMissingCrafts (and2FnExactMissingCrafts (and2FnExactMissingCrafts (and2FnExactMissingCrafts (and2FnExactMissingCrafts (and2FnExactMissingCrafts (and2FnExactMissingCrafts (and2FnExactMissingCrafts (and2FnExactMissingCrafts (and2FnExactMissingCrafts z0FnExactMissingCrafts z1FnExactMissingCrafts) z2FnExactMissingCrafts) z3FnExactMissingCrafts) z4FnExactMissingCrafts) z5FnExactMissingCrafts) z6FnExactMissingCrafts) z7FnExactMissingCrafts) z8FnExactMissingCrafts) z9FnExactMissingCrafts) z10FnExactMissingCrafts) z11FnExactMissingCrafts) z12FnExactMissingCrafts) z13FnExactMissingCrafts) z14FnExactMissingCrafts) z15FnExactMissingCrafts) z16FnExactMissingCrafts) z17FnExactMissingCrafts) z18FnExactMissingCrafts) z19FnExactMissingCrafts) z20FnExactMissingCrafts) z21FnExactMissingCrafts) z22FnExactMissingCrafts) z23FnExactMissingCrafts) z24FnExactMissingCrafts) z25FnExactMissingCrafts) z26FnExactMissingCrafts) z27FnExactMissingCrafts) z28FnExactMissingCrafts) z29FnExactMissingCrafts) z30FnExactMissingCrafts) z31FnExactMissingCrafts)
theorem namedFnExactMissingCrafts : Try.pinned.checked.prog.funcNamed Rows.fnExactMissingCraftsRow.func = some 5 := by kernel_rfl

theorem overFnExactMissingCrafts : Rows.fnExactMissingCraftsRow.holds Try.pinned (OpenSpec.ofChange Rows.fnExactMissingCraftsSpec) :=
  OpenClaim.holds_of_wide 5 Try.f5 rfl rfl rfl rfl rfl rfl rfl ⟨rfl, rfl, rfl, rfl, rfl⟩ rfl rfl rfl rfl rfl namedFnExactMissingCrafts Try.func5 closedFnExactMissingCrafts
    (of_decide_eq_true (by kernel_rfl)) (by unfold Func.isWrapper; first | (rw [if_pos (by decide +kernel)]; kernel_rfl) | (rw [if_neg (by decide +kernel)]; exact ⟨rfl, rfl⟩))
    (fun os started H enc _ => liftedFnExactMissingCrafts os started H enc)

theorem provedFnExactMissingCrafts : Rows.FnExactMissingCraftsSaid := overFnExactMissingCrafts
#print axioms provedFnExactMissingCrafts
end Go.Proofs.Ytnamefdhmlbcpaa.Ai
