/- Proved: for every input the law FnCrafts returns true, and each argument reads afterwards as it read before. Conditions: none. -/
import Derived.Test.YtnamefdhmlbcpaaRows
import Derived.Test.YtnamefdhmlbcpaaAiOpen
import Derived.Test.YtnamefdhmlbcpaaLawCrafts
import Derived.Test.YtnamefdhmlbcpaaOpensU8
import Derived.ProofKit
import Derived.OpenShut
import Derived.ShutString
namespace Go.Proofs.Ytnamefdhmlbcpaa.Ai
open Go Go.Proofs Go.ChangeShapes Go.WideShapes Go.ChangeAt Go.RowKit
set_option linter.unusedVariables false
set_option maxRecDepth 100000

theorem ownFnCrafts : ownKnob Try.prog.godebug = none := by kernel_rfl
theorem laidOutFnCrafts : laidOutB Try.prog = true := by kernel_rfl

set_option maxRecDepth 100000 in
theorem liftedFnCrafts (os : Os) (started : os.Started) (H : Type) (enc : TypeId × Value → H) :
    ReturnsInHanded {} Try.checked os 7 .any (Rows.fnCraftsSpec.pre6 enc Try.prog Try.f7 Rows.fnCraftsRow.domain false) (Rows.fnCraftsSpec.post enc Try.prog Try.f7 false true false false) := by
  refine returnsInHanded_of_change (C := Try.checked) ownFnCrafts started (by kernel_rfl) Try.func7
    (ChangeSpec.witness6 (enc := enc) (C := Try.checked) false ⟨#[], #[.slice none 0 0, .slice none 0 0], []⟩ 8 (by kernel_rfl) (by kernel_rfl) (by kernel_rfl) (by kernel_rfl)) ?_
  intro W base args ds gs before hval0 hW hcnd _
  have hval : ∀ (j : Nat) t v, Try.f7.params[j]? = some t → args[j]? = some v → Value.okWide Try.prog W .any base t v := hval0
  have hW' := hW
  obtain ⟨p, q, hA0, hV, rfl, hfz, hnd⟩ := hW
  have hA : DataW.TrodAll enc Try.prog W 0 (fun _ => true) true Try.f7.params.toList args.toList ds p := hA0
  rw [Try.params7] at hA hval
  obtain ⟨v0, vs0, d0, ds0, p0, q0, hargs, rfl, rfl, h0, r0⟩ := trodAll_cons hA
  obtain ⟨v1, vs1, d1, ds1, p1, q1, rfl, rfl, rfl, h1, r1⟩ := trodAll_cons r0
  obtain ⟨rfl, rfl, rfl⟩ := trodAll_nil r1
  obtain rfl : args = #[v0, v1] := by cases args; simp_all
  obtain ⟨rfl, rfl⟩ := trodVars_none hV
  have k0 := h0
  have lt0 : ∀ x ∈ p0, x.block < W.heap.size := by obtain ⟨m, hm⟩ := k0; exact DataW.trod_lt m _ _ _ hm
  obtain ⟨b0, l0, c0, rfl⟩ := okWide_slice Try.underlying46 (hval 0 46 v0 rfl rfl)
  obtain ⟨a0, w0, e0⟩ := arg_one (g := fun a => .isl _ (rows _ a)) opensU8S rfl h0
  have k1 := h1
  have lt1 : ∀ x ∈ p1, x.block < W.heap.size := by obtain ⟨m, hm⟩ := k1; exact DataW.trod_lt m _ _ _ hm
  obtain ⟨b1, l1, c1, rfl⟩ := okWide_slice Try.underlying46 (hval 1 46 v1 rfl rfl)
  obtain ⟨a1, w1, e1⟩ := arg_one (g := fun a => .isl _ (rows _ a)) opensU8S rfl h1
  clear hA0 hval0
  refine ((lawCrafts_ok a0 a1 w0 w1).2 W (fun k => k < W.heap.size) _ (fun _ h => h) (All2.cons e0 (All2.cons e1 All2.nil))).mono ?_
  rintro e W' ⟨v, r, gs', rfl, rfl, bel, hr⟩
  have hv : v = .bool true := by
    obtain ⟨-, -, hr⟩ := hr
    cases hr with
    | one hr => cases hr with
      | imm hr => cases hr; rfl
  subst hv
  exact ⟨_, rfl, _, _, _, [], _, [], hW', trodAll_mk1 (shut_bool Try.underlying4 _), (trodAll_cons_mk (Below.trod laidOutFnCrafts (by kernel_rfl) (of_decide_eq_true (by kernel_rfl)) k0 bel lt0) (trodAll_cons_mk (Below.trod laidOutFnCrafts (by kernel_rfl) (of_decide_eq_true (by kernel_rfl)) k1 bel lt1) trodAll_mk0)), rfl, bel.frame _, fun h => by cases h⟩

theorem and2FnCrafts {a b : Bool} (ha : a = true) (hb : b = true) : (a && b) = true := by rw [ha, hb]; rfl
theorem z0FnCrafts : (Rows.fnCraftsRow.wf (OpenSpec.ofChange Rows.fnCraftsSpec)) = true := by kernel_rfl
theorem z1FnCrafts : (laidOutB Try.pinned.checked.prog) = true := by kernel_rfl
theorem z2FnCrafts : (mapsRowed Try.pinned.checked.prog) = true := by kernel_rfl
theorem z3FnCrafts : (Try.f7.params.all (Try.pinned.checked.prog.readableRec ·)) = true := by kernel_rfl
theorem z4FnCrafts : (namedTie Try.pinned.checked.prog Rows.fnCraftsRow.named Rows.fnCraftsSpec.vars) = true := by kernel_rfl
theorem z5FnCrafts : ((Rows.fnCraftsRow.stops == [])) = true := by kernel_rfl
theorem z6FnCrafts : ((Try.pinned.checked.prog.stops == [])) = true := by kernel_rfl
theorem z7FnCrafts : ((Rows.fnCraftsRow.knobs == [])) = true := by kernel_rfl
theorem z8FnCrafts : ((Try.pinned.checked.prog.stopKnobs == [])) = true := by kernel_rfl
theorem z9FnCrafts : ((Rows.fnCraftsRow.inPlace == Try.pinned.checked.prog.inPlace 7)) = true := by kernel_rfl
theorem z10FnCrafts : ((Rows.fnCraftsRow.unfollowed == Try.pinned.checked.prog.unfollowed 7)) = true := by kernel_rfl
theorem z11FnCrafts : ((Rows.fnCraftsRow.recurses == Try.pinned.checked.prog.recurses 7)) = true := by kernel_rfl
theorem z12FnCrafts : ((Rows.fnCraftsRow.named == Try.pinned.checked.prog.varsNamed 7)) = true := by kernel_rfl
theorem z13FnCrafts : ((Rows.fnCraftsRow.maps == (Try.f7.params.toList ++ Rows.fnCraftsSpec.plain.varTypes Try.pinned.checked.prog).any (Try.pinned.checked.prog.mapsRec ·))) = true := by kernel_rfl
theorem z14FnCrafts : ((Rows.fnCraftsRow.ifaces == (Try.f7.params.toList ++ Rows.fnCraftsSpec.plain.varTypes Try.pinned.checked.prog).any (Try.pinned.checked.prog.ifacesRec ·))) = true := by kernel_rfl
theorem z15FnCrafts : ((Rows.fnCraftsRow.mapsOut == Try.pinned.checked.prog.mapsAmong Try.f7.resultTypes.toList)) = true := by kernel_rfl
theorem z16FnCrafts : ((Rows.fnCraftsRow.loops == (Try.f7.params.toList ++ Rows.fnCraftsSpec.plain.varTypes Try.pinned.checked.prog).any (Try.pinned.checked.prog.loopsFrom ·))) = true := by kernel_rfl
theorem z17FnCrafts : ((Rows.fnCraftsRow.wideKeys == (Try.f7.params.toList ++ Rows.fnCraftsSpec.plain.varTypes Try.pinned.checked.prog ++ Try.f7.resultTypes.toList).any (Try.pinned.checked.prog.wideKeysFrom ·))) = true := by kernel_rfl
theorem z18FnCrafts : (Rows.fnCraftsSpec.vars.all (Try.pinned.checked.prog.varReadable ·)) = true := by kernel_rfl
theorem z19FnCrafts : (Try.f7.resultTypes.all (fun t => Try.pinned.checked.prog.readableRec t && decide (t < Try.pinned.checked.prog.types.size))) = true := by kernel_rfl
theorem z20FnCrafts : ((Rows.fnCraftsRow.ifacesOut == Try.f7.resultTypes.toList.any (Try.pinned.checked.prog.ifacesRec ·))) = true := by kernel_rfl
theorem z21FnCrafts : ((Rows.fnCraftsRow.loopsOut == Try.f7.resultTypes.toList.any (Try.pinned.checked.prog.loopsFrom ·))) = true := by kernel_rfl
theorem z22FnCrafts : ((Rows.fnCraftsRow.plainKeys == Try.pinned.checked.prog.plainKeys)) = true := by kernel_rfl
theorem z23FnCrafts : (Rows.fnCraftsRow.shortTexts.isNone) = true := by kernel_rfl
theorem z24FnCrafts : (Try.pinned.checked.prog.stopsHeard) = true := by kernel_rfl
theorem z25FnCrafts : (Try.pinned.checked.prog.mayEnter) = true := by kernel_rfl
theorem z26FnCrafts : ((Rows.fnCraftsRow.lifted == Try.pinned.checked.prog.liftsFinal)) = true := by kernel_rfl
theorem z27FnCrafts : ((Try.pinned.checked.prog.make == some Rows.fnCraftsRow.make)) = true := by kernel_rfl
theorem z28FnCrafts : ((Rows.fnCraftsRow.kinds == (if Rows.fnCraftsRow.domain.isEmpty then [] else Try.f7.params.toList.map fun t => match Try.pinned.checked.prog.underlying t with | some (.int k) => some k | _ => none))) = true := by kernel_rfl
theorem z29FnCrafts : ((Rows.fnCraftsRow.pinned == Rows.fnCraftsRow.pinnedBy)) = true := by kernel_rfl
theorem z30FnCrafts : ((Rows.fnCraftsRow.veiled == (Try.f7.params.toList ++ Rows.fnCraftsSpec.plain.varTypes Try.pinned.checked.prog ++ Try.f7.resultTypes.toList).any (Try.pinned.checked.prog.veiledRec ·))) = true := by kernel_rfl
theorem z31FnCrafts : (Rows.fnCraftsRow.veiledFits Try.pinned.checked.prog Try.f7.params.toList (Try.f7.params.toList ++ Rows.fnCraftsSpec.plain.varTypes Try.pinned.checked.prog ++ Try.f7.resultTypes.toList)) = true := by kernel_rfl
theorem closedFnCrafts : joinedFacts Try.pinned.checked.prog 7 Try.f7 Rows.fnCraftsSpec Rows.fnCraftsRow = true := (and2FnCrafts (and2FnCrafts (and2FnCrafts (and2FnCrafts (and2FnCrafts (and2FnCrafts (and2FnCrafts (and2FnCrafts (and2FnCrafts (and2FnCrafts (and2FnCrafts (and2FnCrafts (and2FnCrafts (and2FnCrafts (and2FnCrafts (and2FnCrafts (and2FnCrafts (and2FnCrafts (and2FnCrafts (and2FnCrafts (and2FnCrafts (and2FnCrafts (and2FnCrafts (and2FnCrafts (and2FnCrafts (and2FnCrafts (and2FnCrafts (and2FnCrafts (and2FnCrafts (and2FnCrafts (and2FnCrafts z0FnCrafts z1FnCrafts) z2FnCrafts) z3FnCrafts) z4FnCrafts) z5FnCrafts) z6FnCrafts) z7FnCrafts) z8FnCrafts) z9FnCrafts) z10FnCrafts) z11FnCrafts) z12FnCrafts) z13FnCrafts) z14FnCrafts) z15FnCrafts) z16FnCrafts) z17FnCrafts) z18FnCrafts) z19FnCrafts) z20FnCrafts) z21FnCrafts) z22FnCrafts) z23FnCrafts) z24FnCrafts) z25FnCrafts) z26FnCrafts) z27FnCrafts) z28FnCrafts) z29FnCrafts) z30FnCrafts) z31FnCrafts)
theorem namedFnCrafts : Try.pinned.checked.prog.funcNamed Rows.fnCraftsRow.func = some 7 := by kernel_rfl

theorem overFnCrafts : Rows.fnCraftsRow.holds Try.pinned (OpenSpec.ofChange Rows.fnCraftsSpec) :=
  OpenClaim.holds_of_wide 7 Try.f7 rfl rfl rfl rfl rfl rfl rfl ⟨rfl, rfl, rfl, rfl, rfl⟩ rfl rfl rfl rfl rfl namedFnCrafts Try.func7 closedFnCrafts
    (of_decide_eq_true (by kernel_rfl)) (by unfold Func.isWrapper; first | (rw [if_pos (by decide +kernel)]; kernel_rfl) | (rw [if_neg (by decide +kernel)]; exact ⟨rfl, rfl⟩))
    (fun os started H enc _ => liftedFnCrafts os started H enc)

theorem provedFnCrafts : Rows.FnCraftsSaid := overFnCrafts
#print axioms provedFnCrafts
end Go.Proofs.Ytnamefdhmlbcpaa.Ai
