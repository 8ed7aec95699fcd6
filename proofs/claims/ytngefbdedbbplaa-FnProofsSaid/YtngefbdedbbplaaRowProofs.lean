/- Proved: for every input the law FnProofs returns true, and each argument reads afterwards as it read before. Conditions: none. -/
import Derived.Test.YtngefbdedbbplaaAiOpen
import Derived.Test.YtngefbdedbbplaaAiTypes
import Derived.Test.YtngefbdedbbplaaRows
import Derived.Test.YtngefbdedbbplaaLawProofs
import Derived.ProofKit
import Derived.OpenShut
import Derived.ShutString
namespace Go.Proofs.Ytngefbdedbbplaa.Ai
open Go Go.Proofs Go.ChangeShapes Go.WideShapes Go.ChangeAt Go.RowKit
set_option linter.unusedVariables false
set_option linter.unusedSimpArgs false
set_option maxRecDepth 100000

theorem opensU8 : Opens Try.prog 5 1 cU8 (fun x => 0 ≤ x ∧ x ≤ 255) := opens_u8 Try.underlying5 cells5
theorem opensU8S : Opens Try.prog 22 1 (fun xs => [.isl 1 (rows cU8 xs)]) (fun xs => ∀ x ∈ xs, 0 ≤ x ∧ x ≤ 255) := opens_slice Try.underlying22 cells22 (by decide) opensU8


theorem ownFnProofs : ownKnob Try.prog.godebug = none := by kernel_rfl
theorem laidOutFnProofs : laidOutB Try.prog = true := by kernel_rfl

set_option maxRecDepth 100000 in
theorem liftedFnProofs (os : Os) (started : os.Started) (H : Type) (enc : TypeId × Value → H) :
    ReturnsInHanded {} Try.checked os 3 .any (Rows.fnProofsSpec.pre6 enc Try.prog Try.f3 Rows.fnProofsRow.domain false) (Rows.fnProofsSpec.post enc Try.prog Try.f3 false true false false) := by
  refine returnsInHanded_of_change (C := Try.checked) ownFnProofs started (by kernel_rfl) Try.func3
    (ChangeSpec.witness6 (enc := enc) (C := Try.checked) false ⟨#[], #[.slice none 0 0, .slice none 0 0], []⟩ 8 (by kernel_rfl) (by kernel_rfl) (by kernel_rfl) (by kernel_rfl)) ?_
  intro W base args ds gs before hval0 hW hcnd _
  have hval : ∀ (j : Nat) t v, Try.f3.params[j]? = some t → args[j]? = some v → Value.okWide Try.prog W .any base t v := hval0
  have hW' := hW
  obtain ⟨p, q, hA0, hV, rfl, hfz, hnd⟩ := hW
  have hA : DataW.TrodAll enc Try.prog W 0 (fun _ => true) true Try.f3.params.toList args.toList ds p := hA0
  rw [Try.params3] at hA hval
  obtain ⟨v0, vs0, d0, ds0, p0, q0, hargs, rfl, rfl, h0, r0⟩ := trodAll_cons hA
  obtain ⟨v1, vs1, d1, ds1, p1, q1, rfl, rfl, rfl, h1, r1⟩ := trodAll_cons r0
  obtain ⟨rfl, rfl, rfl⟩ := trodAll_nil r1
  obtain rfl : args = #[v0, v1] := by cases args; simp_all
  obtain ⟨rfl, rfl⟩ := trodVars_none hV
  have k0 := h0
  have lt0 : ∀ x ∈ p0, x.block < W.heap.size := by obtain ⟨m, hm⟩ := k0; exact DataW.trod_lt m _ _ _ hm
  obtain ⟨b0, l0, c0, rfl⟩ := okWide_slice Try.underlying22 (hval 0 22 v0 rfl rfl)
  obtain ⟨a0, w0, e0⟩ := arg_one (g := fun a => .isl _ (rows _ a)) opensU8S rfl h0
  have k1 := h1
  have lt1 : ∀ x ∈ p1, x.block < W.heap.size := by obtain ⟨m, hm⟩ := k1; exact DataW.trod_lt m _ _ _ hm
  obtain ⟨b1, l1, c1, rfl⟩ := okWide_slice Try.underlying22 (hval 1 22 v1 rfl rfl)
  obtain ⟨a1, w1, e1⟩ := arg_one (g := fun a => .isl _ (rows _ a)) opensU8S rfl h1
  clear hA0 hval0
  refine ((lawProofs_ok a0 a1 w0 w1).2 W (fun k => k < W.heap.size) _ ⟨fun _ h => h, W.heap.size, Nat.le_refl _, Good.triv _ _⟩ (All2.cons e0 (All2.cons e1 All2.nil))).mono ?_
  rintro e W' ⟨v, r, gs', rfl, rfl, bel, hr⟩
  have hv : v = .bool true := by
    obtain ⟨-, -, hr⟩ := hr
    cases hr with
    | one hr => cases hr with
      | imm hr => cases hr; rfl
  subst hv
  exact ⟨_, rfl, _, _, _, [], _, [], hW', trodAll_mk1 (shut_bool Try.underlying4 _), (trodAll_cons_mk (Below.trod laidOutFnProofs (by kernel_rfl) (of_decide_eq_true (by kernel_rfl)) k0 bel lt0) (trodAll_cons_mk (Below.trod laidOutFnProofs (by kernel_rfl) (of_decide_eq_true (by kernel_rfl)) k1 bel lt1) trodAll_mk0)), rfl, bel.frame _, fun h => by cases h⟩

theorem and2FnProofs {a b : Bool} (ha : a = true) (hb : b = true) : (a && b) = true := by rw [ha, hb]; rfl
theorem z0FnProofs : (Rows.fnProofsRow.wf (OpenSpec.ofChange Rows.fnProofsSpec)) = true := by kernel_rfl
theorem z1FnProofs : (laidOutB Try.pinned.checked.prog) = true := by kernel_rfl
theorem z2FnProofs : (mapsRowed Try.pinned.checked.prog) = true := by kernel_rfl
theorem z3FnProofs : (Try.f3.params.all (Try.pinned.checked.prog.readableRec ·)) = true := by kernel_rfl
theorem z4FnProofs : (namedTie Try.pinned.checked.prog Rows.fnProofsRow.named Rows.fnProofsSpec.vars) = true := by kernel_rfl
theorem z5FnProofs : ((Rows.fnProofsRow.stops == [])) = true := by kernel_rfl
theorem z6FnProofs : ((Try.pinned.checked.prog.stops == [])) = true := by kernel_rfl
theorem z7FnProofs : ((Rows.fnProofsRow.knobs == [])) = true := by kernel_rfl
theorem z8FnProofs : ((Try.pinned.checked.prog.stopKnobs == [])) = true := by kernel_rfl
theorem z9FnProofs : ((Rows.fnProofsRow.inPlace == Try.pinned.checked.prog.inPlace 3)) = true := by kernel_rfl
theorem z10FnProofs : ((Rows.fnProofsRow.unfollowed == Try.pinned.checked.prog.unfollowed 3)) = true := by kernel_rfl
theorem z11FnProofs : ((Rows.fnProofsRow.recurses == Try.pinned.checked.prog.recurses 3)) = true := by kernel_rfl
theorem z12FnProofs : ((Rows.fnProofsRow.named == Try.pinned.checked.prog.varsNamed 3)) = true := by kernel_rfl
theorem z13FnProofs : ((Rows.fnProofsRow.maps == (Try.f3.params.toList ++ Rows.fnProofsSpec.plain.varTypes Try.pinned.checked.prog).any (Try.pinned.checked.prog.mapsRec ·))) = true := by kernel_rfl
theorem z14FnProofs : ((Rows.fnProofsRow.ifaces == (Try.f3.params.toList ++ Rows.fnProofsSpec.plain.varTypes Try.pinned.checked.prog).any (Try.pinned.checked.prog.ifacesRec ·))) = true := by kernel_rfl
theorem z15FnProofs : ((Rows.fnProofsRow.mapsOut == Try.pinned.checked.prog.mapsAmong Try.f3.resultTypes.toList)) = true := by kernel_rfl
theorem z16FnProofs : ((Rows.fnProofsRow.loops == (Try.f3.params.toList ++ Rows.fnProofsSpec.plain.varTypes Try.pinned.checked.prog).any (Try.pinned.checked.prog.loopsFrom ·))) = true := by kernel_rfl
theorem z17FnProofs : ((Rows.fnProofsRow.wideKeys == (Try.f3.params.toList ++ Rows.fnProofsSpec.plain.varTypes Try.pinned.checked.prog ++ Try.f3.resultTypes.toList).any (Try.pinned.checked.prog.wideKeysFrom ·))) = true := by kernel_rfl
theorem z18FnProofs : (Rows.fnProofsSpec.vars.all (Try.pinned.checked.prog.varReadable ·)) = true := by kernel_rfl
theorem z19FnProofs : (Try.f3.resultTypes.all (fun t => Try.pinned.checked.prog.readableRec t && decide (t < Try.pinned.checked.prog.types.size))) = true := by kernel_rfl
theorem z20FnProofs : ((Rows.fnProofsRow.ifacesOut == Try.f3.resultTypes.toList.any (Try.pinned.checked.prog.ifacesRec ·))) = true := by kernel_rfl
theorem z21FnProofs : ((Rows.fnProofsRow.loopsOut == Try.f3.resultTypes.toList.any (Try.pinned.checked.prog.loopsFrom ·))) = true := by kernel_rfl
theorem z22FnProofs : ((Rows.fnProofsRow.plainKeys == Try.pinned.checked.prog.plainKeys)) = true := by kernel_rfl
theorem z23FnProofs : (Rows.fnProofsRow.shortTexts.isNone) = true := by kernel_rfl
theorem z24FnProofs : (Try.pinned.checked.prog.stopsHeard) = true := by kernel_rfl
theorem z25FnProofs : (Try.pinned.checked.prog.mayEnter) = true := by kernel_rfl
theorem z26FnProofs : ((Rows.fnProofsRow.lifted == Try.pinned.checked.prog.liftsFinal)) = true := by kernel_rfl
theorem z27FnProofs : ((Try.pinned.checked.prog.make == some Rows.fnProofsRow.make)) = true := by kernel_rfl
theorem z28FnProofs : ((Rows.fnProofsRow.kinds == (if Rows.fnProofsRow.domain.isEmpty then [] else Try.f3.params.toList.map fun t => match Try.pinned.checked.prog.underlying t with | some (.int k) => some k | _ => none))) = true := by kernel_rfl
theorem z29FnProofs : ((Rows.fnProofsRow.pinned == Rows.fnProofsRow.pinnedBy)) = true := by kernel_rfl
theorem z30FnProofs : ((Rows.fnProofsRow.veiled == (Try.f3.params.toList ++ Rows.fnProofsSpec.plain.varTypes Try.pinned.checked.prog ++ Try.f3.resultTypes.toList).any (Try.pinned.checked.prog.veiledRec ·))) = true := by kernel_rfl
theorem z31FnProofs : (Rows.fnProofsRow.veiledFits Try.pinned.checked.prog Try.f3.params.toList (Try.f3.params.toList ++ Rows.fnProofsSpec.plain.varTypes Try.pinned.checked.prog ++ Try.f3.resultTypes.toList)) = true := by kernel_rfl
theorem closedFnProofs : joinedFacts Try.pinned.checked.prog 3 Try.f3 Rows.fnProofsSpec Rows.fnProofsRow = true := (and2FnProofs (and2FnProofs (and2FnProofs (and2FnProofs (and2FnProofs (and2FnProofs (and2FnProofs (and2FnProofs (and2FnProofs (and2FnProofs (and2FnProofs (and2FnProofs (and2FnProofs (and2FnProofs (and2FnProofs (and2FnProofs (and2FnProofs (and2FnProofs (and2FnProofs (and2FnProofs (and2FnProofs (and2FnProofs (and2FnProofs (and2FnProofs (and2FnProofs (and2FnProofs (and2FnProofs (and2FnProofs (and2FnProofs (and2FnProofs (and2FnProofs z0FnProofs z1FnProofs) z2FnProofs) z3FnProofs) z4FnProofs) z5FnProofs) z6FnProofs) z7FnProofs) z8FnProofs) z9FnProofs) z10FnProofs) z11FnProofs) z12FnProofs) z13FnProofs) z14FnProofs) z15FnProofs) z16FnProofs) z17FnProofs) z18FnProofs) z19FnProofs) z20FnProofs) z21FnProofs) z22FnProofs) z23FnProofs) z24FnProofs) z25FnProofs) z26FnProofs) z27FnProofs) z28FnProofs) z29FnProofs) z30FnProofs) z31FnProofs)
theorem namedFnProofs : Try.pinned.checked.prog.funcNamed Rows.fnProofsRow.func = some 3 := by kernel_rfl

theorem overFnProofs : Rows.fnProofsRow.holds Try.pinned (OpenSpec.ofChange Rows.fnProofsSpec) :=
  OpenClaim.holds_of_wide 3 Try.f3 rfl rfl rfl rfl rfl rfl rfl ⟨rfl, rfl, rfl, rfl, rfl⟩ rfl rfl rfl rfl rfl namedFnProofs Try.func3 closedFnProofs
    (of_decide_eq_true (by kernel_rfl)) (by unfold Func.isWrapper; first | (rw [if_pos (by decide +kernel)]; kernel_rfl) | (rw [if_neg (by decide +kernel)]; exact ⟨rfl, rfl⟩))
    (fun os started H enc _ => liftedFnProofs os started H enc)

theorem provedFnProofs : Rows.FnProofsSaid := overFnProofs
#print axioms provedFnProofs

end Go.Proofs.Ytngefbdedbbplaa.Ai
