/- Proved: for every input the law FnStates returns true, and each argument reads afterwards as it read before. Conditions: none. -/
import Derived.Test.YtngefbdedbbplaaAiOpen
import Derived.Test.YtngefbdedbbplaaAiTypes
import Derived.Test.YtngefbdedbbplaaRows
import Derived.Test.YtngefbdedbbplaaLawStates
import Derived.ProofKit
import Derived.OpenShut
import Derived.ShutString
namespace Go.Proofs.Ytngefbdedbbplaa.Ai
open Go Go.Proofs Go.ChangeShapes Go.WideShapes Go.ChangeAt Go.RowKit
set_option linter.unusedVariables false
set_option linter.unusedSimpArgs false
set_option maxRecDepth 100000

theorem opensU8 : Opens Try.prog 5 1 cU8 (fun x => 0 ≤ x ∧ x ≤ 255) := opens_u8 Try.underlying5 cells5
theorem opensU8S : Opens Try.prog 22 1 (fun xs => [.isl 1 (rows cU8 xs)]) (fun xs => ∀ x ∈ xs, 0 ≤ x ∧ x ≤ 255) := opens_slice Try.underlying22 cells22 (by decide) opensU8


theorem ownFnStates : ownKnob Try.prog.godebug = none := by kernel_rfl
theorem laidOutFnStates : laidOutB Try.prog = true := by kernel_rfl

set_option maxRecDepth 100000 in
theorem liftedFnStates (os : Os) (started : os.Started) (H : Type) (enc : TypeId × Value → H) :
    ReturnsInHanded {} Try.checked os 4 .any (Rows.fnStatesSpec.pre6 enc Try.prog Try.f4 Rows.fnStatesRow.domain false) (Rows.fnStatesSpec.post enc Try.prog Try.f4 false true false false) := by
  refine returnsInHanded_of_change (C := Try.checked) ownFnStates started (by kernel_rfl) Try.func4
    (ChangeSpec.witness6 (enc := enc) (C := Try.checked) false ⟨#[], #[.slice none 0 0, .slice none 0 0], []⟩ 8 (by kernel_rfl) (by kernel_rfl) (by kernel_rfl) (by kernel_rfl)) ?_
  intro W base args ds gs before hval0 hW hcnd _
  have hval : ∀ (j : Nat) t v, Try.f4.params[j]? = some t → args[j]? = some v → Value.okWide Try.prog W .any base t v := hval0
  have hW' := hW
  obtain ⟨p, q, hA0, hV, rfl, hfz, hnd⟩ := hW
  have hA : DataW.TrodAll enc Try.prog W 0 (fun _ => true) true Try.f4.params.toList args.toList ds p := hA0
  rw [Try.params4] at hA hval
  obtain ⟨v0, vs0, d0, ds0, p0, q0, hargs, rfl, rfl, h0, r0⟩ := trodAll_cons hA
  obtain ⟨v1, vs1, d1, ds1, p1, q1, rfl, rfl, rfl, h1, r1⟩ := trodAll_cons r0
  obtain ⟨rfl, rfl, rfl⟩ := trodAll_nil r1
  obtain rfl : args = #[v0, v1] := by cases args; simp_all
  obtain ⟨rfl, rfl⟩ := trodVars_none hV
  have k0 := h0
  have lt0 : ∀ x ∈ p0, x.block < W.heap.size := by obtain ⟨m, hm⟩ := k0; exact DataW.trod_lt m _ _ _ hm
  obtain ⟨b0, l0, c0, rfl⟩ := okWide_slice Try.underlying22 (hval 0 22 v0 rfl rfl)
  obtain ⟨a0, w0, e0⟩ := arg_one (g := fun a => .isl _ (rows _ a)) opensU8S rfl h0
  have k1 := h1
  have lt1 : ∀ x ∈ p1, x.block < W.heap.size := by obtain ⟨m, hm⟩ := k1; exact DataW.trod_lt m _ _ _ hm
  obtain ⟨b1, l1, c1, rfl⟩ := okWide_slice Try.underlying22 (hval 1 22 v1 rfl rfl)
  obtain ⟨a1, w1, e1⟩ := arg_one (g := fun a => .isl _ (rows _ a)) opensU8S rfl h1
  clear hA0 hval0
  refine ((lawStates_ok a0 a1 w0 w1).2 W (fun k => k < W.heap.size) _ ⟨fun _ h => h, W.heap.size, Nat.le_refl _, Good.triv _ _⟩ (All2.cons e0 (All2.cons e1 All2.nil))).mono ?_
  rintro e W' ⟨v, r, gs', rfl, rfl, bel, hr⟩
  have hv : v = .bool true := by
    obtain ⟨-, -, hr⟩ := hr
    cases hr with
    | one hr => cases hr with
      | imm hr => cases hr; rfl
  subst hv
  exact ⟨_, rfl, _, _, _, [], _, [], hW', trodAll_mk1 (shut_bool Try.underlying4 _), (trodAll_cons_mk (Below.trod laidOutFnStates (by kernel_rfl) (of_decide_eq_true (by kernel_rfl)) k0 bel lt0) (trodAll_cons_mk (Below.trod laidOutFnStates (by kernel_rfl) (of_decide_eq_true (by kernel_rfl)) k1 bel lt1) trodAll_mk0)), rfl, bel.frame _, fun h => by cases h⟩

theorem and2FnStates {a b : Bool} (ha : a = true) (hb : b = true) : (a && b) = true := by rw [ha, hb]; rfl
theorem z0FnStates : (Rows.fnStatesRow.wf (OpenSpec.ofChange Rows.fnStatesSpec)) = true := by kernel_rfl
theorem z1FnStates : (laidOutB Try.pinned.checked.prog) = true := by kernel_rfl
theorem z2FnStates : (mapsRowed Try.pinned.checked.prog) = true := by kernel_rfl
theorem z3FnStates : (Try.f4.params.all (Try.pinned.checked.prog.readableRec ·)) = true := by kernel_rfl
theorem z4FnStates : (namedTie Try.pinned.checked.prog Rows.fnStatesRow.named Rows.fnStatesSpec.vars) = true := by kernel_rfl
theorem z5FnStates : ((Rows.fnStatesRow.stops == [])) = true := by kernel_rfl
theorem z6FnStates : ((Try.pinned.checked.prog.stops == [])) = true := by kernel_rfl
theorem z7FnStates : ((Rows.fnStatesRow.knobs == [])) = true := by kernel_rfl
theorem z8FnStates : ((Try.pinned.checked.prog.stopKnobs == [])) = true := by kernel_rfl
theorem z9FnStates : ((Rows.fnStatesRow.inPlace == Try.pinned.checked.prog.inPlace 4)) = true := by kernel_rfl
theorem z10FnStates : ((Rows.fnStatesRow.unfollowed == Try.pinned.checked.prog.unfollowed 4)) = true := by kernel_rfl
theorem z11FnStates : ((Rows.fnStatesRow.recurses == Try.pinned.checked.prog.recurses 4)) = true := by kernel_rfl
theorem z12FnStates : ((Rows.fnStatesRow.named == Try.pinned.checked.prog.varsNamed 4)) = true := by kernel_rfl
theorem z13FnStates : ((Rows.fnStatesRow.maps == (Try.f4.params.toList ++ Rows.fnStatesSpec.plain.varTypes Try.pinned.checked.prog).any (Try.pinned.checked.prog.mapsRec ·))) = true := by kernel_rfl
theorem z14FnStates : ((Rows.fnStatesRow.ifaces == (Try.f4.params.toList ++ Rows.fnStatesSpec.plain.varTypes Try.pinned.checked.prog).any (Try.pinned.checked.prog.ifacesRec ·))) = true := by kernel_rfl
theorem z15FnStates : ((Rows.fnStatesRow.mapsOut == Try.pinned.checked.prog.mapsAmong Try.f4.resultTypes.toList)) = true := by kernel_rfl
theorem z16FnStates : ((Rows.fnStatesRow.loops == (Try.f4.params.toList ++ Rows.fnStatesSpec.plain.varTypes Try.pinned.checked.prog).any (Try.pinned.checked.prog.loopsFrom ·))) = true := by kernel_rfl
theorem z17FnStates : ((Rows.fnStatesRow.wideKeys == (Try.f4.params.toList ++ Rows.fnStatesSpec.plain.varTypes Try.pinned.checked.prog ++ Try.f4.resultTypes.toList).any (Try.pinned.checked.prog.wideKeysFrom ·))) = true := by kernel_rfl
theorem z18FnStates : (Rows.fnStatesSpec.vars.all (Try.pinned.checked.prog.varReadable ·)) = true := by kernel_rfl
theorem z19FnStates : (Try.f4.resultTypes.all (fun t => Try.pinned.checked.prog.readableRec t && decide (t < Try.pinned.checked.prog.types.size))) = true := by kernel_rfl
theorem z20FnStates : ((Rows.fnStatesRow.ifacesOut == Try.f4.resultTypes.toList.any (Try.pinned.checked.prog.ifacesRec ·))) = true := by kernel_rfl
theorem z21FnStates : ((Rows.fnStatesRow.loopsOut == Try.f4.resultTypes.toList.any (Try.pinned.checked.prog.loopsFrom ·))) = true := by kernel_rfl
theorem z22FnStates : ((Rows.fnStatesRow.plainKeys == Try.pinned.checked.prog.plainKeys)) = true := by kernel_rfl
theorem z23FnStates : (Rows.fnStatesRow.shortTexts.isNone) = true := by kernel_rfl
theorem z24FnStates : (Try.pinned.checked.prog.stopsHeard) = true := by kernel_rfl
theorem z25FnStates : (Try.pinned.checked.prog.mayEnter) = true := by kernel_rfl
theorem z26FnStates : ((Rows.fnStatesRow.lifted == Try.pinned.checked.prog.liftsFinal)) = true := by kernel_rfl
theorem z27FnStates : ((Try.pinned.checked.prog.make == some Rows.fnStatesRow.make)) = true := by kernel_rfl
theorem z28FnStates : ((Rows.fnStatesRow.kinds == (if Rows.fnStatesRow.domain.isEmpty then [] else Try.f4.params.toList.map fun t => match Try.pinned.checked.prog.underlying t with | some (.int k) => some k | _ => none))) = true := by kernel_rfl
theorem z29FnStates : ((Rows.fnStatesRow.pinned == Rows.fnStatesRow.pinnedBy)) = true := by kernel_rfl
theorem z30FnStates : ((Rows.fnStatesRow.veiled == (Try.f4.params.toList ++ Rows.fnStatesSpec.plain.varTypes Try.pinned.checked.prog ++ Try.f4.resultTypes.toList).any (Try.pinned.checked.prog.veiledRec ·))) = true := by kernel_rfl
theorem z31FnStates : (Rows.fnStatesRow.veiledFits Try.pinned.checked.prog Try.f4.params.toList (Try.f4.params.toList ++ Rows.fnStatesSpec.plain.varTypes Try.pinned.checked.prog ++ Try.f4.resultTypes.toList)) = true := by kernel_rfl
theorem closedFnStates : joinedFacts Try.pinned.checked.prog 4 Try.f4 Rows.fnStatesSpec Rows.fnStatesRow = true := (and2FnStates (and2FnStates (and2FnStates (and2FnStates (and2FnStates (and2FnStates (and2FnStates (and2FnStates (and2FnStates (and2FnStates (and2FnStates (and2FnStates (and2FnStates (and2FnStates (and2FnStates (and2FnStates (and2FnStates (and2FnStates (and2FnStates (and2FnStates (and2FnStates (and2FnStates (and2FnStates (and2FnStates (and2FnStates (and2FnStates (and2FnStates (and2FnStates (and2FnStates (and2FnStates (and2FnStates z0FnStates z1FnStates) z2FnStates) z3FnStates) z4FnStates) z5FnStates) z6FnStates) z7FnStates) z8FnStates) z9FnStates) z10FnStates) z11FnStates) z12FnStates) z13FnStates) z14FnStates) z15FnStates) z16FnStates) z17FnStates) z18FnStates) z19FnStates) z20FnStates) z21FnStates) z22FnStates) z23FnStates) z24FnStates) z25FnStates) z26FnStates) z27FnStates) z28FnStates) z29FnStates) z30FnStates) z31FnStates)
theorem namedFnStates : Try.pinned.checked.prog.funcNamed Rows.fnStatesRow.func = some 4 := by kernel_rfl

theorem overFnStates : Rows.fnStatesRow.holds Try.pinned (OpenSpec.ofChange Rows.fnStatesSpec) :=
  OpenClaim.holds_of_wide 4 Try.f4 rfl rfl rfl rfl rfl rfl rfl ⟨rfl, rfl, rfl, rfl, rfl⟩ rfl rfl rfl rfl rfl namedFnStates Try.func4 closedFnStates
    (of_decide_eq_true (by kernel_rfl)) (by unfold Func.isWrapper; first | (rw [if_pos (by decide +kernel)]; kernel_rfl) | (rw [if_neg (by decide +kernel)]; exact ⟨rfl, rfl⟩))
    (fun os started H enc _ => liftedFnStates os started H enc)

theorem provedFnStates : Rows.FnStatesSaid := overFnStates
#print axioms provedFnStates

end Go.Proofs.Ytngefbdedbbplaa.Ai
