/- Proved: for every input the law FnCreeps returns true, and each argument reads afterwards as it read before. Conditions: none. -/
import Derived.Test.YtnanackogloioaaRows
import Derived.Test.YtnanackogloioaaAiOpen
import Derived.Test.YtnanackogloioaaLawCreeps
import Derived.Test.YtnanackogloioaaOpensU8
import Derived.ProofKit
import Derived.OpenShut
import Derived.ShutString
namespace Go.Proofs.Ytnanackogloioaa.Ai
open Go Go.Proofs Go.ChangeShapes Go.WideShapes Go.ChangeAt Go.RowKit
set_option linter.unusedVariables false
set_option maxRecDepth 100000

theorem ownFnCreeps : ownKnob Try.prog.godebug = none := by kernel_rfl
theorem laidOutFnCreeps : laidOutB Try.prog = true := by kernel_rfl

set_option maxRecDepth 100000 in
theorem liftedFnCreeps (os : Os) (started : os.Started) (H : Type) (enc : TypeId × Value → H) :
    ReturnsInHanded {} Try.checked os 5 .any (Rows.fnCreepsSpec.pre6 enc Try.prog Try.f5 Rows.fnCreepsRow.domain false) (Rows.fnCreepsSpec.post enc Try.prog Try.f5 false true false false) := by
  refine returnsInHanded_of_change (C := Try.checked) ownFnCreeps started (by kernel_rfl) Try.func5
    (ChangeSpec.witness6 (enc := enc) (C := Try.checked) false ⟨#[], #[.slice none 0 0, .slice none 0 0], []⟩ 8 (by kernel_rfl) (by kernel_rfl) (by kernel_rfl) (by kernel_rfl)) ?_
  intro W base args ds gs before hval0 hW hcnd _
  have hval : ∀ (j : Nat) t v, Try.f5.params[j]? = some t → args[j]? = some v → Value.okWide Try.prog W .any base t v := hval0
  have hW' := hW
  obtain ⟨p, q, hA0, hV, rfl, hfz, hnd⟩ := hW
  have hA : DataW.TrodAll enc Try.prog W 0 (fun _ => true) true Try.f5.params.toList args.toList ds p := hA0
  rw [Try.params5] at hA hval
  obtain ⟨v0, vs0, d0, ds0, p0, q0, hargs, rfl, rfl, h0, r0⟩ := trodAll_cons hA
  obtain ⟨v1, vs1, d1, ds1, p1, q1, rfl, rfl, rfl, h1, r1⟩ := trodAll_cons r0
  obtain ⟨rfl, rfl, rfl⟩ := trodAll_nil r1
  obtain rfl : args = #[v0, v1] := by cases args; simp_all
  obtain ⟨rfl, rfl⟩ := trodVars_none hV
  have k0 := h0
  have lt0 : ∀ x ∈ p0, x.block < W.heap.size := by obtain ⟨m, hm⟩ := k0; exact DataW.trod_lt m _ _ _ hm
  obtain ⟨b0, l0, c0, rfl⟩ := okWide_slice Try.underlying22 (hval 0 22 v0 rfl rfl)
  obtain ⟨a0, w0, e0⟩ := arg_one (g := fun a => .isl _ (rows _ a)) opensU8S rfl h0
  have k1 := h1
  have lt1 : ∀ x ∈ p1, x.block < W.heap.size := by obtain ⟨m, hm⟩ := k1; exact DataW.trod_lt m _ _ _ hm
  obtain ⟨b1, l1, c1, rfl⟩ := okWide_slice Try.underlying22 (hval 1 22 v1 rfl rfl)
  obtain ⟨a1, w1, e1⟩ := arg_one (g := fun a => .isl _ (rows _ a)) opensU8S rfl h1
  clear hA0 hval0
  refine ((lawCreeps_ok a0 a1 w0 w1).2 W (fun k => k < W.heap.size) _ (fun _ h => h) (All2.cons e0 (All2.cons e1 All2.nil))).mono ?_
  rintro e W' ⟨v, r, gs', rfl, rfl, bel, hr⟩
  have hv : v = .bool true := by
    obtain ⟨-, -, hr⟩ := hr
    cases hr with
    | one hr => cases hr with
      | imm hr => cases hr; rfl
  subst hv
  exact ⟨_, rfl, _, _, _, [], _, [], hW', trodAll_mk1 (shut_bool Try.underlying4 _), (trodAll_cons_mk (Below.trod laidOutFnCreeps (by kernel_rfl) (of_decide_eq_true (by kernel_rfl)) k0 bel lt0) (trodAll_cons_mk (Below.trod laidOutFnCreeps (by kernel_rfl) (of_decide_eq_true (by kernel_rfl)) k1 bel lt1) trodAll_mk0)), rfl, bel.frame _, fun h => by cases h⟩

theorem and2FnCreeps {a b : Bool} (ha : a = true) (hb : b = true) : (a && b) = true := by rw [ha, hb]; rfl
theorem z0FnCreeps : (Rows.fnCreepsRow.wf (OpenSpec.ofChange Rows.fnCreepsSpec)) = true := by kernel_rfl
theorem z1FnCreeps : (laidOutB Try.pinned.checked.prog) = true := by kernel_rfl
theorem z2FnCreeps : (mapsRowed Try.pinned.checked.prog) = true := by kernel_rfl
theorem z3FnCreeps : (Try.f5.params.all (Try.pinned.checked.prog.readableRec ·)) = true := by kernel_rfl
theorem z4FnCreeps : (namedTie Try.pinned.checked.prog Rows.fnCreepsRow.named Rows.fnCreepsSpec.vars) = true := by kernel_rfl
theorem z5FnCreeps : ((Rows.fnCreepsRow.stops == [])) = true := by kernel_rfl
theorem z6FnCreeps : ((Try.pinned.checked.prog.stops == [])) = true := by kernel_rfl
theorem z7FnCreeps : ((Rows.fnCreepsRow.knobs == [])) = true := by kernel_rfl
theorem z8FnCreeps : ((Try.pinned.checked.prog.stopKnobs == [])) = true := by kernel_rfl
theorem z9FnCreeps : ((Rows.fnCreepsRow.inPlace == Try.pinned.checked.prog.inPlace 5)) = true := by kernel_rfl
theorem z10FnCreeps : ((Rows.fnCreepsRow.unfollowed == Try.pinned.checked.prog.unfollowed 5)) = true := by kernel_rfl
theorem z11FnCreeps : ((Rows.fnCreepsRow.recurses == Try.pinned.checked.prog.recurses 5)) = true := by kernel_rfl
theorem z12FnCreeps : ((Rows.fnCreepsRow.named == Try.pinned.checked.prog.varsNamed 5)) = true := by kernel_rfl
theorem z13FnCreeps : ((Rows.fnCreepsRow.maps == (Try.f5.params.toList ++ Rows.fnCreepsSpec.plain.varTypes Try.pinned.checked.prog).any (Try.pinned.checked.prog.mapsRec ·))) = true := by kernel_rfl
theorem z14FnCreeps : ((Rows.fnCreepsRow.ifaces == (Try.f5.params.toList ++ Rows.fnCreepsSpec.plain.varTypes Try.pinned.checked.prog).any (Try.pinned.checked.prog.ifacesRec ·))) = true := by kernel_rfl
theorem z15FnCreeps : ((Rows.fnCreepsRow.mapsOut == Try.pinned.checked.prog.mapsAmong Try.f5.resultTypes.toList)) = true := by kernel_rfl
theorem z16FnCreeps : ((Rows.fnCreepsRow.loops == (Try.f5.params.toList ++ Rows.fnCreepsSpec.plain.varTypes Try.pinned.checked.prog).any (Try.pinned.checked.prog.loopsFrom ·))) = true := by kernel_rfl
theorem z17FnCreeps : ((Rows.fnCreepsRow.wideKeys == (Try.f5.params.toList ++ Rows.fnCreepsSpec.plain.varTypes Try.pinned.checked.prog ++ Try.f5.resultTypes.toList).any (Try.pinned.checked.prog.wideKeysFrom ·))) = true := by kernel_rfl
theorem z18FnCreeps : (Rows.fnCreepsSpec.vars.all (Try.pinned.checked.prog.varReadable ·)) = true := by kernel_rfl
theorem z19FnCreeps : (Try.f5.resultTypes.all (fun t => Try.pinned.checked.prog.readableRec t && decide (t < Try.pinned.checked.prog.types.size))) = true := by kernel_rfl
theorem z20FnCreeps : ((Rows.fnCreepsRow.ifacesOut == Try.f5.resultTypes.toList.any (Try.pinned.checked.prog.ifacesRec ·))) = true := by kernel_rfl
theorem z21FnCreeps : ((Rows.fnCreepsRow.loopsOut == Try.f5.resultTypes.toList.any (Try.pinned.checked.prog.loopsFrom ·))) = true := by kernel_rfl
theorem z22FnCreeps : ((Rows.fnCreepsRow.plainKeys == Try.pinned.checked.prog.plainKeys)) = true := by kernel_rfl
theorem z23FnCreeps : (Rows.fnCreepsRow.shortTexts.isNone) = true := by kernel_rfl
theorem z24FnCreeps : (Try.pinned.checked.prog.stopsHeard) = true := by kernel_rfl
theorem z25FnCreeps : (Try.pinned.checked.prog.mayEnter) = true := by kernel_rfl
theorem z26FnCreeps : ((Rows.fnCreepsRow.lifted == Try.pinned.checked.prog.liftsFinal)) = true := by kernel_rfl
theorem z27FnCreeps : ((Try.pinned.checked.prog.make == some Rows.fnCreepsRow.make)) = true := by kernel_rfl
theorem z28FnCreeps : ((Rows.fnCreepsRow.kinds == (if Rows.fnCreepsRow.domain.isEmpty then [] else Try.f5.params.toList.map fun t => match Try.pinned.checked.prog.underlying t with | some (.int k) => some k | _ => none))) = true := by kernel_rfl
theorem z29FnCreeps : ((Rows.fnCreepsRow.pinned == Rows.fnCreepsRow.pinnedBy)) = true := by kernel_rfl
theorem z30FnCreeps : ((Rows.fnCreepsRow.veiled == (Try.f5.params.toList ++ Rows.fnCreepsSpec.plain.varTypes Try.pinned.checked.prog ++ Try.f5.resultTypes.toList).any (Try.pinned.checked.prog.veiledRec ·))) = true := by kernel_rfl
theorem z31FnCreeps : (Rows.fnCreepsRow.veiledFits Try.pinned.checked.prog Try.f5.params.toList (Try.f5.params.toList ++ Rows.fnCreepsSpec.plain.varTypes Try.pinned.checked.prog ++ Try.f5.resultTypes.toList)) = true := by kernel_rfl
theorem closedFnCreeps : joinedFacts Try.pinned.checked.prog 5 Try.f5 Rows.fnCreepsSpec Rows.fnCreepsRow = true := (and2FnCreeps (and2FnCreeps (and2FnCreeps (and2FnCreeps (and2FnCreeps (and2FnCreeps (and2FnCreeps (and2FnCreeps (and2FnCreeps (and2FnCreeps (and2FnCreeps (and2FnCreeps (and2FnCreeps (and2FnCreeps (and2FnCreeps (and2FnCreeps (and2FnCreeps (and2FnCreeps (and2FnCreeps (and2FnCreeps (and2FnCreeps (and2FnCreeps (and2FnCreeps (and2FnCreeps (and2FnCreeps (and2FnCreeps (and2FnCreeps (and2FnCreeps (and2FnCreeps (and2FnCreeps (and2FnCreeps z0FnCreeps z1FnCreeps) z2FnCreeps) z3FnCreeps) z4FnCreeps) z5FnCreeps) z6FnCreeps) z7FnCreeps) z8FnCreeps) z9FnCreeps) z10FnCreeps) z11FnCreeps) z12FnCreeps) z13FnCreeps) z14FnCreeps) z15FnCreeps) z16FnCreeps) z17FnCreeps) z18FnCreeps) z19FnCreeps) z20FnCreeps) z21FnCreeps) z22FnCreeps) z23FnCreeps) z24FnCreeps) z25FnCreeps) z26FnCreeps) z27FnCreeps) z28FnCreeps) z29FnCreeps) z30FnCreeps) z31FnCreeps)
theorem namedFnCreeps : Try.pinned.checked.prog.funcNamed Rows.fnCreepsRow.func = some 5 := by kernel_rfl

theorem overFnCreeps : Rows.fnCreepsRow.holds Try.pinned (OpenSpec.ofChange Rows.fnCreepsSpec) :=
  OpenClaim.holds_of_wide 5 Try.f5 rfl rfl rfl rfl rfl rfl rfl ⟨rfl, rfl, rfl, rfl, rfl⟩ rfl rfl rfl rfl rfl namedFnCreeps Try.func5 closedFnCreeps
    (of_decide_eq_true (by kernel_rfl)) (by unfold Func.isWrapper; first | (rw [if_pos (by decide +kernel)]; kernel_rfl) | (rw [if_neg (by decide +kernel)]; exact ⟨rfl, rfl⟩))
    (fun os started H enc _ => liftedFnCreeps os started H enc)

theorem provedFnCreeps : Rows.FnCreepsSaid := overFnCreeps
#print axioms provedFnCreeps
end Go.Proofs.Ytnanackogloioaa.Ai
