/- Proved: for every input the law FnRegister returns true, and each argument reads afterwards as it read before. Conditions: none. -/
import Derived.Test.YtkcbhjnkpbeigaaRows
import Derived.Test.YtkcbhjnkpbeigaaAiOpen
import Derived.Test.YtkcbhjnkpbeigaaLawRegister
import Derived.Test.YtkcbhjnkpbeigaaOpensU8
import Derived.ProofKit
import Derived.OpenShut
import Derived.ShutString
namespace Go.Proofs.Ytkcbhjnkpbeigaa.Ai
open Go Go.Proofs Go.ChangeShapes Go.WideShapes Go.ChangeAt Go.RowKit
set_option linter.unusedVariables false
set_option maxRecDepth 100000

theorem ownFnRegister : ownKnob Try.prog.godebug = none := by kernel_rfl
theorem laidOutFnRegister : laidOutB Try.prog = true := by kernel_rfl

set_option maxRecDepth 100000 in
theorem liftedFnRegister (os : Os) (started : os.Started) (H : Type) (enc : TypeId × Value → H) :
    ReturnsInHanded {} Try.checked os 5 .any (Rows.fnRegisterSpec.pre6 enc Try.prog Try.f5 Rows.fnRegisterRow.domain false) (Rows.fnRegisterSpec.post enc Try.prog Try.f5 false true false false) := by
  refine returnsInHanded_of_change (C := Try.checked) ownFnRegister started (by kernel_rfl) Try.func5
    (ChangeSpec.witness6 (enc := enc) (C := Try.checked) false ⟨#[], #[.slice none 0 0, .slice none 0 0], []⟩ 8 (by kernel_rfl) (by kernel_rfl) (by kernel_rfl) (by kernel_rfl)) ?_
  intro W base args ds gs before hval0 hW hcnd _
  have hval : ∀ (j : Nat) t v, Try.f5.params[j]? = some t → args[j]? = some v → Value.okWide Try.prog W .any base t v := hval0
  have hW' := hW
  obtain ⟨p, q, hA0, hV, rfl, hfz, hnd⟩ := hW
  have hA : DataW.TrodAll enc Try.prog W 0 (fun _ => true) true Try.f5.params.toList args.toList ds p := hA0
  rw [Try.params5] at hA hval
  obtain ⟨v0, vs0, d0, ds0, p0, q0, hargs, rfl, rfl, h0, r0⟩ := trodAll_cons hA
  obtain ⟨v1, vs1, d1, ds1, p1, q1, rfl, rfl, rfl, h1, r1⟩ := trodAll_cons r0
  obtain ⟨rfl, rfl, rfl⟩ := trodAll_nil r1
  obtain rfl : args = #[v0, v1] := by cases args; simp_all
  obtain ⟨rfl, rfl⟩ := trodVars_none hV
  have k0 := h0
  have lt0 : ∀ x ∈ p0, x.block < W.heap.size := by obtain ⟨m, hm⟩ := k0; exact DataW.trod_lt m _ _ _ hm
  obtain ⟨b0, l0, c0, rfl⟩ := okWide_slice Try.underlying22 (hval 0 22 v0 rfl rfl)
  obtain ⟨a0, w0, e0⟩ := arg_one (g := fun a => .isl _ (rows _ a)) opensU8S rfl h0
  have k1 := h1
  have lt1 : ∀ x ∈ p1, x.block < W.heap.size := by obtain ⟨m, hm⟩ := k1; exact DataW.trod_lt m _ _ _ hm
  obtain ⟨b1, l1, c1, rfl⟩ := okWide_slice Try.underlying22 (hval 1 22 v1 rfl rfl)
  obtain ⟨a1, w1, e1⟩ := arg_one (g := fun a => .isl _ (rows _ a)) opensU8S rfl h1
  clear hA0 hval0
  refine ((lawRegister_ok a0 a1 w0 w1).2 W (fun k => k < W.heap.size) _ (fun _ h => h) (All2.cons e0 (All2.cons e1 All2.nil))).mono ?_
  rintro e W' ⟨v, r, gs', rfl, rfl, bel, hr⟩
  have hv : v = .bool true := by
    obtain ⟨-, -, hr⟩ := hr
    cases hr with
    | one hr => cases hr with
      | imm hr => cases hr; rfl
  subst hv
  exact ⟨_, rfl, _, _, _, [], _, [], hW', trodAll_mk1 (shut_bool Try.underlying4 _), (trodAll_cons_mk (Below.trod laidOutFnRegister (by kernel_rfl) (of_decide_eq_true (by kernel_rfl)) k0 bel lt0) (trodAll_cons_mk (Below.trod laidOutFnRegister (by kernel_rfl) (of_decide_eq_true (by kernel_rfl)) k1 bel lt1) trodAll_mk0)), rfl, bel.frame _, fun h => by cases h⟩

theorem and2FnRegister {a b : Bool} (ha : a = true) (hb : b = true) : (a && b) = true := by rw [ha, hb]; rfl
theorem z0FnRegister : (Rows.fnRegisterRow.wf (OpenSpec.ofChange Rows.fnRegisterSpec)) = true := by kernel_rfl
theorem z1FnRegister : (laidOutB Try.pinned.checked.prog) = true := by kernel_rfl
theorem z2FnRegister : (mapsRowed Try.pinned.checked.prog) = true := by kernel_rfl
theorem z3FnRegister : (Try.f5.params.all (Try.pinned.checked.prog.readableRec ·)) = true := by kernel_rfl
theorem z4FnRegister : (namedTie Try.pinned.checked.prog Rows.fnRegisterRow.named Rows.fnRegisterSpec.vars) = true := by kernel_rfl
theorem z5FnRegister : ((Rows.fnRegisterRow.stops == [])) = true := by kernel_rfl
theorem z6FnRegister : ((Try.pinned.checked.prog.stops == [])) = true := by kernel_rfl
theorem z7FnRegister : ((Rows.fnRegisterRow.knobs == [])) = true := by kernel_rfl
theorem z8FnRegister : ((Try.pinned.checked.prog.stopKnobs == [])) = true := by kernel_rfl
theorem z9FnRegister : ((Rows.fnRegisterRow.inPlace == Try.pinned.checked.prog.inPlace 5)) = true := by kernel_rfl
theorem z10FnRegister : ((Rows.fnRegisterRow.unfollowed == Try.pinned.checked.prog.unfollowed 5)) = true := by kernel_rfl
theorem z11FnRegister : ((Rows.fnRegisterRow.recurses == Try.pinned.checked.prog.recurses 5)) = true := by kernel_rfl
theorem z12FnRegister : ((Rows.fnRegisterRow.named == Try.pinned.checked.prog.varsNamed 5)) = true := by kernel_rfl
theorem z13FnRegister : ((Rows.fnRegisterRow.maps == (Try.f5.params.toList ++ Rows.fnRegisterSpec.plain.varTypes Try.pinned.checked.prog).any (Try.pinned.checked.prog.mapsRec ·))) = true := by kernel_rfl
theorem z14FnRegister : ((Rows.fnRegisterRow.ifaces == (Try.f5.params.toList ++ Rows.fnRegisterSpec.plain.varTypes Try.pinned.checked.prog).any (Try.pinned.checked.prog.ifacesRec ·))) = true := by kernel_rfl
theorem z15FnRegister : ((Rows.fnRegisterRow.mapsOut == Try.pinned.checked.prog.mapsAmong Try.f5.resultTypes.toList)) = true := by kernel_rfl
theorem z16FnRegister : ((Rows.fnRegisterRow.loops == (Try.f5.params.toList ++ Rows.fnRegisterSpec.plain.varTypes Try.pinned.checked.prog).any (Try.pinned.checked.prog.loopsFrom ·))) = true := by kernel_rfl
theorem z17FnRegister : ((Rows.fnRegisterRow.wideKeys == (Try.f5.params.toList ++ Rows.fnRegisterSpec.plain.varTypes Try.pinned.checked.prog ++ Try.f5.resultTypes.toList).any (Try.pinned.checked.prog.wideKeysFrom ·))) = true := by kernel_rfl
theorem z18FnRegister : (Rows.fnRegisterSpec.vars.all (Try.pinned.checked.prog.varReadable ·)) = true := by kernel_rfl
theorem z19FnRegister : (Try.f5.resultTypes.all (fun t => Try.pinned.checked.prog.readableRec t && decide (t < Try.pinned.checked.prog.types.size))) = true := by kernel_rfl
theorem z20FnRegister : ((Rows.fnRegisterRow.ifacesOut == Try.f5.resultTypes.toList.any (Try.pinned.checked.prog.ifacesRec ·))) = true := by kernel_rfl
theorem z21FnRegister : ((Rows.fnRegisterRow.loopsOut == Try.f5.resultTypes.toList.any (Try.pinned.checked.prog.loopsFrom ·))) = true := by kernel_rfl
theorem z22FnRegister : ((Rows.fnRegisterRow.plainKeys == Try.pinned.checked.prog.plainKeys)) = true := by kernel_rfl
theorem z23FnRegister : (Rows.fnRegisterRow.shortTexts.isNone) = true := by kernel_rfl
theorem z24FnRegister : (Try.pinned.checked.prog.stopsHeard) = true := by kernel_rfl
theorem z25FnRegister : (Try.pinned.checked.prog.mayEnter) = true := by kernel_rfl
theorem z26FnRegister : ((Rows.fnRegisterRow.lifted == Try.pinned.checked.prog.liftsFinal)) = true := by kernel_rfl
theorem z27FnRegister : ((Try.pinned.checked.prog.make == some Rows.fnRegisterRow.make)) = true := by kernel_rfl
theorem z28FnRegister : ((Rows.fnRegisterRow.kinds == (if Rows.fnRegisterRow.domain.isEmpty then [] else Try.f5.params.toList.map fun t => match Try.pinned.checked.prog.underlying t with | some (.int k) => some k | _ => none))) = true := by kernel_rfl
theorem z29FnRegister : ((Rows.fnRegisterRow.pinned == Rows.fnRegisterRow.pinnedBy)) = true := by kernel_rfl
theorem z30FnRegister : ((Rows.fnRegisterRow.veiled == (Try.f5.params.toList ++ Rows.fnRegisterSpec.plain.varTypes Try.pinned.checked.prog ++ Try.f5.resultTypes.toList).any (Try.pinned.checked.prog.veiledRec ·))) = true := by kernel_rfl
theorem z31FnRegister : (Rows.fnRegisterRow.veiledFits Try.pinned.checked.prog Try.f5.params.toList (Try.f5.params.toList ++ Rows.fnRegisterSpec.plain.varTypes Try.pinned.checked.prog ++ Try.f5.resultTypes.toList)) = true := by kernel_rfl
theorem closedFnRegister : joinedFacts Try.pinned.checked.prog 5 Try.f5 Rows.fnRegisterSpec Rows.fnRegisterRow = true := (and2FnRegister (and2FnRegister (and2FnRegister (and2FnRegister (and2FnRegister (and2FnRegister (and2FnRegister (and2FnRegister (and2FnRegister (and2FnRegister (and2FnRegister (and2FnRegister (and2FnRegister (and2FnRegister (and2FnRegister (and2FnRegister (and2FnRegister (and2FnRegister (and2FnRegister (and2FnRegister (and2FnRegister (and2FnRegister (and2FnRegister (and2FnRegister (and2FnRegister (and2FnRegister (and2FnRegister (and2FnRegister (and2FnRegister (and2FnRegister (and2FnRegister z0FnRegister z1FnRegister) z2FnRegister) z3FnRegister) z4FnRegister) z5FnRegister) z6FnRegister) z7FnRegister) z8FnRegister) z9FnRegister) z10FnRegister) z11FnRegister) z12FnRegister) z13FnRegister) z14FnRegister) z15FnRegister) z16FnRegister) z17FnRegister) z18FnRegister) z19FnRegister) z20FnRegister) z21FnRegister) z22FnRegister) z23FnRegister) z24FnRegister) z25FnRegister) z26FnRegister) z27FnRegister) z28FnRegister) z29FnRegister) z30FnRegister) z31FnRegister)
theorem namedFnRegister : Try.pinned.checked.prog.funcNamed Rows.fnRegisterRow.func = some 5 := by kernel_rfl

theorem overFnRegister : Rows.fnRegisterRow.holds Try.pinned (OpenSpec.ofChange Rows.fnRegisterSpec) :=
  OpenClaim.holds_of_wide 5 Try.f5 rfl rfl rfl rfl rfl rfl rfl ⟨rfl, rfl, rfl, rfl, rfl⟩ rfl rfl rfl rfl rfl namedFnRegister Try.func5 closedFnRegister
    (of_decide_eq_true (by kernel_rfl)) (by unfold Func.isWrapper; first | (rw [if_pos (by decide +kernel)]; kernel_rfl) | (rw [if_neg (by decide +kernel)]; exact ⟨rfl, rfl⟩))
    (fun os started H enc _ => liftedFnRegister os started H enc)

theorem provedFnRegister : Rows.FnRegisterSaid := overFnRegister
#print axioms provedFnRegister
end Go.Proofs.Ytkcbhjnkpbeigaa.Ai
