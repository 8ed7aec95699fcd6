/- Proved: for every input the law FnBills returns true, and each argument reads afterwards as it read before. Conditions: none. -/
import Derived.Test.YtkcbhjnkpbeigaaRows
import Derived.Test.YtkcbhjnkpbeigaaAiOpen
import Derived.Test.YtkcbhjnkpbeigaaLawBills
import Derived.Test.YtkcbhjnkpbeigaaOpensU8
import Derived.ProofKit
import Derived.OpenShut
import Derived.ShutString
namespace Go.Proofs.Ytkcbhjnkpbeigaa.Ai
open Go Go.Proofs Go.ChangeShapes Go.WideShapes Go.ChangeAt Go.RowKit
set_option linter.unusedVariables false
set_option maxRecDepth 100000

theorem ownFnBills : ownKnob Try.prog.godebug = none := by kernel_rfl
theorem laidOutFnBills : laidOutB Try.prog = true := by kernel_rfl

set_option maxRecDepth 100000 in
theorem liftedFnBills (os : Os) (started : os.Started) (H : Type) (enc : TypeId × Value → H) :
    ReturnsInHanded {} Try.checked os 6 .any (Rows.fnBillsSpec.pre6 enc Try.prog Try.f6 Rows.fnBillsRow.domain false) (Rows.fnBillsSpec.post enc Try.prog Try.f6 false true false false) := by
  refine returnsInHanded_of_change (C := Try.checked) ownFnBills started (by kernel_rfl) Try.func6
    (ChangeSpec.witness6 (enc := enc) (C := Try.checked) false ⟨#[], #[.slice none 0 0, .slice none 0 0], []⟩ 8 (by kernel_rfl) (by kernel_rfl) (by kernel_rfl) (by kernel_rfl)) ?_
  intro W base args ds gs before hval0 hW hcnd _
  have hval : ∀ (j : Nat) t v, Try.f6.params[j]? = some t → args[j]? = some v → Value.okWide Try.prog W .any base t v := hval0
  have hW' := hW
  obtain ⟨p, q, hA0, hV, rfl, hfz, hnd⟩ := hW
  have hA : DataW.TrodAll enc Try.prog W 0 (fun _ => true) true Try.f6.params.toList args.toList ds p := hA0
  rw [Try.params6] at hA hval
  obtain ⟨v0, vs0, d0, ds0, p0, q0, hargs, rfl, rfl, h0, r0⟩ := trodAll_cons hA
  obtain ⟨v1, vs1, d1, ds1, p1, q1, rfl, rfl, rfl, h1, r1⟩ := trodAll_cons r0
  obtain ⟨rfl, rfl, rfl⟩ := trodAll_nil r1
  obtain rfl : args = #[v0, v1] := by cases args; simp_all
  obtain ⟨rfl, rfl⟩ := trodVars_none hV
  have k0 := h0
  have lt0 : ∀ x ∈ p0, x.block < W.heap.size := by obtain ⟨m, hm⟩ := k0; exact DataW.trod_lt m _ _ _ hm
  obtain ⟨b0, l0, c0, rfl⟩ := okWide_slice Try.underlying22 (hval 0 22 v0 rfl rfl)
  obtain ⟨a0, w0, e0⟩ := arg_one (g := fun a => .isl _ (rows _ a)) opensU8S rfl h0
  have k1 := h1
  have lt1 : ∀ x ∈ p1, x.block < W.heap.size := by obtain ⟨m, hm⟩ := k1; exact DataW.trod_lt m _ _ _ hm
  obtain ⟨b1, l1, c1, rfl⟩ := okWide_slice Try.underlying22 (hval 1 22 v1 rfl rfl)
  obtain ⟨a1, w1, e1⟩ := arg_one (g := fun a => .isl _ (rows _ a)) opensU8S rfl h1
  clear hA0 hval0
  refine ((lawBills_ok a0 a1 w0 w1).2 W (fun k => k < W.heap.size) _ (fun _ h => h) (All2.cons e0 (All2.cons e1 All2.nil))).mono ?_
  rintro e W' ⟨v, r, gs', rfl, rfl, bel, hr⟩
  have hv : v = .bool true := by
    obtain ⟨-, -, hr⟩ := hr
    cases hr with
    | one hr => cases hr with
      | imm hr => cases hr; rfl
  subst hv
  exact ⟨_, rfl, _, _, _, [], _, [], hW', trodAll_mk1 (shut_bool Try.underlying4 _), (trodAll_cons_mk (Below.trod laidOutFnBills (by kernel_rfl) (of_decide_eq_true (by kernel_rfl)) k0 bel lt0) (trodAll_cons_mk (Below.trod laidOutFnBills (by kernel_rfl) (of_decide_eq_true (by kernel_rfl)) k1 bel lt1) trodAll_mk0)), rfl, bel.frame _, fun h => by cases h⟩

theorem and2FnBills {a b : Bool} (ha : a = true) (hb : b = true) : (a && b) = true := by rw [ha, hb]; rfl
theorem z0FnBills : (Rows.fnBillsRow.wf (OpenSpec.ofChange Rows.fnBillsSpec)) = true := by kernel_rfl
theorem z1FnBills : (laidOutB Try.pinned.checked.prog) = true := by kernel_rfl
theorem z2FnBills : (mapsRowed Try.pinned.checked.prog) = true := by kernel_rfl
theorem z3FnBills : (Try.f6.params.all (Try.pinned.checked.prog.readableRec ·)) = true := by kernel_rfl
theorem z4FnBills : (namedTie Try.pinned.checked.prog Rows.fnBillsRow.named Rows.fnBillsSpec.vars) = true := by kernel_rfl
theorem z5FnBills : ((Rows.fnBillsRow.stops == [])) = true := by kernel_rfl
theorem z6FnBills : ((Try.pinned.checked.prog.stops == [])) = true := by kernel_rfl
theorem z7FnBills : ((Rows.fnBillsRow.knobs == [])) = true := by kernel_rfl
theorem z8FnBills : ((Try.pinned.checked.prog.stopKnobs == [])) = true := by kernel_rfl
theorem z9FnBills : ((Rows.fnBillsRow.inPlace == Try.pinned.checked.prog.inPlace 6)) = true := by kernel_rfl
theorem z10FnBills : ((Rows.fnBillsRow.unfollowed == Try.pinned.checked.prog.unfollowed 6)) = true := by kernel_rfl
theorem z11FnBills : ((Rows.fnBillsRow.recurses == Try.pinned.checked.prog.recurses 6)) = true := by kernel_rfl
theorem z12FnBills : ((Rows.fnBillsRow.named == Try.pinned.checked.prog.varsNamed 6)) = true := by kernel_rfl
theorem z13FnBills : ((Rows.fnBillsRow.maps == (Try.f6.params.toList ++ Rows.fnBillsSpec.plain.varTypes Try.pinned.checked.prog).any (Try.pinned.checked.prog.mapsRec ·))) = true := by kernel_rfl
theorem z14FnBills : ((Rows.fnBillsRow.ifaces == (Try.f6.params.toList ++ Rows.fnBillsSpec.plain.varTypes Try.pinned.checked.prog).any (Try.pinned.checked.prog.ifacesRec ·))) = true := by kernel_rfl
theorem z15FnBills : ((Rows.fnBillsRow.mapsOut == Try.pinned.checked.prog.mapsAmong Try.f6.resultTypes.toList)) = true := by kernel_rfl
theorem z16FnBills : ((Rows.fnBillsRow.loops == (Try.f6.params.toList ++ Rows.fnBillsSpec.plain.varTypes Try.pinned.checked.prog).any (Try.pinned.checked.prog.loopsFrom ·))) = true := by kernel_rfl
theorem z17FnBills : ((Rows.fnBillsRow.wideKeys == (Try.f6.params.toList ++ Rows.fnBillsSpec.plain.varTypes Try.pinned.checked.prog ++ Try.f6.resultTypes.toList).any (Try.pinned.checked.prog.wideKeysFrom ·))) = true := by kernel_rfl
theorem z18FnBills : (Rows.fnBillsSpec.vars.all (Try.pinned.checked.prog.varReadable ·)) = true := by kernel_rfl
theorem z19FnBills : (Try.f6.resultTypes.all (fun t => Try.pinned.checked.prog.readableRec t && decide (t < Try.pinned.checked.prog.types.size))) = true := by kernel_rfl
theorem z20FnBills : ((Rows.fnBillsRow.ifacesOut == Try.f6.resultTypes.toList.any (Try.pinned.checked.prog.ifacesRec ·))) = true := by kernel_rfl
theorem z21FnBills : ((Rows.fnBillsRow.loopsOut == Try.f6.resultTypes.toList.any (Try.pinned.checked.prog.loopsFrom ·))) = true := by kernel_rfl
theorem z22FnBills : ((Rows.fnBillsRow.plainKeys == Try.pinned.checked.prog.plainKeys)) = true := by kernel_rfl
theorem z23FnBills : (Rows.fnBillsRow.shortTexts.isNone) = true := by kernel_rfl
theorem z24FnBills : (Try.pinned.checked.prog.stopsHeard) = true := by kernel_rfl
theorem z25FnBills : (Try.pinned.checked.prog.mayEnter) = true := by kernel_rfl
theorem z26FnBills : ((Rows.fnBillsRow.lifted == Try.pinned.checked.prog.liftsFinal)) = true := by kernel_rfl
theorem z27FnBills : ((Try.pinned.checked.prog.make == some Rows.fnBillsRow.make)) = true := by kernel_rfl
theorem z28FnBills : ((Rows.fnBillsRow.kinds == (if Rows.fnBillsRow.domain.isEmpty then [] else Try.f6.params.toList.map fun t => match Try.pinned.checked.prog.underlying t with | some (.int k) => some k | _ => none))) = true := by kernel_rfl
theorem z29FnBills : ((Rows.fnBillsRow.pinned == Rows.fnBillsRow.pinnedBy)) = true := by kernel_rfl
theorem z30FnBills : ((Rows.fnBillsRow.veiled == (Try.f6.params.toList ++ Rows.fnBillsSpec.plain.varTypes Try.pinned.checked.prog ++ Try.f6.resultTypes.toList).any (Try.pinned.checked.prog.veiledRec ·))) = true := by kernel_rfl
theorem z31FnBills : (Rows.fnBillsRow.veiledFits Try.pinned.checked.prog Try.f6.params.toList (Try.f6.params.toList ++ Rows.fnBillsSpec.plain.varTypes Try.pinned.checked.prog ++ Try.f6.resultTypes.toList)) = true := by kernel_rfl
theorem closedFnBills : joinedFacts Try.pinned.checked.prog 6 Try.f6 Rows.fnBillsSpec Rows.fnBillsRow = true := (and2FnBills (and2FnBills (and2FnBills (and2FnBills (and2FnBills (and2FnBills (and2FnBills (and2FnBills (and2FnBills (and2FnBills (and2FnBills (and2FnBills (and2FnBills (and2FnBills (and2FnBills (and2FnBills (and2FnBills (and2FnBills (and2FnBills (and2FnBills (and2FnBills (and2FnBills (and2FnBills (and2FnBills (and2FnBills (and2FnBills (and2FnBills (and2FnBills (and2FnBills (and2FnBills (and2FnBills z0FnBills z1FnBills) z2FnBills) z3FnBills) z4FnBills) z5FnBills) z6FnBills) z7FnBills) z8FnBills) z9FnBills) z10FnBills) z11FnBills) z12FnBills) z13FnBills) z14FnBills) z15FnBills) z16FnBills) z17FnBills) z18FnBills) z19FnBills) z20FnBills) z21FnBills) z22FnBills) z23FnBills) z24FnBills) z25FnBills) z26FnBills) z27FnBills) z28FnBills) z29FnBills) z30FnBills) z31FnBills)
theorem namedFnBills : Try.pinned.checked.prog.funcNamed Rows.fnBillsRow.func = some 6 := by kernel_rfl

theorem overFnBills : Rows.fnBillsRow.holds Try.pinned (OpenSpec.ofChange Rows.fnBillsSpec) :=
  OpenClaim.holds_of_wide 6 Try.f6 rfl rfl rfl rfl rfl rfl rfl ⟨rfl, rfl, rfl, rfl, rfl⟩ rfl rfl rfl rfl rfl namedFnBills Try.func6 closedFnBills
    (of_decide_eq_true (by kernel_rfl)) (by unfold Func.isWrapper; first | (rw [if_pos (by decide +kernel)]; kernel_rfl) | (rw [if_neg (by decide +kernel)]; exact ⟨rfl, rfl⟩))
    (fun os started H enc _ => liftedFnBills os started H enc)

theorem provedFnBills : Rows.FnBillsSaid := overFnBills
#print axioms provedFnBills
end Go.Proofs.Ytkcbhjnkpbeigaa.Ai
