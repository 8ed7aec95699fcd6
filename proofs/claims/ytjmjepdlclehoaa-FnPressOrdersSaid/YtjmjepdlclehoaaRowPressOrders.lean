/- Proved: for every input the law FnPressOrders returns true, and each argument reads afterwards as it read before. Conditions: none. -/
import Derived.Test.YtjmjepdlclehoaaAiOpen
import Derived.Test.YtjmjepdlclehoaaAiTypes
import Derived.Test.YtjmjepdlclehoaaRows
import Derived.Test.YtjmjepdlclehoaaLawPressOrders
import Derived.ProofKit
import Derived.OpenShut
import Derived.ShutString
namespace Go.Proofs.Ytjmjepdlclehoaa.Ai
open Go Go.Proofs Go.ChangeShapes Go.WideShapes Go.ChangeAt Go.RowKit
set_option linter.unusedVariables false
set_option linter.unusedSimpArgs false
set_option maxRecDepth 100000

theorem opensU8 : Opens Try.prog 5 1 cU8 (fun x => 0 ≤ x ∧ x ≤ 255) := opens_u8 Try.underlying5 cells5
theorem opensU8S : Opens Try.prog 22 1 (fun xs => [.isl 1 (rows cU8 xs)]) (fun xs => ∀ x ∈ xs, 0 ≤ x ∧ x ≤ 255) := opens_slice Try.underlying22 cells22 (by decide) opensU8


theorem ownFnPressOrders : ownKnob Try.prog.godebug = none := by kernel_rfl
theorem laidOutFnPressOrders : laidOutB Try.prog = true := by kernel_rfl

set_option maxRecDepth 100000 in
theorem liftedFnPressOrders (os : Os) (started : os.Started) (H : Type) (enc : TypeId × Value → H) :
    ReturnsInHanded {} Try.checked os 5 .any (Rows.fnPressOrdersSpec.pre6 enc Try.prog Try.f5 Rows.fnPressOrdersRow.domain false) (Rows.fnPressOrdersSpec.post enc Try.prog Try.f5 false true false false) := by
  refine returnsInHanded_of_change (C := Try.checked) ownFnPressOrders started (by kernel_rfl) Try.func5
    (ChangeSpec.witness6 (enc := enc) (C := Try.checked) false ⟨#[], #[.slice none 0 0, .slice none 0 0], []⟩ 8 (by kernel_rfl) (by kernel_rfl) (by kernel_rfl) (by kernel_rfl)) ?_
  intro W base args ds gs before hval0 hW hcnd _
  have hval : ∀ (j : Nat) t v, Try.f5.params[j]? = some t → args[j]? = some v → Value.okWide Try.prog W .any base t v := hval0
  have hW' := hW
  obtain ⟨p, q, hA0, hV, rfl, hfz, hnd⟩ := hW
  have hA : DataW.TrodAll enc Try.prog W 0 (fun _ => true) true Try.f5.params.toList args.toList ds p := hA0
  rw [Try.params5] at hA hval
  obtain ⟨v0, vs0, d0, ds0, p0, q0, hargs, rfl, rfl, h0, r0⟩ := trodAll_cons hA
  obtain ⟨v1, vs1, d1, ds1, p1, q1, rfl, rfl, rfl, h1, r1⟩ := trodAll_cons r0
  obtain ⟨rfl, rfl, rfl⟩ := trodAll_nil r1
  obtain rfl : args = #[v0, v1] := by cases args; simp_all
  obtain ⟨rfl, rfl⟩ := trodVars_none hV
  have k0 := h0
  have lt0 : ∀ x ∈ p0, x.block < W.heap.size := by obtain ⟨m, hm⟩ := k0; exact DataW.trod_lt m _ _ _ hm
  obtain ⟨b0, l0, c0, rfl⟩ := okWide_slice Try.underlying22 (hval 0 22 v0 rfl rfl)
  obtain ⟨a0, w0, e0⟩ := arg_one (g := fun a => .isl _ (rows _ a)) opensU8S rfl h0
  have k1 := h1
  have lt1 : ∀ x ∈ p1, x.block < W.heap.size := by obtain ⟨m, hm⟩ := k1; exact DataW.trod_lt m _ _ _ hm
  obtain ⟨b1, l1, c1, rfl⟩ := okWide_slice Try.underlying22 (hval 1 22 v1 rfl rfl)
  obtain ⟨a1, w1, e1⟩ := arg_one (g := fun a => .isl _ (rows _ a)) opensU8S rfl h1
  clear hA0 hval0
  refine ((lawPressOrders_ok a0 a1 w0 w1).2 W (fun k => k < W.heap.size) _ ⟨fun _ h => h, W.heap.size, Nat.le_refl _, Good.triv _ _⟩ (All2.cons e0 (All2.cons e1 All2.nil))).mono ?_
  rintro e W' ⟨v, r, gs', rfl, rfl, bel, hr⟩
  have hv : v = .bool true := by
    obtain ⟨-, -, hr⟩ := hr
    cases hr with
    | one hr => cases hr with
      | imm hr => cases hr; rfl
  subst hv
  exact ⟨_, rfl, _, _, _, [], _, [], hW', trodAll_mk1 (shut_bool Try.underlying4 _), (trodAll_cons_mk (Below.trod laidOutFnPressOrders (by kernel_rfl) (of_decide_eq_true (by kernel_rfl)) k0 bel lt0) (trodAll_cons_mk (Below.trod laidOutFnPressOrders (by kernel_rfl) (of_decide_eq_true (by kernel_rfl)) k1 bel lt1) trodAll_mk0)), rfl, bel.frame _, fun h => by cases h⟩

theorem and2FnPressOrders {a b : Bool} (ha : a = true) (hb : b = true) : (a && b) = true := by rw [ha, hb]; rfl
theorem z0FnPressOrders : (Rows.fnPressOrdersRow.wf (OpenSpec.ofChange Rows.fnPressOrdersSpec)) = true := by kernel_rfl
theorem z1FnPressOrders : (laidOutB Try.pinned.checked.prog) = true := by kernel_rfl
theorem z2FnPressOrders : (mapsRowed Try.pinned.checked.prog) = true := by kernel_rfl
theorem z3FnPressOrders : (Try.f5.params.all (Try.pinned.checked.prog.readableRec ·)) = true := by kernel_rfl
theorem z4FnPressOrders : (namedTie Try.pinned.checked.prog Rows.fnPressOrdersRow.named Rows.fnPressOrdersSpec.vars) = true := by kernel_rfl
theorem z5FnPressOrders : ((Rows.fnPressOrdersRow.stops == [])) = true := by kernel_rfl
theorem z6FnPressOrders : ((Try.pinned.checked.prog.stops == [])) = true := by kernel_rfl
theorem z7FnPressOrders : ((Rows.fnPressOrdersRow.knobs == [])) = true := by kernel_rfl
theorem z8FnPressOrders : ((Try.pinned.checked.prog.stopKnobs == [])) = true := by kernel_rfl
theorem z9FnPressOrders : ((Rows.fnPressOrdersRow.inPlace == Try.pinned.checked.prog.inPlace 5)) = true := by kernel_rfl
theorem z10FnPressOrders : ((Rows.fnPressOrdersRow.unfollowed == Try.pinned.checked.prog.unfollowed 5)) = true := by kernel_rfl
theorem z11FnPressOrders : ((Rows.fnPressOrdersRow.recurses == Try.pinned.checked.prog.recurses 5)) = true := by kernel_rfl
theorem z12FnPressOrders : ((Rows.fnPressOrdersRow.named == Try.pinned.checked.prog.varsNamed 5)) = true := by kernel_rfl
theorem z13FnPressOrders : ((Rows.fnPressOrdersRow.maps == (Try.f5.params.toList ++ Rows.fnPressOrdersSpec.plain.varTypes Try.pinned.checked.prog).any (Try.pinned.checked.prog.mapsRec ·))) = true := by kernel_rfl
theorem z14FnPressOrders : ((Rows.fnPressOrdersRow.ifaces == (Try.f5.params.toList ++ Rows.fnPressOrdersSpec.plain.varTypes Try.pinned.checked.prog).any (Try.pinned.checked.prog.ifacesRec ·))) = true := by kernel_rfl
theorem z15FnPressOrders : ((Rows.fnPressOrdersRow.mapsOut == Try.pinned.checked.prog.mapsAmong Try.f5.resultTypes.toList)) = true := by kernel_rfl
theorem z16FnPressOrders : ((Rows.fnPressOrdersRow.loops == (Try.f5.params.toList ++ Rows.fnPressOrdersSpec.plain.varTypes Try.pinned.checked.prog).any (Try.pinned.checked.prog.loopsFrom ·))) = true := by kernel_rfl
theorem z17FnPressOrders : ((Rows.fnPressOrdersRow.wideKeys == (Try.f5.params.toList ++ Rows.fnPressOrdersSpec.plain.varTypes Try.pinned.checked.prog ++ Try.f5.resultTypes.toList).any (Try.pinned.checked.prog.wideKeysFrom ·))) = true := by kernel_rfl
theorem z18FnPressOrders : (Rows.fnPressOrdersSpec.vars.all (Try.pinned.checked.prog.varReadable ·)) = true := by kernel_rfl
theorem z19FnPressOrders : (Try.f5.resultTypes.all (fun t => Try.pinned.checked.prog.readableRec t && decide (t < Try.pinned.checked.prog.types.size))) = true := by kernel_rfl
theorem z20FnPressOrders : ((Rows.fnPressOrdersRow.ifacesOut == Try.f5.resultTypes.toList.any (Try.pinned.checked.prog.ifacesRec ·))) = true := by kernel_rfl
theorem z21FnPressOrders : ((Rows.fnPressOrdersRow.loopsOut == Try.f5.resultTypes.toList.any (Try.pinned.checked.prog.loopsFrom ·))) = true := by kernel_rfl
theorem z22FnPressOrders : ((Rows.fnPressOrdersRow.plainKeys == Try.pinned.checked.prog.plainKeys)) = true := by kernel_rfl
theorem z23FnPressOrders : (Rows.fnPressOrdersRow.shortTexts.isNone) = true := by kernel_rfl
theorem z24FnPressOrders : (Try.pinned.checked.prog.stopsHeard) = true := by kernel_rfl
theorem z25FnPressOrders : (Try.pinned.checked.prog.mayEnter) = true := by kernel_rfl
theorem z26FnPressOrders : ((Rows.fnPressOrdersRow.lifted == Try.pinned.checked.prog.liftsFinal)) = true := by kernel_rfl
theorem z27FnPressOrders : ((Try.pinned.checked.prog.make == some Rows.fnPressOrdersRow.make)) = true := by kernel_rfl
theorem z28FnPressOrders : ((Rows.fnPressOrdersRow.kinds == (if Rows.fnPressOrdersRow.domain.isEmpty then [] else Try.f5.params.toList.map fun t => match Try.pinned.checked.prog.underlying t with | some (.int k) => some k | _ => none))) = true := by kernel_rfl
theorem z29FnPressOrders : ((Rows.fnPressOrdersRow.pinned == Rows.fnPressOrdersRow.pinnedBy)) = true := by kernel_rfl
theorem z30FnPressOrders : ((Rows.fnPressOrdersRow.veiled == (Try.f5.params.toList ++ Rows.fnPressOrdersSpec.plain.varTypes Try.pinned.checked.prog ++ Try.f5.resultTypes.toList).any (Try.pinned.checked.prog.veiledRec ·))) = true := by kernel_rfl
theorem z31FnPressOrders : (Rows.fnPressOrdersRow.veiledFits Try.pinned.checked.prog Try.f5.params.toList (Try.f5.params.toList ++ Rows.fnPressOrdersSpec.plain.varTypes Try.pinned.checked.prog ++ Try.f5.resultTypes.toList)) = true := by kernel_rfl
theorem closedFnPressOrders : joinedFacts Try.pinned.checked.prog 5 Try.f5 Rows.fnPressOrdersSpec Rows.fnPressOrdersRow = true := (and2FnPressOrders (and2FnPressOrders (and2FnPressOrders (and2FnPressOrders (and2FnPressOrders (and2FnPressOrders (and2FnPressOrders (and2FnPressOrders (and2FnPressOrders (and2FnPressOrders (and2FnPressOrders (and2FnPressOrders (and2FnPressOrders (and2FnPressOrders (and2FnPressOrders (and2FnPressOrders (and2FnPressOrders (and2FnPressOrders (and2FnPressOrders (and2FnPressOrders (and2FnPressOrders (and2FnPressOrders (and2FnPressOrders (and2FnPressOrders (and2FnPressOrders (and2FnPressOrders (and2FnPressOrders (and2FnPressOrders (and2FnPressOrders (and2FnPressOrders (and2FnPressOrders z0FnPressOrders z1FnPressOrders) z2FnPressOrders) z3FnPressOrders) z4FnPressOrders) z5FnPressOrders) z6FnPressOrders) z7FnPressOrders) z8FnPressOrders) z9FnPressOrders) z10FnPressOrders) z11FnPressOrders) z12FnPressOrders) z13FnPressOrders) z14FnPressOrders) z15FnPressOrders) z16FnPressOrders) z17FnPressOrders) z18FnPressOrders) z19FnPressOrders) z20FnPressOrders) z21FnPressOrders) z22FnPressOrders) z23FnPressOrders) z24FnPressOrders) z25FnPressOrders) z26FnPressOrders) z27FnPressOrders) z28FnPressOrders) z29FnPressOrders) z30FnPressOrders) z31FnPressOrders)
theorem namedFnPressOrders : Try.pinned.checked.prog.funcNamed Rows.fnPressOrdersRow.func = some 5 := by kernel_rfl

theorem overFnPressOrders : Rows.fnPressOrdersRow.holds Try.pinned (OpenSpec.ofChange Rows.fnPressOrdersSpec) :=
  OpenClaim.holds_of_wide 5 Try.f5 rfl rfl rfl rfl rfl rfl rfl ⟨rfl, rfl, rfl, rfl, rfl⟩ rfl rfl rfl rfl rfl namedFnPressOrders Try.func5 closedFnPressOrders
    (of_decide_eq_true (by kernel_rfl)) (by unfold Func.isWrapper; first | (rw [if_pos (by decide +kernel)]; kernel_rfl) | (rw [if_neg (by decide +kernel)]; exact ⟨rfl, rfl⟩))
    (fun os started H enc _ => liftedFnPressOrders os started H enc)

theorem provedFnPressOrders : Rows.FnPressOrdersSaid := overFnPressOrders
#print axioms provedFnPressOrders

end Go.Proofs.Ytjmjepdlclehoaa.Ai
