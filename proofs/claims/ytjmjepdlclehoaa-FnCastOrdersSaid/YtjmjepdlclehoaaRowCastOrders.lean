/- Proved: for every input the law FnCastOrders returns true, and each argument reads afterwards as it read before. Conditions: none. -/
import Derived.Test.YtjmjepdlclehoaaAiOpen
import Derived.Test.YtjmjepdlclehoaaAiTypes
import Derived.Test.YtjmjepdlclehoaaRows
import Derived.Test.YtjmjepdlclehoaaLawCastOrders
import Derived.ProofKit
import Derived.OpenShut
import Derived.ShutString
namespace Go.Proofs.Ytjmjepdlclehoaa.Ai
open Go Go.Proofs Go.ChangeShapes Go.WideShapes Go.ChangeAt Go.RowKit
set_option linter.unusedVariables false
set_option linter.unusedSimpArgs false
set_option maxRecDepth 100000

theorem opensU8 : Opens Try.prog 5 1 cU8 (fun x => 0 ≤ x ∧ x ≤ 255) := opens_u8 Try.underlying5 cells5
theorem opensU8S : Opens Try.prog 22 1 (fun xs => [.isl 1 (rows cU8 xs)]) (fun xs => ∀ x ∈ xs, 0 ≤ x ∧ x ≤ 255) := opens_slice Try.underlying22 cells22 (by decide) opensU8


theorem ownFnCastOrders : ownKnob Try.prog.godebug = none := by kernel_rfl
theorem laidOutFnCastOrders : laidOutB Try.prog = true := by kernel_rfl

set_option maxRecDepth 100000 in
theorem liftedFnCastOrders (os : Os) (started : os.Started) (H : Type) (enc : TypeId × Value → H) :
    ReturnsInHanded {} Try.checked os 4 .any (Rows.fnCastOrdersSpec.pre6 enc Try.prog Try.f4 Rows.fnCastOrdersRow.domain false) (Rows.fnCastOrdersSpec.post enc Try.prog Try.f4 false true false false) := by
  refine returnsInHanded_of_change (C := Try.checked) ownFnCastOrders started (by kernel_rfl) Try.func4
    (ChangeSpec.witness6 (enc := enc) (C := Try.checked) false ⟨#[], #[.slice none 0 0, .slice none 0 0], []⟩ 8 (by kernel_rfl) (by kernel_rfl) (by kernel_rfl) (by kernel_rfl)) ?_
  intro W base args ds gs before hval0 hW hcnd _
  have hval : ∀ (j : Nat) t v, Try.f4.params[j]? = some t → args[j]? = some v → Value.okWide Try.prog W .any base t v := hval0
  have hW' := hW
  obtain ⟨p, q, hA0, hV, rfl, hfz, hnd⟩ := hW
  have hA : DataW.TrodAll enc Try.prog W 0 (fun _ => true) true Try.f4.params.toList args.toList ds p := hA0
  rw [Try.params4] at hA hval
  obtain ⟨v0, vs0, d0, ds0, p0, q0, hargs, rfl, rfl, h0, r0⟩ := trodAll_cons hA
  obtain ⟨v1, vs1, d1, ds1, p1, q1, rfl, rfl, rfl, h1, r1⟩ := trodAll_cons r0
  obtain ⟨rfl, rfl, rfl⟩ := trodAll_nil r1
  obtain rfl : args = #[v0, v1] := by cases args; simp_all
  obtain ⟨rfl, rfl⟩ := trodVars_none hV
  have k0 := h0
  have lt0 : ∀ x ∈ p0, x.block < W.heap.size := by obtain ⟨m, hm⟩ := k0; exact DataW.trod_lt m _ _ _ hm
  obtain ⟨b0, l0, c0, rfl⟩ := okWide_slice Try.underlying22 (hval 0 22 v0 rfl rfl)
  obtain ⟨a0, w0, e0⟩ := arg_one (g := fun a => .isl _ (rows _ a)) opensU8S rfl h0
  have k1 := h1
  have lt1 : ∀ x ∈ p1, x.block < W.heap.size := by obtain ⟨m, hm⟩ := k1; exact DataW.trod_lt m _ _ _ hm
  obtain ⟨b1, l1, c1, rfl⟩ := okWide_slice Try.underlying22 (hval 1 22 v1 rfl rfl)
  obtain ⟨a1, w1, e1⟩ := arg_one (g := fun a => .isl _ (rows _ a)) opensU8S rfl h1
  clear hA0 hval0
  refine ((lawCastOrders_ok a0 a1 w0 w1).2 W (fun k => k < W.heap.size) _ ⟨fun _ h => h, W.heap.size, Nat.le_refl _, Good.triv _ _⟩ (All2.cons e0 (All2.cons e1 All2.nil))).mono ?_
  rintro e W' ⟨v, r, gs', rfl, rfl, bel, hr⟩
  have hv : v = .bool true := by
    obtain ⟨-, -, hr⟩ := hr
    cases hr with
    | one hr => cases hr with
      | imm hr => cases hr; rfl
  subst hv
  exact ⟨_, rfl, _, _, _, [], _, [], hW', trodAll_mk1 (shut_bool Try.underlying4 _), (trodAll_cons_mk (Below.trod laidOutFnCastOrders (by kernel_rfl) (of_decide_eq_true (by kernel_rfl)) k0 bel lt0) (trodAll_cons_mk (Below.trod laidOutFnCastOrders (by kernel_rfl) (of_decide_eq_true (by kernel_rfl)) k1 bel lt1) trodAll_mk0)), rfl, bel.frame _, fun h => by cases h⟩

theorem and2FnCastOrders {a b : Bool} (ha : a = true) (hb : b = true) : (a && b) = true := by rw [ha, hb]; rfl
theorem z0FnCastOrders : (Rows.fnCastOrdersRow.wf (OpenSpec.ofChange Rows.fnCastOrdersSpec)) = true := by kernel_rfl
theorem z1FnCastOrders : (laidOutB Try.pinned.checked.prog) = true := by kernel_rfl
theorem z2FnCastOrders : (mapsRowed Try.pinned.checked.prog) = true := by kernel_rfl
theorem z3FnCastOrders : (Try.f4.params.all (Try.pinned.checked.prog.readableRec ·)) = true := by kernel_rfl
theorem z4FnCastOrders : (namedTie Try.pinned.checked.prog Rows.fnCastOrdersRow.named Rows.fnCastOrdersSpec.vars) = true := by kernel_rfl
theorem z5FnCastOrders : ((Rows.fnCastOrdersRow.stops == [])) = true := by kernel_rfl
theorem z6FnCastOrders : ((Try.pinned.checked.prog.stops == [])) = true := by kernel_rfl
theorem z7FnCastOrders : ((Rows.fnCastOrdersRow.knobs == [])) = true := by kernel_rfl
theorem z8FnCastOrders : ((Try.pinned.checked.prog.stopKnobs == [])) = true := by kernel_rfl
theorem z9FnCastOrders : ((Rows.fnCastOrdersRow.inPlace == Try.pinned.checked.prog.inPlace 4)) = true := by kernel_rfl
theorem z10FnCastOrders : ((Rows.fnCastOrdersRow.unfollowed == Try.pinned.checked.prog.unfollowed 4)) = true := by kernel_rfl
theorem z11FnCastOrders : ((Rows.fnCastOrdersRow.recurses == Try.pinned.checked.prog.recurses 4)) = true := by kernel_rfl
theorem z12FnCastOrders : ((Rows.fnCastOrdersRow.named == Try.pinned.checked.prog.varsNamed 4)) = true := by kernel_rfl
theorem z13FnCastOrders : ((Rows.fnCastOrdersRow.maps == (Try.f4.params.toList ++ Rows.fnCastOrdersSpec.plain.varTypes Try.pinned.checked.prog).any (Try.pinned.checked.prog.mapsRec ·))) = true := by kernel_rfl
theorem z14FnCastOrders : ((Rows.fnCastOrdersRow.ifaces == (Try.f4.params.toList ++ Rows.fnCastOrdersSpec.plain.varTypes Try.pinned.checked.prog).any (Try.pinned.checked.prog.ifacesRec ·))) = true := by kernel_rfl
theorem z15FnCastOrders : ((Rows.fnCastOrdersRow.mapsOut == Try.pinned.checked.prog.mapsAmong Try.f4.resultTypes.toList)) = true := by kernel_rfl
theorem z16FnCastOrders : ((Rows.fnCastOrdersRow.loops == (Try.f4.params.toList ++ Rows.fnCastOrdersSpec.plain.varTypes Try.pinned.checked.prog).any (Try.pinned.checked.prog.loopsFrom ·))) = true := by kernel_rfl
theorem z17FnCastOrders : ((Rows.fnCastOrdersRow.wideKeys == (Try.f4.params.toList ++ Rows.fnCastOrdersSpec.plain.varTypes Try.pinned.checked.prog ++ Try.f4.resultTypes.toList).any (Try.pinned.checked.prog.wideKeysFrom ·))) = true := by kernel_rfl
theorem z18FnCastOrders : (Rows.fnCastOrdersSpec.vars.all (Try.pinned.checked.prog.varReadable ·)) = true := by kernel_rfl
theorem z19FnCastOrders : (Try.f4.resultTypes.all (fun t => Try.pinned.checked.prog.readableRec t && decide (t < Try.pinned.checked.prog.types.size))) = true := by kernel_rfl
theorem z20FnCastOrders : ((Rows.fnCastOrdersRow.ifacesOut == Try.f4.resultTypes.toList.any (Try.pinned.checked.prog.ifacesRec ·))) = true := by kernel_rfl
theorem z21FnCastOrders : ((Rows.fnCastOrdersRow.loopsOut == Try.f4.resultTypes.toList.any (Try.pinned.checked.prog.loopsFrom ·))) = true := by kernel_rfl
theorem z22FnCastOrders : ((Rows.fnCastOrdersRow.plainKeys == Try.pinned.checked.prog.plainKeys)) = true := by kernel_rfl
theorem z23FnCastOrders : (Rows.fnCastOrdersRow.shortTexts.isNone) = true := by kernel_rfl
theorem z24FnCastOrders : (Try.pinned.checked.prog.stopsHeard) = true := by kernel_rfl
theorem z25FnCastOrders : (Try.pinned.checked.prog.mayEnter) = true := by kernel_rfl
theorem z26FnCastOrders : ((Rows.fnCastOrdersRow.lifted == Try.pinned.checked.prog.liftsFinal)) = true := by kernel_rfl
theorem z27FnCastOrders : ((Try.pinned.checked.prog.make == some Rows.fnCastOrdersRow.make)) = true := by kernel_rfl
theorem z28FnCastOrders : ((Rows.fnCastOrdersRow.kinds == (if Rows.fnCastOrdersRow.domain.isEmpty then [] else Try.f4.params.toList.map fun t => match Try.pinned.checked.prog.underlying t with | some (.int k) => some k | _ => none))) = true := by kernel_rfl
theorem z29FnCastOrders : ((Rows.fnCastOrdersRow.pinned == Rows.fnCastOrdersRow.pinnedBy)) = true := by kernel_rfl
theorem z30FnCastOrders : ((Rows.fnCastOrdersRow.veiled == (Try.f4.params.toList ++ Rows.fnCastOrdersSpec.plain.varTypes Try.pinned.checked.prog ++ Try.f4.resultTypes.toList).any (Try.pinned.checked.prog.veiledRec ·))) = true := by kernel_rfl
theorem z31FnCastOrders : (Rows.fnCastOrdersRow.veiledFits Try.pinned.checked.prog Try.f4.params.toList (Try.f4.params.toList ++ Rows.fnCastOrdersSpec.plain.varTypes Try.pinned.checked.prog ++ Try.f4.resultTypes.toList)) = true := by kernel_rfl
theorem closedFnCastOrders : joinedFacts Try.pinned.checked.prog 4 Try.f4 Rows.fnCastOrdersSpec Rows.fnCastOrdersRow = true := (and2FnCastOrders (and2FnCastOrders (and2FnCastOrders (and2FnCastOrders (and2FnCastOrders (and2FnCastOrders (and2FnCastOrders (and2FnCastOrders (and2FnCastOrders (and2FnCastOrders (and2FnCastOrders (and2FnCastOrders (and2FnCastOrders (and2FnCastOrders (and2FnCastOrders (and2FnCastOrders (and2FnCastOrders (and2FnCastOrders (and2FnCastOrders (and2FnCastOrders (and2FnCastOrders (and2FnCastOrders (and2FnCastOrders (and2FnCastOrders (and2FnCastOrders (and2FnCastOrders (and2FnCastOrders (and2FnCastOrders (and2FnCastOrders (and2FnCastOrders (and2FnCastOrders z0FnCastOrders z1FnCastOrders) z2FnCastOrders) z3FnCastOrders) z4FnCastOrders) z5FnCastOrders) z6FnCastOrders) z7FnCastOrders) z8FnCastOrders) z9FnCastOrders) z10FnCastOrders) z11FnCastOrders) z12FnCastOrders) z13FnCastOrders) z14FnCastOrders) z15FnCastOrders) z16FnCastOrders) z17FnCastOrders) z18FnCastOrders) z19FnCastOrders) z20FnCastOrders) z21FnCastOrders) z22FnCastOrders) z23FnCastOrders) z24FnCastOrders) z25FnCastOrders) z26FnCastOrders) z27FnCastOrders) z28FnCastOrders) z29FnCastOrders) z30FnCastOrders) z31FnCastOrders)
theorem namedFnCastOrders : Try.pinned.checked.prog.funcNamed Rows.fnCastOrdersRow.func = some 4 := by kernel_rfl

theorem overFnCastOrders : Rows.fnCastOrdersRow.holds Try.pinned (OpenSpec.ofChange Rows.fnCastOrdersSpec) :=
  OpenClaim.holds_of_wide 4 Try.f4 rfl rfl rfl rfl rfl rfl rfl ⟨rfl, rfl, rfl, rfl, rfl⟩ rfl rfl rfl rfl rfl namedFnCastOrders Try.func4 closedFnCastOrders
    (of_decide_eq_true (by kernel_rfl)) (by unfold Func.isWrapper; first | (rw [if_pos (by decide +kernel)]; kernel_rfl) | (rw [if_neg (by decide +kernel)]; exact ⟨rfl, rfl⟩))
    (fun os started H enc _ => liftedFnCastOrders os started H enc)

theorem provedFnCastOrders : Rows.FnCastOrdersSaid := overFnCastOrders
#print axioms provedFnCastOrders

end Go.Proofs.Ytjmjepdlclehoaa.Ai
