/- Proved: for every input the law FnGifts returns true, and each argument reads afterwards as it read before. Conditions: none. -/
import Derived.Test.YtmlojdpfpccgoaaAiOpen
import Derived.Test.YtmlojdpfpccgoaaAiTypes
import Derived.Test.YtmlojdpfpccgoaaRows
import Derived.Test.YtmlojdpfpccgoaaLawGifts
import Derived.ProofKit
import Derived.OpenShut
import Derived.ShutString
namespace Go.Proofs.Ytmlojdpfpccgoaa.Ai
open Go Go.Proofs Go.ChangeShapes Go.WideShapes Go.ChangeAt Go.RowKit
set_option linter.unusedVariables false
set_option linter.unusedSimpArgs false
set_option maxRecDepth 100000

theorem opensU8 : Opens Try.prog 5 1 cU8 (fun x => 0 ≤ x ∧ x ≤ 255) := opens_u8 Try.underlying5 cells5
theorem opensU8S : Opens Try.prog 22 1 (fun xs => [.isl 1 (rows cU8 xs)]) (fun xs => ∀ x ∈ xs, 0 ≤ x ∧ x ≤ 255) := opens_slice Try.underlying22 cells22 (by decide) opensU8


theorem ownFnGifts : ownKnob Try.prog.godebug = none := by kernel_rfl
theorem laidOutFnGifts : laidOutB Try.prog = true := by kernel_rfl

set_option maxRecDepth 100000 in
theorem liftedFnGifts (os : Os) (started : os.Started) (H : Type) (enc : TypeId × Value → H) :
    ReturnsInHanded {} Try.checked os 4 .any (Rows.fnGiftsSpec.pre6 enc Try.prog Try.f4 Rows.fnGiftsRow.domain false) (Rows.fnGiftsSpec.post enc Try.prog Try.f4 false true false false) := by
  refine returnsInHanded_of_change (C := Try.checked) ownFnGifts started (by kernel_rfl) Try.func4
    (ChangeSpec.witness6 (enc := enc) (C := Try.checked) false ⟨#[], #[.slice none 0 0, .slice none 0 0], []⟩ 8 (by kernel_rfl) (by kernel_rfl) (by kernel_rfl) (by kernel_rfl)) ?_
  intro W base args ds gs before hval0 hW hcnd _
  have hval : ∀ (j : Nat) t v, Try.f4.params[j]? = some t → args[j]? = some v → Value.okWide Try.prog W .any base t v := hval0
  have hW' := hW
  obtain ⟨p, q, hA0, hV, rfl, hfz, hnd⟩ := hW
  have hA : DataW.TrodAll enc Try.prog W 0 (fun _ => true) true Try.f4.params.toList args.toList ds p := hA0
  rw [Try.params4] at hA hval
  obtain ⟨v0, vs0, d0, ds0, p0, q0, hargs, rfl, rfl, h0, r0⟩ := trodAll_cons hA
  obtain ⟨v1, vs1, d1, ds1, p1, q1, rfl, rfl, rfl, h1, r1⟩ := trodAll_cons r0
  obtain ⟨rfl, rfl, rfl⟩ := trodAll_nil r1
  obtain rfl : args = #[v0, v1] := by cases args; simp_all
  obtain ⟨rfl, rfl⟩ := trodVars_none hV
  have k0 := h0
  have lt0 : ∀ x ∈ p0, x.block < W.heap.size := by obtain ⟨m, hm⟩ := k0; exact DataW.trod_lt m _ _ _ hm
  obtain ⟨b0, l0, c0, rfl⟩ := okWide_slice Try.underlying22 (hval 0 22 v0 rfl rfl)
  obtain ⟨a0, w0, e0⟩ := arg_one (g := fun a => .isl _ (rows _ a)) opensU8S rfl h0
  have k1 := h1
  have lt1 : ∀ x ∈ p1, x.block < W.heap.size := by obtain ⟨m, hm⟩ := k1; exact DataW.trod_lt m _ _ _ hm
  obtain ⟨b1, l1, c1, rfl⟩ := okWide_slice Try.underlying22 (hval 1 22 v1 rfl rfl)
  obtain ⟨a1, w1, e1⟩ := arg_one (g := fun a => .isl _ (rows _ a)) opensU8S rfl h1
  clear hA0 hval0
  refine ((lawGifts_ok a0 a1 w0 w1).2 W (fun k => k < W.heap.size) _ (fun _ h => h) (All2.cons e0 (All2.cons e1 All2.nil))).mono ?_
  rintro e W' ⟨v, r, gs', rfl, rfl, bel, hr⟩
  have hv : v = .bool true := by
    obtain ⟨-, -, hr⟩ := hr
    cases hr with
    | one hr => cases hr with
      | imm hr => cases hr; rfl
  subst hv
  exact ⟨_, rfl, _, _, _, [], _, [], hW', trodAll_mk1 (shut_bool Try.underlying4 _), (trodAll_cons_mk (Below.trod laidOutFnGifts (by kernel_rfl) (of_decide_eq_true (by kernel_rfl)) k0 bel lt0) (trodAll_cons_mk (Below.trod laidOutFnGifts (by kernel_rfl) (of_decide_eq_true (by kernel_rfl)) k1 bel lt1) trodAll_mk0)), rfl, bel.frame _, fun h => by cases h⟩

theorem and2FnGifts {a b : Bool} (ha : a = true) (hb : b = true) : (a && b) = true := by rw [ha, hb]; rfl
theorem z0FnGifts : (Rows.fnGiftsRow.wf (OpenSpec.ofChange Rows.fnGiftsSpec)) = true := by kernel_rfl
theorem z1FnGifts : (laidOutB Try.pinned.checked.prog) = true := by kernel_rfl
theorem z2FnGifts : (mapsRowed Try.pinned.checked.prog) = true := by kernel_rfl
theorem z3FnGifts : (Try.f4.params.all (Try.pinned.checked.prog.readableRec ·)) = true := by kernel_rfl
theorem z4FnGifts : (namedTie Try.pinned.checked.prog Rows.fnGiftsRow.named Rows.fnGiftsSpec.vars) = true := by kernel_rfl
theorem z5FnGifts : ((Rows.fnGiftsRow.stops == [])) = true := by kernel_rfl
theorem z6FnGifts : ((Try.pinned.checked.prog.stops == [])) = true := by kernel_rfl
theorem z7FnGifts : ((Rows.fnGiftsRow.knobs == [])) = true := by kernel_rfl
theorem z8FnGifts : ((Try.pinned.checked.prog.stopKnobs == [])) = true := by kernel_rfl
theorem z9FnGifts : ((Rows.fnGiftsRow.inPlace == Try.pinned.checked.prog.inPlace 4)) = true := by kernel_rfl
theorem z10FnGifts : ((Rows.fnGiftsRow.unfollowed == Try.pinned.checked.prog.unfollowed 4)) = true := by kernel_rfl
theorem z11FnGifts : ((Rows.fnGiftsRow.recurses == Try.pinned.checked.prog.recurses 4)) = true := by kernel_rfl
theorem z12FnGifts : ((Rows.fnGiftsRow.named == Try.pinned.checked.prog.varsNamed 4)) = true := by kernel_rfl
theorem z13FnGifts : ((Rows.fnGiftsRow.maps == (Try.f4.params.toList ++ Rows.fnGiftsSpec.plain.varTypes Try.pinned.checked.prog).any (Try.pinned.checked.prog.mapsRec ·))) = true := by kernel_rfl
theorem z14FnGifts : ((Rows.fnGiftsRow.ifaces == (Try.f4.params.toList ++ Rows.fnGiftsSpec.plain.varTypes Try.pinned.checked.prog).any (Try.pinned.checked.prog.ifacesRec ·))) = true := by kernel_rfl
theorem z15FnGifts : ((Rows.fnGiftsRow.mapsOut == Try.pinned.checked.prog.mapsAmong Try.f4.resultTypes.toList)) = true := by kernel_rfl
theorem z16FnGifts : ((Rows.fnGiftsRow.loops == (Try.f4.params.toList ++ Rows.fnGiftsSpec.plain.varTypes Try.pinned.checked.prog).any (Try.pinned.checked.prog.loopsFrom ·))) = true := by kernel_rfl
theorem z17FnGifts : ((Rows.fnGiftsRow.wideKeys == (Try.f4.params.toList ++ Rows.fnGiftsSpec.plain.varTypes Try.pinned.checked.prog ++ Try.f4.resultTypes.toList).any (Try.pinned.checked.prog.wideKeysFrom ·))) = true := by kernel_rfl
theorem z18FnGifts : (Rows.fnGiftsSpec.vars.all (Try.pinned.checked.prog.varReadable ·)) = true := by kernel_rfl
theorem z19FnGifts : (Try.f4.resultTypes.all (fun t => Try.pinned.checked.prog.readableRec t && decide (t < Try.pinned.checked.prog.types.size))) = true := by kernel_rfl
theorem z20FnGifts : ((Rows.fnGiftsRow.ifacesOut == Try.f4.resultTypes.toList.any (Try.pinned.checked.prog.ifacesRec ·))) = true := by kernel_rfl
theorem z21FnGifts : ((Rows.fnGiftsRow.loopsOut == Try.f4.resultTypes.toList.any (Try.pinned.checked.prog.loopsFrom ·))) = true := by kernel_rfl
theorem z22FnGifts : ((Rows.fnGiftsRow.plainKeys == Try.pinned.checked.prog.plainKeys)) = true := by kernel_rfl
theorem z23FnGifts : (Rows.fnGiftsRow.shortTexts.isNone) = true := by kernel_rfl
theorem z24FnGifts : (Try.pinned.checked.prog.stopsHeard) = true := by kernel_rfl
theorem z25FnGifts : (Try.pinned.checked.prog.mayEnter) = true := by kernel_rfl
theorem z26FnGifts : ((Rows.fnGiftsRow.lifted == Try.pinned.checked.prog.liftsFinal)) = true := by kernel_rfl
theorem z27FnGifts : ((Try.pinned.checked.prog.make == some Rows.fnGiftsRow.make)) = true := by kernel_rfl
theorem z28FnGifts : ((Rows.fnGiftsRow.kinds == (if Rows.fnGiftsRow.domain.isEmpty then [] else Try.f4.params.toList.map fun t => match Try.pinned.checked.prog.underlying t with | some (.int k) => some k | _ => none))) = true := by kernel_rfl
theorem z29FnGifts : ((Rows.fnGiftsRow.pinned == Rows.fnGiftsRow.pinnedBy)) = true := by kernel_rfl
theorem z30FnGifts : ((Rows.fnGiftsRow.veiled == (Try.f4.params.toList ++ Rows.fnGiftsSpec.plain.varTypes Try.pinned.checked.prog ++ Try.f4.resultTypes.toList).any (Try.pinned.checked.prog.veiledRec ·))) = true := by kernel_rfl
theorem z31FnGifts : (Rows.fnGiftsRow.veiledFits Try.pinned.checked.prog Try.f4.params.toList (Try.f4.params.toList ++ Rows.fnGiftsSpec.plain.varTypes Try.pinned.checked.prog ++ Try.f4.resultTypes.toList)) = true := by kernel_rfl
theorem closedFnGifts : joinedFacts Try.pinned.checked.prog 4 Try.f4 Rows.fnGiftsSpec Rows.fnGiftsRow = true := (and2FnGifts (and2FnGifts (and2FnGifts (and2FnGifts (and2FnGifts (and2FnGifts (and2FnGifts (and2FnGifts (and2FnGifts (and2FnGifts (and2FnGifts (and2FnGifts (and2FnGifts (and2FnGifts (and2FnGifts (and2FnGifts (and2FnGifts (and2FnGifts (and2FnGifts (and2FnGifts (and2FnGifts (and2FnGifts (and2FnGifts (and2FnGifts (and2FnGifts (and2FnGifts (and2FnGifts (and2FnGifts (and2FnGifts (and2FnGifts (and2FnGifts z0FnGifts z1FnGifts) z2FnGifts) z3FnGifts) z4FnGifts) z5FnGifts) z6FnGifts) z7FnGifts) z8FnGifts) z9FnGifts) z10FnGifts) z11FnGifts) z12FnGifts) z13FnGifts) z14FnGifts) z15FnGifts) z16FnGifts) z17FnGifts) z18FnGifts) z19FnGifts) z20FnGifts) z21FnGifts) z22FnGifts) z23FnGifts) z24FnGifts) z25FnGifts) z26FnGifts) z27FnGifts) z28FnGifts) z29FnGifts) z30FnGifts) z31FnGifts)
theorem namedFnGifts : Try.pinned.checked.prog.funcNamed Rows.fnGiftsRow.func = some 4 := by kernel_rfl

theorem overFnGifts : Rows.fnGiftsRow.holds Try.pinned (OpenSpec.ofChange Rows.fnGiftsSpec) :=
  OpenClaim.holds_of_wide 4 Try.f4 rfl rfl rfl rfl rfl rfl rfl ⟨rfl, rfl, rfl, rfl, rfl⟩ rfl rfl rfl rfl rfl namedFnGifts Try.func4 closedFnGifts
    (of_decide_eq_true (by kernel_rfl)) (by unfold Func.isWrapper; first | (rw [if_pos (by decide +kernel)]; kernel_rfl) | (rw [if_neg (by decide +kernel)]; exact ⟨rfl, rfl⟩))
    (fun os started H enc _ => liftedFnGifts os started H enc)

theorem provedFnGifts : Rows.FnGiftsSaid := overFnGifts
#print axioms provedFnGifts

end Go.Proofs.Ytmlojdpfpccgoaa.Ai
