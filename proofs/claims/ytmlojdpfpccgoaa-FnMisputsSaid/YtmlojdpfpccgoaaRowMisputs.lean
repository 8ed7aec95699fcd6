/- A list of bytes as data of a row. -/
import Derived.Test.YtmlojdpfpccgoaaAiOpen
import Derived.Test.YtmlojdpfpccgoaaAiTypes
import Derived.Test.YtmlojdpfpccgoaaRows
import Derived.Test.YtmlojdpfpccgoaaLawMisputs
import Derived.ProofKit
import Derived.OpenShut
import Derived.ShutString
namespace Go.Proofs.Ytmlojdpfpccgoaa.Ai
open Go Go.Proofs Go.ChangeShapes Go.WideShapes Go.ChangeAt Go.RowKit
set_option maxRecDepth 100000
set_option linter.unusedVariables false
set_option maxRecDepth 100000 in

theorem opensU8 : Opens Try.prog 5 1 cU8 (fun x => 0 ≤ x ∧ x ≤ 255) := opens_u8 Try.underlying5 cells5
theorem opensU8S : Opens Try.prog 22 1 (fun xs => [.isl 1 (rows cU8 xs)]) (fun xs => ∀ x ∈ xs, 0 ≤ x ∧ x ≤ 255) := opens_slice Try.underlying22 cells22 (by decide) opensU8

/- Proved: for every input the law FnMisputs returns true, and each argument reads afterwards as it read before. Conditions: none. -/

theorem ownFnMisputs : ownKnob Try.prog.godebug = none := by kernel_rfl
theorem laidOutFnMisputs : laidOutB Try.prog = true := by kernel_rfl

theorem liftedFnMisputs (os : Os) (started : os.Started) (H : Type) (enc : TypeId × Value → H) :
    ReturnsInHanded {} Try.checked os 6 .any (Rows.fnMisputsSpec.pre6 enc Try.prog Try.f6 Rows.fnMisputsRow.domain false) (Rows.fnMisputsSpec.post enc Try.prog Try.f6 false true false false) := by
  refine returnsInHanded_of_change (C := Try.checked) ownFnMisputs started (by kernel_rfl) Try.func6
    (ChangeSpec.witness6 (enc := enc) (C := Try.checked) false ⟨#[], #[.slice none 0 0, .slice none 0 0], []⟩ 8 (by kernel_rfl) (by kernel_rfl) (by kernel_rfl) (by kernel_rfl)) ?_
  intro W base args ds gs before hval0 hW hcnd _
  have hval : ∀ (j : Nat) t v, Try.f6.params[j]? = some t → args[j]? = some v → Value.okWide Try.prog W .any base t v := hval0
  have hW' := hW
  obtain ⟨p, q, hA0, hV, rfl, hfz, hnd⟩ := hW
  have hA : DataW.TrodAll enc Try.prog W 0 (fun _ => true) true Try.f6.params.toList args.toList ds p := hA0
  rw [Try.params6] at hA hval
  obtain ⟨v0, vs0, d0, ds0, p0, q0, hargs, rfl, rfl, h0, r0⟩ := trodAll_cons hA
  obtain ⟨v1, vs1, d1, ds1, p1, q1, rfl, rfl, rfl, h1, r1⟩ := trodAll_cons r0
  obtain ⟨rfl, rfl, rfl⟩ := trodAll_nil r1
  obtain rfl : args = #[v0, v1] := by cases args; simp_all
  obtain ⟨rfl, rfl⟩ := trodVars_none hV
  have k0 := h0
  have lt0 : ∀ x ∈ p0, x.block < W.heap.size := by obtain ⟨m, hm⟩ := k0; exact DataW.trod_lt m _ _ _ hm
  obtain ⟨b0, l0, c0, rfl⟩ := okWide_slice Try.underlying22 (hval 0 22 v0 rfl rfl)
  obtain ⟨a0, w0, e0⟩ := arg_one (g := fun a => .isl _ (rows _ a)) opensU8S rfl h0
  have k1 := h1
  have lt1 : ∀ x ∈ p1, x.block < W.heap.size := by obtain ⟨m, hm⟩ := k1; exact DataW.trod_lt m _ _ _ hm
  obtain ⟨b1, l1, c1, rfl⟩ := okWide_slice Try.underlying22 (hval 1 22 v1 rfl rfl)
  obtain ⟨a1, w1, e1⟩ := arg_one (g := fun a => .isl _ (rows _ a)) opensU8S rfl h1
  clear hA0 hval0
  refine ((lawMisputs_ok a0 a1 w0 w1).2 W (fun k => k < W.heap.size) _ (fun _ h => h) (All2.cons e0 (All2.cons e1 All2.nil))).mono ?_
  rintro e W' ⟨v, r, gs', rfl, rfl, bel, hr⟩
  have hv : v = .bool true := by
    obtain ⟨-, -, hr⟩ := hr
    cases hr with
    | one hr => cases hr with
      | imm hr => cases hr; rfl
  subst hv
  exact ⟨_, rfl, _, _, _, [], _, [], hW', trodAll_mk1 (shut_bool Try.underlying4 _), (trodAll_cons_mk (Below.trod laidOutFnMisputs (by kernel_rfl) (of_decide_eq_true (by kernel_rfl)) k0 bel lt0) (trodAll_cons_mk (Below.trod laidOutFnMisputs (by kernel_rfl) (of_decide_eq_true (by kernel_rfl)) k1 bel lt1) trodAll_mk0)), rfl, bel.frame _, fun h => by cases h⟩

theorem and2FnMisputs {a b : Bool} (ha : a = true) (hb : b = true) : (a && b) = true := by rw [ha, hb]; rfl
theorem z0FnMisputs : (Rows.fnMisputsRow.wf (OpenSpec.ofChange Rows.fnMisputsSpec)) = true := by kernel_rfl
theorem z1FnMisputs : (laidOutB Try.pinned.checked.prog) = true := by kernel_rfl
theorem z2FnMisputs : (mapsRowed Try.pinned.checked.prog) = true := by kernel_rfl
theorem z3FnMisputs : (Try.f6.params.all (Try.pinned.checked.prog.readableRec ·)) = true := by kernel_rfl
theorem z4FnMisputs : (namedTie Try.pinned.checked.prog Rows.fnMisputsRow.named Rows.fnMisputsSpec.vars) = true := by kernel_rfl
theorem z5FnMisputs : ((Rows.fnMisputsRow.stops == [])) = true := by kernel_rfl
theorem z6FnMisputs : ((Try.pinned.checked.prog.stops == [])) = true := by kernel_rfl
theorem z7FnMisputs : ((Rows.fnMisputsRow.knobs == [])) = true := by kernel_rfl
theorem z8FnMisputs : ((Try.pinned.checked.prog.stopKnobs == [])) = true := by kernel_rfl
theorem z9FnMisputs : ((Rows.fnMisputsRow.inPlace == Try.pinned.checked.prog.inPlace 6)) = true := by kernel_rfl
theorem z10FnMisputs : ((Rows.fnMisputsRow.unfollowed == Try.pinned.checked.prog.unfollowed 6)) = true := by kernel_rfl
theorem z11FnMisputs : ((Rows.fnMisputsRow.recurses == Try.pinned.checked.prog.recurses 6)) = true := by kernel_rfl
theorem z12FnMisputs : ((Rows.fnMisputsRow.named == Try.pinned.checked.prog.varsNamed 6)) = true := by kernel_rfl
theorem z13FnMisputs : ((Rows.fnMisputsRow.maps == (Try.f6.params.toList ++ Rows.fnMisputsSpec.plain.varTypes Try.pinned.checked.prog).any (Try.pinned.checked.prog.mapsRec ·))) = true := by kernel_rfl
theorem z14FnMisputs : ((Rows.fnMisputsRow.ifaces == (Try.f6.params.toList ++ Rows.fnMisputsSpec.plain.varTypes Try.pinned.checked.prog).any (Try.pinned.checked.prog.ifacesRec ·))) = true := by kernel_rfl
theorem z15FnMisputs : ((Rows.fnMisputsRow.mapsOut == Try.pinned.checked.prog.mapsAmong Try.f6.resultTypes.toList)) = true := by kernel_rfl
theorem z16FnMisputs : ((Rows.fnMisputsRow.loops == (Try.f6.params.toList ++ Rows.fnMisputsSpec.plain.varTypes Try.pinned.checked.prog).any (Try.pinned.checked.prog.loopsFrom ·))) = true := by kernel_rfl
theorem z17FnMisputs : ((Rows.fnMisputsRow.wideKeys == (Try.f6.params.toList ++ Rows.fnMisputsSpec.plain.varTypes Try.pinned.checked.prog ++ Try.f6.resultTypes.toList).any (Try.pinned.checked.prog.wideKeysFrom ·))) = true := by kernel_rfl
theorem z18FnMisputs : (Rows.fnMisputsSpec.vars.all (Try.pinned.checked.prog.varReadable ·)) = true := by kernel_rfl
theorem z19FnMisputs : (Try.f6.resultTypes.all (fun t => Try.pinned.checked.prog.readableRec t && decide (t < Try.pinned.checked.prog.types.size))) = true := by kernel_rfl
theorem z20FnMisputs : ((Rows.fnMisputsRow.ifacesOut == Try.f6.resultTypes.toList.any (Try.pinned.checked.prog.ifacesRec ·))) = true := by kernel_rfl
theorem z21FnMisputs : ((Rows.fnMisputsRow.loopsOut == Try.f6.resultTypes.toList.any (Try.pinned.checked.prog.loopsFrom ·))) = true := by kernel_rfl
theorem z22FnMisputs : ((Rows.fnMisputsRow.plainKeys == Try.pinned.checked.prog.plainKeys)) = true := by kernel_rfl
theorem z23FnMisputs : (Rows.fnMisputsRow.shortTexts.isNone) = true := by kernel_rfl
theorem z24FnMisputs : (Try.pinned.checked.prog.stopsHeard) = true := by kernel_rfl
theorem z25FnMisputs : (Try.pinned.checked.prog.mayEnter) = true := by kernel_rfl
theorem z26FnMisputs : ((Rows.fnMisputsRow.lifted == Try.pinned.checked.prog.liftsFinal)) = true := by kernel_rfl
theorem z27FnMisputs : ((Try.pinned.checked.prog.make == some Rows.fnMisputsRow.make)) = true := by kernel_rfl
theorem z28FnMisputs : ((Rows.fnMisputsRow.kinds == (if Rows.fnMisputsRow.domain.isEmpty then [] else Try.f6.params.toList.map fun t => match Try.pinned.checked.prog.underlying t with | some (.int k) => some k | _ => none))) = true := by kernel_rfl
theorem z29FnMisputs : ((Rows.fnMisputsRow.pinned == Rows.fnMisputsRow.pinnedBy)) = true := by kernel_rfl
theorem z30FnMisputs : ((Rows.fnMisputsRow.veiled == (Try.f6.params.toList ++ Rows.fnMisputsSpec.plain.varTypes Try.pinned.checked.prog ++ Try.f6.resultTypes.toList).any (Try.pinned.checked.prog.veiledRec ·))) = true := by kernel_rfl
theorem z31FnMisputs : (Rows.fnMisputsRow.veiledFits Try.pinned.checked.prog Try.f6.params.toList (Try.f6.params.toList ++ Rows.fnMisputsSpec.plain.varTypes Try.pinned.checked.prog ++ Try.f6.resultTypes.toList)) = true := by kernel_rfl
theorem closedFnMisputs : joinedFacts Try.pinned.checked.prog 6 Try.f6 Rows.fnMisputsSpec Rows.fnMisputsRow = true := (and2FnMisputs (and2FnMisputs (and2FnMisputs (and2FnMisputs (and2FnMisputs (and2FnMisputs (and2FnMisputs (and2FnMisputs (and2FnMisputs (and2FnMisputs (and2FnMisputs (and2FnMisputs (and2FnMisputs (and2FnMisputs (and2FnMisputs (and2FnMisputs (and2FnMisputs (and2FnMisputs (and2FnMisputs (and2FnMisputs (and2FnMisputs (and2FnMisputs (and2FnMisputs (and2FnMisputs (and2FnMisputs (and2FnMisputs (and2FnMisputs (and2FnMisputs (and2FnMisputs (and2FnMisputs (and2FnMisputs z0FnMisputs z1FnMisputs) z2FnMisputs) z3FnMisputs) z4FnMisputs) z5FnMisputs) z6FnMisputs) z7FnMisputs) z8FnMisputs) z9FnMisputs) z10FnMisputs) z11FnMisputs) z12FnMisputs) z13FnMisputs) z14FnMisputs) z15FnMisputs) z16FnMisputs) z17FnMisputs) z18FnMisputs) z19FnMisputs) z20FnMisputs) z21FnMisputs) z22FnMisputs) z23FnMisputs) z24FnMisputs) z25FnMisputs) z26FnMisputs) z27FnMisputs) z28FnMisputs) z29FnMisputs) z30FnMisputs) z31FnMisputs)
theorem namedFnMisputs : Try.pinned.checked.prog.funcNamed Rows.fnMisputsRow.func = some 6 := by kernel_rfl

theorem overFnMisputs : Rows.fnMisputsRow.holds Try.pinned (OpenSpec.ofChange Rows.fnMisputsSpec) :=
  OpenClaim.holds_of_wide 6 Try.f6 rfl rfl rfl rfl rfl rfl rfl ⟨rfl, rfl, rfl, rfl, rfl⟩ rfl rfl rfl rfl rfl namedFnMisputs Try.func6 closedFnMisputs
    (of_decide_eq_true (by kernel_rfl)) (by unfold Func.isWrapper; first | (rw [if_pos (by decide +kernel)]; kernel_rfl) | (rw [if_neg (by decide +kernel)]; exact ⟨rfl, rfl⟩))
    (fun os started H enc _ => liftedFnMisputs os started H enc)

theorem provedFnMisputs : Rows.FnMisputsSaid := overFnMisputs
#print axioms provedFnMisputs

end Go.Proofs.Ytmlojdpfpccgoaa.Ai
