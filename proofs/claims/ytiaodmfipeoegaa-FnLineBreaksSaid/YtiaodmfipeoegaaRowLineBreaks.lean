/- Proved: for every input the law FnLineBreaks returns true, and each argument reads afterwards as it read before. Conditions: none. -/
import Derived.Test.YtiaodmfipeoegaaAiOpen
import Derived.Test.YtiaodmfipeoegaaAiTypes
import Derived.Test.YtiaodmfipeoegaaRows
import Derived.Test.YtiaodmfipeoegaaLawLineBreaks
import Derived.ProofKit
import Derived.OpenShut
import Derived.ShutString
namespace Go.Proofs.Ytiaodmfipeoegaa.Ai
open Go Go.Proofs Go.ChangeShapes Go.WideShapes Go.ChangeAt Go.RowKit
set_option linter.unusedVariables false
set_option linter.unusedSimpArgs false
set_option maxRecDepth 100000

theorem opensU8 : Opens Try.prog 5 1 cU8 (fun x => 0 ≤ x ∧ x ≤ 255) := opens_u8 Try.underlying5 cells5
theorem opensU8S : Opens Try.prog 22 1 (fun xs => [.isl 1 (rows cU8 xs)]) (fun xs => ∀ x ∈ xs, 0 ≤ x ∧ x ≤ 255) := opens_slice Try.underlying22 cells22 (by decide) opensU8


theorem ownFnLineBreaks : ownKnob Try.prog.godebug = none := by kernel_rfl
theorem laidOutFnLineBreaks : laidOutB Try.prog = true := by kernel_rfl

set_option maxRecDepth 100000 in
theorem liftedFnLineBreaks (os : Os) (started : os.Started) (H : Type) (enc : TypeId × Value → H) :
    ReturnsInHanded {} Try.checked os 6 .any (Rows.fnLineBreaksSpec.pre6 enc Try.prog Try.f6 Rows.fnLineBreaksRow.domain false) (Rows.fnLineBreaksSpec.post enc Try.prog Try.f6 false true false false) := by
  refine returnsInHanded_of_change (C := Try.checked) ownFnLineBreaks started (by kernel_rfl) Try.func6
    (ChangeSpec.witness6 (enc := enc) (C := Try.checked) false ⟨#[], #[.slice none 0 0, .slice none 0 0], []⟩ 8 (by kernel_rfl) (by kernel_rfl) (by kernel_rfl) (by kernel_rfl)) ?_
  intro W base args ds gs before hval0 hW hcnd _
  have hval : ∀ (j : Nat) t v, Try.f6.params[j]? = some t → args[j]? = some v → Value.okWide Try.prog W .any base t v := hval0
  have hW' := hW
  obtain ⟨p, q, hA0, hV, rfl, hfz, hnd⟩ := hW
  have hA : DataW.TrodAll enc Try.prog W 0 (fun _ => true) true Try.f6.params.toList args.toList ds p := hA0
  rw [Try.params6] at hA hval
  obtain ⟨v0, vs0, d0, ds0, p0, q0, hargs, rfl, rfl, h0, r0⟩ := trodAll_cons hA
  obtain ⟨v1, vs1, d1, ds1, p1, q1, rfl, rfl, rfl, h1, r1⟩ := trodAll_cons r0
  obtain ⟨rfl, rfl, rfl⟩ := trodAll_nil r1
  obtain rfl : args = #[v0, v1] := by cases args; simp_all
  obtain ⟨rfl, rfl⟩ := trodVars_none hV
  have k0 := h0
  have lt0 : ∀ x ∈ p0, x.block < W.heap.size := by obtain ⟨m, hm⟩ := k0; exact DataW.trod_lt m _ _ _ hm
  obtain ⟨b0, l0, c0, rfl⟩ := okWide_slice Try.underlying22 (hval 0 22 v0 rfl rfl)
  obtain ⟨a0, w0, e0⟩ := arg_one (g := fun a => .isl _ (rows _ a)) opensU8S rfl h0
  have k1 := h1
  have lt1 : ∀ x ∈ p1, x.block < W.heap.size := by obtain ⟨m, hm⟩ := k1; exact DataW.trod_lt m _ _ _ hm
  obtain ⟨b1, l1, c1, rfl⟩ := okWide_slice Try.underlying22 (hval 1 22 v1 rfl rfl)
  obtain ⟨a1, w1, e1⟩ := arg_one (g := fun a => .isl _ (rows _ a)) opensU8S rfl h1
  clear hA0 hval0
  refine ((lawLineBreaks_ok a0 a1 w0 w1).2 W (fun k => k < W.heap.size) _ ⟨fun _ h => h, W.heap.size, Nat.le_refl _, Good.triv _ _⟩ (All2.cons e0 (All2.cons e1 All2.nil))).mono ?_
  rintro e W' ⟨v, r, gs', rfl, rfl, bel, hr⟩
  have hv : v = .bool true := by
    obtain ⟨-, -, hr⟩ := hr
    cases hr with
    | one hr => cases hr with
      | imm hr => cases hr; rfl
  subst hv
  exact ⟨_, rfl, _, _, _, [], _, [], hW', trodAll_mk1 (shut_bool Try.underlying4 _), (trodAll_cons_mk (Below.trod laidOutFnLineBreaks (by kernel_rfl) (of_decide_eq_true (by kernel_rfl)) k0 bel lt0) (trodAll_cons_mk (Below.trod laidOutFnLineBreaks (by kernel_rfl) (of_decide_eq_true (by kernel_rfl)) k1 bel lt1) trodAll_mk0)), rfl, bel.frame _, fun h => by cases h⟩

theorem and2FnLineBreaks {a b : Bool} (ha : a = true) (hb : b = true) : (a && b) = true := by rw [ha, hb]; rfl
theorem z0FnLineBreaks : (Rows.fnLineBreaksRow.wf (OpenSpec.ofChange Rows.fnLineBreaksSpec)) = true := by kernel_rfl
theorem z1FnLineBreaks : (laidOutB Try.pinned.checked.prog) = true := by kernel_rfl
theorem z2FnLineBreaks : (mapsRowed Try.pinned.checked.prog) = true := by kernel_rfl
theorem z3FnLineBreaks : (Try.f6.params.all (Try.pinned.checked.prog.readableRec ·)) = true := by kernel_rfl
theorem z4FnLineBreaks : (namedTie Try.pinned.checked.prog Rows.fnLineBreaksRow.named Rows.fnLineBreaksSpec.vars) = true := by kernel_rfl
theorem z5FnLineBreaks : ((Rows.fnLineBreaksRow.stops == [])) = true := by kernel_rfl
theorem z6FnLineBreaks : ((Try.pinned.checked.prog.stops == [])) = true := by kernel_rfl
theorem z7FnLineBreaks : ((Rows.fnLineBreaksRow.knobs == [])) = true := by kernel_rfl
theorem z8FnLineBreaks : ((Try.pinned.checked.prog.stopKnobs == [])) = true := by kernel_rfl
theorem z9FnLineBreaks : ((Rows.fnLineBreaksRow.inPlace == Try.pinned.checked.prog.inPlace 6)) = true := by kernel_rfl
theorem z10FnLineBreaks : ((Rows.fnLineBreaksRow.unfollowed == Try.pinned.checked.prog.unfollowed 6)) = true := by kernel_rfl
theorem z11FnLineBreaks : ((Rows.fnLineBreaksRow.recurses == Try.pinned.checked.prog.recurses 6)) = true := by kernel_rfl
theorem z12FnLineBreaks : ((Rows.fnLineBreaksRow.named == Try.pinned.checked.prog.varsNamed 6)) = true := by kernel_rfl
theorem z13FnLineBreaks : ((Rows.fnLineBreaksRow.maps == (Try.f6.params.toList ++ Rows.fnLineBreaksSpec.plain.varTypes Try.pinned.checked.prog).any (Try.pinned.checked.prog.mapsRec ·))) = true := by kernel_rfl
theorem z14FnLineBreaks : ((Rows.fnLineBreaksRow.ifaces == (Try.f6.params.toList ++ Rows.fnLineBreaksSpec.plain.varTypes Try.pinned.checked.prog).any (Try.pinned.checked.prog.ifacesRec ·))) = true := by kernel_rfl
theorem z15FnLineBreaks : ((Rows.fnLineBreaksRow.mapsOut == Try.pinned.checked.prog.mapsAmong Try.f6.resultTypes.toList)) = true := by kernel_rfl
theorem z16FnLineBreaks : ((Rows.fnLineBreaksRow.loops == (Try.f6.params.toList ++ Rows.fnLineBreaksSpec.plain.varTypes Try.pinned.checked.prog).any (Try.pinned.checked.prog.loopsFrom ·))) = true := by kernel_rfl
theorem z17FnLineBreaks : ((Rows.fnLineBreaksRow.wideKeys == (Try.f6.params.toList ++ Rows.fnLineBreaksSpec.plain.varTypes Try.pinned.checked.prog ++ Try.f6.resultTypes.toList).any (Try.pinned.checked.prog.wideKeysFrom ·))) = true := by kernel_rfl
theorem z18FnLineBreaks : (Rows.fnLineBreaksSpec.vars.all (Try.pinned.checked.prog.varReadable ·)) = true := by kernel_rfl
theorem z19FnLineBreaks : (Try.f6.resultTypes.all (fun t => Try.pinned.checked.prog.readableRec t && decide (t < Try.pinned.checked.prog.types.size))) = true := by kernel_rfl
theorem z20FnLineBreaks : ((Rows.fnLineBreaksRow.ifacesOut == Try.f6.resultTypes.toList.any (Try.pinned.checked.prog.ifacesRec ·))) = true := by kernel_rfl
theorem z21FnLineBreaks : ((Rows.fnLineBreaksRow.loopsOut == Try.f6.resultTypes.toList.any (Try.pinned.checked.prog.loopsFrom ·))) = true := by kernel_rfl
theorem z22FnLineBreaks : ((Rows.fnLineBreaksRow.plainKeys == Try.pinned.checked.prog.plainKeys)) = true := by kernel_rfl
theorem z23FnLineBreaks : (Rows.fnLineBreaksRow.shortTexts.isNone) = true := by kernel_rfl
theorem z24FnLineBreaks : (Try.pinned.checked.prog.stopsHeard) = true := by kernel_rfl
theorem z25FnLineBreaks : (Try.pinned.checked.prog.mayEnter) = true := by kernel_rfl
theorem z26FnLineBreaks : ((Rows.fnLineBreaksRow.lifted == Try.pinned.checked.prog.liftsFinal)) = true := by kernel_rfl
theorem z27FnLineBreaks : ((Try.pinned.checked.prog.make == some Rows.fnLineBreaksRow.make)) = true := by kernel_rfl
theorem z28FnLineBreaks : ((Rows.fnLineBreaksRow.kinds == (if Rows.fnLineBreaksRow.domain.isEmpty then [] else Try.f6.params.toList.map fun t => match Try.pinned.checked.prog.underlying t with | some (.int k) => some k | _ => none))) = true := by kernel_rfl
theorem z29FnLineBreaks : ((Rows.fnLineBreaksRow.pinned == Rows.fnLineBreaksRow.pinnedBy)) = true := by kernel_rfl
theorem z30FnLineBreaks : ((Rows.fnLineBreaksRow.veiled == (Try.f6.params.toList ++ Rows.fnLineBreaksSpec.plain.varTypes Try.pinned.checked.prog ++ Try.f6.resultTypes.toList).any (Try.pinned.checked.prog.veiledRec ·))) = true := by kernel_rfl
theorem z31FnLineBreaks : (Rows.fnLineBreaksRow.veiledFits Try.pinned.checked.prog Try.f6.params.toList (Try.f6.params.toList ++ Rows.fnLineBreaksSpec.plain.varTypes Try.pinned.checked.prog ++ Try.f6.resultTypes.toList)) = true := by kernel_rfl
theorem closedFnLineBreaks : joinedFacts Try.pinned.checked.prog 6 Try.f6 Rows.fnLineBreaksSpec Rows.fnLineBreaksRow = true := (and2FnLineBreaks (and2FnLineBreaks (and2FnLineBreaks (and2FnLineBreaks (and2FnLineBreaks (and2FnLineBreaks (and2FnLineBreaks (and2FnLineBreaks (and2FnLineBreaks (and2FnLineBreaks (and2FnLineBreaks (and2FnLineBreaks (and2FnLineBreaks (and2FnLineBreaks (and2FnLineBreaks (and2FnLineBreaks (and2FnLineBreaks (and2FnLineBreaks (and2FnLineBreaks (and2FnLineBreaks (and2FnLineBreaks (and2FnLineBreaks (and2FnLineBreaks (and2FnLineBreaks (and2FnLineBreaks (and2FnLineBreaks (and2FnLineBreaks (and2FnLineBreaks (and2FnLineBreaks (and2FnLineBreaks (and2FnLineBreaks z0FnLineBreaks z1FnLineBreaks) z2FnLineBreaks) z3FnLineBreaks) z4FnLineBreaks) z5FnLineBreaks) z6FnLineBreaks) z7FnLineBreaks) z8FnLineBreaks) z9FnLineBreaks) z10FnLineBreaks) z11FnLineBreaks) z12FnLineBreaks) z13FnLineBreaks) z14FnLineBreaks) z15FnLineBreaks) z16FnLineBreaks) z17FnLineBreaks) z18FnLineBreaks) z19FnLineBreaks) z20FnLineBreaks) z21FnLineBreaks) z22FnLineBreaks) z23FnLineBreaks) z24FnLineBreaks) z25FnLineBreaks) z26FnLineBreaks) z27FnLineBreaks) z28FnLineBreaks) z29FnLineBreaks) z30FnLineBreaks) z31FnLineBreaks)
theorem namedFnLineBreaks : Try.pinned.checked.prog.funcNamed Rows.fnLineBreaksRow.func = some 6 := by kernel_rfl

theorem overFnLineBreaks : Rows.fnLineBreaksRow.holds Try.pinned (OpenSpec.ofChange Rows.fnLineBreaksSpec) :=
  OpenClaim.holds_of_wide 6 Try.f6 rfl rfl rfl rfl rfl rfl rfl ⟨rfl, rfl, rfl, rfl, rfl⟩ rfl rfl rfl rfl rfl namedFnLineBreaks Try.func6 closedFnLineBreaks
    (of_decide_eq_true (by kernel_rfl)) (by unfold Func.isWrapper; first | (rw [if_pos (by decide +kernel)]; kernel_rfl) | (rw [if_neg (by decide +kernel)]; exact ⟨rfl, rfl⟩))
    (fun os started H enc _ => liftedFnLineBreaks os started H enc)

theorem provedFnLineBreaks : Rows.FnLineBreaksSaid := overFnLineBreaks
#print axioms provedFnLineBreaks

end Go.Proofs.Ytiaodmfipeoegaa.Ai
