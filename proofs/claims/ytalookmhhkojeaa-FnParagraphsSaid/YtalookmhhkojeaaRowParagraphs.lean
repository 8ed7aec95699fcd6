/- Proved: for every input the law FnParagraphs returns true, and each argument reads afterwards as it read before. Conditions: none. -/
import Derived.Test.YtalookmhhkojeaaAiOpen
import Derived.Test.YtalookmhhkojeaaAiTypes
import Derived.Test.YtalookmhhkojeaaRows
import Derived.Test.YtalookmhhkojeaaLawParagraphs
import Derived.ProofKit
import Derived.OpenShut
import Derived.ShutString
namespace Go.Proofs.Ytalookmhhkojeaa.Ai
open Go Go.Proofs Go.ChangeShapes Go.WideShapes Go.ChangeAt Go.RowKit
set_option linter.unusedVariables false
set_option linter.unusedSimpArgs false
set_option maxRecDepth 100000

theorem opensU8 : Opens Try.prog 5 1 cU8 (fun x => 0 ≤ x ∧ x ≤ 255) := opens_u8 Try.underlying5 cells5
theorem opensU8S : Opens Try.prog 22 1 (fun xs => [.isl 1 (rows cU8 xs)]) (fun xs => ∀ x ∈ xs, 0 ≤ x ∧ x ≤ 255) := opens_slice Try.underlying22 cells22 (by decide) opensU8


theorem ownFnParagraphs : ownKnob Try.prog.godebug = none := by kernel_rfl
theorem laidOutFnParagraphs : laidOutB Try.prog = true := by kernel_rfl

set_option maxRecDepth 100000 in
theorem liftedFnParagraphs (os : Os) (started : os.Started) (H : Type) (enc : TypeId × Value → H) :
    ReturnsInHanded {} Try.checked os 4 .any (Rows.fnParagraphsSpec.pre6 enc Try.prog Try.f4 Rows.fnParagraphsRow.domain false) (Rows.fnParagraphsSpec.post enc Try.prog Try.f4 false true false false) := by
  refine returnsInHanded_of_change (C := Try.checked) ownFnParagraphs started (by kernel_rfl) Try.func4
    (ChangeSpec.witness6 (enc := enc) (C := Try.checked) false ⟨#[], #[.slice none 0 0, .slice none 0 0], []⟩ 8 (by kernel_rfl) (by kernel_rfl) (by kernel_rfl) (by kernel_rfl)) ?_
  intro W base args ds gs before hval0 hW hcnd _
  have hval : ∀ (j : Nat) t v, Try.f4.params[j]? = some t → args[j]? = some v → Value.okWide Try.prog W .any base t v := hval0
  have hW' := hW
  obtain ⟨p, q, hA0, hV, rfl, hfz, hnd⟩ := hW
  have hA : DataW.TrodAll enc Try.prog W 0 (fun _ => true) true Try.f4.params.toList args.toList ds p := hA0
  rw [Try.params4] at hA hval
  obtain ⟨v0, vs0, d0, ds0, p0, q0, hargs, rfl, rfl, h0, r0⟩ := trodAll_cons hA
  obtain ⟨v1, vs1, d1, ds1, p1, q1, rfl, rfl, rfl, h1, r1⟩ := trodAll_cons r0
  obtain ⟨rfl, rfl, rfl⟩ := trodAll_nil r1
  obtain rfl : args = #[v0, v1] := by cases args; simp_all
  obtain ⟨rfl, rfl⟩ := trodVars_none hV
  have k0 := h0
  have lt0 : ∀ x ∈ p0, x.block < W.heap.size := by obtain ⟨m, hm⟩ := k0; exact DataW.trod_lt m _ _ _ hm
  obtain ⟨b0, l0, c0, rfl⟩ := okWide_slice Try.underlying22 (hval 0 22 v0 rfl rfl)
  obtain ⟨a0, w0, e0⟩ := arg_one (g := fun a => .isl _ (rows _ a)) opensU8S rfl h0
  have k1 := h1
  have lt1 : ∀ x ∈ p1, x.block < W.heap.size := by obtain ⟨m, hm⟩ := k1; exact DataW.trod_lt m _ _ _ hm
  obtain ⟨b1, l1, c1, rfl⟩ := okWide_slice Try.underlying22 (hval 1 22 v1 rfl rfl)
  obtain ⟨a1, w1, e1⟩ := arg_one (g := fun a => .isl _ (rows _ a)) opensU8S rfl h1
  clear hA0 hval0
  refine ((lawParagraphs_ok a0 a1 w0 w1).2 W (fun k => k < W.heap.size) _ ⟨fun _ h => h, W.heap.size, Nat.le_refl _, Good.triv _ _⟩ (All2.cons e0 (All2.cons e1 All2.nil))).mono ?_
  rintro e W' ⟨v, r, gs', rfl, rfl, bel, hr⟩
  have hv : v = .bool true := by
    obtain ⟨-, -, hr⟩ := hr
    cases hr with
    | one hr => cases hr with
      | imm hr => cases hr; rfl
  subst hv
  exact ⟨_, rfl, _, _, _, [], _, [], hW', trodAll_mk1 (shut_bool Try.underlying4 _), (trodAll_cons_mk (Below.trod laidOutFnParagraphs (by kernel_rfl) (of_decide_eq_true (by kernel_rfl)) k0 bel lt0) (trodAll_cons_mk (Below.trod laidOutFnParagraphs (by kernel_rfl) (of_decide_eq_true (by kernel_rfl)) k1 bel lt1) trodAll_mk0)), rfl, bel.frame _, fun h => by cases h⟩

theorem and2FnParagraphs {a b : Bool} (ha : a = true) (hb : b = true) : (a && b) = true := by rw [ha, hb]; rfl
theorem z0FnParagraphs : (Rows.fnParagraphsRow.wf (OpenSpec.ofChange Rows.fnParagraphsSpec)) = true := by kernel_rfl
theorem z1FnParagraphs : (laidOutB Try.pinned.checked.prog) = true := by kernel_rfl
theorem z2FnParagraphs : (mapsRowed Try.pinned.checked.prog) = true := by kernel_rfl
theorem z3FnParagraphs : (Try.f4.params.all (Try.pinned.checked.prog.readableRec ·)) = true := by kernel_rfl
theorem z4FnParagraphs : (namedTie Try.pinned.checked.prog Rows.fnParagraphsRow.named Rows.fnParagraphsSpec.vars) = true := by kernel_rfl
theorem z5FnParagraphs : ((Rows.fnParagraphsRow.stops == [])) = true := by kernel_rfl
theorem z6FnParagraphs : ((Try.pinned.checked.prog.stops == [])) = true := by kernel_rfl
theorem z7FnParagraphs : ((Rows.fnParagraphsRow.knobs == [])) = true := by kernel_rfl
theorem z8FnParagraphs : ((Try.pinned.checked.prog.stopKnobs == [])) = true := by kernel_rfl
theorem z9FnParagraphs : ((Rows.fnParagraphsRow.inPlace == Try.pinned.checked.prog.inPlace 4)) = true := by kernel_rfl
theorem z10FnParagraphs : ((Rows.fnParagraphsRow.unfollowed == Try.pinned.checked.prog.unfollowed 4)) = true := by kernel_rfl
theorem z11FnParagraphs : ((Rows.fnParagraphsRow.recurses == Try.pinned.checked.prog.recurses 4)) = true := by kernel_rfl
theorem z12FnParagraphs : ((Rows.fnParagraphsRow.named == Try.pinned.checked.prog.varsNamed 4)) = true := by kernel_rfl
theorem z13FnParagraphs : ((Rows.fnParagraphsRow.maps == (Try.f4.params.toList ++ Rows.fnParagraphsSpec.plain.varTypes Try.pinned.checked.prog).any (Try.pinned.checked.prog.mapsRec ·))) = true := by kernel_rfl
theorem z14FnParagraphs : ((Rows.fnParagraphsRow.ifaces == (Try.f4.params.toList ++ Rows.fnParagraphsSpec.plain.varTypes Try.pinned.checked.prog).any (Try.pinned.checked.prog.ifacesRec ·))) = true := by kernel_rfl
theorem z15FnParagraphs : ((Rows.fnParagraphsRow.mapsOut == Try.pinned.checked.prog.mapsAmong Try.f4.resultTypes.toList)) = true := by kernel_rfl
theorem z16FnParagraphs : ((Rows.fnParagraphsRow.loops == (Try.f4.params.toList ++ Rows.fnParagraphsSpec.plain.varTypes Try.pinned.checked.prog).any (Try.pinned.checked.prog.loopsFrom ·))) = true := by kernel_rfl
theorem z17FnParagraphs : ((Rows.fnParagraphsRow.wideKeys == (Try.f4.params.toList ++ Rows.fnParagraphsSpec.plain.varTypes Try.pinned.checked.prog ++ Try.f4.resultTypes.toList).any (Try.pinned.checked.prog.wideKeysFrom ·))) = true := by kernel_rfl
theorem z18FnParagraphs : (Rows.fnParagraphsSpec.vars.all (Try.pinned.checked.prog.varReadable ·)) = true := by kernel_rfl
theorem z19FnParagraphs : (Try.f4.resultTypes.all (fun t => Try.pinned.checked.prog.readableRec t && decide (t < Try.pinned.checked.prog.types.size))) = true := by kernel_rfl
theorem z20FnParagraphs : ((Rows.fnParagraphsRow.ifacesOut == Try.f4.resultTypes.toList.any (Try.pinned.checked.prog.ifacesRec ·))) = true := by kernel_rfl
theorem z21FnParagraphs : ((Rows.fnParagraphsRow.loopsOut == Try.f4.resultTypes.toList.any (Try.pinned.checked.prog.loopsFrom ·))) = true := by kernel_rfl
theorem z22FnParagraphs : ((Rows.fnParagraphsRow.plainKeys == Try.pinned.checked.prog.plainKeys)) = true := by kernel_rfl
theorem z23FnParagraphs : (Rows.fnParagraphsRow.shortTexts.isNone) = true := by kernel_rfl
theorem z24FnParagraphs : (Try.pinned.checked.prog.stopsHeard) = true := by kernel_rfl
theorem z25FnParagraphs : (Try.pinned.checked.prog.mayEnter) = true := by kernel_rfl
theorem z26FnParagraphs : ((Rows.fnParagraphsRow.lifted == Try.pinned.checked.prog.liftsFinal)) = true := by kernel_rfl
theorem z27FnParagraphs : ((Try.pinned.checked.prog.make == some Rows.fnParagraphsRow.make)) = true := by kernel_rfl
theorem z28FnParagraphs : ((Rows.fnParagraphsRow.kinds == (if Rows.fnParagraphsRow.domain.isEmpty then [] else Try.f4.params.toList.map fun t => match Try.pinned.checked.prog.underlying t with | some (.int k) => some k | _ => none))) = true := by kernel_rfl
theorem z29FnParagraphs : ((Rows.fnParagraphsRow.pinned == Rows.fnParagraphsRow.pinnedBy)) = true := by kernel_rfl
theorem z30FnParagraphs : ((Rows.fnParagraphsRow.veiled == (Try.f4.params.toList ++ Rows.fnParagraphsSpec.plain.varTypes Try.pinned.checked.prog ++ Try.f4.resultTypes.toList).any (Try.pinned.checked.prog.veiledRec ·))) = true := by kernel_rfl
theorem z31FnParagraphs : (Rows.fnParagraphsRow.veiledFits Try.pinned.checked.prog Try.f4.params.toList (Try.f4.params.toList ++ Rows.fnParagraphsSpec.plain.varTypes Try.pinned.checked.prog ++ Try.f4.resultTypes.toList)) = true := by kernel_rfl
theorem closedFnParagraphs : joinedFacts Try.pinned.checked.prog 4 Try.f4 Rows.fnParagraphsSpec Rows.fnParagraphsRow = true := (and2FnParagraphs (and2FnParagraphs (and2FnParagraphs (and2FnParagraphs (and2FnParagraphs (and2FnParagraphs (and2FnParagraphs (and2FnParagraphs (and2FnParagraphs (and2FnParagraphs (and2FnParagraphs (and2FnParagraphs (and2FnParagraphs (and2FnParagraphs (and2FnParagraphs (and2FnParagraphs (and2FnParagraphs (and2FnParagraphs (and2FnParagraphs (and2FnParagraphs (and2FnParagraphs (and2FnParagraphs (and2FnParagraphs (and2FnParagraphs (and2FnParagraphs (and2FnParagraphs (and2FnParagraphs (and2FnParagraphs (and2FnParagraphs (and2FnParagraphs (and2FnParagraphs z0FnParagraphs z1FnParagraphs) z2FnParagraphs) z3FnParagraphs) z4FnParagraphs) z5FnParagraphs) z6FnParagraphs) z7FnParagraphs) z8FnParagraphs) z9FnParagraphs) z10FnParagraphs) z11FnParagraphs) z12FnParagraphs) z13FnParagraphs) z14FnParagraphs) z15FnParagraphs) z16FnParagraphs) z17FnParagraphs) z18FnParagraphs) z19FnParagraphs) z20FnParagraphs) z21FnParagraphs) z22FnParagraphs) z23FnParagraphs) z24FnParagraphs) z25FnParagraphs) z26FnParagraphs) z27FnParagraphs) z28FnParagraphs) z29FnParagraphs) z30FnParagraphs) z31FnParagraphs)
theorem namedFnParagraphs : Try.pinned.checked.prog.funcNamed Rows.fnParagraphsRow.func = some 4 := by kernel_rfl

theorem overFnParagraphs : Rows.fnParagraphsRow.holds Try.pinned (OpenSpec.ofChange Rows.fnParagraphsSpec) :=
  OpenClaim.holds_of_wide 4 Try.f4 rfl rfl rfl rfl rfl rfl rfl ⟨rfl, rfl, rfl, rfl, rfl⟩ rfl rfl rfl rfl rfl namedFnParagraphs Try.func4 closedFnParagraphs
    (of_decide_eq_true (by kernel_rfl)) (by unfold Func.isWrapper; first | (rw [if_pos (by decide +kernel)]; kernel_rfl) | (rw [if_neg (by decide +kernel)]; exact ⟨rfl, rfl⟩))
    (fun os started H enc _ => liftedFnParagraphs os started H enc)

theorem provedFnParagraphs : Rows.FnParagraphsSaid := overFnParagraphs
#print axioms provedFnParagraphs

end Go.Proofs.Ytalookmhhkojeaa.Ai
