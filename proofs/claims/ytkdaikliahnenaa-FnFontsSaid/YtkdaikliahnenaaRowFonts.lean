/- Proved: for every input the law FnFonts returns true, and each argument reads afterwards as it read before. Conditions: none. -/
import Derived.Test.YtkdaikliahnenaaRows
import Derived.Test.YtkdaikliahnenaaAiOpen
import Derived.Test.YtkdaikliahnenaaLawFonts
import Derived.Test.YtkdaikliahnenaaOpensU8
import Derived.ProofKit
import Derived.OpenShut
import Derived.ShutString
namespace Go.Proofs.Ytkdaikliahnenaa.Ai
open Go Go.Proofs Go.ChangeShapes Go.WideShapes Go.ChangeAt Go.RowKit
set_option linter.unusedVariables false
set_option maxRecDepth 100000

theorem ownFnFonts : ownKnob Try.prog.godebug = none := by kernel_rfl
theorem laidOutFnFonts : laidOutB Try.prog = true := by kernel_rfl

set_option maxRecDepth 100000 in
theorem liftedFnFonts (os : Os) (started : os.Started) (H : Type) (enc : TypeId × Value → H) :
    ReturnsInHanded {} Try.checked os 3 .any (Rows.fnFontsSpec.pre6 enc Try.prog Try.f3 Rows.fnFontsRow.domain false) (Rows.fnFontsSpec.post enc Try.prog Try.f3 false true false false) := by
  refine returnsInHanded_of_change (C := Try.checked) ownFnFonts started (by kernel_rfl) Try.func3
    (ChangeSpec.witness6 (enc := enc) (C := Try.checked) false ⟨#[], #[.slice none 0 0, .slice none 0 0], []⟩ 8 (by kernel_rfl) (by kernel_rfl) (by kernel_rfl) (by kernel_rfl)) ?_
  intro W base args ds gs before hval0 hW hcnd _
  have hval : ∀ (j : Nat) t v, Try.f3.params[j]? = some t → args[j]? = some v → Value.okWide Try.prog W .any base t v := hval0
  have hW' := hW
  obtain ⟨p, q, hA0, hV, rfl, hfz, hnd⟩ := hW
  have hA : DataW.TrodAll enc Try.prog W 0 (fun _ => true) true Try.f3.params.toList args.toList ds p := hA0
  rw [Try.params3] at hA hval
  obtain ⟨v0, vs0, d0, ds0, p0, q0, hargs, rfl, rfl, h0, r0⟩ := trodAll_cons hA
  obtain ⟨v1, vs1, d1, ds1, p1, q1, rfl, rfl, rfl, h1, r1⟩ := trodAll_cons r0
  obtain ⟨rfl, rfl, rfl⟩ := trodAll_nil r1
  obtain rfl : args = #[v0, v1] := by cases args; simp_all
  obtain ⟨rfl, rfl⟩ := trodVars_none hV
  have k0 := h0
  have lt0 : ∀ x ∈ p0, x.block < W.heap.size := by obtain ⟨m, hm⟩ := k0; exact DataW.trod_lt m _ _ _ hm
  obtain ⟨b0, l0, c0, rfl⟩ := okWide_slice Try.underlying22 (hval 0 22 v0 rfl rfl)
  obtain ⟨a0, w0, e0⟩ := arg_one (g := fun a => .isl _ (rows _ a)) opensU8S rfl h0
  have k1 := h1
  have lt1 : ∀ x ∈ p1, x.block < W.heap.size := by obtain ⟨m, hm⟩ := k1; exact DataW.trod_lt m _ _ _ hm
  obtain ⟨b1, l1, c1, rfl⟩ := okWide_slice Try.underlying22 (hval 1 22 v1 rfl rfl)
  obtain ⟨a1, w1, e1⟩ := arg_one (g := fun a => .isl _ (rows _ a)) opensU8S rfl h1
  clear hA0 hval0
  refine ((lawFonts_ok a0 a1 w0 w1).2 W (fun k => k < W.heap.size) _ (fun _ h => h) (All2.cons e0 (All2.cons e1 All2.nil))).mono ?_
  rintro e W' ⟨v, r, gs', rfl, rfl, bel, hr⟩
  have hv : v = .bool true := by
    obtain ⟨-, -, hr⟩ := hr
    cases hr with
    | one hr => cases hr with
      | imm hr => cases hr; rfl
  subst hv
  exact ⟨_, rfl, _, _, _, [], _, [], hW', trodAll_mk1 (shut_bool Try.underlying4 _), (trodAll_cons_mk (Below.trod laidOutFnFonts (by kernel_rfl) (of_decide_eq_true (by kernel_rfl)) k0 bel lt0) (trodAll_cons_mk (Below.trod laidOutFnFonts (by kernel_rfl) (of_decide_eq_true (by kernel_rfl)) k1 bel lt1) trodAll_mk0)), rfl, bel.frame _, fun h => by cases h⟩

theorem and2FnFonts {a b : Bool} (ha : a = true) (hb : b = true) : (a && b) = true := by rw [ha, hb]; rfl
theorem z0FnFonts : (Rows.fnFontsRow.wf (OpenSpec.ofChange Rows.fnFontsSpec)) = true := by kernel_rfl
theorem z1FnFonts : (laidOutB Try.pinned.checked.prog) = true := by kernel_rfl
theorem z2FnFonts : (mapsRowed Try.pinned.checked.prog) = true := by kernel_rfl
theorem z3FnFonts : (Try.f3.params.all (Try.pinned.checked.prog.readableRec ·)) = true := by kernel_rfl
theorem z4FnFonts : (namedTie Try.pinned.checked.prog Rows.fnFontsRow.named Rows.fnFontsSpec.vars) = true := by kernel_rfl
theorem z5FnFonts : ((Rows.fnFontsRow.stops == [])) = true := by kernel_rfl
theorem z6FnFonts : ((Try.pinned.checked.prog.stops == [])) = true := by kernel_rfl
theorem z7FnFonts : ((Rows.fnFontsRow.knobs == [])) = true := by kernel_rfl
theorem z8FnFonts : ((Try.pinned.checked.prog.stopKnobs == [])) = true := by kernel_rfl
theorem z9FnFonts : ((Rows.fnFontsRow.inPlace == Try.pinned.checked.prog.inPlace 3)) = true := by kernel_rfl
theorem z10FnFonts : ((Rows.fnFontsRow.unfollowed == Try.pinned.checked.prog.unfollowed 3)) = true := by kernel_rfl
theorem z11FnFonts : ((Rows.fnFontsRow.recurses == Try.pinned.checked.prog.recurses 3)) = true := by kernel_rfl
theorem z12FnFonts : ((Rows.fnFontsRow.named == Try.pinned.checked.prog.varsNamed 3)) = true := by kernel_rfl
theorem z13FnFonts : ((Rows.fnFontsRow.maps == (Try.f3.params.toList ++ Rows.fnFontsSpec.plain.varTypes Try.pinned.checked.prog).any (Try.pinned.checked.prog.mapsRec ·))) = true := by kernel_rfl
theorem z14FnFonts : ((Rows.fnFontsRow.ifaces == (Try.f3.params.toList ++ Rows.fnFontsSpec.plain.varTypes Try.pinned.checked.prog).any (Try.pinned.checked.prog.ifacesRec ·))) = true := by kernel_rfl
theorem z15FnFonts : ((Rows.fnFontsRow.mapsOut == Try.pinned.checked.prog.mapsAmong Try.f3.resultTypes.toList)) = true := by kernel_rfl
theorem z16FnFonts : ((Rows.fnFontsRow.loops == (Try.f3.params.toList ++ Rows.fnFontsSpec.plain.varTypes Try.pinned.checked.prog).any (Try.pinned.checked.prog.loopsFrom ·))) = true := by kernel_rfl
theorem z17FnFonts : ((Rows.fnFontsRow.wideKeys == (Try.f3.params.toList ++ Rows.fnFontsSpec.plain.varTypes Try.pinned.checked.prog ++ Try.f3.resultTypes.toList).any (Try.pinned.checked.prog.wideKeysFrom ·))) = true := by kernel_rfl
theorem z18FnFonts : (Rows.fnFontsSpec.vars.all (Try.pinned.checked.prog.varReadable ·)) = true := by kernel_rfl
theorem z19FnFonts : (Try.f3.resultTypes.all (fun t => Try.pinned.checked.prog.readableRec t && decide (t < Try.pinned.checked.prog.types.size))) = true := by kernel_rfl
theorem z20FnFonts : ((Rows.fnFontsRow.ifacesOut == Try.f3.resultTypes.toList.any (Try.pinned.checked.prog.ifacesRec ·))) = true := by kernel_rfl
theorem z21FnFonts : ((Rows.fnFontsRow.loopsOut == Try.f3.resultTypes.toList.any (Try.pinned.checked.prog.loopsFrom ·))) = true := by kernel_rfl
theorem z22FnFonts : ((Rows.fnFontsRow.plainKeys == Try.pinned.checked.prog.plainKeys)) = true := by kernel_rfl
theorem z23FnFonts : (Rows.fnFontsRow.shortTexts.isNone) = true := by kernel_rfl
theorem z24FnFonts : (Try.pinned.checked.prog.stopsHeard) = true := by kernel_rfl
theorem z25FnFonts : (Try.pinned.checked.prog.mayEnter) = true := by kernel_rfl
theorem z26FnFonts : ((Rows.fnFontsRow.lifted == Try.pinned.checked.prog.liftsFinal)) = true := by kernel_rfl
theorem z27FnFonts : ((Try.pinned.checked.prog.make == some Rows.fnFontsRow.make)) = true := by kernel_rfl
theorem z28FnFonts : ((Rows.fnFontsRow.kinds == (if Rows.fnFontsRow.domain.isEmpty then [] else Try.f3.params.toList.map fun t => match Try.pinned.checked.prog.underlying t with | some (.int k) => some k | _ => none))) = true := by kernel_rfl
theorem z29FnFonts : ((Rows.fnFontsRow.pinned == Rows.fnFontsRow.pinnedBy)) = true := by kernel_rfl
theorem z30FnFonts : ((Rows.fnFontsRow.veiled == (Try.f3.params.toList ++ Rows.fnFontsSpec.plain.varTypes Try.pinned.checked.prog ++ Try.f3.resultTypes.toList).any (Try.pinned.checked.prog.veiledRec ·))) = true := by kernel_rfl
theorem z31FnFonts : (Rows.fnFontsRow.veiledFits Try.pinned.checked.prog Try.f3.params.toList (Try.f3.params.toList ++ Rows.fnFontsSpec.plain.varTypes Try.pinned.checked.prog ++ Try.f3.resultTypes.toList)) = true := by kernel_rfl
theorem closedFnFonts : joinedFacts Try.pinned.checked.prog 3 Try.f3 Rows.fnFontsSpec Rows.fnFontsRow = true := (and2FnFonts (and2FnFonts (and2FnFonts (and2FnFonts (and2FnFonts (and2FnFonts (and2FnFonts (and2FnFonts (and2FnFonts (and2FnFonts (and2FnFonts (and2FnFonts (and2FnFonts (and2FnFonts (and2FnFonts (and2FnFonts (and2FnFonts (and2FnFonts (and2FnFonts (and2FnFonts (and2FnFonts (and2FnFonts (and2FnFonts (and2FnFonts (and2FnFonts (and2FnFonts (and2FnFonts (and2FnFonts (and2FnFonts (and2FnFonts (and2FnFonts z0FnFonts z1FnFonts) z2FnFonts) z3FnFonts) z4FnFonts) z5FnFonts) z6FnFonts) z7FnFonts) z8FnFonts) z9FnFonts) z10FnFonts) z11FnFonts) z12FnFonts) z13FnFonts) z14FnFonts) z15FnFonts) z16FnFonts) z17FnFonts) z18FnFonts) z19FnFonts) z20FnFonts) z21FnFonts) z22FnFonts) z23FnFonts) z24FnFonts) z25FnFonts) z26FnFonts) z27FnFonts) z28FnFonts) z29FnFonts) z30FnFonts) z31FnFonts)
theorem namedFnFonts : Try.pinned.checked.prog.funcNamed Rows.fnFontsRow.func = some 3 := by kernel_rfl

theorem overFnFonts : Rows.fnFontsRow.holds Try.pinned (OpenSpec.ofChange Rows.fnFontsSpec) :=
  OpenClaim.holds_of_wide 3 Try.f3 rfl rfl rfl rfl rfl rfl rfl ⟨rfl, rfl, rfl, rfl, rfl⟩ rfl rfl rfl rfl rfl namedFnFonts Try.func3 closedFnFonts
    (of_decide_eq_true (by kernel_rfl)) (by unfold Func.isWrapper; first | (rw [if_pos (by decide +kernel)]; kernel_rfl) | (rw [if_neg (by decide +kernel)]; exact ⟨rfl, rfl⟩))
    (fun os started H enc _ => liftedFnFonts os started H enc)

theorem provedFnFonts : Rows.FnFontsSaid := overFnFonts
#print axioms provedFnFonts
end Go.Proofs.Ytkdaikliahnenaa.Ai
