/- Proved: for every input the law FnInks returns true, and each argument reads afterwards as it read before. Conditions: none. -/
import Derived.Test.YtjohfigipllpoaaAiOpen
import Derived.Test.YtjohfigipllpoaaAiTypes
import Derived.Test.YtjohfigipllpoaaRows
import Derived.Test.YtjohfigipllpoaaLawInks
import Derived.ProofKit
import Derived.OpenShut
import Derived.ShutString
namespace Go.Proofs.Ytjohfigipllpoaa.Ai
open Go Go.Proofs Go.ChangeShapes Go.WideShapes Go.ChangeAt Go.RowKit
set_option linter.unusedVariables false
set_option linter.unusedSimpArgs false
set_option maxRecDepth 100000

theorem opensU8 : Opens Try.prog 5 1 cU8 (fun x => 0 ≤ x ∧ x ≤ 255) := opens_u8 Try.underlying5 cells5
theorem opensU8S : Opens Try.prog 22 1 (fun xs => [.isl 1 (rows cU8 xs)]) (fun xs => ∀ x ∈ xs, 0 ≤ x ∧ x ≤ 255) := opens_slice Try.underlying22 cells22 (by decide) opensU8


theorem ownFnInks : ownKnob Try.prog.godebug = none := by kernel_rfl
theorem laidOutFnInks : laidOutB Try.prog = true := by kernel_rfl

set_option maxRecDepth 100000 in
theorem liftedFnInks (os : Os) (started : os.Started) (H : Type) (enc : TypeId × Value → H) :
    ReturnsInHanded {} Try.checked os 3 .any (Rows.fnInksSpec.pre6 enc Try.prog Try.f3 Rows.fnInksRow.domain false) (Rows.fnInksSpec.post enc Try.prog Try.f3 false true false false) := by
  refine returnsInHanded_of_change (C := Try.checked) ownFnInks started (by kernel_rfl) Try.func3
    (ChangeSpec.witness6 (enc := enc) (C := Try.checked) false ⟨#[], #[.slice none 0 0, .slice none 0 0], []⟩ 8 (by kernel_rfl) (by kernel_rfl) (by kernel_rfl) (by kernel_rfl)) ?_
  intro W base args ds gs before hval0 hW hcnd _
  have hval : ∀ (j : Nat) t v, Try.f3.params[j]? = some t → args[j]? = some v → Value.okWide Try.prog W .any base t v := hval0
  have hW' := hW
  obtain ⟨p, q, hA0, hV, rfl, hfz, hnd⟩ := hW
  have hA : DataW.TrodAll enc Try.prog W 0 (fun _ => true) true Try.f3.params.toList args.toList ds p := hA0
  rw [Try.params3] at hA hval
  obtain ⟨v0, vs0, d0, ds0, p0, q0, hargs, rfl, rfl, h0, r0⟩ := trodAll_cons hA
  obtain ⟨v1, vs1, d1, ds1, p1, q1, rfl, rfl, rfl, h1, r1⟩ := trodAll_cons r0
  obtain ⟨rfl, rfl, rfl⟩ := trodAll_nil r1
  obtain rfl : args = #[v0, v1] := by cases args; simp_all
  obtain ⟨rfl, rfl⟩ := trodVars_none hV
  have k0 := h0
  have lt0 : ∀ x ∈ p0, x.block < W.heap.size := by obtain ⟨m, hm⟩ := k0; exact DataW.trod_lt m _ _ _ hm
  obtain ⟨b0, l0, c0, rfl⟩ := okWide_slice Try.underlying22 (hval 0 22 v0 rfl rfl)
  obtain ⟨a0, w0, e0⟩ := arg_one (g := fun a => .isl _ (rows _ a)) opensU8S rfl h0
  have k1 := h1
  have lt1 : ∀ x ∈ p1, x.block < W.heap.size := by obtain ⟨m, hm⟩ := k1; exact DataW.trod_lt m _ _ _ hm
  obtain ⟨b1, l1, c1, rfl⟩ := okWide_slice Try.underlying22 (hval 1 22 v1 rfl rfl)
  obtain ⟨a1, w1, e1⟩ := arg_one (g := fun a => .isl _ (rows _ a)) opensU8S rfl h1
  clear hA0 hval0
  refine ((lawInks_ok a0 a1 w0 w1).2 W (fun k => k < W.heap.size) _ ⟨fun _ h => h, W.heap.size, Nat.le_refl _, Good.triv _ _⟩ (All2.cons e0 (All2.cons e1 All2.nil))).mono ?_
  rintro e W' ⟨v, r, gs', rfl, rfl, bel, hr⟩
  have hv : v = .bool true := by
    obtain ⟨-, -, hr⟩ := hr
    cases hr with
    | one hr => cases hr with
      | imm hr => cases hr; rfl
  subst hv
  exact ⟨_, rfl, _, _, _, [], _, [], hW', trodAll_mk1 (shut_bool Try.underlying4 _), (trodAll_cons_mk (Below.trod laidOutFnInks (by kernel_rfl) (of_decide_eq_true (by kernel_rfl)) k0 bel lt0) (trodAll_cons_mk (Below.trod laidOutFnInks (by kernel_rfl) (of_decide_eq_true (by kernel_rfl)) k1 bel lt1) trodAll_mk0)), rfl, bel.frame _, fun h => by cases h⟩

theorem and2FnInks {a b : Bool} (ha : a = true) (hb : b = true) : (a && b) = true := by rw [ha, hb]; rfl
theorem z0FnInks : (Rows.fnInksRow.wf (OpenSpec.ofChange Rows.fnInksSpec)) = true := by kernel_rfl
theorem z1FnInks : (laidOutB Try.pinned.checked.prog) = true := by kernel_rfl
theorem z2FnInks : (mapsRowed Try.pinned.checked.prog) = true := by kernel_rfl
theorem z3FnInks : (Try.f3.params.all (Try.pinned.checked.prog.readableRec ·)) = true := by kernel_rfl
theorem z4FnInks : (namedTie Try.pinned.checked.prog Rows.fnInksRow.named Rows.fnInksSpec.vars) = true := by kernel_rfl
theorem z5FnInks : ((Rows.fnInksRow.stops == [])) = true := by kernel_rfl
theorem z6FnInks : ((Try.pinned.checked.prog.stops == [])) = true := by kernel_rfl
theorem z7FnInks : ((Rows.fnInksRow.knobs == [])) = true := by kernel_rfl
theorem z8FnInks : ((Try.pinned.checked.prog.stopKnobs == [])) = true := by kernel_rfl
theorem z9FnInks : ((Rows.fnInksRow.inPlace == Try.pinned.checked.prog.inPlace 3)) = true := by kernel_rfl
theorem z10FnInks : ((Rows.fnInksRow.unfollowed == Try.pinned.checked.prog.unfollowed 3)) = true := by kernel_rfl
theorem z11FnInks : ((Rows.fnInksRow.recurses == Try.pinned.checked.prog.recurses 3)) = true := by kernel_rfl
theorem z12FnInks : ((Rows.fnInksRow.named == Try.pinned.checked.prog.varsNamed 3)) = true := by kernel_rfl
theorem z13FnInks : ((Rows.fnInksRow.maps == (Try.f3.params.toList ++ Rows.fnInksSpec.plain.varTypes Try.pinned.checked.prog).any (Try.pinned.checked.prog.mapsRec ·))) = true := by kernel_rfl
theorem z14FnInks : ((Rows.fnInksRow.ifaces == (Try.f3.params.toList ++ Rows.fnInksSpec.plain.varTypes Try.pinned.checked.prog).any (Try.pinned.checked.prog.ifacesRec ·))) = true := by kernel_rfl
theorem z15FnInks : ((Rows.fnInksRow.mapsOut == Try.pinned.checked.prog.mapsAmong Try.f3.resultTypes.toList)) = true := by kernel_rfl
theorem z16FnInks : ((Rows.fnInksRow.loops == (Try.f3.params.toList ++ Rows.fnInksSpec.plain.varTypes Try.pinned.checked.prog).any (Try.pinned.checked.prog.loopsFrom ·))) = true := by kernel_rfl
theorem z17FnInks : ((Rows.fnInksRow.wideKeys == (Try.f3.params.toList ++ Rows.fnInksSpec.plain.varTypes Try.pinned.checked.prog ++ Try.f3.resultTypes.toList).any (Try.pinned.checked.prog.wideKeysFrom ·))) = true := by kernel_rfl
theorem z18FnInks : (Rows.fnInksSpec.vars.all (Try.pinned.checked.prog.varReadable ·)) = true := by kernel_rfl
theorem z19FnInks : (Try.f3.resultTypes.all (fun t => Try.pinned.checked.prog.readableRec t && decide (t < Try.pinned.checked.prog.types.size))) = true := by kernel_rfl
theorem z20FnInks : ((Rows.fnInksRow.ifacesOut == Try.f3.resultTypes.toList.any (Try.pinned.checked.prog.ifacesRec ·))) = true := by kernel_rfl
theorem z21FnInks : ((Rows.fnInksRow.loopsOut == Try.f3.resultTypes.toList.any (Try.pinned.checked.prog.loopsFrom ·))) = true := by kernel_rfl
theorem z22FnInks : ((Rows.fnInksRow.plainKeys == Try.pinned.checked.prog.plainKeys)) = true := by kernel_rfl
theorem z23FnInks : (Rows.fnInksRow.shortTexts.isNone) = true := by kernel_rfl
theorem z24FnInks : (Try.pinned.checked.prog.stopsHeard) = true := by kernel_rfl
theorem z25FnInks : (Try.pinned.checked.prog.mayEnter) = true := by kernel_rfl
theorem z26FnInks : ((Rows.fnInksRow.lifted == Try.pinned.checked.prog.liftsFinal)) = true := by kernel_rfl
theorem z27FnInks : ((Try.pinned.checked.prog.make == some Rows.fnInksRow.make)) = true := by kernel_rfl
theorem z28FnInks : ((Rows.fnInksRow.kinds == (if Rows.fnInksRow.domain.isEmpty then [] else Try.f3.params.toList.map fun t => match Try.pinned.checked.prog.underlying t with | some (.int k) => some k | _ => none))) = true := by kernel_rfl
theorem z29FnInks : ((Rows.fnInksRow.pinned == Rows.fnInksRow.pinnedBy)) = true := by kernel_rfl
theorem z30FnInks : ((Rows.fnInksRow.veiled == (Try.f3.params.toList ++ Rows.fnInksSpec.plain.varTypes Try.pinned.checked.prog ++ Try.f3.resultTypes.toList).any (Try.pinned.checked.prog.veiledRec ·))) = true := by kernel_rfl
theorem z31FnInks : (Rows.fnInksRow.veiledFits Try.pinned.checked.prog Try.f3.params.toList (Try.f3.params.toList ++ Rows.fnInksSpec.plain.varTypes Try.pinned.checked.prog ++ Try.f3.resultTypes.toList)) = true := by kernel_rfl
theorem closedFnInks : joinedFacts Try.pinned.checked.prog 3 Try.f3 Rows.fnInksSpec Rows.fnInksRow = true := (and2FnInks (and2FnInks (and2FnInks (and2FnInks (and2FnInks (and2FnInks (and2FnInks (and2FnInks (and2FnInks (and2FnInks (and2FnInks (and2FnInks (and2FnInks (and2FnInks (and2FnInks (and2FnInks (and2FnInks (and2FnInks (and2FnInks (and2FnInks (and2FnInks (and2FnInks (and2FnInks (and2FnInks (and2FnInks (and2FnInks (and2FnInks (and2FnInks (and2FnInks (and2FnInks (and2FnInks z0FnInks z1FnInks) z2FnInks) z3FnInks) z4FnInks) z5FnInks) z6FnInks) z7FnInks) z8FnInks) z9FnInks) z10FnInks) z11FnInks) z12FnInks) z13FnInks) z14FnInks) z15FnInks) z16FnInks) z17FnInks) z18FnInks) z19FnInks) z20FnInks) z21FnInks) z22FnInks) z23FnInks) z24FnInks) z25FnInks) z26FnInks) z27FnInks) z28FnInks) z29FnInks) z30FnInks) z31FnInks)
theorem namedFnInks : Try.pinned.checked.prog.funcNamed Rows.fnInksRow.func = some 3 := by kernel_rfl

theorem overFnInks : Rows.fnInksRow.holds Try.pinned (OpenSpec.ofChange Rows.fnInksSpec) :=
  OpenClaim.holds_of_wide 3 Try.f3 rfl rfl rfl rfl rfl rfl rfl ⟨rfl, rfl, rfl, rfl, rfl⟩ rfl rfl rfl rfl rfl namedFnInks Try.func3 closedFnInks
    (of_decide_eq_true (by kernel_rfl)) (by unfold Func.isWrapper; first | (rw [if_pos (by decide +kernel)]; kernel_rfl) | (rw [if_neg (by decide +kernel)]; exact ⟨rfl, rfl⟩))
    (fun os started H enc _ => liftedFnInks os started H enc)

theorem provedFnInks : Rows.FnInksSaid := overFnInks
#print axioms provedFnInks

end Go.Proofs.Ytjohfigipllpoaa.Ai
