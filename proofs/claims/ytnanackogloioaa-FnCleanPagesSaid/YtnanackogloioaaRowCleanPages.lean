/- Proved: for every input the law FnCleanPages returns true, and each argument reads afterwards as it read before. Conditions: none. -/
import Derived.Test.YtnanackogloioaaRows
import Derived.Test.YtnanackogloioaaAiOpen
import Derived.Test.YtnanackogloioaaLawCleanPages
import Derived.Test.YtnanackogloioaaOpensU8
import Derived.ProofKit
import Derived.OpenShut
import Derived.ShutString
namespace Go.Proofs.Ytnanackogloioaa.Ai
open Go Go.Proofs Go.ChangeShapes Go.WideShapes Go.ChangeAt Go.RowKit
set_option linter.unusedVariables false
set_option maxRecDepth 100000

theorem ownFnCleanPages : ownKnob Try.prog.godebug = none := by kernel_rfl
theorem laidOutFnCleanPages : laidOutB Try.prog = true := by kernel_rfl

set_option maxRecDepth 100000 in
theorem liftedFnCleanPages (os : Os) (started : os.Started) (H : Type) (enc : TypeId × Value → H) :
    ReturnsInHanded {} Try.checked os 6 .any (Rows.fnCleanPagesSpec.pre6 enc Try.prog Try.f6 Rows.fnCleanPagesRow.domain false) (Rows.fnCleanPagesSpec.post enc Try.prog Try.f6 false true false false) := by
  refine returnsInHanded_of_change (C := Try.checked) ownFnCleanPages started (by kernel_rfl) Try.func6
    (ChangeSpec.witness6 (enc := enc) (C := Try.checked) false ⟨#[], #[.slice none 0 0, .slice none 0 0], []⟩ 8 (by kernel_rfl) (by kernel_rfl) (by kernel_rfl) (by kernel_rfl)) ?_
  intro W base args ds gs before hval0 hW hcnd _
  have hval : ∀ (j : Nat) t v, Try.f6.params[j]? = some t → args[j]? = some v → Value.okWide Try.prog W .any base t v := hval0
  have hW' := hW
  obtain ⟨p, q, hA0, hV, rfl, hfz, hnd⟩ := hW
  have hA : DataW.TrodAll enc Try.prog W 0 (fun _ => true) true Try.f6.params.toList args.toList ds p := hA0
  rw [Try.params6] at hA hval
  obtain ⟨v0, vs0, d0, ds0, p0, q0, hargs, rfl, rfl, h0, r0⟩ := trodAll_cons hA
  obtain ⟨v1, vs1, d1, ds1, p1, q1, rfl, rfl, rfl, h1, r1⟩ := trodAll_cons r0
  obtain ⟨rfl, rfl, rfl⟩ := trodAll_nil r1
  obtain rfl : args = #[v0, v1] := by cases args; simp_all
  obtain ⟨rfl, rfl⟩ := trodVars_none hV
  have k0 := h0
  have lt0 : ∀ x ∈ p0, x.block < W.heap.size := by obtain ⟨m, hm⟩ := k0; exact DataW.trod_lt m _ _ _ hm
  obtain ⟨b0, l0, c0, rfl⟩ := okWide_slice Try.underlying22 (hval 0 22 v0 rfl rfl)
  obtain ⟨a0, w0, e0⟩ := arg_one (g := fun a => .isl _ (rows _ a)) opensU8S rfl h0
  have k1 := h1
  have lt1 : ∀ x ∈ p1, x.block < W.heap.size := by obtain ⟨m, hm⟩ := k1; exact DataW.trod_lt m _ _ _ hm
  obtain ⟨b1, l1, c1, rfl⟩ := okWide_slice Try.underlying22 (hval 1 22 v1 rfl rfl)
  obtain ⟨a1, w1, e1⟩ := arg_one (g := fun a => .isl _ (rows _ a)) opensU8S rfl h1
  clear hA0 hval0
  refine ((lawCleanPages_ok a0 a1 w0 w1).2 W (fun k => k < W.heap.size) _ (fun _ h => h) (All2.cons e0 (All2.cons e1 All2.nil))).mono ?_
  rintro e W' ⟨v, r, gs', rfl, rfl, bel, hr⟩
  have hv : v = .bool true := by
    obtain ⟨-, -, hr⟩ := hr
    cases hr with
    | one hr => cases hr with
      | imm hr => cases hr; rfl
  subst hv
  exact ⟨_, rfl, _, _, _, [], _, [], hW', trodAll_mk1 (shut_bool Try.underlying4 _), (trodAll_cons_mk (Below.trod laidOutFnCleanPages (by kernel_rfl) (of_decide_eq_true (by kernel_rfl)) k0 bel lt0) (trodAll_cons_mk (Below.trod laidOutFnCleanPages (by kernel_rfl) (of_decide_eq_true (by kernel_rfl)) k1 bel lt1) trodAll_mk0)), rfl, bel.frame _, fun h => by cases h⟩

theorem and2FnCleanPages {a b : Bool} (ha : a = true) (hb : b = true) : (a && b) = true := by rw [ha, hb]; rfl
theorem z0FnCleanPages : (Rows.fnCleanPagesRow.wf (OpenSpec.ofChange Rows.fnCleanPagesSpec)) = true := by kernel_rfl
theorem z1FnCleanPages : (laidOutB Try.pinned.checked.prog) = true := by kernel_rfl
theorem z2FnCleanPages : (mapsRowed Try.pinned.checked.prog) = true := by kernel_rfl
theorem z3FnCleanPages : (Try.f6.params.all (Try.pinned.checked.prog.readableRec ·)) = true := by kernel_rfl
theorem z4FnCleanPages : (namedTie Try.pinned.checked.prog Rows.fnCleanPagesRow.named Rows.fnCleanPagesSpec.vars) = true := by kernel_rfl
theorem z5FnCleanPages : ((Rows.fnCleanPagesRow.stops == [])) = true := by kernel_rfl
theorem z6FnCleanPages : ((Try.pinned.checked.prog.stops == [])) = true := by kernel_rfl
theorem z7FnCleanPages : ((Rows.fnCleanPagesRow.knobs == [])) = true := by kernel_rfl
theorem z8FnCleanPages : ((Try.pinned.checked.prog.stopKnobs == [])) = true := by kernel_rfl
theorem z9FnCleanPages : ((Rows.fnCleanPagesRow.inPlace == Try.pinned.checked.prog.inPlace 6)) = true := by kernel_rfl
theorem z10FnCleanPages : ((Rows.fnCleanPagesRow.unfollowed == Try.pinned.checked.prog.unfollowed 6)) = true := by kernel_rfl
theorem z11FnCleanPages : ((Rows.fnCleanPagesRow.recurses == Try.pinned.checked.prog.recurses 6)) = true := by kernel_rfl
theorem z12FnCleanPages : ((Rows.fnCleanPagesRow.named == Try.pinned.checked.prog.varsNamed 6)) = true := by kernel_rfl
theorem z13FnCleanPages : ((Rows.fnCleanPagesRow.maps == (Try.f6.params.toList ++ Rows.fnCleanPagesSpec.plain.varTypes Try.pinned.checked.prog).any (Try.pinned.checked.prog.mapsRec ·))) = true := by kernel_rfl
theorem z14FnCleanPages : ((Rows.fnCleanPagesRow.ifaces == (Try.f6.params.toList ++ Rows.fnCleanPagesSpec.plain.varTypes Try.pinned.checked.prog).any (Try.pinned.checked.prog.ifacesRec ·))) = true := by kernel_rfl
theorem z15FnCleanPages : ((Rows.fnCleanPagesRow.mapsOut == Try.pinned.checked.prog.mapsAmong Try.f6.resultTypes.toList)) = true := by kernel_rfl
theorem z16FnCleanPages : ((Rows.fnCleanPagesRow.loops == (Try.f6.params.toList ++ Rows.fnCleanPagesSpec.plain.varTypes Try.pinned.checked.prog).any (Try.pinned.checked.prog.loopsFrom ·))) = true := by kernel_rfl
theorem z17FnCleanPages : ((Rows.fnCleanPagesRow.wideKeys == (Try.f6.params.toList ++ Rows.fnCleanPagesSpec.plain.varTypes Try.pinned.checked.prog ++ Try.f6.resultTypes.toList).any (Try.pinned.checked.prog.wideKeysFrom ·))) = true := by kernel_rfl
theorem z18FnCleanPages : (Rows.fnCleanPagesSpec.vars.all (Try.pinned.checked.prog.varReadable ·)) = true := by kernel_rfl
theorem z19FnCleanPages : (Try.f6.resultTypes.all (fun t => Try.pinned.checked.prog.readableRec t && decide (t < Try.pinned.checked.prog.types.size))) = true := by kernel_rfl
theorem z20FnCleanPages : ((Rows.fnCleanPagesRow.ifacesOut == Try.f6.resultTypes.toList.any (Try.pinned.checked.prog.ifacesRec ·))) = true := by kernel_rfl
theorem z21FnCleanPages : ((Rows.fnCleanPagesRow.loopsOut == Try.f6.resultTypes.toList.any (Try.pinned.checked.prog.loopsFrom ·))) = true := by kernel_rfl
theorem z22FnCleanPages : ((Rows.fnCleanPagesRow.plainKeys == Try.pinned.checked.prog.plainKeys)) = true := by kernel_rfl
theorem z23FnCleanPages : (Rows.fnCleanPagesRow.shortTexts.isNone) = true := by kernel_rfl
theorem z24FnCleanPages : (Try.pinned.checked.prog.stopsHeard) = true := by kernel_rfl
theorem z25FnCleanPages : (Try.pinned.checked.prog.mayEnter) = true := by kernel_rfl
theorem z26FnCleanPages : ((Rows.fnCleanPagesRow.lifted == Try.pinned.checked.prog.liftsFinal)) = true := by kernel_rfl
theorem z27FnCleanPages : ((Try.pinned.checked.prog.make == some Rows.fnCleanPagesRow.make)) = true := by kernel_rfl
theorem z28FnCleanPages : ((Rows.fnCleanPagesRow.kinds == (if Rows.fnCleanPagesRow.domain.isEmpty then [] else Try.f6.params.toList.map fun t => match Try.pinned.checked.prog.underlying t with | some (.int k) => some k | _ => none))) = true := by kernel_rfl
theorem z29FnCleanPages : ((Rows.fnCleanPagesRow.pinned == Rows.fnCleanPagesRow.pinnedBy)) = true := by kernel_rfl
theorem z30FnCleanPages : ((Rows.fnCleanPagesRow.veiled == (Try.f6.params.toList ++ Rows.fnCleanPagesSpec.plain.varTypes Try.pinned.checked.prog ++ Try.f6.resultTypes.toList).any (Try.pinned.checked.prog.veiledRec ·))) = true := by kernel_rfl
theorem z31FnCleanPages : (Rows.fnCleanPagesRow.veiledFits Try.pinned.checked.prog Try.f6.params.toList (Try.f6.params.toList ++ Rows.fnCleanPagesSpec.plain.varTypes Try.pinned.checked.prog ++ Try.f6.resultTypes.toList)) = true := by kernel_rfl
theorem closedFnCleanPages : joinedFacts Try.pinned.checked.prog 6 Try.f6 Rows.fnCleanPagesSpec Rows.fnCleanPagesRow = true := (and2FnCleanPages (and2FnCleanPages (and2FnCleanPages (and2FnCleanPages (and2FnCleanPages (and2FnCleanPages (and2FnCleanPages (and2FnCleanPages (and2FnCleanPages (and2FnCleanPages (and2FnCleanPages (and2FnCleanPages (and2FnCleanPages (and2FnCleanPages (and2FnCleanPages (and2FnCleanPages (and2FnCleanPages (and2FnCleanPages (and2FnCleanPages (and2FnCleanPages (and2FnCleanPages (and2FnCleanPages (and2FnCleanPages (and2FnCleanPages (and2FnCleanPages (and2FnCleanPages (and2FnCleanPages (and2FnCleanPages (and2FnCleanPages (and2FnCleanPages (and2FnCleanPages z0FnCleanPages z1FnCleanPages) z2FnCleanPages) z3FnCleanPages) z4FnCleanPages) z5FnCleanPages) z6FnCleanPages) z7FnCleanPages) z8FnCleanPages) z9FnCleanPages) z10FnCleanPages) z11FnCleanPages) z12FnCleanPages) z13FnCleanPages) z14FnCleanPages) z15FnCleanPages) z16FnCleanPages) z17FnCleanPages) z18FnCleanPages) z19FnCleanPages) z20FnCleanPages) z21FnCleanPages) z22FnCleanPages) z23FnCleanPages) z24FnCleanPages) z25FnCleanPages) z26FnCleanPages) z27FnCleanPages) z28FnCleanPages) z29FnCleanPages) z30FnCleanPages) z31FnCleanPages)
theorem namedFnCleanPages : Try.pinned.checked.prog.funcNamed Rows.fnCleanPagesRow.func = some 6 := by kernel_rfl

theorem overFnCleanPages : Rows.fnCleanPagesRow.holds Try.pinned (OpenSpec.ofChange Rows.fnCleanPagesSpec) :=
  OpenClaim.holds_of_wide 6 Try.f6 rfl rfl rfl rfl rfl rfl rfl ⟨rfl, rfl, rfl, rfl, rfl⟩ rfl rfl rfl rfl rfl namedFnCleanPages Try.func6 closedFnCleanPages
    (of_decide_eq_true (by kernel_rfl)) (by unfold Func.isWrapper; first | (rw [if_pos (by decide +kernel)]; kernel_rfl) | (rw [if_neg (by decide +kernel)]; exact ⟨rfl, rfl⟩))
    (fun os started H enc _ => liftedFnCleanPages os started H enc)

theorem provedFnCleanPages : Rows.FnCleanPagesSaid := overFnCleanPages
#print axioms provedFnCleanPages
end Go.Proofs.Ytnanackogloioaa.Ai
