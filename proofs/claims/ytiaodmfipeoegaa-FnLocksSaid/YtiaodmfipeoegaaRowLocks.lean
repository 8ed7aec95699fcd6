/- Proved: for every input the law FnLocks returns true, and each argument reads afterwards as it read before. Conditions: none. -/
import Derived.Test.YtiaodmfipeoegaaAiOpen
import Derived.Test.YtiaodmfipeoegaaAiTypes
import Derived.Test.YtiaodmfipeoegaaRows
import Derived.Test.YtiaodmfipeoegaaLawLocks
import Derived.ProofKit
import Derived.OpenShut
import Derived.ShutString
namespace Go.Proofs.Ytiaodmfipeoegaa.Ai
open Go Go.Proofs Go.ChangeShapes Go.WideShapes Go.ChangeAt Go.RowKit
set_option linter.unusedVariables false
set_option linter.unusedSimpArgs false
set_option maxRecDepth 100000

theorem opensU8 : Opens Try.prog 5 1 cU8 (fun x => 0 ≤ x ∧ x ≤ 255) := opens_u8 Try.underlying5 cells5
theorem opensU8S : Opens Try.prog 22 1 (fun xs => [.isl 1 (rows cU8 xs)]) (fun xs => ∀ x ∈ xs, 0 ≤ x ∧ x ≤ 255) := opens_slice Try.underlying22 cells22 (by decide) opensU8


theorem ownFnLocks : ownKnob Try.prog.godebug = none := by kernel_rfl
theorem laidOutFnLocks : laidOutB Try.prog = true := by kernel_rfl

set_option maxRecDepth 100000 in
theorem liftedFnLocks (os : Os) (started : os.Started) (H : Type) (enc : TypeId × Value → H) :
    ReturnsInHanded {} Try.checked os 5 .any (Rows.fnLocksSpec.pre6 enc Try.prog Try.f5 Rows.fnLocksRow.domain false) (Rows.fnLocksSpec.post enc Try.prog Try.f5 false true false false) := by
  refine returnsInHanded_of_change (C := Try.checked) ownFnLocks started (by kernel_rfl) Try.func5
    (ChangeSpec.witness6 (enc := enc) (C := Try.checked) false ⟨#[], #[.slice none 0 0, .slice none 0 0], []⟩ 8 (by kernel_rfl) (by kernel_rfl) (by kernel_rfl) (by kernel_rfl)) ?_
  intro W base args ds gs before hval0 hW hcnd _
  have hval : ∀ (j : Nat) t v, Try.f5.params[j]? = some t → args[j]? = some v → Value.okWide Try.prog W .any base t v := hval0
  have hW' := hW
  obtain ⟨p, q, hA0, hV, rfl, hfz, hnd⟩ := hW
  have hA : DataW.TrodAll enc Try.prog W 0 (fun _ => true) true Try.f5.params.toList args.toList ds p := hA0
  rw [Try.params5] at hA hval
  obtain ⟨v0, vs0, d0, ds0, p0, q0, hargs, rfl, rfl, h0, r0⟩ := trodAll_cons hA
  obtain ⟨v1, vs1, d1, ds1, p1, q1, rfl, rfl, rfl, h1, r1⟩ := trodAll_cons r0
  obtain ⟨rfl, rfl, rfl⟩ := trodAll_nil r1
  obtain rfl : args = #[v0, v1] := by cases args; simp_all
  obtain ⟨rfl, rfl⟩ := trodVars_none hV
  have k0 := h0
  have lt0 : ∀ x ∈ p0, x.block < W.heap.size := by obtain ⟨m, hm⟩ := k0; exact DataW.trod_lt m _ _ _ hm
  obtain ⟨b0, l0, c0, rfl⟩ := okWide_slice Try.underlying22 (hval 0 22 v0 rfl rfl)
  obtain ⟨a0, w0, e0⟩ := arg_one (g := fun a => .isl _ (rows _ a)) opensU8S rfl h0
  have k1 := h1
  have lt1 : ∀ x ∈ p1, x.block < W.heap.size := by obtain ⟨m, hm⟩ := k1; exact DataW.trod_lt m _ _ _ hm
  obtain ⟨b1, l1, c1, rfl⟩ := okWide_slice Try.underlying22 (hval 1 22 v1 rfl rfl)
  obtain ⟨a1, w1, e1⟩ := arg_one (g := fun a => .isl _ (rows _ a)) opensU8S rfl h1
  clear hA0 hval0
  refine ((lawLocks_ok a0 a1 w0 w1).2 W (fun k => k < W.heap.size) _ ⟨fun _ h => h, W.heap.size, Nat.le_refl _, Good.triv _ _⟩ (All2.cons e0 (All2.cons e1 All2.nil))).mono ?_
  rintro e W' ⟨v, r, gs', rfl, rfl, bel, hr⟩
  have hv : v = .bool true := by
    obtain ⟨-, -, hr⟩ := hr
    cases hr with
    | one hr => cases hr with
      | imm hr => cases hr; rfl
  subst hv
  exact ⟨_, rfl, _, _, _, [], _, [], hW', trodAll_mk1 (shut_bool Try.underlying4 _), (trodAll_cons_mk (Below.trod laidOutFnLocks (by kernel_rfl) (of_decide_eq_true (by kernel_rfl)) k0 bel lt0) (trodAll_cons_mk (Below.trod laidOutFnLocks (by kernel_rfl) (of_decide_eq_true (by kernel_rfl)) k1 bel lt1) trodAll_mk0)), rfl, bel.frame _, fun h => by cases h⟩

theorem and2FnLocks {a b : Bool} (ha : a = true) (hb : b = true) : (a && b) = true := by rw [ha, hb]; rfl
theorem z0FnLocks : (Rows.fnLocksRow.wf (OpenSpec.ofChange Rows.fnLocksSpec)) = true := by kernel_rfl
theorem z1FnLocks : (laidOutB Try.pinned.checked.prog) = true := by kernel_rfl
theorem z2FnLocks : (mapsRowed Try.pinned.checked.prog) = true := by kernel_rfl
theorem z3FnLocks : (Try.f5.params.all (Try.pinned.checked.prog.readableRec ·)) = true := by kernel_rfl
theorem z4FnLocks : (namedTie Try.pinned.checked.prog Rows.fnLocksRow.named Rows.fnLocksSpec.vars) = true := by kernel_rfl
theorem z5FnLocks : ((Rows.fnLocksRow.stops == [])) = true := by kernel_rfl
theorem z6FnLocks : ((Try.pinned.checked.prog.stops == [])) = true := by kernel_rfl
theorem z7FnLocks : ((Rows.fnLocksRow.knobs == [])) = true := by kernel_rfl
theorem z8FnLocks : ((Try.pinned.checked.prog.stopKnobs == [])) = true := by kernel_rfl
theorem z9FnLocks : ((Rows.fnLocksRow.inPlace == Try.pinned.checked.prog.inPlace 5)) = true := by kernel_rfl
theorem z10FnLocks : ((Rows.fnLocksRow.unfollowed == Try.pinned.checked.prog.unfollowed 5)) = true := by kernel_rfl
theorem z11FnLocks : ((Rows.fnLocksRow.recurses == Try.pinned.checked.prog.recurses 5)) = true := by kernel_rfl
theorem z12FnLocks : ((Rows.fnLocksRow.named == Try.pinned.checked.prog.varsNamed 5)) = true := by kernel_rfl
theorem z13FnLocks : ((Rows.fnLocksRow.maps == (Try.f5.params.toList ++ Rows.fnLocksSpec.plain.varTypes Try.pinned.checked.prog).any (Try.pinned.checked.prog.mapsRec ·))) = true := by kernel_rfl
theorem z14FnLocks : ((Rows.fnLocksRow.ifaces == (Try.f5.params.toList ++ Rows.fnLocksSpec.plain.varTypes Try.pinned.checked.prog).any (Try.pinned.checked.prog.ifacesRec ·))) = true := by kernel_rfl
theorem z15FnLocks : ((Rows.fnLocksRow.mapsOut == Try.pinned.checked.prog.mapsAmong Try.f5.resultTypes.toList)) = true := by kernel_rfl
theorem z16FnLocks : ((Rows.fnLocksRow.loops == (Try.f5.params.toList ++ Rows.fnLocksSpec.plain.varTypes Try.pinned.checked.prog).any (Try.pinned.checked.prog.loopsFrom ·))) = true := by kernel_rfl
theorem z17FnLocks : ((Rows.fnLocksRow.wideKeys == (Try.f5.params.toList ++ Rows.fnLocksSpec.plain.varTypes Try.pinned.checked.prog ++ Try.f5.resultTypes.toList).any (Try.pinned.checked.prog.wideKeysFrom ·))) = true := by kernel_rfl
theorem z18FnLocks : (Rows.fnLocksSpec.vars.all (Try.pinned.checked.prog.varReadable ·)) = true := by kernel_rfl
theorem z19FnLocks : (Try.f5.resultTypes.all (fun t => Try.pinned.checked.prog.readableRec t && decide (t < Try.pinned.checked.prog.types.size))) = true := by kernel_rfl
theorem z20FnLocks : ((Rows.fnLocksRow.ifacesOut == Try.f5.resultTypes.toList.any (Try.pinned.checked.prog.ifacesRec ·))) = true := by kernel_rfl
theorem z21FnLocks : ((Rows.fnLocksRow.loopsOut == Try.f5.resultTypes.toList.any (Try.pinned.checked.prog.loopsFrom ·))) = true := by kernel_rfl
theorem z22FnLocks : ((Rows.fnLocksRow.plainKeys == Try.pinned.checked.prog.plainKeys)) = true := by kernel_rfl
theorem z23FnLocks : (Rows.fnLocksRow.shortTexts.isNone) = true := by kernel_rfl
theorem z24FnLocks : (Try.pinned.checked.prog.stopsHeard) = true := by kernel_rfl
theorem z25FnLocks : (Try.pinned.checked.prog.mayEnter) = true := by kernel_rfl
theorem z26FnLocks : ((Rows.fnLocksRow.lifted == Try.pinned.checked.prog.liftsFinal)) = true := by kernel_rfl
theorem z27FnLocks : ((Try.pinned.checked.prog.make == some Rows.fnLocksRow.make)) = true := by kernel_rfl
theorem z28FnLocks : ((Rows.fnLocksRow.kinds == (if Rows.fnLocksRow.domain.isEmpty then [] else Try.f5.params.toList.map fun t => match Try.pinned.checked.prog.underlying t with | some (.int k) => some k | _ => none))) = true := by kernel_rfl
theorem z29FnLocks : ((Rows.fnLocksRow.pinned == Rows.fnLocksRow.pinnedBy)) = true := by kernel_rfl
theorem z30FnLocks : ((Rows.fnLocksRow.veiled == (Try.f5.params.toList ++ Rows.fnLocksSpec.plain.varTypes Try.pinned.checked.prog ++ Try.f5.resultTypes.toList).any (Try.pinned.checked.prog.veiledRec ·))) = true := by kernel_rfl
theorem z31FnLocks : (Rows.fnLocksRow.veiledFits Try.pinned.checked.prog Try.f5.params.toList (Try.f5.params.toList ++ Rows.fnLocksSpec.plain.varTypes Try.pinned.checked.prog ++ Try.f5.resultTypes.toList)) = true := by kernel_rfl
theorem closedFnLocks : joinedFacts Try.pinned.checked.prog 5 Try.f5 Rows.fnLocksSpec Rows.fnLocksRow = true := (and2FnLocks (and2FnLocks (and2FnLocks (and2FnLocks (and2FnLocks (and2FnLocks (and2FnLocks (and2FnLocks (and2FnLocks (and2FnLocks (and2FnLocks (and2FnLocks (and2FnLocks (and2FnLocks (and2FnLocks (and2FnLocks (and2FnLocks (and2FnLocks (and2FnLocks (and2FnLocks (and2FnLocks (and2FnLocks (and2FnLocks (and2FnLocks (and2FnLocks (and2FnLocks (and2FnLocks (and2FnLocks (and2FnLocks (and2FnLocks (and2FnLocks z0FnLocks z1FnLocks) z2FnLocks) z3FnLocks) z4FnLocks) z5FnLocks) z6FnLocks) z7FnLocks) z8FnLocks) z9FnLocks) z10FnLocks) z11FnLocks) z12FnLocks) z13FnLocks) z14FnLocks) z15FnLocks) z16FnLocks) z17FnLocks) z18FnLocks) z19FnLocks) z20FnLocks) z21FnLocks) z22FnLocks) z23FnLocks) z24FnLocks) z25FnLocks) z26FnLocks) z27FnLocks) z28FnLocks) z29FnLocks) z30FnLocks) z31FnLocks)
theorem namedFnLocks : Try.pinned.checked.prog.funcNamed Rows.fnLocksRow.func = some 5 := by kernel_rfl

theorem overFnLocks : Rows.fnLocksRow.holds Try.pinned (OpenSpec.ofChange Rows.fnLocksSpec) :=
  OpenClaim.holds_of_wide 5 Try.f5 rfl rfl rfl rfl rfl rfl rfl ⟨rfl, rfl, rfl, rfl, rfl⟩ rfl rfl rfl rfl rfl namedFnLocks Try.func5 closedFnLocks
    (of_decide_eq_true (by kernel_rfl)) (by unfold Func.isWrapper; first | (rw [if_pos (by decide +kernel)]; kernel_rfl) | (rw [if_neg (by decide +kernel)]; exact ⟨rfl, rfl⟩))
    (fun os started H enc _ => liftedFnLocks os started H enc)

theorem provedFnLocks : Rows.FnLocksSaid := overFnLocks
#print axioms provedFnLocks

end Go.Proofs.Ytiaodmfipeoegaa.Ai
