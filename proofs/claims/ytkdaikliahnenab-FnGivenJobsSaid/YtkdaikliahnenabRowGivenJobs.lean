/- Proved: for every input the law FnGivenJobs returns true, and each argument reads afterwards as it read before. Conditions: none. -/
import Derived.Test.YtkdaikliahnenabRows
import Derived.Test.YtkdaikliahnenabAiOpen
import Derived.Test.YtkdaikliahnenabLawGivenJobs
import Derived.Test.YtkdaikliahnenabOpensU8
import Derived.ProofKit
import Derived.OpenShut
import Derived.ShutString
namespace Go.Proofs.Ytkdaikliahnenab.Ai
open Go Go.Proofs Go.ChangeShapes Go.WideShapes Go.ChangeAt Go.RowKit
set_option linter.unusedVariables false
set_option maxRecDepth 100000

theorem ownFnGivenJobs : ownKnob Try.prog.godebug = none := by kernel_rfl
theorem laidOutFnGivenJobs : laidOutB Try.prog = true := by kernel_rfl

set_option maxRecDepth 100000 in
theorem liftedFnGivenJobs (os : Os) (started : os.Started) (H : Type) (enc : TypeId × Value → H) :
    ReturnsInHanded {} Try.checked os 6 .any (Rows.fnGivenJobsSpec.pre6 enc Try.prog Try.f6 Rows.fnGivenJobsRow.domain false) (Rows.fnGivenJobsSpec.post enc Try.prog Try.f6 false true false false) := by
  refine returnsInHanded_of_change (C := Try.checked) ownFnGivenJobs started (by kernel_rfl) Try.func6
    (ChangeSpec.witness6 (enc := enc) (C := Try.checked) false ⟨#[], #[.slice none 0 0, .slice none 0 0], []⟩ 8 (by kernel_rfl) (by kernel_rfl) (by kernel_rfl) (by kernel_rfl)) ?_
  intro W base args ds gs before hval0 hW hcnd _
  have hval : ∀ (j : Nat) t v, Try.f6.params[j]? = some t → args[j]? = some v → Value.okWide Try.prog W .any base t v := hval0
  have hW' := hW
  obtain ⟨p, q, hA0, hV, rfl, hfz, hnd⟩ := hW
  have hA : DataW.TrodAll enc Try.prog W 0 (fun _ => true) true Try.f6.params.toList args.toList ds p := hA0
  rw [Try.params6] at hA hval
  obtain ⟨v0, vs0, d0, ds0, p0, q0, hargs, rfl, rfl, h0, r0⟩ := trodAll_cons hA
  obtain ⟨v1, vs1, d1, ds1, p1, q1, rfl, rfl, rfl, h1, r1⟩ := trodAll_cons r0
  obtain ⟨rfl, rfl, rfl⟩ := trodAll_nil r1
  obtain rfl : args = #[v0, v1] := by cases args; simp_all
  obtain ⟨rfl, rfl⟩ := trodVars_none hV
  have k0 := h0
  have lt0 : ∀ x ∈ p0, x.block < W.heap.size := by obtain ⟨m, hm⟩ := k0; exact DataW.trod_lt m _ _ _ hm
  obtain ⟨b0, l0, c0, rfl⟩ := okWide_slice Try.underlying22 (hval 0 22 v0 rfl rfl)
  obtain ⟨a0, w0, e0⟩ := arg_one (g := fun a => .isl _ (rows _ a)) opensU8S rfl h0
  have k1 := h1
  have lt1 : ∀ x ∈ p1, x.block < W.heap.size := by obtain ⟨m, hm⟩ := k1; exact DataW.trod_lt m _ _ _ hm
  obtain ⟨b1, l1, c1, rfl⟩ := okWide_slice Try.underlying22 (hval 1 22 v1 rfl rfl)
  obtain ⟨a1, w1, e1⟩ := arg_one (g := fun a => .isl _ (rows _ a)) opensU8S rfl h1
  clear hA0 hval0
  refine ((lawGivenJobs_ok a0 a1 w0 w1).2 W (fun k => k < W.heap.size) _ (fun _ h => h) (All2.cons e0 (All2.cons e1 All2.nil))).mono ?_
  rintro e W' ⟨v, r, gs', rfl, rfl, bel, hr⟩
  have hv : v = .bool true := by
    obtain ⟨-, -, hr⟩ := hr
    cases hr with
    | one hr => cases hr with
      | imm hr => cases hr; rfl
  subst hv
  exact ⟨_, rfl, _, _, _, [], _, [], hW', trodAll_mk1 (shut_bool Try.underlying4 _), (trodAll_cons_mk (Below.trod laidOutFnGivenJobs (by kernel_rfl) (of_decide_eq_true (by kernel_rfl)) k0 bel lt0) (trodAll_cons_mk (Below.trod laidOutFnGivenJobs (by kernel_rfl) (of_decide_eq_true (by kernel_rfl)) k1 bel lt1) trodAll_mk0)), rfl, bel.frame _, fun h => by cases h⟩

theorem and2FnGivenJobs {a b : Bool} (ha : a = true) (hb : b = true) : (a && b) = true := by rw [ha, hb]; rfl
theorem z0FnGivenJobs : (Rows.fnGivenJobsRow.wf (OpenSpec.ofChange Rows.fnGivenJobsSpec)) = true := by kernel_rfl
theorem z1FnGivenJobs : (laidOutB Try.pinned.checked.prog) = true := by kernel_rfl
theorem z2FnGivenJobs : (mapsRowed Try.pinned.checked.prog) = true := by kernel_rfl
theorem z3FnGivenJobs : (Try.f6.params.all (Try.pinned.checked.prog.readableRec ·)) = true := by kernel_rfl
theorem z4FnGivenJobs : (namedTie Try.pinned.checked.prog Rows.fnGivenJobsRow.named Rows.fnGivenJobsSpec.vars) = true := by kernel_rfl
theorem z5FnGivenJobs : ((Rows.fnGivenJobsRow.stops == [])) = true := by kernel_rfl
theorem z6FnGivenJobs : ((Try.pinned.checked.prog.stops == [])) = true := by kernel_rfl
theorem z7FnGivenJobs : ((Rows.fnGivenJobsRow.knobs == [])) = true := by kernel_rfl
theorem z8FnGivenJobs : ((Try.pinned.checked.prog.stopKnobs == [])) = true := by kernel_rfl
theorem z9FnGivenJobs : ((Rows.fnGivenJobsRow.inPlace == Try.pinned.checked.prog.inPlace 6)) = true := by kernel_rfl
theorem z10FnGivenJobs : ((Rows.fnGivenJobsRow.unfollowed == Try.pinned.checked.prog.unfollowed 6)) = true := by kernel_rfl
theorem z11FnGivenJobs : ((Rows.fnGivenJobsRow.recurses == Try.pinned.checked.prog.recurses 6)) = true := by kernel_rfl
theorem z12FnGivenJobs : ((Rows.fnGivenJobsRow.named == Try.pinned.checked.prog.varsNamed 6)) = true := by kernel_rfl
theorem z13FnGivenJobs : ((Rows.fnGivenJobsRow.maps == (Try.f6.params.toList ++ Rows.fnGivenJobsSpec.plain.varTypes Try.pinned.checked.prog).any (Try.pinned.checked.prog.mapsRec ·))) = true := by kernel_rfl
theorem z14FnGivenJobs : ((Rows.fnGivenJobsRow.ifaces == (Try.f6.params.toList ++ Rows.fnGivenJobsSpec.plain.varTypes Try.pinned.checked.prog).any (Try.pinned.checked.prog.ifacesRec ·))) = true := by kernel_rfl
theorem z15FnGivenJobs : ((Rows.fnGivenJobsRow.mapsOut == Try.pinned.checked.prog.mapsAmong Try.f6.resultTypes.toList)) = true := by kernel_rfl
theorem z16FnGivenJobs : ((Rows.fnGivenJobsRow.loops == (Try.f6.params.toList ++ Rows.fnGivenJobsSpec.plain.varTypes Try.pinned.checked.prog).any (Try.pinned.checked.prog.loopsFrom ·))) = true := by kernel_rfl
theorem z17FnGivenJobs : ((Rows.fnGivenJobsRow.wideKeys == (Try.f6.params.toList ++ Rows.fnGivenJobsSpec.plain.varTypes Try.pinned.checked.prog ++ Try.f6.resultTypes.toList).any (Try.pinned.checked.prog.wideKeysFrom ·))) = true := by kernel_rfl
theorem z18FnGivenJobs : (Rows.fnGivenJobsSpec.vars.all (Try.pinned.checked.prog.varReadable ·)) = true := by kernel_rfl
theorem z19FnGivenJobs : (Try.f6.resultTypes.all (fun t => Try.pinned.checked.prog.readableRec t && decide (t < Try.pinned.checked.prog.types.size))) = true := by kernel_rfl
theorem z20FnGivenJobs : ((Rows.fnGivenJobsRow.ifacesOut == Try.f6.resultTypes.toList.any (Try.pinned.checked.prog.ifacesRec ·))) = true := by kernel_rfl
theorem z21FnGivenJobs : ((Rows.fnGivenJobsRow.loopsOut == Try.f6.resultTypes.toList.any (Try.pinned.checked.prog.loopsFrom ·))) = true := by kernel_rfl
theorem z22FnGivenJobs : ((Rows.fnGivenJobsRow.plainKeys == Try.pinned.checked.prog.plainKeys)) = true := by kernel_rfl
theorem z23FnGivenJobs : (Rows.fnGivenJobsRow.shortTexts.isNone) = true := by kernel_rfl
theorem z24FnGivenJobs : (Try.pinned.checked.prog.stopsHeard) = true := by kernel_rfl
theorem z25FnGivenJobs : (Try.pinned.checked.prog.mayEnter) = true := by kernel_rfl
theorem z26FnGivenJobs : ((Rows.fnGivenJobsRow.lifted == Try.pinned.checked.prog.liftsFinal)) = true := by kernel_rfl
theorem z27FnGivenJobs : ((Try.pinned.checked.prog.make == some Rows.fnGivenJobsRow.make)) = true := by kernel_rfl
theorem z28FnGivenJobs : ((Rows.fnGivenJobsRow.kinds == (if Rows.fnGivenJobsRow.domain.isEmpty then [] else Try.f6.params.toList.map fun t => match Try.pinned.checked.prog.underlying t with | some (.int k) => some k | _ => none))) = true := by kernel_rfl
theorem z29FnGivenJobs : ((Rows.fnGivenJobsRow.pinned == Rows.fnGivenJobsRow.pinnedBy)) = true := by kernel_rfl
theorem z30FnGivenJobs : ((Rows.fnGivenJobsRow.veiled == (Try.f6.params.toList ++ Rows.fnGivenJobsSpec.plain.varTypes Try.pinned.checked.prog ++ Try.f6.resultTypes.toList).any (Try.pinned.checked.prog.veiledRec ·))) = true := by kernel_rfl
theorem z31FnGivenJobs : (Rows.fnGivenJobsRow.veiledFits Try.pinned.checked.prog Try.f6.params.toList (Try.f6.params.toList ++ Rows.fnGivenJobsSpec.plain.varTypes Try.pinned.checked.prog ++ Try.f6.resultTypes.toList)) = true := by kernel_rfl
theorem closedFnGivenJobs : joinedFacts Try.pinned.checked.prog 6 Try.f6 Rows.fnGivenJobsSpec Rows.fnGivenJobsRow = true := (and2FnGivenJobs (and2FnGivenJobs (and2FnGivenJobs (and2FnGivenJobs (and2FnGivenJobs (and2FnGivenJobs (and2FnGivenJobs (and2FnGivenJobs (and2FnGivenJobs (and2FnGivenJobs (and2FnGivenJobs (and2FnGivenJobs (and2FnGivenJobs (and2FnGivenJobs (and2FnGivenJobs (and2FnGivenJobs (and2FnGivenJobs (and2FnGivenJobs (and2FnGivenJobs (and2FnGivenJobs (and2FnGivenJobs (and2FnGivenJobs (and2FnGivenJobs (and2FnGivenJobs (and2FnGivenJobs (and2FnGivenJobs (and2FnGivenJobs (and2FnGivenJobs (and2FnGivenJobs (and2FnGivenJobs (and2FnGivenJobs z0FnGivenJobs z1FnGivenJobs) z2FnGivenJobs) z3FnGivenJobs) z4FnGivenJobs) z5FnGivenJobs) z6FnGivenJobs) z7FnGivenJobs) z8FnGivenJobs) z9FnGivenJobs) z10FnGivenJobs) z11FnGivenJobs) z12FnGivenJobs) z13FnGivenJobs) z14FnGivenJobs) z15FnGivenJobs) z16FnGivenJobs) z17FnGivenJobs) z18FnGivenJobs) z19FnGivenJobs) z20FnGivenJobs) z21FnGivenJobs) z22FnGivenJobs) z23FnGivenJobs) z24FnGivenJobs) z25FnGivenJobs) z26FnGivenJobs) z27FnGivenJobs) z28FnGivenJobs) z29FnGivenJobs) z30FnGivenJobs) z31FnGivenJobs)
theorem namedFnGivenJobs : Try.pinned.checked.prog.funcNamed Rows.fnGivenJobsRow.func = some 6 := by kernel_rfl

theorem overFnGivenJobs : Rows.fnGivenJobsRow.holds Try.pinned (OpenSpec.ofChange Rows.fnGivenJobsSpec) :=
  OpenClaim.holds_of_wide 6 Try.f6 rfl rfl rfl rfl rfl rfl rfl ⟨rfl, rfl, rfl, rfl, rfl⟩ rfl rfl rfl rfl rfl namedFnGivenJobs Try.func6 closedFnGivenJobs
    (of_decide_eq_true (by kernel_rfl)) (by unfold Func.isWrapper; first | (rw [if_pos (by decide +kernel)]; kernel_rfl) | (rw [if_neg (by decide +kernel)]; exact ⟨rfl, rfl⟩))
    (fun os started H enc _ => liftedFnGivenJobs os started H enc)

theorem provedFnGivenJobs : Rows.FnGivenJobsSaid := overFnGivenJobs
#print axioms provedFnGivenJobs
end Go.Proofs.Ytkdaikliahnenab.Ai
