/- Proved: for every input the law FnExactGiveJobs returns true, and each argument reads afterwards as it read before. Conditions: none. -/
import Derived.Test.YtnamefdhmlbcpaaRows
import Derived.Test.YtnamefdhmlbcpaaAiOpen
import Derived.Test.YtnamefdhmlbcpaaOpensCraft
import Derived.Test.YtnamefdhmlbcpaaOpensSS
import Derived.Test.YtnamefdhmlbcpaaLawGive
import Derived.ProofKit
import Derived.OpenShut
import Derived.ShutString
namespace Go.Proofs.Ytnamefdhmlbcpaa.Ai
open Go Go.Proofs Go.ChangeShapes Go.WideShapes Go.ChangeAt Go.RowKit
set_option linter.unusedVariables false
set_option maxRecDepth 100000

theorem ownFnExactGiveJobs : ownKnob Try.prog.godebug = none := by kernel_rfl
theorem laidOutFnExactGiveJobs : laidOutB Try.prog = true := by kernel_rfl

set_option maxRecDepth 100000 in
theorem liftedFnExactGiveJobs (os : Os) (started : os.Started) (H : Type) (enc : TypeId × Value → H) :
    ReturnsInHanded {} Try.checked os 3 .any (Rows.fnExactGiveJobsSpec.pre6 enc Try.prog Try.f3 Rows.fnExactGiveJobsRow.domain false) (Rows.fnExactGiveJobsSpec.post enc Try.prog Try.f3 false true false false) := by
  refine returnsInHanded_of_change (C := Try.checked) ownFnExactGiveJobs started (by kernel_rfl) Try.func3
    (ChangeSpec.witness6 (enc := enc) (C := Try.checked) false ⟨#[], #[.slice none 0 0, .slice none 0 0, .slice none 0 0], []⟩ 8 (by kernel_rfl) (by kernel_rfl) (by kernel_rfl) (by kernel_rfl)) ?_
  intro W base args ds gs before hval0 hW hcnd _
  have hval : ∀ (j : Nat) t v, Try.f3.params[j]? = some t → args[j]? = some v → Value.okWide Try.prog W .any base t v := hval0
  have hW' := hW
  obtain ⟨p, q, hA0, hV, rfl, hfz, hnd⟩ := hW
  have hA : DataW.TrodAll enc Try.prog W 0 (fun _ => true) true Try.f3.params.toList args.toList ds p := hA0
  rw [Try.params3] at hA hval
  obtain ⟨v0, vs0, d0, ds0, p0, q0, hargs, rfl, rfl, h0, r0⟩ := trodAll_cons hA
  obtain ⟨v1, vs1, d1, ds1, p1, q1, rfl, rfl, rfl, h1, r1⟩ := trodAll_cons r0
  obtain ⟨v2, vs2, d2, ds2, p2, q2, rfl, rfl, rfl, h2, r2⟩ := trodAll_cons r1
  obtain ⟨rfl, rfl, rfl⟩ := trodAll_nil r2
  obtain rfl : args = #[v0, v1, v2] := by cases args; simp_all
  obtain ⟨rfl, rfl⟩ := trodVars_none hV
  have k0 := h0
  have lt0 : ∀ x ∈ p0, x.block < W.heap.size := by obtain ⟨m, hm⟩ := k0; exact DataW.trod_lt m _ _ _ hm
  obtain ⟨b0, l0, c0, rfl⟩ := okWide_slice Try.underlying22 (hval 0 22 v0 rfl rfl)
  obtain ⟨a0, w0, e0⟩ := arg_one (g := fun a => .isl _ (rows _ a)) opensCraftS rfl h0
  have k1 := h1
  have lt1 : ∀ x ∈ p1, x.block < W.heap.size := by obtain ⟨m, hm⟩ := k1; exact DataW.trod_lt m _ _ _ hm
  obtain ⟨b1, l1, c1, rfl⟩ := okWide_slice Try.underlying23 (hval 1 23 v1 rfl rfl)
  obtain ⟨a1, w1, e1⟩ := arg_one (g := fun a => .isl _ (rows _ a)) opensIntSS rfl h1
  have k2 := h2
  have lt2 : ∀ x ∈ p2, x.block < W.heap.size := by obtain ⟨m, hm⟩ := k2; exact DataW.trod_lt m _ _ _ hm
  obtain ⟨b2, l2, c2, rfl⟩ := okWide_slice Try.underlying24 (hval 2 24 v2 rfl rfl)
  obtain ⟨a2, w2, e2⟩ := arg_one (g := fun a => .isl _ (rows _ a)) opensIntS rfl h2
  clear hA0 hval0
  refine ((lawGiveJobs_ok a0 a1 a2).2 W (fun k => k < W.heap.size) _ (fun _ h => h) (All2.cons e0 (All2.cons e1 (All2.cons e2 All2.nil)))).mono ?_
  rintro e W' ⟨v, r, gs', rfl, rfl, bel, hr⟩
  have hv : v = .bool true := by
    obtain ⟨-, -, hr⟩ := hr
    cases hr with
    | one hr => cases hr with
      | imm hr => cases hr; rfl
  subst hv
  exact ⟨_, rfl, _, _, _, [], _, [], hW', trodAll_mk1 (shut_bool Try.underlying4 _), (trodAll_cons_mk (Below.trod laidOutFnExactGiveJobs (by kernel_rfl) (of_decide_eq_true (by kernel_rfl)) k0 bel lt0) (trodAll_cons_mk (Below.trod laidOutFnExactGiveJobs (by kernel_rfl) (of_decide_eq_true (by kernel_rfl)) k1 bel lt1) (trodAll_cons_mk (Below.trod laidOutFnExactGiveJobs (by kernel_rfl) (of_decide_eq_true (by kernel_rfl)) k2 bel lt2) trodAll_mk0))), rfl, bel.frame _, fun h => by cases h⟩

theorem and2FnExactGiveJobs {a b : Bool} (ha : a = true) (hb : b = true) : (a && b) = true := by rw [ha, hb]; rfl
theorem z0FnExactGiveJobs : (Rows.fnExactGiveJobsRow.wf (OpenSpec.ofChange Rows.fnExactGiveJobsSpec)) = true := by kernel_rfl
theorem z1FnExactGiveJobs : (laidOutB Try.pinned.checked.prog) = true := by kernel_rfl
theorem z2FnExactGiveJobs : (mapsRowed Try.pinned.checked.prog) = true := by kernel_rfl
theorem z3FnExactGiveJobs : (Try.f3.params.all (Try.pinned.checked.prog.readableRec ·)) = true := by kernel_rfl
theorem z4FnExactGiveJobs : (namedTie Try.pinned.checked.prog Rows.fnExactGiveJobsRow.named Rows.fnExactGiveJobsSpec.vars) = true := by kernel_rfl
theorem z5FnExactGiveJobs : ((Rows.fnExactGiveJobsRow.stops == [])) = true := by kernel_rfl
theorem z6FnExactGiveJobs : ((Try.pinned.checked.prog.stops == [])) = true := by kernel_rfl
theorem z7FnExactGiveJobs : ((Rows.fnExactGiveJobsRow.knobs == [])) = true := by kernel_rfl
theorem z8FnExactGiveJobs : ((Try.pinned.checked.prog.stopKnobs == [])) = true := by kernel_rfl
theorem z9FnExactGiveJobs : ((Rows.fnExactGiveJobsRow.inPlace == Try.pinned.checked.prog.inPlace 3)) = true := by kernel_rfl
theorem z10FnExactGiveJobs : ((Rows.fnExactGiveJobsRow.unfollowed == Try.pinned.checked.prog.unfollowed 3)) = true := by kernel_rfl
theorem z11FnExactGiveJobs : ((Rows.fnExactGiveJobsRow.recurses == Try.pinned.checked.prog.recurses 3)) = true := by kernel_rfl
theorem z12FnExactGiveJobs : ((Rows.fnExactGiveJobsRow.named == Try.pinned.checked.prog.varsNamed 3)) = true := by kernel_rfl
theorem z13FnExactGiveJobs : ((Rows.fnExactGiveJobsRow.maps == (Try.f3.params.toList ++ Rows.fnExactGiveJobsSpec.plain.varTypes Try.pinned.checked.prog).any (Try.pinned.checked.prog.mapsRec ·))) = true := by kernel_rfl
theorem z14FnExactGiveJobs : ((Rows.fnExactGiveJobsRow.ifaces == (Try.f3.params.toList ++ Rows.fnExactGiveJobsSpec.plain.varTypes Try.pinned.checked.prog).any (Try.pinned.checked.prog.ifacesRec ·))) = true := by kernel_rfl
theorem z15FnExactGiveJobs : ((Rows.fnExactGiveJobsRow.mapsOut == Try.pinned.checked.prog.mapsAmong Try.f3.resultTypes.toList)) = true := by kernel_rfl
theorem z16FnExactGiveJobs : ((Rows.fnExactGiveJobsRow.loops == (Try.f3.params.toList ++ Rows.fnExactGiveJobsSpec.plain.varTypes Try.pinned.checked.prog).any (Try.pinned.checked.prog.loopsFrom ·))) = true := by kernel_rfl
theorem z17FnExactGiveJobs : ((Rows.fnExactGiveJobsRow.wideKeys == (Try.f3.params.toList ++ Rows.fnExactGiveJobsSpec.plain.varTypes Try.pinned.checked.prog ++ Try.f3.resultTypes.toList).any (Try.pinned.checked.prog.wideKeysFrom ·))) = true := by kernel_rfl
theorem z18FnExactGiveJobs : (Rows.fnExactGiveJobsSpec.vars.all (Try.pinned.checked.prog.varReadable ·)) = true := by kernel_rfl
theorem z19FnExactGiveJobs : (Try.f3.resultTypes.all (fun t => Try.pinned.checked.prog.readableRec t && decide (t < Try.pinned.checked.prog.types.size))) = true := by kernel_rfl
theorem z20FnExactGiveJobs : ((Rows.fnExactGiveJobsRow.ifacesOut == Try.f3.resultTypes.toList.any (Try.pinned.checked.prog.ifacesRec ·))) = true := by kernel_rfl
theorem z21FnExactGiveJobs : ((Rows.fnExactGiveJobsRow.loopsOut == Try.f3.resultTypes.toList.any (Try.pinned.checked.prog.loopsFrom ·))) = true := by kernel_rfl
theorem z22FnExactGiveJobs : ((Rows.fnExactGiveJobsRow.plainKeys == Try.pinned.checked.prog.plainKeys)) = true := by kernel_rfl
theorem z23FnExactGiveJobs : (Rows.fnExactGiveJobsRow.shortTexts.isNone) = true := by kernel_rfl
theorem z24FnExactGiveJobs : (Try.pinned.checked.prog.stopsHeard) = true := by kernel_rfl
theorem z25FnExactGiveJobs : (Try.pinned.checked.prog.mayEnter) = true := by kernel_rfl
theorem z26FnExactGiveJobs : ((Rows.fnExactGiveJobsRow.lifted == Try.pinned.checked.prog.liftsFinal)) = true := by kernel_rfl
theorem z27FnExactGiveJobs : ((Try.pinned.checked.prog.make == some Rows.fnExactGiveJobsRow.make)) = true := by kernel_rfl
theorem z28FnExactGiveJobs : ((Rows.fnExactGiveJobsRow.kinds == (if Rows.fnExactGiveJobsRow.domain.isEmpty then [] else Try.f3.params.toList.map fun t => match Try.pinned.checked.prog.underlying t with | some (.int k) => some k | _ => none))) = true := by kernel_rfl
theorem z29FnExactGiveJobs : ((Rows.fnExactGiveJobsRow.pinned == Rows.fnExactGiveJobsRow.pinnedBy)) = true := by kernel_rfl
theorem z30FnExactGiveJobs : ((Rows.fnExactGiveJobsRow.veiled == (Try.f3.params.toList ++ Rows.fnExactGiveJobsSpec.plain.varTypes Try.pinned.checked.prog ++ Try.f3.resultTypes.toList).any (Try.pinned.checked.prog.veiledRec ·))) = true := by kernel_rfl
theorem z31FnExactGiveJobs : (Rows.fnExactGiveJobsRow.veiledFits Try.pinned.checked.prog Try.f3.params.toList (Try.f3.params.toList ++ Rows.fnExactGiveJobsSpec.plain.varTypes Try.pinned.checked.prog ++ Try.f3.resultTypes.toList)) = true := by kernel_rfl
theorem closedFnExactGiveJobs : joinedFacts Try.pinned.checked.prog 3 Try.f3 Rows.fnExactGiveJobsSpec Rows.fnExactGiveJobsRow = true := (and2FnExactGiveJobs (and2FnExactGiveJobs (and2FnExactGiveJobs (and2FnExactGiveJobs (and2FnExactGiveJobs (and2FnExactGiveJobs (and2FnExactGiveJobs (and2FnExactGiveJobs (and2FnExactGiveJobs (and2FnExactGiveJobs (and2FnExactGiveJobs (and2FnExactGiveJobs (and2FnExactGiveJobs (and2FnExactGiveJobs (and2FnExactGiveJobs (and2FnExactGiveJobs (and2FnExactGiveJobs (and2FnExactGiveJobs (and2FnExactGiveJobs (and2FnExactGiveJobs (and2FnExactGiveJobs (and2FnExactGiveJobs (and2FnExactGiveJobs (and2FnExactGiveJobs (and2FnExactGiveJobs (and2FnExactGiveJobs (and2FnExactGiveJobs (and2FnExactGiveJobs (and2FnExactGiveJobs (and2FnExactGiveJobs (and2FnExactGiveJobs z0FnExactGiveJobs z1FnExactGiveJobs) z2FnExactGiveJobs) z3FnExactGiveJobs) z4FnExactGiveJobs) z5FnExactGiveJobs) z6FnExactGiveJobs) z7FnExactGiveJobs) z8FnExactGiveJobs) z9FnExactGiveJobs) z10FnExactGiveJobs) z11FnExactGiveJobs) z12FnExactGiveJobs) z13FnExactGiveJobs) z14FnExactGiveJobs) z15FnExactGiveJobs) z16FnExactGiveJobs) z17FnExactGiveJobs) z18FnExactGiveJobs) z19FnExactGiveJobs) z20FnExactGiveJobs) z21FnExactGiveJobs) z22FnExactGiveJobs) z23FnExactGiveJobs) z24FnExactGiveJobs) z25FnExactGiveJobs) z26FnExactGiveJobs) z27FnExactGiveJobs) z28FnExactGiveJobs) z29FnExactGiveJobs) z30FnExactGiveJobs) z31FnExactGiveJobs)
theorem namedFnExactGiveJobs : Try.pinned.checked.prog.funcNamed Rows.fnExactGiveJobsRow.func = some 3 := by kernel_rfl

theorem overFnExactGiveJobs : Rows.fnExactGiveJobsRow.holds Try.pinned (OpenSpec.ofChange Rows.fnExactGiveJobsSpec) :=
  OpenClaim.holds_of_wide 3 Try.f3 rfl rfl rfl rfl rfl rfl rfl ⟨rfl, rfl, rfl, rfl, rfl⟩ rfl rfl rfl rfl rfl namedFnExactGiveJobs Try.func3 closedFnExactGiveJobs
    (of_decide_eq_true (by kernel_rfl)) (by unfold Func.isWrapper; first | (rw [if_pos (by decide +kernel)]; kernel_rfl) | (rw [if_neg (by decide +kernel)]; exact ⟨rfl, rfl⟩))
    (fun os started H enc _ => liftedFnExactGiveJobs os started H enc)

theorem provedFnExactGiveJobs : Rows.FnExactGiveJobsSaid := overFnExactGiveJobs
#print axioms provedFnExactGiveJobs
end Go.Proofs.Ytnamefdhmlbcpaa.Ai
