/- Proved: for every input the law FnTariffs returns true, and each argument reads afterwards as it read before. Conditions: none. -/
import Derived.Test.YtbamclepgabciaaDoorRows
import Derived.Test.YtbamclepgabciaaDoorAiOpen
import Derived.Test.YtbamclepgabciaaDoorLawTariffs
import Derived.Test.YtbamclepgabciaaDoorCards
import Derived.Test.YtbamclepgabciaaDoorTie
import Derived.LaidMore
import Derived.Lib.LaidTab
import Derived.Stop.LaidErr
import Derived.SevenTiedAt
import Derived.Test.YtbamclepgabciaaDoorOpensU8
import Derived.ProofKit
import Derived.OpenShut
import Derived.ShutString
namespace Go.Proofs.YtbamclepgabciaaDoor.Ai
open Go Go.Proofs Go.Stop Go.ChangeShapes Go.WideShapes Go.ChangeAt Go.RowKit
set_option linter.unusedVariables false
set_option maxRecDepth 100000

theorem ownFnTariffs : ownKnob Tryd.prog.godebug = none := by kernel_rfl
theorem laidOutFnTariffs : laidOutB Tryd.prog = true := by kernel_rfl

theorem gPowFnTariffs : Tryd.prog.globalNamed "internal/strconv.uint64pow10" = some 0 := by kernel_rfl
theorem gPowTFnTariffs : (Tryd.prog.globals[0]?).map (·.type) = some 153 := by kernel_rfl
/-- The door's own heap meets the condition. -/
theorem doorMetFnTariffs (os : Os) (args : Array Value) : laidMetH Tryd.prog Rows.fnTariffsRow.laid ((World.doorLaid Tryd.prog 4000 os).forCall (fun _ _ => 0) ⟨#[], args, []⟩).memory :=
  laidMetH_of_parts3 (fuel := 8) (laidMet_of_run' 8 (by kernel_rfl) (by kernel_rfl)) (by kernel_rfl) (by kernel_rfl)
/-- What the condition gives: the table of powers of ten. -/
theorem powIsFnTariffs {W : World} (h : laidMetH Tryd.prog Rows.fnTariffsRow.laid W) : Lib.TabIs Tryd.prog W "internal/strconv.uint64pow10" .u64 Lib.pow10Tab := by
  rw [MakeChecks.laidMetH_plain _ _ _ (by kernel_rfl)] at h
  have h' : laidMet Tryd.prog (("math/bits.deBruijn32tab", Rows.laid_math_bits_deBruijn32tab) :: ("math/bits.deBruijn64tab", Rows.laid_math_bits_deBruijn64tab) :: ("internal/strconv.uint64pow10", Lib.tabData .u64 Lib.pow10Tab) :: []) W := h
  exact Lib.tabIs_of_head gPowFnTariffs gPowTFnTariffs Tryd.underlying153 Tryd.underlying83 (by kernel_rfl) (by kernel_rfl) h'.tail.tail

set_option maxRecDepth 100000 in
theorem liftedFnTariffs (os : Os) (started : os.Started) (H : Type) (enc : TypeId × Value → H) :
    ReturnsInHanded {} Tryd.checked os 5 .any (fun w args => (Rows.fnTariffsSpec.pre enc Tryd.prog Tryd.f5 [] false w args ∧ laidMetH Tryd.prog Rows.fnTariffsRow.laid w) ∧ sizedMet enc Tryd.prog Tryd.f5 (OpenSpec.ofChange Rows.fnTariffsSpec) false w args)
      (Rows.fnTariffsSpec.post enc Tryd.prog Tryd.f5 false true false false) := by
  refine returnsInHanded_of_change_and (C := Tryd.checked) (X := fun w _ => laidMetH Tryd.prog Rows.fnTariffsRow.laid w) (fun _ _ _ hh h => h.of_heap hh) ownFnTariffs started (by kernel_rfl) Tryd.func5
    (ChangeSpec.witness_shaped (enc := enc) (C := Tryd.checked) (os := os) (X := fun w _ => laidMetH Tryd.prog Rows.fnTariffsRow.laid w) false (World.doorLaid Tryd.prog 4000 os) #[.slice none 0 0, .slice none 0 0] 8 rfl (World.shaped_of_RefB (by kernel_rfl) (by kernel_rfl)) (by kernel_rfl) (by kernel_rfl) (by kernel_rfl) (doorMetFnTariffs os _)) ?_
  intro W base args ds gs before hval0 hW _ _ hL _
  have hval : ∀ (j : Nat) t v, Tryd.f5.params[j]? = some t → args[j]? = some v → Value.okWide Tryd.prog W .any base t v := hval0
  have hW' := hW
  obtain ⟨p, q, hA0, hV, rfl, hfz, hnd⟩ := hW
  have hA : DataW.TrodAll enc Tryd.prog W 0 (fun _ => true) true Tryd.f5.params.toList args.toList ds p := hA0
  rw [Tryd.params5] at hA hval
  obtain ⟨v0, vs0, d0, ds0, p0, q0, hargs, rfl, rfl, h0, r0⟩ := trodAll_cons hA
  obtain ⟨v1, vs1, d1, ds1, p1, q1, rfl, rfl, rfl, h1, r1⟩ := trodAll_cons r0
  obtain ⟨rfl, rfl, rfl⟩ := trodAll_nil r1
  obtain rfl : args = #[v0, v1] := by cases args; simp_all
  obtain ⟨rfl, rfl⟩ := trodVars_none hV
  have k0 := h0
  have lt0 : ∀ x ∈ p0, x.block < W.heap.size := by obtain ⟨m, hm⟩ := k0; exact DataW.trod_lt m _ _ _ hm
  obtain ⟨b0, l0, c0, rfl⟩ := okWide_slice Tryd.underlying22 (hval 0 22 v0 rfl rfl)
  obtain ⟨a0, w0, e0⟩ := arg_one (g := fun a => .isl _ (rows _ a)) opensU8S rfl h0
  have k1 := h1
  have lt1 : ∀ x ∈ p1, x.block < W.heap.size := by obtain ⟨m, hm⟩ := k1; exact DataW.trod_lt m _ _ _ hm
  obtain ⟨b1, l1, c1, rfl⟩ := okWide_slice Tryd.underlying22 (hval 1 22 v1 rfl rfl)
  obtain ⟨a1, w1, e1⟩ := arg_one (g := fun a => .isl _ (rows _ a)) opensU8S rfl h1
  clear hA0 hval0
  refine ((lawTariffs_ok a0 a1 w0 w1).2 W (fun k => k < W.heap.size) _ ⟨fun _ h => h, W.heap.size, Nat.le_refl _, Lib.tabBelow_of_tabIs (powIsFnTariffs hL)⟩ (All2.cons e0 (All2.cons e1 All2.nil))).mono ?_
  rintro e W' ⟨v, r, gs', rfl, rfl, bel, hr⟩
  have hv : v = .bool true := by
    obtain ⟨-, -, hr⟩ := hr
    cases hr with
    | one hr => cases hr with
      | imm hr => cases hr; rfl
  subst hv
  exact ⟨_, rfl, _, _, _, [], _, [], hW', trodAll_mk1 (shut_bool Tryd.underlying4 _), (trodAll_cons_mk (Below.trod laidOutFnTariffs (by kernel_rfl) (of_decide_eq_true (by kernel_rfl)) k0 bel lt0) (trodAll_cons_mk (Below.trod laidOutFnTariffs (by kernel_rfl) (of_decide_eq_true (by kernel_rfl)) k1 bel lt1) trodAll_mk0)), rfl, bel.frame _, fun h => by cases h⟩

theorem and2FnTariffs {a b : Bool} (ha : a = true) (hb : b = true) : (a && b) = true := by rw [ha, hb]; rfl
theorem z0FnTariffs : (Rows.fnTariffsRow.wf (OpenSpec.ofChange Rows.fnTariffsSpec)) = true := by kernel_rfl
theorem z1FnTariffs : (laidOutB Tryd.pinned.checked.prog) = true := by kernel_rfl
theorem z2FnTariffs : (mapsRowed Tryd.pinned.checked.prog) = true := by kernel_rfl
theorem z3FnTariffs : (Tryd.f5.params.all (Tryd.pinned.checked.prog.readableRec ·)) = true := by kernel_rfl
theorem z4FnTariffs : (namedTie Tryd.pinned.checked.prog Rows.fnTariffsRow.named Rows.fnTariffsSpec.vars) = true := by kernel_rfl
theorem z5FnTariffs : ((Rows.fnTariffsRow.stops == [])) = true := by kernel_rfl
theorem z6FnTariffs : ((Tryd.pinned.checked.prog.stops == [])) = true := by kernel_rfl
theorem z7FnTariffs : ((Rows.fnTariffsRow.knobs == [])) = true := by kernel_rfl
theorem z8FnTariffs : ((Tryd.pinned.checked.prog.stopKnobs == [])) = true := by kernel_rfl
theorem z9FnTariffs : ((Rows.fnTariffsRow.inPlace == Tryd.pinned.checked.prog.inPlace 5)) = true := by kernel_rfl
theorem z10FnTariffs : ((Rows.fnTariffsRow.unfollowed == Tryd.pinned.checked.prog.unfollowed 5)) = true := by kernel_rfl
theorem z11FnTariffs : ((Rows.fnTariffsRow.recurses == Tryd.pinned.checked.prog.recurses 5)) = true := by kernel_rfl
theorem z12FnTariffs : ((Rows.fnTariffsRow.named == Tryd.pinned.checked.prog.varsNamed 5)) = true := by kernel_rfl
theorem z13FnTariffs : ((Rows.fnTariffsRow.maps == (Tryd.f5.params.toList ++ Rows.fnTariffsSpec.plain.varTypes Tryd.pinned.checked.prog).any (Tryd.pinned.checked.prog.mapsRec ·))) = true := by kernel_rfl
theorem z14FnTariffs : ((Rows.fnTariffsRow.ifaces == (Tryd.f5.params.toList ++ Rows.fnTariffsSpec.plain.varTypes Tryd.pinned.checked.prog).any (Tryd.pinned.checked.prog.ifacesRec ·))) = true := by kernel_rfl
theorem z15FnTariffs : ((Rows.fnTariffsRow.mapsOut == Tryd.pinned.checked.prog.mapsAmong Tryd.f5.resultTypes.toList)) = true := by kernel_rfl
theorem z16FnTariffs : ((Rows.fnTariffsRow.loops == (Tryd.f5.params.toList ++ Rows.fnTariffsSpec.plain.varTypes Tryd.pinned.checked.prog).any (Tryd.pinned.checked.prog.loopsFrom ·))) = true := by kernel_rfl
theorem z17FnTariffs : ((Rows.fnTariffsRow.wideKeys == (Tryd.f5.params.toList ++ Rows.fnTariffsSpec.plain.varTypes Tryd.pinned.checked.prog ++ Tryd.f5.resultTypes.toList).any (Tryd.pinned.checked.prog.wideKeysFrom ·))) = true := by kernel_rfl
theorem z18FnTariffs : (Rows.fnTariffsSpec.vars.all (Tryd.pinned.checked.prog.varReadable ·)) = true := by kernel_rfl
theorem z19FnTariffs : (Tryd.f5.resultTypes.all (fun t => Tryd.pinned.checked.prog.readableRec t && decide (t < Tryd.pinned.checked.prog.types.size))) = true := by kernel_rfl
theorem z20FnTariffs : ((Rows.fnTariffsRow.ifacesOut == Tryd.f5.resultTypes.toList.any (Tryd.pinned.checked.prog.ifacesRec ·))) = true := by kernel_rfl
theorem z21FnTariffs : ((Rows.fnTariffsRow.loopsOut == Tryd.f5.resultTypes.toList.any (Tryd.pinned.checked.prog.loopsFrom ·))) = true := by kernel_rfl
theorem z22FnTariffs : ((Rows.fnTariffsRow.plainKeys == Tryd.pinned.checked.prog.plainKeys)) = true := by kernel_rfl
theorem z23FnTariffs : (Rows.fnTariffsRow.shortTexts.isNone) = true := by kernel_rfl
theorem z24FnTariffs : (Tryd.pinned.checked.prog.stopsHeard) = true := by kernel_rfl
theorem z25FnTariffs : (Tryd.pinned.checked.prog.mayEnter) = true := by kernel_rfl
theorem z26FnTariffs : ((Rows.fnTariffsRow.lifted == Tryd.pinned.checked.prog.liftsFinal)) = true := by kernel_rfl
theorem z27FnTariffs : ((Tryd.pinned.checked.prog.make == some Rows.fnTariffsRow.make)) = true := by kernel_rfl
theorem z28FnTariffs : ((Rows.fnTariffsRow.kinds == (if Rows.fnTariffsRow.domain.isEmpty then [] else Tryd.f5.params.toList.map fun t => match Tryd.pinned.checked.prog.underlying t with | some (.int k) => some k | _ => none))) = true := by kernel_rfl
theorem z29FnTariffs : ((Rows.fnTariffsRow.pinned == Rows.fnTariffsRow.pinnedBy)) = true := by kernel_rfl
theorem z30FnTariffs : ((Rows.fnTariffsRow.veiled == (Tryd.f5.params.toList ++ Rows.fnTariffsSpec.plain.varTypes Tryd.pinned.checked.prog ++ Tryd.f5.resultTypes.toList).any (Tryd.pinned.checked.prog.veiledRec ·))) = true := by kernel_rfl
theorem z31FnTariffs : (Rows.fnTariffsRow.veiledFits Tryd.pinned.checked.prog Tryd.f5.params.toList (Tryd.f5.params.toList ++ Rows.fnTariffsSpec.plain.varTypes Tryd.pinned.checked.prog ++ Tryd.f5.resultTypes.toList)) = true := by kernel_rfl
theorem closedFnTariffs : joinedFacts Tryd.pinned.checked.prog 5 Tryd.f5 Rows.fnTariffsSpec Rows.fnTariffsRow = true := (and2FnTariffs (and2FnTariffs (and2FnTariffs (and2FnTariffs (and2FnTariffs (and2FnTariffs (and2FnTariffs (and2FnTariffs (and2FnTariffs (and2FnTariffs (and2FnTariffs (and2FnTariffs (and2FnTariffs (and2FnTariffs (and2FnTariffs (and2FnTariffs (and2FnTariffs (and2FnTariffs (and2FnTariffs (and2FnTariffs (and2FnTariffs (and2FnTariffs (and2FnTariffs (and2FnTariffs (and2FnTariffs (and2FnTariffs (and2FnTariffs (and2FnTariffs (and2FnTariffs (and2FnTariffs (and2FnTariffs z0FnTariffs z1FnTariffs) z2FnTariffs) z3FnTariffs) z4FnTariffs) z5FnTariffs) z6FnTariffs) z7FnTariffs) z8FnTariffs) z9FnTariffs) z10FnTariffs) z11FnTariffs) z12FnTariffs) z13FnTariffs) z14FnTariffs) z15FnTariffs) z16FnTariffs) z17FnTariffs) z18FnTariffs) z19FnTariffs) z20FnTariffs) z21FnTariffs) z22FnTariffs) z23FnTariffs) z24FnTariffs) z25FnTariffs) z26FnTariffs) z27FnTariffs) z28FnTariffs) z29FnTariffs) z30FnTariffs) z31FnTariffs)
theorem namedFnTariffs : Tryd.pinned.checked.prog.funcNamed Rows.fnTariffsRow.func = some 5 := by kernel_rfl

theorem overFnTariffs : Rows.fnTariffsRow.holds Tryd.pinned (OpenSpec.ofChange Rows.fnTariffsSpec) :=
  OpenClaim.holds_of_wide 5 Tryd.f5 rfl rfl rfl rfl rfl rfl rfl ⟨rfl, rfl, rfl, rfl, rfl⟩ rfl rfl rfl rfl rfl namedFnTariffs Tryd.func5 closedFnTariffs
    (of_decide_eq_true (by kernel_rfl)) (by unfold Func.isWrapper; first | (rw [if_pos (by decide +kernel)]; kernel_rfl) | (rw [if_neg (by decide +kernel)]; exact ⟨rfl, rfl⟩))
    (fun os started H enc _ => liftedFnTariffs os started H enc)

/-- The card: the row, its listed variables tied to the program's text. -/
theorem provedFnTariffs : Rows.FnTariffsCardSaid :=
  Claim7.holds_tied_plain_at .later [] [.data, .data, .data] true (true, "a5cb98414faac5f05979639d1dc2f59e2e7a9fd4d3df39a3fa25cbcdbf49b9d6") false
    overFnTariffs (fun _ h => by cases h) (by kernel_rfl) (fun _ h => by cases h) fnTariffs_row_tie rfl ⟨rfl, rfl⟩ (by kernel_rfl) rfl
    (fun f fn hf hfn => by
      obtain rfl : f = 5 := Option.some.inj ((show Tryd.prog.funcNamed "loop.example/g01054/laws.FnTariffs" = some 5 by kernel_rfl).symm.trans hf) |>.symm
      obtain rfl : fn = Tryd.f5 := (Option.some.inj (Tryd.func5.symm.trans hfn)).symm
      exact ⟨by kernel_rfl, fun j t ht => by
        rw [Tryd.params5] at ht
        have hm := Array.mem_of_getElem? ht
        have hall : (Tryd.f5.params.toList.all fun u => !Tryd.prog.wantsStandIn u) = true := by kernel_rfl
        have hm' : t ∈ Tryd.f5.params.toList := by rw [Tryd.params5]; simpa using hm
        exact (show Tryd.prog.wantsStandIn t = false by simpa using List.all_eq_true.1 hall t hm')⟩)
    (by kernel_rfl)
#print axioms provedFnTariffs
end Go.Proofs.YtbamclepgabciaaDoor.Ai
