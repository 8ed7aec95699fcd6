/- Proved: for every input the law FnFolds returns true, and each argument reads afterwards as it read before. Conditions: none. -/
import Derived.Test.YtbamclepgabciaaDoorAiOpen
import Derived.Test.YtbamclepgabciaaDoorAiTypes
import Derived.Test.YtbamclepgabciaaDoorRows
import Derived.Test.YtbamclepgabciaaDoorLawFolds
import Derived.Test.YtbamclepgabciaaDoorCards
import Derived.Test.YtbamclepgabciaaDoorTie
import Derived.LaidMore
import Derived.Lib.LaidTab
import Derived.Stop.LaidErr
import Derived.SevenTiedAt
import Derived.ProofKit
import Derived.OpenShut
import Derived.ShutString
namespace Go.Proofs.YtbamclepgabciaaDoor.Ai
open Go Go.Proofs Go.Stop Go.ChangeShapes Go.WideShapes Go.ChangeAt Go.RowKit
set_option linter.unusedVariables false
set_option linter.unusedSimpArgs false
set_option maxRecDepth 100000

theorem opensU8 : Opens Tryd.prog 5 1 cU8 (fun x => 0 ≤ x ∧ x ≤ 255) := opens_u8 Tryd.underlying5 cells5
theorem opensU8S : Opens Tryd.prog 22 1 (fun xs => [.isl 1 (rows cU8 xs)]) (fun xs => ∀ x ∈ xs, 0 ≤ x ∧ x ≤ 255) := opens_slice Tryd.underlying22 cells22 (by decide) opensU8


theorem ownFnFolds : ownKnob Tryd.prog.godebug = none := by kernel_rfl
theorem laidOutFnFolds : laidOutB Tryd.prog = true := by kernel_rfl

theorem gPowFnFolds : Tryd.prog.globalNamed "internal/strconv.uint64pow10" = some 0 := by kernel_rfl
theorem gPowTFnFolds : (Tryd.prog.globals[0]?).map (·.type) = some 153 := by kernel_rfl
/-- The door's own heap meets the condition. -/
theorem doorMetFnFolds (os : Os) (args : Array Value) : laidMetH Tryd.prog Rows.fnFoldsRow.laid ((World.doorLaid Tryd.prog 4000 os).forCall (fun _ _ => 0) ⟨#[], args, []⟩).memory :=
  laidMetH_of_parts3 (fuel := 8) (laidMet_of_run' 8 (by kernel_rfl) (by kernel_rfl)) (by kernel_rfl) (by kernel_rfl)
/-- What the condition gives: the table of powers of ten. -/
theorem powIsFnFolds {W : World} (h : laidMetH Tryd.prog Rows.fnFoldsRow.laid W) : Lib.TabIs Tryd.prog W "internal/strconv.uint64pow10" .u64 Lib.pow10Tab := by
  rw [MakeChecks.laidMetH_plain _ _ _ (by kernel_rfl)] at h
  have h' : laidMet Tryd.prog (("math/bits.deBruijn32tab", Rows.laid_math_bits_deBruijn32tab) :: ("math/bits.deBruijn64tab", Rows.laid_math_bits_deBruijn64tab) :: ("internal/strconv.uint64pow10", Lib.tabData .u64 Lib.pow10Tab) :: []) W := h
  exact Lib.tabIs_of_head gPowFnFolds gPowTFnFolds Tryd.underlying153 Tryd.underlying83 (by kernel_rfl) (by kernel_rfl) h'.tail.tail

set_option maxRecDepth 100000 in
theorem liftedFnFolds (os : Os) (started : os.Started) (H : Type) (enc : TypeId × Value → H) :
    ReturnsInHanded {} Tryd.checked os 4 .any (fun w args => (Rows.fnFoldsSpec.pre enc Tryd.prog Tryd.f4 [] false w args ∧ laidMetH Tryd.prog Rows.fnFoldsRow.laid w) ∧ sizedMet enc Tryd.prog Tryd.f4 (OpenSpec.ofChange Rows.fnFoldsSpec) false w args)
      (Rows.fnFoldsSpec.post enc Tryd.prog Tryd.f4 false true false false) := by
  refine returnsInHanded_of_change_and (C := Tryd.checked) (X := fun w _ => laidMetH Tryd.prog Rows.fnFoldsRow.laid w) (fun _ _ _ hh h => h.of_heap hh) ownFnFolds started (by kernel_rfl) Tryd.func4
    (ChangeSpec.witness_shaped (enc := enc) (C := Tryd.checked) (os := os) (X := fun w _ => laidMetH Tryd.prog Rows.fnFoldsRow.laid w) false (World.doorLaid Tryd.prog 4000 os) #[.slice none 0 0, .slice none 0 0] 8 rfl (World.shaped_of_RefB (by kernel_rfl) (by kernel_rfl)) (by kernel_rfl) (by kernel_rfl) (by kernel_rfl) (doorMetFnFolds os _)) ?_
  intro W base args ds gs before hval0 hW _ _ hL _
  have hval : ∀ (j : Nat) t v, Tryd.f4.params[j]? = some t → args[j]? = some v → Value.okWide Tryd.prog W .any base t v := hval0
  have hW' := hW
  obtain ⟨p, q, hA0, hV, rfl, hfz, hnd⟩ := hW
  have hA : DataW.TrodAll enc Tryd.prog W 0 (fun _ => true) true Tryd.f4.params.toList args.toList ds p := hA0
  rw [Tryd.params4] at hA hval
  obtain ⟨v0, vs0, d0, ds0, p0, q0, hargs, rfl, rfl, h0, r0⟩ := trodAll_cons hA
  obtain ⟨v1, vs1, d1, ds1, p1, q1, rfl, rfl, rfl, h1, r1⟩ := trodAll_cons r0
  obtain ⟨rfl, rfl, rfl⟩ := trodAll_nil r1
  obtain rfl : args = #[v0, v1] := by cases args; simp_all
  obtain ⟨rfl, rfl⟩ := trodVars_none hV
  have k0 := h0
  have lt0 : ∀ x ∈ p0, x.block < W.heap.size := by obtain ⟨m, hm⟩ := k0; exact DataW.trod_lt m _ _ _ hm
  obtain ⟨b0, l0, c0, rfl⟩ := okWide_slice Tryd.underlying22 (hval 0 22 v0 rfl rfl)
  obtain ⟨a0, w0, e0⟩ := arg_one (g := fun a => .isl _ (rows _ a)) opensU8S rfl h0
  have k1 := h1
  have lt1 : ∀ x ∈ p1, x.block < W.heap.size := by obtain ⟨m, hm⟩ := k1; exact DataW.trod_lt m _ _ _ hm
  obtain ⟨b1, l1, c1, rfl⟩ := okWide_slice Tryd.underlying22 (hval 1 22 v1 rfl rfl)
  obtain ⟨a1, w1, e1⟩ := arg_one (g := fun a => .isl _ (rows _ a)) opensU8S rfl h1
  clear hA0 hval0
  refine ((lawFolds_ok a0 a1 w0 w1).2 W (fun k => k < W.heap.size) _ ⟨fun _ h => h, W.heap.size, Nat.le_refl _, Lib.tabBelow_of_tabIs (powIsFnFolds hL)⟩ (All2.cons e0 (All2.cons e1 All2.nil))).mono ?_
  rintro e W' ⟨v, r, gs', rfl, rfl, bel, hr⟩
  have hv : v = .bool true := by
    obtain ⟨-, -, hr⟩ := hr
    cases hr with
    | one hr => cases hr with
      | imm hr => cases hr; rfl
  subst hv
  exact ⟨_, rfl, _, _, _, [], _, [], hW', trodAll_mk1 (shut_bool Tryd.underlying4 _), (trodAll_cons_mk (Below.trod laidOutFnFolds (by kernel_rfl) (of_decide_eq_true (by kernel_rfl)) k0 bel lt0) (trodAll_cons_mk (Below.trod laidOutFnFolds (by kernel_rfl) (of_decide_eq_true (by kernel_rfl)) k1 bel lt1) trodAll_mk0)), rfl, bel.frame _, fun h => by cases h⟩

theorem and2FnFolds {a b : Bool} (ha : a = true) (hb : b = true) : (a && b) = true := by rw [ha, hb]; rfl
theorem z0FnFolds : (Rows.fnFoldsRow.wf (OpenSpec.ofChange Rows.fnFoldsSpec)) = true := by kernel_rfl
theorem z1FnFolds : (laidOutB Tryd.pinned.checked.prog) = true := by kernel_rfl
theorem z2FnFolds : (mapsRowed Tryd.pinned.checked.prog) = true := by kernel_rfl
theorem z3FnFolds : (Tryd.f4.params.all (Tryd.pinned.checked.prog.readableRec ·)) = true := by kernel_rfl
theorem z4FnFolds : (namedTie Tryd.pinned.checked.prog Rows.fnFoldsRow.named Rows.fnFoldsSpec.vars) = true := by kernel_rfl
theorem z5FnFolds : ((Rows.fnFoldsRow.stops == [])) = true := by kernel_rfl
theorem z6FnFolds : ((Tryd.pinned.checked.prog.stops == [])) = true := by kernel_rfl
theorem z7FnFolds : ((Rows.fnFoldsRow.knobs == [])) = true := by kernel_rfl
theorem z8FnFolds : ((Tryd.pinned.checked.prog.stopKnobs == [])) = true := by kernel_rfl
theorem z9FnFolds : ((Rows.fnFoldsRow.inPlace == Tryd.pinned.checked.prog.inPlace 4)) = true := by kernel_rfl
theorem z10FnFolds : ((Rows.fnFoldsRow.unfollowed == Tryd.pinned.checked.prog.unfollowed 4)) = true := by kernel_rfl
theorem z11FnFolds : ((Rows.fnFoldsRow.recurses == Tryd.pinned.checked.prog.recurses 4)) = true := by kernel_rfl
theorem z12FnFolds : ((Rows.fnFoldsRow.named == Tryd.pinned.checked.prog.varsNamed 4)) = true := by kernel_rfl
theorem z13FnFolds : ((Rows.fnFoldsRow.maps == (Tryd.f4.params.toList ++ Rows.fnFoldsSpec.plain.varTypes Tryd.pinned.checked.prog).any (Tryd.pinned.checked.prog.mapsRec ·))) = true := by kernel_rfl
theorem z14FnFolds : ((Rows.fnFoldsRow.ifaces == (Tryd.f4.params.toList ++ Rows.fnFoldsSpec.plain.varTypes Tryd.pinned.checked.prog).any (Tryd.pinned.checked.prog.ifacesRec ·))) = true := by kernel_rfl
theorem z15FnFolds : ((Rows.fnFoldsRow.mapsOut == Tryd.pinned.checked.prog.mapsAmong Tryd.f4.resultTypes.toList)) = true := by kernel_rfl
theorem z16FnFolds : ((Rows.fnFoldsRow.loops == (Tryd.f4.params.toList ++ Rows.fnFoldsSpec.plain.varTypes Tryd.pinned.checked.prog).any (Tryd.pinned.checked.prog.loopsFrom ·))) = true := by kernel_rfl
theorem z17FnFolds : ((Rows.fnFoldsRow.wideKeys == (Tryd.f4.params.toList ++ Rows.fnFoldsSpec.plain.varTypes Tryd.pinned.checked.prog ++ Tryd.f4.resultTypes.toList).any (Tryd.pinned.checked.prog.wideKeysFrom ·))) = true := by kernel_rfl
theorem z18FnFolds : (Rows.fnFoldsSpec.vars.all (Tryd.pinned.checked.prog.varReadable ·)) = true := by kernel_rfl
theorem z19FnFolds : (Tryd.f4.resultTypes.all (fun t => Tryd.pinned.checked.prog.readableRec t && decide (t < Tryd.pinned.checked.prog.types.size))) = true := by kernel_rfl
theorem z20FnFolds : ((Rows.fnFoldsRow.ifacesOut == Tryd.f4.resultTypes.toList.any (Tryd.pinned.checked.prog.ifacesRec ·))) = true := by kernel_rfl
theorem z21FnFolds : ((Rows.fnFoldsRow.loopsOut == Tryd.f4.resultTypes.toList.any (Tryd.pinned.checked.prog.loopsFrom ·))) = true := by kernel_rfl
theorem z22FnFolds : ((Rows.fnFoldsRow.plainKeys == Tryd.pinned.checked.prog.plainKeys)) = true := by kernel_rfl
theorem z23FnFolds : (Rows.fnFoldsRow.shortTexts.isNone) = true := by kernel_rfl
theorem z24FnFolds : (Tryd.pinned.checked.prog.stopsHeard) = true := by kernel_rfl
theorem z25FnFolds : (Tryd.pinned.checked.prog.mayEnter) = true := by kernel_rfl
theorem z26FnFolds : ((Rows.fnFoldsRow.lifted == Tryd.pinned.checked.prog.liftsFinal)) = true := by kernel_rfl
theorem z27FnFolds : ((Tryd.pinned.checked.prog.make == some Rows.fnFoldsRow.make)) = true := by kernel_rfl
theorem z28FnFolds : ((Rows.fnFoldsRow.kinds == (if Rows.fnFoldsRow.domain.isEmpty then [] else Tryd.f4.params.toList.map fun t => match Tryd.pinned.checked.prog.underlying t with | some (.int k) => some k | _ => none))) = true := by kernel_rfl
theorem z29FnFolds : ((Rows.fnFoldsRow.pinned == Rows.fnFoldsRow.pinnedBy)) = true := by kernel_rfl
theorem z30FnFolds : ((Rows.fnFoldsRow.veiled == (Tryd.f4.params.toList ++ Rows.fnFoldsSpec.plain.varTypes Tryd.pinned.checked.prog ++ Tryd.f4.resultTypes.toList).any (Tryd.pinned.checked.prog.veiledRec ·))) = true := by kernel_rfl
theorem z31FnFolds : (Rows.fnFoldsRow.veiledFits Tryd.pinned.checked.prog Tryd.f4.params.toList (Tryd.f4.params.toList ++ Rows.fnFoldsSpec.plain.varTypes Tryd.pinned.checked.prog ++ Tryd.f4.resultTypes.toList)) = true := by kernel_rfl
theorem closedFnFolds : joinedFacts Tryd.pinned.checked.prog 4 Tryd.f4 Rows.fnFoldsSpec Rows.fnFoldsRow = true := (and2FnFolds (and2FnFolds (and2FnFolds (and2FnFolds (and2FnFolds (and2FnFolds (and2FnFolds (and2FnFolds (and2FnFolds (and2FnFolds (and2FnFolds (and2FnFolds (and2FnFolds (and2FnFolds (and2FnFolds (and2FnFolds (and2FnFolds (and2FnFolds (and2FnFolds (and2FnFolds (and2FnFolds (and2FnFolds (and2FnFolds (and2FnFolds (and2FnFolds (and2FnFolds (and2FnFolds (and2FnFolds (and2FnFolds (and2FnFolds (and2FnFolds z0FnFolds z1FnFolds) z2FnFolds) z3FnFolds) z4FnFolds) z5FnFolds) z6FnFolds) z7FnFolds) z8FnFolds) z9FnFolds) z10FnFolds) z11FnFolds) z12FnFolds) z13FnFolds) z14FnFolds) z15FnFolds) z16FnFolds) z17FnFolds) z18FnFolds) z19FnFolds) z20FnFolds) z21FnFolds) z22FnFolds) z23FnFolds) z24FnFolds) z25FnFolds) z26FnFolds) z27FnFolds) z28FnFolds) z29FnFolds) z30FnFolds) z31FnFolds)
theorem namedFnFolds : Tryd.pinned.checked.prog.funcNamed Rows.fnFoldsRow.func = some 4 := by kernel_rfl

theorem overFnFolds : Rows.fnFoldsRow.holds Tryd.pinned (OpenSpec.ofChange Rows.fnFoldsSpec) :=
  OpenClaim.holds_of_wide 4 Tryd.f4 rfl rfl rfl rfl rfl rfl rfl ⟨rfl, rfl, rfl, rfl, rfl⟩ rfl rfl rfl rfl rfl namedFnFolds Tryd.func4 closedFnFolds
    (of_decide_eq_true (by kernel_rfl)) (by unfold Func.isWrapper; first | (rw [if_pos (by decide +kernel)]; kernel_rfl) | (rw [if_neg (by decide +kernel)]; exact ⟨rfl, rfl⟩))
    (fun os started H enc _ => liftedFnFolds os started H enc)

/-- The card: the row, its listed variables tied to the program's text. -/
theorem provedFnFolds : Rows.FnFoldsCardSaid :=
  Claim7.holds_tied_plain_at .later [] [.data, .data, .data] true (true, "a5cb98414faac5f05979639d1dc2f59e2e7a9fd4d3df39a3fa25cbcdbf49b9d6") false
    overFnFolds (fun _ h => by cases h) (by kernel_rfl) (fun _ h => by cases h) fnFolds_row_tie rfl ⟨rfl, rfl⟩ (by kernel_rfl) rfl
    (fun f fn hf hfn => by
      obtain rfl : f = 4 := Option.some.inj ((show Tryd.prog.funcNamed "loop.example/g01054/laws.FnFolds" = some 4 by kernel_rfl).symm.trans hf) |>.symm
      obtain rfl : fn = Tryd.f4 := (Option.some.inj (Tryd.func4.symm.trans hfn)).symm
      exact ⟨by kernel_rfl, fun j t ht => by
        rw [Tryd.params4] at ht
        have hm := Array.mem_of_getElem? ht
        have hall : (Tryd.f4.params.toList.all fun u => !Tryd.prog.wantsStandIn u) = true := by kernel_rfl
        have hm' : t ∈ Tryd.f4.params.toList := by rw [Tryd.params4]; simpa using hm
        exact (show Tryd.prog.wantsStandIn t = false by simpa using List.all_eq_true.1 hall t hm')⟩)
    (by kernel_rfl)
#print axioms provedFnFolds

end Go.Proofs.YtbamclepgabciaaDoor.Ai
