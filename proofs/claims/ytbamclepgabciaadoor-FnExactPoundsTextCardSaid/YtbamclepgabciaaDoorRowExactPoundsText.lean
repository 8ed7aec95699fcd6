/- Proved: for every input the law FnExactPoundsText returns true, and each argument reads afterwards as it read before. Conditions: none. -/
import Derived.Test.YtbamclepgabciaaDoorRows
import Derived.Test.YtbamclepgabciaaDoorAiOpen
import Derived.Test.YtbamclepgabciaaDoorLawExactPoundsText
import Derived.Test.YtbamclepgabciaaDoorCards
import Derived.Test.YtbamclepgabciaaDoorTie
import Derived.LaidMore
import Derived.Lib.LaidTab
import Derived.Stop.LaidErr
import Derived.SevenTiedAt
import Derived.ProofKit
import Derived.OpenShut
import Derived.ShutString
namespace Go.Proofs.YtbamclepgabciaaDoor.Ai
open Go Go.Proofs Go.Stop Go.ChangeShapes Go.WideShapes Go.ChangeAt Go.RowKit
set_option linter.unusedVariables false
set_option maxRecDepth 100000

theorem ownFnExactPoundsText : ownKnob Tryd.prog.godebug = none := by kernel_rfl
theorem laidOutFnExactPoundsText : laidOutB Tryd.prog = true := by kernel_rfl

theorem gPowFnExactPoundsText : Tryd.prog.globalNamed "internal/strconv.uint64pow10" = some 0 := by kernel_rfl
theorem gPowTFnExactPoundsText : (Tryd.prog.globals[0]?).map (·.type) = some 153 := by kernel_rfl
/-- The door's own heap meets the condition. -/
theorem doorMetFnExactPoundsText (os : Os) (args : Array Value) : laidMetH Tryd.prog Rows.fnExactPoundsTextRow.laid ((World.doorLaid Tryd.prog 4000 os).forCall (fun _ _ => 0) ⟨#[], args, []⟩).memory :=
  laidMetH_of_parts3 (fuel := 8) (laidMet_of_run' 8 (by kernel_rfl) (by kernel_rfl)) (by kernel_rfl) (by kernel_rfl)
/-- What the condition gives: the table of powers of ten. -/
theorem powIsFnExactPoundsText {W : World} (h : laidMetH Tryd.prog Rows.fnExactPoundsTextRow.laid W) : Lib.TabIs Tryd.prog W "internal/strconv.uint64pow10" .u64 Lib.pow10Tab := by
  rw [MakeChecks.laidMetH_plain _ _ _ (by kernel_rfl)] at h
  have h' : laidMet Tryd.prog (("math/bits.deBruijn32tab", Rows.laid_math_bits_deBruijn32tab) :: ("math/bits.deBruijn64tab", Rows.laid_math_bits_deBruijn64tab) :: ("internal/strconv.uint64pow10", Lib.tabData .u64 Lib.pow10Tab) :: []) W := h
  exact Lib.tabIs_of_head gPowFnExactPoundsText gPowTFnExactPoundsText Tryd.underlying153 Tryd.underlying83 (by kernel_rfl) (by kernel_rfl) h'.tail.tail

set_option maxRecDepth 100000 in
theorem liftedFnExactPoundsText (os : Os) (started : os.Started) (H : Type) (enc : TypeId × Value → H) :
    ReturnsInHanded {} Tryd.checked os 7 .any (fun w args => (Rows.fnExactPoundsTextSpec.pre enc Tryd.prog Tryd.f7 [] false w args ∧ laidMetH Tryd.prog Rows.fnExactPoundsTextRow.laid w) ∧ sizedMet enc Tryd.prog Tryd.f7 (OpenSpec.ofChange Rows.fnExactPoundsTextSpec) false w args)
      (Rows.fnExactPoundsTextSpec.post enc Tryd.prog Tryd.f7 false true false false) := by
  refine returnsInHanded_of_change_and (C := Tryd.checked) (X := fun w _ => laidMetH Tryd.prog Rows.fnExactPoundsTextRow.laid w) (fun _ _ _ hh h => h.of_heap hh) ownFnExactPoundsText started (by kernel_rfl) Tryd.func7
    (ChangeSpec.witness_shaped (enc := enc) (C := Tryd.checked) (os := os) (X := fun w _ => laidMetH Tryd.prog Rows.fnExactPoundsTextRow.laid w) false (World.doorLaid Tryd.prog 4000 os) #[.int .i64 0] 8 rfl (World.shaped_of_RefB (by kernel_rfl) (by kernel_rfl)) (by kernel_rfl) (by kernel_rfl) (by kernel_rfl) (doorMetFnExactPoundsText os _)) ?_
  intro W base args ds gs before hval0 hW _ _ hL _
  have hval : ∀ (j : Nat) t v, Tryd.f7.params[j]? = some t → args[j]? = some v → Value.okWide Tryd.prog W .any base t v := hval0
  have hW' := hW
  obtain ⟨p, q, hA0, hV, rfl, hfz, hnd⟩ := hW
  have hA : DataW.TrodAll enc Tryd.prog W 0 (fun _ => true) true Tryd.f7.params.toList args.toList ds p := hA0
  rw [Tryd.params7] at hA hval
  obtain ⟨v0, vs0, d0, ds0, p0, q0, hargs, rfl, rfl, h0, r0⟩ := trodAll_cons hA
  obtain ⟨rfl, rfl, rfl⟩ := trodAll_nil r0
  obtain rfl : args = #[v0] := by cases args; simp_all
  obtain ⟨rfl, rfl⟩ := trodVars_none hV
  have k0 := h0
  have lt0 : ∀ x ∈ p0, x.block < W.heap.size := by obtain ⟨m, hm⟩ := k0; exact DataW.trod_lt m _ _ _ hm
  obtain ⟨b0, rfl⟩ := okWide_int Tryd.underlying3 (hval 0 3 v0 rfl rfl)
  obtain ⟨a0, w0, e0⟩ := arg_one (g := fun a => .int .i64 a) (opens_int Tryd.underlying3 (by kernel_rfl)) rfl h0
  clear hA0 hval0
  refine ((lawExactPoundsText_ok a0).2 W (fun k => k < W.heap.size) _ ⟨fun _ h => h, W.heap.size, Nat.le_refl _, Lib.tabBelow_of_tabIs (powIsFnExactPoundsText hL)⟩ (All2.cons e0 All2.nil)).mono ?_
  rintro e W' ⟨v, r, gs', rfl, rfl, bel, hr⟩
  have hv : v = .bool true := by
    obtain ⟨-, -, hr⟩ := hr
    cases hr with
    | one hr => cases hr with
      | imm hr => cases hr; rfl
  subst hv
  exact ⟨_, rfl, _, _, _, [], _, [], hW', trodAll_mk1 (shut_bool Tryd.underlying4 _), (trodAll_cons_mk (Below.trod laidOutFnExactPoundsText (by kernel_rfl) (of_decide_eq_true (by kernel_rfl)) k0 bel lt0) trodAll_mk0), rfl, bel.frame _, fun h => by cases h⟩

theorem and2FnExactPoundsText {a b : Bool} (ha : a = true) (hb : b = true) : (a && b) = true := by rw [ha, hb]; rfl
theorem z0FnExactPoundsText : (Rows.fnExactPoundsTextRow.wf (OpenSpec.ofChange Rows.fnExactPoundsTextSpec)) = true := by kernel_rfl
theorem z1FnExactPoundsText : (laidOutB Tryd.pinned.checked.prog) = true := by kernel_rfl
theorem z2FnExactPoundsText : (mapsRowed Tryd.pinned.checked.prog) = true := by kernel_rfl
theorem z3FnExactPoundsText : (Tryd.f7.params.all (Tryd.pinned.checked.prog.readableRec ·)) = true := by kernel_rfl
theorem z4FnExactPoundsText : (namedTie Tryd.pinned.checked.prog Rows.fnExactPoundsTextRow.named Rows.fnExactPoundsTextSpec.vars) = true := by kernel_rfl
theorem z5FnExactPoundsText : ((Rows.fnExactPoundsTextRow.stops == [])) = true := by kernel_rfl
theorem z6FnExactPoundsText : ((Tryd.pinned.checked.prog.stops == [])) = true := by kernel_rfl
theorem z7FnExactPoundsText : ((Rows.fnExactPoundsTextRow.knobs == [])) = true := by kernel_rfl
theorem z8FnExactPoundsText : ((Tryd.pinned.checked.prog.stopKnobs == [])) = true := by kernel_rfl
theorem z9FnExactPoundsText : ((Rows.fnExactPoundsTextRow.inPlace == Tryd.pinned.checked.prog.inPlace 7)) = true := by kernel_rfl
theorem z10FnExactPoundsText : ((Rows.fnExactPoundsTextRow.unfollowed == Tryd.pinned.checked.prog.unfollowed 7)) = true := by kernel_rfl
theorem z11FnExactPoundsText : ((Rows.fnExactPoundsTextRow.recurses == Tryd.pinned.checked.prog.recurses 7)) = true := by kernel_rfl
theorem z12FnExactPoundsText : ((Rows.fnExactPoundsTextRow.named == Tryd.pinned.checked.prog.varsNamed 7)) = true := by kernel_rfl
theorem z13FnExactPoundsText : ((Rows.fnExactPoundsTextRow.maps == (Tryd.f7.params.toList ++ Rows.fnExactPoundsTextSpec.plain.varTypes Tryd.pinned.checked.prog).any (Tryd.pinned.checked.prog.mapsRec ·))) = true := by kernel_rfl
theorem z14FnExactPoundsText : ((Rows.fnExactPoundsTextRow.ifaces == (Tryd.f7.params.toList ++ Rows.fnExactPoundsTextSpec.plain.varTypes Tryd.pinned.checked.prog).any (Tryd.pinned.checked.prog.ifacesRec ·))) = true := by kernel_rfl
theorem z15FnExactPoundsText : ((Rows.fnExactPoundsTextRow.mapsOut == Tryd.pinned.checked.prog.mapsAmong Tryd.f7.resultTypes.toList)) = true := by kernel_rfl
theorem z16FnExactPoundsText : ((Rows.fnExactPoundsTextRow.loops == (Tryd.f7.params.toList ++ Rows.fnExactPoundsTextSpec.plain.varTypes Tryd.pinned.checked.prog).any (Tryd.pinned.checked.prog.loopsFrom ·))) = true := by kernel_rfl
theorem z17FnExactPoundsText : ((Rows.fnExactPoundsTextRow.wideKeys == (Tryd.f7.params.toList ++ Rows.fnExactPoundsTextSpec.plain.varTypes Tryd.pinned.checked.prog ++ Tryd.f7.resultTypes.toList).any (Tryd.pinned.checked.prog.wideKeysFrom ·))) = true := by kernel_rfl
theorem z18FnExactPoundsText : (Rows.fnExactPoundsTextSpec.vars.all (Tryd.pinned.checked.prog.varReadable ·)) = true := by kernel_rfl
theorem z19FnExactPoundsText : (Tryd.f7.resultTypes.all (fun t => Tryd.pinned.checked.prog.readableRec t && decide (t < Tryd.pinned.checked.prog.types.size))) = true := by kernel_rfl
theorem z20FnExactPoundsText : ((Rows.fnExactPoundsTextRow.ifacesOut == Tryd.f7.resultTypes.toList.any (Tryd.pinned.checked.prog.ifacesRec ·))) = true := by kernel_rfl
theorem z21FnExactPoundsText : ((Rows.fnExactPoundsTextRow.loopsOut == Tryd.f7.resultTypes.toList.any (Tryd.pinned.checked.prog.loopsFrom ·))) = true := by kernel_rfl
theorem z22FnExactPoundsText : ((Rows.fnExactPoundsTextRow.plainKeys == Tryd.pinned.checked.prog.plainKeys)) = true := by kernel_rfl
theorem z23FnExactPoundsText : (Rows.fnExactPoundsTextRow.shortTexts.isNone) = true := by kernel_rfl
theorem z24FnExactPoundsText : (Tryd.pinned.checked.prog.stopsHeard) = true := by kernel_rfl
theorem z25FnExactPoundsText : (Tryd.pinned.checked.prog.mayEnter) = true := by kernel_rfl
theorem z26FnExactPoundsText : ((Rows.fnExactPoundsTextRow.lifted == Tryd.pinned.checked.prog.liftsFinal)) = true := by kernel_rfl
theorem z27FnExactPoundsText : ((Tryd.pinned.checked.prog.make == some Rows.fnExactPoundsTextRow.make)) = true := by kernel_rfl
theorem z28FnExactPoundsText : ((Rows.fnExactPoundsTextRow.kinds == (if Rows.fnExactPoundsTextRow.domain.isEmpty then [] else Tryd.f7.params.toList.map fun t => match Tryd.pinned.checked.prog.underlying t with | some (.int k) => some k | _ => none))) = true := by kernel_rfl
theorem z29FnExactPoundsText : ((Rows.fnExactPoundsTextRow.pinned == Rows.fnExactPoundsTextRow.pinnedBy)) = true := by kernel_rfl
theorem z30FnExactPoundsText : ((Rows.fnExactPoundsTextRow.veiled == (Tryd.f7.params.toList ++ Rows.fnExactPoundsTextSpec.plain.varTypes Tryd.pinned.checked.prog ++ Tryd.f7.resultTypes.toList).any (Tryd.pinned.checked.prog.veiledRec ·))) = true := by kernel_rfl
theorem z31FnExactPoundsText : (Rows.fnExactPoundsTextRow.veiledFits Tryd.pinned.checked.prog Tryd.f7.params.toList (Tryd.f7.params.toList ++ Rows.fnExactPoundsTextSpec.plain.varTypes Tryd.pinned.checked.prog ++ Tryd.f7.resultTypes.toList)) = true := by kernel_rfl
theorem closedFnExactPoundsText : joinedFacts Tryd.pinned.checked.prog 7 Tryd.f7 Rows.fnExactPoundsTextSpec Rows.fnExactPoundsTextRow = true := (and2FnExactPoundsText (and2FnExactPoundsText (and2FnExactPoundsText (and2FnExactPoundsText (and2FnExactPoundsText (and2FnExactPoundsText (and2FnExactPoundsText (and2FnExactPoundsText (and2FnExactPoundsText (and2FnExactPoundsText (and2FnExactPoundsText (and2FnExactPoundsText (and2FnExactPoundsText (and2FnExactPoundsText (and2FnExactPoundsText (and2FnExactPoundsText (and2FnExactPoundsText (and2FnExactPoundsText (and2FnExactPoundsText (and2FnExactPoundsText (and2FnExactPoundsText (and2FnExactPoundsText (and2FnExactPoundsText (and2FnExactPoundsText (and2FnExactPoundsText (and2FnExactPoundsText (and2FnExactPoundsText (and2FnExactPoundsText (and2FnExactPoundsText (and2FnExactPoundsText (and2FnExactPoundsText z0FnExactPoundsText z1FnExactPoundsText) z2FnExactPoundsText) z3FnExactPoundsText) z4FnExactPoundsText) z5FnExactPoundsText) z6FnExactPoundsText) z7FnExactPoundsText) z8FnExactPoundsText) z9FnExactPoundsText) z10FnExactPoundsText) z11FnExactPoundsText) z12FnExactPoundsText) z13FnExactPoundsText) z14FnExactPoundsText) z15FnExactPoundsText) z16FnExactPoundsText) z17FnExactPoundsText) z18FnExactPoundsText) z19FnExactPoundsText) z20FnExactPoundsText) z21FnExactPoundsText) z22FnExactPoundsText) z23FnExactPoundsText) z24FnExactPoundsText) z25FnExactPoundsText) z26FnExactPoundsText) z27FnExactPoundsText) z28FnExactPoundsText) z29FnExactPoundsText) z30FnExactPoundsText) z31FnExactPoundsText)
theorem namedFnExactPoundsText : Tryd.pinned.checked.prog.funcNamed Rows.fnExactPoundsTextRow.func = some 7 := by kernel_rfl

theorem overFnExactPoundsText : Rows.fnExactPoundsTextRow.holds Tryd.pinned (OpenSpec.ofChange Rows.fnExactPoundsTextSpec) :=
  OpenClaim.holds_of_wide 7 Tryd.f7 rfl rfl rfl rfl rfl rfl rfl ⟨rfl, rfl, rfl, rfl, rfl⟩ rfl rfl rfl rfl rfl namedFnExactPoundsText Tryd.func7 closedFnExactPoundsText
    (of_decide_eq_true (by kernel_rfl)) (by unfold Func.isWrapper; first | (rw [if_pos (by decide +kernel)]; kernel_rfl) | (rw [if_neg (by decide +kernel)]; exact ⟨rfl, rfl⟩))
    (fun os started H enc _ => liftedFnExactPoundsText os started H enc)

/-- The card: the row, its listed variables tied to the program's text. -/
theorem provedFnExactPoundsText : Rows.FnExactPoundsTextCardSaid :=
  Claim7.holds_tied_plain_at .later [] [.data, .data, .data] true (true, "a5cb98414faac5f05979639d1dc2f59e2e7a9fd4d3df39a3fa25cbcdbf49b9d6") false
    overFnExactPoundsText (fun _ h => by cases h) (by kernel_rfl) (fun _ h => by cases h) fnExactPoundsText_row_tie rfl ⟨rfl, rfl⟩ (by kernel_rfl) rfl
    (fun f fn hf hfn => by
      obtain rfl : f = 7 := Option.some.inj ((show Tryd.prog.funcNamed "loop.example/g01054/laws.FnExactPoundsText" = some 7 by kernel_rfl).symm.trans hf) |>.symm
      obtain rfl : fn = Tryd.f7 := (Option.some.inj (Tryd.func7.symm.trans hfn)).symm
      exact ⟨by kernel_rfl, fun j t ht => by
        rw [Tryd.params7] at ht
        have hm := Array.mem_of_getElem? ht
        have hall : (Tryd.f7.params.toList.all fun u => !Tryd.prog.wantsStandIn u) = true := by kernel_rfl
        have hm' : t ∈ Tryd.f7.params.toList := by rw [Tryd.params7]; simpa using hm
        exact (show Tryd.prog.wantsStandIn t = false by simpa using List.all_eq_true.1 hall t hm')⟩)
    (by kernel_rfl)
#print axioms provedFnExactPoundsText
end Go.Proofs.YtbamclepgabciaaDoor.Ai
