/- Proved: for every input the law FnSpaceStocks returns true, and each argument reads afterwards as it read before. Conditions: none. -/
import Derived.Test.YtbamclepgabciaaDoorAiOpen
import Derived.Test.YtbamclepgabciaaDoorAiTypes
import Derived.Test.YtbamclepgabciaaDoorRows
import Derived.Test.YtbamclepgabciaaDoorLawSpaceStocks
import Derived.Test.YtbamclepgabciaaDoorCards
import Derived.Test.YtbamclepgabciaaDoorTie
import Derived.LaidMore
import Derived.Lib.LaidTab
import Derived.Stop.LaidErr
import Derived.SevenTiedAt
import Derived.ProofKit
import Derived.OpenShut
import Derived.ShutString
namespace Go.Proofs.YtbamclepgabciaaDoor.Ai
open Go Go.Proofs Go.Stop Go.ChangeShapes Go.WideShapes Go.ChangeAt Go.RowKit
set_option linter.unusedVariables false
set_option linter.unusedSimpArgs false
set_option maxRecDepth 100000

theorem opensU8 : Opens Tryd.prog 5 1 cU8 (fun x => 0 ≤ x ∧ x ≤ 255) := opens_u8 Tryd.underlying5 cells5
theorem opensU8S : Opens Tryd.prog 22 1 (fun xs => [.isl 1 (rows cU8 xs)]) (fun xs => ∀ x ∈ xs, 0 ≤ x ∧ x ≤ 255) := opens_slice Tryd.underlying22 cells22 (by decide) opensU8


theorem ownFnSpaceStocks : ownKnob Tryd.prog.godebug = none := by kernel_rfl
theorem laidOutFnSpaceStocks : laidOutB Tryd.prog = true := by kernel_rfl

theorem gPowFnSpaceStocks : Tryd.prog.globalNamed "internal/strconv.uint64pow10" = some 0 := by kernel_rfl
theorem gPowTFnSpaceStocks : (Tryd.prog.globals[0]?).map (·.type) = some 153 := by kernel_rfl
/-- The door's own heap meets the condition. -/
theorem doorMetFnSpaceStocks (os : Os) (args : Array Value) : laidMetH Tryd.prog Rows.fnSpaceStocksRow.laid ((World.doorLaid Tryd.prog 4000 os).forCall (fun _ _ => 0) ⟨#[], args, []⟩).memory :=
  laidMetH_of_parts3 (fuel := 8) (laidMet_of_run' 8 (by kernel_rfl) (by kernel_rfl)) (by kernel_rfl) (by kernel_rfl)
/-- What the condition gives: the table of powers of ten. -/
theorem powIsFnSpaceStocks {W : World} (h : laidMetH Tryd.prog Rows.fnSpaceStocksRow.laid W) : Lib.TabIs Tryd.prog W "internal/strconv.uint64pow10" .u64 Lib.pow10Tab := by
  rw [MakeChecks.laidMetH_plain _ _ _ (by kernel_rfl)] at h
  have h' : laidMet Tryd.prog (("math/bits.deBruijn32tab", Rows.laid_math_bits_deBruijn32tab) :: ("math/bits.deBruijn64tab", Rows.laid_math_bits_deBruijn64tab) :: ("internal/strconv.uint64pow10", Lib.tabData .u64 Lib.pow10Tab) :: []) W := h
  exact Lib.tabIs_of_head gPowFnSpaceStocks gPowTFnSpaceStocks Tryd.underlying153 Tryd.underlying83 (by kernel_rfl) (by kernel_rfl) h'.tail.tail

set_option maxRecDepth 100000 in
theorem liftedFnSpaceStocks (os : Os) (started : os.Started) (H : Type) (enc : TypeId × Value → H) :
    ReturnsInHanded {} Tryd.checked os 6 .any (fun w args => (Rows.fnSpaceStocksSpec.pre enc Tryd.prog Tryd.f6 [] false w args ∧ laidMetH Tryd.prog Rows.fnSpaceStocksRow.laid w) ∧ sizedMet enc Tryd.prog Tryd.f6 (OpenSpec.ofChange Rows.fnSpaceStocksSpec) false w args)
      (Rows.fnSpaceStocksSpec.post enc Tryd.prog Tryd.f6 false true false false) := by
  refine returnsInHanded_of_change_and (C := Tryd.checked) (X := fun w _ => laidMetH Tryd.prog Rows.fnSpaceStocksRow.laid w) (fun _ _ _ hh h => h.of_heap hh) ownFnSpaceStocks started (by kernel_rfl) Tryd.func6
    (ChangeSpec.witness_shaped (enc := enc) (C := Tryd.checked) (os := os) (X := fun w _ => laidMetH Tryd.prog Rows.fnSpaceStocksRow.laid w) false (World.doorLaid Tryd.prog 4000 os) #[.slice none 0 0, .slice none 0 0] 8 rfl (World.shaped_of_RefB (by kernel_rfl) (by kernel_rfl)) (by kernel_rfl) (by kernel_rfl) (by kernel_rfl) (doorMetFnSpaceStocks os _)) ?_
  intro W base args ds gs before hval0 hW _ _ hL _
  have hval : ∀ (j : Nat) t v, Tryd.f6.params[j]? = some t → args[j]? = some v → Value.okWide Tryd.prog W .any base t v := hval0
  have hW' := hW
  obtain ⟨p, q, hA0, hV, rfl, hfz, hnd⟩ := hW
  have hA : DataW.TrodAll enc Tryd.prog W 0 (fun _ => true) true Tryd.f6.params.toList args.toList ds p := hA0
  rw [Tryd.params6] at hA hval
  obtain ⟨v0, vs0, d0, ds0, p0, q0, hargs, rfl, rfl, h0, r0⟩ := trodAll_cons hA
  obtain ⟨v1, vs1, d1, ds1, p1, q1, rfl, rfl, rfl, h1, r1⟩ := trodAll_cons r0
  obtain ⟨rfl, rfl, rfl⟩ := trodAll_nil r1
  obtain rfl : args = #[v0, v1] := by cases args; simp_all
  obtain ⟨rfl, rfl⟩ := trodVars_none hV
  have k0 := h0
  have lt0 : ∀ x ∈ p0, x.block < W.heap.size := by obtain ⟨m, hm⟩ := k0; exact DataW.trod_lt m _ _ _ hm
  obtain ⟨b0, l0, c0, rfl⟩ := okWide_slice Tryd.underlying22 (hval 0 22 v0 rfl rfl)
  obtain ⟨a0, w0, e0⟩ := arg_one (g := fun a => .isl _ (rows _ a)) opensU8S rfl h0
  have k1 := h1
  have lt1 : ∀ x ∈ p1, x.block < W.heap.size := by obtain ⟨m, hm⟩ := k1; exact DataW.trod_lt m _ _ _ hm
  obtain ⟨b1, l1, c1, rfl⟩ := okWide_slice Tryd.underlying22 (hval 1 22 v1 rfl rfl)
  obtain ⟨a1, w1, e1⟩ := arg_one (g := fun a => .isl _ (rows _ a)) opensU8S rfl h1
  clear hA0 hval0
  refine ((lawSpaceStocks_ok a0 a1 w0 w1).2 W (fun k => k < W.heap.size) _ ⟨fun _ h => h, W.heap.size, Nat.le_refl _, Lib.tabBelow_of_tabIs (powIsFnSpaceStocks hL)⟩ (All2.cons e0 (All2.cons e1 All2.nil))).mono ?_
  rintro e W' ⟨v, r, gs', rfl, rfl, bel, hr⟩
  have hv : v = .bool true := by
    obtain ⟨-, -, hr⟩ := hr
    cases hr with
    | one hr => cases hr with
      | imm hr => cases hr; rfl
  subst hv
  exact ⟨_, rfl, _, _, _, [], _, [], hW', trodAll_mk1 (shut_bool Tryd.underlying4 _), (trodAll_cons_mk (Below.trod laidOutFnSpaceStocks (by kernel_rfl) (of_decide_eq_true (by kernel_rfl)) k0 bel lt0) (trodAll_cons_mk (Below.trod laidOutFnSpaceStocks (by kernel_rfl) (of_decide_eq_true (by kernel_rfl)) k1 bel lt1) trodAll_mk0)), rfl, bel.frame _, fun h => by cases h⟩

theorem and2FnSpaceStocks {a b : Bool} (ha : a = true) (hb : b = true) : (a && b) = true := by rw [ha, hb]; rfl
theorem z0FnSpaceStocks : (Rows.fnSpaceStocksRow.wf (OpenSpec.ofChange Rows.fnSpaceStocksSpec)) = true := by kernel_rfl
theorem z1FnSpaceStocks : (laidOutB Tryd.pinned.checked.prog) = true := by kernel_rfl
theorem z2FnSpaceStocks : (mapsRowed Tryd.pinned.checked.prog) = true := by kernel_rfl
theorem z3FnSpaceStocks : (Tryd.f6.params.all (Tryd.pinned.checked.prog.readableRec ·)) = true := by kernel_rfl
theorem z4FnSpaceStocks : (namedTie Tryd.pinned.checked.prog Rows.fnSpaceStocksRow.named Rows.fnSpaceStocksSpec.vars) = true := by kernel_rfl
theorem z5FnSpaceStocks : ((Rows.fnSpaceStocksRow.stops == [])) = true := by kernel_rfl
theorem z6FnSpaceStocks : ((Tryd.pinned.checked.prog.stops == [])) = true := by kernel_rfl
theorem z7FnSpaceStocks : ((Rows.fnSpaceStocksRow.knobs == [])) = true := by kernel_rfl
theorem z8FnSpaceStocks : ((Tryd.pinned.checked.prog.stopKnobs == [])) = true := by kernel_rfl
theorem z9FnSpaceStocks : ((Rows.fnSpaceStocksRow.inPlace == Tryd.pinned.checked.prog.inPlace 6)) = true := by kernel_rfl
theorem z10FnSpaceStocks : ((Rows.fnSpaceStocksRow.unfollowed == Tryd.pinned.checked.prog.unfollowed 6)) = true := by kernel_rfl
theorem z11FnSpaceStocks : ((Rows.fnSpaceStocksRow.recurses == Tryd.pinned.checked.prog.recurses 6)) = true := by kernel_rfl
theorem z12FnSpaceStocks : ((Rows.fnSpaceStocksRow.named == Tryd.pinned.checked.prog.varsNamed 6)) = true := by kernel_rfl
theorem z13FnSpaceStocks : ((Rows.fnSpaceStocksRow.maps == (Tryd.f6.params.toList ++ Rows.fnSpaceStocksSpec.plain.varTypes Tryd.pinned.checked.prog).any (Tryd.pinned.checked.prog.mapsRec ·))) = true := by kernel_rfl
theorem z14FnSpaceStocks : ((Rows.fnSpaceStocksRow.ifaces == (Tryd.f6.params.toList ++ Rows.fnSpaceStocksSpec.plain.varTypes Tryd.pinned.checked.prog).any (Tryd.pinned.checked.prog.ifacesRec ·))) = true := by kernel_rfl
theorem z15FnSpaceStocks : ((Rows.fnSpaceStocksRow.mapsOut == Tryd.pinned.checked.prog.mapsAmong Tryd.f6.resultTypes.toList)) = true := by kernel_rfl
theorem z16FnSpaceStocks : ((Rows.fnSpaceStocksRow.loops == (Tryd.f6.params.toList ++ Rows.fnSpaceStocksSpec.plain.varTypes Tryd.pinned.checked.prog).any (Tryd.pinned.checked.prog.loopsFrom ·))) = true := by kernel_rfl
theorem z17FnSpaceStocks : ((Rows.fnSpaceStocksRow.wideKeys == (Tryd.f6.params.toList ++ Rows.fnSpaceStocksSpec.plain.varTypes Tryd.pinned.checked.prog ++ Tryd.f6.resultTypes.toList).any (Tryd.pinned.checked.prog.wideKeysFrom ·))) = true := by kernel_rfl
theorem z18FnSpaceStocks : (Rows.fnSpaceStocksSpec.vars.all (Tryd.pinned.checked.prog.varReadable ·)) = true := by kernel_rfl
theorem z19FnSpaceStocks : (Tryd.f6.resultTypes.all (fun t => Tryd.pinned.checked.prog.readableRec t && decide (t < Tryd.pinned.checked.prog.types.size))) = true := by kernel_rfl
theorem z20FnSpaceStocks : ((Rows.fnSpaceStocksRow.ifacesOut == Tryd.f6.resultTypes.toList.any (Tryd.pinned.checked.prog.ifacesRec ·))) = true := by kernel_rfl
theorem z21FnSpaceStocks : ((Rows.fnSpaceStocksRow.loopsOut == Tryd.f6.resultTypes.toList.any (Tryd.pinned.checked.prog.loopsFrom ·))) = true := by kernel_rfl
theorem z22FnSpaceStocks : ((Rows.fnSpaceStocksRow.plainKeys == Tryd.pinned.checked.prog.plainKeys)) = true := by kernel_rfl
theorem z23FnSpaceStocks : (Rows.fnSpaceStocksRow.shortTexts.isNone) = true := by kernel_rfl
theorem z24FnSpaceStocks : (Tryd.pinned.checked.prog.stopsHeard) = true := by kernel_rfl
theorem z25FnSpaceStocks : (Tryd.pinned.checked.prog.mayEnter) = true := by kernel_rfl
theorem z26FnSpaceStocks : ((Rows.fnSpaceStocksRow.lifted == Tryd.pinned.checked.prog.liftsFinal)) = true := by kernel_rfl
theorem z27FnSpaceStocks : ((Tryd.pinned.checked.prog.make == some Rows.fnSpaceStocksRow.make)) = true := by kernel_rfl
theorem z28FnSpaceStocks : ((Rows.fnSpaceStocksRow.kinds == (if Rows.fnSpaceStocksRow.domain.isEmpty then [] else Tryd.f6.params.toList.map fun t => match Tryd.pinned.checked.prog.underlying t with | some (.int k) => some k | _ => none))) = true := by kernel_rfl
theorem z29FnSpaceStocks : ((Rows.fnSpaceStocksRow.pinned == Rows.fnSpaceStocksRow.pinnedBy)) = true := by kernel_rfl
theorem z30FnSpaceStocks : ((Rows.fnSpaceStocksRow.veiled == (Tryd.f6.params.toList ++ Rows.fnSpaceStocksSpec.plain.varTypes Tryd.pinned.checked.prog ++ Tryd.f6.resultTypes.toList).any (Tryd.pinned.checked.prog.veiledRec ·))) = true := by kernel_rfl
theorem z31FnSpaceStocks : (Rows.fnSpaceStocksRow.veiledFits Tryd.pinned.checked.prog Tryd.f6.params.toList (Tryd.f6.params.toList ++ Rows.fnSpaceStocksSpec.plain.varTypes Tryd.pinned.checked.prog ++ Tryd.f6.resultTypes.toList)) = true := by kernel_rfl
theorem closedFnSpaceStocks : joinedFacts Tryd.pinned.checked.prog 6 Tryd.f6 Rows.fnSpaceStocksSpec Rows.fnSpaceStocksRow = true := (and2FnSpaceStocks (and2FnSpaceStocks (and2FnSpaceStocks (and2FnSpaceStocks (and2FnSpaceStocks (and2FnSpaceStocks (and2FnSpaceStocks (and2FnSpaceStocks (and2FnSpaceStocks (and2FnSpaceStocks (and2FnSpaceStocks (and2FnSpaceStocks (and2FnSpaceStocks (and2FnSpaceStocks (and2FnSpaceStocks (and2FnSpaceStocks (and2FnSpaceStocks (and2FnSpaceStocks (and2FnSpaceStocks (and2FnSpaceStocks (and2FnSpaceStocks (and2FnSpaceStocks (and2FnSpaceStocks (and2FnSpaceStocks (and2FnSpaceStocks (and2FnSpaceStocks (and2FnSpaceStocks (and2FnSpaceStocks (and2FnSpaceStocks (and2FnSpaceStocks (and2FnSpaceStocks z0FnSpaceStocks z1FnSpaceStocks) z2FnSpaceStocks) z3FnSpaceStocks) z4FnSpaceStocks) z5FnSpaceStocks) z6FnSpaceStocks) z7FnSpaceStocks) z8FnSpaceStocks) z9FnSpaceStocks) z10FnSpaceStocks) z11FnSpaceStocks) z12FnSpaceStocks) z13FnSpaceStocks) z14FnSpaceStocks) z15FnSpaceStocks) z16FnSpaceStocks) z17FnSpaceStocks) z18FnSpaceStocks) z19FnSpaceStocks) z20FnSpaceStocks) z21FnSpaceStocks) z22FnSpaceStocks) z23FnSpaceStocks) z24FnSpaceStocks) z25FnSpaceStocks) z26FnSpaceStocks) z27FnSpaceStocks) z28FnSpaceStocks) z29FnSpaceStocks) z30FnSpaceStocks) z31FnSpaceStocks)
theorem namedFnSpaceStocks : Tryd.pinned.checked.prog.funcNamed Rows.fnSpaceStocksRow.func = some 6 := by kernel_rfl

theorem overFnSpaceStocks : Rows.fnSpaceStocksRow.holds Tryd.pinned (OpenSpec.ofChange Rows.fnSpaceStocksSpec) :=
  OpenClaim.holds_of_wide 6 Tryd.f6 rfl rfl rfl rfl rfl rfl rfl ⟨rfl, rfl, rfl, rfl, rfl⟩ rfl rfl rfl rfl rfl namedFnSpaceStocks Tryd.func6 closedFnSpaceStocks
    (of_decide_eq_true (by kernel_rfl)) (by unfold Func.isWrapper; first | (rw [if_pos (by decide +kernel)]; kernel_rfl) | (rw [if_neg (by decide +kernel)]; exact ⟨rfl, rfl⟩))
    (fun os started H enc _ => liftedFnSpaceStocks os started H enc)

/-- The card: the row, its listed variables tied to the program's text. -/
theorem provedFnSpaceStocks : Rows.FnSpaceStocksCardSaid :=
  Claim7.holds_tied_plain_at .later [] [.data, .data, .data] true (true, "a5cb98414faac5f05979639d1dc2f59e2e7a9fd4d3df39a3fa25cbcdbf49b9d6") false
    overFnSpaceStocks (fun _ h => by cases h) (by kernel_rfl) (fun _ h => by cases h) fnSpaceStocks_row_tie rfl ⟨rfl, rfl⟩ (by kernel_rfl) rfl
    (fun f fn hf hfn => by
      obtain rfl : f = 6 := Option.some.inj ((show Tryd.prog.funcNamed "loop.example/g01054/laws.FnSpaceStocks" = some 6 by kernel_rfl).symm.trans hf) |>.symm
      obtain rfl : fn = Tryd.f6 := (Option.some.inj (Tryd.func6.symm.trans hfn)).symm
      exact ⟨by kernel_rfl, fun j t ht => by
        rw [Tryd.params6] at ht
        have hm := Array.mem_of_getElem? ht
        have hall : (Tryd.f6.params.toList.all fun u => !Tryd.prog.wantsStandIn u) = true := by kernel_rfl
        have hm' : t ∈ Tryd.f6.params.toList := by rw [Tryd.params6]; simpa using hm
        exact (show Tryd.prog.wantsStandIn t = false by simpa using List.all_eq_true.1 hall t hm')⟩)
    (by kernel_rfl)
#print axioms provedFnSpaceStocks

end Go.Proofs.YtbamclepgabciaaDoor.Ai
