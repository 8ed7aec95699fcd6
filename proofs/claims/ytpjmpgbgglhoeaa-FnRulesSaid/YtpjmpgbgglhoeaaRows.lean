/-
  No cell of these rows narrows 'for every input' (looked for: loops, veiled, ifaces, maps, wideKeys, modest, calm, conditions, laid).
  DERIVED. THE GIVEN ROWS OF THIS SEAT. 11 by the template 'for every input the law returns true; each argument reads behind the call as it read before'; 0 by the template 'total and deterministic' (their statements: YtpjmpgbgglhoeaaTotals.lean).
  GIVEN WITH THE SEED: the statements are not yours to turn. If you find one false, say at which input.
  Laid BY PROGRAM, IN A SANDBOX (cutbox-rows.mjs): the forced cells as the released guide's own fill.sh prints them over the translation a7da38b9cbfe7b5b… (all of the seat's roots in one cut). By AI agents, Wed Nov 11 2026. No macro, syntax, notation, axiom, sorry.
-/
import Derived.Test.YtpjmpgbgglhoeaaChecked
import GoSem.Claim
import GoSem.ClaimJoined
import GoSem.ClaimMapViews
import Derived.JoinedTies
import Derived.KernelRfl
namespace Go.Proofs.Ytpjmpgbgglhoeaa
/- THE CELL 'sum', in the pinned program and in every row, IS THE sha256 OF THE DUMP (.gsa) THAT YtpjmpgbgglhoeaaProg.lean LOADS. Nothing in Lean hashes anything: it is a label: what it is worth is what the hold of that sum in a sandbox is worth. -/
noncomputable def Try.pinned : Pinned := { name := "ytpjmpgbgglhoeaa", sum := "a7da38b9cbfe7b5be2f469931204e68fec4ba2bcbab997bdec5ccb0482bd142b", checked := Try.checked }
namespace Rows
def none {H : Type} : Left H := { results := [], args := [] }

/-- 'laws.FnPressJobs': WHATEVER THE INPUT: true; the input reads as it did. -/
def fnPressJobsSpec : ChangeSpec := { name := "fnPressJobs", fn := fun _ => fun
  | [d1, d2] => { results := [.lit (.bool true)], args := [d1, d2] }
  | _ => none }
def fnPressJobsRow : OpenClaim := { program := "ytpjmpgbgglhoeaa", sum := "a7da38b9cbfe7b5be2f469931204e68fec4ba2bcbab997bdec5ccb0482bd142b", func := "loop.example/g01054/laws.FnPressJobs", spec := "fnPressJobs", apart := false }
def FnPressJobsSaid : Prop := fnPressJobsRow.holds Try.pinned (OpenSpec.ofChange fnPressJobsSpec)

/-- ITS FALSE NEIGHBOUR: 'it returns false'. Refute it at one input. -/
def fnPressJobsWrong : ChangeSpec := { name := "fnPressJobs", fn := fun _ => fun
  | [d1, d2] => { results := [.lit (.bool false)], args := [d1, d2] }
  | _ => none }
def FnPressJobsWrongFalsely : Prop := fnPressJobsRow.holds Try.pinned (OpenSpec.ofChange fnPressJobsWrong)

/-- 'laws.FnSpaces': WHATEVER THE INPUT: true; the input reads as it did. -/
def fnSpacesSpec : ChangeSpec := { name := "fnSpaces", fn := fun _ => fun
  | [d1, d2] => { results := [.lit (.bool true)], args := [d1, d2] }
  | _ => none }
def fnSpacesRow : OpenClaim := { program := "ytpjmpgbgglhoeaa", sum := "a7da38b9cbfe7b5be2f469931204e68fec4ba2bcbab997bdec5ccb0482bd142b", func := "loop.example/g01054/laws.FnSpaces", spec := "fnSpaces", apart := false }
def FnSpacesSaid : Prop := fnSpacesRow.holds Try.pinned (OpenSpec.ofChange fnSpacesSpec)

/-- ITS FALSE NEIGHBOUR: 'it returns false'. Refute it at one input. -/
def fnSpacesWrong : ChangeSpec := { name := "fnSpaces", fn := fun _ => fun
  | [d1, d2] => { results := [.lit (.bool false)], args := [d1, d2] }
  | _ => none }
def FnSpacesWrongFalsely : Prop := fnSpacesRow.holds Try.pinned (OpenSpec.ofChange fnSpacesWrong)

/-- 'laws.FnStandards': WHATEVER THE INPUT: true; the input reads as it did. -/
def fnStandardsSpec : ChangeSpec := { name := "fnStandards", fn := fun _ => fun
  | [d1, d2] => { results := [.lit (.bool true)], args := [d1, d2] }
  | _ => none }
def fnStandardsRow : OpenClaim := { program := "ytpjmpgbgglhoeaa", sum := "a7da38b9cbfe7b5be2f469931204e68fec4ba2bcbab997bdec5ccb0482bd142b", func := "loop.example/g01054/laws.FnStandards", spec := "fnStandards", apart := false }
def FnStandardsSaid : Prop := fnStandardsRow.holds Try.pinned (OpenSpec.ofChange fnStandardsSpec)

/-- ITS FALSE NEIGHBOUR: 'it returns false'. Refute it at one input. -/
def fnStandardsWrong : ChangeSpec := { name := "fnStandards", fn := fun _ => fun
  | [d1, d2] => { results := [.lit (.bool false)], args := [d1, d2] }
  | _ => none }
def FnStandardsWrongFalsely : Prop := fnStandardsRow.holds Try.pinned (OpenSpec.ofChange fnStandardsWrong)

/-- 'laws.FnTightEntries': WHATEVER THE INPUT: true; the input reads as it did. -/
def fnTightEntriesSpec : ChangeSpec := { name := "fnTightEntries", fn := fun _ => fun
  | [d1, d2] => { results := [.lit (.bool true)], args := [d1, d2] }
  | _ => none }
def fnTightEntriesRow : OpenClaim := { program := "ytpjmpgbgglhoeaa", sum := "a7da38b9cbfe7b5be2f469931204e68fec4ba2bcbab997bdec5ccb0482bd142b", func := "loop.example/g01054/laws.FnTightEntries", spec := "fnTightEntries", apart := false }
def FnTightEntriesSaid : Prop := fnTightEntriesRow.holds Try.pinned (OpenSpec.ofChange fnTightEntriesSpec)

/-- ITS FALSE NEIGHBOUR: 'it returns false'. Refute it at one input. -/
def fnTightEntriesWrong : ChangeSpec := { name := "fnTightEntries", fn := fun _ => fun
  | [d1, d2] => { results := [.lit (.bool false)], args := [d1, d2] }
  | _ => none }
def FnTightEntriesWrongFalsely : Prop := fnTightEntriesRow.holds Try.pinned (OpenSpec.ofChange fnTightEntriesWrong)

/-- 'laws.FnSafeOrders': WHATEVER THE INPUT: true; the input reads as it did. -/
def fnSafeOrdersSpec : ChangeSpec := { name := "fnSafeOrders", fn := fun _ => fun
  | [d1, d2] => { results := [.lit (.bool true)], args := [d1, d2] }
  | _ => none }
def fnSafeOrdersRow : OpenClaim := { program := "ytpjmpgbgglhoeaa", sum := "a7da38b9cbfe7b5be2f469931204e68fec4ba2bcbab997bdec5ccb0482bd142b", func := "loop.example/g01054/laws.FnSafeOrders", spec := "fnSafeOrders", apart := false }
def FnSafeOrdersSaid : Prop := fnSafeOrdersRow.holds Try.pinned (OpenSpec.ofChange fnSafeOrdersSpec)

/-- ITS FALSE NEIGHBOUR: 'it returns false'. Refute it at one input. -/
def fnSafeOrdersWrong : ChangeSpec := { name := "fnSafeOrders", fn := fun _ => fun
  | [d1, d2] => { results := [.lit (.bool false)], args := [d1, d2] }
  | _ => none }
def FnSafeOrdersWrongFalsely : Prop := fnSafeOrdersRow.holds Try.pinned (OpenSpec.ofChange fnSafeOrdersWrong)

/-- 'laws.FnCreeps': WHATEVER THE INPUT: true; the input reads as it did. -/
def fnCreepsSpec : ChangeSpec := { name := "fnCreeps", fn := fun _ => fun
  | [d1, d2] => { results := [.lit (.bool true)], args := [d1, d2] }
  | _ => none }
def fnCreepsRow : OpenClaim := { program := "ytpjmpgbgglhoeaa", sum := "a7da38b9cbfe7b5be2f469931204e68fec4ba2bcbab997bdec5ccb0482bd142b", func := "loop.example/g01054/laws.FnCreeps", spec := "fnCreeps", apart := false }
def FnCreepsSaid : Prop := fnCreepsRow.holds Try.pinned (OpenSpec.ofChange fnCreepsSpec)

/-- ITS FALSE NEIGHBOUR: 'it returns false'. Refute it at one input. -/
def fnCreepsWrong : ChangeSpec := { name := "fnCreeps", fn := fun _ => fun
  | [d1, d2] => { results := [.lit (.bool false)], args := [d1, d2] }
  | _ => none }
def FnCreepsWrongFalsely : Prop := fnCreepsRow.holds Try.pinned (OpenSpec.ofChange fnCreepsWrong)

/-- 'laws.FnRules': WHATEVER THE INPUT: true; the input reads as it did. -/
def fnRulesSpec : ChangeSpec := { name := "fnRules", fn := fun _ => fun
  | [d1, d2] => { results := [.lit (.bool true)], args := [d1, d2] }
  | _ => none }
def fnRulesRow : OpenClaim := { program := "ytpjmpgbgglhoeaa", sum := "a7da38b9cbfe7b5be2f469931204e68fec4ba2bcbab997bdec5ccb0482bd142b", func := "loop.example/g01054/laws.FnRules", spec := "fnRules", apart := false }
def FnRulesSaid : Prop := fnRulesRow.holds Try.pinned (OpenSpec.ofChange fnRulesSpec)

/-- ITS FALSE NEIGHBOUR: 'it returns false'. Refute it at one input. -/
def fnRulesWrong : ChangeSpec := { name := "fnRules", fn := fun _ => fun
  | [d1, d2] => { results := [.lit (.bool false)], args := [d1, d2] }
  | _ => none }
def FnRulesWrongFalsely : Prop := fnRulesRow.holds Try.pinned (OpenSpec.ofChange fnRulesWrong)

/-- 'laws.FnCleanPages': WHATEVER THE INPUT: true; the input reads as it did. -/
def fnCleanPagesSpec : ChangeSpec := { name := "fnCleanPages", fn := fun _ => fun
  | [d1, d2] => { results := [.lit (.bool true)], args := [d1, d2] }
  | _ => none }
def fnCleanPagesRow : OpenClaim := { program := "ytpjmpgbgglhoeaa", sum := "a7da38b9cbfe7b5be2f469931204e68fec4ba2bcbab997bdec5ccb0482bd142b", func := "loop.example/g01054/laws.FnCleanPages", spec := "fnCleanPages", apart := false }
def FnCleanPagesSaid : Prop := fnCleanPagesRow.holds Try.pinned (OpenSpec.ofChange fnCleanPagesSpec)

/-- ITS FALSE NEIGHBOUR: 'it returns false'. Refute it at one input. -/
def fnCleanPagesWrong : ChangeSpec := { name := "fnCleanPages", fn := fun _ => fun
  | [d1, d2] => { results := [.lit (.bool false)], args := [d1, d2] }
  | _ => none }
def FnCleanPagesWrongFalsely : Prop := fnCleanPagesRow.holds Try.pinned (OpenSpec.ofChange fnCleanPagesWrong)

/-- 'laws.FnGivenJobs': WHATEVER THE INPUT: true; the input reads as it did. -/
def fnGivenJobsSpec : ChangeSpec := { name := "fnGivenJobs", fn := fun _ => fun
  | [d1, d2] => { results := [.lit (.bool true)], args := [d1, d2] }
  | _ => none }
def fnGivenJobsRow : OpenClaim := { program := "ytpjmpgbgglhoeaa", sum := "a7da38b9cbfe7b5be2f469931204e68fec4ba2bcbab997bdec5ccb0482bd142b", func := "loop.example/g01054/laws.FnGivenJobs", spec := "fnGivenJobs", recurses := true, apart := false }
def FnGivenJobsSaid : Prop := fnGivenJobsRow.holds Try.pinned (OpenSpec.ofChange fnGivenJobsSpec)

/-- ITS FALSE NEIGHBOUR: 'it returns false'. Refute it at one input. -/
def fnGivenJobsWrong : ChangeSpec := { name := "fnGivenJobs", fn := fun _ => fun
  | [d1, d2] => { results := [.lit (.bool false)], args := [d1, d2] }
  | _ => none }
def FnGivenJobsWrongFalsely : Prop := fnGivenJobsRow.holds Try.pinned (OpenSpec.ofChange fnGivenJobsWrong)

/-- 'laws.FnGifts': WHATEVER THE INPUT: true; the input reads as it did. -/
def fnGiftsSpec : ChangeSpec := { name := "fnGifts", fn := fun _ => fun
  | [d1, d2] => { results := [.lit (.bool true)], args := [d1, d2] }
  | _ => none }
def fnGiftsRow : OpenClaim := { program := "ytpjmpgbgglhoeaa", sum := "a7da38b9cbfe7b5be2f469931204e68fec4ba2bcbab997bdec5ccb0482bd142b", func := "loop.example/g01054/laws.FnGifts", spec := "fnGifts", apart := false }
def FnGiftsSaid : Prop := fnGiftsRow.holds Try.pinned (OpenSpec.ofChange fnGiftsSpec)

/-- ITS FALSE NEIGHBOUR: 'it returns false'. Refute it at one input. -/
def fnGiftsWrong : ChangeSpec := { name := "fnGifts", fn := fun _ => fun
  | [d1, d2] => { results := [.lit (.bool false)], args := [d1, d2] }
  | _ => none }
def FnGiftsWrongFalsely : Prop := fnGiftsRow.holds Try.pinned (OpenSpec.ofChange fnGiftsWrong)

/-- 'laws.FnLineMeasures': WHATEVER THE INPUT: true; the input reads as it did. -/
def fnLineMeasuresSpec : ChangeSpec := { name := "fnLineMeasures", fn := fun _ => fun
  | [d1, d2] => { results := [.lit (.bool true)], args := [d1, d2] }
  | _ => none }
def fnLineMeasuresRow : OpenClaim := { program := "ytpjmpgbgglhoeaa", sum := "a7da38b9cbfe7b5be2f469931204e68fec4ba2bcbab997bdec5ccb0482bd142b", func := "loop.example/g01054/laws.FnLineMeasures", spec := "fnLineMeasures", apart := false }
def FnLineMeasuresSaid : Prop := fnLineMeasuresRow.holds Try.pinned (OpenSpec.ofChange fnLineMeasuresSpec)

/-- ITS FALSE NEIGHBOUR: 'it returns false'. Refute it at one input. -/
def fnLineMeasuresWrong : ChangeSpec := { name := "fnLineMeasures", fn := fun _ => fun
  | [d1, d2] => { results := [.lit (.bool false)], args := [d1, d2] }
  | _ => none }
def FnLineMeasuresWrongFalsely : Prop := fnLineMeasuresRow.holds Try.pinned (OpenSpec.ofChange fnLineMeasuresWrong)

/- THE SECOND FORM. 'bulk': how many values and letters a reading holds, each counted each time it is reached (what is shared counts as often as it is met; a slice's spare places count too). A statement '..UptoSaid' is the law's where the arguments, and the package variables that the reading takes, are together of bulk at most 1048576: NARROWER than '..Said'. Prove '..Said' where nothing that the law and all that it calls make is longer than what came in: it says more and counts as full. Else prove '..UptoSaid'. A law counts once. -/
mutual
def uptoBulk {H : Type} : DataW H → Nat
  | .lit (.string bytes) => bytes.length + 1
  | .lit _ => 1
  | .nil => 1
  | .ptr d => uptoBulk d + 1
  | .slice elems spare => uptoBulkAll elems + uptoBulkAll spare + 1
  | .agg parts => uptoBulkAll parts + 1
  | .iface _ d => uptoBulk d + 1
  | .map entries => uptoBulkEntries entries + 1
  | .held _ => 1
def uptoBulkAll {H : Type} : List (DataW H) → Nat
  | [] => 0
  | d :: r => uptoBulk d + uptoBulkAll r
def uptoBulkEntries {H : Type} : List (Lit × DataW H) → Nat
  | [] => 0
  | x :: r => uptoBulkEntry x + uptoBulkEntries r
def uptoBulkEntry {H : Type} : Lit × DataW H → Nat
  | (.string bytes, d) => bytes.length + uptoBulk d + 1
  | (_, d) => uptoBulk d + 1
 end
def uptoSmall : (H : Type) → List (DataW H) → Bool := fun _ ds => decide (uptoBulkAll ds ≤ 1048576)
def OpenSpec.upto (s : _root_.Go.ChangeSpec) : _root_.Go.OpenSpec := { _root_.Go.OpenSpec.ofChange s with cond := some uptoSmall }

/-- 'laws.FnPressJobs', WHERE WHAT IT READS IS OF BULK AT MOST 1048576: true; the input reads as it did. -/
def fnPressJobsUptoRow : OpenClaim := { program := "ytpjmpgbgglhoeaa", sum := "a7da38b9cbfe7b5be2f469931204e68fec4ba2bcbab997bdec5ccb0482bd142b", func := "loop.example/g01054/laws.FnPressJobs", spec := "fnPressJobs", apart := false, narrowed := true }
def FnPressJobsUptoSaid : Prop := fnPressJobsUptoRow.holds Try.pinned (OpenSpec.upto fnPressJobsSpec)

/-- 'laws.FnSpaces', WHERE WHAT IT READS IS OF BULK AT MOST 1048576: true; the input reads as it did. -/
def fnSpacesUptoRow : OpenClaim := { program := "ytpjmpgbgglhoeaa", sum := "a7da38b9cbfe7b5be2f469931204e68fec4ba2bcbab997bdec5ccb0482bd142b", func := "loop.example/g01054/laws.FnSpaces", spec := "fnSpaces", apart := false, narrowed := true }
def FnSpacesUptoSaid : Prop := fnSpacesUptoRow.holds Try.pinned (OpenSpec.upto fnSpacesSpec)

/-- 'laws.FnStandards', WHERE WHAT IT READS IS OF BULK AT MOST 1048576: true; the input reads as it did. -/
def fnStandardsUptoRow : OpenClaim := { program := "ytpjmpgbgglhoeaa", sum := "a7da38b9cbfe7b5be2f469931204e68fec4ba2bcbab997bdec5ccb0482bd142b", func := "loop.example/g01054/laws.FnStandards", spec := "fnStandards", apart := false, narrowed := true }
def FnStandardsUptoSaid : Prop := fnStandardsUptoRow.holds Try.pinned (OpenSpec.upto fnStandardsSpec)

/-- 'laws.FnTightEntries', WHERE WHAT IT READS IS OF BULK AT MOST 1048576: true; the input reads as it did. -/
def fnTightEntriesUptoRow : OpenClaim := { program := "ytpjmpgbgglhoeaa", sum := "a7da38b9cbfe7b5be2f469931204e68fec4ba2bcbab997bdec5ccb0482bd142b", func := "loop.example/g01054/laws.FnTightEntries", spec := "fnTightEntries", apart := false, narrowed := true }
def FnTightEntriesUptoSaid : Prop := fnTightEntriesUptoRow.holds Try.pinned (OpenSpec.upto fnTightEntriesSpec)

/-- 'laws.FnSafeOrders', WHERE WHAT IT READS IS OF BULK AT MOST 1048576: true; the input reads as it did. -/
def fnSafeOrdersUptoRow : OpenClaim := { program := "ytpjmpgbgglhoeaa", sum := "a7da38b9cbfe7b5be2f469931204e68fec4ba2bcbab997bdec5ccb0482bd142b", func := "loop.example/g01054/laws.FnSafeOrders", spec := "fnSafeOrders", apart := false, narrowed := true }
def FnSafeOrdersUptoSaid : Prop := fnSafeOrdersUptoRow.holds Try.pinned (OpenSpec.upto fnSafeOrdersSpec)

/-- 'laws.FnCreeps', WHERE WHAT IT READS IS OF BULK AT MOST 1048576: true; the input reads as it did. -/
def fnCreepsUptoRow : OpenClaim := { program := "ytpjmpgbgglhoeaa", sum := "a7da38b9cbfe7b5be2f469931204e68fec4ba2bcbab997bdec5ccb0482bd142b", func := "loop.example/g01054/laws.FnCreeps", spec := "fnCreeps", apart := false, narrowed := true }
def FnCreepsUptoSaid : Prop := fnCreepsUptoRow.holds Try.pinned (OpenSpec.upto fnCreepsSpec)

/-- 'laws.FnRules', WHERE WHAT IT READS IS OF BULK AT MOST 1048576: true; the input reads as it did. -/
def fnRulesUptoRow : OpenClaim := { program := "ytpjmpgbgglhoeaa", sum := "a7da38b9cbfe7b5be2f469931204e68fec4ba2bcbab997bdec5ccb0482bd142b", func := "loop.example/g01054/laws.FnRules", spec := "fnRules", apart := false, narrowed := true }
def FnRulesUptoSaid : Prop := fnRulesUptoRow.holds Try.pinned (OpenSpec.upto fnRulesSpec)

/-- 'laws.FnCleanPages', WHERE WHAT IT READS IS OF BULK AT MOST 1048576: true; the input reads as it did. -/
def fnCleanPagesUptoRow : OpenClaim := { program := "ytpjmpgbgglhoeaa", sum := "a7da38b9cbfe7b5be2f469931204e68fec4ba2bcbab997bdec5ccb0482bd142b", func := "loop.example/g01054/laws.FnCleanPages", spec := "fnCleanPages", apart := false, narrowed := true }
def FnCleanPagesUptoSaid : Prop := fnCleanPagesUptoRow.holds Try.pinned (OpenSpec.upto fnCleanPagesSpec)

/-- 'laws.FnGivenJobs', WHERE WHAT IT READS IS OF BULK AT MOST 1048576: true; the input reads as it did. -/
def fnGivenJobsUptoRow : OpenClaim := { program := "ytpjmpgbgglhoeaa", sum := "a7da38b9cbfe7b5be2f469931204e68fec4ba2bcbab997bdec5ccb0482bd142b", func := "loop.example/g01054/laws.FnGivenJobs", spec := "fnGivenJobs", recurses := true, apart := false, narrowed := true }
def FnGivenJobsUptoSaid : Prop := fnGivenJobsUptoRow.holds Try.pinned (OpenSpec.upto fnGivenJobsSpec)

/-- 'laws.FnGifts', WHERE WHAT IT READS IS OF BULK AT MOST 1048576: true; the input reads as it did. -/
def fnGiftsUptoRow : OpenClaim := { program := "ytpjmpgbgglhoeaa", sum := "a7da38b9cbfe7b5be2f469931204e68fec4ba2bcbab997bdec5ccb0482bd142b", func := "loop.example/g01054/laws.FnGifts", spec := "fnGifts", apart := false, narrowed := true }
def FnGiftsUptoSaid : Prop := fnGiftsUptoRow.holds Try.pinned (OpenSpec.upto fnGiftsSpec)

/-- 'laws.FnLineMeasures', WHERE WHAT IT READS IS OF BULK AT MOST 1048576: true; the input reads as it did. -/
def fnLineMeasuresUptoRow : OpenClaim := { program := "ytpjmpgbgglhoeaa", sum := "a7da38b9cbfe7b5be2f469931204e68fec4ba2bcbab997bdec5ccb0482bd142b", func := "loop.example/g01054/laws.FnLineMeasures", spec := "fnLineMeasures", apart := false, narrowed := true }
def FnLineMeasuresUptoSaid : Prop := fnLineMeasuresUptoRow.holds Try.pinned (OpenSpec.upto fnLineMeasuresSpec)

end Rows
end Go.Proofs.Ytpjmpgbgglhoeaa
