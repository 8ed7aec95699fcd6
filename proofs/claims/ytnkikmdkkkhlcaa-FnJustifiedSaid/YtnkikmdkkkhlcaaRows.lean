/-
  No cell of these rows narrows 'for every input' (looked for: loops, veiled, ifaces, maps, wideKeys, modest, calm, conditions, laid).
  DERIVED. THE GIVEN ROWS OF THIS SEAT. 12 by the template 'for every input the law returns true; each argument reads behind the call as it read before'; 0 by the template 'total and deterministic' (their statements: YtnkikmdkkkhlcaaTotals.lean).
  GIVEN WITH THE SEED: the statements are not yours to turn. If you find one false, say at which input.
  Laid BY PROGRAM, IN A SANDBOX (cutbox-rows.mjs): the forced cells as the released guide's own fill.sh prints them over the translation 6983a88fa96a9ad5… (all of the seat's roots in one cut). By AI agents, Wed Nov 11 2026. No macro, syntax, notation, axiom, sorry.
-/
import Derived.Test.YtnkikmdkkkhlcaaChecked
import GoSem.Claim
import GoSem.ClaimJoined
import GoSem.ClaimMapViews
import Derived.JoinedTies
import Derived.KernelRfl
namespace Go.Proofs.Ytnkikmdkkkhlcaa
/- THE CELL 'sum', in the pinned program and in every row, IS THE sha256 OF THE DUMP (.gsa) THAT YtnkikmdkkkhlcaaProg.lean LOADS. Nothing in Lean hashes anything: it is a label: what it is worth is what the hold of that sum in a sandbox is worth. -/
noncomputable def Try.pinned : Pinned := { name := "ytnkikmdkkkhlcaa", sum := "6983a88fa96a9ad567d9ad3c63784f589c91857239000abd4d0577f10d508a7d", checked := Try.checked }
namespace Rows
def none {H : Type} : Left H := { results := [], args := [] }

/-- 'laws.FnPressJobs': WHATEVER THE INPUT: true; the input reads as it did. -/
def fnPressJobsSpec : ChangeSpec := { name := "fnPressJobs", fn := fun _ => fun
  | [d1, d2] => { results := [.lit (.bool true)], args := [d1, d2] }
  | _ => none }
def fnPressJobsRow : OpenClaim := { program := "ytnkikmdkkkhlcaa", sum := "6983a88fa96a9ad567d9ad3c63784f589c91857239000abd4d0577f10d508a7d", func := "loop.example/g01054/laws.FnPressJobs", spec := "fnPressJobs", apart := false }
def FnPressJobsSaid : Prop := fnPressJobsRow.holds Try.pinned (OpenSpec.ofChange fnPressJobsSpec)

/-- ITS FALSE NEIGHBOUR: 'it returns false'. Refute it at one input. -/
def fnPressJobsWrong : ChangeSpec := { name := "fnPressJobs", fn := fun _ => fun
  | [d1, d2] => { results := [.lit (.bool false)], args := [d1, d2] }
  | _ => none }
def FnPressJobsWrongFalsely : Prop := fnPressJobsRow.holds Try.pinned (OpenSpec.ofChange fnPressJobsWrong)

/-- 'laws.FnAdditions': WHATEVER THE INPUT: true; the input reads as it did. -/
def fnAdditionsSpec : ChangeSpec := { name := "fnAdditions", fn := fun _ => fun
  | [d1, d2] => { results := [.lit (.bool true)], args := [d1, d2] }
  | _ => none }
def fnAdditionsRow : OpenClaim := { program := "ytnkikmdkkkhlcaa", sum := "6983a88fa96a9ad567d9ad3c63784f589c91857239000abd4d0577f10d508a7d", func := "loop.example/g01054/laws.FnAdditions", spec := "fnAdditions", unfollowed := true, recurses := true, apart := false }
def FnAdditionsSaid : Prop := fnAdditionsRow.holds Try.pinned (OpenSpec.ofChange fnAdditionsSpec)

/-- ITS FALSE NEIGHBOUR: 'it returns false'. Refute it at one input. -/
def fnAdditionsWrong : ChangeSpec := { name := "fnAdditions", fn := fun _ => fun
  | [d1, d2] => { results := [.lit (.bool false)], args := [d1, d2] }
  | _ => none }
def FnAdditionsWrongFalsely : Prop := fnAdditionsRow.holds Try.pinned (OpenSpec.ofChange fnAdditionsWrong)

/-- 'laws.FnCutIns': WHATEVER THE INPUT: true; the input reads as it did. -/
def fnCutInsSpec : ChangeSpec := { name := "fnCutIns", fn := fun _ => fun
  | [d1, d2] => { results := [.lit (.bool true)], args := [d1, d2] }
  | _ => none }
def fnCutInsRow : OpenClaim := { program := "ytnkikmdkkkhlcaa", sum := "6983a88fa96a9ad567d9ad3c63784f589c91857239000abd4d0577f10d508a7d", func := "loop.example/g01054/laws.FnCutIns", spec := "fnCutIns", apart := false }
def FnCutInsSaid : Prop := fnCutInsRow.holds Try.pinned (OpenSpec.ofChange fnCutInsSpec)

/-- ITS FALSE NEIGHBOUR: 'it returns false'. Refute it at one input. -/
def fnCutInsWrong : ChangeSpec := { name := "fnCutIns", fn := fun _ => fun
  | [d1, d2] => { results := [.lit (.bool false)], args := [d1, d2] }
  | _ => none }
def FnCutInsWrongFalsely : Prop := fnCutInsRow.holds Try.pinned (OpenSpec.ofChange fnCutInsWrong)

/-- 'laws.FnTables': WHATEVER THE INPUT: true; the input reads as it did. -/
def fnTablesSpec : ChangeSpec := { name := "fnTables", fn := fun _ => fun
  | [d1, d2] => { results := [.lit (.bool true)], args := [d1, d2] }
  | _ => none }
def fnTablesRow : OpenClaim := { program := "ytnkikmdkkkhlcaa", sum := "6983a88fa96a9ad567d9ad3c63784f589c91857239000abd4d0577f10d508a7d", func := "loop.example/g01054/laws.FnTables", spec := "fnTables", apart := false }
def FnTablesSaid : Prop := fnTablesRow.holds Try.pinned (OpenSpec.ofChange fnTablesSpec)

/-- ITS FALSE NEIGHBOUR: 'it returns false'. Refute it at one input. -/
def fnTablesWrong : ChangeSpec := { name := "fnTables", fn := fun _ => fun
  | [d1, d2] => { results := [.lit (.bool false)], args := [d1, d2] }
  | _ => none }
def FnTablesWrongFalsely : Prop := fnTablesRow.holds Try.pinned (OpenSpec.ofChange fnTablesWrong)

/-- 'laws.FnJustified': WHATEVER THE INPUT: true; the input reads as it did. -/
def fnJustifiedSpec : ChangeSpec := { name := "fnJustified", fn := fun _ => fun
  | [d1, d2] => { results := [.lit (.bool true)], args := [d1, d2] }
  | _ => none }
def fnJustifiedRow : OpenClaim := { program := "ytnkikmdkkkhlcaa", sum := "6983a88fa96a9ad567d9ad3c63784f589c91857239000abd4d0577f10d508a7d", func := "loop.example/g01054/laws.FnJustified", spec := "fnJustified", apart := false }
def FnJustifiedSaid : Prop := fnJustifiedRow.holds Try.pinned (OpenSpec.ofChange fnJustifiedSpec)

/-- ITS FALSE NEIGHBOUR: 'it returns false'. Refute it at one input. -/
def fnJustifiedWrong : ChangeSpec := { name := "fnJustified", fn := fun _ => fun
  | [d1, d2] => { results := [.lit (.bool false)], args := [d1, d2] }
  | _ => none }
def FnJustifiedWrongFalsely : Prop := fnJustifiedRow.holds Try.pinned (OpenSpec.ofChange fnJustifiedWrong)

/-- 'laws.FnPressOrders': WHATEVER THE INPUT: true; the input reads as it did. -/
def fnPressOrdersSpec : ChangeSpec := { name := "fnPressOrders", fn := fun _ => fun
  | [d1, d2] => { results := [.lit (.bool true)], args := [d1, d2] }
  | _ => none }
def fnPressOrdersRow : OpenClaim := { program := "ytnkikmdkkkhlcaa", sum := "6983a88fa96a9ad567d9ad3c63784f589c91857239000abd4d0577f10d508a7d", func := "loop.example/g01054/laws.FnPressOrders", spec := "fnPressOrders", unfollowed := true, recurses := true, apart := false }
def FnPressOrdersSaid : Prop := fnPressOrdersRow.holds Try.pinned (OpenSpec.ofChange fnPressOrdersSpec)

/-- ITS FALSE NEIGHBOUR: 'it returns false'. Refute it at one input. -/
def fnPressOrdersWrong : ChangeSpec := { name := "fnPressOrders", fn := fun _ => fun
  | [d1, d2] => { results := [.lit (.bool false)], args := [d1, d2] }
  | _ => none }
def FnPressOrdersWrongFalsely : Prop := fnPressOrdersRow.holds Try.pinned (OpenSpec.ofChange fnPressOrdersWrong)

/-- 'laws.FnSpaces': WHATEVER THE INPUT: true; the input reads as it did. -/
def fnSpacesSpec : ChangeSpec := { name := "fnSpaces", fn := fun _ => fun
  | [d1, d2] => { results := [.lit (.bool true)], args := [d1, d2] }
  | _ => none }
def fnSpacesRow : OpenClaim := { program := "ytnkikmdkkkhlcaa", sum := "6983a88fa96a9ad567d9ad3c63784f589c91857239000abd4d0577f10d508a7d", func := "loop.example/g01054/laws.FnSpaces", spec := "fnSpaces", apart := false }
def FnSpacesSaid : Prop := fnSpacesRow.holds Try.pinned (OpenSpec.ofChange fnSpacesSpec)

/-- ITS FALSE NEIGHBOUR: 'it returns false'. Refute it at one input. -/
def fnSpacesWrong : ChangeSpec := { name := "fnSpaces", fn := fun _ => fun
  | [d1, d2] => { results := [.lit (.bool false)], args := [d1, d2] }
  | _ => none }
def FnSpacesWrongFalsely : Prop := fnSpacesRow.holds Try.pinned (OpenSpec.ofChange fnSpacesWrong)

/-- 'laws.FnStandards': WHATEVER THE INPUT: true; the input reads as it did. -/
def fnStandardsSpec : ChangeSpec := { name := "fnStandards", fn := fun _ => fun
  | [d1, d2] => { results := [.lit (.bool true)], args := [d1, d2] }
  | _ => none }
def fnStandardsRow : OpenClaim := { program := "ytnkikmdkkkhlcaa", sum := "6983a88fa96a9ad567d9ad3c63784f589c91857239000abd4d0577f10d508a7d", func := "loop.example/g01054/laws.FnStandards", spec := "fnStandards", apart := false }
def FnStandardsSaid : Prop := fnStandardsRow.holds Try.pinned (OpenSpec.ofChange fnStandardsSpec)

/-- ITS FALSE NEIGHBOUR: 'it returns false'. Refute it at one input. -/
def fnStandardsWrong : ChangeSpec := { name := "fnStandards", fn := fun _ => fun
  | [d1, d2] => { results := [.lit (.bool false)], args := [d1, d2] }
  | _ => none }
def FnStandardsWrongFalsely : Prop := fnStandardsRow.holds Try.pinned (OpenSpec.ofChange fnStandardsWrong)

/-- 'laws.FnMachineShares': WHATEVER THE INPUT: true; the input reads as it did. -/
def fnMachineSharesSpec : ChangeSpec := { name := "fnMachineShares", fn := fun _ => fun
  | [d1, d2] => { results := [.lit (.bool true)], args := [d1, d2] }
  | _ => none }
def fnMachineSharesRow : OpenClaim := { program := "ytnkikmdkkkhlcaa", sum := "6983a88fa96a9ad567d9ad3c63784f589c91857239000abd4d0577f10d508a7d", func := "loop.example/g01054/laws.FnMachineShares", spec := "fnMachineShares", unfollowed := true, recurses := true, apart := false }
def FnMachineSharesSaid : Prop := fnMachineSharesRow.holds Try.pinned (OpenSpec.ofChange fnMachineSharesSpec)

/-- ITS FALSE NEIGHBOUR: 'it returns false'. Refute it at one input. -/
def fnMachineSharesWrong : ChangeSpec := { name := "fnMachineShares", fn := fun _ => fun
  | [d1, d2] => { results := [.lit (.bool false)], args := [d1, d2] }
  | _ => none }
def FnMachineSharesWrongFalsely : Prop := fnMachineSharesRow.holds Try.pinned (OpenSpec.ofChange fnMachineSharesWrong)

/-- 'laws.FnTightEntries': WHATEVER THE INPUT: true; the input reads as it did. -/
def fnTightEntriesSpec : ChangeSpec := { name := "fnTightEntries", fn := fun _ => fun
  | [d1, d2] => { results := [.lit (.bool true)], args := [d1, d2] }
  | _ => none }
def fnTightEntriesRow : OpenClaim := { program := "ytnkikmdkkkhlcaa", sum := "6983a88fa96a9ad567d9ad3c63784f589c91857239000abd4d0577f10d508a7d", func := "loop.example/g01054/laws.FnTightEntries", spec := "fnTightEntries", apart := false }
def FnTightEntriesSaid : Prop := fnTightEntriesRow.holds Try.pinned (OpenSpec.ofChange fnTightEntriesSpec)

/-- ITS FALSE NEIGHBOUR: 'it returns false'. Refute it at one input. -/
def fnTightEntriesWrong : ChangeSpec := { name := "fnTightEntries", fn := fun _ => fun
  | [d1, d2] => { results := [.lit (.bool false)], args := [d1, d2] }
  | _ => none }
def FnTightEntriesWrongFalsely : Prop := fnTightEntriesRow.holds Try.pinned (OpenSpec.ofChange fnTightEntriesWrong)

/-- 'laws.FnLineMeasures': WHATEVER THE INPUT: true; the input reads as it did. -/
def fnLineMeasuresSpec : ChangeSpec := { name := "fnLineMeasures", fn := fun _ => fun
  | [d1, d2] => { results := [.lit (.bool true)], args := [d1, d2] }
  | _ => none }
def fnLineMeasuresRow : OpenClaim := { program := "ytnkikmdkkkhlcaa", sum := "6983a88fa96a9ad567d9ad3c63784f589c91857239000abd4d0577f10d508a7d", func := "loop.example/g01054/laws.FnLineMeasures", spec := "fnLineMeasures", apart := false }
def FnLineMeasuresSaid : Prop := fnLineMeasuresRow.holds Try.pinned (OpenSpec.ofChange fnLineMeasuresSpec)

/-- ITS FALSE NEIGHBOUR: 'it returns false'. Refute it at one input. -/
def fnLineMeasuresWrong : ChangeSpec := { name := "fnLineMeasures", fn := fun _ => fun
  | [d1, d2] => { results := [.lit (.bool false)], args := [d1, d2] }
  | _ => none }
def FnLineMeasuresWrongFalsely : Prop := fnLineMeasuresRow.holds Try.pinned (OpenSpec.ofChange fnLineMeasuresWrong)

/-- 'laws.FnCreeps': WHATEVER THE INPUT: true; the input reads as it did. -/
def fnCreepsSpec : ChangeSpec := { name := "fnCreeps", fn := fun _ => fun
  | [d1, d2] => { results := [.lit (.bool true)], args := [d1, d2] }
  | _ => none }
def fnCreepsRow : OpenClaim := { program := "ytnkikmdkkkhlcaa", sum := "6983a88fa96a9ad567d9ad3c63784f589c91857239000abd4d0577f10d508a7d", func := "loop.example/g01054/laws.FnCreeps", spec := "fnCreeps", apart := false }
def FnCreepsSaid : Prop := fnCreepsRow.holds Try.pinned (OpenSpec.ofChange fnCreepsSpec)

/-- ITS FALSE NEIGHBOUR: 'it returns false'. Refute it at one input. -/
def fnCreepsWrong : ChangeSpec := { name := "fnCreeps", fn := fun _ => fun
  | [d1, d2] => { results := [.lit (.bool false)], args := [d1, d2] }
  | _ => none }
def FnCreepsWrongFalsely : Prop := fnCreepsRow.holds Try.pinned (OpenSpec.ofChange fnCreepsWrong)

/- THE SECOND FORM. 'bulk': how many values and letters a reading holds, each counted each time it is reached (what is shared counts as often as it is met; a slice's spare places count too). A statement '..UptoSaid' is the law's where the arguments, and the package variables that the reading takes, are together of bulk at most 1048576: NARROWER than '..Said'. Prove '..Said' where nothing that the law and all that it calls make is longer than what came in: it says more and counts as full. Else prove '..UptoSaid'. A law counts once. -/
mutual
def uptoBulk {H : Type} : DataW H → Nat
  | .lit (.string bytes) => bytes.length + 1
  | .lit _ => 1
  | .nil => 1
  | .ptr d => uptoBulk d + 1
  | .slice elems spare => uptoBulkAll elems + uptoBulkAll spare + 1
  | .agg parts => uptoBulkAll parts + 1
  | .iface _ d => uptoBulk d + 1
  | .map entries => uptoBulkEntries entries + 1
  | .held _ => 1
def uptoBulkAll {H : Type} : List (DataW H) → Nat
  | [] => 0
  | d :: r => uptoBulk d + uptoBulkAll r
def uptoBulkEntries {H : Type} : List (Lit × DataW H) → Nat
  | [] => 0
  | x :: r => uptoBulkEntry x + uptoBulkEntries r
def uptoBulkEntry {H : Type} : Lit × DataW H → Nat
  | (.string bytes, d) => bytes.length + uptoBulk d + 1
  | (_, d) => uptoBulk d + 1
 end
def uptoSmall : (H : Type) → List (DataW H) → Bool := fun _ ds => decide (uptoBulkAll ds ≤ 1048576)
def OpenSpec.upto (s : _root_.Go.ChangeSpec) : _root_.Go.OpenSpec := { _root_.Go.OpenSpec.ofChange s with cond := some uptoSmall }

/-- 'laws.FnPressJobs', WHERE WHAT IT READS IS OF BULK AT MOST 1048576: true; the input reads as it did. -/
def fnPressJobsUptoRow : OpenClaim := { program := "ytnkikmdkkkhlcaa", sum := "6983a88fa96a9ad567d9ad3c63784f589c91857239000abd4d0577f10d508a7d", func := "loop.example/g01054/laws.FnPressJobs", spec := "fnPressJobs", apart := false, narrowed := true }
def FnPressJobsUptoSaid : Prop := fnPressJobsUptoRow.holds Try.pinned (OpenSpec.upto fnPressJobsSpec)

/-- 'laws.FnAdditions', WHERE WHAT IT READS IS OF BULK AT MOST 1048576: true; the input reads as it did. -/
def fnAdditionsUptoRow : OpenClaim := { program := "ytnkikmdkkkhlcaa", sum := "6983a88fa96a9ad567d9ad3c63784f589c91857239000abd4d0577f10d508a7d", func := "loop.example/g01054/laws.FnAdditions", spec := "fnAdditions", unfollowed := true, recurses := true, apart := false, narrowed := true }
def FnAdditionsUptoSaid : Prop := fnAdditionsUptoRow.holds Try.pinned (OpenSpec.upto fnAdditionsSpec)

/-- 'laws.FnCutIns', WHERE WHAT IT READS IS OF BULK AT MOST 1048576: true; the input reads as it did. -/
def fnCutInsUptoRow : OpenClaim := { program := "ytnkikmdkkkhlcaa", sum := "6983a88fa96a9ad567d9ad3c63784f589c91857239000abd4d0577f10d508a7d", func := "loop.example/g01054/laws.FnCutIns", spec := "fnCutIns", apart := false, narrowed := true }
def FnCutInsUptoSaid : Prop := fnCutInsUptoRow.holds Try.pinned (OpenSpec.upto fnCutInsSpec)

/-- 'laws.FnTables', WHERE WHAT IT READS IS OF BULK AT MOST 1048576: true; the input reads as it did. -/
def fnTablesUptoRow : OpenClaim := { program := "ytnkikmdkkkhlcaa", sum := "6983a88fa96a9ad567d9ad3c63784f589c91857239000abd4d0577f10d508a7d", func := "loop.example/g01054/laws.FnTables", spec := "fnTables", apart := false, narrowed := true }
def FnTablesUptoSaid : Prop := fnTablesUptoRow.holds Try.pinned (OpenSpec.upto fnTablesSpec)

/-- 'laws.FnJustified', WHERE WHAT IT READS IS OF BULK AT MOST 1048576: true; the input reads as it did. -/
def fnJustifiedUptoRow : OpenClaim := { program := "ytnkikmdkkkhlcaa", sum := "6983a88fa96a9ad567d9ad3c63784f589c91857239000abd4d0577f10d508a7d", func := "loop.example/g01054/laws.FnJustified", spec := "fnJustified", apart := false, narrowed := true }
def FnJustifiedUptoSaid : Prop := fnJustifiedUptoRow.holds Try.pinned (OpenSpec.upto fnJustifiedSpec)

/-- 'laws.FnPressOrders', WHERE WHAT IT READS IS OF BULK AT MOST 1048576: true; the input reads as it did. -/
def fnPressOrdersUptoRow : OpenClaim := { program := "ytnkikmdkkkhlcaa", sum := "6983a88fa96a9ad567d9ad3c63784f589c91857239000abd4d0577f10d508a7d", func := "loop.example/g01054/laws.FnPressOrders", spec := "fnPressOrders", unfollowed := true, recurses := true, apart := false, narrowed := true }
def FnPressOrdersUptoSaid : Prop := fnPressOrdersUptoRow.holds Try.pinned (OpenSpec.upto fnPressOrdersSpec)

/-- 'laws.FnSpaces', WHERE WHAT IT READS IS OF BULK AT MOST 1048576: true; the input reads as it did. -/
def fnSpacesUptoRow : OpenClaim := { program := "ytnkikmdkkkhlcaa", sum := "6983a88fa96a9ad567d9ad3c63784f589c91857239000abd4d0577f10d508a7d", func := "loop.example/g01054/laws.FnSpaces", spec := "fnSpaces", apart := false, narrowed := true }
def FnSpacesUptoSaid : Prop := fnSpacesUptoRow.holds Try.pinned (OpenSpec.upto fnSpacesSpec)

/-- 'laws.FnStandards', WHERE WHAT IT READS IS OF BULK AT MOST 1048576: true; the input reads as it did. -/
def fnStandardsUptoRow : OpenClaim := { program := "ytnkikmdkkkhlcaa", sum := "6983a88fa96a9ad567d9ad3c63784f589c91857239000abd4d0577f10d508a7d", func := "loop.example/g01054/laws.FnStandards", spec := "fnStandards", apart := false, narrowed := true }
def FnStandardsUptoSaid : Prop := fnStandardsUptoRow.holds Try.pinned (OpenSpec.upto fnStandardsSpec)

/-- 'laws.FnMachineShares', WHERE WHAT IT READS IS OF BULK AT MOST 1048576: true; the input reads as it did. -/
def fnMachineSharesUptoRow : OpenClaim := { program := "ytnkikmdkkkhlcaa", sum := "6983a88fa96a9ad567d9ad3c63784f589c91857239000abd4d0577f10d508a7d", func := "loop.example/g01054/laws.FnMachineShares", spec := "fnMachineShares", unfollowed := true, recurses := true, apart := false, narrowed := true }
def FnMachineSharesUptoSaid : Prop := fnMachineSharesUptoRow.holds Try.pinned (OpenSpec.upto fnMachineSharesSpec)

/-- 'laws.FnTightEntries', WHERE WHAT IT READS IS OF BULK AT MOST 1048576: true; the input reads as it did. -/
def fnTightEntriesUptoRow : OpenClaim := { program := "ytnkikmdkkkhlcaa", sum := "6983a88fa96a9ad567d9ad3c63784f589c91857239000abd4d0577f10d508a7d", func := "loop.example/g01054/laws.FnTightEntries", spec := "fnTightEntries", apart := false, narrowed := true }
def FnTightEntriesUptoSaid : Prop := fnTightEntriesUptoRow.holds Try.pinned (OpenSpec.upto fnTightEntriesSpec)

/-- 'laws.FnLineMeasures', WHERE WHAT IT READS IS OF BULK AT MOST 1048576: true; the input reads as it did. -/
def fnLineMeasuresUptoRow : OpenClaim := { program := "ytnkikmdkkkhlcaa", sum := "6983a88fa96a9ad567d9ad3c63784f589c91857239000abd4d0577f10d508a7d", func := "loop.example/g01054/laws.FnLineMeasures", spec := "fnLineMeasures", apart := false, narrowed := true }
def FnLineMeasuresUptoSaid : Prop := fnLineMeasuresUptoRow.holds Try.pinned (OpenSpec.upto fnLineMeasuresSpec)

/-- 'laws.FnCreeps', WHERE WHAT IT READS IS OF BULK AT MOST 1048576: true; the input reads as it did. -/
def fnCreepsUptoRow : OpenClaim := { program := "ytnkikmdkkkhlcaa", sum := "6983a88fa96a9ad567d9ad3c63784f589c91857239000abd4d0577f10d508a7d", func := "loop.example/g01054/laws.FnCreeps", spec := "fnCreeps", apart := false, narrowed := true }
def FnCreepsUptoSaid : Prop := fnCreepsUptoRow.holds Try.pinned (OpenSpec.upto fnCreepsSpec)

end Rows
end Go.Proofs.Ytnkikmdkkkhlcaa
