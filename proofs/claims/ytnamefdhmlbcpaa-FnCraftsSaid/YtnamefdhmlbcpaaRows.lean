/-
  No cell of these rows narrows 'for every input' (looked for: loops, veiled, ifaces, maps, wideKeys, modest, calm, conditions, laid).
  DERIVED. THE GIVEN ROWS OF THIS SEAT. 5 by the template 'for every input the law returns true; each argument reads behind the call as it read before'; 0 by the template 'total and deterministic' (their statements: YtnamefdhmlbcpaaTotals.lean).
  GIVEN WITH THE SEED: the statements are not yours to turn. If you find one false, say at which input.
  Laid BY PROGRAM, IN A SANDBOX (cutbox-rows.mjs): the forced cells as the released guide's own fill.sh prints them over the translation 34aecd25b0aea56e… (all of the seat's roots in one cut). By AI agents, Wed Nov 11 2026. No macro, syntax, notation, axiom, sorry.
-/
import Derived.Test.YtnamefdhmlbcpaaChecked
import GoSem.Claim
import GoSem.ClaimJoined
import GoSem.ClaimMapViews
import Derived.JoinedTies
import Derived.KernelRfl
namespace Go.Proofs.Ytnamefdhmlbcpaa
/- THE CELL 'sum', in the pinned program and in every row, IS THE sha256 OF THE DUMP (.gsa) THAT YtnamefdhmlbcpaaProg.lean LOADS. Nothing in Lean hashes anything: it is a label: what it is worth is what the hold of that sum in a sandbox is worth. -/
noncomputable def Try.pinned : Pinned := { name := "ytnamefdhmlbcpaa", sum := "34aecd25b0aea56eab04df7b43435faf4b7433c6e0100c44d79cee7bab1594b6", checked := Try.checked }
namespace Rows
def none {H : Type} : Left H := { results := [], args := [] }

/-- 'laws.FnExactGiveJobs': WHATEVER THE INPUT: true; the input reads as it did. -/
def fnExactGiveJobsSpec : ChangeSpec := { name := "fnExactGiveJobs", fn := fun _ => fun
  | [d1, d2, d3] => { results := [.lit (.bool true)], args := [d1, d2, d3] }
  | _ => none }
def fnExactGiveJobsRow : OpenClaim := { program := "ytnamefdhmlbcpaa", sum := "34aecd25b0aea56eab04df7b43435faf4b7433c6e0100c44d79cee7bab1594b6", func := "loop.example/g01054/laws.FnExactGiveJobs", spec := "fnExactGiveJobs", recurses := true, apart := false }
def FnExactGiveJobsSaid : Prop := fnExactGiveJobsRow.holds Try.pinned (OpenSpec.ofChange fnExactGiveJobsSpec)

/-- ITS FALSE NEIGHBOUR: 'it returns false'. Refute it at one input. -/
def fnExactGiveJobsWrong : ChangeSpec := { name := "fnExactGiveJobs", fn := fun _ => fun
  | [d1, d2, d3] => { results := [.lit (.bool false)], args := [d1, d2, d3] }
  | _ => none }
def FnExactGiveJobsWrongFalsely : Prop := fnExactGiveJobsRow.holds Try.pinned (OpenSpec.ofChange fnExactGiveJobsWrong)

/-- 'laws.FnExactMonthsTo': WHATEVER THE INPUT: true; the input reads as it did. -/
def fnExactMonthsToSpec : ChangeSpec := { name := "fnExactMonthsTo", fn := fun _ => fun
  | [d1, d2, d3] => { results := [.lit (.bool true)], args := [d1, d2, d3] }
  | _ => none }
def fnExactMonthsToRow : OpenClaim := { program := "ytnamefdhmlbcpaa", sum := "34aecd25b0aea56eab04df7b43435faf4b7433c6e0100c44d79cee7bab1594b6", func := "loop.example/g01054/laws.FnExactMonthsTo", spec := "fnExactMonthsTo", recurses := true, apart := false }
def FnExactMonthsToSaid : Prop := fnExactMonthsToRow.holds Try.pinned (OpenSpec.ofChange fnExactMonthsToSpec)

/-- ITS FALSE NEIGHBOUR: 'it returns false'. Refute it at one input. -/
def fnExactMonthsToWrong : ChangeSpec := { name := "fnExactMonthsTo", fn := fun _ => fun
  | [d1, d2, d3] => { results := [.lit (.bool false)], args := [d1, d2, d3] }
  | _ => none }
def FnExactMonthsToWrongFalsely : Prop := fnExactMonthsToRow.holds Try.pinned (OpenSpec.ofChange fnExactMonthsToWrong)

/-- 'laws.FnExactMissingCrafts': WHATEVER THE INPUT: true; the input reads as it did. -/
def fnExactMissingCraftsSpec : ChangeSpec := { name := "fnExactMissingCrafts", fn := fun _ => fun
  | [d1, d2, d3] => { results := [.lit (.bool true)], args := [d1, d2, d3] }
  | _ => none }
def fnExactMissingCraftsRow : OpenClaim := { program := "ytnamefdhmlbcpaa", sum := "34aecd25b0aea56eab04df7b43435faf4b7433c6e0100c44d79cee7bab1594b6", func := "loop.example/g01054/laws.FnExactMissingCrafts", spec := "fnExactMissingCrafts", recurses := true, apart := false }
def FnExactMissingCraftsSaid : Prop := fnExactMissingCraftsRow.holds Try.pinned (OpenSpec.ofChange fnExactMissingCraftsSpec)

/-- ITS FALSE NEIGHBOUR: 'it returns false'. Refute it at one input. -/
def fnExactMissingCraftsWrong : ChangeSpec := { name := "fnExactMissingCrafts", fn := fun _ => fun
  | [d1, d2, d3] => { results := [.lit (.bool false)], args := [d1, d2, d3] }
  | _ => none }
def FnExactMissingCraftsWrongFalsely : Prop := fnExactMissingCraftsRow.holds Try.pinned (OpenSpec.ofChange fnExactMissingCraftsWrong)

/-- 'laws.FnExactLearnInOrder': WHATEVER THE INPUT: true; the input reads as it did. -/
def fnExactLearnInOrderSpec : ChangeSpec := { name := "fnExactLearnInOrder", fn := fun _ => fun
  | [d1, d2, d3] => { results := [.lit (.bool true)], args := [d1, d2, d3] }
  | _ => none }
def fnExactLearnInOrderRow : OpenClaim := { program := "ytnamefdhmlbcpaa", sum := "34aecd25b0aea56eab04df7b43435faf4b7433c6e0100c44d79cee7bab1594b6", func := "loop.example/g01054/laws.FnExactLearnInOrder", spec := "fnExactLearnInOrder", recurses := true, apart := false }
def FnExactLearnInOrderSaid : Prop := fnExactLearnInOrderRow.holds Try.pinned (OpenSpec.ofChange fnExactLearnInOrderSpec)

/-- ITS FALSE NEIGHBOUR: 'it returns false'. Refute it at one input. -/
def fnExactLearnInOrderWrong : ChangeSpec := { name := "fnExactLearnInOrder", fn := fun _ => fun
  | [d1, d2, d3] => { results := [.lit (.bool false)], args := [d1, d2, d3] }
  | _ => none }
def FnExactLearnInOrderWrongFalsely : Prop := fnExactLearnInOrderRow.holds Try.pinned (OpenSpec.ofChange fnExactLearnInOrderWrong)

/-- 'laws.FnCrafts': WHATEVER THE INPUT: true; the input reads as it did. -/
def fnCraftsSpec : ChangeSpec := { name := "fnCrafts", fn := fun _ => fun
  | [d1, d2] => { results := [.lit (.bool true)], args := [d1, d2] }
  | _ => none }
def fnCraftsRow : OpenClaim := { program := "ytnamefdhmlbcpaa", sum := "34aecd25b0aea56eab04df7b43435faf4b7433c6e0100c44d79cee7bab1594b6", func := "loop.example/g01054/laws.FnCrafts", spec := "fnCrafts", recurses := true, apart := false }
def FnCraftsSaid : Prop := fnCraftsRow.holds Try.pinned (OpenSpec.ofChange fnCraftsSpec)

/-- ITS FALSE NEIGHBOUR: 'it returns false'. Refute it at one input. -/
def fnCraftsWrong : ChangeSpec := { name := "fnCrafts", fn := fun _ => fun
  | [d1, d2] => { results := [.lit (.bool false)], args := [d1, d2] }
  | _ => none }
def FnCraftsWrongFalsely : Prop := fnCraftsRow.holds Try.pinned (OpenSpec.ofChange fnCraftsWrong)

/- THE SECOND FORM. 'bulk': how many values and letters a reading holds, each counted each time it is reached (what is shared counts as often as it is met; a slice's spare places count too). A statement '..UptoSaid' is the law's where the arguments, and the package variables that the reading takes, are together of bulk at most 1048576: NARROWER than '..Said'. Prove '..Said' where nothing that the law and all that it calls make is longer than what came in: it says more and counts as full. Else prove '..UptoSaid'. A law counts once. -/
mutual
def uptoBulk {H : Type} : DataW H → Nat
  | .lit (.string bytes) => bytes.length + 1
  | .lit _ => 1
  | .nil => 1
  | .ptr d => uptoBulk d + 1
  | .slice elems spare => uptoBulkAll elems + uptoBulkAll spare + 1
  | .agg parts => uptoBulkAll parts + 1
  | .iface _ d => uptoBulk d + 1
  | .map entries => uptoBulkEntries entries + 1
  | .held _ => 1
def uptoBulkAll {H : Type} : List (DataW H) → Nat
  | [] => 0
  | d :: r => uptoBulk d + uptoBulkAll r
def uptoBulkEntries {H : Type} : List (Lit × DataW H) → Nat
  | [] => 0
  | x :: r => uptoBulkEntry x + uptoBulkEntries r
def uptoBulkEntry {H : Type} : Lit × DataW H → Nat
  | (.string bytes, d) => bytes.length + uptoBulk d + 1
  | (_, d) => uptoBulk d + 1
 end
def uptoSmall : (H : Type) → List (DataW H) → Bool := fun _ ds => decide (uptoBulkAll ds ≤ 1048576)
def OpenSpec.upto (s : _root_.Go.ChangeSpec) : _root_.Go.OpenSpec := { _root_.Go.OpenSpec.ofChange s with cond := some uptoSmall }

/-- 'laws.FnExactGiveJobs', WHERE WHAT IT READS IS OF BULK AT MOST 1048576: true; the input reads as it did. -/
def fnExactGiveJobsUptoRow : OpenClaim := { program := "ytnamefdhmlbcpaa", sum := "34aecd25b0aea56eab04df7b43435faf4b7433c6e0100c44d79cee7bab1594b6", func := "loop.example/g01054/laws.FnExactGiveJobs", spec := "fnExactGiveJobs", recurses := true, apart := false, narrowed := true }
def FnExactGiveJobsUptoSaid : Prop := fnExactGiveJobsUptoRow.holds Try.pinned (OpenSpec.upto fnExactGiveJobsSpec)

/-- 'laws.FnExactMonthsTo', WHERE WHAT IT READS IS OF BULK AT MOST 1048576: true; the input reads as it did. -/
def fnExactMonthsToUptoRow : OpenClaim := { program := "ytnamefdhmlbcpaa", sum := "34aecd25b0aea56eab04df7b43435faf4b7433c6e0100c44d79cee7bab1594b6", func := "loop.example/g01054/laws.FnExactMonthsTo", spec := "fnExactMonthsTo", recurses := true, apart := false, narrowed := true }
def FnExactMonthsToUptoSaid : Prop := fnExactMonthsToUptoRow.holds Try.pinned (OpenSpec.upto fnExactMonthsToSpec)

/-- 'laws.FnExactMissingCrafts', WHERE WHAT IT READS IS OF BULK AT MOST 1048576: true; the input reads as it did. -/
def fnExactMissingCraftsUptoRow : OpenClaim := { program := "ytnamefdhmlbcpaa", sum := "34aecd25b0aea56eab04df7b43435faf4b7433c6e0100c44d79cee7bab1594b6", func := "loop.example/g01054/laws.FnExactMissingCrafts", spec := "fnExactMissingCrafts", recurses := true, apart := false, narrowed := true }
def FnExactMissingCraftsUptoSaid : Prop := fnExactMissingCraftsUptoRow.holds Try.pinned (OpenSpec.upto fnExactMissingCraftsSpec)

/-- 'laws.FnExactLearnInOrder', WHERE WHAT IT READS IS OF BULK AT MOST 1048576: true; the input reads as it did. -/
def fnExactLearnInOrderUptoRow : OpenClaim := { program := "ytnamefdhmlbcpaa", sum := "34aecd25b0aea56eab04df7b43435faf4b7433c6e0100c44d79cee7bab1594b6", func := "loop.example/g01054/laws.FnExactLearnInOrder", spec := "fnExactLearnInOrder", recurses := true, apart := false, narrowed := true }
def FnExactLearnInOrderUptoSaid : Prop := fnExactLearnInOrderUptoRow.holds Try.pinned (OpenSpec.upto fnExactLearnInOrderSpec)

/-- 'laws.FnCrafts', WHERE WHAT IT READS IS OF BULK AT MOST 1048576: true; the input reads as it did. -/
def fnCraftsUptoRow : OpenClaim := { program := "ytnamefdhmlbcpaa", sum := "34aecd25b0aea56eab04df7b43435faf4b7433c6e0100c44d79cee7bab1594b6", func := "loop.example/g01054/laws.FnCrafts", spec := "fnCrafts", recurses := true, apart := false, narrowed := true }
def FnCraftsUptoSaid : Prop := fnCraftsUptoRow.holds Try.pinned (OpenSpec.upto fnCraftsSpec)

end Rows
end Go.Proofs.Ytnamefdhmlbcpaa
