/-
  No cell of these rows narrows 'for every input' (looked for: loops, veiled, ifaces, maps, wideKeys, modest, calm, conditions, laid).
  DERIVED. THE GIVEN ROWS OF THIS SEAT. 4 by the template 'for every input the law returns true; each argument reads behind the call as it read before'; 0 by the template 'total and deterministic' (their statements: YtjmjepdlclehoaaTotals.lean).
  GIVEN WITH THE SEED: the statements are not yours to turn. If you find one false, say at which input.
  Laid BY PROGRAM, IN A SANDBOX (cutbox-rows.mjs): the forced cells as the released guide's own fill.sh prints them over the translation b3112ef46c7ce355… (all of the seat's roots in one cut). By AI agents, Wed Nov 11 2026. No macro, syntax, notation, axiom, sorry.
-/
import Derived.Test.YtjmjepdlclehoaaChecked
import GoSem.Claim
import GoSem.ClaimJoined
import GoSem.ClaimMapViews
import Derived.JoinedTies
import Derived.KernelRfl
namespace Go.Proofs.Ytjmjepdlclehoaa
/- THE CELL 'sum', in the pinned program and in every row, IS THE sha256 OF THE DUMP (.gsa) THAT YtjmjepdlclehoaaProg.lean LOADS. Nothing in Lean hashes anything: it is a label: what it is worth is what the hold of that sum in a sandbox is worth. -/
noncomputable def Try.pinned : Pinned := { name := "ytjmjepdlclehoaa", sum := "b3112ef46c7ce355d6b878d77b493796a212f441973ad082921e63ee16d7da1c", checked := Try.checked }
namespace Rows
def none {H : Type} : Left H := { results := [], args := [] }

/-- 'laws.FnMachineShares': WHATEVER THE INPUT: true; the input reads as it did. -/
def fnMachineSharesSpec : ChangeSpec := { name := "fnMachineShares", fn := fun _ => fun
  | [d1, d2] => { results := [.lit (.bool true)], args := [d1, d2] }
  | _ => none }
def fnMachineSharesRow : OpenClaim := { program := "ytjmjepdlclehoaa", sum := "b3112ef46c7ce355d6b878d77b493796a212f441973ad082921e63ee16d7da1c", func := "loop.example/g01054/laws.FnMachineShares", spec := "fnMachineShares", unfollowed := true, recurses := true, apart := false }
def FnMachineSharesSaid : Prop := fnMachineSharesRow.holds Try.pinned (OpenSpec.ofChange fnMachineSharesSpec)

/-- ITS FALSE NEIGHBOUR: 'it returns false'. Refute it at one input. -/
def fnMachineSharesWrong : ChangeSpec := { name := "fnMachineShares", fn := fun _ => fun
  | [d1, d2] => { results := [.lit (.bool false)], args := [d1, d2] }
  | _ => none }
def FnMachineSharesWrongFalsely : Prop := fnMachineSharesRow.holds Try.pinned (OpenSpec.ofChange fnMachineSharesWrong)

/-- 'laws.FnCastOrders': WHATEVER THE INPUT: true; the input reads as it did. -/
def fnCastOrdersSpec : ChangeSpec := { name := "fnCastOrders", fn := fun _ => fun
  | [d1, d2] => { results := [.lit (.bool true)], args := [d1, d2] }
  | _ => none }
def fnCastOrdersRow : OpenClaim := { program := "ytjmjepdlclehoaa", sum := "b3112ef46c7ce355d6b878d77b493796a212f441973ad082921e63ee16d7da1c", func := "loop.example/g01054/laws.FnCastOrders", spec := "fnCastOrders", unfollowed := true, recurses := true, apart := false }
def FnCastOrdersSaid : Prop := fnCastOrdersRow.holds Try.pinned (OpenSpec.ofChange fnCastOrdersSpec)

/-- ITS FALSE NEIGHBOUR: 'it returns false'. Refute it at one input. -/
def fnCastOrdersWrong : ChangeSpec := { name := "fnCastOrders", fn := fun _ => fun
  | [d1, d2] => { results := [.lit (.bool false)], args := [d1, d2] }
  | _ => none }
def FnCastOrdersWrongFalsely : Prop := fnCastOrdersRow.holds Try.pinned (OpenSpec.ofChange fnCastOrdersWrong)

/-- 'laws.FnPressOrders': WHATEVER THE INPUT: true; the input reads as it did. -/
def fnPressOrdersSpec : ChangeSpec := { name := "fnPressOrders", fn := fun _ => fun
  | [d1, d2] => { results := [.lit (.bool true)], args := [d1, d2] }
  | _ => none }
def fnPressOrdersRow : OpenClaim := { program := "ytjmjepdlclehoaa", sum := "b3112ef46c7ce355d6b878d77b493796a212f441973ad082921e63ee16d7da1c", func := "loop.example/g01054/laws.FnPressOrders", spec := "fnPressOrders", unfollowed := true, recurses := true, apart := false }
def FnPressOrdersSaid : Prop := fnPressOrdersRow.holds Try.pinned (OpenSpec.ofChange fnPressOrdersSpec)

/-- ITS FALSE NEIGHBOUR: 'it returns false'. Refute it at one input. -/
def fnPressOrdersWrong : ChangeSpec := { name := "fnPressOrders", fn := fun _ => fun
  | [d1, d2] => { results := [.lit (.bool false)], args := [d1, d2] }
  | _ => none }
def FnPressOrdersWrongFalsely : Prop := fnPressOrdersRow.holds Try.pinned (OpenSpec.ofChange fnPressOrdersWrong)

/-- 'laws.FnPageBreaks': WHATEVER THE INPUT: true; the input reads as it did. -/
def fnPageBreaksSpec : ChangeSpec := { name := "fnPageBreaks", fn := fun _ => fun
  | [d1, d2] => { results := [.lit (.bool true)], args := [d1, d2] }
  | _ => none }
def fnPageBreaksRow : OpenClaim := { program := "ytjmjepdlclehoaa", sum := "b3112ef46c7ce355d6b878d77b493796a212f441973ad082921e63ee16d7da1c", func := "loop.example/g01054/laws.FnPageBreaks", spec := "fnPageBreaks", unfollowed := true, recurses := true, apart := false }
def FnPageBreaksSaid : Prop := fnPageBreaksRow.holds Try.pinned (OpenSpec.ofChange fnPageBreaksSpec)

/-- ITS FALSE NEIGHBOUR: 'it returns false'. Refute it at one input. -/
def fnPageBreaksWrong : ChangeSpec := { name := "fnPageBreaks", fn := fun _ => fun
  | [d1, d2] => { results := [.lit (.bool false)], args := [d1, d2] }
  | _ => none }
def FnPageBreaksWrongFalsely : Prop := fnPageBreaksRow.holds Try.pinned (OpenSpec.ofChange fnPageBreaksWrong)

/- THE SECOND FORM. 'bulk': how many values and letters a reading holds, each counted each time it is reached (what is shared counts as often as it is met; a slice's spare places count too). A statement '..UptoSaid' is the law's where the arguments, and the package variables that the reading takes, are together of bulk at most 1048576: NARROWER than '..Said'. Prove '..Said' where nothing that the law and all that it calls make is longer than what came in: it says more and counts as full. Else prove '..UptoSaid'. A law counts once. -/
mutual
def uptoBulk {H : Type} : DataW H → Nat
  | .lit (.string bytes) => bytes.length + 1
  | .lit _ => 1
  | .nil => 1
  | .ptr d => uptoBulk d + 1
  | .slice elems spare => uptoBulkAll elems + uptoBulkAll spare + 1
  | .agg parts => uptoBulkAll parts + 1
  | .iface _ d => uptoBulk d + 1
  | .map entries => uptoBulkEntries entries + 1
  | .held _ => 1
def uptoBulkAll {H : Type} : List (DataW H) → Nat
  | [] => 0
  | d :: r => uptoBulk d + uptoBulkAll r
def uptoBulkEntries {H : Type} : List (Lit × DataW H) → Nat
  | [] => 0
  | x :: r => uptoBulkEntry x + uptoBulkEntries r
def uptoBulkEntry {H : Type} : Lit × DataW H → Nat
  | (.string bytes, d) => bytes.length + uptoBulk d + 1
  | (_, d) => uptoBulk d + 1
 end
def uptoSmall : (H : Type) → List (DataW H) → Bool := fun _ ds => decide (uptoBulkAll ds ≤ 1048576)
def OpenSpec.upto (s : _root_.Go.ChangeSpec) : _root_.Go.OpenSpec := { _root_.Go.OpenSpec.ofChange s with cond := some uptoSmall }

/-- 'laws.FnMachineShares', WHERE WHAT IT READS IS OF BULK AT MOST 1048576: true; the input reads as it did. -/
def fnMachineSharesUptoRow : OpenClaim := { program := "ytjmjepdlclehoaa", sum := "b3112ef46c7ce355d6b878d77b493796a212f441973ad082921e63ee16d7da1c", func := "loop.example/g01054/laws.FnMachineShares", spec := "fnMachineShares", unfollowed := true, recurses := true, apart := false, narrowed := true }
def FnMachineSharesUptoSaid : Prop := fnMachineSharesUptoRow.holds Try.pinned (OpenSpec.upto fnMachineSharesSpec)

/-- 'laws.FnCastOrders', WHERE WHAT IT READS IS OF BULK AT MOST 1048576: true; the input reads as it did. -/
def fnCastOrdersUptoRow : OpenClaim := { program := "ytjmjepdlclehoaa", sum := "b3112ef46c7ce355d6b878d77b493796a212f441973ad082921e63ee16d7da1c", func := "loop.example/g01054/laws.FnCastOrders", spec := "fnCastOrders", unfollowed := true, recurses := true, apart := false, narrowed := true }
def FnCastOrdersUptoSaid : Prop := fnCastOrdersUptoRow.holds Try.pinned (OpenSpec.upto fnCastOrdersSpec)

/-- 'laws.FnPressOrders', WHERE WHAT IT READS IS OF BULK AT MOST 1048576: true; the input reads as it did. -/
def fnPressOrdersUptoRow : OpenClaim := { program := "ytjmjepdlclehoaa", sum := "b3112ef46c7ce355d6b878d77b493796a212f441973ad082921e63ee16d7da1c", func := "loop.example/g01054/laws.FnPressOrders", spec := "fnPressOrders", unfollowed := true, recurses := true, apart := false, narrowed := true }
def FnPressOrdersUptoSaid : Prop := fnPressOrdersUptoRow.holds Try.pinned (OpenSpec.upto fnPressOrdersSpec)

/-- 'laws.FnPageBreaks', WHERE WHAT IT READS IS OF BULK AT MOST 1048576: true; the input reads as it did. -/
def fnPageBreaksUptoRow : OpenClaim := { program := "ytjmjepdlclehoaa", sum := "b3112ef46c7ce355d6b878d77b493796a212f441973ad082921e63ee16d7da1c", func := "loop.example/g01054/laws.FnPageBreaks", spec := "fnPageBreaks", unfollowed := true, recurses := true, apart := false, narrowed := true }
def FnPageBreaksUptoSaid : Prop := fnPageBreaksUptoRow.holds Try.pinned (OpenSpec.upto fnPageBreaksSpec)

end Rows
end Go.Proofs.Ytjmjepdlclehoaa
