/-
  No cell of these rows narrows 'for every input' (looked for: loops, veiled, ifaces, maps, wideKeys, modest, calm, conditions, laid).
  DERIVED. THE GIVEN ROWS OF THIS SEAT. 4 by the template 'for every input the law returns true; each argument reads behind the call as it read before'; 0 by the template 'total and deterministic' (their statements: YtiaodmfipeoegaaTotals.lean).
  GIVEN WITH THE SEED: the statements are not yours to turn. If you find one false, say at which input.
  Laid BY PROGRAM, IN A SANDBOX (cutbox-rows.mjs): the forced cells as the released guide's own fill.sh prints them over the translation c2e61168429ce79b… (all of the seat's roots in one cut). By AI agents, Wed Nov 11 2026. No macro, syntax, notation, axiom, sorry.
-/
import Derived.Test.YtiaodmfipeoegaaChecked
import GoSem.Claim
import GoSem.ClaimJoined
import GoSem.ClaimMapViews
import Derived.JoinedTies
import Derived.KernelRfl
namespace Go.Proofs.Ytiaodmfipeoegaa
/- THE CELL 'sum', in the pinned program and in every row, IS THE sha256 OF THE DUMP (.gsa) THAT YtiaodmfipeoegaaProg.lean LOADS. Nothing in Lean hashes anything: it is a label: what it is worth is what the hold of that sum in a sandbox is worth. -/
noncomputable def Try.pinned : Pinned := { name := "ytiaodmfipeoegaa", sum := "c2e61168429ce79b5faecce4e25c2c9e7a5a91bf35b3637ce1377e6713b1604e", checked := Try.checked }
namespace Rows
def none {H : Type} : Left H := { results := [], args := [] }

/-- 'laws.FnChases': WHATEVER THE INPUT: true; the input reads as it did. -/
def fnChasesSpec : ChangeSpec := { name := "fnChases", fn := fun _ => fun
  | [d1, d2] => { results := [.lit (.bool true)], args := [d1, d2] }
  | _ => none }
def fnChasesRow : OpenClaim := { program := "ytiaodmfipeoegaa", sum := "c2e61168429ce79b5faecce4e25c2c9e7a5a91bf35b3637ce1377e6713b1604e", func := "loop.example/g01054/laws.FnChases", spec := "fnChases", inPlace := ["internal/abi.NoEscape"], recurses := true, apart := false }
def FnChasesSaid : Prop := fnChasesRow.holds Try.pinned (OpenSpec.ofChange fnChasesSpec)

/-- ITS FALSE NEIGHBOUR: 'it returns false'. Refute it at one input. -/
def fnChasesWrong : ChangeSpec := { name := "fnChases", fn := fun _ => fun
  | [d1, d2] => { results := [.lit (.bool false)], args := [d1, d2] }
  | _ => none }
def FnChasesWrongFalsely : Prop := fnChasesRow.holds Try.pinned (OpenSpec.ofChange fnChasesWrong)

/-- 'laws.FnFurniture': WHATEVER THE INPUT: true; the input reads as it did. -/
def fnFurnitureSpec : ChangeSpec := { name := "fnFurniture", fn := fun _ => fun
  | [d1, d2] => { results := [.lit (.bool true)], args := [d1, d2] }
  | _ => none }
def fnFurnitureRow : OpenClaim := { program := "ytiaodmfipeoegaa", sum := "c2e61168429ce79b5faecce4e25c2c9e7a5a91bf35b3637ce1377e6713b1604e", func := "loop.example/g01054/laws.FnFurniture", spec := "fnFurniture", recurses := true, apart := false }
def FnFurnitureSaid : Prop := fnFurnitureRow.holds Try.pinned (OpenSpec.ofChange fnFurnitureSpec)

/-- ITS FALSE NEIGHBOUR: 'it returns false'. Refute it at one input. -/
def fnFurnitureWrong : ChangeSpec := { name := "fnFurniture", fn := fun _ => fun
  | [d1, d2] => { results := [.lit (.bool false)], args := [d1, d2] }
  | _ => none }
def FnFurnitureWrongFalsely : Prop := fnFurnitureRow.holds Try.pinned (OpenSpec.ofChange fnFurnitureWrong)

/-- 'laws.FnLocks': WHATEVER THE INPUT: true; the input reads as it did. -/
def fnLocksSpec : ChangeSpec := { name := "fnLocks", fn := fun _ => fun
  | [d1, d2] => { results := [.lit (.bool true)], args := [d1, d2] }
  | _ => none }
def fnLocksRow : OpenClaim := { program := "ytiaodmfipeoegaa", sum := "c2e61168429ce79b5faecce4e25c2c9e7a5a91bf35b3637ce1377e6713b1604e", func := "loop.example/g01054/laws.FnLocks", spec := "fnLocks", recurses := true, apart := false }
def FnLocksSaid : Prop := fnLocksRow.holds Try.pinned (OpenSpec.ofChange fnLocksSpec)

/-- ITS FALSE NEIGHBOUR: 'it returns false'. Refute it at one input. -/
def fnLocksWrong : ChangeSpec := { name := "fnLocks", fn := fun _ => fun
  | [d1, d2] => { results := [.lit (.bool false)], args := [d1, d2] }
  | _ => none }
def FnLocksWrongFalsely : Prop := fnLocksRow.holds Try.pinned (OpenSpec.ofChange fnLocksWrong)

/-- 'laws.FnLineBreaks': WHATEVER THE INPUT: true; the input reads as it did. -/
def fnLineBreaksSpec : ChangeSpec := { name := "fnLineBreaks", fn := fun _ => fun
  | [d1, d2] => { results := [.lit (.bool true)], args := [d1, d2] }
  | _ => none }
def fnLineBreaksRow : OpenClaim := { program := "ytiaodmfipeoegaa", sum := "c2e61168429ce79b5faecce4e25c2c9e7a5a91bf35b3637ce1377e6713b1604e", func := "loop.example/g01054/laws.FnLineBreaks", spec := "fnLineBreaks", recurses := true, apart := false }
def FnLineBreaksSaid : Prop := fnLineBreaksRow.holds Try.pinned (OpenSpec.ofChange fnLineBreaksSpec)

/-- ITS FALSE NEIGHBOUR: 'it returns false'. Refute it at one input. -/
def fnLineBreaksWrong : ChangeSpec := { name := "fnLineBreaks", fn := fun _ => fun
  | [d1, d2] => { results := [.lit (.bool false)], args := [d1, d2] }
  | _ => none }
def FnLineBreaksWrongFalsely : Prop := fnLineBreaksRow.holds Try.pinned (OpenSpec.ofChange fnLineBreaksWrong)

/- THE SECOND FORM. 'bulk': how many values and letters a reading holds, each counted each time it is reached (what is shared counts as often as it is met; a slice's spare places count too). A statement '..UptoSaid' is the law's where the arguments, and the package variables that the reading takes, are together of bulk at most 1048576: NARROWER than '..Said'. Prove '..Said' where nothing that the law and all that it calls make is longer than what came in: it says more and counts as full. Else prove '..UptoSaid'. A law counts once. -/
mutual
def uptoBulk {H : Type} : DataW H → Nat
  | .lit (.string bytes) => bytes.length + 1
  | .lit _ => 1
  | .nil => 1
  | .ptr d => uptoBulk d + 1
  | .slice elems spare => uptoBulkAll elems + uptoBulkAll spare + 1
  | .agg parts => uptoBulkAll parts + 1
  | .iface _ d => uptoBulk d + 1
  | .map entries => uptoBulkEntries entries + 1
  | .held _ => 1
def uptoBulkAll {H : Type} : List (DataW H) → Nat
  | [] => 0
  | d :: r => uptoBulk d + uptoBulkAll r
def uptoBulkEntries {H : Type} : List (Lit × DataW H) → Nat
  | [] => 0
  | x :: r => uptoBulkEntry x + uptoBulkEntries r
def uptoBulkEntry {H : Type} : Lit × DataW H → Nat
  | (.string bytes, d) => bytes.length + uptoBulk d + 1
  | (_, d) => uptoBulk d + 1
 end
def uptoSmall : (H : Type) → List (DataW H) → Bool := fun _ ds => decide (uptoBulkAll ds ≤ 1048576)
def OpenSpec.upto (s : _root_.Go.ChangeSpec) : _root_.Go.OpenSpec := { _root_.Go.OpenSpec.ofChange s with cond := some uptoSmall }

/-- 'laws.FnChases', WHERE WHAT IT READS IS OF BULK AT MOST 1048576: true; the input reads as it did. -/
def fnChasesUptoRow : OpenClaim := { program := "ytiaodmfipeoegaa", sum := "c2e61168429ce79b5faecce4e25c2c9e7a5a91bf35b3637ce1377e6713b1604e", func := "loop.example/g01054/laws.FnChases", spec := "fnChases", inPlace := ["internal/abi.NoEscape"], recurses := true, apart := false, narrowed := true }
def FnChasesUptoSaid : Prop := fnChasesUptoRow.holds Try.pinned (OpenSpec.upto fnChasesSpec)

/-- 'laws.FnFurniture', WHERE WHAT IT READS IS OF BULK AT MOST 1048576: true; the input reads as it did. -/
def fnFurnitureUptoRow : OpenClaim := { program := "ytiaodmfipeoegaa", sum := "c2e61168429ce79b5faecce4e25c2c9e7a5a91bf35b3637ce1377e6713b1604e", func := "loop.example/g01054/laws.FnFurniture", spec := "fnFurniture", recurses := true, apart := false, narrowed := true }
def FnFurnitureUptoSaid : Prop := fnFurnitureUptoRow.holds Try.pinned (OpenSpec.upto fnFurnitureSpec)

/-- 'laws.FnLocks', WHERE WHAT IT READS IS OF BULK AT MOST 1048576: true; the input reads as it did. -/
def fnLocksUptoRow : OpenClaim := { program := "ytiaodmfipeoegaa", sum := "c2e61168429ce79b5faecce4e25c2c9e7a5a91bf35b3637ce1377e6713b1604e", func := "loop.example/g01054/laws.FnLocks", spec := "fnLocks", recurses := true, apart := false, narrowed := true }
def FnLocksUptoSaid : Prop := fnLocksUptoRow.holds Try.pinned (OpenSpec.upto fnLocksSpec)

/-- 'laws.FnLineBreaks', WHERE WHAT IT READS IS OF BULK AT MOST 1048576: true; the input reads as it did. -/
def fnLineBreaksUptoRow : OpenClaim := { program := "ytiaodmfipeoegaa", sum := "c2e61168429ce79b5faecce4e25c2c9e7a5a91bf35b3637ce1377e6713b1604e", func := "loop.example/g01054/laws.FnLineBreaks", spec := "fnLineBreaks", recurses := true, apart := false, narrowed := true }
def FnLineBreaksUptoSaid : Prop := fnLineBreaksUptoRow.holds Try.pinned (OpenSpec.upto fnLineBreaksSpec)

end Rows
end Go.Proofs.Ytiaodmfipeoegaa
