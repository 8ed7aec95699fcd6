/-
  No cell of these rows narrows 'for every input' (looked for: loops, veiled, ifaces, maps, wideKeys, modest, calm, conditions, laid).
  DERIVED. THE GIVEN ROWS OF THIS SEAT. 3 by the template 'for every input the law returns true; each argument reads behind the call as it read before'; 0 by the template 'total and deterministic' (their statements: YtalookmhhkojeaaTotals.lean).
  GIVEN WITH THE SEED: the statements are not yours to turn. If you find one false, say at which input.
  Laid BY PROGRAM, IN A SANDBOX (cutbox-rows.mjs): the forced cells as the released guide's own fill.sh prints them over the translation 1a3ddfcea93daa36… (all of the seat's roots in one cut). By AI agents, Wed Nov 11 2026. No macro, syntax, notation, axiom, sorry.
-/
import Derived.Test.YtalookmhhkojeaaChecked
import GoSem.Claim
import GoSem.ClaimJoined
import GoSem.ClaimMapViews
import Derived.JoinedTies
import Derived.KernelRfl
namespace Go.Proofs.Ytalookmhhkojeaa
/- THE CELL 'sum', in the pinned program and in every row, IS THE sha256 OF THE DUMP (.gsa) THAT YtalookmhhkojeaaProg.lean LOADS. Nothing in Lean hashes anything: it is a label: what it is worth is what the hold of that sum in a sandbox is worth. -/
noncomputable def Try.pinned : Pinned := { name := "ytalookmhhkojeaa", sum := "1a3ddfcea93daa3643559d29f475b66d1b4226f5b1503a6c12d62bc3d4b48620", checked := Try.checked }
namespace Rows
def none {H : Type} : Left H := { results := [], args := [] }

/-- 'laws.FnPageBreaks': WHATEVER THE INPUT: true; the input reads as it did. -/
def fnPageBreaksSpec : ChangeSpec := { name := "fnPageBreaks", fn := fun _ => fun
  | [d1, d2] => { results := [.lit (.bool true)], args := [d1, d2] }
  | _ => none }
def fnPageBreaksRow : OpenClaim := { program := "ytalookmhhkojeaa", sum := "1a3ddfcea93daa3643559d29f475b66d1b4226f5b1503a6c12d62bc3d4b48620", func := "loop.example/g01054/laws.FnPageBreaks", spec := "fnPageBreaks", unfollowed := true, recurses := true, apart := false }
def FnPageBreaksSaid : Prop := fnPageBreaksRow.holds Try.pinned (OpenSpec.ofChange fnPageBreaksSpec)

/-- ITS FALSE NEIGHBOUR: 'it returns false'. Refute it at one input. -/
def fnPageBreaksWrong : ChangeSpec := { name := "fnPageBreaks", fn := fun _ => fun
  | [d1, d2] => { results := [.lit (.bool false)], args := [d1, d2] }
  | _ => none }
def FnPageBreaksWrongFalsely : Prop := fnPageBreaksRow.holds Try.pinned (OpenSpec.ofChange fnPageBreaksWrong)

/-- 'laws.FnParagraphs': WHATEVER THE INPUT: true; the input reads as it did. -/
def fnParagraphsSpec : ChangeSpec := { name := "fnParagraphs", fn := fun _ => fun
  | [d1, d2] => { results := [.lit (.bool true)], args := [d1, d2] }
  | _ => none }
def fnParagraphsRow : OpenClaim := { program := "ytalookmhhkojeaa", sum := "1a3ddfcea93daa3643559d29f475b66d1b4226f5b1503a6c12d62bc3d4b48620", func := "loop.example/g01054/laws.FnParagraphs", spec := "fnParagraphs", recurses := true, apart := false }
def FnParagraphsSaid : Prop := fnParagraphsRow.holds Try.pinned (OpenSpec.ofChange fnParagraphsSpec)

/-- ITS FALSE NEIGHBOUR: 'it returns false'. Refute it at one input. -/
def fnParagraphsWrong : ChangeSpec := { name := "fnParagraphs", fn := fun _ => fun
  | [d1, d2] => { results := [.lit (.bool false)], args := [d1, d2] }
  | _ => none }
def FnParagraphsWrongFalsely : Prop := fnParagraphsRow.holds Try.pinned (OpenSpec.ofChange fnParagraphsWrong)

/-- 'laws.FnLineBreaks': WHATEVER THE INPUT: true; the input reads as it did. -/
def fnLineBreaksSpec : ChangeSpec := { name := "fnLineBreaks", fn := fun _ => fun
  | [d1, d2] => { results := [.lit (.bool true)], args := [d1, d2] }
  | _ => none }
def fnLineBreaksRow : OpenClaim := { program := "ytalookmhhkojeaa", sum := "1a3ddfcea93daa3643559d29f475b66d1b4226f5b1503a6c12d62bc3d4b48620", func := "loop.example/g01054/laws.FnLineBreaks", spec := "fnLineBreaks", recurses := true, apart := false }
def FnLineBreaksSaid : Prop := fnLineBreaksRow.holds Try.pinned (OpenSpec.ofChange fnLineBreaksSpec)

/-- ITS FALSE NEIGHBOUR: 'it returns false'. Refute it at one input. -/
def fnLineBreaksWrong : ChangeSpec := { name := "fnLineBreaks", fn := fun _ => fun
  | [d1, d2] => { results := [.lit (.bool false)], args := [d1, d2] }
  | _ => none }
def FnLineBreaksWrongFalsely : Prop := fnLineBreaksRow.holds Try.pinned (OpenSpec.ofChange fnLineBreaksWrong)

/- THE SECOND FORM. 'bulk': how many values and letters a reading holds, each counted each time it is reached (what is shared counts as often as it is met; a slice's spare places count too). A statement '..UptoSaid' is the law's where the arguments, and the package variables that the reading takes, are together of bulk at most 1048576: NARROWER than '..Said'. Prove '..Said' where nothing that the law and all that it calls make is longer than what came in: it says more and counts as full. Else prove '..UptoSaid'. A law counts once. -/
mutual
def uptoBulk {H : Type} : DataW H → Nat
  | .lit (.string bytes) => bytes.length + 1
  | .lit _ => 1
  | .nil => 1
  | .ptr d => uptoBulk d + 1
  | .slice elems spare => uptoBulkAll elems + uptoBulkAll spare + 1
  | .agg parts => uptoBulkAll parts + 1
  | .iface _ d => uptoBulk d + 1
  | .map entries => uptoBulkEntries entries + 1
  | .held _ => 1
def uptoBulkAll {H : Type} : List (DataW H) → Nat
  | [] => 0
  | d :: r => uptoBulk d + uptoBulkAll r
def uptoBulkEntries {H : Type} : List (Lit × DataW H) → Nat
  | [] => 0
  | x :: r => uptoBulkEntry x + uptoBulkEntries r
def uptoBulkEntry {H : Type} : Lit × DataW H → Nat
  | (.string bytes, d) => bytes.length + uptoBulk d + 1
  | (_, d) => uptoBulk d + 1
 end
def uptoSmall : (H : Type) → List (DataW H) → Bool := fun _ ds => decide (uptoBulkAll ds ≤ 1048576)
def OpenSpec.upto (s : _root_.Go.ChangeSpec) : _root_.Go.OpenSpec := { _root_.Go.OpenSpec.ofChange s with cond := some uptoSmall }

/-- 'laws.FnPageBreaks', WHERE WHAT IT READS IS OF BULK AT MOST 1048576: true; the input reads as it did. -/
def fnPageBreaksUptoRow : OpenClaim := { program := "ytalookmhhkojeaa", sum := "1a3ddfcea93daa3643559d29f475b66d1b4226f5b1503a6c12d62bc3d4b48620", func := "loop.example/g01054/laws.FnPageBreaks", spec := "fnPageBreaks", unfollowed := true, recurses := true, apart := false, narrowed := true }
def FnPageBreaksUptoSaid : Prop := fnPageBreaksUptoRow.holds Try.pinned (OpenSpec.upto fnPageBreaksSpec)

/-- 'laws.FnParagraphs', WHERE WHAT IT READS IS OF BULK AT MOST 1048576: true; the input reads as it did. -/
def fnParagraphsUptoRow : OpenClaim := { program := "ytalookmhhkojeaa", sum := "1a3ddfcea93daa3643559d29f475b66d1b4226f5b1503a6c12d62bc3d4b48620", func := "loop.example/g01054/laws.FnParagraphs", spec := "fnParagraphs", recurses := true, apart := false, narrowed := true }
def FnParagraphsUptoSaid : Prop := fnParagraphsUptoRow.holds Try.pinned (OpenSpec.upto fnParagraphsSpec)

/-- 'laws.FnLineBreaks', WHERE WHAT IT READS IS OF BULK AT MOST 1048576: true; the input reads as it did. -/
def fnLineBreaksUptoRow : OpenClaim := { program := "ytalookmhhkojeaa", sum := "1a3ddfcea93daa3643559d29f475b66d1b4226f5b1503a6c12d62bc3d4b48620", func := "loop.example/g01054/laws.FnLineBreaks", spec := "fnLineBreaks", recurses := true, apart := false, narrowed := true }
def FnLineBreaksUptoSaid : Prop := fnLineBreaksUptoRow.holds Try.pinned (OpenSpec.upto fnLineBreaksSpec)

end Rows
end Go.Proofs.Ytalookmhhkojeaa
