/-
  No cell of these rows narrows 'for every input' (looked for: loops, veiled, ifaces, maps, wideKeys, modest, calm, conditions, laid).
  DERIVED. THE GIVEN ROWS OF THIS SEAT. 4 by the template 'for every input the law returns true; each argument reads behind the call as it read before'; 0 by the template 'total and deterministic' (their statements: YtifkjlpkhfldoaaTotals.lean).
  GIVEN WITH THE SEED: the statements are not yours to turn. If you find one false, say at which input.
  Laid BY PROGRAM, IN A SANDBOX (cutbox-rows.mjs): the forced cells as the released guide's own fill.sh prints them over the translation 25bd4cae8ae17471… (all of the seat's roots in one cut). By AI agents, Wed Nov 11 2026. No macro, syntax, notation, axiom, sorry.
-/
import Derived.Test.YtifkjlpkhfldoaaChecked
import GoSem.Claim
import GoSem.ClaimJoined
import GoSem.ClaimMapViews
import Derived.JoinedTies
import Derived.KernelRfl
namespace Go.Proofs.Ytifkjlpkhfldoaa
/- THE CELL 'sum', in the pinned program and in every row, IS THE sha256 OF THE DUMP (.gsa) THAT YtifkjlpkhfldoaaProg.lean LOADS. Nothing in Lean hashes anything: it is a label: what it is worth is what the hold of that sum in a sandbox is worth. -/
noncomputable def Try.pinned : Pinned := { name := "ytifkjlpkhfldoaa", sum := "25bd4cae8ae1747169aeba5d57e2fbf97c94085a186c66afb3d7a41af75f70aa", checked := Try.checked }
namespace Rows
def none {H : Type} : Left H := { results := [], args := [] }

/-- 'laws.FnParallels': WHATEVER THE INPUT: true; the input reads as it did. -/
def fnParallelsSpec : ChangeSpec := { name := "fnParallels", fn := fun _ => fun
  | [d1, d2] => { results := [.lit (.bool true)], args := [d1, d2] }
  | _ => none }
def fnParallelsRow : OpenClaim := { program := "ytifkjlpkhfldoaa", sum := "25bd4cae8ae1747169aeba5d57e2fbf97c94085a186c66afb3d7a41af75f70aa", func := "loop.example/g01054/laws.FnParallels", spec := "fnParallels", apart := false }
def FnParallelsSaid : Prop := fnParallelsRow.holds Try.pinned (OpenSpec.ofChange fnParallelsSpec)

/-- ITS FALSE NEIGHBOUR: 'it returns false'. Refute it at one input. -/
def fnParallelsWrong : ChangeSpec := { name := "fnParallels", fn := fun _ => fun
  | [d1, d2] => { results := [.lit (.bool false)], args := [d1, d2] }
  | _ => none }
def FnParallelsWrongFalsely : Prop := fnParallelsRow.holds Try.pinned (OpenSpec.ofChange fnParallelsWrong)

/-- 'laws.FnCopies': WHATEVER THE INPUT: true; the input reads as it did. -/
def fnCopiesSpec : ChangeSpec := { name := "fnCopies", fn := fun _ => fun
  | [d1, d2] => { results := [.lit (.bool true)], args := [d1, d2] }
  | _ => none }
def fnCopiesRow : OpenClaim := { program := "ytifkjlpkhfldoaa", sum := "25bd4cae8ae1747169aeba5d57e2fbf97c94085a186c66afb3d7a41af75f70aa", func := "loop.example/g01054/laws.FnCopies", spec := "fnCopies", apart := false }
def FnCopiesSaid : Prop := fnCopiesRow.holds Try.pinned (OpenSpec.ofChange fnCopiesSpec)

/-- ITS FALSE NEIGHBOUR: 'it returns false'. Refute it at one input. -/
def fnCopiesWrong : ChangeSpec := { name := "fnCopies", fn := fun _ => fun
  | [d1, d2] => { results := [.lit (.bool false)], args := [d1, d2] }
  | _ => none }
def FnCopiesWrongFalsely : Prop := fnCopiesRow.holds Try.pinned (OpenSpec.ofChange fnCopiesWrong)

/-- 'laws.FnSettings': WHATEVER THE INPUT: true; the input reads as it did. -/
def fnSettingsSpec : ChangeSpec := { name := "fnSettings", fn := fun _ => fun
  | [d1, d2] => { results := [.lit (.bool true)], args := [d1, d2] }
  | _ => none }
def fnSettingsRow : OpenClaim := { program := "ytifkjlpkhfldoaa", sum := "25bd4cae8ae1747169aeba5d57e2fbf97c94085a186c66afb3d7a41af75f70aa", func := "loop.example/g01054/laws.FnSettings", spec := "fnSettings", apart := false }
def FnSettingsSaid : Prop := fnSettingsRow.holds Try.pinned (OpenSpec.ofChange fnSettingsSpec)

/-- ITS FALSE NEIGHBOUR: 'it returns false'. Refute it at one input. -/
def fnSettingsWrong : ChangeSpec := { name := "fnSettings", fn := fun _ => fun
  | [d1, d2] => { results := [.lit (.bool false)], args := [d1, d2] }
  | _ => none }
def FnSettingsWrongFalsely : Prop := fnSettingsRow.holds Try.pinned (OpenSpec.ofChange fnSettingsWrong)

/-- 'laws.FnMisputs': WHATEVER THE INPUT: true; the input reads as it did. -/
def fnMisputsSpec : ChangeSpec := { name := "fnMisputs", fn := fun _ => fun
  | [d1, d2] => { results := [.lit (.bool true)], args := [d1, d2] }
  | _ => none }
def fnMisputsRow : OpenClaim := { program := "ytifkjlpkhfldoaa", sum := "25bd4cae8ae1747169aeba5d57e2fbf97c94085a186c66afb3d7a41af75f70aa", func := "loop.example/g01054/laws.FnMisputs", spec := "fnMisputs", apart := false }
def FnMisputsSaid : Prop := fnMisputsRow.holds Try.pinned (OpenSpec.ofChange fnMisputsSpec)

/-- ITS FALSE NEIGHBOUR: 'it returns false'. Refute it at one input. -/
def fnMisputsWrong : ChangeSpec := { name := "fnMisputs", fn := fun _ => fun
  | [d1, d2] => { results := [.lit (.bool false)], args := [d1, d2] }
  | _ => none }
def FnMisputsWrongFalsely : Prop := fnMisputsRow.holds Try.pinned (OpenSpec.ofChange fnMisputsWrong)

/- THE SECOND FORM. 'bulk': how many values and letters a reading holds, each counted each time it is reached (what is shared counts as often as it is met; a slice's spare places count too). A statement '..UptoSaid' is the law's where the arguments, and the package variables that the reading takes, are together of bulk at most 1048576: NARROWER than '..Said'. Prove '..Said' where nothing that the law and all that it calls make is longer than what came in: it says more and counts as full. Else prove '..UptoSaid'. A law counts once. -/
mutual
def uptoBulk {H : Type} : DataW H → Nat
  | .lit (.string bytes) => bytes.length + 1
  | .lit _ => 1
  | .nil => 1
  | .ptr d => uptoBulk d + 1
  | .slice elems spare => uptoBulkAll elems + uptoBulkAll spare + 1
  | .agg parts => uptoBulkAll parts + 1
  | .iface _ d => uptoBulk d + 1
  | .map entries => uptoBulkEntries entries + 1
  | .held _ => 1
def uptoBulkAll {H : Type} : List (DataW H) → Nat
  | [] => 0
  | d :: r => uptoBulk d + uptoBulkAll r
def uptoBulkEntries {H : Type} : List (Lit × DataW H) → Nat
  | [] => 0
  | x :: r => uptoBulkEntry x + uptoBulkEntries r
def uptoBulkEntry {H : Type} : Lit × DataW H → Nat
  | (.string bytes, d) => bytes.length + uptoBulk d + 1
  | (_, d) => uptoBulk d + 1
 end
def uptoSmall : (H : Type) → List (DataW H) → Bool := fun _ ds => decide (uptoBulkAll ds ≤ 1048576)
def OpenSpec.upto (s : _root_.Go.ChangeSpec) : _root_.Go.OpenSpec := { _root_.Go.OpenSpec.ofChange s with cond := some uptoSmall }

/-- 'laws.FnParallels', WHERE WHAT IT READS IS OF BULK AT MOST 1048576: true; the input reads as it did. -/
def fnParallelsUptoRow : OpenClaim := { program := "ytifkjlpkhfldoaa", sum := "25bd4cae8ae1747169aeba5d57e2fbf97c94085a186c66afb3d7a41af75f70aa", func := "loop.example/g01054/laws.FnParallels", spec := "fnParallels", apart := false, narrowed := true }
def FnParallelsUptoSaid : Prop := fnParallelsUptoRow.holds Try.pinned (OpenSpec.upto fnParallelsSpec)

/-- 'laws.FnCopies', WHERE WHAT IT READS IS OF BULK AT MOST 1048576: true; the input reads as it did. -/
def fnCopiesUptoRow : OpenClaim := { program := "ytifkjlpkhfldoaa", sum := "25bd4cae8ae1747169aeba5d57e2fbf97c94085a186c66afb3d7a41af75f70aa", func := "loop.example/g01054/laws.FnCopies", spec := "fnCopies", apart := false, narrowed := true }
def FnCopiesUptoSaid : Prop := fnCopiesUptoRow.holds Try.pinned (OpenSpec.upto fnCopiesSpec)

/-- 'laws.FnSettings', WHERE WHAT IT READS IS OF BULK AT MOST 1048576: true; the input reads as it did. -/
def fnSettingsUptoRow : OpenClaim := { program := "ytifkjlpkhfldoaa", sum := "25bd4cae8ae1747169aeba5d57e2fbf97c94085a186c66afb3d7a41af75f70aa", func := "loop.example/g01054/laws.FnSettings", spec := "fnSettings", apart := false, narrowed := true }
def FnSettingsUptoSaid : Prop := fnSettingsUptoRow.holds Try.pinned (OpenSpec.upto fnSettingsSpec)

/-- 'laws.FnMisputs', WHERE WHAT IT READS IS OF BULK AT MOST 1048576: true; the input reads as it did. -/
def fnMisputsUptoRow : OpenClaim := { program := "ytifkjlpkhfldoaa", sum := "25bd4cae8ae1747169aeba5d57e2fbf97c94085a186c66afb3d7a41af75f70aa", func := "loop.example/g01054/laws.FnMisputs", spec := "fnMisputs", apart := false, narrowed := true }
def FnMisputsUptoSaid : Prop := fnMisputsUptoRow.holds Try.pinned (OpenSpec.upto fnMisputsSpec)

end Rows
end Go.Proofs.Ytifkjlpkhfldoaa
