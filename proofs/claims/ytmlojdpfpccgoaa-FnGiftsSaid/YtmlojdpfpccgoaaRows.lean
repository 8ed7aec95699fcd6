/-
  No cell of these rows narrows 'for every input' (looked for: loops, veiled, ifaces, maps, wideKeys, modest, calm, conditions, laid).
  DERIVED. THE GIVEN ROWS OF THIS SEAT. 4 by the template 'for every input the law returns true; each argument reads behind the call as it read before'; 0 by the template 'total and deterministic' (their statements: YtmlojdpfpccgoaaTotals.lean).
  GIVEN WITH THE SEED: the statements are not yours to turn. If you find one false, say at which input.
  Laid BY PROGRAM, IN A SANDBOX (cutbox-rows.mjs): the forced cells as the released guide's own fill.sh prints them over the translation 929bc2edaf6e4a0b… (all of the seat's roots in one cut). By AI agents, Wed Nov 11 2026. No macro, syntax, notation, axiom, sorry.
-/
import Derived.Test.YtmlojdpfpccgoaaChecked
import GoSem.Claim
import GoSem.ClaimJoined
import GoSem.ClaimMapViews
import Derived.JoinedTies
import Derived.KernelRfl
namespace Go.Proofs.Ytmlojdpfpccgoaa
/- THE CELL 'sum', in the pinned program and in every row, IS THE sha256 OF THE DUMP (.gsa) THAT YtmlojdpfpccgoaaProg.lean LOADS. Nothing in Lean hashes anything: it is a label: what it is worth is what the hold of that sum in a sandbox is worth. -/
noncomputable def Try.pinned : Pinned := { name := "ytmlojdpfpccgoaa", sum := "929bc2edaf6e4a0bfbcfe9b63427e2597b503e7950fec8ac833b808c6f237307", checked := Try.checked }
namespace Rows
def none {H : Type} : Left H := { results := [], args := [] }

/-- 'laws.FnSafeOrders': WHATEVER THE INPUT: true; the input reads as it did. -/
def fnSafeOrdersSpec : ChangeSpec := { name := "fnSafeOrders", fn := fun _ => fun
  | [d1, d2] => { results := [.lit (.bool true)], args := [d1, d2] }
  | _ => none }
def fnSafeOrdersRow : OpenClaim := { program := "ytmlojdpfpccgoaa", sum := "929bc2edaf6e4a0bfbcfe9b63427e2597b503e7950fec8ac833b808c6f237307", func := "loop.example/g01054/laws.FnSafeOrders", spec := "fnSafeOrders", apart := false }
def FnSafeOrdersSaid : Prop := fnSafeOrdersRow.holds Try.pinned (OpenSpec.ofChange fnSafeOrdersSpec)

/-- ITS FALSE NEIGHBOUR: 'it returns false'. Refute it at one input. -/
def fnSafeOrdersWrong : ChangeSpec := { name := "fnSafeOrders", fn := fun _ => fun
  | [d1, d2] => { results := [.lit (.bool false)], args := [d1, d2] }
  | _ => none }
def FnSafeOrdersWrongFalsely : Prop := fnSafeOrdersRow.holds Try.pinned (OpenSpec.ofChange fnSafeOrdersWrong)

/-- 'laws.FnGifts': WHATEVER THE INPUT: true; the input reads as it did. -/
def fnGiftsSpec : ChangeSpec := { name := "fnGifts", fn := fun _ => fun
  | [d1, d2] => { results := [.lit (.bool true)], args := [d1, d2] }
  | _ => none }
def fnGiftsRow : OpenClaim := { program := "ytmlojdpfpccgoaa", sum := "929bc2edaf6e4a0bfbcfe9b63427e2597b503e7950fec8ac833b808c6f237307", func := "loop.example/g01054/laws.FnGifts", spec := "fnGifts", apart := false }
def FnGiftsSaid : Prop := fnGiftsRow.holds Try.pinned (OpenSpec.ofChange fnGiftsSpec)

/-- ITS FALSE NEIGHBOUR: 'it returns false'. Refute it at one input. -/
def fnGiftsWrong : ChangeSpec := { name := "fnGifts", fn := fun _ => fun
  | [d1, d2] => { results := [.lit (.bool false)], args := [d1, d2] }
  | _ => none }
def FnGiftsWrongFalsely : Prop := fnGiftsRow.holds Try.pinned (OpenSpec.ofChange fnGiftsWrong)

/-- 'laws.FnSettings': WHATEVER THE INPUT: true; the input reads as it did. -/
def fnSettingsSpec : ChangeSpec := { name := "fnSettings", fn := fun _ => fun
  | [d1, d2] => { results := [.lit (.bool true)], args := [d1, d2] }
  | _ => none }
def fnSettingsRow : OpenClaim := { program := "ytmlojdpfpccgoaa", sum := "929bc2edaf6e4a0bfbcfe9b63427e2597b503e7950fec8ac833b808c6f237307", func := "loop.example/g01054/laws.FnSettings", spec := "fnSettings", apart := false }
def FnSettingsSaid : Prop := fnSettingsRow.holds Try.pinned (OpenSpec.ofChange fnSettingsSpec)

/-- ITS FALSE NEIGHBOUR: 'it returns false'. Refute it at one input. -/
def fnSettingsWrong : ChangeSpec := { name := "fnSettings", fn := fun _ => fun
  | [d1, d2] => { results := [.lit (.bool false)], args := [d1, d2] }
  | _ => none }
def FnSettingsWrongFalsely : Prop := fnSettingsRow.holds Try.pinned (OpenSpec.ofChange fnSettingsWrong)

/-- 'laws.FnMisputs': WHATEVER THE INPUT: true; the input reads as it did. -/
def fnMisputsSpec : ChangeSpec := { name := "fnMisputs", fn := fun _ => fun
  | [d1, d2] => { results := [.lit (.bool true)], args := [d1, d2] }
  | _ => none }
def fnMisputsRow : OpenClaim := { program := "ytmlojdpfpccgoaa", sum := "929bc2edaf6e4a0bfbcfe9b63427e2597b503e7950fec8ac833b808c6f237307", func := "loop.example/g01054/laws.FnMisputs", spec := "fnMisputs", apart := false }
def FnMisputsSaid : Prop := fnMisputsRow.holds Try.pinned (OpenSpec.ofChange fnMisputsSpec)

/-- ITS FALSE NEIGHBOUR: 'it returns false'. Refute it at one input. -/
def fnMisputsWrong : ChangeSpec := { name := "fnMisputs", fn := fun _ => fun
  | [d1, d2] => { results := [.lit (.bool false)], args := [d1, d2] }
  | _ => none }
def FnMisputsWrongFalsely : Prop := fnMisputsRow.holds Try.pinned (OpenSpec.ofChange fnMisputsWrong)

/- THE SECOND FORM. 'bulk': how many values and letters a reading holds, each counted each time it is reached (what is shared counts as often as it is met; a slice's spare places count too). A statement '..UptoSaid' is the law's where the arguments, and the package variables that the reading takes, are together of bulk at most 1048576: NARROWER than '..Said'. Prove '..Said' where nothing that the law and all that it calls make is longer than what came in: it says more and counts as full. Else prove '..UptoSaid'. A law counts once. -/
mutual
def uptoBulk {H : Type} : DataW H → Nat
  | .lit (.string bytes) => bytes.length + 1
  | .lit _ => 1
  | .nil => 1
  | .ptr d => uptoBulk d + 1
  | .slice elems spare => uptoBulkAll elems + uptoBulkAll spare + 1
  | .agg parts => uptoBulkAll parts + 1
  | .iface _ d => uptoBulk d + 1
  | .map entries => uptoBulkEntries entries + 1
  | .held _ => 1
def uptoBulkAll {H : Type} : List (DataW H) → Nat
  | [] => 0
  | d :: r => uptoBulk d + uptoBulkAll r
def uptoBulkEntries {H : Type} : List (Lit × DataW H) → Nat
  | [] => 0
  | x :: r => uptoBulkEntry x + uptoBulkEntries r
def uptoBulkEntry {H : Type} : Lit × DataW H → Nat
  | (.string bytes, d) => bytes.length + uptoBulk d + 1
  | (_, d) => uptoBulk d + 1
 end
def uptoSmall : (H : Type) → List (DataW H) → Bool := fun _ ds => decide (uptoBulkAll ds ≤ 1048576)
def OpenSpec.upto (s : _root_.Go.ChangeSpec) : _root_.Go.OpenSpec := { _root_.Go.OpenSpec.ofChange s with cond := some uptoSmall }

/-- 'laws.FnSafeOrders', WHERE WHAT IT READS IS OF BULK AT MOST 1048576: true; the input reads as it did. -/
def fnSafeOrdersUptoRow : OpenClaim := { program := "ytmlojdpfpccgoaa", sum := "929bc2edaf6e4a0bfbcfe9b63427e2597b503e7950fec8ac833b808c6f237307", func := "loop.example/g01054/laws.FnSafeOrders", spec := "fnSafeOrders", apart := false, narrowed := true }
def FnSafeOrdersUptoSaid : Prop := fnSafeOrdersUptoRow.holds Try.pinned (OpenSpec.upto fnSafeOrdersSpec)

/-- 'laws.FnGifts', WHERE WHAT IT READS IS OF BULK AT MOST 1048576: true; the input reads as it did. -/
def fnGiftsUptoRow : OpenClaim := { program := "ytmlojdpfpccgoaa", sum := "929bc2edaf6e4a0bfbcfe9b63427e2597b503e7950fec8ac833b808c6f237307", func := "loop.example/g01054/laws.FnGifts", spec := "fnGifts", apart := false, narrowed := true }
def FnGiftsUptoSaid : Prop := fnGiftsUptoRow.holds Try.pinned (OpenSpec.upto fnGiftsSpec)

/-- 'laws.FnSettings', WHERE WHAT IT READS IS OF BULK AT MOST 1048576: true; the input reads as it did. -/
def fnSettingsUptoRow : OpenClaim := { program := "ytmlojdpfpccgoaa", sum := "929bc2edaf6e4a0bfbcfe9b63427e2597b503e7950fec8ac833b808c6f237307", func := "loop.example/g01054/laws.FnSettings", spec := "fnSettings", apart := false, narrowed := true }
def FnSettingsUptoSaid : Prop := fnSettingsUptoRow.holds Try.pinned (OpenSpec.upto fnSettingsSpec)

/-- 'laws.FnMisputs', WHERE WHAT IT READS IS OF BULK AT MOST 1048576: true; the input reads as it did. -/
def fnMisputsUptoRow : OpenClaim := { program := "ytmlojdpfpccgoaa", sum := "929bc2edaf6e4a0bfbcfe9b63427e2597b503e7950fec8ac833b808c6f237307", func := "loop.example/g01054/laws.FnMisputs", spec := "fnMisputs", apart := false, narrowed := true }
def FnMisputsUptoSaid : Prop := fnMisputsUptoRow.holds Try.pinned (OpenSpec.upto fnMisputsSpec)

end Rows
end Go.Proofs.Ytmlojdpfpccgoaa
