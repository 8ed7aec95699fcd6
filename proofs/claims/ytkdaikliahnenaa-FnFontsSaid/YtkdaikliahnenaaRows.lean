/-
  No cell of these rows narrows 'for every input' (looked for: loops, veiled, ifaces, maps, wideKeys, modest, calm, conditions, laid).
  DERIVED. THE GIVEN ROWS OF THIS SEAT. 4 by the template 'for every input the law returns true; each argument reads behind the call as it read before'; 0 by the template 'total and deterministic' (their statements: YtkdaikliahnenaaTotals.lean).
  GIVEN WITH THE SEED: the statements are not yours to turn. If you find one false, say at which input.
  Laid BY PROGRAM, IN A SANDBOX (cutbox-rows.mjs): the forced cells as the released guide's own fill.sh prints them over the translation 0db00c0bd1bed1cf… (all of the seat's roots in one cut). By AI agents, Wed Nov 11 2026. No macro, syntax, notation, axiom, sorry.
-/
import Derived.Test.YtkdaikliahnenaaChecked
import GoSem.Claim
import GoSem.ClaimJoined
import GoSem.ClaimMapViews
import Derived.JoinedTies
import Derived.KernelRfl
namespace Go.Proofs.Ytkdaikliahnenaa
/- THE CELL 'sum', in the pinned program and in every row, IS THE sha256 OF THE DUMP (.gsa) THAT YtkdaikliahnenaaProg.lean LOADS. Nothing in Lean hashes anything: it is a label: what it is worth is what the hold of that sum in a sandbox is worth. -/
noncomputable def Try.pinned : Pinned := { name := "ytkdaikliahnenaa", sum := "0db00c0bd1bed1cf04102fad243749c11277643fabe7f5477c7495537a2a9c69", checked := Try.checked }
namespace Rows
def none {H : Type} : Left H := { results := [], args := [] }

/-- 'laws.FnFonts': WHATEVER THE INPUT: true; the input reads as it did. -/
def fnFontsSpec : ChangeSpec := { name := "fnFonts", fn := fun _ => fun
  | [d1, d2] => { results := [.lit (.bool true)], args := [d1, d2] }
  | _ => none }
def fnFontsRow : OpenClaim := { program := "ytkdaikliahnenaa", sum := "0db00c0bd1bed1cf04102fad243749c11277643fabe7f5477c7495537a2a9c69", func := "loop.example/g01054/laws.FnFonts", spec := "fnFonts", apart := false }
def FnFontsSaid : Prop := fnFontsRow.holds Try.pinned (OpenSpec.ofChange fnFontsSpec)

/-- ITS FALSE NEIGHBOUR: 'it returns false'. Refute it at one input. -/
def fnFontsWrong : ChangeSpec := { name := "fnFonts", fn := fun _ => fun
  | [d1, d2] => { results := [.lit (.bool false)], args := [d1, d2] }
  | _ => none }
def FnFontsWrongFalsely : Prop := fnFontsRow.holds Try.pinned (OpenSpec.ofChange fnFontsWrong)

/-- 'laws.FnInks': WHATEVER THE INPUT: true; the input reads as it did. -/
def fnInksSpec : ChangeSpec := { name := "fnInks", fn := fun _ => fun
  | [d1, d2] => { results := [.lit (.bool true)], args := [d1, d2] }
  | _ => none }
def fnInksRow : OpenClaim := { program := "ytkdaikliahnenaa", sum := "0db00c0bd1bed1cf04102fad243749c11277643fabe7f5477c7495537a2a9c69", func := "loop.example/g01054/laws.FnInks", spec := "fnInks", inPlace := ["internal/bytealg.CountString", "internal/bytealg.IndexByteString", "internal/bytealg.IndexString"], named := ["internal/bytealg.MaxLen"], apart := false }
def FnInksSaid : Prop := fnInksRow.holds Try.pinned (OpenSpec.ofChange fnInksSpec)

/-- ITS FALSE NEIGHBOUR: 'it returns false'. Refute it at one input. -/
def fnInksWrong : ChangeSpec := { name := "fnInks", fn := fun _ => fun
  | [d1, d2] => { results := [.lit (.bool false)], args := [d1, d2] }
  | _ => none }
def FnInksWrongFalsely : Prop := fnInksRow.holds Try.pinned (OpenSpec.ofChange fnInksWrong)

/-- 'laws.FnSafeOrders': WHATEVER THE INPUT: true; the input reads as it did. -/
def fnSafeOrdersSpec : ChangeSpec := { name := "fnSafeOrders", fn := fun _ => fun
  | [d1, d2] => { results := [.lit (.bool true)], args := [d1, d2] }
  | _ => none }
def fnSafeOrdersRow : OpenClaim := { program := "ytkdaikliahnenaa", sum := "0db00c0bd1bed1cf04102fad243749c11277643fabe7f5477c7495537a2a9c69", func := "loop.example/g01054/laws.FnSafeOrders", spec := "fnSafeOrders", apart := false }
def FnSafeOrdersSaid : Prop := fnSafeOrdersRow.holds Try.pinned (OpenSpec.ofChange fnSafeOrdersSpec)

/-- ITS FALSE NEIGHBOUR: 'it returns false'. Refute it at one input. -/
def fnSafeOrdersWrong : ChangeSpec := { name := "fnSafeOrders", fn := fun _ => fun
  | [d1, d2] => { results := [.lit (.bool false)], args := [d1, d2] }
  | _ => none }
def FnSafeOrdersWrongFalsely : Prop := fnSafeOrdersRow.holds Try.pinned (OpenSpec.ofChange fnSafeOrdersWrong)

/-- 'laws.FnGifts': WHATEVER THE INPUT: true; the input reads as it did. -/
def fnGiftsSpec : ChangeSpec := { name := "fnGifts", fn := fun _ => fun
  | [d1, d2] => { results := [.lit (.bool true)], args := [d1, d2] }
  | _ => none }
def fnGiftsRow : OpenClaim := { program := "ytkdaikliahnenaa", sum := "0db00c0bd1bed1cf04102fad243749c11277643fabe7f5477c7495537a2a9c69", func := "loop.example/g01054/laws.FnGifts", spec := "fnGifts", apart := false }
def FnGiftsSaid : Prop := fnGiftsRow.holds Try.pinned (OpenSpec.ofChange fnGiftsSpec)

/-- ITS FALSE NEIGHBOUR: 'it returns false'. Refute it at one input. -/
def fnGiftsWrong : ChangeSpec := { name := "fnGifts", fn := fun _ => fun
  | [d1, d2] => { results := [.lit (.bool false)], args := [d1, d2] }
  | _ => none }
def FnGiftsWrongFalsely : Prop := fnGiftsRow.holds Try.pinned (OpenSpec.ofChange fnGiftsWrong)

/- THE SECOND FORM. 'bulk': how many values and letters a reading holds, each counted each time it is reached (what is shared counts as often as it is met; a slice's spare places count too). A statement '..UptoSaid' is the law's where the arguments, and the package variables that the reading takes, are together of bulk at most 1048576: NARROWER than '..Said'. Prove '..Said' where nothing that the law and all that it calls make is longer than what came in: it says more and counts as full. Else prove '..UptoSaid'. A law counts once. -/
mutual
def uptoBulk {H : Type} : DataW H → Nat
  | .lit (.string bytes) => bytes.length + 1
  | .lit _ => 1
  | .nil => 1
  | .ptr d => uptoBulk d + 1
  | .slice elems spare => uptoBulkAll elems + uptoBulkAll spare + 1
  | .agg parts => uptoBulkAll parts + 1
  | .iface _ d => uptoBulk d + 1
  | .map entries => uptoBulkEntries entries + 1
  | .held _ => 1
def uptoBulkAll {H : Type} : List (DataW H) → Nat
  | [] => 0
  | d :: r => uptoBulk d + uptoBulkAll r
def uptoBulkEntries {H : Type} : List (Lit × DataW H) → Nat
  | [] => 0
  | x :: r => uptoBulkEntry x + uptoBulkEntries r
def uptoBulkEntry {H : Type} : Lit × DataW H → Nat
  | (.string bytes, d) => bytes.length + uptoBulk d + 1
  | (_, d) => uptoBulk d + 1
 end
def uptoSmall : (H : Type) → List (DataW H) → Bool := fun _ ds => decide (uptoBulkAll ds ≤ 1048576)
def OpenSpec.upto (s : _root_.Go.ChangeSpec) : _root_.Go.OpenSpec := { _root_.Go.OpenSpec.ofChange s with cond := some uptoSmall }

/-- 'laws.FnFonts', WHERE WHAT IT READS IS OF BULK AT MOST 1048576: true; the input reads as it did. -/
def fnFontsUptoRow : OpenClaim := { program := "ytkdaikliahnenaa", sum := "0db00c0bd1bed1cf04102fad243749c11277643fabe7f5477c7495537a2a9c69", func := "loop.example/g01054/laws.FnFonts", spec := "fnFonts", apart := false, narrowed := true }
def FnFontsUptoSaid : Prop := fnFontsUptoRow.holds Try.pinned (OpenSpec.upto fnFontsSpec)

/-- 'laws.FnInks', WHERE WHAT IT READS IS OF BULK AT MOST 1048576: true; the input reads as it did. -/
def fnInksUptoRow : OpenClaim := { program := "ytkdaikliahnenaa", sum := "0db00c0bd1bed1cf04102fad243749c11277643fabe7f5477c7495537a2a9c69", func := "loop.example/g01054/laws.FnInks", spec := "fnInks", inPlace := ["internal/bytealg.CountString", "internal/bytealg.IndexByteString", "internal/bytealg.IndexString"], named := ["internal/bytealg.MaxLen"], apart := false, narrowed := true }
def FnInksUptoSaid : Prop := fnInksUptoRow.holds Try.pinned (OpenSpec.upto fnInksSpec)

/-- 'laws.FnSafeOrders', WHERE WHAT IT READS IS OF BULK AT MOST 1048576: true; the input reads as it did. -/
def fnSafeOrdersUptoRow : OpenClaim := { program := "ytkdaikliahnenaa", sum := "0db00c0bd1bed1cf04102fad243749c11277643fabe7f5477c7495537a2a9c69", func := "loop.example/g01054/laws.FnSafeOrders", spec := "fnSafeOrders", apart := false, narrowed := true }
def FnSafeOrdersUptoSaid : Prop := fnSafeOrdersUptoRow.holds Try.pinned (OpenSpec.upto fnSafeOrdersSpec)

/-- 'laws.FnGifts', WHERE WHAT IT READS IS OF BULK AT MOST 1048576: true; the input reads as it did. -/
def fnGiftsUptoRow : OpenClaim := { program := "ytkdaikliahnenaa", sum := "0db00c0bd1bed1cf04102fad243749c11277643fabe7f5477c7495537a2a9c69", func := "loop.example/g01054/laws.FnGifts", spec := "fnGifts", apart := false, narrowed := true }
def FnGiftsUptoSaid : Prop := fnGiftsUptoRow.holds Try.pinned (OpenSpec.upto fnGiftsSpec)

end Rows
end Go.Proofs.Ytkdaikliahnenaa
