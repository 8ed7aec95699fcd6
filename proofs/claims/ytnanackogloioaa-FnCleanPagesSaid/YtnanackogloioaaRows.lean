/-
  No cell of these rows narrows 'for every input' (looked for: loops, veiled, ifaces, maps, wideKeys, modest, calm, conditions, laid).
  DERIVED. THE GIVEN ROWS OF THIS SEAT. 6 by the template 'for every input the law returns true; each argument reads behind the call as it read before'; 0 by the template 'total and deterministic' (their statements: YtnanackogloioaaTotals.lean).
  GIVEN WITH THE SEED: the statements are not yours to turn. If you find one false, say at which input.
  Laid BY PROGRAM, IN A SANDBOX (cutbox-rows.mjs): the forced cells as the released guide's own fill.sh prints them over the translation f515dadee2ff33d5… (all of the seat's roots in one cut). By AI agents, Wed Nov 11 2026. No macro, syntax, notation, axiom, sorry.
-/
import Derived.Test.YtnanackogloioaaChecked
import GoSem.Claim
import GoSem.ClaimJoined
import GoSem.ClaimMapViews
import Derived.JoinedTies
import Derived.KernelRfl
namespace Go.Proofs.Ytnanackogloioaa
/- THE CELL 'sum', in the pinned program and in every row, IS THE sha256 OF THE DUMP (.gsa) THAT YtnanackogloioaaProg.lean LOADS. Nothing in Lean hashes anything: it is a label: what it is worth is what the hold of that sum in a sandbox is worth. -/
noncomputable def Try.pinned : Pinned := { name := "ytnanackogloioaa", sum := "f515dadee2ff33d574ff205179ff4d71bb6eb3c154e579b9189d66673f13c489", checked := Try.checked }
namespace Rows
def none {H : Type} : Left H := { results := [], args := [] }

/-- 'laws.FnPressJobs': WHATEVER THE INPUT: true; the input reads as it did. -/
def fnPressJobsSpec : ChangeSpec := { name := "fnPressJobs", fn := fun _ => fun
  | [d1, d2] => { results := [.lit (.bool true)], args := [d1, d2] }
  | _ => none }
def fnPressJobsRow : OpenClaim := { program := "ytnanackogloioaa", sum := "f515dadee2ff33d574ff205179ff4d71bb6eb3c154e579b9189d66673f13c489", func := "loop.example/g01054/laws.FnPressJobs", spec := "fnPressJobs", apart := false }
def FnPressJobsSaid : Prop := fnPressJobsRow.holds Try.pinned (OpenSpec.ofChange fnPressJobsSpec)

/-- ITS FALSE NEIGHBOUR: 'it returns false'. Refute it at one input. -/
def fnPressJobsWrong : ChangeSpec := { name := "fnPressJobs", fn := fun _ => fun
  | [d1, d2] => { results := [.lit (.bool false)], args := [d1, d2] }
  | _ => none }
def FnPressJobsWrongFalsely : Prop := fnPressJobsRow.holds Try.pinned (OpenSpec.ofChange fnPressJobsWrong)

/-- 'laws.FnStandards': WHATEVER THE INPUT: true; the input reads as it did. -/
def fnStandardsSpec : ChangeSpec := { name := "fnStandards", fn := fun _ => fun
  | [d1, d2] => { results := [.lit (.bool true)], args := [d1, d2] }
  | _ => none }
def fnStandardsRow : OpenClaim := { program := "ytnanackogloioaa", sum := "f515dadee2ff33d574ff205179ff4d71bb6eb3c154e579b9189d66673f13c489", func := "loop.example/g01054/laws.FnStandards", spec := "fnStandards", apart := false }
def FnStandardsSaid : Prop := fnStandardsRow.holds Try.pinned (OpenSpec.ofChange fnStandardsSpec)

/-- ITS FALSE NEIGHBOUR: 'it returns false'. Refute it at one input. -/
def fnStandardsWrong : ChangeSpec := { name := "fnStandards", fn := fun _ => fun
  | [d1, d2] => { results := [.lit (.bool false)], args := [d1, d2] }
  | _ => none }
def FnStandardsWrongFalsely : Prop := fnStandardsRow.holds Try.pinned (OpenSpec.ofChange fnStandardsWrong)

/-- 'laws.FnCreeps': WHATEVER THE INPUT: true; the input reads as it did. -/
def fnCreepsSpec : ChangeSpec := { name := "fnCreeps", fn := fun _ => fun
  | [d1, d2] => { results := [.lit (.bool true)], args := [d1, d2] }
  | _ => none }
def fnCreepsRow : OpenClaim := { program := "ytnanackogloioaa", sum := "f515dadee2ff33d574ff205179ff4d71bb6eb3c154e579b9189d66673f13c489", func := "loop.example/g01054/laws.FnCreeps", spec := "fnCreeps", apart := false }
def FnCreepsSaid : Prop := fnCreepsRow.holds Try.pinned (OpenSpec.ofChange fnCreepsSpec)

/-- ITS FALSE NEIGHBOUR: 'it returns false'. Refute it at one input. -/
def fnCreepsWrong : ChangeSpec := { name := "fnCreeps", fn := fun _ => fun
  | [d1, d2] => { results := [.lit (.bool false)], args := [d1, d2] }
  | _ => none }
def FnCreepsWrongFalsely : Prop := fnCreepsRow.holds Try.pinned (OpenSpec.ofChange fnCreepsWrong)

/-- 'laws.FnCleanPages': WHATEVER THE INPUT: true; the input reads as it did. -/
def fnCleanPagesSpec : ChangeSpec := { name := "fnCleanPages", fn := fun _ => fun
  | [d1, d2] => { results := [.lit (.bool true)], args := [d1, d2] }
  | _ => none }
def fnCleanPagesRow : OpenClaim := { program := "ytnanackogloioaa", sum := "f515dadee2ff33d574ff205179ff4d71bb6eb3c154e579b9189d66673f13c489", func := "loop.example/g01054/laws.FnCleanPages", spec := "fnCleanPages", apart := false }
def FnCleanPagesSaid : Prop := fnCleanPagesRow.holds Try.pinned (OpenSpec.ofChange fnCleanPagesSpec)

/-- ITS FALSE NEIGHBOUR: 'it returns false'. Refute it at one input. -/
def fnCleanPagesWrong : ChangeSpec := { name := "fnCleanPages", fn := fun _ => fun
  | [d1, d2] => { results := [.lit (.bool false)], args := [d1, d2] }
  | _ => none }
def FnCleanPagesWrongFalsely : Prop := fnCleanPagesRow.holds Try.pinned (OpenSpec.ofChange fnCleanPagesWrong)

/-- 'laws.FnLineMeasures': WHATEVER THE INPUT: true; the input reads as it did. -/
def fnLineMeasuresSpec : ChangeSpec := { name := "fnLineMeasures", fn := fun _ => fun
  | [d1, d2] => { results := [.lit (.bool true)], args := [d1, d2] }
  | _ => none }
def fnLineMeasuresRow : OpenClaim := { program := "ytnanackogloioaa", sum := "f515dadee2ff33d574ff205179ff4d71bb6eb3c154e579b9189d66673f13c489", func := "loop.example/g01054/laws.FnLineMeasures", spec := "fnLineMeasures", apart := false }
def FnLineMeasuresSaid : Prop := fnLineMeasuresRow.holds Try.pinned (OpenSpec.ofChange fnLineMeasuresSpec)

/-- ITS FALSE NEIGHBOUR: 'it returns false'. Refute it at one input. -/
def fnLineMeasuresWrong : ChangeSpec := { name := "fnLineMeasures", fn := fun _ => fun
  | [d1, d2] => { results := [.lit (.bool false)], args := [d1, d2] }
  | _ => none }
def FnLineMeasuresWrongFalsely : Prop := fnLineMeasuresRow.holds Try.pinned (OpenSpec.ofChange fnLineMeasuresWrong)

/-- 'laws.FnSafeOrders': WHATEVER THE INPUT: true; the input reads as it did. -/
def fnSafeOrdersSpec : ChangeSpec := { name := "fnSafeOrders", fn := fun _ => fun
  | [d1, d2] => { results := [.lit (.bool true)], args := [d1, d2] }
  | _ => none }
def fnSafeOrdersRow : OpenClaim := { program := "ytnanackogloioaa", sum := "f515dadee2ff33d574ff205179ff4d71bb6eb3c154e579b9189d66673f13c489", func := "loop.example/g01054/laws.FnSafeOrders", spec := "fnSafeOrders", apart := false }
def FnSafeOrdersSaid : Prop := fnSafeOrdersRow.holds Try.pinned (OpenSpec.ofChange fnSafeOrdersSpec)

/-- ITS FALSE NEIGHBOUR: 'it returns false'. Refute it at one input. -/
def fnSafeOrdersWrong : ChangeSpec := { name := "fnSafeOrders", fn := fun _ => fun
  | [d1, d2] => { results := [.lit (.bool false)], args := [d1, d2] }
  | _ => none }
def FnSafeOrdersWrongFalsely : Prop := fnSafeOrdersRow.holds Try.pinned (OpenSpec.ofChange fnSafeOrdersWrong)

/- THE SECOND FORM. 'bulk': how many values and letters a reading holds, each counted each time it is reached (what is shared counts as often as it is met; a slice's spare places count too). A statement '..UptoSaid' is the law's where the arguments, and the package variables that the reading takes, are together of bulk at most 1048576: NARROWER than '..Said'. Prove '..Said' where nothing that the law and all that it calls make is longer than what came in: it says more and counts as full. Else prove '..UptoSaid'. A law counts once. -/
mutual
def uptoBulk {H : Type} : DataW H → Nat
  | .lit (.string bytes) => bytes.length + 1
  | .lit _ => 1
  | .nil => 1
  | .ptr d => uptoBulk d + 1
  | .slice elems spare => uptoBulkAll elems + uptoBulkAll spare + 1
  | .agg parts => uptoBulkAll parts + 1
  | .iface _ d => uptoBulk d + 1
  | .map entries => uptoBulkEntries entries + 1
  | .held _ => 1
def uptoBulkAll {H : Type} : List (DataW H) → Nat
  | [] => 0
  | d :: r => uptoBulk d + uptoBulkAll r
def uptoBulkEntries {H : Type} : List (Lit × DataW H) → Nat
  | [] => 0
  | x :: r => uptoBulkEntry x + uptoBulkEntries r
def uptoBulkEntry {H : Type} : Lit × DataW H → Nat
  | (.string bytes, d) => bytes.length + uptoBulk d + 1
  | (_, d) => uptoBulk d + 1
 end
def uptoSmall : (H : Type) → List (DataW H) → Bool := fun _ ds => decide (uptoBulkAll ds ≤ 1048576)
def OpenSpec.upto (s : _root_.Go.ChangeSpec) : _root_.Go.OpenSpec := { _root_.Go.OpenSpec.ofChange s with cond := some uptoSmall }

/-- 'laws.FnPressJobs', WHERE WHAT IT READS IS OF BULK AT MOST 1048576: true; the input reads as it did. -/
def fnPressJobsUptoRow : OpenClaim := { program := "ytnanackogloioaa", sum := "f515dadee2ff33d574ff205179ff4d71bb6eb3c154e579b9189d66673f13c489", func := "loop.example/g01054/laws.FnPressJobs", spec := "fnPressJobs", apart := false, narrowed := true }
def FnPressJobsUptoSaid : Prop := fnPressJobsUptoRow.holds Try.pinned (OpenSpec.upto fnPressJobsSpec)

/-- 'laws.FnStandards', WHERE WHAT IT READS IS OF BULK AT MOST 1048576: true; the input reads as it did. -/
def fnStandardsUptoRow : OpenClaim := { program := "ytnanackogloioaa", sum := "f515dadee2ff33d574ff205179ff4d71bb6eb3c154e579b9189d66673f13c489", func := "loop.example/g01054/laws.FnStandards", spec := "fnStandards", apart := false, narrowed := true }
def FnStandardsUptoSaid : Prop := fnStandardsUptoRow.holds Try.pinned (OpenSpec.upto fnStandardsSpec)

/-- 'laws.FnCreeps', WHERE WHAT IT READS IS OF BULK AT MOST 1048576: true; the input reads as it did. -/
def fnCreepsUptoRow : OpenClaim := { program := "ytnanackogloioaa", sum := "f515dadee2ff33d574ff205179ff4d71bb6eb3c154e579b9189d66673f13c489", func := "loop.example/g01054/laws.FnCreeps", spec := "fnCreeps", apart := false, narrowed := true }
def FnCreepsUptoSaid : Prop := fnCreepsUptoRow.holds Try.pinned (OpenSpec.upto fnCreepsSpec)

/-- 'laws.FnCleanPages', WHERE WHAT IT READS IS OF BULK AT MOST 1048576: true; the input reads as it did. -/
def fnCleanPagesUptoRow : OpenClaim := { program := "ytnanackogloioaa", sum := "f515dadee2ff33d574ff205179ff4d71bb6eb3c154e579b9189d66673f13c489", func := "loop.example/g01054/laws.FnCleanPages", spec := "fnCleanPages", apart := false, narrowed := true }
def FnCleanPagesUptoSaid : Prop := fnCleanPagesUptoRow.holds Try.pinned (OpenSpec.upto fnCleanPagesSpec)

/-- 'laws.FnLineMeasures', WHERE WHAT IT READS IS OF BULK AT MOST 1048576: true; the input reads as it did. -/
def fnLineMeasuresUptoRow : OpenClaim := { program := "ytnanackogloioaa", sum := "f515dadee2ff33d574ff205179ff4d71bb6eb3c154e579b9189d66673f13c489", func := "loop.example/g01054/laws.FnLineMeasures", spec := "fnLineMeasures", apart := false, narrowed := true }
def FnLineMeasuresUptoSaid : Prop := fnLineMeasuresUptoRow.holds Try.pinned (OpenSpec.upto fnLineMeasuresSpec)

/-- 'laws.FnSafeOrders', WHERE WHAT IT READS IS OF BULK AT MOST 1048576: true; the input reads as it did. -/
def fnSafeOrdersUptoRow : OpenClaim := { program := "ytnanackogloioaa", sum := "f515dadee2ff33d574ff205179ff4d71bb6eb3c154e579b9189d66673f13c489", func := "loop.example/g01054/laws.FnSafeOrders", spec := "fnSafeOrders", apart := false, narrowed := true }
def FnSafeOrdersUptoSaid : Prop := fnSafeOrdersUptoRow.holds Try.pinned (OpenSpec.upto fnSafeOrdersSpec)

end Rows
end Go.Proofs.Ytnanackogloioaa
