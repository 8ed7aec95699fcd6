/-
  No cell of these rows narrows 'for every input' (looked for: loops, veiled, ifaces, maps, wideKeys, modest, calm, conditions, laid).
  DERIVED. THE GIVEN ROWS OF THIS SEAT. 6 by the template 'for every input the law returns true; each argument reads behind the call as it read before'; 0 by the template 'total and deterministic' (their statements: YtmgebkckindelaaTotals.lean).
  GIVEN WITH THE SEED: the statements are not yours to turn. If you find one false, say at which input.
  Laid BY PROGRAM, IN A SANDBOX (cutbox-rows.mjs): the forced cells as the released guide's own fill.sh prints them over the translation ffb932a770ae6065… (all of the seat's roots in one cut). By AI agents, Wed Nov 11 2026. No macro, syntax, notation, axiom, sorry.
-/
import Derived.Test.YtmgebkckindelaaChecked
import GoSem.Claim
import GoSem.ClaimJoined
import GoSem.ClaimMapViews
import Derived.JoinedTies
import Derived.KernelRfl
namespace Go.Proofs.Ytmgebkckindelaa
/- THE CELL 'sum', in the pinned program and in every row, IS THE sha256 OF THE DUMP (.gsa) THAT YtmgebkckindelaaProg.lean LOADS. Nothing in Lean hashes anything: it is a label: what it is worth is what the hold of that sum in a sandbox is worth. -/
noncomputable def Try.pinned : Pinned := { name := "ytmgebkckindelaa", sum := "ffb932a770ae6065fef39130178f2bd1389eea9d83351565cda7a0b55f142aba", checked := Try.checked }
namespace Rows
def none {H : Type} : Left H := { results := [], args := [] }

/-- 'laws.FnExactAreCrafts': WHATEVER THE INPUT: true; the input reads as it did. -/
def fnExactAreCraftsSpec : ChangeSpec := { name := "fnExactAreCrafts", fn := fun _ => fun
  | [d] => { results := [.lit (.bool true)], args := [d] }
  | _ => none }
def fnExactAreCraftsRow : OpenClaim := { program := "ytmgebkckindelaa", sum := "ffb932a770ae6065fef39130178f2bd1389eea9d83351565cda7a0b55f142aba", func := "loop.example/g01054/laws.FnExactAreCrafts", spec := "fnExactAreCrafts", apart := false }
def FnExactAreCraftsSaid : Prop := fnExactAreCraftsRow.holds Try.pinned (OpenSpec.ofChange fnExactAreCraftsSpec)

/-- ITS FALSE NEIGHBOUR: 'it returns false'. Refute it at one input. -/
def fnExactAreCraftsWrong : ChangeSpec := { name := "fnExactAreCrafts", fn := fun _ => fun
  | [d] => { results := [.lit (.bool false)], args := [d] }
  | _ => none }
def FnExactAreCraftsWrongFalsely : Prop := fnExactAreCraftsRow.holds Try.pinned (OpenSpec.ofChange fnExactAreCraftsWrong)

/-- 'laws.FnExactCheapestTariff': WHATEVER THE INPUT: true; the input reads as it did. -/
def fnExactCheapestTariffSpec : ChangeSpec := { name := "fnExactCheapestTariff", fn := fun _ => fun
  | [d1, d2, d3, d4] => { results := [.lit (.bool true)], args := [d1, d2, d3, d4] }
  | _ => none }
def fnExactCheapestTariffRow : OpenClaim := { program := "ytmgebkckindelaa", sum := "ffb932a770ae6065fef39130178f2bd1389eea9d83351565cda7a0b55f142aba", func := "loop.example/g01054/laws.FnExactCheapestTariff", spec := "fnExactCheapestTariff", apart := false }
def FnExactCheapestTariffSaid : Prop := fnExactCheapestTariffRow.holds Try.pinned (OpenSpec.ofChange fnExactCheapestTariffSpec)

/-- ITS FALSE NEIGHBOUR: 'it returns false'. Refute it at one input. -/
def fnExactCheapestTariffWrong : ChangeSpec := { name := "fnExactCheapestTariff", fn := fun _ => fun
  | [d1, d2, d3, d4] => { results := [.lit (.bool false)], args := [d1, d2, d3, d4] }
  | _ => none }
def FnExactCheapestTariffWrongFalsely : Prop := fnExactCheapestTariffRow.holds Try.pinned (OpenSpec.ofChange fnExactCheapestTariffWrong)

/-- 'laws.FnExactIsLearnt': WHATEVER THE INPUT: true; the input reads as it did. -/
def fnExactIsLearntSpec : ChangeSpec := { name := "fnExactIsLearnt", fn := fun _ => fun
  | [d1, d2] => { results := [.lit (.bool true)], args := [d1, d2] }
  | _ => none }
def fnExactIsLearntRow : OpenClaim := { program := "ytmgebkckindelaa", sum := "ffb932a770ae6065fef39130178f2bd1389eea9d83351565cda7a0b55f142aba", func := "loop.example/g01054/laws.FnExactIsLearnt", spec := "fnExactIsLearnt", apart := false }
def FnExactIsLearntSaid : Prop := fnExactIsLearntRow.holds Try.pinned (OpenSpec.ofChange fnExactIsLearntSpec)

/-- ITS FALSE NEIGHBOUR: 'it returns false'. Refute it at one input. -/
def fnExactIsLearntWrong : ChangeSpec := { name := "fnExactIsLearnt", fn := fun _ => fun
  | [d1, d2] => { results := [.lit (.bool false)], args := [d1, d2] }
  | _ => none }
def FnExactIsLearntWrongFalsely : Prop := fnExactIsLearntRow.holds Try.pinned (OpenSpec.ofChange fnExactIsLearntWrong)

/-- 'laws.FnEstimates': WHATEVER THE INPUT: true; the input reads as it did. -/
def fnEstimatesSpec : ChangeSpec := { name := "fnEstimates", fn := fun _ => fun
  | [d1, d2] => { results := [.lit (.bool true)], args := [d1, d2] }
  | _ => none }
def fnEstimatesRow : OpenClaim := { program := "ytmgebkckindelaa", sum := "ffb932a770ae6065fef39130178f2bd1389eea9d83351565cda7a0b55f142aba", func := "loop.example/g01054/laws.FnEstimates", spec := "fnEstimates", apart := false }
def FnEstimatesSaid : Prop := fnEstimatesRow.holds Try.pinned (OpenSpec.ofChange fnEstimatesSpec)

/-- ITS FALSE NEIGHBOUR: 'it returns false'. Refute it at one input. -/
def fnEstimatesWrong : ChangeSpec := { name := "fnEstimates", fn := fun _ => fun
  | [d1, d2] => { results := [.lit (.bool false)], args := [d1, d2] }
  | _ => none }
def FnEstimatesWrongFalsely : Prop := fnEstimatesRow.holds Try.pinned (OpenSpec.ofChange fnEstimatesWrong)

/-- 'laws.FnExactWageOf': WHATEVER THE INPUT: true; the input reads as it did. -/
def fnExactWageOfSpec : ChangeSpec := { name := "fnExactWageOf", fn := fun _ => fun
  | [d1, d2, d3, d4] => { results := [.lit (.bool true)], args := [d1, d2, d3, d4] }
  | _ => none }
def fnExactWageOfRow : OpenClaim := { program := "ytmgebkckindelaa", sum := "ffb932a770ae6065fef39130178f2bd1389eea9d83351565cda7a0b55f142aba", func := "loop.example/g01054/laws.FnExactWageOf", spec := "fnExactWageOf", apart := false }
def FnExactWageOfSaid : Prop := fnExactWageOfRow.holds Try.pinned (OpenSpec.ofChange fnExactWageOfSpec)

/-- ITS FALSE NEIGHBOUR: 'it returns false'. Refute it at one input. -/
def fnExactWageOfWrong : ChangeSpec := { name := "fnExactWageOf", fn := fun _ => fun
  | [d1, d2, d3, d4] => { results := [.lit (.bool false)], args := [d1, d2, d3, d4] }
  | _ => none }
def FnExactWageOfWrongFalsely : Prop := fnExactWageOfRow.holds Try.pinned (OpenSpec.ofChange fnExactWageOfWrong)

/-- 'laws.FnSignatures': WHATEVER THE INPUT: true; the input reads as it did. -/
def fnSignaturesSpec : ChangeSpec := { name := "fnSignatures", fn := fun _ => fun
  | [d1, d2] => { results := [.lit (.bool true)], args := [d1, d2] }
  | _ => none }
def fnSignaturesRow : OpenClaim := { program := "ytmgebkckindelaa", sum := "ffb932a770ae6065fef39130178f2bd1389eea9d83351565cda7a0b55f142aba", func := "loop.example/g01054/laws.FnSignatures", spec := "fnSignatures", apart := false }
def FnSignaturesSaid : Prop := fnSignaturesRow.holds Try.pinned (OpenSpec.ofChange fnSignaturesSpec)

/-- ITS FALSE NEIGHBOUR: 'it returns false'. Refute it at one input. -/
def fnSignaturesWrong : ChangeSpec := { name := "fnSignatures", fn := fun _ => fun
  | [d1, d2] => { results := [.lit (.bool false)], args := [d1, d2] }
  | _ => none }
def FnSignaturesWrongFalsely : Prop := fnSignaturesRow.holds Try.pinned (OpenSpec.ofChange fnSignaturesWrong)

/- THE SECOND FORM. 'bulk': how many values and letters a reading holds, each counted each time it is reached (what is shared counts as often as it is met; a slice's spare places count too). A statement '..UptoSaid' is the law's where the arguments, and the package variables that the reading takes, are together of bulk at most 1048576: NARROWER than '..Said'. Prove '..Said' where nothing that the law and all that it calls make is longer than what came in: it says more and counts as full. Else prove '..UptoSaid'. A law counts once. -/
mutual
def uptoBulk {H : Type} : DataW H → Nat
  | .lit (.string bytes) => bytes.length + 1
  | .lit _ => 1
  | .nil => 1
  | .ptr d => uptoBulk d + 1
  | .slice elems spare => uptoBulkAll elems + uptoBulkAll spare + 1
  | .agg parts => uptoBulkAll parts + 1
  | .iface _ d => uptoBulk d + 1
  | .map entries => uptoBulkEntries entries + 1
  | .held _ => 1
def uptoBulkAll {H : Type} : List (DataW H) → Nat
  | [] => 0
  | d :: r => uptoBulk d + uptoBulkAll r
def uptoBulkEntries {H : Type} : List (Lit × DataW H) → Nat
  | [] => 0
  | x :: r => uptoBulkEntry x + uptoBulkEntries r
def uptoBulkEntry {H : Type} : Lit × DataW H → Nat
  | (.string bytes, d) => bytes.length + uptoBulk d + 1
  | (_, d) => uptoBulk d + 1
 end
def uptoSmall : (H : Type) → List (DataW H) → Bool := fun _ ds => decide (uptoBulkAll ds ≤ 1048576)
def OpenSpec.upto (s : _root_.Go.ChangeSpec) : _root_.Go.OpenSpec := { _root_.Go.OpenSpec.ofChange s with cond := some uptoSmall }

/-- 'laws.FnExactAreCrafts', WHERE WHAT IT READS IS OF BULK AT MOST 1048576: true; the input reads as it did. -/
def fnExactAreCraftsUptoRow : OpenClaim := { program := "ytmgebkckindelaa", sum := "ffb932a770ae6065fef39130178f2bd1389eea9d83351565cda7a0b55f142aba", func := "loop.example/g01054/laws.FnExactAreCrafts", spec := "fnExactAreCrafts", apart := false, narrowed := true }
def FnExactAreCraftsUptoSaid : Prop := fnExactAreCraftsUptoRow.holds Try.pinned (OpenSpec.upto fnExactAreCraftsSpec)

/-- 'laws.FnExactCheapestTariff', WHERE WHAT IT READS IS OF BULK AT MOST 1048576: true; the input reads as it did. -/
def fnExactCheapestTariffUptoRow : OpenClaim := { program := "ytmgebkckindelaa", sum := "ffb932a770ae6065fef39130178f2bd1389eea9d83351565cda7a0b55f142aba", func := "loop.example/g01054/laws.FnExactCheapestTariff", spec := "fnExactCheapestTariff", apart := false, narrowed := true }
def FnExactCheapestTariffUptoSaid : Prop := fnExactCheapestTariffUptoRow.holds Try.pinned (OpenSpec.upto fnExactCheapestTariffSpec)

/-- 'laws.FnExactIsLearnt', WHERE WHAT IT READS IS OF BULK AT MOST 1048576: true; the input reads as it did. -/
def fnExactIsLearntUptoRow : OpenClaim := { program := "ytmgebkckindelaa", sum := "ffb932a770ae6065fef39130178f2bd1389eea9d83351565cda7a0b55f142aba", func := "loop.example/g01054/laws.FnExactIsLearnt", spec := "fnExactIsLearnt", apart := false, narrowed := true }
def FnExactIsLearntUptoSaid : Prop := fnExactIsLearntUptoRow.holds Try.pinned (OpenSpec.upto fnExactIsLearntSpec)

/-- 'laws.FnEstimates', WHERE WHAT IT READS IS OF BULK AT MOST 1048576: true; the input reads as it did. -/
def fnEstimatesUptoRow : OpenClaim := { program := "ytmgebkckindelaa", sum := "ffb932a770ae6065fef39130178f2bd1389eea9d83351565cda7a0b55f142aba", func := "loop.example/g01054/laws.FnEstimates", spec := "fnEstimates", apart := false, narrowed := true }
def FnEstimatesUptoSaid : Prop := fnEstimatesUptoRow.holds Try.pinned (OpenSpec.upto fnEstimatesSpec)

/-- 'laws.FnExactWageOf', WHERE WHAT IT READS IS OF BULK AT MOST 1048576: true; the input reads as it did. -/
def fnExactWageOfUptoRow : OpenClaim := { program := "ytmgebkckindelaa", sum := "ffb932a770ae6065fef39130178f2bd1389eea9d83351565cda7a0b55f142aba", func := "loop.example/g01054/laws.FnExactWageOf", spec := "fnExactWageOf", apart := false, narrowed := true }
def FnExactWageOfUptoSaid : Prop := fnExactWageOfUptoRow.holds Try.pinned (OpenSpec.upto fnExactWageOfSpec)

/-- 'laws.FnSignatures', WHERE WHAT IT READS IS OF BULK AT MOST 1048576: true; the input reads as it did. -/
def fnSignaturesUptoRow : OpenClaim := { program := "ytmgebkckindelaa", sum := "ffb932a770ae6065fef39130178f2bd1389eea9d83351565cda7a0b55f142aba", func := "loop.example/g01054/laws.FnSignatures", spec := "fnSignatures", apart := false, narrowed := true }
def FnSignaturesUptoSaid : Prop := fnSignaturesUptoRow.holds Try.pinned (OpenSpec.upto fnSignaturesSpec)

end Rows
end Go.Proofs.Ytmgebkckindelaa
