/-
  DERIVED. GIVEN WITH THE SEED: THE CARDS: each row of YtbamclepgabciaaDoorRows.lean that lists a variable, with what it lists TIED to the program's text (the seventh form; the later family's looks); each row that meets fmt, with fmt's text TOLD by the authors' own Lean function (tested against real Go, not proved from fmt's source: count such statements apart). THE CARD IS WHAT COUNTS. Prove the row's statement (the work); the ties are given (YtbamclepgabciaaDoorTie.lean); close each card by the builder's one call (the guide's Derived/Test/ToyasCard.lean, 'card_holds'). Laid BY PROGRAM, IN A SANDBOX (cutbox-door.mjs). By AI agents, Wed Nov 11 2026. No macro, syntax, notation, axiom, sorry.
-/
import Derived.Test.YtbamclepgabciaaDoorRows
import GoSem.ClaimSeven
namespace Go.Proofs.YtbamclepgabciaaDoor
namespace Rows

/-- THE TIED CARD OF 'laws.FnPages'. -/
def fnPagesCard : Claim7 := { stood := { row := fnPagesRow, standIns := [], harness := (true, "a5cb98414faac5f05979639d1dc2f59e2e7a9fd4d3df39a3fa25cbcdbf49b9d6"), looks := false }, kinds := [], alts := [], laidByText := true, laidKinds := [.data, .data, .data], laidTests := true, laidLooks := .later }
def FnPagesCardSaid : Prop := Claim7.holds Tryd.pinned (.plain (OpenSpec.ofChange fnPagesSpec)) fnPagesCard

/-- THE TIED CARD OF 'laws.FnFolds'. -/
def fnFoldsCard : Claim7 := { stood := { row := fnFoldsRow, standIns := [], harness := (true, "a5cb98414faac5f05979639d1dc2f59e2e7a9fd4d3df39a3fa25cbcdbf49b9d6"), looks := false }, kinds := [], alts := [], laidByText := true, laidKinds := [.data, .data, .data], laidTests := true, laidLooks := .later }
def FnFoldsCardSaid : Prop := Claim7.holds Tryd.pinned (.plain (OpenSpec.ofChange fnFoldsSpec)) fnFoldsCard

/-- THE TIED CARD OF 'laws.FnTariffs'. -/
def fnTariffsCard : Claim7 := { stood := { row := fnTariffsRow, standIns := [], harness := (true, "a5cb98414faac5f05979639d1dc2f59e2e7a9fd4d3df39a3fa25cbcdbf49b9d6"), looks := false }, kinds := [], alts := [], laidByText := true, laidKinds := [.data, .data, .data], laidTests := true, laidLooks := .later }
def FnTariffsCardSaid : Prop := Claim7.holds Tryd.pinned (.plain (OpenSpec.ofChange fnTariffsSpec)) fnTariffsCard

/-- THE TIED CARD OF 'laws.FnSpaceStocks'. -/
def fnSpaceStocksCard : Claim7 := { stood := { row := fnSpaceStocksRow, standIns := [], harness := (true, "a5cb98414faac5f05979639d1dc2f59e2e7a9fd4d3df39a3fa25cbcdbf49b9d6"), looks := false }, kinds := [], alts := [], laidByText := true, laidKinds := [.data, .data, .data], laidTests := true, laidLooks := .later }
def FnSpaceStocksCardSaid : Prop := Claim7.holds Tryd.pinned (.plain (OpenSpec.ofChange fnSpaceStocksSpec)) fnSpaceStocksCard

/-- THE TIED CARD OF 'laws.FnExactPoundsText'. -/
def fnExactPoundsTextCard : Claim7 := { stood := { row := fnExactPoundsTextRow, standIns := [], harness := (true, "a5cb98414faac5f05979639d1dc2f59e2e7a9fd4d3df39a3fa25cbcdbf49b9d6"), looks := false }, kinds := [], alts := [], laidByText := true, laidKinds := [.data, .data, .data], laidTests := true, laidLooks := .later }
def FnExactPoundsTextCardSaid : Prop := Claim7.holds Tryd.pinned (.plain (OpenSpec.ofChange fnExactPoundsTextSpec)) fnExactPoundsTextCard

/-- THE SECOND FORM's CARD OF 'laws.FnPages'. -/
def fnPagesUptoCard : Claim7 := { stood := { row := fnPagesUptoRow, standIns := [], harness := (true, "a5cb98414faac5f05979639d1dc2f59e2e7a9fd4d3df39a3fa25cbcdbf49b9d6"), looks := false }, kinds := [], alts := [], laidByText := true, laidKinds := [.data, .data, .data], laidTests := true, laidLooks := .later }
def FnPagesUptoCardSaid : Prop := Claim7.holds Tryd.pinned (.plain (OpenSpec.upto fnPagesSpec)) fnPagesUptoCard

/-- THE SECOND FORM's CARD OF 'laws.FnFolds'. -/
def fnFoldsUptoCard : Claim7 := { stood := { row := fnFoldsUptoRow, standIns := [], harness := (true, "a5cb98414faac5f05979639d1dc2f59e2e7a9fd4d3df39a3fa25cbcdbf49b9d6"), looks := false }, kinds := [], alts := [], laidByText := true, laidKinds := [.data, .data, .data], laidTests := true, laidLooks := .later }
def FnFoldsUptoCardSaid : Prop := Claim7.holds Tryd.pinned (.plain (OpenSpec.upto fnFoldsSpec)) fnFoldsUptoCard

/-- THE SECOND FORM's CARD OF 'laws.FnTariffs'. -/
def fnTariffsUptoCard : Claim7 := { stood := { row := fnTariffsUptoRow, standIns := [], harness := (true, "a5cb98414faac5f05979639d1dc2f59e2e7a9fd4d3df39a3fa25cbcdbf49b9d6"), looks := false }, kinds := [], alts := [], laidByText := true, laidKinds := [.data, .data, .data], laidTests := true, laidLooks := .later }
def FnTariffsUptoCardSaid : Prop := Claim7.holds Tryd.pinned (.plain (OpenSpec.upto fnTariffsSpec)) fnTariffsUptoCard

/-- THE SECOND FORM's CARD OF 'laws.FnSpaceStocks'. -/
def fnSpaceStocksUptoCard : Claim7 := { stood := { row := fnSpaceStocksUptoRow, standIns := [], harness := (true, "a5cb98414faac5f05979639d1dc2f59e2e7a9fd4d3df39a3fa25cbcdbf49b9d6"), looks := false }, kinds := [], alts := [], laidByText := true, laidKinds := [.data, .data, .data], laidTests := true, laidLooks := .later }
def FnSpaceStocksUptoCardSaid : Prop := Claim7.holds Tryd.pinned (.plain (OpenSpec.upto fnSpaceStocksSpec)) fnSpaceStocksUptoCard

/-- THE SECOND FORM's CARD OF 'laws.FnExactPoundsText'. -/
def fnExactPoundsTextUptoCard : Claim7 := { stood := { row := fnExactPoundsTextUptoRow, standIns := [], harness := (true, "a5cb98414faac5f05979639d1dc2f59e2e7a9fd4d3df39a3fa25cbcdbf49b9d6"), looks := false }, kinds := [], alts := [], laidByText := true, laidKinds := [.data, .data, .data], laidTests := true, laidLooks := .later }
def FnExactPoundsTextUptoCardSaid : Prop := Claim7.holds Tryd.pinned (.plain (OpenSpec.upto fnExactPoundsTextSpec)) fnExactPoundsTextUptoCard
end Rows
end Go.Proofs.YtbamclepgabciaaDoor
