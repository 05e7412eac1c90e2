/-
  DERIVED. GIVEN WITH THE SEED: THE CARDS: each row of YtkkfcfjhhdmamaaGreatDoorRows.lean that lists a variable, with what it lists TIED to the program's text (the seventh form; the later family's looks); each row that meets fmt, with fmt's text TOLD by the authors' own Lean function (tested against real Go, not proved from fmt's source: count such statements apart). THE CARD IS WHAT COUNTS. Prove the row's statement (the work); the ties are given (YtkkfcfjhhdmamaaGreatDoorTie.lean); close each card by the builder's one call (the guide's Derived/Test/ToyasCard.lean, 'card_holds'). Laid BY PROGRAM, IN A SANDBOX (cutbox-door.mjs). By AI agents, Wed Nov 11 2026. No macro, syntax, notation, axiom, sorry.
-/
import Derived.Test.YtkkfcfjhhdmamaaGreatDoorRows
import GoSem.ClaimSeven
namespace Go.Proofs.YtkkfcfjhhdmamaaGreatDoor
namespace Rows

/-- THE TIED CARD OF 'cantileverlaw05.ShowBack'. -/
def showBackCard : Claim7 := { stood := { row := showBackRow, standIns := [], harness := (true, "a8ab378b7409ca202b516997ddd7b8a253270bc8d6a7c1bfd60849dbc2c69032"), looks := false }, kinds := [], alts := [], laidByText := true, laidKinds := [.data, .data, .data, .data, .data], laidTests := true, laidLooks := .later }
def ShowBackCardSaid : Prop := Claim7.holds Tryz.pinned (.plain (OpenSpec.ofChange showBackSpec)) showBackCard

/-- THE TIED CARD OF 'cantileverlaw05.ShowCalls'. -/
def showCallsCard : Claim7 := { stood := { row := showCallsRow, standIns := [], harness := (true, "a8ab378b7409ca202b516997ddd7b8a253270bc8d6a7c1bfd60849dbc2c69032"), looks := false }, kinds := [], alts := [], laidByText := true, laidKinds := [.data, .data, .data, .data, .data], laidTests := true, laidLooks := .later }
def ShowCallsCardSaid : Prop := Claim7.holds Tryz.pinned (.plain (OpenSpec.ofChange showCallsSpec)) showCallsCard

/-- THE TIED CARD OF 'cantileverlaw05.ShowParts'. -/
def showPartsCard : Claim7 := { stood := { row := showPartsRow, standIns := [], harness := (true, "a8ab378b7409ca202b516997ddd7b8a253270bc8d6a7c1bfd60849dbc2c69032"), looks := false }, kinds := [], alts := [], laidByText := true, laidKinds := [.data, .data, .data, .data, .data], laidTests := true, laidLooks := .later }
def ShowPartsCardSaid : Prop := Claim7.holds Tryz.pinned (.plain (OpenSpec.ofChange showPartsSpec)) showPartsCard

/-- THE SECOND FORM's CARD OF 'cantileverlaw05.ShowBack'. -/
def showBackUptoCard : Claim7 := { stood := { row := showBackUptoRow, standIns := [], harness := (true, "a8ab378b7409ca202b516997ddd7b8a253270bc8d6a7c1bfd60849dbc2c69032"), looks := false }, kinds := [], alts := [], laidByText := true, laidKinds := [.data, .data, .data, .data, .data], laidTests := true, laidLooks := .later }
def ShowBackUptoCardSaid : Prop := Claim7.holds Tryz.pinned (.plain (OpenSpec.upto showBackSpec)) showBackUptoCard

/-- THE SECOND FORM's CARD OF 'cantileverlaw05.ShowCalls'. -/
def showCallsUptoCard : Claim7 := { stood := { row := showCallsUptoRow, standIns := [], harness := (true, "a8ab378b7409ca202b516997ddd7b8a253270bc8d6a7c1bfd60849dbc2c69032"), looks := false }, kinds := [], alts := [], laidByText := true, laidKinds := [.data, .data, .data, .data, .data], laidTests := true, laidLooks := .later }
def ShowCallsUptoCardSaid : Prop := Claim7.holds Tryz.pinned (.plain (OpenSpec.upto showCallsSpec)) showCallsUptoCard

/-- THE SECOND FORM's CARD OF 'cantileverlaw05.ShowParts'. -/
def showPartsUptoCard : Claim7 := { stood := { row := showPartsUptoRow, standIns := [], harness := (true, "a8ab378b7409ca202b516997ddd7b8a253270bc8d6a7c1bfd60849dbc2c69032"), looks := false }, kinds := [], alts := [], laidByText := true, laidKinds := [.data, .data, .data, .data, .data], laidTests := true, laidLooks := .later }
def ShowPartsUptoCardSaid : Prop := Claim7.holds Tryz.pinned (.plain (OpenSpec.upto showPartsSpec)) showPartsUptoCard
end Rows
end Go.Proofs.YtkkfcfjhhdmamaaGreatDoor
