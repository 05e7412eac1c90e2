/-
  DERIVED. GIVEN WITH THE SEED: THE CARDS: each row of YtaendinfcbkloabDoorRows.lean that lists a variable, with what it lists TIED to the program's text (the seventh form; the later family's looks); each row that meets fmt, with fmt's text TOLD by the authors' own Lean function (tested against real Go, not proved from fmt's source: count such statements apart). THE CARD IS WHAT COUNTS. Prove the row's statement (the work); the ties are given (YtaendinfcbkloabDoorTie.lean); close each card by the builder's one call (the guide's Derived/Test/ToyasCard.lean, 'card_holds'). Laid BY PROGRAM, IN A SANDBOX (cutbox-door.mjs). By AI agents, Wed Nov 11 2026. No macro, syntax, notation, axiom, sorry.
-/
import Derived.Test.YtaendinfcbkloabDoorRows
import GoSem.ClaimSeven
namespace Go.Proofs.YtaendinfcbkloabDoor
namespace Rows

/-- THE TIED CARD OF 'cantileverlaw08.IrNames'. -/
def irNamesCard : Claim7 := { stood := { row := irNamesRow, standIns := [], harness := (true, "380088cb98979179d08abdcc8f880769aefe3e093a3767986b22d7cdee60b707"), looks := false }, kinds := [], alts := [], laidByText := true, laidKinds := [.data, .data, .data, .data, .data], laidTests := true, laidLooks := .later }
def IrNamesCardSaid : Prop := Claim7.holds Tryd.pinned (.plain (OpenSpec.ofChange irNamesSpec)) irNamesCard

/-- THE SECOND FORM's CARD OF 'cantileverlaw08.IrNames'. -/
def irNamesUptoCard : Claim7 := { stood := { row := irNamesUptoRow, standIns := [], harness := (true, "380088cb98979179d08abdcc8f880769aefe3e093a3767986b22d7cdee60b707"), looks := false }, kinds := [], alts := [], laidByText := true, laidKinds := [.data, .data, .data, .data, .data], laidTests := true, laidLooks := .later }
def IrNamesUptoCardSaid : Prop := Claim7.holds Tryd.pinned (.plain (OpenSpec.upto irNamesSpec)) irNamesUptoCard
end Rows
end Go.Proofs.YtaendinfcbkloabDoor
