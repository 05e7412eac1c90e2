/-
  DERIVED. GIVEN WITH THE SEED: THE CARDS: each row of YtpcpdlfhcahjgaaGreatDoorRows.lean that lists a variable, with what it lists TIED to the program's text (the seventh form; the later family's looks); each row that meets fmt, with fmt's text TOLD by the authors' own Lean function (tested against real Go, not proved from fmt's source: count such statements apart). THE CARD IS WHAT COUNTS. Prove the row's statement (the work); the ties are given (YtpcpdlfhcahjgaaGreatDoorTie.lean); close each card by the builder's one call (the guide's Derived/Test/ToyasCard.lean, 'card_holds'). Laid BY PROGRAM, IN A SANDBOX (cutbox-door.mjs). By AI agents, Wed Nov 11 2026. No macro, syntax, notation, axiom, sorry.
-/
import Derived.Test.YtpcpdlfhcahjgaaGreatDoorRows
import GoSem.ClaimSeven
namespace Go.Proofs.YtpcpdlfhcahjgaaGreatDoor
namespace Rows

/-- THE TIED CARD OF 'cantileverlaw27.DumpBack'. -/
def dumpBackCard : Claim7 := { stood := { row := dumpBackRow, standIns := [], harness := (true, "649f09cca783d76e498a3c79eaafab2b3140ad925b22a034fbab372db325b04b"), looks := true }, kinds := [], alts := [], laidByText := true, laidKinds := [.data, .data, .data, .data, .sentinel, .sentinel, .pinned], laidTests := true, laidLooks := .later }
def DumpBackCardSaid : Prop := Claim7.holds Tryz.pinned (.plain (OpenSpec.ofChange dumpBackSpec)) dumpBackCard

/-- THE TIED CARD OF 'cantileverlaw27.DumpLines'. -/
def dumpLinesCard : Claim7 := { stood := { row := dumpLinesRow, standIns := [], harness := (true, "649f09cca783d76e498a3c79eaafab2b3140ad925b22a034fbab372db325b04b"), looks := true }, kinds := [], alts := [], laidByText := true, laidKinds := [.data, .data, .data, .data, .sentinel, .sentinel, .pinned], laidTests := true, laidLooks := .later }
def DumpLinesCardSaid : Prop := Claim7.holds Tryz.pinned (.plain (OpenSpec.ofChange dumpLinesSpec)) dumpLinesCard

/-- THE TIED CARD OF 'cantileverlaw27.DumpJoins'. -/
def dumpJoinsCard : Claim7 := { stood := { row := dumpJoinsRow, standIns := [], harness := (true, "649f09cca783d76e498a3c79eaafab2b3140ad925b22a034fbab372db325b04b"), looks := true }, kinds := [], alts := [], laidByText := true, laidKinds := [.data, .data, .data, .data, .sentinel, .sentinel, .pinned], laidTests := true, laidLooks := .later }
def DumpJoinsCardSaid : Prop := Claim7.holds Tryz.pinned (.plain (OpenSpec.ofChange dumpJoinsSpec)) dumpJoinsCard

/-- THE SECOND FORM's CARD OF 'cantileverlaw27.DumpBack'. -/
def dumpBackUptoCard : Claim7 := { stood := { row := dumpBackUptoRow, standIns := [], harness := (true, "649f09cca783d76e498a3c79eaafab2b3140ad925b22a034fbab372db325b04b"), looks := true }, kinds := [], alts := [], laidByText := true, laidKinds := [.data, .data, .data, .data, .sentinel, .sentinel, .pinned], laidTests := true, laidLooks := .later }
def DumpBackUptoCardSaid : Prop := Claim7.holds Tryz.pinned (.plain (OpenSpec.upto dumpBackSpec)) dumpBackUptoCard

/-- THE SECOND FORM's CARD OF 'cantileverlaw27.DumpLines'. -/
def dumpLinesUptoCard : Claim7 := { stood := { row := dumpLinesUptoRow, standIns := [], harness := (true, "649f09cca783d76e498a3c79eaafab2b3140ad925b22a034fbab372db325b04b"), looks := true }, kinds := [], alts := [], laidByText := true, laidKinds := [.data, .data, .data, .data, .sentinel, .sentinel, .pinned], laidTests := true, laidLooks := .later }
def DumpLinesUptoCardSaid : Prop := Claim7.holds Tryz.pinned (.plain (OpenSpec.upto dumpLinesSpec)) dumpLinesUptoCard

/-- THE SECOND FORM's CARD OF 'cantileverlaw27.DumpJoins'. -/
def dumpJoinsUptoCard : Claim7 := { stood := { row := dumpJoinsUptoRow, standIns := [], harness := (true, "649f09cca783d76e498a3c79eaafab2b3140ad925b22a034fbab372db325b04b"), looks := true }, kinds := [], alts := [], laidByText := true, laidKinds := [.data, .data, .data, .data, .sentinel, .sentinel, .pinned], laidTests := true, laidLooks := .later }
def DumpJoinsUptoCardSaid : Prop := Claim7.holds Tryz.pinned (.plain (OpenSpec.upto dumpJoinsSpec)) dumpJoinsUptoCard
end Rows
end Go.Proofs.YtpcpdlfhcahjgaaGreatDoor
