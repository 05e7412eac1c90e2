/-
  DERIVED. GIVEN WITH THE SEED: THE CARDS: each row of YthbimonbnaodkaaGreatDoorRows.lean that lists a variable, with what it lists TIED to the program's text (the seventh form; the later family's looks); each row that meets fmt, with fmt's text TOLD by the authors' own Lean function (tested against real Go, not proved from fmt's source: count such statements apart). THE CARD IS WHAT COUNTS. Prove the row's statement (the work); the ties are given (YthbimonbnaodkaaGreatDoorTie.lean); close each card by the builder's one call (the guide's Derived/Test/ToyasCard.lean, 'card_holds'). Laid BY PROGRAM, IN A SANDBOX (cutbox-door.mjs). By AI agents, Wed Nov 11 2026. No macro, syntax, notation, axiom, sorry.
-/
import Derived.Test.YthbimonbnaodkaaGreatDoorRows
import GoSem.ClaimSeven
namespace Go.Proofs.YthbimonbnaodkaaGreatDoor
namespace Rows

/-- THE TIED CARD OF 'cantileverlaw11.UnrollFlat'. -/
def unrollFlatCard : Claim7 := { stood := { row := unrollFlatRow, standIns := [], harness := (true, "1fe2b82ed1848b9a67107c366f12951b33d33109effaf0551e4e83eaff5943ca"), looks := false }, kinds := [], alts := [], laidByText := true, laidKinds := [.data], laidTests := true, laidLooks := .later }
def UnrollFlatCardSaid : Prop := Claim7.holds Tryz.pinned (.plain (OpenSpec.ofChange unrollFlatSpec)) unrollFlatCard

/-- THE TIED CARD OF 'cantileverlaw11.UnrollWaits'. -/
def unrollWaitsCard : Claim7 := { stood := { row := unrollWaitsRow, standIns := [], harness := (true, "1fe2b82ed1848b9a67107c366f12951b33d33109effaf0551e4e83eaff5943ca"), looks := false }, kinds := [], alts := [], laidByText := true, laidKinds := [.data], laidTests := true, laidLooks := .later }
def UnrollWaitsCardSaid : Prop := Claim7.holds Tryz.pinned (.plain (OpenSpec.ofChange unrollWaitsSpec)) unrollWaitsCard

/-- THE TIED CARD OF 'cantileverlaw11.UnrollCalls'. -/
def unrollCallsCard : Claim7 := { stood := { row := unrollCallsRow, standIns := [], harness := (true, "1fe2b82ed1848b9a67107c366f12951b33d33109effaf0551e4e83eaff5943ca"), looks := false }, kinds := [], alts := [], laidByText := true, laidKinds := [.data], laidTests := true, laidLooks := .later }
def UnrollCallsCardSaid : Prop := Claim7.holds Tryz.pinned (.plain (OpenSpec.ofChange unrollCallsSpec)) unrollCallsCard

/-- THE TIED CARD OF 'cantileverlaw11.UnrollRuns'. -/
def unrollRunsCard : Claim7 := { stood := { row := unrollRunsRow, standIns := [], harness := (true, "1fe2b82ed1848b9a67107c366f12951b33d33109effaf0551e4e83eaff5943ca"), looks := false }, kinds := [], alts := [], laidByText := true, laidKinds := [.data], laidTests := true, laidLooks := .later }
def UnrollRunsCardSaid : Prop := Claim7.holds Tryz.pinned (.plain (OpenSpec.ofChange unrollRunsSpec)) unrollRunsCard

/-- THE TIED CARD OF 'cantileverlaw08.IrCalls'. -/
def irCallsCard : Claim7 := { stood := { row := irCallsRow, standIns := [], harness := (true, "1fe2b82ed1848b9a67107c366f12951b33d33109effaf0551e4e83eaff5943ca"), looks := false }, kinds := [], alts := [], laidByText := true, laidKinds := [.data, .data, .data, .data, .data], laidTests := true, laidLooks := .later }
def IrCallsCardSaid : Prop := Claim7.holds Tryz.pinned (.plain (OpenSpec.ofChange irCallsSpec)) irCallsCard

/-- THE SECOND FORM's CARD OF 'cantileverlaw11.UnrollFlat'. -/
def unrollFlatUptoCard : Claim7 := { stood := { row := unrollFlatUptoRow, standIns := [], harness := (true, "1fe2b82ed1848b9a67107c366f12951b33d33109effaf0551e4e83eaff5943ca"), looks := false }, kinds := [], alts := [], laidByText := true, laidKinds := [.data], laidTests := true, laidLooks := .later }
def UnrollFlatUptoCardSaid : Prop := Claim7.holds Tryz.pinned (.plain (OpenSpec.upto unrollFlatSpec)) unrollFlatUptoCard

/-- THE SECOND FORM's CARD OF 'cantileverlaw11.UnrollWaits'. -/
def unrollWaitsUptoCard : Claim7 := { stood := { row := unrollWaitsUptoRow, standIns := [], harness := (true, "1fe2b82ed1848b9a67107c366f12951b33d33109effaf0551e4e83eaff5943ca"), looks := false }, kinds := [], alts := [], laidByText := true, laidKinds := [.data], laidTests := true, laidLooks := .later }
def UnrollWaitsUptoCardSaid : Prop := Claim7.holds Tryz.pinned (.plain (OpenSpec.upto unrollWaitsSpec)) unrollWaitsUptoCard

/-- THE SECOND FORM's CARD OF 'cantileverlaw11.UnrollCalls'. -/
def unrollCallsUptoCard : Claim7 := { stood := { row := unrollCallsUptoRow, standIns := [], harness := (true, "1fe2b82ed1848b9a67107c366f12951b33d33109effaf0551e4e83eaff5943ca"), looks := false }, kinds := [], alts := [], laidByText := true, laidKinds := [.data], laidTests := true, laidLooks := .later }
def UnrollCallsUptoCardSaid : Prop := Claim7.holds Tryz.pinned (.plain (OpenSpec.upto unrollCallsSpec)) unrollCallsUptoCard

/-- THE SECOND FORM's CARD OF 'cantileverlaw11.UnrollRuns'. -/
def unrollRunsUptoCard : Claim7 := { stood := { row := unrollRunsUptoRow, standIns := [], harness := (true, "1fe2b82ed1848b9a67107c366f12951b33d33109effaf0551e4e83eaff5943ca"), looks := false }, kinds := [], alts := [], laidByText := true, laidKinds := [.data], laidTests := true, laidLooks := .later }
def UnrollRunsUptoCardSaid : Prop := Claim7.holds Tryz.pinned (.plain (OpenSpec.upto unrollRunsSpec)) unrollRunsUptoCard

/-- THE SECOND FORM's CARD OF 'cantileverlaw08.IrCalls'. -/
def irCallsUptoCard : Claim7 := { stood := { row := irCallsUptoRow, standIns := [], harness := (true, "1fe2b82ed1848b9a67107c366f12951b33d33109effaf0551e4e83eaff5943ca"), looks := false }, kinds := [], alts := [], laidByText := true, laidKinds := [.data, .data, .data, .data, .data], laidTests := true, laidLooks := .later }
def IrCallsUptoCardSaid : Prop := Claim7.holds Tryz.pinned (.plain (OpenSpec.upto irCallsSpec)) irCallsUptoCard
end Rows
end Go.Proofs.YthbimonbnaodkaaGreatDoor
