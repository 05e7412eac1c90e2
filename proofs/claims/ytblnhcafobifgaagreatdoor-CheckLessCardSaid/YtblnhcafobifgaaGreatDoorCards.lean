/-
  DERIVED. GIVEN WITH THE SEED: THE CARDS: each row of YtblnhcafobifgaaGreatDoorRows.lean that lists a variable, with what it lists TIED to the program's text (the seventh form; the later family's looks); each row that meets fmt, with fmt's text TOLD by the authors' own Lean function (tested against real Go, not proved from fmt's source: count such statements apart). THE CARD IS WHAT COUNTS. Prove the row's statement (the work); the ties are given (YtblnhcafobifgaaGreatDoorTie.lean); close each card by the builder's one call (the guide's Derived/Test/ToyasCard.lean, 'card_holds'). Laid BY PROGRAM, IN A SANDBOX (cutbox-door.mjs). By AI agents, Wed Nov 11 2026. No macro, syntax, notation, axiom, sorry.
-/
import Derived.Test.YtblnhcafobifgaaGreatDoorRows
import GoSem.ClaimSeven
namespace Go.Proofs.YtblnhcafobifgaaGreatDoor
namespace Rows

/-- THE TIED CARD OF 'cantileverlaw06.CheckMay'. -/
def checkMayCard : Claim7 := { stood := { row := checkMayRow, standIns := [], harness := (true, "2741c36cb408fb8486f5ee73b5c53eadb183aa6b9db6052e8afed5ac2c149a5e"), looks := false }, kinds := [], alts := [], laidByText := true, laidKinds := [.data, .data, .data], laidTests := true, laidLooks := .later }
def CheckMayCardSaid : Prop := Claim7.holds Tryz.pinned (.plain (OpenSpec.ofChange checkMaySpec)) checkMayCard

/-- THE TIED CARD OF 'cantileverlaw06.CheckLess'. -/
def checkLessCard : Claim7 := { stood := { row := checkLessRow, standIns := [], harness := (true, "2741c36cb408fb8486f5ee73b5c53eadb183aa6b9db6052e8afed5ac2c149a5e"), looks := false }, kinds := [], alts := [], laidByText := true, laidKinds := [.data, .data, .data], laidTests := true, laidLooks := .later }
def CheckLessCardSaid : Prop := Claim7.holds Tryz.pinned (.plain (OpenSpec.ofChange checkLessSpec)) checkLessCard

/-- THE TIED CARD OF 'cantileverlaw06.CheckNames'. -/
def checkNamesCard : Claim7 := { stood := { row := checkNamesRow, standIns := [], harness := (true, "2741c36cb408fb8486f5ee73b5c53eadb183aa6b9db6052e8afed5ac2c149a5e"), looks := false }, kinds := [], alts := [], laidByText := true, laidKinds := [.data, .data, .data], laidTests := true, laidLooks := .later }
def CheckNamesCardSaid : Prop := Claim7.holds Tryz.pinned (.plain (OpenSpec.ofChange checkNamesSpec)) checkNamesCard

/-- THE TIED CARD OF 'cantileverlaw06.CheckCalls'. -/
def checkCallsCard : Claim7 := { stood := { row := checkCallsRow, standIns := [], harness := (true, "2741c36cb408fb8486f5ee73b5c53eadb183aa6b9db6052e8afed5ac2c149a5e"), looks := false }, kinds := [], alts := [], laidByText := true, laidKinds := [.data, .data, .data], laidTests := true, laidLooks := .later }
def CheckCallsCardSaid : Prop := Claim7.holds Tryz.pinned (.plain (OpenSpec.ofChange checkCallsSpec)) checkCallsCard

/-- THE SECOND FORM's CARD OF 'cantileverlaw06.CheckMay'. -/
def checkMayUptoCard : Claim7 := { stood := { row := checkMayUptoRow, standIns := [], harness := (true, "2741c36cb408fb8486f5ee73b5c53eadb183aa6b9db6052e8afed5ac2c149a5e"), looks := false }, kinds := [], alts := [], laidByText := true, laidKinds := [.data, .data, .data], laidTests := true, laidLooks := .later }
def CheckMayUptoCardSaid : Prop := Claim7.holds Tryz.pinned (.plain (OpenSpec.upto checkMaySpec)) checkMayUptoCard

/-- THE SECOND FORM's CARD OF 'cantileverlaw06.CheckLess'. -/
def checkLessUptoCard : Claim7 := { stood := { row := checkLessUptoRow, standIns := [], harness := (true, "2741c36cb408fb8486f5ee73b5c53eadb183aa6b9db6052e8afed5ac2c149a5e"), looks := false }, kinds := [], alts := [], laidByText := true, laidKinds := [.data, .data, .data], laidTests := true, laidLooks := .later }
def CheckLessUptoCardSaid : Prop := Claim7.holds Tryz.pinned (.plain (OpenSpec.upto checkLessSpec)) checkLessUptoCard

/-- THE SECOND FORM's CARD OF 'cantileverlaw06.CheckNames'. -/
def checkNamesUptoCard : Claim7 := { stood := { row := checkNamesUptoRow, standIns := [], harness := (true, "2741c36cb408fb8486f5ee73b5c53eadb183aa6b9db6052e8afed5ac2c149a5e"), looks := false }, kinds := [], alts := [], laidByText := true, laidKinds := [.data, .data, .data], laidTests := true, laidLooks := .later }
def CheckNamesUptoCardSaid : Prop := Claim7.holds Tryz.pinned (.plain (OpenSpec.upto checkNamesSpec)) checkNamesUptoCard

/-- THE SECOND FORM's CARD OF 'cantileverlaw06.CheckCalls'. -/
def checkCallsUptoCard : Claim7 := { stood := { row := checkCallsUptoRow, standIns := [], harness := (true, "2741c36cb408fb8486f5ee73b5c53eadb183aa6b9db6052e8afed5ac2c149a5e"), looks := false }, kinds := [], alts := [], laidByText := true, laidKinds := [.data, .data, .data], laidTests := true, laidLooks := .later }
def CheckCallsUptoCardSaid : Prop := Claim7.holds Tryz.pinned (.plain (OpenSpec.upto checkCallsSpec)) checkCallsUptoCard
end Rows
end Go.Proofs.YtblnhcafobifgaaGreatDoor
