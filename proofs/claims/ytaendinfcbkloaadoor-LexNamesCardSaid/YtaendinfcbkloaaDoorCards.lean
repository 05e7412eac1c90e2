/-
  DERIVED. GIVEN WITH THE SEED: THE CARDS: each row of YtaendinfcbkloaaDoorRows.lean that lists a variable, with what it lists TIED to the program's text (the seventh form; the later family's looks); each row that meets fmt, with fmt's text TOLD by the authors' own Lean function (tested against real Go, not proved from fmt's source: count such statements apart). THE CARD IS WHAT COUNTS. Prove the row's statement (the work); the ties are given (YtaendinfcbkloaaDoorTie.lean); close each card by the builder's one call (the guide's Derived/Test/ToyasCard.lean, 'card_holds'). Laid BY PROGRAM, IN A SANDBOX (cutbox-door.mjs). By AI agents, Wed Nov 11 2026. No macro, syntax, notation, axiom, sorry.
-/
import Derived.Test.YtaendinfcbkloaaDoorRows
import GoSem.ClaimSeven
namespace Go.Proofs.YtaendinfcbkloaaDoor
namespace Rows

/-- THE TIED CARD OF 'cantileverlaw03.AstNames'. -/
def astNamesCard : Claim7 := { stood := { row := astNamesRow, standIns := [], harness := (true, "f26c843b5b7588d14fd2e6ab4c6ed9eef29217f3198d1cf44846053c53832727"), looks := true }, kinds := [], alts := [], laidByText := true, laidKinds := [.data, .data], laidTests := true, laidLooks := .later }
def AstNamesCardSaid : Prop := Claim7.holds Tryd.pinned (.plain (OpenSpec.ofChange astNamesSpec)) astNamesCard

/-- THE TIED CARD OF 'cantileverlaw02.LexNames'. -/
def lexNamesCard : Claim7 := { stood := { row := lexNamesRow, standIns := [], harness := (true, "f26c843b5b7588d14fd2e6ab4c6ed9eef29217f3198d1cf44846053c53832727"), looks := true }, kinds := [], alts := [], laidByText := true, laidKinds := [.data, .data, .data, .sentinel, .sentinel], laidTests := true, laidLooks := .later }
def LexNamesCardSaid : Prop := Claim7.holds Tryd.pinned (.plain (OpenSpec.ofChange lexNamesSpec)) lexNamesCard

/-- THE TIED CARD OF 'cantileverlaw05.ShowNames'. -/
def showNamesCard : Claim7 := { stood := { row := showNamesRow, standIns := [], harness := (true, "f26c843b5b7588d14fd2e6ab4c6ed9eef29217f3198d1cf44846053c53832727"), looks := true }, kinds := [], alts := [], laidByText := true, laidKinds := [.data, .data, .data, .data, .data], laidTests := true, laidLooks := .later }
def ShowNamesCardSaid : Prop := Claim7.holds Tryd.pinned (.plain (OpenSpec.ofChange showNamesSpec)) showNamesCard

/-- THE TIED CARD OF 'cantileverlaw13.InterpNames'. -/
def interpNamesCard : Claim7 := { stood := { row := interpNamesRow, standIns := [], harness := (true, "f26c843b5b7588d14fd2e6ab4c6ed9eef29217f3198d1cf44846053c53832727"), looks := true }, kinds := [], alts := [], laidByText := true, laidKinds := [.data, .data, .data, .sentinel, .sentinel, .data], laidTests := true, laidLooks := .later }
def InterpNamesCardSaid : Prop := Claim7.holds Tryd.pinned (.plain (OpenSpec.ofChange interpNamesSpec)) interpNamesCard

/-- THE SECOND FORM's CARD OF 'cantileverlaw03.AstNames'. -/
def astNamesUptoCard : Claim7 := { stood := { row := astNamesUptoRow, standIns := [], harness := (true, "f26c843b5b7588d14fd2e6ab4c6ed9eef29217f3198d1cf44846053c53832727"), looks := true }, kinds := [], alts := [], laidByText := true, laidKinds := [.data, .data], laidTests := true, laidLooks := .later }
def AstNamesUptoCardSaid : Prop := Claim7.holds Tryd.pinned (.plain (OpenSpec.upto astNamesSpec)) astNamesUptoCard

/-- THE SECOND FORM's CARD OF 'cantileverlaw02.LexNames'. -/
def lexNamesUptoCard : Claim7 := { stood := { row := lexNamesUptoRow, standIns := [], harness := (true, "f26c843b5b7588d14fd2e6ab4c6ed9eef29217f3198d1cf44846053c53832727"), looks := true }, kinds := [], alts := [], laidByText := true, laidKinds := [.data, .data, .data, .sentinel, .sentinel], laidTests := true, laidLooks := .later }
def LexNamesUptoCardSaid : Prop := Claim7.holds Tryd.pinned (.plain (OpenSpec.upto lexNamesSpec)) lexNamesUptoCard

/-- THE SECOND FORM's CARD OF 'cantileverlaw05.ShowNames'. -/
def showNamesUptoCard : Claim7 := { stood := { row := showNamesUptoRow, standIns := [], harness := (true, "f26c843b5b7588d14fd2e6ab4c6ed9eef29217f3198d1cf44846053c53832727"), looks := true }, kinds := [], alts := [], laidByText := true, laidKinds := [.data, .data, .data, .data, .data], laidTests := true, laidLooks := .later }
def ShowNamesUptoCardSaid : Prop := Claim7.holds Tryd.pinned (.plain (OpenSpec.upto showNamesSpec)) showNamesUptoCard

/-- THE SECOND FORM's CARD OF 'cantileverlaw13.InterpNames'. -/
def interpNamesUptoCard : Claim7 := { stood := { row := interpNamesUptoRow, standIns := [], harness := (true, "f26c843b5b7588d14fd2e6ab4c6ed9eef29217f3198d1cf44846053c53832727"), looks := true }, kinds := [], alts := [], laidByText := true, laidKinds := [.data, .data, .data, .sentinel, .sentinel, .data], laidTests := true, laidLooks := .later }
def InterpNamesUptoCardSaid : Prop := Claim7.holds Tryd.pinned (.plain (OpenSpec.upto interpNamesSpec)) interpNamesUptoCard
end Rows
end Go.Proofs.YtaendinfcbkloaaDoor
