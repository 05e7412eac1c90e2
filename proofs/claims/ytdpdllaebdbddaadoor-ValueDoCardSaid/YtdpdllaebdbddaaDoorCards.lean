/-
  DERIVED. GIVEN WITH THE SEED: THE CARDS: each row of YtdpdllaebdbddaaDoorRows.lean that lists a variable, with what it lists TIED to the program's text (the seventh form; the later family's looks); each row that meets fmt, with fmt's text TOLD by the authors' own Lean function (tested against real Go, not proved from fmt's source: count such statements apart). THE CARD IS WHAT COUNTS. Prove the row's statement (the work); the ties are given (YtdpdllaebdbddaaDoorTie.lean); close each card by the builder's one call (the guide's Derived/Test/ToyasCard.lean, 'card_holds'). Laid BY PROGRAM, IN A SANDBOX (cutbox-door.mjs). By AI agents, Wed Nov 11 2026. No macro, syntax, notation, axiom, sorry.
-/
import Derived.Test.YtdpdllaebdbddaaDoorRows
import GoSem.ClaimSeven
namespace Go.Proofs.YtdpdllaebdbddaaDoor
namespace Rows

/-- THE TIED CARD OF 'cantileverlaw07.ValueAlgebra'. -/
def valueAlgebraCard : Claim7 := { stood := { row := valueAlgebraRow, standIns := [], harness := (true, "47aaca96ff1d22775e6d5d0b9b22d64675a68024a85d086e5d7e5201dbd64b38"), looks := false }, kinds := [], alts := [], laidByText := true, laidKinds := [.data], laidTests := true, laidLooks := .later }
def ValueAlgebraCardSaid : Prop := Claim7.holds Tryd.pinned (.plain (OpenSpec.ofChange valueAlgebraSpec)) valueAlgebraCard

/-- THE TIED CARD OF 'cantileverlaw07.ValueDo'. -/
def valueDoCard : Claim7 := { stood := { row := valueDoRow, standIns := [], harness := (true, "47aaca96ff1d22775e6d5d0b9b22d64675a68024a85d086e5d7e5201dbd64b38"), looks := false }, kinds := [], alts := [], laidByText := true, laidKinds := [.data], laidTests := true, laidLooks := .later }
def ValueDoCardSaid : Prop := Claim7.holds Tryd.pinned (.plain (OpenSpec.ofChange valueDoSpec)) valueDoCard

/-- THE TIED CARD OF 'cantileverlaw07.ValueNames'. -/
def valueNamesCard : Claim7 := { stood := { row := valueNamesRow, standIns := [], harness := (true, "47aaca96ff1d22775e6d5d0b9b22d64675a68024a85d086e5d7e5201dbd64b38"), looks := false }, kinds := [], alts := [], laidByText := true, laidKinds := [.data], laidTests := true, laidLooks := .later }
def ValueNamesCardSaid : Prop := Claim7.holds Tryd.pinned (.plain (OpenSpec.ofChange valueNamesSpec)) valueNamesCard

/-- THE SECOND FORM's CARD OF 'cantileverlaw07.ValueAlgebra'. -/
def valueAlgebraUptoCard : Claim7 := { stood := { row := valueAlgebraUptoRow, standIns := [], harness := (true, "47aaca96ff1d22775e6d5d0b9b22d64675a68024a85d086e5d7e5201dbd64b38"), looks := false }, kinds := [], alts := [], laidByText := true, laidKinds := [.data], laidTests := true, laidLooks := .later }
def ValueAlgebraUptoCardSaid : Prop := Claim7.holds Tryd.pinned (.plain (OpenSpec.upto valueAlgebraSpec)) valueAlgebraUptoCard

/-- THE SECOND FORM's CARD OF 'cantileverlaw07.ValueDo'. -/
def valueDoUptoCard : Claim7 := { stood := { row := valueDoUptoRow, standIns := [], harness := (true, "47aaca96ff1d22775e6d5d0b9b22d64675a68024a85d086e5d7e5201dbd64b38"), looks := false }, kinds := [], alts := [], laidByText := true, laidKinds := [.data], laidTests := true, laidLooks := .later }
def ValueDoUptoCardSaid : Prop := Claim7.holds Tryd.pinned (.plain (OpenSpec.upto valueDoSpec)) valueDoUptoCard

/-- THE SECOND FORM's CARD OF 'cantileverlaw07.ValueNames'. -/
def valueNamesUptoCard : Claim7 := { stood := { row := valueNamesUptoRow, standIns := [], harness := (true, "47aaca96ff1d22775e6d5d0b9b22d64675a68024a85d086e5d7e5201dbd64b38"), looks := false }, kinds := [], alts := [], laidByText := true, laidKinds := [.data], laidTests := true, laidLooks := .later }
def ValueNamesUptoCardSaid : Prop := Claim7.holds Tryd.pinned (.plain (OpenSpec.upto valueNamesSpec)) valueNamesUptoCard
end Rows
end Go.Proofs.YtdpdllaebdbddaaDoor
