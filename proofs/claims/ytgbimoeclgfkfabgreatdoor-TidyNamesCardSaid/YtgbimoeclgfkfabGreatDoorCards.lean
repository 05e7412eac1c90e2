/-
  DERIVED. GIVEN WITH THE SEED: THE CARDS: each row of YtgbimoeclgfkfabGreatDoorRows.lean that lists a variable, with what it lists TIED to the program's text (the seventh form; the later family's looks); each row that meets fmt, with fmt's text TOLD by the authors' own Lean function (tested against real Go, not proved from fmt's source: count such statements apart). THE CARD IS WHAT COUNTS. Prove the row's statement (the work); the ties are given (YtgbimoeclgfkfabGreatDoorTie.lean); close each card by the builder's one call (the guide's Derived/Test/ToyasCard.lean, 'card_holds'). Laid BY PROGRAM, IN A SANDBOX (cutbox-door.mjs). By AI agents, Wed Nov 11 2026. No macro, syntax, notation, axiom, sorry.
-/
import Derived.Test.YtgbimoeclgfkfabGreatDoorRows
import GoSem.ClaimSeven
namespace Go.Proofs.YtgbimoeclgfkfabGreatDoor
namespace Rows

/-- THE TIED CARD OF 'cantileverlaw12.TidyNames'. -/
def tidyNamesCard : Claim7 := { stood := { row := tidyNamesRow, standIns := [], harness := (true, "b5f17a1529cdadf01611f12b9c9c8fb9bb36f8c9c25a0d937792570e136e1506"), looks := true }, kinds := [], alts := [], laidByText := true, laidKinds := [.data, .data, .data, .sentinel, .sentinel, .data], laidTests := true, laidLooks := .later }
def TidyNamesCardSaid : Prop := Claim7.holds Tryz.pinned (.plain (OpenSpec.ofChange tidyNamesSpec)) tidyNamesCard

/-- THE SECOND FORM's CARD OF 'cantileverlaw12.TidyNames'. -/
def tidyNamesUptoCard : Claim7 := { stood := { row := tidyNamesUptoRow, standIns := [], harness := (true, "b5f17a1529cdadf01611f12b9c9c8fb9bb36f8c9c25a0d937792570e136e1506"), looks := true }, kinds := [], alts := [], laidByText := true, laidKinds := [.data, .data, .data, .sentinel, .sentinel, .data], laidTests := true, laidLooks := .later }
def TidyNamesUptoCardSaid : Prop := Claim7.holds Tryz.pinned (.plain (OpenSpec.upto tidyNamesSpec)) tidyNamesUptoCard
end Rows
end Go.Proofs.YtgbimoeclgfkfabGreatDoor
