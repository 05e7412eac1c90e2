/-
  DERIVED. GIVEN WITH THE SEED: THE CARDS: each row of YtgbimoeclgfkfaaGreatDoorRows.lean that lists a variable, with what it lists TIED to the program's text (the seventh form; the later family's looks); each row that meets fmt, with fmt's text TOLD by the authors' own Lean function (tested against real Go, not proved from fmt's source: count such statements apart). THE CARD IS WHAT COUNTS. Prove the row's statement (the work); the ties are given (YtgbimoeclgfkfaaGreatDoorTie.lean); close each card by the builder's one call (the guide's Derived/Test/ToyasCard.lean, 'card_holds'). Laid BY PROGRAM, IN A SANDBOX (cutbox-door.mjs). By AI agents, Wed Nov 11 2026. No macro, syntax, notation, axiom, sorry.
-/
import Derived.Test.YtgbimoeclgfkfaaGreatDoorRows
import GoSem.ClaimSeven
namespace Go.Proofs.YtgbimoeclgfkfaaGreatDoor
namespace Rows

/-- THE TIED CARD OF 'cantileverlaw11.UnrollNames'. -/
def unrollNamesCard : Claim7 := { stood := { row := unrollNamesRow, standIns := [], harness := (true, "e0d0d4f76bd87f1cf31d72fb8e2f6628dbc3631de4793ea480a726f32eb6cccb"), looks := false }, kinds := [], alts := [], laidByText := true, laidKinds := [.data], laidTests := true, laidLooks := .later }
def UnrollNamesCardSaid : Prop := Claim7.holds Tryz.pinned (.plain (OpenSpec.ofChange unrollNamesSpec)) unrollNamesCard

/-- THE SECOND FORM's CARD OF 'cantileverlaw11.UnrollNames'. -/
def unrollNamesUptoCard : Claim7 := { stood := { row := unrollNamesUptoRow, standIns := [], harness := (true, "e0d0d4f76bd87f1cf31d72fb8e2f6628dbc3631de4793ea480a726f32eb6cccb"), looks := false }, kinds := [], alts := [], laidByText := true, laidKinds := [.data], laidTests := true, laidLooks := .later }
def UnrollNamesUptoCardSaid : Prop := Claim7.holds Tryz.pinned (.plain (OpenSpec.upto unrollNamesSpec)) unrollNamesUptoCard
end Rows
end Go.Proofs.YtgbimoeclgfkfaaGreatDoor
