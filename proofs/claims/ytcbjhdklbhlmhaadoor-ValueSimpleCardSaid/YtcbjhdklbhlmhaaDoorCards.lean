/-
  DERIVED. GIVEN WITH THE SEED: THE CARDS: each row of YtcbjhdklbhlmhaaDoorRows.lean that lists a variable, with what it lists TIED to the program's text (the seventh form; the later family's looks); each row that meets fmt, with fmt's text TOLD by the authors' own Lean function (tested against real Go, not proved from fmt's source: count such statements apart). THE CARD IS WHAT COUNTS. Prove the row's statement (the work); the ties are given (YtcbjhdklbhlmhaaDoorTie.lean); close each card by the builder's one call (the guide's Derived/Test/ToyasCard.lean, 'card_holds'). Laid BY PROGRAM, IN A SANDBOX (cutbox-door.mjs). By AI agents, Wed Nov 11 2026. No macro, syntax, notation, axiom, sorry.
-/
import Derived.Test.YtcbjhdklbhlmhaaDoorRows
import GoSem.ClaimSeven
namespace Go.Proofs.YtcbjhdklbhlmhaaDoor
namespace Rows

/-- THE TIED CARD OF 'cantileverlaw07.ValueSimple'. -/
def valueSimpleCard : Claim7 := { stood := { row := valueSimpleRow, standIns := [], harness := (true, "834a7e63fbf78c81f68df278dc5b4adc2ea7aaffd36b1f314d2955dd68c26aae"), looks := false }, kinds := [], alts := [], laidByText := true, laidKinds := [.data], laidTests := true, laidLooks := .later }
def ValueSimpleCardSaid : Prop := Claim7.holds Tryd.pinned (.plain (OpenSpec.ofChange valueSimpleSpec)) valueSimpleCard

/-- THE SECOND FORM's CARD OF 'cantileverlaw07.ValueSimple'. -/
def valueSimpleUptoCard : Claim7 := { stood := { row := valueSimpleUptoRow, standIns := [], harness := (true, "834a7e63fbf78c81f68df278dc5b4adc2ea7aaffd36b1f314d2955dd68c26aae"), looks := false }, kinds := [], alts := [], laidByText := true, laidKinds := [.data], laidTests := true, laidLooks := .later }
def ValueSimpleUptoCardSaid : Prop := Claim7.holds Tryd.pinned (.plain (OpenSpec.upto valueSimpleSpec)) valueSimpleUptoCard
end Rows
end Go.Proofs.YtcbjhdklbhlmhaaDoor
