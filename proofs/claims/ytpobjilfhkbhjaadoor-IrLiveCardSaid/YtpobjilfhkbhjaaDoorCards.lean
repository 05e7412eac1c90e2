/-
  DERIVED. GIVEN WITH THE SEED: THE CARDS: each row of YtpobjilfhkbhjaaDoorRows.lean that lists a variable, with what it lists TIED to the program's text (the seventh form; the later family's looks); each row that meets fmt, with fmt's text TOLD by the authors' own Lean function (tested against real Go, not proved from fmt's source: count such statements apart). THE CARD IS WHAT COUNTS. Prove the row's statement (the work); the ties are given (YtpobjilfhkbhjaaDoorTie.lean); close each card by the builder's one call (the guide's Derived/Test/ToyasCard.lean, 'card_holds'). Laid BY PROGRAM, IN A SANDBOX (cutbox-door.mjs). By AI agents, Wed Nov 11 2026. No macro, syntax, notation, axiom, sorry.
-/
import Derived.Test.YtpobjilfhkbhjaaDoorRows
import GoSem.ClaimSeven
namespace Go.Proofs.YtpobjilfhkbhjaaDoor
namespace Rows

/-- THE TIED CARD OF 'cantileverlaw08.IrLive'. -/
def irLiveCard : Claim7 := { stood := { row := irLiveRow, standIns := [], harness := (true, "ee2078bc4dd0c788daddfc9b5d35e7b800be6089fbdb155730fd7c1886196994"), looks := false }, kinds := [], alts := [], laidByText := true, laidKinds := [.data, .data, .data, .data, .data], laidTests := true, laidLooks := .later }
def IrLiveCardSaid : Prop := Claim7.holds Tryd.pinned (.plain (OpenSpec.ofChange irLiveSpec)) irLiveCard

/-- THE SECOND FORM's CARD OF 'cantileverlaw08.IrLive'. -/
def irLiveUptoCard : Claim7 := { stood := { row := irLiveUptoRow, standIns := [], harness := (true, "ee2078bc4dd0c788daddfc9b5d35e7b800be6089fbdb155730fd7c1886196994"), looks := false }, kinds := [], alts := [], laidByText := true, laidKinds := [.data, .data, .data, .data, .data], laidTests := true, laidLooks := .later }
def IrLiveUptoCardSaid : Prop := Claim7.holds Tryd.pinned (.plain (OpenSpec.upto irLiveSpec)) irLiveUptoCard
end Rows
end Go.Proofs.YtpobjilfhkbhjaaDoor
