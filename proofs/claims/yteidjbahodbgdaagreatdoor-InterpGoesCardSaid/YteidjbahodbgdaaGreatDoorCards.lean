/-
  DERIVED. GIVEN WITH THE SEED: THE CARDS: each row of YteidjbahodbgdaaGreatDoorRows.lean that lists a variable, with what it lists TIED to the program's text (the seventh form; the later family's looks); each row that meets fmt, with fmt's text TOLD by the authors' own Lean function (tested against real Go, not proved from fmt's source: count such statements apart). THE CARD IS WHAT COUNTS. Prove the row's statement (the work); the ties are given (YteidjbahodbgdaaGreatDoorTie.lean); close each card by the builder's one call (the guide's Derived/Test/ToyasCard.lean, 'card_holds'). Laid BY PROGRAM, IN A SANDBOX (cutbox-door.mjs). By AI agents, Wed Nov 11 2026. No macro, syntax, notation, axiom, sorry.
-/
import Derived.Test.YteidjbahodbgdaaGreatDoorRows
import GoSem.ClaimSeven
namespace Go.Proofs.YteidjbahodbgdaaGreatDoor
namespace Rows

/-- THE TIED CARD OF 'cantileverlaw13.InterpAll'. -/
def interpAllCard : Claim7 := { stood := { row := interpAllRow, standIns := [], harness := (true, "0038e378a2c7ea6658c052c8fdf300b39bd9d6135e8ed055b4a118ae34bbaa78"), looks := true }, kinds := [], alts := [], laidByText := true, laidKinds := [.data, .data, .data, .sentinel, .sentinel, .data], laidTests := true, laidLooks := .later }
def InterpAllCardSaid : Prop := Claim7.holds Tryz.pinned (.plain (OpenSpec.ofChange interpAllSpec)) interpAllCard

/-- THE TIED CARD OF 'cantileverlaw13.InterpCovers'. -/
def interpCoversCard : Claim7 := { stood := { row := interpCoversRow, standIns := [], harness := (true, "0038e378a2c7ea6658c052c8fdf300b39bd9d6135e8ed055b4a118ae34bbaa78"), looks := true }, kinds := [], alts := [], laidByText := true, laidKinds := [.data, .data, .data, .sentinel, .sentinel, .data], laidTests := true, laidLooks := .later }
def InterpCoversCardSaid : Prop := Claim7.holds Tryz.pinned (.plain (OpenSpec.ofChange interpCoversSpec)) interpCoversCard

/-- THE TIED CARD OF 'cantileverlaw13.InterpCalls'. -/
def interpCallsCard : Claim7 := { stood := { row := interpCallsRow, standIns := [], harness := (true, "0038e378a2c7ea6658c052c8fdf300b39bd9d6135e8ed055b4a118ae34bbaa78"), looks := true }, kinds := [], alts := [], laidByText := true, laidKinds := [.data, .data, .data, .sentinel, .sentinel, .data], laidTests := true, laidLooks := .later }
def InterpCallsCardSaid : Prop := Claim7.holds Tryz.pinned (.plain (OpenSpec.ofChange interpCallsSpec)) interpCallsCard

/-- THE TIED CARD OF 'cantileverlaw13.InterpGoes'. -/
def interpGoesCard : Claim7 := { stood := { row := interpGoesRow, standIns := [], harness := (true, "0038e378a2c7ea6658c052c8fdf300b39bd9d6135e8ed055b4a118ae34bbaa78"), looks := true }, kinds := [], alts := [], laidByText := true, laidKinds := [.data, .data, .data, .sentinel, .sentinel, .data], laidTests := true, laidLooks := .later }
def InterpGoesCardSaid : Prop := Claim7.holds Tryz.pinned (.plain (OpenSpec.ofChange interpGoesSpec)) interpGoesCard

/-- THE SECOND FORM's CARD OF 'cantileverlaw13.InterpAll'. -/
def interpAllUptoCard : Claim7 := { stood := { row := interpAllUptoRow, standIns := [], harness := (true, "0038e378a2c7ea6658c052c8fdf300b39bd9d6135e8ed055b4a118ae34bbaa78"), looks := true }, kinds := [], alts := [], laidByText := true, laidKinds := [.data, .data, .data, .sentinel, .sentinel, .data], laidTests := true, laidLooks := .later }
def InterpAllUptoCardSaid : Prop := Claim7.holds Tryz.pinned (.plain (OpenSpec.upto interpAllSpec)) interpAllUptoCard

/-- THE SECOND FORM's CARD OF 'cantileverlaw13.InterpCovers'. -/
def interpCoversUptoCard : Claim7 := { stood := { row := interpCoversUptoRow, standIns := [], harness := (true, "0038e378a2c7ea6658c052c8fdf300b39bd9d6135e8ed055b4a118ae34bbaa78"), looks := true }, kinds := [], alts := [], laidByText := true, laidKinds := [.data, .data, .data, .sentinel, .sentinel, .data], laidTests := true, laidLooks := .later }
def InterpCoversUptoCardSaid : Prop := Claim7.holds Tryz.pinned (.plain (OpenSpec.upto interpCoversSpec)) interpCoversUptoCard

/-- THE SECOND FORM's CARD OF 'cantileverlaw13.InterpCalls'. -/
def interpCallsUptoCard : Claim7 := { stood := { row := interpCallsUptoRow, standIns := [], harness := (true, "0038e378a2c7ea6658c052c8fdf300b39bd9d6135e8ed055b4a118ae34bbaa78"), looks := true }, kinds := [], alts := [], laidByText := true, laidKinds := [.data, .data, .data, .sentinel, .sentinel, .data], laidTests := true, laidLooks := .later }
def InterpCallsUptoCardSaid : Prop := Claim7.holds Tryz.pinned (.plain (OpenSpec.upto interpCallsSpec)) interpCallsUptoCard

/-- THE SECOND FORM's CARD OF 'cantileverlaw13.InterpGoes'. -/
def interpGoesUptoCard : Claim7 := { stood := { row := interpGoesUptoRow, standIns := [], harness := (true, "0038e378a2c7ea6658c052c8fdf300b39bd9d6135e8ed055b4a118ae34bbaa78"), looks := true }, kinds := [], alts := [], laidByText := true, laidKinds := [.data, .data, .data, .sentinel, .sentinel, .data], laidTests := true, laidLooks := .later }
def InterpGoesUptoCardSaid : Prop := Claim7.holds Tryz.pinned (.plain (OpenSpec.upto interpGoesSpec)) interpGoesUptoCard
end Rows
end Go.Proofs.YteidjbahodbgdaaGreatDoor
