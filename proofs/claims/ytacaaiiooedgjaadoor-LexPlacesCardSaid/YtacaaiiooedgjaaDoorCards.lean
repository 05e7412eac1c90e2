/-
  DERIVED. GIVEN WITH THE SEED: THE CARDS: each row of YtacaaiiooedgjaaDoorRows.lean that lists a variable, with what it lists TIED to the program's text (the seventh form; the later family's looks); each row that meets fmt, with fmt's text TOLD by the authors' own Lean function (tested against real Go, not proved from fmt's source: count such statements apart). THE CARD IS WHAT COUNTS. Prove the row's statement (the work); the ties are given (YtacaaiiooedgjaaDoorTie.lean); close each card by the builder's one call (the guide's Derived/Test/ToyasCard.lean, 'card_holds'). Laid BY PROGRAM, IN A SANDBOX (cutbox-door.mjs). By AI agents, Wed Nov 11 2026. No macro, syntax, notation, axiom, sorry.
-/
import Derived.Test.YtacaaiiooedgjaaDoorRows
import GoSem.ClaimSeven
namespace Go.Proofs.YtacaaiiooedgjaaDoor
namespace Rows

/-- THE TIED CARD OF 'cantileverlaw02.LexGlue'. -/
def lexGlueCard : Claim7 := { stood := { row := lexGlueRow, standIns := [], harness := (true, "43aa390b580228a9e26703f6d5be8b997aaf7bae1a7cf0ec72b3333d68be3268"), looks := true }, kinds := [], alts := [], laidByText := true, laidKinds := [.data, .data, .data, .sentinel, .sentinel], laidTests := true, laidLooks := .later }
def LexGlueCardSaid : Prop := Claim7.holds Tryd.pinned (.plain (OpenSpec.ofChange lexGlueSpec)) lexGlueCard

/-- THE TIED CARD OF 'cantileverlaw02.LexReads'. -/
def lexReadsCard : Claim7 := { stood := { row := lexReadsRow, standIns := [], harness := (true, "43aa390b580228a9e26703f6d5be8b997aaf7bae1a7cf0ec72b3333d68be3268"), looks := true }, kinds := [], alts := [], laidByText := true, laidKinds := [.data, .data, .data, .sentinel, .sentinel], laidTests := true, laidLooks := .later }
def LexReadsCardSaid : Prop := Claim7.holds Tryd.pinned (.plain (OpenSpec.ofChange lexReadsSpec)) lexReadsCard

/-- THE TIED CARD OF 'cantileverlaw02.LexBack'. -/
def lexBackCard : Claim7 := { stood := { row := lexBackRow, standIns := [], harness := (true, "43aa390b580228a9e26703f6d5be8b997aaf7bae1a7cf0ec72b3333d68be3268"), looks := true }, kinds := [], alts := [], laidByText := true, laidKinds := [.data, .data, .data, .sentinel, .sentinel], laidTests := true, laidLooks := .later }
def LexBackCardSaid : Prop := Claim7.holds Tryd.pinned (.plain (OpenSpec.ofChange lexBackSpec)) lexBackCard

/-- THE TIED CARD OF 'cantileverlaw02.LexPlaces'. -/
def lexPlacesCard : Claim7 := { stood := { row := lexPlacesRow, standIns := [], harness := (true, "43aa390b580228a9e26703f6d5be8b997aaf7bae1a7cf0ec72b3333d68be3268"), looks := true }, kinds := [], alts := [], laidByText := true, laidKinds := [.data, .data, .data, .sentinel, .sentinel], laidTests := true, laidLooks := .later }
def LexPlacesCardSaid : Prop := Claim7.holds Tryd.pinned (.plain (OpenSpec.ofChange lexPlacesSpec)) lexPlacesCard

/-- THE SECOND FORM's CARD OF 'cantileverlaw02.LexGlue'. -/
def lexGlueUptoCard : Claim7 := { stood := { row := lexGlueUptoRow, standIns := [], harness := (true, "43aa390b580228a9e26703f6d5be8b997aaf7bae1a7cf0ec72b3333d68be3268"), looks := true }, kinds := [], alts := [], laidByText := true, laidKinds := [.data, .data, .data, .sentinel, .sentinel], laidTests := true, laidLooks := .later }
def LexGlueUptoCardSaid : Prop := Claim7.holds Tryd.pinned (.plain (OpenSpec.upto lexGlueSpec)) lexGlueUptoCard

/-- THE SECOND FORM's CARD OF 'cantileverlaw02.LexReads'. -/
def lexReadsUptoCard : Claim7 := { stood := { row := lexReadsUptoRow, standIns := [], harness := (true, "43aa390b580228a9e26703f6d5be8b997aaf7bae1a7cf0ec72b3333d68be3268"), looks := true }, kinds := [], alts := [], laidByText := true, laidKinds := [.data, .data, .data, .sentinel, .sentinel], laidTests := true, laidLooks := .later }
def LexReadsUptoCardSaid : Prop := Claim7.holds Tryd.pinned (.plain (OpenSpec.upto lexReadsSpec)) lexReadsUptoCard

/-- THE SECOND FORM's CARD OF 'cantileverlaw02.LexBack'. -/
def lexBackUptoCard : Claim7 := { stood := { row := lexBackUptoRow, standIns := [], harness := (true, "43aa390b580228a9e26703f6d5be8b997aaf7bae1a7cf0ec72b3333d68be3268"), looks := true }, kinds := [], alts := [], laidByText := true, laidKinds := [.data, .data, .data, .sentinel, .sentinel], laidTests := true, laidLooks := .later }
def LexBackUptoCardSaid : Prop := Claim7.holds Tryd.pinned (.plain (OpenSpec.upto lexBackSpec)) lexBackUptoCard

/-- THE SECOND FORM's CARD OF 'cantileverlaw02.LexPlaces'. -/
def lexPlacesUptoCard : Claim7 := { stood := { row := lexPlacesUptoRow, standIns := [], harness := (true, "43aa390b580228a9e26703f6d5be8b997aaf7bae1a7cf0ec72b3333d68be3268"), looks := true }, kinds := [], alts := [], laidByText := true, laidKinds := [.data, .data, .data, .sentinel, .sentinel], laidTests := true, laidLooks := .later }
def LexPlacesUptoCardSaid : Prop := Claim7.holds Tryd.pinned (.plain (OpenSpec.upto lexPlacesSpec)) lexPlacesUptoCard
end Rows
end Go.Proofs.YtacaaiiooedgjaaDoor
