/-
  DERIVED. GIVEN WITH THE SEED: THE CARDS: each row of YtajhailaofchlaaDoorRows.lean that lists a variable, with what it lists TIED to the program's text (the seventh form; the later family's looks); each row that meets fmt, with fmt's text TOLD by the authors' own Lean function (tested against real Go, not proved from fmt's source: count such statements apart). THE CARD IS WHAT COUNTS. Prove the row's statement (the work); the ties are given (YtajhailaofchlaaDoorTie.lean); close each card by the builder's one call (the guide's Derived/Test/ToyasCard.lean, 'card_holds'). Laid BY PROGRAM, IN A SANDBOX (cutbox-door.mjs). By AI agents, Wed Nov 11 2026. No macro, syntax, notation, axiom, sorry.
-/
import Derived.Test.YtajhailaofchlaaDoorRows
import GoSem.ClaimSeven
namespace Go.Proofs.YtajhailaofchlaaDoor
namespace Rows

/-- THE TIED CARD OF 'cantileverlaw03.AstNames'. -/
def astNamesCard : Claim7 := { stood := { row := astNamesRow, standIns := [], harness := (true, "26af438f0a053c229729a85d14bc432f2b0bbb73b3bc0a05ac4d4aa2fb9c51d7"), looks := false }, kinds := [], alts := [], laidByText := true, laidKinds := [.data, .data], laidTests := true, laidLooks := .later }
def AstNamesCardSaid : Prop := Claim7.holds Tryd.pinned (.plain (OpenSpec.ofChange astNamesSpec)) astNamesCard

/-- THE TIED CARD OF 'cantileverlaw03.AstChecks'. -/
def astChecksCard : Claim7 := { stood := { row := astChecksRow, standIns := [], harness := (true, "26af438f0a053c229729a85d14bc432f2b0bbb73b3bc0a05ac4d4aa2fb9c51d7"), looks := false }, kinds := [], alts := [], laidByText := true, laidKinds := [.data, .data], laidTests := true, laidLooks := .later }
def AstChecksCardSaid : Prop := Claim7.holds Tryd.pinned (.plain (OpenSpec.ofChange astChecksSpec)) astChecksCard

/-- THE TIED CARD OF 'cantileverlaw03.AstCalls'. -/
def astCallsCard : Claim7 := { stood := { row := astCallsRow, standIns := [], harness := (true, "26af438f0a053c229729a85d14bc432f2b0bbb73b3bc0a05ac4d4aa2fb9c51d7"), looks := false }, kinds := [], alts := [], laidByText := true, laidKinds := [.data, .data], laidTests := true, laidLooks := .later }
def AstCallsCardSaid : Prop := Claim7.holds Tryd.pinned (.plain (OpenSpec.ofChange astCallsSpec)) astCallsCard

/-- THE TIED CARD OF 'cantileverlaw03.AstCopy'. -/
def astCopyCard : Claim7 := { stood := { row := astCopyRow, standIns := [], harness := (true, "26af438f0a053c229729a85d14bc432f2b0bbb73b3bc0a05ac4d4aa2fb9c51d7"), looks := false }, kinds := [], alts := [], laidByText := true, laidKinds := [.data, .data], laidTests := true, laidLooks := .later }
def AstCopyCardSaid : Prop := Claim7.holds Tryd.pinned (.plain (OpenSpec.ofChange astCopySpec)) astCopyCard

/-- THE SECOND FORM's CARD OF 'cantileverlaw03.AstNames'. -/
def astNamesUptoCard : Claim7 := { stood := { row := astNamesUptoRow, standIns := [], harness := (true, "26af438f0a053c229729a85d14bc432f2b0bbb73b3bc0a05ac4d4aa2fb9c51d7"), looks := false }, kinds := [], alts := [], laidByText := true, laidKinds := [.data, .data], laidTests := true, laidLooks := .later }
def AstNamesUptoCardSaid : Prop := Claim7.holds Tryd.pinned (.plain (OpenSpec.upto astNamesSpec)) astNamesUptoCard

/-- THE SECOND FORM's CARD OF 'cantileverlaw03.AstChecks'. -/
def astChecksUptoCard : Claim7 := { stood := { row := astChecksUptoRow, standIns := [], harness := (true, "26af438f0a053c229729a85d14bc432f2b0bbb73b3bc0a05ac4d4aa2fb9c51d7"), looks := false }, kinds := [], alts := [], laidByText := true, laidKinds := [.data, .data], laidTests := true, laidLooks := .later }
def AstChecksUptoCardSaid : Prop := Claim7.holds Tryd.pinned (.plain (OpenSpec.upto astChecksSpec)) astChecksUptoCard

/-- THE SECOND FORM's CARD OF 'cantileverlaw03.AstCalls'. -/
def astCallsUptoCard : Claim7 := { stood := { row := astCallsUptoRow, standIns := [], harness := (true, "26af438f0a053c229729a85d14bc432f2b0bbb73b3bc0a05ac4d4aa2fb9c51d7"), looks := false }, kinds := [], alts := [], laidByText := true, laidKinds := [.data, .data], laidTests := true, laidLooks := .later }
def AstCallsUptoCardSaid : Prop := Claim7.holds Tryd.pinned (.plain (OpenSpec.upto astCallsSpec)) astCallsUptoCard

/-- THE SECOND FORM's CARD OF 'cantileverlaw03.AstCopy'. -/
def astCopyUptoCard : Claim7 := { stood := { row := astCopyUptoRow, standIns := [], harness := (true, "26af438f0a053c229729a85d14bc432f2b0bbb73b3bc0a05ac4d4aa2fb9c51d7"), looks := false }, kinds := [], alts := [], laidByText := true, laidKinds := [.data, .data], laidTests := true, laidLooks := .later }
def AstCopyUptoCardSaid : Prop := Claim7.holds Tryd.pinned (.plain (OpenSpec.upto astCopySpec)) astCopyUptoCard
end Rows
end Go.Proofs.YtajhailaofchlaaDoor
