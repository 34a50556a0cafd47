/-
  DERIVED. GIVEN WITH THE SEED: THE CARDS: each row of YtcdmdkgiabfbeaaDoorRows.lean that lists a variable, with what it lists TIED to the program's text (the seventh form; the later family's looks); each row that meets fmt, with fmt's text TOLD by the authors' own Lean function (tested against real Go, not proved from fmt's source: count such statements apart). THE CARD IS WHAT COUNTS. Prove the row's statement (the work); the ties are given (YtcdmdkgiabfbeaaDoorTie.lean); close each card by the builder's one call (the guide's Derived/Test/ToyasCard.lean, 'card_holds'). Laid BY PROGRAM, IN A SANDBOX (cutbox-door.mjs). By AI agents, Wed Nov 11 2026. No macro, syntax, notation, axiom, sorry.
-/
import Derived.Test.YtcdmdkgiabfbeaaDoorRows
import GoSem.ClaimSeven
namespace Go.Proofs.YtcdmdkgiabfbeaaDoor
namespace Rows

/-- THE TIED CARD OF 'bobbinlaw13.FilesLines'. -/
def filesLinesCard : Claim7 := { stood := { row := filesLinesRow, standIns := [], harness := (true, "1b363c83426b849b1b3826223b42bbd010698d321259e9ff8453b5ae7af19c70"), looks := true }, kinds := [], alts := [], laidByText := true, laidKinds := [.handle], laidTests := true, laidLooks := .later }
def FilesLinesCardSaid : Prop := Claim7.holds Tryd.pinned (.plain (OpenSpec.ofChange filesLinesSpec)) filesLinesCard

/-- THE TIED CARD OF 'bobbinlaw13.FilesBytes'. -/
def filesBytesCard : Claim7 := { stood := { row := filesBytesRow, standIns := [], harness := (true, "1b363c83426b849b1b3826223b42bbd010698d321259e9ff8453b5ae7af19c70"), looks := true }, kinds := [], alts := [], laidByText := true, laidKinds := [.handle], laidTests := true, laidLooks := .later }
def FilesBytesCardSaid : Prop := Claim7.holds Tryd.pinned (.plain (OpenSpec.ofChange filesBytesSpec)) filesBytesCard

/-- THE TIED CARD OF 'bobbinlaw13.FilesLimits'. -/
def filesLimitsCard : Claim7 := { stood := { row := filesLimitsRow, standIns := [], harness := (true, "1b363c83426b849b1b3826223b42bbd010698d321259e9ff8453b5ae7af19c70"), looks := true }, kinds := [], alts := [], laidByText := true, laidKinds := [.handle], laidTests := true, laidLooks := .later }
def FilesLimitsCardSaid : Prop := Claim7.holds Tryd.pinned (.plain (OpenSpec.ofChange filesLimitsSpec)) filesLimitsCard

/-- THE SECOND FORM's CARD OF 'bobbinlaw13.FilesLines'. -/
def filesLinesUptoCard : Claim7 := { stood := { row := filesLinesUptoRow, standIns := [], harness := (true, "1b363c83426b849b1b3826223b42bbd010698d321259e9ff8453b5ae7af19c70"), looks := true }, kinds := [], alts := [], laidByText := true, laidKinds := [.handle], laidTests := true, laidLooks := .later }
def FilesLinesUptoCardSaid : Prop := Claim7.holds Tryd.pinned (.plain (OpenSpec.upto filesLinesSpec)) filesLinesUptoCard

/-- THE SECOND FORM's CARD OF 'bobbinlaw13.FilesBytes'. -/
def filesBytesUptoCard : Claim7 := { stood := { row := filesBytesUptoRow, standIns := [], harness := (true, "1b363c83426b849b1b3826223b42bbd010698d321259e9ff8453b5ae7af19c70"), looks := true }, kinds := [], alts := [], laidByText := true, laidKinds := [.handle], laidTests := true, laidLooks := .later }
def FilesBytesUptoCardSaid : Prop := Claim7.holds Tryd.pinned (.plain (OpenSpec.upto filesBytesSpec)) filesBytesUptoCard

/-- THE SECOND FORM's CARD OF 'bobbinlaw13.FilesLimits'. -/
def filesLimitsUptoCard : Claim7 := { stood := { row := filesLimitsUptoRow, standIns := [], harness := (true, "1b363c83426b849b1b3826223b42bbd010698d321259e9ff8453b5ae7af19c70"), looks := true }, kinds := [], alts := [], laidByText := true, laidKinds := [.handle], laidTests := true, laidLooks := .later }
def FilesLimitsUptoCardSaid : Prop := Claim7.holds Tryd.pinned (.plain (OpenSpec.upto filesLimitsSpec)) filesLimitsUptoCard
end Rows
end Go.Proofs.YtcdmdkgiabfbeaaDoor
