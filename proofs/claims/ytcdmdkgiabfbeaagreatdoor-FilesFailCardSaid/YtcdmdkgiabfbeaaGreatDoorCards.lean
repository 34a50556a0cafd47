/-
  DERIVED. GIVEN WITH THE SEED: THE CARDS: each row of YtcdmdkgiabfbeaaGreatDoorRows.lean that lists a variable, with what it lists TIED to the program's text (the seventh form; the later family's looks); each row that meets fmt, with fmt's text TOLD by the authors' own Lean function (tested against real Go, not proved from fmt's source: count such statements apart). THE CARD IS WHAT COUNTS. Prove the row's statement (the work); the ties are given (YtcdmdkgiabfbeaaGreatDoorTie.lean); close each card by the builder's one call (the guide's Derived/Test/ToyasCard.lean, 'card_holds'). Laid BY PROGRAM, IN A SANDBOX (cutbox-door.mjs). By AI agents, Wed Nov 11 2026. No macro, syntax, notation, axiom, sorry.
-/
import Derived.Test.YtcdmdkgiabfbeaaGreatDoorRows
import GoSem.ClaimSeven
namespace Go.Proofs.YtcdmdkgiabfbeaaGreatDoor
namespace Rows

/-- THE TIED CARD OF 'bobbinlaw13.FilesNothing'. -/
def filesNothingCard : Claim7 := { stood := { row := filesNothingRow, standIns := [], harness := (true, "8acb15f038a0d229353776475dcd431a7e819712257e96ddd5b4fdd833e95b5c"), looks := true }, kinds := [], alts := [], laidByText := true, laidKinds := [.handle], laidTests := true, laidLooks := .later }
def FilesNothingCardSaid : Prop := Claim7.holds Tryz.pinned (.plain (OpenSpec.ofChange filesNothingSpec)) filesNothingCard

/-- THE TIED CARD OF 'bobbinlaw13.FilesFail'. -/
def filesFailCard : Claim7 := { stood := { row := filesFailRow, standIns := [], harness := (true, "8acb15f038a0d229353776475dcd431a7e819712257e96ddd5b4fdd833e95b5c"), looks := true }, kinds := [], alts := [], laidByText := true, laidKinds := [.handle], laidTests := true, laidLooks := .later }
def FilesFailCardSaid : Prop := Claim7.holds Tryz.pinned (.plain (OpenSpec.ofChange filesFailSpec)) filesFailCard

/-- THE TIED CARD OF 'bobbinlaw13.FilesPlay'. -/
def filesPlayCard : Claim7 := { stood := { row := filesPlayRow, standIns := [], harness := (true, "8acb15f038a0d229353776475dcd431a7e819712257e96ddd5b4fdd833e95b5c"), looks := true }, kinds := [], alts := [], laidByText := true, laidKinds := [.handle], laidTests := true, laidLooks := .later }
def FilesPlayCardSaid : Prop := Claim7.holds Tryz.pinned (.plain (OpenSpec.ofChange filesPlaySpec)) filesPlayCard

/-- THE SECOND FORM's CARD OF 'bobbinlaw13.FilesNothing'. -/
def filesNothingUptoCard : Claim7 := { stood := { row := filesNothingUptoRow, standIns := [], harness := (true, "8acb15f038a0d229353776475dcd431a7e819712257e96ddd5b4fdd833e95b5c"), looks := true }, kinds := [], alts := [], laidByText := true, laidKinds := [.handle], laidTests := true, laidLooks := .later }
def FilesNothingUptoCardSaid : Prop := Claim7.holds Tryz.pinned (.plain (OpenSpec.upto filesNothingSpec)) filesNothingUptoCard

/-- THE SECOND FORM's CARD OF 'bobbinlaw13.FilesFail'. -/
def filesFailUptoCard : Claim7 := { stood := { row := filesFailUptoRow, standIns := [], harness := (true, "8acb15f038a0d229353776475dcd431a7e819712257e96ddd5b4fdd833e95b5c"), looks := true }, kinds := [], alts := [], laidByText := true, laidKinds := [.handle], laidTests := true, laidLooks := .later }
def FilesFailUptoCardSaid : Prop := Claim7.holds Tryz.pinned (.plain (OpenSpec.upto filesFailSpec)) filesFailUptoCard

/-- THE SECOND FORM's CARD OF 'bobbinlaw13.FilesPlay'. -/
def filesPlayUptoCard : Claim7 := { stood := { row := filesPlayUptoRow, standIns := [], harness := (true, "8acb15f038a0d229353776475dcd431a7e819712257e96ddd5b4fdd833e95b5c"), looks := true }, kinds := [], alts := [], laidByText := true, laidKinds := [.handle], laidTests := true, laidLooks := .later }
def FilesPlayUptoCardSaid : Prop := Claim7.holds Tryz.pinned (.plain (OpenSpec.upto filesPlaySpec)) filesPlayUptoCard
end Rows
end Go.Proofs.YtcdmdkgiabfbeaaGreatDoor
