/-
  DERIVED. GIVEN WITH THE SEED: THE CARDS: each row of YtnccfikimmolgaaDoorRows.lean that lists a variable, with what it lists TIED to the program's text (the seventh form; the later family's looks); each row that meets fmt, with fmt's text TOLD by the authors' own Lean function (tested against real Go, not proved from fmt's source: count such statements apart). THE CARD IS WHAT COUNTS. Prove the row's statement (the work); the ties are given (YtnccfikimmolgaaDoorTie.lean); close each card by the builder's one call (the guide's Derived/Test/ToyasCard.lean, 'card_holds'). Laid BY PROGRAM, IN A SANDBOX (cutbox-door.mjs). By AI agents, Wed Nov 11 2026. No macro, syntax, notation, axiom, sorry.
-/
import Derived.Test.YtnccfikimmolgaaDoorRows
import GoSem.ClaimSeven
namespace Go.Proofs.YtnccfikimmolgaaDoor
namespace Rows

/-- THE TIED CARD OF 'coveylaw05.FilesWrong'. -/
def filesWrongCard : Claim7 := { stood := { row := filesWrongRow, standIns := [], harness := (true, "054acbf44925fafa37140dc143c3bc5ab3e1ae0b547daff6e1d7634bf86f25cf"), looks := true }, kinds := [], alts := [], laidByText := true, laidKinds := [.data, .data, .data], laidTests := true, laidLooks := .later }
def FilesWrongCardSaid : Prop := Claim7.holds Tryd.pinned (.plain (OpenSpec.ofChange filesWrongSpec)) filesWrongCard

/-- THE TIED CARD OF 'coveylaw05.FilesAligned'. -/
def filesAlignedCard : Claim7 := { stood := { row := filesAlignedRow, standIns := [], harness := (true, "054acbf44925fafa37140dc143c3bc5ab3e1ae0b547daff6e1d7634bf86f25cf"), looks := true }, kinds := [], alts := [], laidByText := true, laidKinds := [.data, .data, .data], laidTests := true, laidLooks := .later }
def FilesAlignedCardSaid : Prop := Claim7.holds Tryd.pinned (.plain (OpenSpec.ofChange filesAlignedSpec)) filesAlignedCard

/-- THE TIED CARD OF 'coveylaw05.FilesTwoWays'. -/
def filesTwoWaysCard : Claim7 := { stood := { row := filesTwoWaysRow, standIns := [], harness := (true, "054acbf44925fafa37140dc143c3bc5ab3e1ae0b547daff6e1d7634bf86f25cf"), looks := true }, kinds := [], alts := [], laidByText := true, laidKinds := [.data, .data, .data], laidTests := true, laidLooks := .later }
def FilesTwoWaysCardSaid : Prop := Claim7.holds Tryd.pinned (.plain (OpenSpec.ofChange filesTwoWaysSpec)) filesTwoWaysCard

/-- THE TIED CARD OF 'coveylaw05.FilesPieces'. -/
def filesPiecesCard : Claim7 := { stood := { row := filesPiecesRow, standIns := [], harness := (true, "054acbf44925fafa37140dc143c3bc5ab3e1ae0b547daff6e1d7634bf86f25cf"), looks := true }, kinds := [], alts := [], laidByText := true, laidKinds := [.data, .data, .data], laidTests := true, laidLooks := .later }
def FilesPiecesCardSaid : Prop := Claim7.holds Tryd.pinned (.plain (OpenSpec.ofChange filesPiecesSpec)) filesPiecesCard

/-- THE TIED CARD OF 'coveylaw05.FilesRow'. -/
def filesRowCard : Claim7 := { stood := { row := filesRowRow, standIns := [], harness := (true, "054acbf44925fafa37140dc143c3bc5ab3e1ae0b547daff6e1d7634bf86f25cf"), looks := true }, kinds := [], alts := [], laidByText := true, laidKinds := [.data, .data, .data], laidTests := true, laidLooks := .later }
def FilesRowCardSaid : Prop := Claim7.holds Tryd.pinned (.plain (OpenSpec.ofChange filesRowSpec)) filesRowCard

/-- THE TIED CARD OF 'coveylaw05.FilesReads'. -/
def filesReadsCard : Claim7 := { stood := { row := filesReadsRow, standIns := [], harness := (true, "054acbf44925fafa37140dc143c3bc5ab3e1ae0b547daff6e1d7634bf86f25cf"), looks := true }, kinds := [], alts := [], laidByText := true, laidKinds := [.data, .data, .data], laidTests := true, laidLooks := .later }
def FilesReadsCardSaid : Prop := Claim7.holds Tryd.pinned (.plain (OpenSpec.ofChange filesReadsSpec)) filesReadsCard

/-- THE SECOND FORM's CARD OF 'coveylaw05.FilesWrong'. -/
def filesWrongUptoCard : Claim7 := { stood := { row := filesWrongUptoRow, standIns := [], harness := (true, "054acbf44925fafa37140dc143c3bc5ab3e1ae0b547daff6e1d7634bf86f25cf"), looks := true }, kinds := [], alts := [], laidByText := true, laidKinds := [.data, .data, .data], laidTests := true, laidLooks := .later }
def FilesWrongUptoCardSaid : Prop := Claim7.holds Tryd.pinned (.plain (OpenSpec.upto filesWrongSpec)) filesWrongUptoCard

/-- THE SECOND FORM's CARD OF 'coveylaw05.FilesAligned'. -/
def filesAlignedUptoCard : Claim7 := { stood := { row := filesAlignedUptoRow, standIns := [], harness := (true, "054acbf44925fafa37140dc143c3bc5ab3e1ae0b547daff6e1d7634bf86f25cf"), looks := true }, kinds := [], alts := [], laidByText := true, laidKinds := [.data, .data, .data], laidTests := true, laidLooks := .later }
def FilesAlignedUptoCardSaid : Prop := Claim7.holds Tryd.pinned (.plain (OpenSpec.upto filesAlignedSpec)) filesAlignedUptoCard

/-- THE SECOND FORM's CARD OF 'coveylaw05.FilesTwoWays'. -/
def filesTwoWaysUptoCard : Claim7 := { stood := { row := filesTwoWaysUptoRow, standIns := [], harness := (true, "054acbf44925fafa37140dc143c3bc5ab3e1ae0b547daff6e1d7634bf86f25cf"), looks := true }, kinds := [], alts := [], laidByText := true, laidKinds := [.data, .data, .data], laidTests := true, laidLooks := .later }
def FilesTwoWaysUptoCardSaid : Prop := Claim7.holds Tryd.pinned (.plain (OpenSpec.upto filesTwoWaysSpec)) filesTwoWaysUptoCard

/-- THE SECOND FORM's CARD OF 'coveylaw05.FilesPieces'. -/
def filesPiecesUptoCard : Claim7 := { stood := { row := filesPiecesUptoRow, standIns := [], harness := (true, "054acbf44925fafa37140dc143c3bc5ab3e1ae0b547daff6e1d7634bf86f25cf"), looks := true }, kinds := [], alts := [], laidByText := true, laidKinds := [.data, .data, .data], laidTests := true, laidLooks := .later }
def FilesPiecesUptoCardSaid : Prop := Claim7.holds Tryd.pinned (.plain (OpenSpec.upto filesPiecesSpec)) filesPiecesUptoCard

/-- THE SECOND FORM's CARD OF 'coveylaw05.FilesRow'. -/
def filesRowUptoCard : Claim7 := { stood := { row := filesRowUptoRow, standIns := [], harness := (true, "054acbf44925fafa37140dc143c3bc5ab3e1ae0b547daff6e1d7634bf86f25cf"), looks := true }, kinds := [], alts := [], laidByText := true, laidKinds := [.data, .data, .data], laidTests := true, laidLooks := .later }
def FilesRowUptoCardSaid : Prop := Claim7.holds Tryd.pinned (.plain (OpenSpec.upto filesRowSpec)) filesRowUptoCard

/-- THE SECOND FORM's CARD OF 'coveylaw05.FilesReads'. -/
def filesReadsUptoCard : Claim7 := { stood := { row := filesReadsUptoRow, standIns := [], harness := (true, "054acbf44925fafa37140dc143c3bc5ab3e1ae0b547daff6e1d7634bf86f25cf"), looks := true }, kinds := [], alts := [], laidByText := true, laidKinds := [.data, .data, .data], laidTests := true, laidLooks := .later }
def FilesReadsUptoCardSaid : Prop := Claim7.holds Tryd.pinned (.plain (OpenSpec.upto filesReadsSpec)) filesReadsUptoCard
end Rows
end Go.Proofs.YtnccfikimmolgaaDoor
