/-
  DERIVED. GIVEN WITH THE SEED: THE CARDS: each row of YtnhgichiedninaaGreatDoorRows.lean that lists a variable, with what it lists TIED to the program's text (the seventh form; the later family's looks); each row that meets fmt, with fmt's text TOLD by the authors' own Lean function (tested against real Go, not proved from fmt's source: count such statements apart). THE CARD IS WHAT COUNTS. Prove the row's statement (the work); the ties are given (YtnhgichiedninaaGreatDoorTie.lean); close each card by the builder's one call (the guide's Derived/Test/ToyasCard.lean, 'card_holds'). Laid BY PROGRAM, IN A SANDBOX (cutbox-door.mjs). By AI agents, Wed Nov 11 2026. No macro, syntax, notation, axiom, sorry.
-/
import Derived.Test.YtnhgichiedninaaGreatDoorRows
import GoSem.ClaimSeven
namespace Go.Proofs.YtnhgichiedninaaGreatDoor
namespace Rows

/-- THE TIED CARD OF 'coveylaw30.WebOnce'. -/
def webOnceCard : Claim7 := { stood := { row := webOnceRow, standIns := [], harness := (true, "f173b794bcff932703a3791400611c41591a547b42ca3667e336ddd5fb479469"), looks := true }, kinds := [], alts := [], laidByText := true, laidKinds := [.data, .data, .data], laidTests := true, laidLooks := .later }
def WebOnceCardSaid : Prop := Claim7.holds Tryz.pinned (.plain (OpenSpec.ofChange webOnceSpec)) webOnceCard

/-- THE TIED CARD OF 'coveylaw30.WebPlays'. -/
def webPlaysCard : Claim7 := { stood := { row := webPlaysRow, standIns := [], harness := (true, "f173b794bcff932703a3791400611c41591a547b42ca3667e336ddd5fb479469"), looks := true }, kinds := [], alts := [], laidByText := true, laidKinds := [.data, .data, .data], laidTests := true, laidLooks := .later }
def WebPlaysCardSaid : Prop := Claim7.holds Tryz.pinned (.plain (OpenSpec.ofChange webPlaysSpec)) webPlaysCard

/-- THE TIED CARD OF 'coveylaw30.WebRanges'. -/
def webRangesCard : Claim7 := { stood := { row := webRangesRow, standIns := [], harness := (true, "f173b794bcff932703a3791400611c41591a547b42ca3667e336ddd5fb479469"), looks := true }, kinds := [], alts := [], laidByText := true, laidKinds := [.data, .data, .data, .data, .pinned, .pinned], laidTests := true, laidLooks := .later }
def WebRangesCardSaid : Prop := Claim7.holds Tryz.pinned (.plain (OpenSpec.ofChange webRangesSpec)) webRangesCard

/-- THE SECOND FORM's CARD OF 'coveylaw30.WebOnce'. -/
def webOnceUptoCard : Claim7 := { stood := { row := webOnceUptoRow, standIns := [], harness := (true, "f173b794bcff932703a3791400611c41591a547b42ca3667e336ddd5fb479469"), looks := true }, kinds := [], alts := [], laidByText := true, laidKinds := [.data, .data, .data], laidTests := true, laidLooks := .later }
def WebOnceUptoCardSaid : Prop := Claim7.holds Tryz.pinned (.plain (OpenSpec.upto webOnceSpec)) webOnceUptoCard

/-- THE SECOND FORM's CARD OF 'coveylaw30.WebPlays'. -/
def webPlaysUptoCard : Claim7 := { stood := { row := webPlaysUptoRow, standIns := [], harness := (true, "f173b794bcff932703a3791400611c41591a547b42ca3667e336ddd5fb479469"), looks := true }, kinds := [], alts := [], laidByText := true, laidKinds := [.data, .data, .data], laidTests := true, laidLooks := .later }
def WebPlaysUptoCardSaid : Prop := Claim7.holds Tryz.pinned (.plain (OpenSpec.upto webPlaysSpec)) webPlaysUptoCard

/-- THE SECOND FORM's CARD OF 'coveylaw30.WebRanges'. -/
def webRangesUptoCard : Claim7 := { stood := { row := webRangesUptoRow, standIns := [], harness := (true, "f173b794bcff932703a3791400611c41591a547b42ca3667e336ddd5fb479469"), looks := true }, kinds := [], alts := [], laidByText := true, laidKinds := [.data, .data, .data, .data, .pinned, .pinned], laidTests := true, laidLooks := .later }
def WebRangesUptoCardSaid : Prop := Claim7.holds Tryz.pinned (.plain (OpenSpec.upto webRangesSpec)) webRangesUptoCard
end Rows
end Go.Proofs.YtnhgichiedninaaGreatDoor
