/-
  DERIVED. GIVEN WITH THE SEED: THE CARDS: each row of YtnccfikimmolgaaGreatDoorRows.lean that lists a variable, with what it lists TIED to the program's text (the seventh form; the later family's looks); each row that meets fmt, with fmt's text TOLD by the authors' own Lean function (tested against real Go, not proved from fmt's source: count such statements apart). THE CARD IS WHAT COUNTS. Prove the row's statement (the work); the ties are given (YtnccfikimmolgaaGreatDoorTie.lean); close each card by the builder's one call (the guide's Derived/Test/ToyasCard.lean, 'card_holds'). Laid BY PROGRAM, IN A SANDBOX (cutbox-door.mjs). By AI agents, Wed Nov 11 2026. No macro, syntax, notation, axiom, sorry.
-/
import Derived.Test.YtnccfikimmolgaaGreatDoorRows
import GoSem.ClaimSeven
namespace Go.Proofs.YtnccfikimmolgaaGreatDoor
namespace Rows

/-- THE TIED CARD OF 'coveylaw05.FilesPlaces'. -/
def filesPlacesCard : Claim7 := { stood := { row := filesPlacesRow, standIns := [], harness := (true, "11960c618255546c4b67e54a9347785c60be7456535a2d9debc661fd61f08cb0"), looks := true }, kinds := [], alts := [], laidByText := true, laidKinds := [.data, .data, .data], laidTests := true, laidLooks := .later }
def FilesPlacesCardSaid : Prop := Claim7.holds Tryz.pinned (.plain (OpenSpec.ofChange filesPlacesSpec)) filesPlacesCard

/-- THE TIED CARD OF 'coveylaw05.FilesTexts'. -/
def filesTextsCard : Claim7 := { stood := { row := filesTextsRow, standIns := [], harness := (true, "11960c618255546c4b67e54a9347785c60be7456535a2d9debc661fd61f08cb0"), looks := true }, kinds := [], alts := [], laidByText := true, laidKinds := [.data, .data, .data, .data, .sentinel, .sentinel, .pinned], laidTests := true, laidLooks := .later }
def FilesTextsCardSaid : Prop := Claim7.holds Tryz.pinned (.plain (OpenSpec.ofChange filesTextsSpec)) filesTextsCard

/-- THE SECOND FORM's CARD OF 'coveylaw05.FilesPlaces'. -/
def filesPlacesUptoCard : Claim7 := { stood := { row := filesPlacesUptoRow, standIns := [], harness := (true, "11960c618255546c4b67e54a9347785c60be7456535a2d9debc661fd61f08cb0"), looks := true }, kinds := [], alts := [], laidByText := true, laidKinds := [.data, .data, .data], laidTests := true, laidLooks := .later }
def FilesPlacesUptoCardSaid : Prop := Claim7.holds Tryz.pinned (.plain (OpenSpec.upto filesPlacesSpec)) filesPlacesUptoCard

/-- THE SECOND FORM's CARD OF 'coveylaw05.FilesTexts'. -/
def filesTextsUptoCard : Claim7 := { stood := { row := filesTextsUptoRow, standIns := [], harness := (true, "11960c618255546c4b67e54a9347785c60be7456535a2d9debc661fd61f08cb0"), looks := true }, kinds := [], alts := [], laidByText := true, laidKinds := [.data, .data, .data, .data, .sentinel, .sentinel, .pinned], laidTests := true, laidLooks := .later }
def FilesTextsUptoCardSaid : Prop := Claim7.holds Tryz.pinned (.plain (OpenSpec.upto filesTextsSpec)) filesTextsUptoCard
end Rows
end Go.Proofs.YtnccfikimmolgaaGreatDoor
