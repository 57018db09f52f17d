/-
  DERIVED. GIVEN WITH THE SEED: THE CARDS: each row of YtbgmkplpolgebaaGreatDoorRows.lean that lists a variable, with what it lists TIED to the program's text (the seventh form; the later family's looks); each row that meets fmt, with fmt's text TOLD by the authors' own Lean function (tested against real Go, not proved from fmt's source: count such statements apart). THE CARD IS WHAT COUNTS. Prove the row's statement (the work); the ties are given (YtbgmkplpolgebaaGreatDoorTie.lean); close each card by the builder's one call (the guide's Derived/Test/ToyasCard.lean, 'card_holds'). Laid BY PROGRAM, IN A SANDBOX (cutbox-door.mjs). By AI agents, Wed Nov 11 2026. No macro, syntax, notation, axiom, sorry.
-/
import Derived.Test.YtbgmkplpolgebaaGreatDoorRows
import GoSem.ClaimSeven
namespace Go.Proofs.YtbgmkplpolgebaaGreatDoor
namespace Rows

/-- THE TIED CARD OF 'coveylaw09.MagnetParses'. -/
def magnetParsesCard : Claim7 := { stood := { row := magnetParsesRow, standIns := [], harness := (true, "7092b6b410ae5ff6864ad95fc44a16af1756be63dc4a5a0d5be2a0a45fd2d5c8"), looks := true }, kinds := [], alts := [], laidByText := true, laidKinds := [.data, .data, .data, .data, .sentinel, .sentinel, .pinned], laidTests := true, laidLooks := .later }
def MagnetParsesCardSaid : Prop := Claim7.holds Tryz.pinned (.plain (OpenSpec.ofChange magnetParsesSpec)) magnetParsesCard

/-- THE TIED CARD OF 'coveylaw09.MagnetJoins'. -/
def magnetJoinsCard : Claim7 := { stood := { row := magnetJoinsRow, standIns := [], harness := (true, "7092b6b410ae5ff6864ad95fc44a16af1756be63dc4a5a0d5be2a0a45fd2d5c8"), looks := true }, kinds := [], alts := [], laidByText := true, laidKinds := [.data, .data, .data, .data, .sentinel, .sentinel, .pinned], laidTests := true, laidLooks := .later }
def MagnetJoinsCardSaid : Prop := Claim7.holds Tryz.pinned (.plain (OpenSpec.ofChange magnetJoinsSpec)) magnetJoinsCard

/-- THE TIED CARD OF 'coveylaw09.MagnetWants'. -/
def magnetWantsCard : Claim7 := { stood := { row := magnetWantsRow, standIns := [], harness := (true, "7092b6b410ae5ff6864ad95fc44a16af1756be63dc4a5a0d5be2a0a45fd2d5c8"), looks := true }, kinds := [], alts := [], laidByText := true, laidKinds := [.data, .data, .data, .data, .sentinel, .sentinel, .pinned], laidTests := true, laidLooks := .later }
def MagnetWantsCardSaid : Prop := Claim7.holds Tryz.pinned (.plain (OpenSpec.ofChange magnetWantsSpec)) magnetWantsCard

/-- THE TIED CARD OF 'coveylaw09.MagnetForms'. -/
def magnetFormsCard : Claim7 := { stood := { row := magnetFormsRow, standIns := [], harness := (true, "7092b6b410ae5ff6864ad95fc44a16af1756be63dc4a5a0d5be2a0a45fd2d5c8"), looks := true }, kinds := [], alts := [], laidByText := true, laidKinds := [.data, .data, .data, .data, .sentinel, .sentinel, .pinned, .pinned], laidTests := true, laidLooks := .later }
def MagnetFormsCardSaid : Prop := Claim7.holds Tryz.pinned (.plain (OpenSpec.ofChange magnetFormsSpec)) magnetFormsCard

/-- THE SECOND FORM's CARD OF 'coveylaw09.MagnetParses'. -/
def magnetParsesUptoCard : Claim7 := { stood := { row := magnetParsesUptoRow, standIns := [], harness := (true, "7092b6b410ae5ff6864ad95fc44a16af1756be63dc4a5a0d5be2a0a45fd2d5c8"), looks := true }, kinds := [], alts := [], laidByText := true, laidKinds := [.data, .data, .data, .data, .sentinel, .sentinel, .pinned], laidTests := true, laidLooks := .later }
def MagnetParsesUptoCardSaid : Prop := Claim7.holds Tryz.pinned (.plain (OpenSpec.upto magnetParsesSpec)) magnetParsesUptoCard

/-- THE SECOND FORM's CARD OF 'coveylaw09.MagnetJoins'. -/
def magnetJoinsUptoCard : Claim7 := { stood := { row := magnetJoinsUptoRow, standIns := [], harness := (true, "7092b6b410ae5ff6864ad95fc44a16af1756be63dc4a5a0d5be2a0a45fd2d5c8"), looks := true }, kinds := [], alts := [], laidByText := true, laidKinds := [.data, .data, .data, .data, .sentinel, .sentinel, .pinned], laidTests := true, laidLooks := .later }
def MagnetJoinsUptoCardSaid : Prop := Claim7.holds Tryz.pinned (.plain (OpenSpec.upto magnetJoinsSpec)) magnetJoinsUptoCard

/-- THE SECOND FORM's CARD OF 'coveylaw09.MagnetWants'. -/
def magnetWantsUptoCard : Claim7 := { stood := { row := magnetWantsUptoRow, standIns := [], harness := (true, "7092b6b410ae5ff6864ad95fc44a16af1756be63dc4a5a0d5be2a0a45fd2d5c8"), looks := true }, kinds := [], alts := [], laidByText := true, laidKinds := [.data, .data, .data, .data, .sentinel, .sentinel, .pinned], laidTests := true, laidLooks := .later }
def MagnetWantsUptoCardSaid : Prop := Claim7.holds Tryz.pinned (.plain (OpenSpec.upto magnetWantsSpec)) magnetWantsUptoCard

/-- THE SECOND FORM's CARD OF 'coveylaw09.MagnetForms'. -/
def magnetFormsUptoCard : Claim7 := { stood := { row := magnetFormsUptoRow, standIns := [], harness := (true, "7092b6b410ae5ff6864ad95fc44a16af1756be63dc4a5a0d5be2a0a45fd2d5c8"), looks := true }, kinds := [], alts := [], laidByText := true, laidKinds := [.data, .data, .data, .data, .sentinel, .sentinel, .pinned, .pinned], laidTests := true, laidLooks := .later }
def MagnetFormsUptoCardSaid : Prop := Claim7.holds Tryz.pinned (.plain (OpenSpec.upto magnetFormsSpec)) magnetFormsUptoCard
end Rows
end Go.Proofs.YtbgmkplpolgebaaGreatDoor
