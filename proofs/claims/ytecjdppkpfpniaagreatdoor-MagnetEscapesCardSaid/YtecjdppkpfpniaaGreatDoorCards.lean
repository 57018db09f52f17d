/-
  DERIVED. GIVEN WITH THE SEED: THE CARDS: each row of YtecjdppkpfpniaaGreatDoorRows.lean that lists a variable, with what it lists TIED to the program's text (the seventh form; the later family's looks); each row that meets fmt, with fmt's text TOLD by the authors' own Lean function (tested against real Go, not proved from fmt's source: count such statements apart). THE CARD IS WHAT COUNTS. Prove the row's statement (the work); the ties are given (YtecjdppkpfpniaaGreatDoorTie.lean); close each card by the builder's one call (the guide's Derived/Test/ToyasCard.lean, 'card_holds'). Laid BY PROGRAM, IN A SANDBOX (cutbox-door.mjs). By AI agents, Wed Nov 11 2026. No macro, syntax, notation, axiom, sorry.
-/
import Derived.Test.YtecjdppkpfpniaaGreatDoorRows
import GoSem.ClaimSeven
namespace Go.Proofs.YtecjdppkpfpniaaGreatDoor
namespace Rows

/-- THE TIED CARD OF 'coveylaw09.MagnetParses'. -/
def magnetParsesCard : Claim7 := { stood := { row := magnetParsesRow, standIns := [], harness := (true, "87fcd2327da1ae074ae2c8207d82feab69a1b0531f147ff9d636fad0a9d52fac"), looks := true }, kinds := [], alts := [], laidByText := true, laidKinds := [.data, .data, .data, .data, .sentinel, .sentinel, .pinned], laidTests := true, laidLooks := .later }
def MagnetParsesCardSaid : Prop := Claim7.holds Tryz.pinned (.plain (OpenSpec.ofChange magnetParsesSpec)) magnetParsesCard

/-- THE TIED CARD OF 'coveylaw09.MagnetJoins'. -/
def magnetJoinsCard : Claim7 := { stood := { row := magnetJoinsRow, standIns := [], harness := (true, "87fcd2327da1ae074ae2c8207d82feab69a1b0531f147ff9d636fad0a9d52fac"), looks := true }, kinds := [], alts := [], laidByText := true, laidKinds := [.data, .data, .data, .data, .sentinel, .sentinel, .pinned], laidTests := true, laidLooks := .later }
def MagnetJoinsCardSaid : Prop := Claim7.holds Tryz.pinned (.plain (OpenSpec.ofChange magnetJoinsSpec)) magnetJoinsCard

/-- THE TIED CARD OF 'coveylaw09.MagnetWants'. -/
def magnetWantsCard : Claim7 := { stood := { row := magnetWantsRow, standIns := [], harness := (true, "87fcd2327da1ae074ae2c8207d82feab69a1b0531f147ff9d636fad0a9d52fac"), looks := true }, kinds := [], alts := [], laidByText := true, laidKinds := [.data, .data, .data, .data, .sentinel, .sentinel, .pinned], laidTests := true, laidLooks := .later }
def MagnetWantsCardSaid : Prop := Claim7.holds Tryz.pinned (.plain (OpenSpec.ofChange magnetWantsSpec)) magnetWantsCard

/-- THE TIED CARD OF 'coveylaw09.MagnetEscapes'. -/
def magnetEscapesCard : Claim7 := { stood := { row := magnetEscapesRow, standIns := [], harness := (true, "87fcd2327da1ae074ae2c8207d82feab69a1b0531f147ff9d636fad0a9d52fac"), looks := true }, kinds := [], alts := [], laidByText := true, laidKinds := [.data, .data, .data, .data, .sentinel, .sentinel, .pinned, .pinned], laidTests := true, laidLooks := .later }
def MagnetEscapesCardSaid : Prop := Claim7.holds Tryz.pinned (.plain (OpenSpec.ofChange magnetEscapesSpec)) magnetEscapesCard

/-- THE TIED CARD OF 'coveylaw09.MagnetForms'. -/
def magnetFormsCard : Claim7 := { stood := { row := magnetFormsRow, standIns := [], harness := (true, "87fcd2327da1ae074ae2c8207d82feab69a1b0531f147ff9d636fad0a9d52fac"), looks := true }, kinds := [], alts := [], laidByText := true, laidKinds := [.data, .data, .data, .data, .sentinel, .sentinel, .pinned, .pinned], laidTests := true, laidLooks := .later }
def MagnetFormsCardSaid : Prop := Claim7.holds Tryz.pinned (.plain (OpenSpec.ofChange magnetFormsSpec)) magnetFormsCard

/-- THE TIED CARD OF 'coveylaw09.MagnetNames'. -/
def magnetNamesCard : Claim7 := { stood := { row := magnetNamesRow, standIns := [], harness := (true, "87fcd2327da1ae074ae2c8207d82feab69a1b0531f147ff9d636fad0a9d52fac"), looks := true }, kinds := [], alts := [], laidByText := true, laidKinds := [.data, .data, .data, .data, .sentinel, .sentinel, .pinned], laidTests := true, laidLooks := .later }
def MagnetNamesCardSaid : Prop := Claim7.holds Tryz.pinned (.plain (OpenSpec.ofChange magnetNamesSpec)) magnetNamesCard

/-- THE SECOND FORM's CARD OF 'coveylaw09.MagnetParses'. -/
def magnetParsesUptoCard : Claim7 := { stood := { row := magnetParsesUptoRow, standIns := [], harness := (true, "87fcd2327da1ae074ae2c8207d82feab69a1b0531f147ff9d636fad0a9d52fac"), looks := true }, kinds := [], alts := [], laidByText := true, laidKinds := [.data, .data, .data, .data, .sentinel, .sentinel, .pinned], laidTests := true, laidLooks := .later }
def MagnetParsesUptoCardSaid : Prop := Claim7.holds Tryz.pinned (.plain (OpenSpec.upto magnetParsesSpec)) magnetParsesUptoCard

/-- THE SECOND FORM's CARD OF 'coveylaw09.MagnetJoins'. -/
def magnetJoinsUptoCard : Claim7 := { stood := { row := magnetJoinsUptoRow, standIns := [], harness := (true, "87fcd2327da1ae074ae2c8207d82feab69a1b0531f147ff9d636fad0a9d52fac"), looks := true }, kinds := [], alts := [], laidByText := true, laidKinds := [.data, .data, .data, .data, .sentinel, .sentinel, .pinned], laidTests := true, laidLooks := .later }
def MagnetJoinsUptoCardSaid : Prop := Claim7.holds Tryz.pinned (.plain (OpenSpec.upto magnetJoinsSpec)) magnetJoinsUptoCard

/-- THE SECOND FORM's CARD OF 'coveylaw09.MagnetWants'. -/
def magnetWantsUptoCard : Claim7 := { stood := { row := magnetWantsUptoRow, standIns := [], harness := (true, "87fcd2327da1ae074ae2c8207d82feab69a1b0531f147ff9d636fad0a9d52fac"), looks := true }, kinds := [], alts := [], laidByText := true, laidKinds := [.data, .data, .data, .data, .sentinel, .sentinel, .pinned], laidTests := true, laidLooks := .later }
def MagnetWantsUptoCardSaid : Prop := Claim7.holds Tryz.pinned (.plain (OpenSpec.upto magnetWantsSpec)) magnetWantsUptoCard

/-- THE SECOND FORM's CARD OF 'coveylaw09.MagnetEscapes'. -/
def magnetEscapesUptoCard : Claim7 := { stood := { row := magnetEscapesUptoRow, standIns := [], harness := (true, "87fcd2327da1ae074ae2c8207d82feab69a1b0531f147ff9d636fad0a9d52fac"), looks := true }, kinds := [], alts := [], laidByText := true, laidKinds := [.data, .data, .data, .data, .sentinel, .sentinel, .pinned, .pinned], laidTests := true, laidLooks := .later }
def MagnetEscapesUptoCardSaid : Prop := Claim7.holds Tryz.pinned (.plain (OpenSpec.upto magnetEscapesSpec)) magnetEscapesUptoCard

/-- THE SECOND FORM's CARD OF 'coveylaw09.MagnetForms'. -/
def magnetFormsUptoCard : Claim7 := { stood := { row := magnetFormsUptoRow, standIns := [], harness := (true, "87fcd2327da1ae074ae2c8207d82feab69a1b0531f147ff9d636fad0a9d52fac"), looks := true }, kinds := [], alts := [], laidByText := true, laidKinds := [.data, .data, .data, .data, .sentinel, .sentinel, .pinned, .pinned], laidTests := true, laidLooks := .later }
def MagnetFormsUptoCardSaid : Prop := Claim7.holds Tryz.pinned (.plain (OpenSpec.upto magnetFormsSpec)) magnetFormsUptoCard

/-- THE SECOND FORM's CARD OF 'coveylaw09.MagnetNames'. -/
def magnetNamesUptoCard : Claim7 := { stood := { row := magnetNamesUptoRow, standIns := [], harness := (true, "87fcd2327da1ae074ae2c8207d82feab69a1b0531f147ff9d636fad0a9d52fac"), looks := true }, kinds := [], alts := [], laidByText := true, laidKinds := [.data, .data, .data, .data, .sentinel, .sentinel, .pinned], laidTests := true, laidLooks := .later }
def MagnetNamesUptoCardSaid : Prop := Claim7.holds Tryz.pinned (.plain (OpenSpec.upto magnetNamesSpec)) magnetNamesUptoCard
end Rows
end Go.Proofs.YtecjdppkpfpniaaGreatDoor
