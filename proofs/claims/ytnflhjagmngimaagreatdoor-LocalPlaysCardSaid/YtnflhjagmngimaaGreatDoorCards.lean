/-
  DERIVED. GIVEN WITH THE SEED: THE CARDS: each row of YtnflhjagmngimaaGreatDoorRows.lean that lists a variable, with what it lists TIED to the program's text (the seventh form; the later family's looks); each row that meets fmt, with fmt's text TOLD by the authors' own Lean function (tested against real Go, not proved from fmt's source: count such statements apart). THE CARD IS WHAT COUNTS. Prove the row's statement (the work); the ties are given (YtnflhjagmngimaaGreatDoorTie.lean); close each card by the builder's one call (the guide's Derived/Test/ToyasCard.lean, 'card_holds'). Laid BY PROGRAM, IN A SANDBOX (cutbox-door.mjs). By AI agents, Wed Nov 11 2026. No macro, syntax, notation, axiom, sorry.
-/
import Derived.Test.YtnflhjagmngimaaGreatDoorRows
import GoSem.ClaimSeven
namespace Go.Proofs.YtnflhjagmngimaaGreatDoor
namespace Rows

/-- THE TIED CARD OF 'coveylaw23.LocalTurns'. -/
def localTurnsCard : Claim7 := { stood := { row := localTurnsRow, standIns := [], harness := (true, "0c479654706b31caf0fa63418ca5f94ad32134563fa64375485f7d5226d5a20b"), looks := true }, kinds := [], alts := [], laidByText := true, laidKinds := [.data, .data, .data, .data, .sentinel, .sentinel, .pinned], laidTests := true, laidLooks := .later }
def LocalTurnsCardSaid : Prop := Claim7.holds Tryz.pinned (.plain (OpenSpec.ofChange localTurnsSpec)) localTurnsCard

/-- THE TIED CARD OF 'coveylaw23.LocalHears'. -/
def localHearsCard : Claim7 := { stood := { row := localHearsRow, standIns := [], harness := (true, "0c479654706b31caf0fa63418ca5f94ad32134563fa64375485f7d5226d5a20b"), looks := true }, kinds := [], alts := [], laidByText := true, laidKinds := [.data, .data, .data, .data, .sentinel, .sentinel, .pinned], laidTests := true, laidLooks := .later }
def LocalHearsCardSaid : Prop := Claim7.holds Tryz.pinned (.plain (OpenSpec.ofChange localHearsSpec)) localHearsCard

/-- THE TIED CARD OF 'coveylaw23.LocalPlays'. -/
def localPlaysCard : Claim7 := { stood := { row := localPlaysRow, standIns := [], harness := (true, "0c479654706b31caf0fa63418ca5f94ad32134563fa64375485f7d5226d5a20b"), looks := true }, kinds := [], alts := [], laidByText := true, laidKinds := [.data, .data, .data, .data, .sentinel, .sentinel, .pinned], laidTests := true, laidLooks := .later }
def LocalPlaysCardSaid : Prop := Claim7.holds Tryz.pinned (.plain (OpenSpec.ofChange localPlaysSpec)) localPlaysCard

/-- THE SECOND FORM's CARD OF 'coveylaw23.LocalTurns'. -/
def localTurnsUptoCard : Claim7 := { stood := { row := localTurnsUptoRow, standIns := [], harness := (true, "0c479654706b31caf0fa63418ca5f94ad32134563fa64375485f7d5226d5a20b"), looks := true }, kinds := [], alts := [], laidByText := true, laidKinds := [.data, .data, .data, .data, .sentinel, .sentinel, .pinned], laidTests := true, laidLooks := .later }
def LocalTurnsUptoCardSaid : Prop := Claim7.holds Tryz.pinned (.plain (OpenSpec.upto localTurnsSpec)) localTurnsUptoCard

/-- THE SECOND FORM's CARD OF 'coveylaw23.LocalHears'. -/
def localHearsUptoCard : Claim7 := { stood := { row := localHearsUptoRow, standIns := [], harness := (true, "0c479654706b31caf0fa63418ca5f94ad32134563fa64375485f7d5226d5a20b"), looks := true }, kinds := [], alts := [], laidByText := true, laidKinds := [.data, .data, .data, .data, .sentinel, .sentinel, .pinned], laidTests := true, laidLooks := .later }
def LocalHearsUptoCardSaid : Prop := Claim7.holds Tryz.pinned (.plain (OpenSpec.upto localHearsSpec)) localHearsUptoCard

/-- THE SECOND FORM's CARD OF 'coveylaw23.LocalPlays'. -/
def localPlaysUptoCard : Claim7 := { stood := { row := localPlaysUptoRow, standIns := [], harness := (true, "0c479654706b31caf0fa63418ca5f94ad32134563fa64375485f7d5226d5a20b"), looks := true }, kinds := [], alts := [], laidByText := true, laidKinds := [.data, .data, .data, .data, .sentinel, .sentinel, .pinned], laidTests := true, laidLooks := .later }
def LocalPlaysUptoCardSaid : Prop := Claim7.holds Tryz.pinned (.plain (OpenSpec.upto localPlaysSpec)) localPlaysUptoCard
end Rows
end Go.Proofs.YtnflhjagmngimaaGreatDoor
