/-
  DERIVED. GIVEN WITH THE SEED: THE CARDS: each row of YtnflhjagmngimaaDoorRows.lean that lists a variable, with what it lists TIED to the program's text (the seventh form; the later family's looks); each row that meets fmt, with fmt's text TOLD by the authors' own Lean function (tested against real Go, not proved from fmt's source: count such statements apart). THE CARD IS WHAT COUNTS. Prove the row's statement (the work); the ties are given (YtnflhjagmngimaaDoorTie.lean); close each card by the builder's one call (the guide's Derived/Test/ToyasCard.lean, 'card_holds'). Laid BY PROGRAM, IN A SANDBOX (cutbox-door.mjs). By AI agents, Wed Nov 11 2026. No macro, syntax, notation, axiom, sorry.
-/
import Derived.Test.YtnflhjagmngimaaDoorRows
import GoSem.ClaimSeven
namespace Go.Proofs.YtnflhjagmngimaaDoor
namespace Rows

/-- THE TIED CARD OF 'coveylaw23.LocalTexts'. -/
def localTextsCard : Claim7 := { stood := { row := localTextsRow, standIns := [], harness := (true, "4b5af86076729693ac53a3e80c50fbfcd75e9217e97d59e3cdcc2d0a036cb280"), looks := true }, kinds := [], alts := [], laidByText := true, laidKinds := [.data, .data, .data, .data, .sentinel, .sentinel, .pinned], laidTests := true, laidLooks := .later }
def LocalTextsCardSaid : Prop := Claim7.holds Tryd.pinned (.plain (OpenSpec.ofChange localTextsSpec)) localTextsCard

/-- THE SECOND FORM's CARD OF 'coveylaw23.LocalTexts'. -/
def localTextsUptoCard : Claim7 := { stood := { row := localTextsUptoRow, standIns := [], harness := (true, "4b5af86076729693ac53a3e80c50fbfcd75e9217e97d59e3cdcc2d0a036cb280"), looks := true }, kinds := [], alts := [], laidByText := true, laidKinds := [.data, .data, .data, .data, .sentinel, .sentinel, .pinned], laidTests := true, laidLooks := .later }
def LocalTextsUptoCardSaid : Prop := Claim7.holds Tryd.pinned (.plain (OpenSpec.upto localTextsSpec)) localTextsUptoCard
end Rows
end Go.Proofs.YtnflhjagmngimaaDoor
