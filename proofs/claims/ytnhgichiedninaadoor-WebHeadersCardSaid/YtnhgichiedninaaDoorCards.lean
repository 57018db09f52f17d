/-
  DERIVED. GIVEN WITH THE SEED: THE CARDS: each row of YtnhgichiedninaaDoorRows.lean that lists a variable, with what it lists TIED to the program's text (the seventh form; the later family's looks); each row that meets fmt, with fmt's text TOLD by the authors' own Lean function (tested against real Go, not proved from fmt's source: count such statements apart). THE CARD IS WHAT COUNTS. Prove the row's statement (the work); the ties are given (YtnhgichiedninaaDoorTie.lean); close each card by the builder's one call (the guide's Derived/Test/ToyasCard.lean, 'card_holds'). Laid BY PROGRAM, IN A SANDBOX (cutbox-door.mjs). By AI agents, Wed Nov 11 2026. No macro, syntax, notation, axiom, sorry.
-/
import Derived.Test.YtnhgichiedninaaDoorRows
import GoSem.ClaimSeven
namespace Go.Proofs.YtnhgichiedninaaDoor
namespace Rows

/-- THE TIED CARD OF 'coveylaw30.WebPaths'. -/
def webPathsCard : Claim7 := { stood := { row := webPathsRow, standIns := [], harness := (true, "a9735e847ed4b2ccf6eb686f3c4d5526642ce5b2ee88974eefbf0af956825eb0"), looks := true }, kinds := [], alts := [], laidByText := true, laidKinds := [.data, .data, .data, .data, .pinned, .pinned], laidTests := true, laidLooks := .later }
def WebPathsCardSaid : Prop := Claim7.holds Tryd.pinned (.plain (OpenSpec.ofChange webPathsSpec)) webPathsCard

/-- THE TIED CARD OF 'coveylaw30.WebHeaders'. -/
def webHeadersCard : Claim7 := { stood := { row := webHeadersRow, standIns := [], harness := (true, "a9735e847ed4b2ccf6eb686f3c4d5526642ce5b2ee88974eefbf0af956825eb0"), looks := true }, kinds := [], alts := [], laidByText := true, laidKinds := [.data, .data, .data, .sentinel, .sentinel], laidTests := true, laidLooks := .later }
def WebHeadersCardSaid : Prop := Claim7.holds Tryd.pinned (.plain (OpenSpec.ofChange webHeadersSpec)) webHeadersCard

/-- THE SECOND FORM's CARD OF 'coveylaw30.WebPaths'. -/
def webPathsUptoCard : Claim7 := { stood := { row := webPathsUptoRow, standIns := [], harness := (true, "a9735e847ed4b2ccf6eb686f3c4d5526642ce5b2ee88974eefbf0af956825eb0"), looks := true }, kinds := [], alts := [], laidByText := true, laidKinds := [.data, .data, .data, .data, .pinned, .pinned], laidTests := true, laidLooks := .later }
def WebPathsUptoCardSaid : Prop := Claim7.holds Tryd.pinned (.plain (OpenSpec.upto webPathsSpec)) webPathsUptoCard

/-- THE SECOND FORM's CARD OF 'coveylaw30.WebHeaders'. -/
def webHeadersUptoCard : Claim7 := { stood := { row := webHeadersUptoRow, standIns := [], harness := (true, "a9735e847ed4b2ccf6eb686f3c4d5526642ce5b2ee88974eefbf0af956825eb0"), looks := true }, kinds := [], alts := [], laidByText := true, laidKinds := [.data, .data, .data, .sentinel, .sentinel], laidTests := true, laidLooks := .later }
def WebHeadersUptoCardSaid : Prop := Claim7.holds Tryd.pinned (.plain (OpenSpec.upto webHeadersSpec)) webHeadersUptoCard
end Rows
end Go.Proofs.YtnhgichiedninaaDoor
