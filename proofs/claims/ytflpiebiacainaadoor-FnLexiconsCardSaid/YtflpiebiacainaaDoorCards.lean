/-
  DERIVED. GIVEN WITH THE SEED: THE CARDS: each row of YtflpiebiacainaaDoorRows.lean that lists a variable, with what it lists TIED to the program's text (the seventh form; the later family's looks); each row that meets fmt, with fmt's text TOLD by the authors' own Lean function (tested against real Go, not proved from fmt's source: count such statements apart). THE CARD IS WHAT COUNTS. Prove the row's statement (the work); the ties are given (YtflpiebiacainaaDoorTie.lean); close each card by the builder's one call (the guide's Derived/Test/ToyasCard.lean, 'card_holds'). Laid BY PROGRAM, IN A SANDBOX (cutbox-door.mjs). By AI agents, Wed Nov 11 2026. No macro, syntax, notation, axiom, sorry.
-/
import Derived.Test.YtflpiebiacainaaDoorRows
import GoSem.ClaimSeven
namespace Go.Proofs.YtflpiebiacainaaDoor
namespace Rows

/-- THE TIED CARD OF 'laws.FnLexicons'. -/
def fnLexiconsCard : Claim7 := { stood := { row := fnLexiconsRow, standIns := [], harness := (true, "a77a3be8cc8e706029bd236c8ac588a53e97d1e7de2f7fbeb46a9e74d8b6576e"), looks := false }, kinds := [], alts := [], laidByText := true, laidKinds := [.data, .pinned], laidTests := true, laidLooks := .later }
def FnLexiconsCardSaid : Prop := Claim7.holds Tryd.pinned (.plain (OpenSpec.ofChange fnLexiconsSpec)) fnLexiconsCard

/-- THE SECOND FORM's CARD OF 'laws.FnLexicons'. -/
def fnLexiconsUptoCard : Claim7 := { stood := { row := fnLexiconsUptoRow, standIns := [], harness := (true, "a77a3be8cc8e706029bd236c8ac588a53e97d1e7de2f7fbeb46a9e74d8b6576e"), looks := false }, kinds := [], alts := [], laidByText := true, laidKinds := [.data, .pinned], laidTests := true, laidLooks := .later }
def FnLexiconsUptoCardSaid : Prop := Claim7.holds Tryd.pinned (.plain (OpenSpec.upto fnLexiconsSpec)) fnLexiconsUptoCard
end Rows
end Go.Proofs.YtflpiebiacainaaDoor
