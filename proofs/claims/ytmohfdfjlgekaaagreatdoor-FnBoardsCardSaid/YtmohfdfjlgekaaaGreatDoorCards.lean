/-
  DERIVED. GIVEN WITH THE SEED: THE CARDS: each row of YtmohfdfjlgekaaaGreatDoorRows.lean that lists a variable, with what it lists TIED to the program's text (the seventh form; the later family's looks); each row that meets fmt, with fmt's text TOLD by the authors' own Lean function (tested against real Go, not proved from fmt's source: count such statements apart). THE CARD IS WHAT COUNTS. Prove the row's statement (the work); the ties are given (YtmohfdfjlgekaaaGreatDoorTie.lean); close each card by the builder's one call (the guide's Derived/Test/ToyasCard.lean, 'card_holds'). Laid BY PROGRAM, IN A SANDBOX (cutbox-door.mjs). By AI agents, Wed Nov 11 2026. No macro, syntax, notation, axiom, sorry.
-/
import Derived.Test.YtmohfdfjlgekaaaGreatDoorRows
import GoSem.ClaimSeven
namespace Go.Proofs.YtmohfdfjlgekaaaGreatDoor
namespace Rows

/-- THE TIED CARD OF 'laws.FnBoardWords'. -/
def fnBoardWordsCard : Claim7 := { stood := { row := fnBoardWordsRow, standIns := [], harness := (true, "dad3f83df428dde746009a651750a75cb42e412d3a29bdf62991fac97e4a4147"), looks := true }, kinds := [], alts := [], laidByText := true, laidKinds := [.data, .pinned, .pinned], laidTests := true, laidLooks := .later }
def FnBoardWordsCardSaid : Prop := Claim7.holds Tryz.pinned (.plain (OpenSpec.ofChange fnBoardWordsSpec)) fnBoardWordsCard

/-- THE TIED CARD OF 'laws.FnBoards'. -/
def fnBoardsCard : Claim7 := { stood := { row := fnBoardsRow, standIns := [], harness := (true, "dad3f83df428dde746009a651750a75cb42e412d3a29bdf62991fac97e4a4147"), looks := true }, kinds := [], alts := [], laidByText := true, laidKinds := [.data, .data, .data, .data, .sentinel, .sentinel, .pinned], laidTests := true, laidLooks := .later }
def FnBoardsCardSaid : Prop := Claim7.holds Tryz.pinned (.plain (OpenSpec.ofChange fnBoardsSpec)) fnBoardsCard

/-- THE SECOND FORM's CARD OF 'laws.FnBoardWords'. -/
def fnBoardWordsUptoCard : Claim7 := { stood := { row := fnBoardWordsUptoRow, standIns := [], harness := (true, "dad3f83df428dde746009a651750a75cb42e412d3a29bdf62991fac97e4a4147"), looks := true }, kinds := [], alts := [], laidByText := true, laidKinds := [.data, .pinned, .pinned], laidTests := true, laidLooks := .later }
def FnBoardWordsUptoCardSaid : Prop := Claim7.holds Tryz.pinned (.plain (OpenSpec.upto fnBoardWordsSpec)) fnBoardWordsUptoCard

/-- THE SECOND FORM's CARD OF 'laws.FnBoards'. -/
def fnBoardsUptoCard : Claim7 := { stood := { row := fnBoardsUptoRow, standIns := [], harness := (true, "dad3f83df428dde746009a651750a75cb42e412d3a29bdf62991fac97e4a4147"), looks := true }, kinds := [], alts := [], laidByText := true, laidKinds := [.data, .data, .data, .data, .sentinel, .sentinel, .pinned], laidTests := true, laidLooks := .later }
def FnBoardsUptoCardSaid : Prop := Claim7.holds Tryz.pinned (.plain (OpenSpec.upto fnBoardsSpec)) fnBoardsUptoCard
end Rows
end Go.Proofs.YtmohfdfjlgekaaaGreatDoor
