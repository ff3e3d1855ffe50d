/-
  DERIVED. GIVEN WITH THE SEED: THE CARDS: each row of YtmohfdfjlgekaaaDoorRows.lean that lists a variable, with what it lists TIED to the program's text (the seventh form; the later family's looks); each row that meets fmt, with fmt's text TOLD by the authors' own Lean function (tested against real Go, not proved from fmt's source: count such statements apart). THE CARD IS WHAT COUNTS. Prove the row's statement (the work); the ties are given (YtmohfdfjlgekaaaDoorTie.lean); close each card by the builder's one call (the guide's Derived/Test/ToyasCard.lean, 'card_holds'). Laid BY PROGRAM, IN A SANDBOX (cutbox-door.mjs). By AI agents, Wed Nov 11 2026. No macro, syntax, notation, axiom, sorry.
-/
import Derived.Test.YtmohfdfjlgekaaaDoorRows
import GoSem.ClaimSeven
namespace Go.Proofs.YtmohfdfjlgekaaaDoor
namespace Rows

/-- THE TIED CARD OF 'laws.FnExactWordsOn'. -/
def fnExactWordsOnCard : Claim7 := { stood := { row := fnExactWordsOnRow, standIns := [], harness := (true, "5de6082f339b9abebf3b08155ba0a1c94d8d67a0783375df1619e3725e5d14d6"), looks := false }, kinds := [], alts := [], laidByText := true, laidKinds := [.data, .pinned, .pinned], laidTests := true, laidLooks := .later }
def FnExactWordsOnCardSaid : Prop := Claim7.holds Tryd.pinned (.plain (OpenSpec.ofChange fnExactWordsOnSpec)) fnExactWordsOnCard

/-- THE TIED CARD OF 'laws.FnStandardBoards'. -/
def fnStandardBoardsCard : Claim7 := { stood := { row := fnStandardBoardsRow, standIns := [], harness := (true, "5de6082f339b9abebf3b08155ba0a1c94d8d67a0783375df1619e3725e5d14d6"), looks := false }, kinds := [], alts := [], laidByText := true, laidKinds := [.data, .pinned], laidTests := true, laidLooks := .later }
def FnStandardBoardsCardSaid : Prop := Claim7.holds Tryd.pinned (.plain (OpenSpec.ofChange fnStandardBoardsSpec)) fnStandardBoardsCard

/-- THE SECOND FORM's CARD OF 'laws.FnExactWordsOn'. -/
def fnExactWordsOnUptoCard : Claim7 := { stood := { row := fnExactWordsOnUptoRow, standIns := [], harness := (true, "5de6082f339b9abebf3b08155ba0a1c94d8d67a0783375df1619e3725e5d14d6"), looks := false }, kinds := [], alts := [], laidByText := true, laidKinds := [.data, .pinned, .pinned], laidTests := true, laidLooks := .later }
def FnExactWordsOnUptoCardSaid : Prop := Claim7.holds Tryd.pinned (.plain (OpenSpec.upto fnExactWordsOnSpec)) fnExactWordsOnUptoCard

/-- THE SECOND FORM's CARD OF 'laws.FnStandardBoards'. -/
def fnStandardBoardsUptoCard : Claim7 := { stood := { row := fnStandardBoardsUptoRow, standIns := [], harness := (true, "5de6082f339b9abebf3b08155ba0a1c94d8d67a0783375df1619e3725e5d14d6"), looks := false }, kinds := [], alts := [], laidByText := true, laidKinds := [.data, .pinned], laidTests := true, laidLooks := .later }
def FnStandardBoardsUptoCardSaid : Prop := Claim7.holds Tryd.pinned (.plain (OpenSpec.upto fnStandardBoardsSpec)) fnStandardBoardsUptoCard
end Rows
end Go.Proofs.YtmohfdfjlgekaaaDoor
