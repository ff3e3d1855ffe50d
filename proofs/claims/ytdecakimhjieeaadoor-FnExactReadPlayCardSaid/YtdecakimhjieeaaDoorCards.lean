/-
  DERIVED. GIVEN WITH THE SEED: THE CARDS: each row of YtdecakimhjieeaaDoorRows.lean that lists a variable, with what it lists TIED to the program's text (the seventh form; the later family's looks); each row that meets fmt, with fmt's text TOLD by the authors' own Lean function (tested against real Go, not proved from fmt's source: count such statements apart). THE CARD IS WHAT COUNTS. Prove the row's statement (the work); the ties are given (YtdecakimhjieeaaDoorTie.lean); close each card by the builder's one call (the guide's Derived/Test/ToyasCard.lean, 'card_holds'). Laid BY PROGRAM, IN A SANDBOX (cutbox-door.mjs). By AI agents, Wed Nov 11 2026. No macro, syntax, notation, axiom, sorry.
-/
import Derived.Test.YtdecakimhjieeaaDoorRows
import GoSem.ClaimSeven
namespace Go.Proofs.YtdecakimhjieeaaDoor
namespace Rows

/-- THE TIED CARD OF 'laws.FnExactBoardText'. -/
def fnExactBoardTextCard : Claim7 := { stood := { row := fnExactBoardTextRow, standIns := [], harness := (true, "ce7a12549d1d8ddb5c7adcc3294065b1399697da1522717694f1a315c1036089"), looks := true }, kinds := [], alts := [], laidByText := true, laidKinds := [.data, .data, .data], laidTests := true, laidLooks := .later }
def FnExactBoardTextCardSaid : Prop := Claim7.holds Tryd.pinned (.plain (OpenSpec.ofChange fnExactBoardTextSpec)) fnExactBoardTextCard

/-- THE TIED CARD OF 'laws.FnExactReadBoard'. -/
def fnExactReadBoardCard : Claim7 := { stood := { row := fnExactReadBoardRow, standIns := [], harness := (true, "ce7a12549d1d8ddb5c7adcc3294065b1399697da1522717694f1a315c1036089"), looks := true }, kinds := [], alts := [], laidByText := true, laidKinds := [.data, .data, .data, .data, .sentinel, .sentinel, .pinned], laidTests := true, laidLooks := .later }
def FnExactReadBoardCardSaid : Prop := Claim7.holds Tryd.pinned (.plain (OpenSpec.ofChange fnExactReadBoardSpec)) fnExactReadBoardCard

/-- THE TIED CARD OF 'laws.FnExactPlayText'. -/
def fnExactPlayTextCard : Claim7 := { stood := { row := fnExactPlayTextRow, standIns := [], harness := (true, "ce7a12549d1d8ddb5c7adcc3294065b1399697da1522717694f1a315c1036089"), looks := true }, kinds := [], alts := [], laidByText := true, laidKinds := [.data, .data, .data, .data, .pinned, .pinned], laidTests := true, laidLooks := .later }
def FnExactPlayTextCardSaid : Prop := Claim7.holds Tryd.pinned (.plain (OpenSpec.ofChange fnExactPlayTextSpec)) fnExactPlayTextCard

/-- THE TIED CARD OF 'laws.FnExactReadPlay'. -/
def fnExactReadPlayCard : Claim7 := { stood := { row := fnExactReadPlayRow, standIns := [], harness := (true, "ce7a12549d1d8ddb5c7adcc3294065b1399697da1522717694f1a315c1036089"), looks := true }, kinds := [], alts := [], laidByText := true, laidKinds := [.data, .data, .data, .data, .sentinel, .sentinel, .pinned, .pinned], laidTests := true, laidLooks := .later }
def FnExactReadPlayCardSaid : Prop := Claim7.holds Tryd.pinned (.plain (OpenSpec.ofChange fnExactReadPlaySpec)) fnExactReadPlayCard

/-- THE SECOND FORM's CARD OF 'laws.FnExactBoardText'. -/
def fnExactBoardTextUptoCard : Claim7 := { stood := { row := fnExactBoardTextUptoRow, standIns := [], harness := (true, "ce7a12549d1d8ddb5c7adcc3294065b1399697da1522717694f1a315c1036089"), looks := true }, kinds := [], alts := [], laidByText := true, laidKinds := [.data, .data, .data], laidTests := true, laidLooks := .later }
def FnExactBoardTextUptoCardSaid : Prop := Claim7.holds Tryd.pinned (.plain (OpenSpec.upto fnExactBoardTextSpec)) fnExactBoardTextUptoCard

/-- THE SECOND FORM's CARD OF 'laws.FnExactReadBoard'. -/
def fnExactReadBoardUptoCard : Claim7 := { stood := { row := fnExactReadBoardUptoRow, standIns := [], harness := (true, "ce7a12549d1d8ddb5c7adcc3294065b1399697da1522717694f1a315c1036089"), looks := true }, kinds := [], alts := [], laidByText := true, laidKinds := [.data, .data, .data, .data, .sentinel, .sentinel, .pinned], laidTests := true, laidLooks := .later }
def FnExactReadBoardUptoCardSaid : Prop := Claim7.holds Tryd.pinned (.plain (OpenSpec.upto fnExactReadBoardSpec)) fnExactReadBoardUptoCard

/-- THE SECOND FORM's CARD OF 'laws.FnExactPlayText'. -/
def fnExactPlayTextUptoCard : Claim7 := { stood := { row := fnExactPlayTextUptoRow, standIns := [], harness := (true, "ce7a12549d1d8ddb5c7adcc3294065b1399697da1522717694f1a315c1036089"), looks := true }, kinds := [], alts := [], laidByText := true, laidKinds := [.data, .data, .data, .data, .pinned, .pinned], laidTests := true, laidLooks := .later }
def FnExactPlayTextUptoCardSaid : Prop := Claim7.holds Tryd.pinned (.plain (OpenSpec.upto fnExactPlayTextSpec)) fnExactPlayTextUptoCard

/-- THE SECOND FORM's CARD OF 'laws.FnExactReadPlay'. -/
def fnExactReadPlayUptoCard : Claim7 := { stood := { row := fnExactReadPlayUptoRow, standIns := [], harness := (true, "ce7a12549d1d8ddb5c7adcc3294065b1399697da1522717694f1a315c1036089"), looks := true }, kinds := [], alts := [], laidByText := true, laidKinds := [.data, .data, .data, .data, .sentinel, .sentinel, .pinned, .pinned], laidTests := true, laidLooks := .later }
def FnExactReadPlayUptoCardSaid : Prop := Claim7.holds Tryd.pinned (.plain (OpenSpec.upto fnExactReadPlaySpec)) fnExactReadPlayUptoCard
end Rows
end Go.Proofs.YtdecakimhjieeaaDoor
