/-
  DERIVED. GIVEN WITH THE SEED: THE CARDS: each row of YtcgedkpbobgkhaaGreatDoorRows.lean that lists a variable, with what it lists TIED to the program's text (the seventh form; the later family's looks); each row that meets fmt, with fmt's text TOLD by the authors' own Lean function (tested against real Go, not proved from fmt's source: count such statements apart). THE CARD IS WHAT COUNTS. Prove the row's statement (the work); the ties are given (YtcgedkpbobgkhaaGreatDoorTie.lean); close each card by the builder's one call (the guide's Derived/Test/ToyasCard.lean, 'card_holds'). Laid BY PROGRAM, IN A SANDBOX (cutbox-door.mjs). By AI agents, Wed Nov 11 2026. No macro, syntax, notation, axiom, sorry.
-/
import Derived.Test.YtcgedkpbobgkhaaGreatDoorRows
import GoSem.ClaimSeven
namespace Go.Proofs.YtcgedkpbobgkhaaGreatDoor
namespace Rows

/-- THE TIED CARD OF 'laws.FnExactLetterScores'. -/
def fnExactLetterScoresCard : Claim7 := { stood := { row := fnExactLetterScoresRow, standIns := [], harness := (true, "281bf8d7a134e860d52f7b32da6b30332fc28dfbddb938bd71b0170a845d1a45"), looks := false }, kinds := [], alts := [], laidByText := true, laidKinds := [.data, .pinned, .pinned], laidTests := true, laidLooks := .later }
def FnExactLetterScoresCardSaid : Prop := Claim7.holds Tryz.pinned (.plain (OpenSpec.ofChange fnExactLetterScoresSpec)) fnExactLetterScoresCard

/-- THE SECOND FORM's CARD OF 'laws.FnExactLetterScores'. -/
def fnExactLetterScoresUptoCard : Claim7 := { stood := { row := fnExactLetterScoresUptoRow, standIns := [], harness := (true, "281bf8d7a134e860d52f7b32da6b30332fc28dfbddb938bd71b0170a845d1a45"), looks := false }, kinds := [], alts := [], laidByText := true, laidKinds := [.data, .pinned, .pinned], laidTests := true, laidLooks := .later }
def FnExactLetterScoresUptoCardSaid : Prop := Claim7.holds Tryz.pinned (.plain (OpenSpec.upto fnExactLetterScoresSpec)) fnExactLetterScoresUptoCard
end Rows
end Go.Proofs.YtcgedkpbobgkhaaGreatDoor
