/-
  DERIVED. GIVEN WITH THE SEED: THE CARDS: each row of YtcgedkpbobgkhaaDoorRows.lean that lists a variable, with what it lists TIED to the program's text (the seventh form; the later family's looks); each row that meets fmt, with fmt's text TOLD by the authors' own Lean function (tested against real Go, not proved from fmt's source: count such statements apart). THE CARD IS WHAT COUNTS. Prove the row's statement (the work); the ties are given (YtcgedkpbobgkhaaDoorTie.lean); close each card by the builder's one call (the guide's Derived/Test/ToyasCard.lean, 'card_holds'). Laid BY PROGRAM, IN A SANDBOX (cutbox-door.mjs). By AI agents, Wed Nov 11 2026. No macro, syntax, notation, axiom, sorry.
-/
import Derived.Test.YtcgedkpbobgkhaaDoorRows
import GoSem.ClaimSeven
namespace Go.Proofs.YtcgedkpbobgkhaaDoor
namespace Rows

/-- THE TIED CARD OF 'laws.FnExactFaceValue'. -/
def fnExactFaceValueCard : Claim7 := { stood := { row := fnExactFaceValueRow, standIns := [], harness := (true, "0daa5b8eeafa4c5c42382a267ff587026fbf8bbb2f2469e3b1df525f9bfa6e2f"), looks := false }, kinds := [], alts := [], laidByText := true, laidKinds := [.data, .pinned, .pinned], laidTests := true, laidLooks := .later }
def FnExactFaceValueCardSaid : Prop := Claim7.holds Tryd.pinned (.plain (OpenSpec.ofChange fnExactFaceValueSpec)) fnExactFaceValueCard

/-- THE SECOND FORM's CARD OF 'laws.FnExactFaceValue'. -/
def fnExactFaceValueUptoCard : Claim7 := { stood := { row := fnExactFaceValueUptoRow, standIns := [], harness := (true, "0daa5b8eeafa4c5c42382a267ff587026fbf8bbb2f2469e3b1df525f9bfa6e2f"), looks := false }, kinds := [], alts := [], laidByText := true, laidKinds := [.data, .pinned, .pinned], laidTests := true, laidLooks := .later }
def FnExactFaceValueUptoCardSaid : Prop := Claim7.holds Tryd.pinned (.plain (OpenSpec.upto fnExactFaceValueSpec)) fnExactFaceValueUptoCard
end Rows
end Go.Proofs.YtcgedkpbobgkhaaDoor
