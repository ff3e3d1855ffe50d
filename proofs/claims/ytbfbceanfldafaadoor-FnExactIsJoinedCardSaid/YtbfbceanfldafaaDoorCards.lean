/-
  DERIVED. GIVEN WITH THE SEED: THE CARDS: each row of YtbfbceanfldafaaDoorRows.lean that lists a variable, with what it lists TIED to the program's text (the seventh form; the later family's looks); each row that meets fmt, with fmt's text TOLD by the authors' own Lean function (tested against real Go, not proved from fmt's source: count such statements apart). THE CARD IS WHAT COUNTS. Prove the row's statement (the work); the ties are given (YtbfbceanfldafaaDoorTie.lean); close each card by the builder's one call (the guide's Derived/Test/ToyasCard.lean, 'card_holds'). Laid BY PROGRAM, IN A SANDBOX (cutbox-door.mjs). By AI agents, Wed Nov 11 2026. No macro, syntax, notation, axiom, sorry.
-/
import Derived.Test.YtbfbceanfldafaaDoorRows
import GoSem.ClaimSeven
namespace Go.Proofs.YtbfbceanfldafaaDoor
namespace Rows

/-- THE TIED CARD OF 'laws.FnExactIsJoined'. -/
def fnExactIsJoinedCard : Claim7 := { stood := { row := fnExactIsJoinedRow, standIns := [], harness := (true, "daf59826edf0edf906fa89e465646280976ad0565c0eaebc40b1eff136c60929"), looks := false }, kinds := [], alts := [], laidByText := true, laidKinds := [.data, .pinned], laidTests := true, laidLooks := .later }
def FnExactIsJoinedCardSaid : Prop := Claim7.holds Tryd.pinned (.plain (OpenSpec.ofChange fnExactIsJoinedSpec)) fnExactIsJoinedCard

/-- THE SECOND FORM's CARD OF 'laws.FnExactIsJoined'. -/
def fnExactIsJoinedUptoCard : Claim7 := { stood := { row := fnExactIsJoinedUptoRow, standIns := [], harness := (true, "daf59826edf0edf906fa89e465646280976ad0565c0eaebc40b1eff136c60929"), looks := false }, kinds := [], alts := [], laidByText := true, laidKinds := [.data, .pinned], laidTests := true, laidLooks := .later }
def FnExactIsJoinedUptoCardSaid : Prop := Claim7.holds Tryd.pinned (.plain (OpenSpec.upto fnExactIsJoinedSpec)) fnExactIsJoinedUptoCard
end Rows
end Go.Proofs.YtbfbceanfldafaaDoor
