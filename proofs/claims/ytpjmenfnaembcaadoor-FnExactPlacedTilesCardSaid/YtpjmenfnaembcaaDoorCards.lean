/-
  DERIVED. GIVEN WITH THE SEED: THE CARDS: each row of YtpjmenfnaembcaaDoorRows.lean that lists a variable, with what it lists TIED to the program's text (the seventh form; the later family's looks); each row that meets fmt, with fmt's text TOLD by the authors' own Lean function (tested against real Go, not proved from fmt's source: count such statements apart). THE CARD IS WHAT COUNTS. Prove the row's statement (the work); the ties are given (YtpjmenfnaembcaaDoorTie.lean); close each card by the builder's one call (the guide's Derived/Test/ToyasCard.lean, 'card_holds'). Laid BY PROGRAM, IN A SANDBOX (cutbox-door.mjs). By AI agents, Wed Nov 11 2026. No macro, syntax, notation, axiom, sorry.
-/
import Derived.Test.YtpjmenfnaembcaaDoorRows
import GoSem.ClaimSeven
namespace Go.Proofs.YtpjmenfnaembcaaDoor
namespace Rows

/-- THE TIED CARD OF 'laws.FnExactValidPlay'. -/
def fnExactValidPlayCard : Claim7 := { stood := { row := fnExactValidPlayRow, standIns := [], harness := (true, "d056029bbb3b74a7834362d5611b2636efbc1b978a00a14e84f3f4ca82f6c3e3"), looks := false }, kinds := [], alts := [], laidByText := true, laidKinds := [.data, .pinned, .pinned], laidTests := true, laidLooks := .later }
def FnExactValidPlayCardSaid : Prop := Claim7.holds Tryd.pinned (.plain (OpenSpec.ofChange fnExactValidPlaySpec)) fnExactValidPlayCard

/-- THE TIED CARD OF 'laws.FnExactMakePlay'. -/
def fnExactMakePlayCard : Claim7 := { stood := { row := fnExactMakePlayRow, standIns := [], harness := (true, "d056029bbb3b74a7834362d5611b2636efbc1b978a00a14e84f3f4ca82f6c3e3"), looks := false }, kinds := [], alts := [], laidByText := true, laidKinds := [.data, .pinned, .pinned], laidTests := true, laidLooks := .later }
def FnExactMakePlayCardSaid : Prop := Claim7.holds Tryd.pinned (.plain (OpenSpec.ofChange fnExactMakePlaySpec)) fnExactMakePlayCard

/-- THE TIED CARD OF 'laws.FnExactNewSquares'. -/
def fnExactNewSquaresCard : Claim7 := { stood := { row := fnExactNewSquaresRow, standIns := [], harness := (true, "d056029bbb3b74a7834362d5611b2636efbc1b978a00a14e84f3f4ca82f6c3e3"), looks := false }, kinds := [], alts := [], laidByText := true, laidKinds := [.data, .pinned, .pinned], laidTests := true, laidLooks := .later }
def FnExactNewSquaresCardSaid : Prop := Claim7.holds Tryd.pinned (.plain (OpenSpec.ofChange fnExactNewSquaresSpec)) fnExactNewSquaresCard

/-- THE TIED CARD OF 'laws.FnExactPlacedTiles'. -/
def fnExactPlacedTilesCard : Claim7 := { stood := { row := fnExactPlacedTilesRow, standIns := [], harness := (true, "d056029bbb3b74a7834362d5611b2636efbc1b978a00a14e84f3f4ca82f6c3e3"), looks := false }, kinds := [], alts := [], laidByText := true, laidKinds := [.data, .pinned, .pinned], laidTests := true, laidLooks := .later }
def FnExactPlacedTilesCardSaid : Prop := Claim7.holds Tryd.pinned (.plain (OpenSpec.ofChange fnExactPlacedTilesSpec)) fnExactPlacedTilesCard

/-- THE TIED CARD OF 'laws.FnExactPremiumsUsed'. -/
def fnExactPremiumsUsedCard : Claim7 := { stood := { row := fnExactPremiumsUsedRow, standIns := [], harness := (true, "d056029bbb3b74a7834362d5611b2636efbc1b978a00a14e84f3f4ca82f6c3e3"), looks := false }, kinds := [], alts := [], laidByText := true, laidKinds := [.data, .pinned, .pinned], laidTests := true, laidLooks := .later }
def FnExactPremiumsUsedCardSaid : Prop := Claim7.holds Tryd.pinned (.plain (OpenSpec.ofChange fnExactPremiumsUsedSpec)) fnExactPremiumsUsedCard

/-- THE TIED CARD OF 'laws.FnExactWordFactor'. -/
def fnExactWordFactorCard : Claim7 := { stood := { row := fnExactWordFactorRow, standIns := [], harness := (true, "d056029bbb3b74a7834362d5611b2636efbc1b978a00a14e84f3f4ca82f6c3e3"), looks := false }, kinds := [], alts := [], laidByText := true, laidKinds := [.data, .pinned, .pinned], laidTests := true, laidLooks := .later }
def FnExactWordFactorCardSaid : Prop := Claim7.holds Tryd.pinned (.plain (OpenSpec.ofChange fnExactWordFactorSpec)) fnExactWordFactorCard

/-- THE SECOND FORM's CARD OF 'laws.FnExactValidPlay'. -/
def fnExactValidPlayUptoCard : Claim7 := { stood := { row := fnExactValidPlayUptoRow, standIns := [], harness := (true, "d056029bbb3b74a7834362d5611b2636efbc1b978a00a14e84f3f4ca82f6c3e3"), looks := false }, kinds := [], alts := [], laidByText := true, laidKinds := [.data, .pinned, .pinned], laidTests := true, laidLooks := .later }
def FnExactValidPlayUptoCardSaid : Prop := Claim7.holds Tryd.pinned (.plain (OpenSpec.upto fnExactValidPlaySpec)) fnExactValidPlayUptoCard

/-- THE SECOND FORM's CARD OF 'laws.FnExactMakePlay'. -/
def fnExactMakePlayUptoCard : Claim7 := { stood := { row := fnExactMakePlayUptoRow, standIns := [], harness := (true, "d056029bbb3b74a7834362d5611b2636efbc1b978a00a14e84f3f4ca82f6c3e3"), looks := false }, kinds := [], alts := [], laidByText := true, laidKinds := [.data, .pinned, .pinned], laidTests := true, laidLooks := .later }
def FnExactMakePlayUptoCardSaid : Prop := Claim7.holds Tryd.pinned (.plain (OpenSpec.upto fnExactMakePlaySpec)) fnExactMakePlayUptoCard

/-- THE SECOND FORM's CARD OF 'laws.FnExactNewSquares'. -/
def fnExactNewSquaresUptoCard : Claim7 := { stood := { row := fnExactNewSquaresUptoRow, standIns := [], harness := (true, "d056029bbb3b74a7834362d5611b2636efbc1b978a00a14e84f3f4ca82f6c3e3"), looks := false }, kinds := [], alts := [], laidByText := true, laidKinds := [.data, .pinned, .pinned], laidTests := true, laidLooks := .later }
def FnExactNewSquaresUptoCardSaid : Prop := Claim7.holds Tryd.pinned (.plain (OpenSpec.upto fnExactNewSquaresSpec)) fnExactNewSquaresUptoCard

/-- THE SECOND FORM's CARD OF 'laws.FnExactPlacedTiles'. -/
def fnExactPlacedTilesUptoCard : Claim7 := { stood := { row := fnExactPlacedTilesUptoRow, standIns := [], harness := (true, "d056029bbb3b74a7834362d5611b2636efbc1b978a00a14e84f3f4ca82f6c3e3"), looks := false }, kinds := [], alts := [], laidByText := true, laidKinds := [.data, .pinned, .pinned], laidTests := true, laidLooks := .later }
def FnExactPlacedTilesUptoCardSaid : Prop := Claim7.holds Tryd.pinned (.plain (OpenSpec.upto fnExactPlacedTilesSpec)) fnExactPlacedTilesUptoCard

/-- THE SECOND FORM's CARD OF 'laws.FnExactPremiumsUsed'. -/
def fnExactPremiumsUsedUptoCard : Claim7 := { stood := { row := fnExactPremiumsUsedUptoRow, standIns := [], harness := (true, "d056029bbb3b74a7834362d5611b2636efbc1b978a00a14e84f3f4ca82f6c3e3"), looks := false }, kinds := [], alts := [], laidByText := true, laidKinds := [.data, .pinned, .pinned], laidTests := true, laidLooks := .later }
def FnExactPremiumsUsedUptoCardSaid : Prop := Claim7.holds Tryd.pinned (.plain (OpenSpec.upto fnExactPremiumsUsedSpec)) fnExactPremiumsUsedUptoCard

/-- THE SECOND FORM's CARD OF 'laws.FnExactWordFactor'. -/
def fnExactWordFactorUptoCard : Claim7 := { stood := { row := fnExactWordFactorUptoRow, standIns := [], harness := (true, "d056029bbb3b74a7834362d5611b2636efbc1b978a00a14e84f3f4ca82f6c3e3"), looks := false }, kinds := [], alts := [], laidByText := true, laidKinds := [.data, .pinned, .pinned], laidTests := true, laidLooks := .later }
def FnExactWordFactorUptoCardSaid : Prop := Claim7.holds Tryd.pinned (.plain (OpenSpec.upto fnExactWordFactorSpec)) fnExactWordFactorUptoCard
end Rows
end Go.Proofs.YtpjmenfnaembcaaDoor
