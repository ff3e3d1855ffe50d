/-
  DERIVED. GIVEN WITH THE SEED: THE CARDS: each row of YtlolacjlconjkaaDoorRows.lean that lists a variable, with what it lists TIED to the program's text (the seventh form; the later family's looks); each row that meets fmt, with fmt's text TOLD by the authors' own Lean function (tested against real Go, not proved from fmt's source: count such statements apart). THE CARD IS WHAT COUNTS. Prove the row's statement (the work); the ties are given (YtlolacjlconjkaaDoorTie.lean); close each card by the builder's one call (the guide's Derived/Test/ToyasCard.lean, 'card_holds'). Laid BY PROGRAM, IN A SANDBOX (cutbox-door.mjs). By AI agents, Wed Nov 11 2026. No macro, syntax, notation, axiom, sorry.
-/
import Derived.Test.YtlolacjlconjkaaDoorRows
import GoSem.ClaimSeven
namespace Go.Proofs.YtlolacjlconjkaaDoor
namespace Rows

/-- THE TIED CARD OF 'laws.FnExactIsBlank'. -/
def fnExactIsBlankCard : Claim7 := { stood := { row := fnExactIsBlankRow, standIns := [], harness := (true, "95db9f2ecdf80bc64a3a3e74f25c16b8e1fe7e0b38ac20b52d89fb3bf56a5e3c"), looks := false }, kinds := [], alts := [], laidByText := true, laidKinds := [.data, .pinned], laidTests := true, laidLooks := .later }
def FnExactIsBlankCardSaid : Prop := Claim7.holds Tryd.pinned (.plain (OpenSpec.ofChange fnExactIsBlankSpec)) fnExactIsBlankCard

/-- THE TIED CARD OF 'laws.FnExactIsAnchor'. -/
def fnExactIsAnchorCard : Claim7 := { stood := { row := fnExactIsAnchorRow, standIns := [], harness := (true, "95db9f2ecdf80bc64a3a3e74f25c16b8e1fe7e0b38ac20b52d89fb3bf56a5e3c"), looks := false }, kinds := [], alts := [], laidByText := true, laidKinds := [.data, .pinned], laidTests := true, laidLooks := .later }
def FnExactIsAnchorCardSaid : Prop := Claim7.holds Tryd.pinned (.plain (OpenSpec.ofChange fnExactIsAnchorSpec)) fnExactIsAnchorCard

/-- THE TIED CARD OF 'laws.FnExactRoomBefore'. -/
def fnExactRoomBeforeCard : Claim7 := { stood := { row := fnExactRoomBeforeRow, standIns := [], harness := (true, "95db9f2ecdf80bc64a3a3e74f25c16b8e1fe7e0b38ac20b52d89fb3bf56a5e3c"), looks := false }, kinds := [], alts := [], laidByText := true, laidKinds := [.data, .pinned], laidTests := true, laidLooks := .later }
def FnExactRoomBeforeCardSaid : Prop := Claim7.holds Tryd.pinned (.plain (OpenSpec.ofChange fnExactRoomBeforeSpec)) fnExactRoomBeforeCard

/-- THE TIED CARD OF 'laws.FnExactIsJoined'. -/
def fnExactIsJoinedCard : Claim7 := { stood := { row := fnExactIsJoinedRow, standIns := [], harness := (true, "95db9f2ecdf80bc64a3a3e74f25c16b8e1fe7e0b38ac20b52d89fb3bf56a5e3c"), looks := false }, kinds := [], alts := [], laidByText := true, laidKinds := [.data, .pinned], laidTests := true, laidLooks := .later }
def FnExactIsJoinedCardSaid : Prop := Claim7.holds Tryd.pinned (.plain (OpenSpec.ofChange fnExactIsJoinedSpec)) fnExactIsJoinedCard

/-- THE TIED CARD OF 'laws.FnExactTilesOn'. -/
def fnExactTilesOnCard : Claim7 := { stood := { row := fnExactTilesOnRow, standIns := [], harness := (true, "95db9f2ecdf80bc64a3a3e74f25c16b8e1fe7e0b38ac20b52d89fb3bf56a5e3c"), looks := false }, kinds := [], alts := [], laidByText := true, laidKinds := [.data, .pinned], laidTests := true, laidLooks := .later }
def FnExactTilesOnCardSaid : Prop := Claim7.holds Tryd.pinned (.plain (OpenSpec.ofChange fnExactTilesOnSpec)) fnExactTilesOnCard

/-- THE TIED CARD OF 'laws.FnExactAnchorsOf'. -/
def fnExactAnchorsOfCard : Claim7 := { stood := { row := fnExactAnchorsOfRow, standIns := [], harness := (true, "95db9f2ecdf80bc64a3a3e74f25c16b8e1fe7e0b38ac20b52d89fb3bf56a5e3c"), looks := false }, kinds := [], alts := [], laidByText := true, laidKinds := [.data, .pinned], laidTests := true, laidLooks := .later }
def FnExactAnchorsOfCardSaid : Prop := Claim7.holds Tryd.pinned (.plain (OpenSpec.ofChange fnExactAnchorsOfSpec)) fnExactAnchorsOfCard

/-- THE SECOND FORM's CARD OF 'laws.FnExactIsBlank'. -/
def fnExactIsBlankUptoCard : Claim7 := { stood := { row := fnExactIsBlankUptoRow, standIns := [], harness := (true, "95db9f2ecdf80bc64a3a3e74f25c16b8e1fe7e0b38ac20b52d89fb3bf56a5e3c"), looks := false }, kinds := [], alts := [], laidByText := true, laidKinds := [.data, .pinned], laidTests := true, laidLooks := .later }
def FnExactIsBlankUptoCardSaid : Prop := Claim7.holds Tryd.pinned (.plain (OpenSpec.upto fnExactIsBlankSpec)) fnExactIsBlankUptoCard

/-- THE SECOND FORM's CARD OF 'laws.FnExactIsAnchor'. -/
def fnExactIsAnchorUptoCard : Claim7 := { stood := { row := fnExactIsAnchorUptoRow, standIns := [], harness := (true, "95db9f2ecdf80bc64a3a3e74f25c16b8e1fe7e0b38ac20b52d89fb3bf56a5e3c"), looks := false }, kinds := [], alts := [], laidByText := true, laidKinds := [.data, .pinned], laidTests := true, laidLooks := .later }
def FnExactIsAnchorUptoCardSaid : Prop := Claim7.holds Tryd.pinned (.plain (OpenSpec.upto fnExactIsAnchorSpec)) fnExactIsAnchorUptoCard

/-- THE SECOND FORM's CARD OF 'laws.FnExactRoomBefore'. -/
def fnExactRoomBeforeUptoCard : Claim7 := { stood := { row := fnExactRoomBeforeUptoRow, standIns := [], harness := (true, "95db9f2ecdf80bc64a3a3e74f25c16b8e1fe7e0b38ac20b52d89fb3bf56a5e3c"), looks := false }, kinds := [], alts := [], laidByText := true, laidKinds := [.data, .pinned], laidTests := true, laidLooks := .later }
def FnExactRoomBeforeUptoCardSaid : Prop := Claim7.holds Tryd.pinned (.plain (OpenSpec.upto fnExactRoomBeforeSpec)) fnExactRoomBeforeUptoCard

/-- THE SECOND FORM's CARD OF 'laws.FnExactIsJoined'. -/
def fnExactIsJoinedUptoCard : Claim7 := { stood := { row := fnExactIsJoinedUptoRow, standIns := [], harness := (true, "95db9f2ecdf80bc64a3a3e74f25c16b8e1fe7e0b38ac20b52d89fb3bf56a5e3c"), looks := false }, kinds := [], alts := [], laidByText := true, laidKinds := [.data, .pinned], laidTests := true, laidLooks := .later }
def FnExactIsJoinedUptoCardSaid : Prop := Claim7.holds Tryd.pinned (.plain (OpenSpec.upto fnExactIsJoinedSpec)) fnExactIsJoinedUptoCard

/-- THE SECOND FORM's CARD OF 'laws.FnExactTilesOn'. -/
def fnExactTilesOnUptoCard : Claim7 := { stood := { row := fnExactTilesOnUptoRow, standIns := [], harness := (true, "95db9f2ecdf80bc64a3a3e74f25c16b8e1fe7e0b38ac20b52d89fb3bf56a5e3c"), looks := false }, kinds := [], alts := [], laidByText := true, laidKinds := [.data, .pinned], laidTests := true, laidLooks := .later }
def FnExactTilesOnUptoCardSaid : Prop := Claim7.holds Tryd.pinned (.plain (OpenSpec.upto fnExactTilesOnSpec)) fnExactTilesOnUptoCard

/-- THE SECOND FORM's CARD OF 'laws.FnExactAnchorsOf'. -/
def fnExactAnchorsOfUptoCard : Claim7 := { stood := { row := fnExactAnchorsOfUptoRow, standIns := [], harness := (true, "95db9f2ecdf80bc64a3a3e74f25c16b8e1fe7e0b38ac20b52d89fb3bf56a5e3c"), looks := false }, kinds := [], alts := [], laidByText := true, laidKinds := [.data, .pinned], laidTests := true, laidLooks := .later }
def FnExactAnchorsOfUptoCardSaid : Prop := Claim7.holds Tryd.pinned (.plain (OpenSpec.upto fnExactAnchorsOfSpec)) fnExactAnchorsOfUptoCard
end Rows
end Go.Proofs.YtlolacjlconjkaaDoor
