/-
  DERIVED. GIVEN WITH THE SEED: THE CARDS: each row of YtlnccdbmchjhlaaDoorRows.lean that lists a variable, with what it lists TIED to the program's text (the seventh form; the later family's looks); each row that meets fmt, with fmt's text TOLD by the authors' own Lean function (tested against real Go, not proved from fmt's source: count such statements apart). THE CARD IS WHAT COUNTS. Prove the row's statement (the work); the ties are given (YtlnccdbmchjhlaaDoorTie.lean); close each card by the builder's one call (the guide's Derived/Test/ToyasCard.lean, 'card_holds'). Laid BY PROGRAM, IN A SANDBOX (cutbox-door.mjs). By AI agents, Wed Nov 11 2026. No macro, syntax, notation, axiom, sorry.
-/
import Derived.Test.YtlnccdbmchjhlaaDoorRows
import GoSem.ClaimSeven
namespace Go.Proofs.YtlnccdbmchjhlaaDoor
namespace Rows

/-- THE TIED CARD OF 'laws.FnExactBuildBoth'. -/
def fnExactBuildBothCard : Claim7 := { stood := { row := fnExactBuildBothRow, standIns := [], harness := (true, "faf46aeedcc5138489a2a99325935cac78a0ce2f5b559bb381a14dd4a344e90a"), looks := false }, kinds := [], alts := [], laidByText := true, laidKinds := [.data, .data, .data], laidTests := true, laidLooks := .later }
def FnExactBuildBothCardSaid : Prop := Claim7.holds Tryd.pinned (.plain (OpenSpec.ofChange fnExactBuildBothSpec)) fnExactBuildBothCard

/-- THE TIED CARD OF 'laws.FnExactBuildDawg'. -/
def fnExactBuildDawgCard : Claim7 := { stood := { row := fnExactBuildDawgRow, standIns := [], harness := (true, "faf46aeedcc5138489a2a99325935cac78a0ce2f5b559bb381a14dd4a344e90a"), looks := false }, kinds := [], alts := [], laidByText := true, laidKinds := [.data, .data, .data], laidTests := true, laidLooks := .later }
def FnExactBuildDawgCardSaid : Prop := Claim7.holds Tryd.pinned (.plain (OpenSpec.ofChange fnExactBuildDawgSpec)) fnExactBuildDawgCard

/-- THE SECOND FORM's CARD OF 'laws.FnExactBuildBoth'. -/
def fnExactBuildBothUptoCard : Claim7 := { stood := { row := fnExactBuildBothUptoRow, standIns := [], harness := (true, "faf46aeedcc5138489a2a99325935cac78a0ce2f5b559bb381a14dd4a344e90a"), looks := false }, kinds := [], alts := [], laidByText := true, laidKinds := [.data, .data, .data], laidTests := true, laidLooks := .later }
def FnExactBuildBothUptoCardSaid : Prop := Claim7.holds Tryd.pinned (.plain (OpenSpec.upto fnExactBuildBothSpec)) fnExactBuildBothUptoCard

/-- THE SECOND FORM's CARD OF 'laws.FnExactBuildDawg'. -/
def fnExactBuildDawgUptoCard : Claim7 := { stood := { row := fnExactBuildDawgUptoRow, standIns := [], harness := (true, "faf46aeedcc5138489a2a99325935cac78a0ce2f5b559bb381a14dd4a344e90a"), looks := false }, kinds := [], alts := [], laidByText := true, laidKinds := [.data, .data, .data], laidTests := true, laidLooks := .later }
def FnExactBuildDawgUptoCardSaid : Prop := Claim7.holds Tryd.pinned (.plain (OpenSpec.upto fnExactBuildDawgSpec)) fnExactBuildDawgUptoCard
end Rows
end Go.Proofs.YtlnccdbmchjhlaaDoor
