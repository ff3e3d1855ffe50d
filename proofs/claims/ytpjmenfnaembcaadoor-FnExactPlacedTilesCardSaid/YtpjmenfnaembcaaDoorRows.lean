/-
  NARROWER THAN 'FOR EVERY INPUT', by the rows' own cells (each row's printed sentence says how): FnExactValidPlay: laid · FnExactMakePlay: laid · FnExactNewSquares: laid · FnExactPlacedTiles: laid · FnExactPremiumsUsed: laid · FnExactWordFactor: laid.
  DERIVED. THE GIVEN ROWS OF THIS SEAT. 6 by the template 'for every input the law returns true; each argument reads behind the call as it read before'; 0 by the template 'total and deterministic' (their statements: YtpjmenfnaembcaaDoorTotals.lean).
  GIVEN WITH THE SEED: the statements are not yours to turn. If you find one false, say at which input.
  Laid BY PROGRAM, IN A SANDBOX (cutbox-rows.mjs): the forced cells as the released guide's own fill.sh prints them over the translation ffd122be9bfbef21… (all of the seat's roots in one cut). By AI agents, Wed Nov 11 2026. No macro, syntax, notation, axiom, sorry.
-/
import Derived.Test.YtpjmenfnaembcaaDoorChecked
import GoSem.PinnedTables
import GoSem.Claim
import GoSem.ClaimJoined
import GoSem.ClaimMapViews
import Derived.JoinedTies
import Derived.KernelRfl
namespace Go.Proofs.YtpjmenfnaembcaaDoor
/- THE CELL 'sum', in the pinned program and in every row, IS THE sha256 OF THE DUMP (.gsa) THAT YtpjmenfnaembcaaDoorProg.lean LOADS. Nothing in Lean hashes anything: it is a label: what it is worth is what the hold of that sum in a sandbox is worth. -/
noncomputable def Tryd.pinned : Pinned := { name := "ytpjmenfnaembcaadoor", sum := "ffd122be9bfbef21e1351b63486cdce2186a4539cc4251276e2425a12576b98e", checked := Tryd.checked }
namespace Rows
def none {H : Type} : Left H := { results := [], args := [] }

/- WHAT THE LISTED PACKAGE-LEVEL VARIABLES READ AS WHEN THE CALL BEGINS. Each datum BY PROGRAM (the guide's laid-datum.mjs) off the statement by which the dump's own 'gosem.cut.vars' lays the variable. In a bare row this is a premise. The card (YtpjmenfnaembcaaDoorCards.lean) ties it to the program's text. -/
def laid_unicode_utf8_acceptRanges {H : Type} : DataW H := .agg [.agg [.lit (.int .u8 128), .lit (.int .u8 191)], .agg [.lit (.int .u8 160), .lit (.int .u8 191)], .agg [.lit (.int .u8 128), .lit (.int .u8 159)], .agg [.lit (.int .u8 144), .lit (.int .u8 191)], .agg [.lit (.int .u8 128), .lit (.int .u8 143)], .agg [.lit (.int .u8 0), .lit (.int .u8 0)], .agg [.lit (.int .u8 0), .lit (.int .u8 0)], .agg [.lit (.int .u8 0), .lit (.int .u8 0)], .agg [.lit (.int .u8 0), .lit (.int .u8 0)], .agg [.lit (.int .u8 0), .lit (.int .u8 0)], .agg [.lit (.int .u8 0), .lit (.int .u8 0)], .agg [.lit (.int .u8 0), .lit (.int .u8 0)], .agg [.lit (.int .u8 0), .lit (.int .u8 0)], .agg [.lit (.int .u8 0), .lit (.int .u8 0)], .agg [.lit (.int .u8 0), .lit (.int .u8 0)], .agg [.lit (.int .u8 0), .lit (.int .u8 0)]]
/-- One of Go's own tables, pinned by name: the form's constant. -/
def laid_unicode_CaseRanges : DataW Unit := Go.Pinned.caseRanges
/-- One of Go's own tables, pinned by name: the form's constant. -/
def laid_unicode_utf8_first : DataW Unit := Go.Pinned.utf8First

/-- 'laws.FnExactValidPlay': WHATEVER THE INPUT: true; the input reads as it did. -/
def fnExactValidPlaySpec : ChangeSpec := { name := "fnExactValidPlay", fn := fun _ => fun
  | [d1, d2] => { results := [.lit (.bool true)], args := [d1, d2] }
  | _ => none }
def fnExactValidPlayRow : OpenClaim := { program := "ytpjmenfnaembcaadoor", sum := "ffd122be9bfbef21e1351b63486cdce2186a4539cc4251276e2425a12576b98e", func := "loop.example/g00911/laws.FnExactValidPlay", spec := "fnExactValidPlay", inPlace := ["internal/bytealg.IndexByteString", "internal/abi.NoEscape", "internal/bytealg.MakeNoZero"], unfollowed := true, recurses := true, named := ["unicode/utf8.first", "unicode/utf8.acceptRanges", "unicode.CaseRanges"], apart := false, laid := [("unicode/utf8.acceptRanges", laid_unicode_utf8_acceptRanges), ("unicode.CaseRanges", laid_unicode_CaseRanges), ("unicode/utf8.first", laid_unicode_utf8_first)] }
def FnExactValidPlaySaid : Prop := fnExactValidPlayRow.holds Tryd.pinned (OpenSpec.ofChange fnExactValidPlaySpec)

/-- ITS FALSE NEIGHBOUR: 'it returns false'. Refute it at one input. -/
def fnExactValidPlayWrong : ChangeSpec := { name := "fnExactValidPlay", fn := fun _ => fun
  | [d1, d2] => { results := [.lit (.bool false)], args := [d1, d2] }
  | _ => none }
def FnExactValidPlayWrongFalsely : Prop := fnExactValidPlayRow.holds Tryd.pinned (OpenSpec.ofChange fnExactValidPlayWrong)

/-- 'laws.FnExactMakePlay': WHATEVER THE INPUT: true; the input reads as it did. -/
def fnExactMakePlaySpec : ChangeSpec := { name := "fnExactMakePlay", fn := fun _ => fun
  | [d1, d2] => { results := [.lit (.bool true)], args := [d1, d2] }
  | _ => none }
def fnExactMakePlayRow : OpenClaim := { program := "ytpjmenfnaembcaadoor", sum := "ffd122be9bfbef21e1351b63486cdce2186a4539cc4251276e2425a12576b98e", func := "loop.example/g00911/laws.FnExactMakePlay", spec := "fnExactMakePlay", inPlace := ["internal/bytealg.IndexByteString", "internal/abi.NoEscape", "internal/bytealg.MakeNoZero"], unfollowed := true, recurses := true, named := ["unicode/utf8.first", "unicode/utf8.acceptRanges", "unicode.CaseRanges"], apart := false, laid := [("unicode/utf8.acceptRanges", laid_unicode_utf8_acceptRanges), ("unicode.CaseRanges", laid_unicode_CaseRanges), ("unicode/utf8.first", laid_unicode_utf8_first)] }
def FnExactMakePlaySaid : Prop := fnExactMakePlayRow.holds Tryd.pinned (OpenSpec.ofChange fnExactMakePlaySpec)

/-- ITS FALSE NEIGHBOUR: 'it returns false'. Refute it at one input. -/
def fnExactMakePlayWrong : ChangeSpec := { name := "fnExactMakePlay", fn := fun _ => fun
  | [d1, d2] => { results := [.lit (.bool false)], args := [d1, d2] }
  | _ => none }
def FnExactMakePlayWrongFalsely : Prop := fnExactMakePlayRow.holds Tryd.pinned (OpenSpec.ofChange fnExactMakePlayWrong)

/-- 'laws.FnExactNewSquares': WHATEVER THE INPUT: true; the input reads as it did. -/
def fnExactNewSquaresSpec : ChangeSpec := { name := "fnExactNewSquares", fn := fun _ => fun
  | [d1, d2] => { results := [.lit (.bool true)], args := [d1, d2] }
  | _ => none }
def fnExactNewSquaresRow : OpenClaim := { program := "ytpjmenfnaembcaadoor", sum := "ffd122be9bfbef21e1351b63486cdce2186a4539cc4251276e2425a12576b98e", func := "loop.example/g00911/laws.FnExactNewSquares", spec := "fnExactNewSquares", inPlace := ["internal/bytealg.IndexByteString", "internal/abi.NoEscape", "internal/bytealg.MakeNoZero"], unfollowed := true, recurses := true, named := ["unicode/utf8.first", "unicode/utf8.acceptRanges", "unicode.CaseRanges"], apart := false, laid := [("unicode/utf8.acceptRanges", laid_unicode_utf8_acceptRanges), ("unicode.CaseRanges", laid_unicode_CaseRanges), ("unicode/utf8.first", laid_unicode_utf8_first)] }
def FnExactNewSquaresSaid : Prop := fnExactNewSquaresRow.holds Tryd.pinned (OpenSpec.ofChange fnExactNewSquaresSpec)

/-- ITS FALSE NEIGHBOUR: 'it returns false'. Refute it at one input. -/
def fnExactNewSquaresWrong : ChangeSpec := { name := "fnExactNewSquares", fn := fun _ => fun
  | [d1, d2] => { results := [.lit (.bool false)], args := [d1, d2] }
  | _ => none }
def FnExactNewSquaresWrongFalsely : Prop := fnExactNewSquaresRow.holds Tryd.pinned (OpenSpec.ofChange fnExactNewSquaresWrong)

/-- 'laws.FnExactPlacedTiles': WHATEVER THE INPUT: true; the input reads as it did. -/
def fnExactPlacedTilesSpec : ChangeSpec := { name := "fnExactPlacedTiles", fn := fun _ => fun
  | [d1, d2] => { results := [.lit (.bool true)], args := [d1, d2] }
  | _ => none }
def fnExactPlacedTilesRow : OpenClaim := { program := "ytpjmenfnaembcaadoor", sum := "ffd122be9bfbef21e1351b63486cdce2186a4539cc4251276e2425a12576b98e", func := "loop.example/g00911/laws.FnExactPlacedTiles", spec := "fnExactPlacedTiles", inPlace := ["internal/bytealg.IndexByteString", "internal/abi.NoEscape", "internal/bytealg.MakeNoZero"], unfollowed := true, recurses := true, named := ["unicode/utf8.first", "unicode/utf8.acceptRanges", "unicode.CaseRanges"], apart := false, laid := [("unicode/utf8.acceptRanges", laid_unicode_utf8_acceptRanges), ("unicode.CaseRanges", laid_unicode_CaseRanges), ("unicode/utf8.first", laid_unicode_utf8_first)] }
def FnExactPlacedTilesSaid : Prop := fnExactPlacedTilesRow.holds Tryd.pinned (OpenSpec.ofChange fnExactPlacedTilesSpec)

/-- ITS FALSE NEIGHBOUR: 'it returns false'. Refute it at one input. -/
def fnExactPlacedTilesWrong : ChangeSpec := { name := "fnExactPlacedTiles", fn := fun _ => fun
  | [d1, d2] => { results := [.lit (.bool false)], args := [d1, d2] }
  | _ => none }
def FnExactPlacedTilesWrongFalsely : Prop := fnExactPlacedTilesRow.holds Tryd.pinned (OpenSpec.ofChange fnExactPlacedTilesWrong)

/-- 'laws.FnExactPremiumsUsed': WHATEVER THE INPUT: true; the input reads as it did. -/
def fnExactPremiumsUsedSpec : ChangeSpec := { name := "fnExactPremiumsUsed", fn := fun _ => fun
  | [d1, d2] => { results := [.lit (.bool true)], args := [d1, d2] }
  | _ => none }
def fnExactPremiumsUsedRow : OpenClaim := { program := "ytpjmenfnaembcaadoor", sum := "ffd122be9bfbef21e1351b63486cdce2186a4539cc4251276e2425a12576b98e", func := "loop.example/g00911/laws.FnExactPremiumsUsed", spec := "fnExactPremiumsUsed", inPlace := ["internal/bytealg.IndexByteString", "internal/abi.NoEscape", "internal/bytealg.MakeNoZero"], unfollowed := true, recurses := true, named := ["unicode/utf8.first", "unicode/utf8.acceptRanges", "unicode.CaseRanges"], apart := false, laid := [("unicode/utf8.acceptRanges", laid_unicode_utf8_acceptRanges), ("unicode.CaseRanges", laid_unicode_CaseRanges), ("unicode/utf8.first", laid_unicode_utf8_first)] }
def FnExactPremiumsUsedSaid : Prop := fnExactPremiumsUsedRow.holds Tryd.pinned (OpenSpec.ofChange fnExactPremiumsUsedSpec)

/-- ITS FALSE NEIGHBOUR: 'it returns false'. Refute it at one input. -/
def fnExactPremiumsUsedWrong : ChangeSpec := { name := "fnExactPremiumsUsed", fn := fun _ => fun
  | [d1, d2] => { results := [.lit (.bool false)], args := [d1, d2] }
  | _ => none }
def FnExactPremiumsUsedWrongFalsely : Prop := fnExactPremiumsUsedRow.holds Tryd.pinned (OpenSpec.ofChange fnExactPremiumsUsedWrong)

/-- 'laws.FnExactWordFactor': WHATEVER THE INPUT: true; the input reads as it did. -/
def fnExactWordFactorSpec : ChangeSpec := { name := "fnExactWordFactor", fn := fun _ => fun
  | [d1, d2] => { results := [.lit (.bool true)], args := [d1, d2] }
  | _ => none }
def fnExactWordFactorRow : OpenClaim := { program := "ytpjmenfnaembcaadoor", sum := "ffd122be9bfbef21e1351b63486cdce2186a4539cc4251276e2425a12576b98e", func := "loop.example/g00911/laws.FnExactWordFactor", spec := "fnExactWordFactor", inPlace := ["internal/bytealg.IndexByteString", "internal/abi.NoEscape", "internal/bytealg.MakeNoZero"], unfollowed := true, recurses := true, named := ["unicode/utf8.first", "unicode/utf8.acceptRanges", "unicode.CaseRanges"], apart := false, laid := [("unicode/utf8.acceptRanges", laid_unicode_utf8_acceptRanges), ("unicode.CaseRanges", laid_unicode_CaseRanges), ("unicode/utf8.first", laid_unicode_utf8_first)] }
def FnExactWordFactorSaid : Prop := fnExactWordFactorRow.holds Tryd.pinned (OpenSpec.ofChange fnExactWordFactorSpec)

/-- ITS FALSE NEIGHBOUR: 'it returns false'. Refute it at one input. -/
def fnExactWordFactorWrong : ChangeSpec := { name := "fnExactWordFactor", fn := fun _ => fun
  | [d1, d2] => { results := [.lit (.bool false)], args := [d1, d2] }
  | _ => none }
def FnExactWordFactorWrongFalsely : Prop := fnExactWordFactorRow.holds Tryd.pinned (OpenSpec.ofChange fnExactWordFactorWrong)

/- THE SECOND FORM. 'bulk': how many values and letters a reading holds, each counted each time it is reached (what is shared counts as often as it is met; a slice's spare places count too). A statement '..UptoSaid' is the law's where the arguments, and the package variables that the reading takes, are together of bulk at most 1048576: NARROWER than '..Said'. Prove '..Said' where nothing that the law and all that it calls make is longer than what came in: it says more and counts as full. Else prove '..UptoSaid'. A law counts once. -/
mutual
def uptoBulk {H : Type} : DataW H → Nat
  | .lit (.string bytes) => bytes.length + 1
  | .lit _ => 1
  | .nil => 1
  | .ptr d => uptoBulk d + 1
  | .slice elems spare => uptoBulkAll elems + uptoBulkAll spare + 1
  | .agg parts => uptoBulkAll parts + 1
  | .iface _ d => uptoBulk d + 1
  | .map entries => uptoBulkEntries entries + 1
  | .held _ => 1
def uptoBulkAll {H : Type} : List (DataW H) → Nat
  | [] => 0
  | d :: r => uptoBulk d + uptoBulkAll r
def uptoBulkEntries {H : Type} : List (Lit × DataW H) → Nat
  | [] => 0
  | x :: r => uptoBulkEntry x + uptoBulkEntries r
def uptoBulkEntry {H : Type} : Lit × DataW H → Nat
  | (.string bytes, d) => bytes.length + uptoBulk d + 1
  | (_, d) => uptoBulk d + 1
 end
def uptoSmall : (H : Type) → List (DataW H) → Bool := fun _ ds => decide (uptoBulkAll ds ≤ 1048576)
def OpenSpec.upto (s : _root_.Go.ChangeSpec) : _root_.Go.OpenSpec := { _root_.Go.OpenSpec.ofChange s with cond := some uptoSmall }

/-- 'laws.FnExactValidPlay', WHERE WHAT IT READS IS OF BULK AT MOST 1048576: true; the input reads as it did. -/
def fnExactValidPlayUptoRow : OpenClaim := { program := "ytpjmenfnaembcaadoor", sum := "ffd122be9bfbef21e1351b63486cdce2186a4539cc4251276e2425a12576b98e", func := "loop.example/g00911/laws.FnExactValidPlay", spec := "fnExactValidPlay", inPlace := ["internal/bytealg.IndexByteString", "internal/abi.NoEscape", "internal/bytealg.MakeNoZero"], unfollowed := true, recurses := true, named := ["unicode/utf8.first", "unicode/utf8.acceptRanges", "unicode.CaseRanges"], apart := false, laid := [("unicode/utf8.acceptRanges", laid_unicode_utf8_acceptRanges), ("unicode.CaseRanges", laid_unicode_CaseRanges), ("unicode/utf8.first", laid_unicode_utf8_first)], narrowed := true }
def FnExactValidPlayUptoSaid : Prop := fnExactValidPlayUptoRow.holds Tryd.pinned (OpenSpec.upto fnExactValidPlaySpec)

/-- 'laws.FnExactMakePlay', WHERE WHAT IT READS IS OF BULK AT MOST 1048576: true; the input reads as it did. -/
def fnExactMakePlayUptoRow : OpenClaim := { program := "ytpjmenfnaembcaadoor", sum := "ffd122be9bfbef21e1351b63486cdce2186a4539cc4251276e2425a12576b98e", func := "loop.example/g00911/laws.FnExactMakePlay", spec := "fnExactMakePlay", inPlace := ["internal/bytealg.IndexByteString", "internal/abi.NoEscape", "internal/bytealg.MakeNoZero"], unfollowed := true, recurses := true, named := ["unicode/utf8.first", "unicode/utf8.acceptRanges", "unicode.CaseRanges"], apart := false, laid := [("unicode/utf8.acceptRanges", laid_unicode_utf8_acceptRanges), ("unicode.CaseRanges", laid_unicode_CaseRanges), ("unicode/utf8.first", laid_unicode_utf8_first)], narrowed := true }
def FnExactMakePlayUptoSaid : Prop := fnExactMakePlayUptoRow.holds Tryd.pinned (OpenSpec.upto fnExactMakePlaySpec)

/-- 'laws.FnExactNewSquares', WHERE WHAT IT READS IS OF BULK AT MOST 1048576: true; the input reads as it did. -/
def fnExactNewSquaresUptoRow : OpenClaim := { program := "ytpjmenfnaembcaadoor", sum := "ffd122be9bfbef21e1351b63486cdce2186a4539cc4251276e2425a12576b98e", func := "loop.example/g00911/laws.FnExactNewSquares", spec := "fnExactNewSquares", inPlace := ["internal/bytealg.IndexByteString", "internal/abi.NoEscape", "internal/bytealg.MakeNoZero"], unfollowed := true, recurses := true, named := ["unicode/utf8.first", "unicode/utf8.acceptRanges", "unicode.CaseRanges"], apart := false, laid := [("unicode/utf8.acceptRanges", laid_unicode_utf8_acceptRanges), ("unicode.CaseRanges", laid_unicode_CaseRanges), ("unicode/utf8.first", laid_unicode_utf8_first)], narrowed := true }
def FnExactNewSquaresUptoSaid : Prop := fnExactNewSquaresUptoRow.holds Tryd.pinned (OpenSpec.upto fnExactNewSquaresSpec)

/-- 'laws.FnExactPlacedTiles', WHERE WHAT IT READS IS OF BULK AT MOST 1048576: true; the input reads as it did. -/
def fnExactPlacedTilesUptoRow : OpenClaim := { program := "ytpjmenfnaembcaadoor", sum := "ffd122be9bfbef21e1351b63486cdce2186a4539cc4251276e2425a12576b98e", func := "loop.example/g00911/laws.FnExactPlacedTiles", spec := "fnExactPlacedTiles", inPlace := ["internal/bytealg.IndexByteString", "internal/abi.NoEscape", "internal/bytealg.MakeNoZero"], unfollowed := true, recurses := true, named := ["unicode/utf8.first", "unicode/utf8.acceptRanges", "unicode.CaseRanges"], apart := false, laid := [("unicode/utf8.acceptRanges", laid_unicode_utf8_acceptRanges), ("unicode.CaseRanges", laid_unicode_CaseRanges), ("unicode/utf8.first", laid_unicode_utf8_first)], narrowed := true }
def FnExactPlacedTilesUptoSaid : Prop := fnExactPlacedTilesUptoRow.holds Tryd.pinned (OpenSpec.upto fnExactPlacedTilesSpec)

/-- 'laws.FnExactPremiumsUsed', WHERE WHAT IT READS IS OF BULK AT MOST 1048576: true; the input reads as it did. -/
def fnExactPremiumsUsedUptoRow : OpenClaim := { program := "ytpjmenfnaembcaadoor", sum := "ffd122be9bfbef21e1351b63486cdce2186a4539cc4251276e2425a12576b98e", func := "loop.example/g00911/laws.FnExactPremiumsUsed", spec := "fnExactPremiumsUsed", inPlace := ["internal/bytealg.IndexByteString", "internal/abi.NoEscape", "internal/bytealg.MakeNoZero"], unfollowed := true, recurses := true, named := ["unicode/utf8.first", "unicode/utf8.acceptRanges", "unicode.CaseRanges"], apart := false, laid := [("unicode/utf8.acceptRanges", laid_unicode_utf8_acceptRanges), ("unicode.CaseRanges", laid_unicode_CaseRanges), ("unicode/utf8.first", laid_unicode_utf8_first)], narrowed := true }
def FnExactPremiumsUsedUptoSaid : Prop := fnExactPremiumsUsedUptoRow.holds Tryd.pinned (OpenSpec.upto fnExactPremiumsUsedSpec)

/-- 'laws.FnExactWordFactor', WHERE WHAT IT READS IS OF BULK AT MOST 1048576: true; the input reads as it did. -/
def fnExactWordFactorUptoRow : OpenClaim := { program := "ytpjmenfnaembcaadoor", sum := "ffd122be9bfbef21e1351b63486cdce2186a4539cc4251276e2425a12576b98e", func := "loop.example/g00911/laws.FnExactWordFactor", spec := "fnExactWordFactor", inPlace := ["internal/bytealg.IndexByteString", "internal/abi.NoEscape", "internal/bytealg.MakeNoZero"], unfollowed := true, recurses := true, named := ["unicode/utf8.first", "unicode/utf8.acceptRanges", "unicode.CaseRanges"], apart := false, laid := [("unicode/utf8.acceptRanges", laid_unicode_utf8_acceptRanges), ("unicode.CaseRanges", laid_unicode_CaseRanges), ("unicode/utf8.first", laid_unicode_utf8_first)], narrowed := true }
def FnExactWordFactorUptoSaid : Prop := fnExactWordFactorUptoRow.holds Tryd.pinned (OpenSpec.upto fnExactWordFactorSpec)

end Rows
end Go.Proofs.YtpjmenfnaembcaaDoor
