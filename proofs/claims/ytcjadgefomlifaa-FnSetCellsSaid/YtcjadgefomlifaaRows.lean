/-
  No cell of these rows narrows 'for every input' (looked for: loops, veiled, ifaces, maps, wideKeys, modest, calm, conditions, laid).
  DERIVED. THE GIVEN ROWS OF THIS SEAT. 4 by the template 'for every input the law returns true; each argument reads behind the call as it read before'; 0 by the template 'total and deterministic' (their statements: YtcjadgefomlifaaTotals.lean).
  GIVEN WITH THE SEED: the statements are not yours to turn. If you find one false, say at which input.
  Laid BY PROGRAM, IN A SANDBOX (cutbox-rows.mjs): the forced cells as the released guide's own fill.sh prints them over the translation 2e434372f3db5f2d… (all of the seat's roots in one cut). By AI agents, Wed Nov 11 2026. No macro, syntax, notation, axiom, sorry.
-/
import Derived.Test.YtcjadgefomlifaaChecked
import GoSem.Claim
import GoSem.ClaimJoined
import GoSem.ClaimMapViews
import Derived.JoinedTies
import Derived.KernelRfl
namespace Go.Proofs.Ytcjadgefomlifaa
/- THE CELL 'sum', in the pinned program and in every row, IS THE sha256 OF THE DUMP (.gsa) THAT YtcjadgefomlifaaProg.lean LOADS. Nothing in Lean hashes anything: it is a label: what it is worth is what the hold of that sum in a sandbox is worth. -/
noncomputable def Try.pinned : Pinned := { name := "ytcjadgefomlifaa", sum := "2e434372f3db5f2d860a75910e6eaf1b2ccdd5dee189bdacf858c7a13c06b261", checked := Try.checked }
namespace Rows
def none {H : Type} : Left H := { results := [], args := [] }

/-- 'laws.FnExactComparePlays': WHATEVER THE INPUT: true; the input reads as it did. -/
def fnExactComparePlaysSpec : ChangeSpec := { name := "fnExactComparePlays", fn := fun _ => fun
  | [d1, d2] => { results := [.lit (.bool true)], args := [d1, d2] }
  | _ => none }
def fnExactComparePlaysRow : OpenClaim := { program := "ytcjadgefomlifaa", sum := "2e434372f3db5f2d860a75910e6eaf1b2ccdd5dee189bdacf858c7a13c06b261", func := "loop.example/g00911/laws.FnExactComparePlays", spec := "fnExactComparePlays", apart := false }
def FnExactComparePlaysSaid : Prop := fnExactComparePlaysRow.holds Try.pinned (OpenSpec.ofChange fnExactComparePlaysSpec)

/-- ITS FALSE NEIGHBOUR: 'it returns false'. Refute it at one input. -/
def fnExactComparePlaysWrong : ChangeSpec := { name := "fnExactComparePlays", fn := fun _ => fun
  | [d1, d2] => { results := [.lit (.bool false)], args := [d1, d2] }
  | _ => none }
def FnExactComparePlaysWrongFalsely : Prop := fnExactComparePlaysRow.holds Try.pinned (OpenSpec.ofChange fnExactComparePlaysWrong)

/-- 'laws.FnExactEmptyBoard': WHATEVER THE INPUT: true; the input reads as it did. -/
def fnExactEmptyBoardSpec : ChangeSpec := { name := "fnExactEmptyBoard", fn := fun _ => fun
  | [d] => { results := [.lit (.bool true)], args := [d] }
  | _ => none }
def fnExactEmptyBoardRow : OpenClaim := { program := "ytcjadgefomlifaa", sum := "2e434372f3db5f2d860a75910e6eaf1b2ccdd5dee189bdacf858c7a13c06b261", func := "loop.example/g00911/laws.FnExactEmptyBoard", spec := "fnExactEmptyBoard", inPlace := ["internal/abi.NoEscape", "internal/bytealg.MakeNoZero"], apart := false }
def FnExactEmptyBoardSaid : Prop := fnExactEmptyBoardRow.holds Try.pinned (OpenSpec.ofChange fnExactEmptyBoardSpec)

/-- ITS FALSE NEIGHBOUR: 'it returns false'. Refute it at one input. -/
def fnExactEmptyBoardWrong : ChangeSpec := { name := "fnExactEmptyBoard", fn := fun _ => fun
  | [d] => { results := [.lit (.bool false)], args := [d] }
  | _ => none }
def FnExactEmptyBoardWrongFalsely : Prop := fnExactEmptyBoardRow.holds Try.pinned (OpenSpec.ofChange fnExactEmptyBoardWrong)

/-- 'laws.FnExactStandardBoard': WHATEVER THE INPUT: true; the input reads as it did. -/
def fnExactStandardBoardSpec : ChangeSpec := { name := "fnExactStandardBoard", fn := fun _ => fun
  | [d] => { results := [.lit (.bool true)], args := [d] }
  | _ => none }
def fnExactStandardBoardRow : OpenClaim := { program := "ytcjadgefomlifaa", sum := "2e434372f3db5f2d860a75910e6eaf1b2ccdd5dee189bdacf858c7a13c06b261", func := "loop.example/g00911/laws.FnExactStandardBoard", spec := "fnExactStandardBoard", inPlace := ["internal/abi.NoEscape", "internal/bytealg.MakeNoZero"], apart := false }
def FnExactStandardBoardSaid : Prop := fnExactStandardBoardRow.holds Try.pinned (OpenSpec.ofChange fnExactStandardBoardSpec)

/-- ITS FALSE NEIGHBOUR: 'it returns false'. Refute it at one input. -/
def fnExactStandardBoardWrong : ChangeSpec := { name := "fnExactStandardBoard", fn := fun _ => fun
  | [d] => { results := [.lit (.bool false)], args := [d] }
  | _ => none }
def FnExactStandardBoardWrongFalsely : Prop := fnExactStandardBoardRow.holds Try.pinned (OpenSpec.ofChange fnExactStandardBoardWrong)

/-- 'laws.FnSetCells': WHATEVER THE INPUT: true; the input reads as it did. -/
def fnSetCellsSpec : ChangeSpec := { name := "fnSetCells", fn := fun _ => fun
  | [d] => { results := [.lit (.bool true)], args := [d] }
  | _ => none }
def fnSetCellsRow : OpenClaim := { program := "ytcjadgefomlifaa", sum := "2e434372f3db5f2d860a75910e6eaf1b2ccdd5dee189bdacf858c7a13c06b261", func := "loop.example/g00911/laws.FnSetCells", spec := "fnSetCells", inPlace := ["internal/bytealg.IndexByteString"], unfollowed := true, recurses := true, apart := false }
def FnSetCellsSaid : Prop := fnSetCellsRow.holds Try.pinned (OpenSpec.ofChange fnSetCellsSpec)

/-- ITS FALSE NEIGHBOUR: 'it returns false'. Refute it at one input. -/
def fnSetCellsWrong : ChangeSpec := { name := "fnSetCells", fn := fun _ => fun
  | [d] => { results := [.lit (.bool false)], args := [d] }
  | _ => none }
def FnSetCellsWrongFalsely : Prop := fnSetCellsRow.holds Try.pinned (OpenSpec.ofChange fnSetCellsWrong)

/- THE SECOND FORM. 'bulk': how many values and letters a reading holds, each counted each time it is reached (what is shared counts as often as it is met; a slice's spare places count too). A statement '..UptoSaid' is the law's where the arguments, and the package variables that the reading takes, are together of bulk at most 1048576: NARROWER than '..Said'. Prove '..Said' where nothing that the law and all that it calls make is longer than what came in: it says more and counts as full. Else prove '..UptoSaid'. A law counts once. -/
mutual
def uptoBulk {H : Type} : DataW H → Nat
  | .lit (.string bytes) => bytes.length + 1
  | .lit _ => 1
  | .nil => 1
  | .ptr d => uptoBulk d + 1
  | .slice elems spare => uptoBulkAll elems + uptoBulkAll spare + 1
  | .agg parts => uptoBulkAll parts + 1
  | .iface _ d => uptoBulk d + 1
  | .map entries => uptoBulkEntries entries + 1
  | .held _ => 1
def uptoBulkAll {H : Type} : List (DataW H) → Nat
  | [] => 0
  | d :: r => uptoBulk d + uptoBulkAll r
def uptoBulkEntries {H : Type} : List (Lit × DataW H) → Nat
  | [] => 0
  | x :: r => uptoBulkEntry x + uptoBulkEntries r
def uptoBulkEntry {H : Type} : Lit × DataW H → Nat
  | (.string bytes, d) => bytes.length + uptoBulk d + 1
  | (_, d) => uptoBulk d + 1
 end
def uptoSmall : (H : Type) → List (DataW H) → Bool := fun _ ds => decide (uptoBulkAll ds ≤ 1048576)
def OpenSpec.upto (s : _root_.Go.ChangeSpec) : _root_.Go.OpenSpec := { _root_.Go.OpenSpec.ofChange s with cond := some uptoSmall }

/-- 'laws.FnExactComparePlays', WHERE WHAT IT READS IS OF BULK AT MOST 1048576: true; the input reads as it did. -/
def fnExactComparePlaysUptoRow : OpenClaim := { program := "ytcjadgefomlifaa", sum := "2e434372f3db5f2d860a75910e6eaf1b2ccdd5dee189bdacf858c7a13c06b261", func := "loop.example/g00911/laws.FnExactComparePlays", spec := "fnExactComparePlays", apart := false, narrowed := true }
def FnExactComparePlaysUptoSaid : Prop := fnExactComparePlaysUptoRow.holds Try.pinned (OpenSpec.upto fnExactComparePlaysSpec)

/-- 'laws.FnExactEmptyBoard', WHERE WHAT IT READS IS OF BULK AT MOST 1048576: true; the input reads as it did. -/
def fnExactEmptyBoardUptoRow : OpenClaim := { program := "ytcjadgefomlifaa", sum := "2e434372f3db5f2d860a75910e6eaf1b2ccdd5dee189bdacf858c7a13c06b261", func := "loop.example/g00911/laws.FnExactEmptyBoard", spec := "fnExactEmptyBoard", inPlace := ["internal/abi.NoEscape", "internal/bytealg.MakeNoZero"], apart := false, narrowed := true }
def FnExactEmptyBoardUptoSaid : Prop := fnExactEmptyBoardUptoRow.holds Try.pinned (OpenSpec.upto fnExactEmptyBoardSpec)

/-- 'laws.FnExactStandardBoard', WHERE WHAT IT READS IS OF BULK AT MOST 1048576: true; the input reads as it did. -/
def fnExactStandardBoardUptoRow : OpenClaim := { program := "ytcjadgefomlifaa", sum := "2e434372f3db5f2d860a75910e6eaf1b2ccdd5dee189bdacf858c7a13c06b261", func := "loop.example/g00911/laws.FnExactStandardBoard", spec := "fnExactStandardBoard", inPlace := ["internal/abi.NoEscape", "internal/bytealg.MakeNoZero"], apart := false, narrowed := true }
def FnExactStandardBoardUptoSaid : Prop := fnExactStandardBoardUptoRow.holds Try.pinned (OpenSpec.upto fnExactStandardBoardSpec)

/-- 'laws.FnSetCells', WHERE WHAT IT READS IS OF BULK AT MOST 1048576: true; the input reads as it did. -/
def fnSetCellsUptoRow : OpenClaim := { program := "ytcjadgefomlifaa", sum := "2e434372f3db5f2d860a75910e6eaf1b2ccdd5dee189bdacf858c7a13c06b261", func := "loop.example/g00911/laws.FnSetCells", spec := "fnSetCells", inPlace := ["internal/bytealg.IndexByteString"], unfollowed := true, recurses := true, apart := false, narrowed := true }
def FnSetCellsUptoSaid : Prop := fnSetCellsUptoRow.holds Try.pinned (OpenSpec.upto fnSetCellsSpec)

end Rows
end Go.Proofs.Ytcjadgefomlifaa
