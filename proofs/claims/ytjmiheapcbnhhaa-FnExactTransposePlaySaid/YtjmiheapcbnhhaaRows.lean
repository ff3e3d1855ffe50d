/-
  No cell of these rows narrows 'for every input' (looked for: loops, veiled, ifaces, maps, wideKeys, modest, calm, conditions, laid).
  DERIVED. THE GIVEN ROWS OF THIS SEAT. 8 by the template 'for every input the law returns true; each argument reads behind the call as it read before'; 0 by the template 'total and deterministic' (their statements: YtjmiheapcbnhhaaTotals.lean).
  GIVEN WITH THE SEED: the statements are not yours to turn. If you find one false, say at which input.
  Laid BY PROGRAM, IN A SANDBOX (cutbox-rows.mjs): the forced cells as the released guide's own fill.sh prints them over the translation 84f296008fc39db5… (all of the seat's roots in one cut). By AI agents, Wed Nov 11 2026. No macro, syntax, notation, axiom, sorry.
-/
import Derived.Test.YtjmiheapcbnhhaaChecked
import GoSem.Claim
import GoSem.ClaimJoined
import GoSem.ClaimMapViews
import Derived.JoinedTies
import Derived.KernelRfl
namespace Go.Proofs.Ytjmiheapcbnhhaa
/- THE CELL 'sum', in the pinned program and in every row, IS THE sha256 OF THE DUMP (.gsa) THAT YtjmiheapcbnhhaaProg.lean LOADS. Nothing in Lean hashes anything: it is a label: what it is worth is what the hold of that sum in a sandbox is worth. -/
noncomputable def Try.pinned : Pinned := { name := "ytjmiheapcbnhhaa", sum := "84f296008fc39db5193cb3c9258ad797adea2c6c3eb8b2e31e1735af93e918d9", checked := Try.checked }
namespace Rows
def none {H : Type} : Left H := { results := [], args := [] }

/-- 'laws.FnExactSameBoard': WHATEVER THE INPUT: true; the input reads as it did. -/
def fnExactSameBoardSpec : ChangeSpec := { name := "fnExactSameBoard", fn := fun _ => fun
  | [d1, d2] => { results := [.lit (.bool true)], args := [d1, d2] }
  | _ => none }
def fnExactSameBoardRow : OpenClaim := { program := "ytjmiheapcbnhhaa", sum := "84f296008fc39db5193cb3c9258ad797adea2c6c3eb8b2e31e1735af93e918d9", func := "loop.example/g00911/laws.FnExactSameBoard", spec := "fnExactSameBoard", apart := false }
def FnExactSameBoardSaid : Prop := fnExactSameBoardRow.holds Try.pinned (OpenSpec.ofChange fnExactSameBoardSpec)

/-- ITS FALSE NEIGHBOUR: 'it returns false'. Refute it at one input. -/
def fnExactSameBoardWrong : ChangeSpec := { name := "fnExactSameBoard", fn := fun _ => fun
  | [d1, d2] => { results := [.lit (.bool false)], args := [d1, d2] }
  | _ => none }
def FnExactSameBoardWrongFalsely : Prop := fnExactSameBoardRow.holds Try.pinned (OpenSpec.ofChange fnExactSameBoardWrong)

/-- 'laws.FnExactTransposePlay': WHATEVER THE INPUT: true; the input reads as it did. -/
def fnExactTransposePlaySpec : ChangeSpec := { name := "fnExactTransposePlay", fn := fun _ => fun
  | [d] => { results := [.lit (.bool true)], args := [d] }
  | _ => none }
def fnExactTransposePlayRow : OpenClaim := { program := "ytjmiheapcbnhhaa", sum := "84f296008fc39db5193cb3c9258ad797adea2c6c3eb8b2e31e1735af93e918d9", func := "loop.example/g00911/laws.FnExactTransposePlay", spec := "fnExactTransposePlay", apart := false }
def FnExactTransposePlaySaid : Prop := fnExactTransposePlayRow.holds Try.pinned (OpenSpec.ofChange fnExactTransposePlaySpec)

/-- ITS FALSE NEIGHBOUR: 'it returns false'. Refute it at one input. -/
def fnExactTransposePlayWrong : ChangeSpec := { name := "fnExactTransposePlay", fn := fun _ => fun
  | [d] => { results := [.lit (.bool false)], args := [d] }
  | _ => none }
def FnExactTransposePlayWrongFalsely : Prop := fnExactTransposePlayRow.holds Try.pinned (OpenSpec.ofChange fnExactTransposePlayWrong)

/-- 'laws.FnExactValidBoard': WHATEVER THE INPUT: true; the input reads as it did. -/
def fnExactValidBoardSpec : ChangeSpec := { name := "fnExactValidBoard", fn := fun _ => fun
  | [d] => { results := [.lit (.bool true)], args := [d] }
  | _ => none }
def fnExactValidBoardRow : OpenClaim := { program := "ytjmiheapcbnhhaa", sum := "84f296008fc39db5193cb3c9258ad797adea2c6c3eb8b2e31e1735af93e918d9", func := "loop.example/g00911/laws.FnExactValidBoard", spec := "fnExactValidBoard", inPlace := ["internal/bytealg.IndexByteString"], unfollowed := true, recurses := true, apart := false }
def FnExactValidBoardSaid : Prop := fnExactValidBoardRow.holds Try.pinned (OpenSpec.ofChange fnExactValidBoardSpec)

/-- ITS FALSE NEIGHBOUR: 'it returns false'. Refute it at one input. -/
def fnExactValidBoardWrong : ChangeSpec := { name := "fnExactValidBoard", fn := fun _ => fun
  | [d] => { results := [.lit (.bool false)], args := [d] }
  | _ => none }
def FnExactValidBoardWrongFalsely : Prop := fnExactValidBoardRow.holds Try.pinned (OpenSpec.ofChange fnExactValidBoardWrong)

/-- 'laws.FnExactPremiumAt': WHATEVER THE INPUT: true; the input reads as it did. -/
def fnExactPremiumAtSpec : ChangeSpec := { name := "fnExactPremiumAt", fn := fun _ => fun
  | [d1, d2, d3] => { results := [.lit (.bool true)], args := [d1, d2, d3] }
  | _ => none }
def fnExactPremiumAtRow : OpenClaim := { program := "ytjmiheapcbnhhaa", sum := "84f296008fc39db5193cb3c9258ad797adea2c6c3eb8b2e31e1735af93e918d9", func := "loop.example/g00911/laws.FnExactPremiumAt", spec := "fnExactPremiumAt", inPlace := ["internal/bytealg.IndexByteString"], unfollowed := true, recurses := true, apart := false }
def FnExactPremiumAtSaid : Prop := fnExactPremiumAtRow.holds Try.pinned (OpenSpec.ofChange fnExactPremiumAtSpec)

/-- ITS FALSE NEIGHBOUR: 'it returns false'. Refute it at one input. -/
def fnExactPremiumAtWrong : ChangeSpec := { name := "fnExactPremiumAt", fn := fun _ => fun
  | [d1, d2, d3] => { results := [.lit (.bool false)], args := [d1, d2, d3] }
  | _ => none }
def FnExactPremiumAtWrongFalsely : Prop := fnExactPremiumAtRow.holds Try.pinned (OpenSpec.ofChange fnExactPremiumAtWrong)

/-- 'laws.FnExactCellAt': WHATEVER THE INPUT: true; the input reads as it did. -/
def fnExactCellAtSpec : ChangeSpec := { name := "fnExactCellAt", fn := fun _ => fun
  | [d1, d2, d3] => { results := [.lit (.bool true)], args := [d1, d2, d3] }
  | _ => none }
def fnExactCellAtRow : OpenClaim := { program := "ytjmiheapcbnhhaa", sum := "84f296008fc39db5193cb3c9258ad797adea2c6c3eb8b2e31e1735af93e918d9", func := "loop.example/g00911/laws.FnExactCellAt", spec := "fnExactCellAt", inPlace := ["internal/bytealg.IndexByteString"], unfollowed := true, recurses := true, apart := false }
def FnExactCellAtSaid : Prop := fnExactCellAtRow.holds Try.pinned (OpenSpec.ofChange fnExactCellAtSpec)

/-- ITS FALSE NEIGHBOUR: 'it returns false'. Refute it at one input. -/
def fnExactCellAtWrong : ChangeSpec := { name := "fnExactCellAt", fn := fun _ => fun
  | [d1, d2, d3] => { results := [.lit (.bool false)], args := [d1, d2, d3] }
  | _ => none }
def FnExactCellAtWrongFalsely : Prop := fnExactCellAtRow.holds Try.pinned (OpenSpec.ofChange fnExactCellAtWrong)

/-- 'laws.FnExactTransposeBoard': WHATEVER THE INPUT: true; the input reads as it did. -/
def fnExactTransposeBoardSpec : ChangeSpec := { name := "fnExactTransposeBoard", fn := fun _ => fun
  | [d] => { results := [.lit (.bool true)], args := [d] }
  | _ => none }
def fnExactTransposeBoardRow : OpenClaim := { program := "ytjmiheapcbnhhaa", sum := "84f296008fc39db5193cb3c9258ad797adea2c6c3eb8b2e31e1735af93e918d9", func := "loop.example/g00911/laws.FnExactTransposeBoard", spec := "fnExactTransposeBoard", inPlace := ["internal/bytealg.IndexByteString"], unfollowed := true, recurses := true, apart := false }
def FnExactTransposeBoardSaid : Prop := fnExactTransposeBoardRow.holds Try.pinned (OpenSpec.ofChange fnExactTransposeBoardSpec)

/-- ITS FALSE NEIGHBOUR: 'it returns false'. Refute it at one input. -/
def fnExactTransposeBoardWrong : ChangeSpec := { name := "fnExactTransposeBoard", fn := fun _ => fun
  | [d] => { results := [.lit (.bool false)], args := [d] }
  | _ => none }
def FnExactTransposeBoardWrongFalsely : Prop := fnExactTransposeBoardRow.holds Try.pinned (OpenSpec.ofChange fnExactTransposeBoardWrong)

/-- 'laws.FnExactSetCell': WHATEVER THE INPUT: true; the input reads as it did. -/
def fnExactSetCellSpec : ChangeSpec := { name := "fnExactSetCell", fn := fun _ => fun
  | [d1, d2, d3, d4] => { results := [.lit (.bool true)], args := [d1, d2, d3, d4] }
  | _ => none }
def fnExactSetCellRow : OpenClaim := { program := "ytjmiheapcbnhhaa", sum := "84f296008fc39db5193cb3c9258ad797adea2c6c3eb8b2e31e1735af93e918d9", func := "loop.example/g00911/laws.FnExactSetCell", spec := "fnExactSetCell", inPlace := ["internal/bytealg.IndexByteString"], unfollowed := true, recurses := true, apart := false }
def FnExactSetCellSaid : Prop := fnExactSetCellRow.holds Try.pinned (OpenSpec.ofChange fnExactSetCellSpec)

/-- ITS FALSE NEIGHBOUR: 'it returns false'. Refute it at one input. -/
def fnExactSetCellWrong : ChangeSpec := { name := "fnExactSetCell", fn := fun _ => fun
  | [d1, d2, d3, d4] => { results := [.lit (.bool false)], args := [d1, d2, d3, d4] }
  | _ => none }
def FnExactSetCellWrongFalsely : Prop := fnExactSetCellRow.holds Try.pinned (OpenSpec.ofChange fnExactSetCellWrong)

/-- 'laws.FnExactLineOf': WHATEVER THE INPUT: true; the input reads as it did. -/
def fnExactLineOfSpec : ChangeSpec := { name := "fnExactLineOf", fn := fun _ => fun
  | [d1, d2, d3] => { results := [.lit (.bool true)], args := [d1, d2, d3] }
  | _ => none }
def fnExactLineOfRow : OpenClaim := { program := "ytjmiheapcbnhhaa", sum := "84f296008fc39db5193cb3c9258ad797adea2c6c3eb8b2e31e1735af93e918d9", func := "loop.example/g00911/laws.FnExactLineOf", spec := "fnExactLineOf", inPlace := ["internal/bytealg.IndexByteString"], unfollowed := true, recurses := true, apart := false }
def FnExactLineOfSaid : Prop := fnExactLineOfRow.holds Try.pinned (OpenSpec.ofChange fnExactLineOfSpec)

/-- ITS FALSE NEIGHBOUR: 'it returns false'. Refute it at one input. -/
def fnExactLineOfWrong : ChangeSpec := { name := "fnExactLineOf", fn := fun _ => fun
  | [d1, d2, d3] => { results := [.lit (.bool false)], args := [d1, d2, d3] }
  | _ => none }
def FnExactLineOfWrongFalsely : Prop := fnExactLineOfRow.holds Try.pinned (OpenSpec.ofChange fnExactLineOfWrong)

/- THE SECOND FORM. 'bulk': how many values and letters a reading holds, each counted each time it is reached (what is shared counts as often as it is met; a slice's spare places count too). A statement '..UptoSaid' is the law's where the arguments, and the package variables that the reading takes, are together of bulk at most 1048576: NARROWER than '..Said'. Prove '..Said' where nothing that the law and all that it calls make is longer than what came in: it says more and counts as full. Else prove '..UptoSaid'. A law counts once. -/
mutual
def uptoBulk {H : Type} : DataW H → Nat
  | .lit (.string bytes) => bytes.length + 1
  | .lit _ => 1
  | .nil => 1
  | .ptr d => uptoBulk d + 1
  | .slice elems spare => uptoBulkAll elems + uptoBulkAll spare + 1
  | .agg parts => uptoBulkAll parts + 1
  | .iface _ d => uptoBulk d + 1
  | .map entries => uptoBulkEntries entries + 1
  | .held _ => 1
def uptoBulkAll {H : Type} : List (DataW H) → Nat
  | [] => 0
  | d :: r => uptoBulk d + uptoBulkAll r
def uptoBulkEntries {H : Type} : List (Lit × DataW H) → Nat
  | [] => 0
  | x :: r => uptoBulkEntry x + uptoBulkEntries r
def uptoBulkEntry {H : Type} : Lit × DataW H → Nat
  | (.string bytes, d) => bytes.length + uptoBulk d + 1
  | (_, d) => uptoBulk d + 1
 end
def uptoSmall : (H : Type) → List (DataW H) → Bool := fun _ ds => decide (uptoBulkAll ds ≤ 1048576)
def OpenSpec.upto (s : _root_.Go.ChangeSpec) : _root_.Go.OpenSpec := { _root_.Go.OpenSpec.ofChange s with cond := some uptoSmall }

/-- 'laws.FnExactSameBoard', WHERE WHAT IT READS IS OF BULK AT MOST 1048576: true; the input reads as it did. -/
def fnExactSameBoardUptoRow : OpenClaim := { program := "ytjmiheapcbnhhaa", sum := "84f296008fc39db5193cb3c9258ad797adea2c6c3eb8b2e31e1735af93e918d9", func := "loop.example/g00911/laws.FnExactSameBoard", spec := "fnExactSameBoard", apart := false, narrowed := true }
def FnExactSameBoardUptoSaid : Prop := fnExactSameBoardUptoRow.holds Try.pinned (OpenSpec.upto fnExactSameBoardSpec)

/-- 'laws.FnExactTransposePlay', WHERE WHAT IT READS IS OF BULK AT MOST 1048576: true; the input reads as it did. -/
def fnExactTransposePlayUptoRow : OpenClaim := { program := "ytjmiheapcbnhhaa", sum := "84f296008fc39db5193cb3c9258ad797adea2c6c3eb8b2e31e1735af93e918d9", func := "loop.example/g00911/laws.FnExactTransposePlay", spec := "fnExactTransposePlay", apart := false, narrowed := true }
def FnExactTransposePlayUptoSaid : Prop := fnExactTransposePlayUptoRow.holds Try.pinned (OpenSpec.upto fnExactTransposePlaySpec)

/-- 'laws.FnExactValidBoard', WHERE WHAT IT READS IS OF BULK AT MOST 1048576: true; the input reads as it did. -/
def fnExactValidBoardUptoRow : OpenClaim := { program := "ytjmiheapcbnhhaa", sum := "84f296008fc39db5193cb3c9258ad797adea2c6c3eb8b2e31e1735af93e918d9", func := "loop.example/g00911/laws.FnExactValidBoard", spec := "fnExactValidBoard", inPlace := ["internal/bytealg.IndexByteString"], unfollowed := true, recurses := true, apart := false, narrowed := true }
def FnExactValidBoardUptoSaid : Prop := fnExactValidBoardUptoRow.holds Try.pinned (OpenSpec.upto fnExactValidBoardSpec)

/-- 'laws.FnExactPremiumAt', WHERE WHAT IT READS IS OF BULK AT MOST 1048576: true; the input reads as it did. -/
def fnExactPremiumAtUptoRow : OpenClaim := { program := "ytjmiheapcbnhhaa", sum := "84f296008fc39db5193cb3c9258ad797adea2c6c3eb8b2e31e1735af93e918d9", func := "loop.example/g00911/laws.FnExactPremiumAt", spec := "fnExactPremiumAt", inPlace := ["internal/bytealg.IndexByteString"], unfollowed := true, recurses := true, apart := false, narrowed := true }
def FnExactPremiumAtUptoSaid : Prop := fnExactPremiumAtUptoRow.holds Try.pinned (OpenSpec.upto fnExactPremiumAtSpec)

/-- 'laws.FnExactCellAt', WHERE WHAT IT READS IS OF BULK AT MOST 1048576: true; the input reads as it did. -/
def fnExactCellAtUptoRow : OpenClaim := { program := "ytjmiheapcbnhhaa", sum := "84f296008fc39db5193cb3c9258ad797adea2c6c3eb8b2e31e1735af93e918d9", func := "loop.example/g00911/laws.FnExactCellAt", spec := "fnExactCellAt", inPlace := ["internal/bytealg.IndexByteString"], unfollowed := true, recurses := true, apart := false, narrowed := true }
def FnExactCellAtUptoSaid : Prop := fnExactCellAtUptoRow.holds Try.pinned (OpenSpec.upto fnExactCellAtSpec)

/-- 'laws.FnExactTransposeBoard', WHERE WHAT IT READS IS OF BULK AT MOST 1048576: true; the input reads as it did. -/
def fnExactTransposeBoardUptoRow : OpenClaim := { program := "ytjmiheapcbnhhaa", sum := "84f296008fc39db5193cb3c9258ad797adea2c6c3eb8b2e31e1735af93e918d9", func := "loop.example/g00911/laws.FnExactTransposeBoard", spec := "fnExactTransposeBoard", inPlace := ["internal/bytealg.IndexByteString"], unfollowed := true, recurses := true, apart := false, narrowed := true }
def FnExactTransposeBoardUptoSaid : Prop := fnExactTransposeBoardUptoRow.holds Try.pinned (OpenSpec.upto fnExactTransposeBoardSpec)

/-- 'laws.FnExactSetCell', WHERE WHAT IT READS IS OF BULK AT MOST 1048576: true; the input reads as it did. -/
def fnExactSetCellUptoRow : OpenClaim := { program := "ytjmiheapcbnhhaa", sum := "84f296008fc39db5193cb3c9258ad797adea2c6c3eb8b2e31e1735af93e918d9", func := "loop.example/g00911/laws.FnExactSetCell", spec := "fnExactSetCell", inPlace := ["internal/bytealg.IndexByteString"], unfollowed := true, recurses := true, apart := false, narrowed := true }
def FnExactSetCellUptoSaid : Prop := fnExactSetCellUptoRow.holds Try.pinned (OpenSpec.upto fnExactSetCellSpec)

/-- 'laws.FnExactLineOf', WHERE WHAT IT READS IS OF BULK AT MOST 1048576: true; the input reads as it did. -/
def fnExactLineOfUptoRow : OpenClaim := { program := "ytjmiheapcbnhhaa", sum := "84f296008fc39db5193cb3c9258ad797adea2c6c3eb8b2e31e1735af93e918d9", func := "loop.example/g00911/laws.FnExactLineOf", spec := "fnExactLineOf", inPlace := ["internal/bytealg.IndexByteString"], unfollowed := true, recurses := true, apart := false, narrowed := true }
def FnExactLineOfUptoSaid : Prop := fnExactLineOfUptoRow.holds Try.pinned (OpenSpec.upto fnExactLineOfSpec)

end Rows
end Go.Proofs.Ytjmiheapcbnhhaa
