/-
  No cell of these rows narrows 'for every input' (looked for: loops, veiled, ifaces, maps, wideKeys, modest, calm, conditions, laid).
  DERIVED. THE GIVEN ROWS OF THIS SEAT. 6 by the template 'for every input the law returns true; each argument reads behind the call as it read before'; 0 by the template 'total and deterministic' (their statements: YtofgmmgphlfamaaTotals.lean).
  GIVEN WITH THE SEED: the statements are not yours to turn. If you find one false, say at which input.
  Laid BY PROGRAM, IN A SANDBOX (cutbox-rows.mjs): the forced cells as the released guide's own fill.sh prints them over the translation 826615dd6f130e85… (all of the seat's roots in one cut). By AI agents, Wed Nov 11 2026. No macro, syntax, notation, axiom, sorry.
-/
import Derived.Test.YtofgmmgphlfamaaChecked
import GoSem.Claim
import GoSem.ClaimJoined
import GoSem.ClaimMapViews
import Derived.JoinedTies
import Derived.KernelRfl
namespace Go.Proofs.Ytofgmmgphlfamaa
/- THE CELL 'sum', in the pinned program and in every row, IS THE sha256 OF THE DUMP (.gsa) THAT YtofgmmgphlfamaaProg.lean LOADS. Nothing in Lean hashes anything: it is a label: what it is worth is what the hold of that sum in a sandbox is worth. -/
noncomputable def Try.pinned : Pinned := { name := "ytofgmmgphlfamaa", sum := "826615dd6f130e85f45d12ccfa22e3c7c74e453e901beb2359f509052e14a475", checked := Try.checked }
namespace Rows
def none {H : Type} : Left H := { results := [], args := [] }

/-- 'laws.FnExactValidPattern': WHATEVER THE INPUT: true; the input reads as it did. -/
def fnExactValidPatternSpec : ChangeSpec := { name := "fnExactValidPattern", fn := fun _ => fun
  | [d] => { results := [.lit (.bool true)], args := [d] }
  | _ => none }
def fnExactValidPatternRow : OpenClaim := { program := "ytofgmmgphlfamaa", sum := "826615dd6f130e85f45d12ccfa22e3c7c74e453e901beb2359f509052e14a475", func := "loop.example/g00911/laws.FnExactValidPattern", spec := "fnExactValidPattern", inPlace := ["internal/bytealg.IndexByteString", "internal/bytealg.IndexString", "internal/bytealg.CountString"], named := ["internal/bytealg.MaxLen"], apart := false }
def FnExactValidPatternSaid : Prop := fnExactValidPatternRow.holds Try.pinned (OpenSpec.ofChange fnExactValidPatternSpec)

/-- ITS FALSE NEIGHBOUR: 'it returns false'. Refute it at one input. -/
def fnExactValidPatternWrong : ChangeSpec := { name := "fnExactValidPattern", fn := fun _ => fun
  | [d] => { results := [.lit (.bool false)], args := [d] }
  | _ => none }
def FnExactValidPatternWrongFalsely : Prop := fnExactValidPatternRow.holds Try.pinned (OpenSpec.ofChange fnExactValidPatternWrong)

/-- 'laws.FnExactMatchPattern': WHATEVER THE INPUT: true; the input reads as it did. -/
def fnExactMatchPatternSpec : ChangeSpec := { name := "fnExactMatchPattern", fn := fun _ => fun
  | [d1, d2] => { results := [.lit (.bool true)], args := [d1, d2] }
  | _ => none }
def fnExactMatchPatternRow : OpenClaim := { program := "ytofgmmgphlfamaa", sum := "826615dd6f130e85f45d12ccfa22e3c7c74e453e901beb2359f509052e14a475", func := "loop.example/g00911/laws.FnExactMatchPattern", spec := "fnExactMatchPattern", inPlace := ["internal/bytealg.IndexByteString", "internal/bytealg.IndexString", "internal/bytealg.CountString"], recurses := true, named := ["internal/bytealg.MaxLen"], apart := false }
def FnExactMatchPatternSaid : Prop := fnExactMatchPatternRow.holds Try.pinned (OpenSpec.ofChange fnExactMatchPatternSpec)

/-- ITS FALSE NEIGHBOUR: 'it returns false'. Refute it at one input. -/
def fnExactMatchPatternWrong : ChangeSpec := { name := "fnExactMatchPattern", fn := fun _ => fun
  | [d1, d2] => { results := [.lit (.bool false)], args := [d1, d2] }
  | _ => none }
def FnExactMatchPatternWrongFalsely : Prop := fnExactMatchPatternRow.holds Try.pinned (OpenSpec.ofChange fnExactMatchPatternWrong)

/-- 'laws.FnExactWordsMatching': WHATEVER THE INPUT: true; the input reads as it did. -/
def fnExactWordsMatchingSpec : ChangeSpec := { name := "fnExactWordsMatching", fn := fun _ => fun
  | [d1, d2] => { results := [.lit (.bool true)], args := [d1, d2] }
  | _ => none }
def fnExactWordsMatchingRow : OpenClaim := { program := "ytofgmmgphlfamaa", sum := "826615dd6f130e85f45d12ccfa22e3c7c74e453e901beb2359f509052e14a475", func := "loop.example/g00911/laws.FnExactWordsMatching", spec := "fnExactWordsMatching", inPlace := ["internal/bytealg.IndexByteString", "internal/bytealg.IndexString", "internal/bytealg.CountString"], unfollowed := true, recurses := true, named := ["internal/bytealg.MaxLen"], apart := false }
def FnExactWordsMatchingSaid : Prop := fnExactWordsMatchingRow.holds Try.pinned (OpenSpec.ofChange fnExactWordsMatchingSpec)

/-- ITS FALSE NEIGHBOUR: 'it returns false'. Refute it at one input. -/
def fnExactWordsMatchingWrong : ChangeSpec := { name := "fnExactWordsMatching", fn := fun _ => fun
  | [d1, d2] => { results := [.lit (.bool false)], args := [d1, d2] }
  | _ => none }
def FnExactWordsMatchingWrongFalsely : Prop := fnExactWordsMatchingRow.holds Try.pinned (OpenSpec.ofChange fnExactWordsMatchingWrong)

/-- 'laws.FnExactDropsOf': WHATEVER THE INPUT: true; the input reads as it did. -/
def fnExactDropsOfSpec : ChangeSpec := { name := "fnExactDropsOf", fn := fun _ => fun
  | [d1, d2] => { results := [.lit (.bool true)], args := [d1, d2] }
  | _ => none }
def fnExactDropsOfRow : OpenClaim := { program := "ytofgmmgphlfamaa", sum := "826615dd6f130e85f45d12ccfa22e3c7c74e453e901beb2359f509052e14a475", func := "loop.example/g00911/laws.FnExactDropsOf", spec := "fnExactDropsOf", unfollowed := true, recurses := true, apart := false }
def FnExactDropsOfSaid : Prop := fnExactDropsOfRow.holds Try.pinned (OpenSpec.ofChange fnExactDropsOfSpec)

/-- ITS FALSE NEIGHBOUR: 'it returns false'. Refute it at one input. -/
def fnExactDropsOfWrong : ChangeSpec := { name := "fnExactDropsOf", fn := fun _ => fun
  | [d1, d2] => { results := [.lit (.bool false)], args := [d1, d2] }
  | _ => none }
def FnExactDropsOfWrongFalsely : Prop := fnExactDropsOfRow.holds Try.pinned (OpenSpec.ofChange fnExactDropsOfWrong)

/-- 'laws.FnExactInsertsOf': WHATEVER THE INPUT: true; the input reads as it did. -/
def fnExactInsertsOfSpec : ChangeSpec := { name := "fnExactInsertsOf", fn := fun _ => fun
  | [d1, d2] => { results := [.lit (.bool true)], args := [d1, d2] }
  | _ => none }
def fnExactInsertsOfRow : OpenClaim := { program := "ytofgmmgphlfamaa", sum := "826615dd6f130e85f45d12ccfa22e3c7c74e453e901beb2359f509052e14a475", func := "loop.example/g00911/laws.FnExactInsertsOf", spec := "fnExactInsertsOf", unfollowed := true, recurses := true, apart := false }
def FnExactInsertsOfSaid : Prop := fnExactInsertsOfRow.holds Try.pinned (OpenSpec.ofChange fnExactInsertsOfSpec)

/-- ITS FALSE NEIGHBOUR: 'it returns false'. Refute it at one input. -/
def fnExactInsertsOfWrong : ChangeSpec := { name := "fnExactInsertsOf", fn := fun _ => fun
  | [d1, d2] => { results := [.lit (.bool false)], args := [d1, d2] }
  | _ => none }
def FnExactInsertsOfWrongFalsely : Prop := fnExactInsertsOfRow.holds Try.pinned (OpenSpec.ofChange fnExactInsertsOfWrong)

/-- 'laws.FnExactChangesOf': WHATEVER THE INPUT: true; the input reads as it did. -/
def fnExactChangesOfSpec : ChangeSpec := { name := "fnExactChangesOf", fn := fun _ => fun
  | [d1, d2] => { results := [.lit (.bool true)], args := [d1, d2] }
  | _ => none }
def fnExactChangesOfRow : OpenClaim := { program := "ytofgmmgphlfamaa", sum := "826615dd6f130e85f45d12ccfa22e3c7c74e453e901beb2359f509052e14a475", func := "loop.example/g00911/laws.FnExactChangesOf", spec := "fnExactChangesOf", unfollowed := true, recurses := true, apart := false }
def FnExactChangesOfSaid : Prop := fnExactChangesOfRow.holds Try.pinned (OpenSpec.ofChange fnExactChangesOfSpec)

/-- ITS FALSE NEIGHBOUR: 'it returns false'. Refute it at one input. -/
def fnExactChangesOfWrong : ChangeSpec := { name := "fnExactChangesOf", fn := fun _ => fun
  | [d1, d2] => { results := [.lit (.bool false)], args := [d1, d2] }
  | _ => none }
def FnExactChangesOfWrongFalsely : Prop := fnExactChangesOfRow.holds Try.pinned (OpenSpec.ofChange fnExactChangesOfWrong)

/- THE SECOND FORM. 'bulk': how many values and letters a reading holds, each counted each time it is reached (what is shared counts as often as it is met; a slice's spare places count too). A statement '..UptoSaid' is the law's where the arguments, and the package variables that the reading takes, are together of bulk at most 1048576: NARROWER than '..Said'. Prove '..Said' where nothing that the law and all that it calls make is longer than what came in: it says more and counts as full. Else prove '..UptoSaid'. A law counts once. -/
mutual
def uptoBulk {H : Type} : DataW H → Nat
  | .lit (.string bytes) => bytes.length + 1
  | .lit _ => 1
  | .nil => 1
  | .ptr d => uptoBulk d + 1
  | .slice elems spare => uptoBulkAll elems + uptoBulkAll spare + 1
  | .agg parts => uptoBulkAll parts + 1
  | .iface _ d => uptoBulk d + 1
  | .map entries => uptoBulkEntries entries + 1
  | .held _ => 1
def uptoBulkAll {H : Type} : List (DataW H) → Nat
  | [] => 0
  | d :: r => uptoBulk d + uptoBulkAll r
def uptoBulkEntries {H : Type} : List (Lit × DataW H) → Nat
  | [] => 0
  | x :: r => uptoBulkEntry x + uptoBulkEntries r
def uptoBulkEntry {H : Type} : Lit × DataW H → Nat
  | (.string bytes, d) => bytes.length + uptoBulk d + 1
  | (_, d) => uptoBulk d + 1
 end
def uptoSmall : (H : Type) → List (DataW H) → Bool := fun _ ds => decide (uptoBulkAll ds ≤ 1048576)
def OpenSpec.upto (s : _root_.Go.ChangeSpec) : _root_.Go.OpenSpec := { _root_.Go.OpenSpec.ofChange s with cond := some uptoSmall }

/-- 'laws.FnExactValidPattern', WHERE WHAT IT READS IS OF BULK AT MOST 1048576: true; the input reads as it did. -/
def fnExactValidPatternUptoRow : OpenClaim := { program := "ytofgmmgphlfamaa", sum := "826615dd6f130e85f45d12ccfa22e3c7c74e453e901beb2359f509052e14a475", func := "loop.example/g00911/laws.FnExactValidPattern", spec := "fnExactValidPattern", inPlace := ["internal/bytealg.IndexByteString", "internal/bytealg.IndexString", "internal/bytealg.CountString"], named := ["internal/bytealg.MaxLen"], apart := false, narrowed := true }
def FnExactValidPatternUptoSaid : Prop := fnExactValidPatternUptoRow.holds Try.pinned (OpenSpec.upto fnExactValidPatternSpec)

/-- 'laws.FnExactMatchPattern', WHERE WHAT IT READS IS OF BULK AT MOST 1048576: true; the input reads as it did. -/
def fnExactMatchPatternUptoRow : OpenClaim := { program := "ytofgmmgphlfamaa", sum := "826615dd6f130e85f45d12ccfa22e3c7c74e453e901beb2359f509052e14a475", func := "loop.example/g00911/laws.FnExactMatchPattern", spec := "fnExactMatchPattern", inPlace := ["internal/bytealg.IndexByteString", "internal/bytealg.IndexString", "internal/bytealg.CountString"], recurses := true, named := ["internal/bytealg.MaxLen"], apart := false, narrowed := true }
def FnExactMatchPatternUptoSaid : Prop := fnExactMatchPatternUptoRow.holds Try.pinned (OpenSpec.upto fnExactMatchPatternSpec)

/-- 'laws.FnExactWordsMatching', WHERE WHAT IT READS IS OF BULK AT MOST 1048576: true; the input reads as it did. -/
def fnExactWordsMatchingUptoRow : OpenClaim := { program := "ytofgmmgphlfamaa", sum := "826615dd6f130e85f45d12ccfa22e3c7c74e453e901beb2359f509052e14a475", func := "loop.example/g00911/laws.FnExactWordsMatching", spec := "fnExactWordsMatching", inPlace := ["internal/bytealg.IndexByteString", "internal/bytealg.IndexString", "internal/bytealg.CountString"], unfollowed := true, recurses := true, named := ["internal/bytealg.MaxLen"], apart := false, narrowed := true }
def FnExactWordsMatchingUptoSaid : Prop := fnExactWordsMatchingUptoRow.holds Try.pinned (OpenSpec.upto fnExactWordsMatchingSpec)

/-- 'laws.FnExactDropsOf', WHERE WHAT IT READS IS OF BULK AT MOST 1048576: true; the input reads as it did. -/
def fnExactDropsOfUptoRow : OpenClaim := { program := "ytofgmmgphlfamaa", sum := "826615dd6f130e85f45d12ccfa22e3c7c74e453e901beb2359f509052e14a475", func := "loop.example/g00911/laws.FnExactDropsOf", spec := "fnExactDropsOf", unfollowed := true, recurses := true, apart := false, narrowed := true }
def FnExactDropsOfUptoSaid : Prop := fnExactDropsOfUptoRow.holds Try.pinned (OpenSpec.upto fnExactDropsOfSpec)

/-- 'laws.FnExactInsertsOf', WHERE WHAT IT READS IS OF BULK AT MOST 1048576: true; the input reads as it did. -/
def fnExactInsertsOfUptoRow : OpenClaim := { program := "ytofgmmgphlfamaa", sum := "826615dd6f130e85f45d12ccfa22e3c7c74e453e901beb2359f509052e14a475", func := "loop.example/g00911/laws.FnExactInsertsOf", spec := "fnExactInsertsOf", unfollowed := true, recurses := true, apart := false, narrowed := true }
def FnExactInsertsOfUptoSaid : Prop := fnExactInsertsOfUptoRow.holds Try.pinned (OpenSpec.upto fnExactInsertsOfSpec)

/-- 'laws.FnExactChangesOf', WHERE WHAT IT READS IS OF BULK AT MOST 1048576: true; the input reads as it did. -/
def fnExactChangesOfUptoRow : OpenClaim := { program := "ytofgmmgphlfamaa", sum := "826615dd6f130e85f45d12ccfa22e3c7c74e453e901beb2359f509052e14a475", func := "loop.example/g00911/laws.FnExactChangesOf", spec := "fnExactChangesOf", unfollowed := true, recurses := true, apart := false, narrowed := true }
def FnExactChangesOfUptoSaid : Prop := fnExactChangesOfUptoRow.holds Try.pinned (OpenSpec.upto fnExactChangesOfSpec)

end Rows
end Go.Proofs.Ytofgmmgphlfamaa
