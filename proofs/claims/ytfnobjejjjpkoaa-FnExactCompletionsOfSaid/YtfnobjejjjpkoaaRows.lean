/-
  No cell of these rows narrows 'for every input' (looked for: loops, veiled, ifaces, maps, wideKeys, modest, calm, conditions, laid).
  DERIVED. THE GIVEN ROWS OF THIS SEAT. 3 by the template 'for every input the law returns true; each argument reads behind the call as it read before'; 0 by the template 'total and deterministic' (their statements: YtfnobjejjjpkoaaTotals.lean).
  GIVEN WITH THE SEED: the statements are not yours to turn. If you find one false, say at which input.
  Laid BY PROGRAM, IN A SANDBOX (cutbox-rows.mjs): the forced cells as the released guide's own fill.sh prints them over the translation 87521f2ed190f913… (all of the seat's roots in one cut). By AI agents, Wed Nov 11 2026. No macro, syntax, notation, axiom, sorry.
-/
import Derived.Test.YtfnobjejjjpkoaaChecked
import GoSem.Claim
import GoSem.ClaimJoined
import GoSem.ClaimMapViews
import Derived.JoinedTies
import Derived.KernelRfl
namespace Go.Proofs.Ytfnobjejjjpkoaa
/- THE CELL 'sum', in the pinned program and in every row, IS THE sha256 OF THE DUMP (.gsa) THAT YtfnobjejjjpkoaaProg.lean LOADS. Nothing in Lean hashes anything: it is a label: what it is worth is what the hold of that sum in a sandbox is worth. -/
noncomputable def Try.pinned : Pinned := { name := "ytfnobjejjjpkoaa", sum := "87521f2ed190f91363a99f7762b707095dd4fb2e499c85c37c4f6a6e98972eae", checked := Try.checked }
namespace Rows
def none {H : Type} : Left H := { results := [], args := [] }

/-- 'laws.FnExactCompletionsOf': WHATEVER THE INPUT: true; the input reads as it did. -/
def fnExactCompletionsOfSpec : ChangeSpec := { name := "fnExactCompletionsOf", fn := fun _ => fun
  | [d1, d2] => { results := [.lit (.bool true)], args := [d1, d2] }
  | _ => none }
def fnExactCompletionsOfRow : OpenClaim := { program := "ytfnobjejjjpkoaa", sum := "87521f2ed190f91363a99f7762b707095dd4fb2e499c85c37c4f6a6e98972eae", func := "loop.example/g00911/laws.FnExactCompletionsOf", spec := "fnExactCompletionsOf", unfollowed := true, recurses := true, apart := false }
def FnExactCompletionsOfSaid : Prop := fnExactCompletionsOfRow.holds Try.pinned (OpenSpec.ofChange fnExactCompletionsOfSpec)

/-- ITS FALSE NEIGHBOUR: 'it returns false'. Refute it at one input. -/
def fnExactCompletionsOfWrong : ChangeSpec := { name := "fnExactCompletionsOf", fn := fun _ => fun
  | [d1, d2] => { results := [.lit (.bool false)], args := [d1, d2] }
  | _ => none }
def FnExactCompletionsOfWrongFalsely : Prop := fnExactCompletionsOfRow.holds Try.pinned (OpenSpec.ofChange fnExactCompletionsOfWrong)

/-- 'laws.FnHooks': WHATEVER THE INPUT: true; the input reads as it did. -/
def fnHooksSpec : ChangeSpec := { name := "fnHooks", fn := fun _ => fun
  | [d] => { results := [.lit (.bool true)], args := [d] }
  | _ => none }
def fnHooksRow : OpenClaim := { program := "ytfnobjejjjpkoaa", sum := "87521f2ed190f91363a99f7762b707095dd4fb2e499c85c37c4f6a6e98972eae", func := "loop.example/g00911/laws.FnHooks", spec := "fnHooks", inPlace := ["internal/abi.NoEscape"], unfollowed := true, recurses := true, apart := false }
def FnHooksSaid : Prop := fnHooksRow.holds Try.pinned (OpenSpec.ofChange fnHooksSpec)

/-- ITS FALSE NEIGHBOUR: 'it returns false'. Refute it at one input. -/
def fnHooksWrong : ChangeSpec := { name := "fnHooks", fn := fun _ => fun
  | [d] => { results := [.lit (.bool false)], args := [d] }
  | _ => none }
def FnHooksWrongFalsely : Prop := fnHooksRow.holds Try.pinned (OpenSpec.ofChange fnHooksWrong)

/-- 'laws.FnPatterns': WHATEVER THE INPUT: true; the input reads as it did. -/
def fnPatternsSpec : ChangeSpec := { name := "fnPatterns", fn := fun _ => fun
  | [d] => { results := [.lit (.bool true)], args := [d] }
  | _ => none }
def fnPatternsRow : OpenClaim := { program := "ytfnobjejjjpkoaa", sum := "87521f2ed190f91363a99f7762b707095dd4fb2e499c85c37c4f6a6e98972eae", func := "loop.example/g00911/laws.FnPatterns", spec := "fnPatterns", inPlace := ["internal/bytealg.IndexByteString", "internal/bytealg.IndexString", "internal/bytealg.CountString"], unfollowed := true, recurses := true, named := ["internal/bytealg.MaxLen"], apart := false }
def FnPatternsSaid : Prop := fnPatternsRow.holds Try.pinned (OpenSpec.ofChange fnPatternsSpec)

/-- ITS FALSE NEIGHBOUR: 'it returns false'. Refute it at one input. -/
def fnPatternsWrong : ChangeSpec := { name := "fnPatterns", fn := fun _ => fun
  | [d] => { results := [.lit (.bool false)], args := [d] }
  | _ => none }
def FnPatternsWrongFalsely : Prop := fnPatternsRow.holds Try.pinned (OpenSpec.ofChange fnPatternsWrong)

/- THE SECOND FORM. 'bulk': how many values and letters a reading holds, each counted each time it is reached (what is shared counts as often as it is met; a slice's spare places count too). A statement '..UptoSaid' is the law's where the arguments, and the package variables that the reading takes, are together of bulk at most 1048576: NARROWER than '..Said'. Prove '..Said' where nothing that the law and all that it calls make is longer than what came in: it says more and counts as full. Else prove '..UptoSaid'. A law counts once. -/
mutual
def uptoBulk {H : Type} : DataW H → Nat
  | .lit (.string bytes) => bytes.length + 1
  | .lit _ => 1
  | .nil => 1
  | .ptr d => uptoBulk d + 1
  | .slice elems spare => uptoBulkAll elems + uptoBulkAll spare + 1
  | .agg parts => uptoBulkAll parts + 1
  | .iface _ d => uptoBulk d + 1
  | .map entries => uptoBulkEntries entries + 1
  | .held _ => 1
def uptoBulkAll {H : Type} : List (DataW H) → Nat
  | [] => 0
  | d :: r => uptoBulk d + uptoBulkAll r
def uptoBulkEntries {H : Type} : List (Lit × DataW H) → Nat
  | [] => 0
  | x :: r => uptoBulkEntry x + uptoBulkEntries r
def uptoBulkEntry {H : Type} : Lit × DataW H → Nat
  | (.string bytes, d) => bytes.length + uptoBulk d + 1
  | (_, d) => uptoBulk d + 1
 end
def uptoSmall : (H : Type) → List (DataW H) → Bool := fun _ ds => decide (uptoBulkAll ds ≤ 1048576)
def OpenSpec.upto (s : _root_.Go.ChangeSpec) : _root_.Go.OpenSpec := { _root_.Go.OpenSpec.ofChange s with cond := some uptoSmall }

/-- 'laws.FnExactCompletionsOf', WHERE WHAT IT READS IS OF BULK AT MOST 1048576: true; the input reads as it did. -/
def fnExactCompletionsOfUptoRow : OpenClaim := { program := "ytfnobjejjjpkoaa", sum := "87521f2ed190f91363a99f7762b707095dd4fb2e499c85c37c4f6a6e98972eae", func := "loop.example/g00911/laws.FnExactCompletionsOf", spec := "fnExactCompletionsOf", unfollowed := true, recurses := true, apart := false, narrowed := true }
def FnExactCompletionsOfUptoSaid : Prop := fnExactCompletionsOfUptoRow.holds Try.pinned (OpenSpec.upto fnExactCompletionsOfSpec)

/-- 'laws.FnHooks', WHERE WHAT IT READS IS OF BULK AT MOST 1048576: true; the input reads as it did. -/
def fnHooksUptoRow : OpenClaim := { program := "ytfnobjejjjpkoaa", sum := "87521f2ed190f91363a99f7762b707095dd4fb2e499c85c37c4f6a6e98972eae", func := "loop.example/g00911/laws.FnHooks", spec := "fnHooks", inPlace := ["internal/abi.NoEscape"], unfollowed := true, recurses := true, apart := false, narrowed := true }
def FnHooksUptoSaid : Prop := fnHooksUptoRow.holds Try.pinned (OpenSpec.upto fnHooksSpec)

/-- 'laws.FnPatterns', WHERE WHAT IT READS IS OF BULK AT MOST 1048576: true; the input reads as it did. -/
def fnPatternsUptoRow : OpenClaim := { program := "ytfnobjejjjpkoaa", sum := "87521f2ed190f91363a99f7762b707095dd4fb2e499c85c37c4f6a6e98972eae", func := "loop.example/g00911/laws.FnPatterns", spec := "fnPatterns", inPlace := ["internal/bytealg.IndexByteString", "internal/bytealg.IndexString", "internal/bytealg.CountString"], unfollowed := true, recurses := true, named := ["internal/bytealg.MaxLen"], apart := false, narrowed := true }
def FnPatternsUptoSaid : Prop := fnPatternsUptoRow.holds Try.pinned (OpenSpec.upto fnPatternsSpec)

end Rows
end Go.Proofs.Ytfnobjejjjpkoaa
