/- Lists of strings in memory: marks. Conditions: at most 2^20 elements. -/
import Derived.Test.YtflpiebiacainaaDoorStrs
namespace Go.Proofs.YtflpiebiacainaaDoor
set_option linter.unusedVariables false
set_option linter.unusedSimpArgs false
open Go Go.RowKit
theorem mixed_start (l : List ByteArray) (k : Nat) : ((List.range l.length).map fun q => if q < 0 then Value.string (markTx (k + q)) else .string (l.getD q ⟨#[]⟩)) = strsV l := by
  apply List.ext_getElem
  · simp [strsV]
  · intro j h1 h2
    simp at h1
    simp [strsV, h1]
theorem mixed_end (l : List ByteArray) (k : Nat) : ((List.range l.length).map fun q => if q < l.length then Value.string (markTx (k + q)) else .string (l.getD q ⟨#[]⟩)) = strsV (marksL l.length k) := by
  apply List.ext_getElem
  · simp [strsV, marksL]
  · intro j h1 h2
    simp at h1
    simp [strsV, marksL, h1]
end Go.Proofs.YtflpiebiacainaaDoor
