/- Lists of strings in memory: marks. Conditions: at most 2^20 elements. -/
import Derived.Test.YtebbnoankfkmkaaStrs
namespace Go.Proofs.Ytebbnoankfkmkaa
set_option linter.unusedVariables false
set_option linter.unusedSimpArgs false
open Go Go.RowKit
theorem set_map_range2 (N k : Nat) (f z : Nat → Value) (hk : k < N) : ((List.range N).map fun j => if j < k then f j else z j).set k (f k) = (List.range N).map fun j => if j < k + 1 then f j else z j := by
  apply List.ext_getElem
  · simp
  · intro j h1 h2
    rw [List.getElem_set]
    simp only [List.getElem_map, List.getElem_range]
    by_cases h : k = j
    · subst h; simp
    · rw [if_neg h]
      by_cases h' : j < k
      · rw [if_pos h', if_pos (by omega)]
      · rw [if_neg h', if_neg (by omega)]
theorem mixed_start (l : List ByteArray) (k : Nat) : ((List.range l.length).map fun q => if q < 0 then Value.string (markTx (k + q)) else .string (l.getD q ⟨#[]⟩)) = strsV l := by
  apply List.ext_getElem
  · simp [strsV]
  · intro j h1 h2
    simp at h1
    simp [strsV, h1]
theorem mixed_end (l : List ByteArray) (k : Nat) : ((List.range l.length).map fun q => if q < l.length then Value.string (markTx (k + q)) else .string (l.getD q ⟨#[]⟩)) = strsV (marksL l.length k) := by
  apply List.ext_getElem
  · simp [strsV, marksL]
  · intro j h1 h2
    simp at h1
    simp [strsV, marksL, h1]
end Go.Proofs.Ytebbnoankfkmkaa
