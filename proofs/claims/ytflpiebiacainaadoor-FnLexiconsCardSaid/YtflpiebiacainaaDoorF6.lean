/- What the laws' own small functions compute: is it too long, are two lists the same, is it in a list. Conditions: at most 2^20 words. -/
import Derived.Test.YtflpiebiacainaaDoorCh05a
import Derived.Test.YtflpiebiacainaaDoorBytes
namespace Go.Proofs.YtflpiebiacainaaDoor
set_option linter.unusedVariables false
set_option linter.unusedSimpArgs false
open Go Go.RowKit
/-- Whether a word is in a list. -/
def inL (l : List ByteArray) (s : ByteArray) : Bool := l.any fun x => x.toList == s.toList
theorem inL_iff {l : List ByteArray} {s : ByteArray} : inL l s = true ↔ s ∈ l := by
  unfold inL
  rw [List.any_eq_true]
  constructor
  · rintro ⟨x, hx, h⟩
    have : x = s := by
      rw [beq_iff_eq, ByteArray.toList_eq, ByteArray.toList_eq] at h
      exact ByteArray.ext (Array.toList_inj.1 h)
    rw [← this]
    exact hx
  · exact fun h => ⟨s, h, by simp⟩
theorem inL_yes {l : List ByteArray} {s : ByteArray} (k : Nat) (h : k < l.length) (he : ((wAt l k).toList == s.toList) = true) : inL l s = true := by
  unfold inL
  rw [List.any_eq_true]
  exact ⟨_, wAt_mem l k h, he⟩
theorem inL_no {l : List ByteArray} {s : ByteArray} (h : ∀ k, k < l.length → ((wAt l k).toList == s.toList) = false) : inL l s = false := by
  unfold inL
  rw [List.any_eq_false]
  intro x hx
  obtain ⟨i, hi, rfl⟩ := List.getElem_of_mem hx
  rw [wAt_eq l i hi, h i hi]
  decide
end Go.Proofs.YtflpiebiacainaaDoor
