/- What the laws' own small functions compute: is it too long, are two lists the same, is it in a list. Conditions: at most 2^20 words. -/
import Derived.Test.YtmohfdfjlgekaaaDoorCh05a
import Derived.Test.YtmohfdfjlgekaaaDoorBytes
namespace Go.Proofs.YtmohfdfjlgekaaaDoor
set_option linter.unusedVariables false
set_option linter.unusedSimpArgs false
open Go Go.RowKit
theorem f6big_any (a : Option Addr) (c : Nat) (l : List UInt8) (w : World) (hl : l.length ≤ maxLen) : Calls Tryd.prog 12 #[.slice a l.length c] w (Same (.bool (decide (4096 < l.length))) w) := by
  obtain ⟨m, hm⟩ : ∃ m, l.length = m := ⟨_, rfl⟩
  rw [hm] at hl ⊢
  unfold maxLen at hl
  clear hm
  by_cases h : 4096 < m
  · have h2 : (4096 : Int) < (m : Int) := by omega
    go_enter Tryd.func12, Tryd.ntmps12
    go_wp2_with fail
    go_returns
    exact ⟨ret_bool (by simp [h]), rfl⟩
  · have h2 : ¬ (4096 : Int) < (m : Int) := by omega
    go_enter Tryd.func12, Tryd.ntmps12
    go_wp2_with fail
    go_returns
    exact ⟨ret_bool (by simp [h]), rfl⟩
/-- Whether a word is in a list. -/
def inL (l : List ByteArray) (s : ByteArray) : Bool := l.any fun x => x.toList == s.toList
theorem inL_iff {l : List ByteArray} {s : ByteArray} : inL l s = true ↔ s ∈ l := by
  unfold inL
  rw [List.any_eq_true]
  constructor
  · rintro ⟨x, hx, h⟩
    have : x = s := by
      rw [beq_iff_eq, ByteArray.toList_eq, ByteArray.toList_eq] at h
      exact ByteArray.ext (Array.toList_inj.1 h)
    rw [← this]
    exact hx
  · exact fun h => ⟨s, h, by simp⟩
theorem inL_yes {l : List ByteArray} {s : ByteArray} (k : Nat) (h : k < l.length) (he : ((wAt l k).toList == s.toList) = true) : inL l s = true := by
  unfold inL
  rw [List.any_eq_true]
  exact ⟨_, wAt_mem l k h, he⟩
theorem inL_no {l : List ByteArray} {s : ByteArray} (h : ∀ k, k < l.length → ((wAt l k).toList == s.toList) = false) : inL l s = false := by
  unfold inL
  rw [List.any_eq_false]
  intro x hx
  obtain ⟨i, hi, rfl⟩ := List.getElem_of_mem hx
  rw [wAt_eq l i hi, h i hi]
  decide
end Go.Proofs.YtmohfdfjlgekaaaDoor
