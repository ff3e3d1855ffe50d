/- Patterns. Conditions stand at each. -/
import Derived.Test.YtaigabenlccdaaaCh01
import Derived.Lib.CountLaws
import Derived.Lib.IndexLaws
namespace Go.Proofs.Ytaigabenlccdaaa
set_option linter.unusedVariables false
set_option linter.unusedSimpArgs false
open Go Go.RowKit

def markB (c : Int) : Bool := decide (c = 46 ∨ c = 64 ∨ c = 35 ∨ c = 42)
def patB (c : Int) : Bool := smallB c || markB c
def patOk (s : ByteArray) : Bool := allB patB s && (decide (1 ≤ s.size ∧ s.size ≤ 12) && decide (Lib.countByte s.data.toList 42 ≤ 3))
theorem mark_index (x : UInt8) : decide (0 ≤ Lib.indexByte [46, 64, 35, 42] x) = markB x.toNat := by
  have : ∀ x : Fin 256, decide (0 ≤ Lib.indexByte [46, 64, 35, 42] (UInt8.ofNat x.val)) = markB (x.val : Int) := by decide +kernel
  have h := this ⟨x.toNat, x.toNat_lt⟩
  simpa using h
theorem extract_one (s : ByteArray) (k : Nat) (h : k < s.size) : s.extract k (k + 1) = ⟨#[s[k]]⟩ := by
  have h' : k < s.data.size := h
  apply ByteArray.ext
  rw [ByteArray.data_extract]
  apply Array.ext
  · simp; omega
  · intro i h1 h2
    simp at h2
    subst h2
    simp
    rfl
theorem count_take (l : List UInt8) (x : UInt8) (k : Nat) (h : k < l.length) : (l.take (k + 1)).count x = (l.take k).count x + (if l[k] = x then 1 else 0) := by
  rw [List.take_succ_eq_append_getElem h, List.count_append]
  simp [List.count_cons, List.count_nil]
theorem count_all (l : List UInt8) (x : UInt8) (k : Nat) (h : l.length ≤ k) : (l.take k).count x = l.count x := by rw [List.take_of_length_le h]
end Go.Proofs.Ytaigabenlccdaaa
