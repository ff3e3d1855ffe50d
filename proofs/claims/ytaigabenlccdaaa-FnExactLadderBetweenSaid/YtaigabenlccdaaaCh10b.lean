/- Patterns: matching. Conditions stand at each. -/
import Derived.Test.YtaigabenlccdaaaCh10a
namespace Go.Proofs.Ytaigabenlccdaaa
set_option linter.unusedVariables false
set_option linter.unusedSimpArgs false
open Go Go.RowKit

def vowB (c : Int) : Bool := decide (c = 97 ∨ c = 101 ∨ c = 105 ∨ c = 111 ∨ c = 117)
def letB (p c : Int) : Bool := if p = 46 then true else if p = 64 then vowB c else if p = 35 then !vowB c else decide (p = c)
theorem vow_index (c : Int) (h0 : 0 ≤ c) (h1 : c < 256) : decide (0 ≤ Lib.indexByte [97, 101, 105, 111, 117] c.toNat.toUInt8) = vowB c := by
  have : ∀ x : Fin 256, decide (0 ≤ Lib.indexByte [97, 101, 105, 111, 117] (x.val : Int).toNat.toUInt8) = vowB (x.val : Int) := by decide +kernel
  have h := this ⟨c.toNat, by omega⟩
  have e : ((c.toNat : Nat) : Int) = c := Int.toNat_of_nonneg h0
  simp only [e] at h
  exact h

def matchL : List UInt8 → List UInt8 → Bool
  | [], w => w.isEmpty
  | p :: ps, [] => decide ((p.toNat : Int) = 42) && matchL ps []
  | p :: ps, c :: cs => if (p.toNat : Int) = 42 then matchL ps (c :: cs) || matchL (p :: ps) cs else letB p.toNat c.toNat && matchL ps cs
termination_by p w => p.length + w.length
theorem tail_of (s : ByteArray) (a : UInt8) (l : List UInt8) (h : s.data.toList = a :: l) : (s.extract 1 s.size).data.toList = l ∧ (∃ h0 : 0 < s.size, s[0] = a) ∧ s.size = l.length + 1 := by
  have h1 := Lib.extract_to_end s 1
  rw [h] at h1
  have hs : s.size = l.length + 1 := by
    have : s.data.toList.length = l.length + 1 := by rw [h]; rfl
    simpa using this
  refine ⟨h1, ⟨by omega, ?_⟩, hs⟩
  have h0 : 0 < s.data.size := by show 0 < s.size; omega
  show s.data[0] = a
  have : s.data.toList[0]? = some a := by rw [h]; rfl
  rw [Array.getElem?_toList, Array.getElem?_eq_getElem h0] at this
  exact Option.some.inj this

def mpOk (p s : ByteArray) : Bool := patOk p && (wordOk s && matchL p.data.toList s.data.toList)
end Go.Proofs.Ytaigabenlccdaaa
