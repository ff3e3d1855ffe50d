/- Several texts in one: Ch10a, Ch10b, Ch10c. Conditions: see each. -/
import Derived.Test.YtaigabenlccdaaaCh01
import Derived.Lib.CountLaws
import Derived.Lib.IndexLaws
import Derived.Test.YtaigabenlccdaaaSel
section
namespace Go.Proofs.Ytaigabenlccdaaa
set_option linter.unusedVariables false
set_option linter.unusedSimpArgs false
open Go Go.RowKit

def markB (c : Int) : Bool := decide (c = 46 ∨ c = 64 ∨ c = 35 ∨ c = 42)
def patB (c : Int) : Bool := smallB c || markB c
def patOk (s : ByteArray) : Bool := allB patB s && (decide (1 ≤ s.size ∧ s.size ≤ 12) && decide (Lib.countByte s.data.toList 42 ≤ 3))
theorem mark_index (x : UInt8) : decide (0 ≤ Lib.indexByte [46, 64, 35, 42] x) = markB x.toNat := by
  have : ∀ x : Fin 256, decide (0 ≤ Lib.indexByte [46, 64, 35, 42] (UInt8.ofNat x.val)) = markB (x.val : Int) := by decide +kernel
  have h := this ⟨x.toNat, x.toNat_lt⟩
  simpa using h
theorem extract_one (s : ByteArray) (k : Nat) (h : k < s.size) : s.extract k (k + 1) = ⟨#[s[k]]⟩ := by
  have h' : k < s.data.size := h
  apply ByteArray.ext
  rw [ByteArray.data_extract]
  apply Array.ext
  · simp; omega
  · intro i h1 h2
    simp at h2
    subst h2
    simp
    rfl
theorem count_take (l : List UInt8) (x : UInt8) (k : Nat) (h : k < l.length) : (l.take (k + 1)).count x = (l.take k).count x + (if l[k] = x then 1 else 0) := by
  rw [List.take_succ_eq_append_getElem h, List.count_append]
  simp [List.count_cons, List.count_nil]
theorem count_all (l : List UInt8) (x : UInt8) (k : Nat) (h : l.length ≤ k) : (l.take k).count x = l.count x := by rw [List.take_of_length_le h]
end Go.Proofs.Ytaigabenlccdaaa
end
section
namespace Go.Proofs.Ytaigabenlccdaaa
set_option linter.unusedVariables false
set_option linter.unusedSimpArgs false
open Go Go.RowKit

def vowB (c : Int) : Bool := decide (c = 97 ∨ c = 101 ∨ c = 105 ∨ c = 111 ∨ c = 117)
def letB (p c : Int) : Bool := if p = 46 then true else if p = 64 then vowB c else if p = 35 then !vowB c else decide (p = c)
theorem vow_index (c : Int) (h0 : 0 ≤ c) (h1 : c < 256) : decide (0 ≤ Lib.indexByte [97, 101, 105, 111, 117] c.toNat.toUInt8) = vowB c := by
  have : ∀ x : Fin 256, decide (0 ≤ Lib.indexByte [97, 101, 105, 111, 117] (x.val : Int).toNat.toUInt8) = vowB (x.val : Int) := by decide +kernel
  have h := this ⟨c.toNat, by omega⟩
  have e : ((c.toNat : Nat) : Int) = c := Int.toNat_of_nonneg h0
  simp only [e] at h
  exact h

def matchL : List UInt8 → List UInt8 → Bool
  | [], w => w.isEmpty
  | p :: ps, [] => decide ((p.toNat : Int) = 42) && matchL ps []
  | p :: ps, c :: cs => if (p.toNat : Int) = 42 then matchL ps (c :: cs) || matchL (p :: ps) cs else letB p.toNat c.toNat && matchL ps cs
termination_by p w => p.length + w.length
theorem tail_of (s : ByteArray) (a : UInt8) (l : List UInt8) (h : s.data.toList = a :: l) : (s.extract 1 s.size).data.toList = l ∧ (∃ h0 : 0 < s.size, s[0] = a) ∧ s.size = l.length + 1 := by
  have h1 := Lib.extract_to_end s 1
  rw [h] at h1
  have hs : s.size = l.length + 1 := by
    have : s.data.toList.length = l.length + 1 := by rw [h]; rfl
    simpa using this
  refine ⟨h1, ⟨by omega, ?_⟩, hs⟩
  have h0 : 0 < s.data.size := by show 0 < s.size; omega
  show s.data[0] = a
  have : s.data.toList[0]? = some a := by rw [h]; rfl
  rw [Array.getElem?_toList, Array.getElem?_eq_getElem h0] at this
  exact Option.some.inj this

def mpOk (p s : ByteArray) : Bool := patOk p && (wordOk s && matchL p.data.toList s.data.toList)
end Go.Proofs.Ytaigabenlccdaaa
end
section
namespace Go.Proofs.Ytaigabenlccdaaa
set_option linter.unusedVariables false
set_option linter.unusedSimpArgs false
open Go Go.RowKit
/-- A list of the call's own and a code come back. -/
def RetW (l : List ByteArray) (k : Int) (w : World) (e : Ending) (w' : World) : Prop := ∃ a c, e = .returned (.tuple #[.slice a l.length c, .int .i64 k]) ∧ OwnR w' w.heap.size a (strsV l) ∧ Ext w w'
def wmL (l : List ByteArray) (p : ByteArray) : List ByteArray := if lexOk l then if patOk p then l.filter (fun s => matchL p.data.toList s.data.toList) else [] else []
def wmC (l : List ByteArray) (p : ByteArray) : Int := if lexOk l then if patOk p then 0 else 7 else 1
theorem wmL_le (l : List ByteArray) (p : ByteArray) (h : l.length ≤ 1048576) : (wmL l p).length ≤ 1048576 := by
  unfold wmL
  split
  · split
    · exact Nat.le_trans (List.length_filter_le _ _) h
    · simp
  · simp
end Go.Proofs.Ytaigabenlccdaaa
end
