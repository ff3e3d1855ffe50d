/- The text of a board, by both. Conditions stand at each. -/
import Derived.Test.YtdecakimhjieeaaDoorDec
import Derived.Test.YtdecakimhjieeaaDoorCh11f
namespace Go.Proofs.YtdecakimhjieeaaDoor
set_option linter.unusedVariables false
set_option linter.unusedSimpArgs false
open Go Go.RowKit
def nl (s : ByteArray) : List UInt8 := s.data.toList ++ [10]
theorem join_nl : ∀ (x : ByteArray) (l : List ByteArray), Lib.join ((x :: l).map (·.data.toList)) [10] ++ [10] = (x :: l).flatMap nl
  | x, [] => by simp [Lib.join, List.intercalate, nl]
  | x, y :: l => by
    have ih := join_nl y l
    rw [List.flatMap_cons, ← ih]
    simp [Lib.join, List.intercalate, nl, List.intersperse]
def headS (m : Nat) : ByteArray := ⟨#[98, 111, 97, 114, 100, 32]⟩ ++ decS m
def linesL (m : Nat) (p c : ByteArray) : List ByteArray := headS m :: (rowsL m p m ++ rowsL m c m)
def textB (m : Nat) (p c : ByteArray) : ByteArray := ⟨((linesL m p c).flatMap nl).toArray⟩
def textV (n : Int) (p c : ByteArray) : ByteArray := if okB n p c then textB n.toNat p c else ⟨#[]⟩
theorem ba_ext2 {x y : ByteArray} (h : x.data.toList = y.data.toList) : x = y := ByteArray.ext (Array.toList_inj.1 h)
theorem nl_add (l : List UInt8) (s : ByteArray) : (⟨l.toArray⟩ : ByteArray) ++ (s ++ ⟨#[10]⟩) = ⟨(l ++ nl s).toArray⟩ := by
  apply ba_ext2
  simp [nl, ByteArray.data_append]
theorem rowAt_size (n : Nat) (s : ByteArray) (k : Nat) : (rowAt n s k).size ≤ n := by
  unfold rowAt
  rw [ByteArray.size_extract]
  omega
theorem flat_len (l : List ByteArray) (b : Nat) (h : ∀ s ∈ l, s.size ≤ b) : (l.flatMap nl).length ≤ l.length * (b + 1) := by
  induction l with
  | nil => simp
  | cons x l ih =>
    have h1 := ih (fun s hs => h s (List.mem_cons_of_mem _ hs))
    have h2 := h x (List.mem_cons_self ..)
    rw [List.flatMap_cons, List.length_append, List.length_cons, Nat.add_mul]
    have : (nl x).length = x.size + 1 := by simp [nl]
    omega
theorem head_size (m : Nat) (h : m < 100) : (headS m).size ≤ 8 := by
  unfold headS
  rw [ByteArray.size_append]
  have := decS_size m h
  show 6 + _ ≤ 8
  omega
theorem lines_size (m : Nat) (p c : ByteArray) (h1 : 5 ≤ m) (h2 : m ≤ 15) : ∀ s ∈ linesL m p c, s.size ≤ 15 := by
  intro s hs
  unfold linesL at hs
  rcases List.mem_cons.1 hs with rfl | hs
  · have := head_size m (by omega); omega
  · rcases List.mem_append.1 hs with hs | hs
    · obtain ⟨k, _, rfl⟩ := List.mem_map.1 hs
      exact Nat.le_trans (rowAt_size m p k) h2
    · obtain ⟨k, _, rfl⟩ := List.mem_map.1 hs
      exact Nat.le_trans (rowAt_size m c k) h2
theorem lines_len (m : Nat) (p c : ByteArray) : (linesL m p c).length = 2 * m + 1 := by
  unfold linesL
  rw [List.length_cons, List.length_append, rowsL_length, rowsL_length]
  omega
end Go.Proofs.YtdecakimhjieeaaDoor
