/- Boards: rows; what the exported functions on boards return. Conditions stand at each. -/
import Derived.Test.YtcgedkpbobgkhaaGreatDoorCh11e
import Derived.Test.YtcgedkpbobgkhaaGreatDoorStrV
namespace Go.Proofs.YtcgedkpbobgkhaaGreatDoor
set_option linter.unusedVariables false
set_option linter.unusedSimpArgs false
open Go Go.RowKit


/-- A slice of the call's own comes back, which reads as these strings. -/
def RetStrs (l : List ByteArray) (w : World) (e : Ending) (w' : World) : Prop := ∃ a c, e = .returned (.slice a l.length c) ∧ Own w' w.heap.size 9 1 a l.length c (strsV l) ∧ Ext w w'

def rowAt (n : Nat) (s : ByteArray) (k : Nat) : ByteArray := s.extract (k * n) (k * n + n)
def rowsL (n : Nat) (s : ByteArray) (k : Nat) : List ByteArray := (List.range k).map (rowAt n s)
theorem rowsL_succ (n : Nat) (s : ByteArray) (k : Nat) : rowsL n s (k + 1) = rowsL n s k ++ [rowAt n s k] := by simp [rowsL, List.range_succ]
theorem rowsL_length (n : Nat) (s : ByteArray) (k : Nat) : (rowsL n s k).length = k := by simp [rowsL]


def noS : ByteArray := ⟨#[]⟩
def cellAtR (n : Int) (p c : ByteArray) (i j : Int) : Int := if okB n p c then sqAt n c i j else 0
def premAtR (n : Int) (p c : ByteArray) (i j : Int) : Int := if okB n p c then sqAt n p i j else 0
def setCellV (n : Int) (p c : ByteArray) (i j x : Int) : Value :=
  if okB n p c then if inRC n i j then if cellB x then .tuple #[boardV n p (setS c (i * n + j).toNat x), .int .i64 0] else .tuple #[boardV 0 noS noS, .int .i64 7] else .tuple #[boardV 0 noS noS, .int .i64 2] else .tuple #[boardV 0 noS noS, .int .i64 1]
def transV (n : Int) (p c : ByteArray) : Value := if okB n p c then .tuple #[boardV n (turnS n.toNat p) (turnS n.toNat c), .int .i64 0] else .tuple #[boardV 0 noS noS, .int .i64 1]

theorem nat_of {n : Int} (h : 5 ≤ n) : ∃ m : Nat, n = m := ⟨n.toNat, by omega⟩

end Go.Proofs.YtcgedkpbobgkhaaGreatDoor
