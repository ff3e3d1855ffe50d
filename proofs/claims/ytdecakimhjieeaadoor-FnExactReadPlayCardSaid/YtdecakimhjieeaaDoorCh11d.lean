/- Boards: transposed boards, a board with another cell, rows. Conditions stand at each. -/
import Derived.Test.YtdecakimhjieeaaDoorCh11c
namespace Go.Proofs.YtdecakimhjieeaaDoor
set_option linter.unusedVariables false
set_option linter.unusedSimpArgs false
open Go Go.RowKit

def turnCol (n : Nat) (s : ByteArray) (c k : Nat) : List UInt8 := (List.range k).map fun r => bAt s (r * n + c)
def turnL (n : Nat) (s : ByteArray) (c : Nat) : List UInt8 := (List.range c).flatMap fun c => turnCol n s c n
theorem turnCol_succ (n : Nat) (s : ByteArray) (c k : Nat) : turnCol n s c (k + 1) = turnCol n s c k ++ [bAt s (k * n + c)] := by simp [turnCol, List.range_succ]
theorem turnL_succ (n : Nat) (s : ByteArray) (c : Nat) : turnL n s (c + 1) = turnL n s c ++ turnCol n s c n := by simp [turnL, List.range_succ]
theorem turnCol_length (n : Nat) (s : ByteArray) (c k : Nat) : (turnCol n s c k).length = k := by simp [turnCol]
theorem turnL_length (n : Nat) (s : ByteArray) (c : Nat) : (turnL n s c).length = c * n := by
  induction c with
  | zero => simp [turnL]
  | succ c ih => rw [turnL_succ, List.length_append, ih, turnCol_length, Nat.add_mul, Nat.one_mul]

def turnS (n : Nat) (s : ByteArray) : ByteArray := ⟨(turnL n s n).toArray⟩

/-- The k-th byte of the transposed ones. -/
theorem turnL_get (n : Nat) (s : ByteArray) (c r : Nat) (hc : c < n) (hr : r < n) : ∀ m, c < m → (turnL n s m).getD (c * n + r) 0 = bAt s (r * n + c)
  | 0, h => by omega
  | m + 1, h => by
    rw [turnL_succ]
    by_cases hm : c < m
    · have hlt : c * n + r < (turnL n s m).length := by
        rw [turnL_length]
        have : (c + 1) * n ≤ m * n := Nat.mul_le_mul_right n (by omega)
        rw [Nat.add_mul, Nat.one_mul] at this
        omega
      rw [List.getD_eq_getElem?_getD, List.getElem?_append_left hlt, ← List.getD_eq_getElem?_getD]
      exact turnL_get n s c r hc hr m hm
    · have : c = m := by omega
      subst this
      rw [List.getD_eq_getElem?_getD, List.getElem?_append_right (by rw [turnL_length]; omega), turnL_length, Nat.add_sub_cancel_left]
      simp [turnCol, hr]

/-- The transposed bytes by their places: s[(k % n) * n + k / n]. -/
theorem turnL_eq (n : Nat) (s : ByteArray) (h : 0 < n) : turnL n s n = (List.range (n * n)).map fun k => bAt s (k % n * n + k / n) := by
  apply List.ext_getElem
  · rw [turnL_length]; simp
  · intro k h1 h2
    rw [turnL_length] at h1
    have hc : k / n < n := Nat.div_lt_of_lt_mul h1
    have hr : k % n < n := Nat.mod_lt _ h
    have := turnL_get n s (k / n) (k % n) hc hr n hc
    rw [show k / n * n + k % n = k by rw [Nat.mul_comm]; exact Nat.div_add_mod k n] at this
    rw [List.getD_eq_getElem?_getD, List.getElem?_eq_getElem (by rw [turnL_length]; exact h1)] at this
    simpa using this

end Go.Proofs.YtdecakimhjieeaaDoor
