/- Boards: squares, cells, transposed boards, rows. Conditions stand at each. -/
import Derived.Test.YtdecakimhjieeaaDoorCh11b
namespace Go.Proofs.YtdecakimhjieeaaDoor
set_option linter.unusedVariables false
set_option linter.unusedSimpArgs false
open Go Go.RowKit

def inRC (n r c : Int) : Bool := inB r 0 (n - 1) && inB c 0 (n - 1)
theorem inRC_true {n r c : Int} (h : inRC n r c = true) : 0 ≤ r ∧ r < n ∧ 0 ≤ c ∧ c < n := by
  simp only [inRC, inB, Bool.and_eq_true, decide_eq_true_eq] at h; omega
/-- A square's place among the cells. -/
theorem sq_index {n r c : Int} {s : ByteArray} (h1 : 5 ≤ n) (h2 : n ≤ 15) (hs : (s.size : Int) = n * n) (hr : inRC n r c = true) :
    0 ≤ r * n ∧ r * n ≤ 210 ∧ 0 ≤ r * n + c ∧ r * n + c < s.size ∧ (r * n + c).toNat < s.size := by
  obtain ⟨a, b, c1, d⟩ := inRC_true hr
  have e1 : 0 ≤ r * n := Int.mul_nonneg a (by omega)
  have e2 : r * n ≤ 14 * 15 := Int.mul_le_mul (by omega) h2 (by omega) (by omega)
  have e3 : (r + 1) * n ≤ n * n := Int.mul_le_mul_of_nonneg_right (by omega) (by omega)
  rw [Int.add_mul, Int.one_mul] at e3
  omega


/-- The byte of a square; 0 outside. -/
def sqAt (n : Int) (s : ByteArray) (r c : Int) : Int := if inRC n r c then (bAt s (r * n + c).toNat).toNat else 0
theorem sqAt_in {n r c : Int} {s : ByteArray} (hr : inRC n r c = true) (hl : (r * n + c).toNat < s.size) : (s[(r * n + c).toNat].toNat : Int) = sqAt n s r c := by
  rw [sqAt, if_pos hr, bAt_eq s _ hl]

end Go.Proofs.YtdecakimhjieeaaDoor
