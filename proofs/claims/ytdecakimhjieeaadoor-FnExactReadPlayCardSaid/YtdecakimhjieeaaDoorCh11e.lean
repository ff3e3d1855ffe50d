/- Boards: transposed boards, another cell, a row; the exported functions. Conditions stand at each. -/
import Derived.Test.YtdecakimhjieeaaDoorCh11d
namespace Go.Proofs.YtdecakimhjieeaaDoor
set_option linter.unusedVariables false
set_option linter.unusedSimpArgs false
open Go Go.RowKit

theorem okB_true {n : Int} {p c : ByteArray} (h : okB n p c = true) : 5 ≤ n ∧ n ≤ 15 ∧ (p.size : Int) = n * n ∧ (c.size : Int) = n * n := by
  simp only [okB, Bool.and_eq_true, decide_eq_true_eq] at h
  obtain ⟨h1, h2, h3, _⟩ := h
  obtain ⟨a, b⟩ := inB_true h1
  exact ⟨a, b, h2, h3⟩


/-- The bytes with another one at a place. -/
def setS (s : ByteArray) (k : Nat) (x : Int) : ByteArray := ⟨(s.data.toList.set k (UInt8.ofNat x.toNat)).toArray⟩
theorem bytesV_set (l : List UInt8) (k : Nat) (x : Int) (h0 : 0 ≤ x) (h1 : x < 256) : (bytesV l).set k (.int .u8 x) = bytesV (l.set k (UInt8.ofNat x.toNat)) := by
  have : ((UInt8.ofNat x.toNat).toNat : Int) = x := by
    simp only [UInt8.toNat_ofNat']
    omega
  rw [bytesV, bytesV, List.map_set, this]

end Go.Proofs.YtdecakimhjieeaaDoor
