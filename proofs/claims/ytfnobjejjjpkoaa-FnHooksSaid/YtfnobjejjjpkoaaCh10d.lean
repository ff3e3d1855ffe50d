/- Words that are near one another. Conditions: at most 2^20 bytes. -/
import Derived.Test.YtfnobjejjjpkoaaCh10c
namespace Go.Proofs.Ytfnobjejjjpkoaa
set_option linter.unusedVariables false
set_option linter.unusedSimpArgs false
open Go Go.RowKit
def diffN (a b : ByteArray) : Nat → Nat
  | 0 => 0
  | k + 1 => diffN a b k + (if bAt a k = bAt b k then 0 else 1)
def nearB (a b : ByteArray) : Bool := decide (a.size = b.size) && decide (diffN a b a.size = 1)
theorem diffN_comm (a b : ByteArray) (k : Nat) : diffN a b k = diffN b a k := by
  induction k with
  | zero => rfl
  | succ k ih => rw [diffN, diffN, ih]; simp only [eq_comm]
theorem nearB_comm (a b : ByteArray) : nearB a b = nearB b a := by
  unfold nearB
  by_cases h : a.size = b.size
  · rw [h, diffN_comm]
  · rw [decide_eq_false h, decide_eq_false (p := b.size = a.size) (fun e => h e.symm)]; rfl
theorem diffN_le (a b : ByteArray) (k : Nat) : diffN a b k ≤ k := by
  induction k with
  | zero => exact Nat.le_refl _
  | succ k ih => rw [diffN]; split <;> omega
theorem byte_ne {a b : ByteArray} {k : Nat} (h1 : k < a.size) (h2 : k < b.size) : (a[k].toNat : Int) = (b[k].toNat : Int) ↔ bAt a k = bAt b k := by
  rw [bAt_eq a k h1, bAt_eq b k h2, ← UInt8.toNat_inj]
  omega
end Go.Proofs.Ytfnobjejjjpkoaa
