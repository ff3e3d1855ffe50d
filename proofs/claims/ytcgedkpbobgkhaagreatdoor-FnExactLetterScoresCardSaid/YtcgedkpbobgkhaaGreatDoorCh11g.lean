/- Boards: SetCell, TransposeBoard, LineOf, SameBoard, as the program and the reference compute them. Conditions stand at each. -/
import Derived.Test.YtcgedkpbobgkhaaGreatDoorCh11f
namespace Go.Proofs.YtcgedkpbobgkhaaGreatDoor
set_option linter.unusedVariables false
set_option linter.unusedSimpArgs false
open Go Go.RowKit

theorem toNat_sq (n : Int) (s : ByteArray) (h1 : 5 ≤ n) (h : (s.size : Int) = n * n) : s.size = n.toNat * n.toNat := by
  obtain ⟨m, rfl⟩ := nat_of h1
  simp only [Int.toNat_natCast]
  rw [← Int.natCast_mul] at h
  omega

end Go.Proofs.YtcgedkpbobgkhaaGreatDoor
