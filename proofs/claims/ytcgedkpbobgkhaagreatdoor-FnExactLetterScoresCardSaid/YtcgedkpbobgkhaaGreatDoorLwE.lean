/- Sizes. No condition. -/
import Derived.Test.YtcgedkpbobgkhaaGreatDoorLwB
import Derived.Test.YtcgedkpbobgkhaaGreatDoorRow
namespace Go.Proofs.YtcgedkpbobgkhaaGreatDoor
open Go Go.RowKit
theorem szB_neg {L : Int} {p c : ByteArray} (h : ¬ szB L p c < 0) (hL : L ≤ 1048576) : p.size ≤ 1048576 ∧ c.size ≤ 1048576 ∧ 0 ≤ szB L p c ∧ szB L p c ≤ 1048576 := by
  unfold szB at *
  split at h
  · omega
  · split at h
    · omega
    · rw [if_neg ‹_›, if_neg ‹_›]; omega
theorem szP_neg {L : Int} {s : ByteArray} (h : ¬ szP L s < 0) (hL : L ≤ 1048576) : s.size ≤ 1048576 ∧ 0 ≤ szP L s ∧ szP L s ≤ 1048576 := by
  unfold szP at *
  split at h
  · omega
  · rw [if_neg ‹_›]; omega
end Go.Proofs.YtcgedkpbobgkhaaGreatDoor
