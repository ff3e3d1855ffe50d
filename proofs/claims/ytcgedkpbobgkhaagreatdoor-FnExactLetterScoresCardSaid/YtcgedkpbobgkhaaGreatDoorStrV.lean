/- Lists of strings as cells. -/
import Derived.Test.YtcgedkpbobgkhaaGreatDoorBytes
namespace Go.Proofs.YtcgedkpbobgkhaaGreatDoor
set_option linter.unusedVariables false
set_option linter.unusedSimpArgs false
open Go Go.RowKit
def strsV (l : List ByteArray) : List Value := l.map Value.string
theorem strsV_length (l : List ByteArray) : (strsV l).length = l.length := by simp [strsV]
theorem strsV_append (l r : List ByteArray) : strsV (l ++ r) = strsV l ++ strsV r := by simp [strsV]
end Go.Proofs.YtcgedkpbobgkhaaGreatDoor
