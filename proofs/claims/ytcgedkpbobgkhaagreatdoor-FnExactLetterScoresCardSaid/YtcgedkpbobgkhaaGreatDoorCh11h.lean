/- Boards: the program's SetCell; LineOf; SameBoard. Conditions stand at each. -/
import Derived.Test.YtcgedkpbobgkhaaGreatDoorCh11g
namespace Go.Proofs.YtcgedkpbobgkhaaGreatDoor
set_option linter.unusedVariables false
set_option linter.unusedSimpArgs false
open Go Go.RowKit

end Go.Proofs.YtcgedkpbobgkhaaGreatDoor
