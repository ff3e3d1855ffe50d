/- Boards: the program's SetCell; LineOf; SameBoard. Conditions stand at each. -/
import Derived.Test.YtcgedkpbobgkhaaDoorCh11g
namespace Go.Proofs.YtcgedkpbobgkhaaDoor
set_option linter.unusedVariables false
set_option linter.unusedSimpArgs false
open Go Go.RowKit

end Go.Proofs.YtcgedkpbobgkhaaDoor
