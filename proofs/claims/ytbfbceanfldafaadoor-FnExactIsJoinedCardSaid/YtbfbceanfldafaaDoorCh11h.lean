/- Boards: the program's SetCell; LineOf; SameBoard. Conditions stand at each. -/
import Derived.Test.YtbfbceanfldafaaDoorCh11g
namespace Go.Proofs.YtbfbceanfldafaaDoor
set_option linter.unusedVariables false
set_option linter.unusedSimpArgs false
open Go Go.RowKit

end Go.Proofs.YtbfbceanfldafaaDoor
