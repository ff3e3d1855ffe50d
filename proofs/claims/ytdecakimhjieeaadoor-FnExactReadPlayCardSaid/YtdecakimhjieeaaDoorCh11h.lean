/- Boards: the program's SetCell; LineOf; SameBoard. Conditions stand at each. -/
import Derived.Test.YtdecakimhjieeaaDoorCh11g
namespace Go.Proofs.YtdecakimhjieeaaDoor
set_option linter.unusedVariables false
set_option linter.unusedSimpArgs false
open Go Go.RowKit

end Go.Proofs.YtdecakimhjieeaaDoor
