/- What a row over a card asks of the kit. No condition. -/
import Derived.Test.YtdecakimhjieeaaDoorRow
import Derived.Test.YtdecakimhjieeaaDoorTie
import Derived.Test.YtdecakimhjieeaaDoorCards
import Derived.PinnedBridge
import Derived.Lay
import Derived.LaidMore
import Derived.SevenTiedAt
import Derived.Lib.LaidU8
namespace Go.Proofs.YtdecakimhjieeaaDoor
end Go.Proofs.YtdecakimhjieeaaDoor
