/- Contracts of the library, laid at this program's numbers. No condition. -/
import Derived.Shelf.Spec.SlicesInsert
import Derived.Shelf.Spec.SlicesInsertGrow
import Derived.Test.YtaigabenlccdaaaProg
namespace Go.Proofs
open Go.Shelf
end Go.Proofs
