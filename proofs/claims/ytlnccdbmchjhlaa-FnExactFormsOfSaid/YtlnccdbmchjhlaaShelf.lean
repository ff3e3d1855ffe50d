/- No contract of the shelf is wanted here. No condition. -/
import Derived.Test.YtlnccdbmchjhlaaRows
namespace Go.Proofs.Ytlnccdbmchjhlaa
end Go.Proofs.Ytlnccdbmchjhlaa
