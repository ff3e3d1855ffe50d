/- No contract of the library yet. -/
import Derived.Test.YtkjibaleffgcbaaProg
namespace Go.Proofs.Ytkjibaleffgcbaa
end Go.Proofs.Ytkjibaleffgcbaa
