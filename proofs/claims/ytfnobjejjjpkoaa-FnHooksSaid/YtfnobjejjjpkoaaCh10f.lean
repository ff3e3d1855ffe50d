/- Words of a lexicon near a word, by the reference. Conditions: at most 2^20 words, each of at most 2^20 bytes. -/
import Derived.Test.YtfnobjejjjpkoaaCh10e
namespace Go.Proofs.Ytfnobjejjjpkoaa
set_option linter.unusedVariables false
set_option linter.unusedSimpArgs false
open Go Go.RowKit
end Go.Proofs.Ytfnobjejjjpkoaa
