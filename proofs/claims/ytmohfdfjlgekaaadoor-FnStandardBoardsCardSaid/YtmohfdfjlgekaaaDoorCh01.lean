/- Words. Conditions stand at each. -/
import Derived.Test.YtmohfdfjlgekaaaDoorCh11a
namespace Go.Proofs.YtmohfdfjlgekaaaDoor
set_option linter.unusedVariables false
set_option linter.unusedSimpArgs false
open Go Go.RowKit

def wordOk (s : ByteArray) : Bool := decide (1 ≤ s.size ∧ s.size ≤ 12) && allB smallB s
def longOk (s : ByteArray) : Bool := decide (2 ≤ s.size) && wordOk s
theorem bytesV_at (s : ByteArray) (k : Nat) (h : k < s.size) : (bytesV s.data.toList)[k]? = some (.int .u8 s[k].toNat) := by
  have h' : k < s.data.size := h
  rw [bytesV_get, Array.getElem?_toList, Array.getElem?_eq_getElem h']
  rfl
end Go.Proofs.YtmohfdfjlgekaaaDoor
