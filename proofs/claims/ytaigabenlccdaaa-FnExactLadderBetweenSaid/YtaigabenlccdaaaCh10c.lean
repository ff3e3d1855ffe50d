/- Words of a lexicon that match, or are near a word. Conditions: at most 2^20 words, each of at most 2^20 bytes. -/
import Derived.Test.YtaigabenlccdaaaSel
import Derived.Test.YtaigabenlccdaaaCh10b
namespace Go.Proofs.Ytaigabenlccdaaa
set_option linter.unusedVariables false
set_option linter.unusedSimpArgs false
open Go Go.RowKit
/-- A list of the call's own and a code come back. -/
def RetW (l : List ByteArray) (k : Int) (w : World) (e : Ending) (w' : World) : Prop := ∃ a c, e = .returned (.tuple #[.slice a l.length c, .int .i64 k]) ∧ OwnR w' w.heap.size a (strsV l) ∧ Ext w w'
def wmL (l : List ByteArray) (p : ByteArray) : List ByteArray := if lexOk l then if patOk p then l.filter (fun s => matchL p.data.toList s.data.toList) else [] else []
def wmC (l : List ByteArray) (p : ByteArray) : Int := if lexOk l then if patOk p then 0 else 7 else 1
theorem wmL_le (l : List ByteArray) (p : ByteArray) (h : l.length ≤ 1048576) : (wmL l p).length ≤ 1048576 := by
  unfold wmL
  split
  · split
    · exact Nat.le_trans (List.length_filter_le _ _) h
    · simp
  · simp
end Go.Proofs.Ytaigabenlccdaaa
