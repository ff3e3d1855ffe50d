/- Tile sets in memory: what the laws' own functions on them compute. Conditions: at most 2^20 elements. -/
import Derived.Test.YtlnccdbmchjhlaaInts
namespace Go.Proofs.Ytlnccdbmchjhlaa
set_option linter.unusedVariables false
set_option linter.unusedSimpArgs false
open Go Go.RowKit
/-- A tile set: its letters, and where its two lists lie. -/
abbrev tileV (s : ByteArray) (a b : Option Addr) (m n c d : Nat) (k : Int) : Value := .agg #[.string s, .slice a m c, .slice b n d, .int .i64 k]
def szT (L : Int) (s : ByteArray) (vs cs : List Int) : Int :=
  if L < s.size then -1 else if L - s.size < vs.length then -1 else if L - s.size - vs.length < cs.length then -1 else L - s.size - vs.length - cs.length
theorem szT_ok {L : Int} {s : ByteArray} {vs cs : List Int} (h : ¬ szT L s vs cs < 0) : (s.size : Int) + vs.length + cs.length ≤ L ∧ szT L s vs cs = L - s.size - vs.length - cs.length := by
  unfold szT at *
  split at h
  · omega
  · split at h
    · omega
    · split at h
      · omega
      · rename_i h1 h2 h3
        rw [if_neg h1, if_neg h2, if_neg h3]
        omega
/-- A tile set comes back, whose lists are the call's own. -/
def RetT (s : ByteArray) (vs cs : List Int) (k : Int) (w : World) (e : Ending) (w' : World) : Prop :=
  ∃ a b c d, e = .returned (tileV s a b vs.length cs.length c d k) ∧ OwnR w' w.heap.size a (intsV vs) ∧ OwnR w' w.heap.size b (intsV cs) ∧ Ext w w'
theorem OwnR.off {w : World} {B : Nat} {a : Option Addr} {xs : List Value} (h : OwnR w B a xs) {b o : Nat} (hb : b < B) (u : Value) : OwnR (w.setCell ⟨b, o, none⟩ u) B a xs := by
  rcases h with rfl | ⟨g, rfl, hg, h⟩
  · exact .inl rfl
  · have hne : b ≠ g := by omega
    exact .inr ⟨g, rfl, hg, ⟨by simpa [World.setCell] using h.1, fun j v hj => by rw [World.cell?_setCell_other _ _ _ _ (by intro e; exact hne (congrArg Addr.block e))]; exact h.2.1 j v hj, fun j hj => by simpa using h.2.2 j hj⟩⟩
end Go.Proofs.Ytlnccdbmchjhlaa
