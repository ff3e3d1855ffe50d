/- Lexicons in memory: what the laws' own functions on them compute. -/
import Derived.Test.YtflpiebiacainaaDoorStrs2
namespace Go.Proofs.YtflpiebiacainaaDoor
set_option linter.unusedVariables false
set_option linter.unusedSimpArgs false
open Go Go.RowKit
abbrev lexV (a : Option Addr) (n c : Nat) : Value := .agg #[.slice a n c]
def szX (L : Int) (l : List ByteArray) : Int := if szL L l < 0 then -1 else szL L l
theorem szX_ok {L : Int} {l : List ByteArray} (h0 : 0 ≤ L) (h : ¬ szX L l < 0) : (l.length : Int) + sumL l ≤ L ∧ szX L l = L - l.length - sumL l := by
  unfold szX at *
  split at h
  · omega
  · rename_i hn
    rw [if_neg hn]
    exact szL_ok h0 hn
theorem Wr.other {w : World} {g b o : Nat} {xs : List Value} {u : Value} (h : Wr w g xs) (hb : b ≠ g) : Wr (w.setCell ⟨b, o, none⟩ u) g xs :=
  ⟨by simpa [World.setCell] using h.1, fun j v hj => by rw [World.cell?_setCell_other _ _ _ _ (by intro e; exact hb (congrArg Addr.block e))]; exact h.2.1 j v hj, fun j hj => by simpa using h.2.2 j hj⟩
/-- A lexicon comes back, whose row is the call's own. -/
def RetX (l : List ByteArray) (w : World) (e : Ending) (w' : World) : Prop := ∃ a c, e = .returned (lexV a l.length c) ∧ OwnR w' w.heap.size a (strsV l) ∧ Ext w w'
end Go.Proofs.YtflpiebiacainaaDoor
