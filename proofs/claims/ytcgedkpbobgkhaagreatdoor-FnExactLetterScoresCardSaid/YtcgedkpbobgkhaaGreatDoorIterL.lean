/- A walk over the bytes of a text by range: its iterator in memory. Plain. -/
import Derived.Test.YtcgedkpbobgkhaaGreatDoorCh12f
import Derived.Lib.OthersKept
namespace Go.Proofs.YtcgedkpbobgkhaaGreatDoor
set_option linter.unusedVariables false
set_option linter.unusedSimpArgs false
open Go Go.RowKit
theorem Own.blocks {w w' : World} {B : Nat} {e : TypeId} {size : Nat} {a : Option Addr} {n c : Nat} {xs : List Value} (h : Own w B e size a n c xs) (k : ∀ (q : Nat) (cur : Array Value) (e' : TypeId) (fz : Nat × Nat), w.heap[q]? = some (Obj.cells cur e' fz) → w'.heap[q]? = w.heap[q]?) : Own w' B e size a n c xs := by
  rcases h with h | ⟨h1, h2⟩
  · exact .inl h
  · refine .inr ⟨h1, ?_⟩
    rcases h2 with h2 | ⟨g, cap, cur, hv, hg, hh, r⟩
    · exact .inl h2
    · exact .inr ⟨g, cap, cur, hv, hg, by rw [k g _ _ _ hh]; exact hh, r⟩
theorem iterAt_cells {w : World} {b : Nat} {s : ByteArray} {k k' : Nat} (hit : w.heap[b]? = some (.stringIter s k)) : ∀ (q : Nat) (cur : Array Value) (e' : TypeId) (fz : Nat × Nat), w.heap[q]? = some (Obj.cells cur e' fz) → (w.iterAt b s k').heap[q]? = w.heap[q]? := by
  intro q cur e' fz hq
  have hne : q ≠ b := by
    rintro rfl
    rw [hit] at hq
    simp at hq
  exact Go.Lib.iterAt_other w b q s k' hne
theorem iter_heap_at (w : World) (s : ByteArray) (b : Nat) (h : w.heap.size = b) : (w.iter s 0).heap[b]? = some (.stringIter s 0) := by
  subst h
  exact World.iter_heap w s 0
theorem iterAt_ext {w w' : World} {b : Nat} {s : ByteArray} {k' : Nat} (hx : Ext w w') (hb : w.heap.size ≤ b) : Ext w (w'.iterAt b s k') :=
  ⟨hx.below.os, hx.below.tape, hx.below.output, Nat.le_trans hx.size (by simp [World.iterAt]), fun j hj => by rw [← hx.below.block j hj]; simp [World.iterAt, Array.getElem?_modify, Array.getElem?_set, Array.getElem?_setIfInBounds]; omega⟩
theorem Ext.iter {w w' : World} (h : Ext w w') {b : Nat} {s : ByteArray} {k : Nat} (hb : w.heap[b]? = some (.stringIter s k)) : w'.heap[b]? = some (.stringIter s k) := by
  rw [h.below.block b (Array.getElem?_eq_some_iff.1 hb).1]; exact hb
theorem iterPos_of {w : World} {b : Nat} {s : ByteArray} {k : Nat} (hb : w.heap[b]? = some (.stringIter s k)) : w.iterPos b = k := by
  show (match w.heap[b]? with | some (.stringIter _ p) => p | _ => 0) = k
  rw [hb]
theorem main_ascii {s : ByteArray} (h : allB letterB s = true) (k : Nat) (hk : k < s.size) : s[k].toNat < 128 := by
  have := allB_at h k hk
  simp only [letterB, smallB, capB, Bool.or_eq_true, decide_eq_true_eq] at this
  omega
end Go.Proofs.YtcgedkpbobgkhaaGreatDoor
