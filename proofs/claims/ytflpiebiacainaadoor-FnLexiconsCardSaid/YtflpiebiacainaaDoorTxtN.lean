/- Choices from texts and numbers that are laid for it. Conditions: a source of which not too much has been asked. -/
import Derived.Test.YtflpiebiacainaaDoorSrc
namespace Go.Proofs.YtflpiebiacainaaDoor
set_option linter.unusedVariables false
set_option linter.unusedSimpArgs false
open Go Go.RowKit
theorem short_mem {l : List ByteArray} {m : Nat} (h : l.all (fun s => decide (s.size ≤ m)) = true) {y : ByteArray} (hy : y ∈ l) : y.size ≤ m := by
  have := List.all_eq_true.1 h y hy
  simpa using this
/-- Strings to choose from. -/
theorem rd_new {w : World} {b : Nat} (hb : w.heap.size = b) (xs : List Value) (t : TypeId) : Rd (w.alloc (.cells xs.toArray t)) (some ⟨b, 0, none⟩) xs := fun j u hj => by
  subst hb
  refine ⟨w.heap.size, 0, rfl, ?_⟩
  rw [cell_of_row _ _ _ _ _ _ (heap_alloc_new w _)]
  simpa using hj
/-- A choice from texts that are laid for it. -/
theorem text_new (g K n : Nat) (xs : List ByteArray) (w : World) (hs : Src w g K) (hk : K ≤ 1099511627000) (hn : n = xs.length) (h0 : 0 < n) (h1 : n ≤ 100) (hall : xs.all (fun s => decide (s.size ≤ 100)) = true) :
    Calls Tryd.prog 17 #[.pointer (some ⟨g, 0, none⟩), .slice (some ⟨w.heap.size, 0, none⟩) n n] (w.alloc (.cells (xs.map Value.string).toArray 9)) (Drew g K 2 (fun v _ => ∃ y : ByteArray, y.size ≤ 100 ∧ v = .string y) (w.alloc (.cells (xs.map Value.string).toArray 9))) := by
  subst hn
  refine (text_any g K _ _ xs _ (hs.ext ((Ext.refl _).alloc _)) hk (rd_new rfl _ _) h0 (by omega) (fun y e => by cases e; exact Nat.ne_of_gt hs.lt)).mono ?_
  rintro e w' ⟨v, he, ⟨y, hy, e2⟩, hx, hS⟩
  exact ⟨v, he, ⟨y, by have := List.all_eq_true.1 hall y hy; simpa using this, e2⟩, hx, hS⟩
end Go.Proofs.YtflpiebiacainaaDoor
