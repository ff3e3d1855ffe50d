/- Several texts in one: TxtN, Bk. Conditions: see each. -/
import Derived.Test.YtmohfdfjlgekaaaGreatDoorSrc
import Derived.Test.YtmohfdfjlgekaaaGreatDoorMg1
section
namespace Go.Proofs.YtmohfdfjlgekaaaGreatDoor
set_option linter.unusedVariables false
set_option linter.unusedSimpArgs false
open Go Go.RowKit
theorem short_mem {l : List ByteArray} {m : Nat} (h : l.all (fun s => decide (s.size ≤ m)) = true) {y : ByteArray} (hy : y ∈ l) : y.size ≤ m := by
  have := List.all_eq_true.1 h y hy
  simpa using this
/-- Strings to choose from. -/
theorem rd_new {w : World} {b : Nat} (hb : w.heap.size = b) (xs : List Value) (t : TypeId) : Rd (w.alloc (.cells xs.toArray t)) (some ⟨b, 0, none⟩) xs := fun j u hj => by
  subst hb
  refine ⟨w.heap.size, 0, rfl, ?_⟩
  rw [cell_of_row _ _ _ _ _ _ (heap_alloc_new w _)]
  simpa using hj
/-- A choice from texts that are laid for it. -/
theorem text_new (g K n : Nat) (xs : List ByteArray) (w : World) (hs : Src w g K) (hk : K ≤ 1099511627000) (hn : n = xs.length) (h0 : 0 < n) (h1 : n ≤ 100) (hall : xs.all (fun s => decide (s.size ≤ 100)) = true) :
    Calls Tryz.prog 65 #[.pointer (some ⟨g, 0, none⟩), .slice (some ⟨w.heap.size, 0, none⟩) n n] (w.alloc (.cells (xs.map Value.string).toArray 9)) (Drew g K 2 (fun v _ => ∃ y : ByteArray, y.size ≤ 100 ∧ v = .string y) (w.alloc (.cells (xs.map Value.string).toArray 9))) := by
  subst hn
  refine (text_any g K _ _ xs _ (hs.ext ((Ext.refl _).alloc _)) hk (rd_new rfl _ _) h0 (by omega) (fun y e => by cases e; exact Nat.ne_of_gt hs.lt)).mono ?_
  rintro e w' ⟨v, he, ⟨y, hy, e2⟩, hx, hS⟩
  exact ⟨v, he, ⟨y, by have := List.all_eq_true.1 hall y hy; simpa using this, e2⟩, hx, hS⟩
/-- A choice from numbers that are laid for it. -/
theorem among_new (g K n : Nat) (xs : List Int) (w : World) (hs : Src w g K) (hk : K ≤ 1099511627000) (hn : n = xs.length) (h0 : 0 < n) (h1 : n ≤ 100) :
    Calls Tryz.prog 64 #[.pointer (some ⟨g, 0, none⟩), .slice (some ⟨w.heap.size, 0, none⟩) n n] (w.alloc (.cells (xs.map (Value.int .i64)).toArray 2)) (Drew g K 2 (fun v _ => ∃ x ∈ xs, v = .int .i64 x) (w.alloc (.cells (xs.map (Value.int .i64)).toArray 2))) := by
  subst hn
  exact among_any g K _ _ xs _ (hs.ext ((Ext.refl _).alloc _)) hk (rd_new rfl _ _) h0 (by omega) (fun y e => by cases e; exact Nat.ne_of_gt hs.lt)
end Go.Proofs.YtmohfdfjlgekaaaGreatDoor
end
section
namespace Go.Proofs.YtmohfdfjlgekaaaGreatDoor
set_option linter.unusedVariables false
set_option linter.unusedSimpArgs false
open Go Go.RowKit
/-- A block for a board: what it holds; it may be written. -/
def Bk (w : World) (b : Nat) (n : Int) (p c : ByteArray) : Prop := BdAt w b 0 n p c ∧ ∀ j, w.frozen? ⟨b, j, none⟩ = false
theorem Bk.lt {w : World} {b : Nat} {n : Int} {p c : ByteArray} (h : Bk w b n p c) : b < w.heap.size := World.block_lt_of_cell? _ _ h.1.1
theorem Bk.ext {w w' : World} {b : Nat} {n : Int} {p c : ByteArray} (h : Bk w b n p c) (k : Ext w w') : Bk w' b n p c :=
  ⟨h.1.ext k, fun j => by rw [k.cells.2 _ _ h.lt]; exact h.2 j⟩
theorem Bk.exc {w w' : World} {b g : Nat} {n : Int} {p c : ByteArray} (h : Bk w b n p c) (k : Exc g w w') (hb : b ≠ g) : Bk w' b n p c :=
  ⟨⟨k.cell h.1.1 hb, k.cell h.1.2.1 hb, k.cell h.1.2.2 hb⟩, fun j => by rw [k.frozen j h.lt hb]; exact h.2 j⟩
/-- The board is stored into the block. -/
def put3 (w : World) (b : Nat) (n : Int) (p c : ByteArray) : World := ((w.setCell ⟨b, 0, none⟩ (.int .i64 n)).setCell ⟨b, 1, none⟩ (.string p)).setCell ⟨b, 2, none⟩ (.string c)
theorem exc_put3 (w : World) (b : Nat) (n : Int) (p c : ByteArray) : Exc b w (put3 w b n p c) := (((Exc.refl b w).setCell 0 _).setCell 1 _).setCell 2 _
theorem Bk.put {w : World} {b : Nat} {n : Int} {p c : ByteArray} (h : Bk w b n p c) (n' : Int) (p' c' : ByteArray) : Bk (put3 w b n' p' c') b n' p' c' := by
  obtain ⟨⟨h0, h1, h2⟩, hf⟩ := h
  refine ⟨⟨?_, ?_, ?_⟩, fun j => by simpa [put3] using hf j⟩
  · unfold put3
    rw [World.cell?_setCell_other _ _ _ _ (by simp), World.cell?_setCell_other _ _ _ _ (by simp)]
    exact World.cell?_setCell_same _ _ _ h0
  · unfold put3
    rw [World.cell?_setCell_other _ _ _ _ (by simp)]
    exact World.cell?_setCell_same _ _ _ (u := .string p) (by rw [World.cell?_setCell_other _ _ _ _ (by simp)]; exact h1)
  · exact World.cell?_setCell_same _ _ _ (u := .string c) (by rw [World.cell?_setCell_other _ _ _ _ (by simp), World.cell?_setCell_other _ _ _ _ (by simp)]; exact h2)
theorem Bk.new (w : World) (t : TypeId) : Bk (w.alloc (.cells #[.int .i64 0, .string ⟨#[]⟩, .string ⟨#[]⟩] t)) w.heap.size 0 ⟨#[]⟩ ⟨#[]⟩ := ⟨⟨by simp, by simp, by simp⟩, fun j => by simp⟩
theorem Exc.put3 {g : Nat} {w0 w : World} (h : Exc g w0 w) {b : Nat} (hb : w0.heap.size ≤ b) (n : Int) (p c : ByteArray) : Exc g w0 (put3 w b n p c) := by
  refine ⟨h.os, h.tape, h.output, Nat.le_trans h.size (exc_put3 w b n p c).size, fun k hk hg => ?_⟩
  rw [← h.block k hk hg]
  exact (exc_put3 w b n p c).block k (Nat.lt_of_lt_of_le hk h.size) (by omega)
end Go.Proofs.YtmohfdfjlgekaaaGreatDoor
end
