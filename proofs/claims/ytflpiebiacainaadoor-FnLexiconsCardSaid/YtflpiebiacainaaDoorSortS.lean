/- slices.Sort over a row of words of the call's own. Conditions: at most 2^20 words. -/
import Derived.Test.YtflpiebiacainaaDoorCh05h
import Derived.Test.YtflpiebiacainaaDoorShelfS
import Derived.Sort.OwnSorted
namespace Go.Proofs.YtflpiebiacainaaDoor
set_option linter.unusedVariables false
set_option linter.unusedSimpArgs false
open Go Go.RowKit Go.Sort
/-- The words in order. -/
def sortW (l : List ByteArray) : List ByteArray := ((rawL l).mergeSort fun x y => decide (x ≤ y)).map fun x => ⟨x.toArray⟩
theorem sortW_enc (l : List ByteArray) : strsV (sortW l) = ((rawL l).mergeSort fun x y => decide (x ≤ y)).map encStr := by
  unfold sortW strsV encStr
  rw [List.map_map]
  rfl
theorem sortW_length (l : List ByteArray) : (sortW l).length = l.length := by
  simp [sortW, rawL, List.length_mergeSort]
theorem sortW_perm (l : List ByteArray) : (sortW l).Perm l := by
  have h := (List.mergeSort_perm (rawL l) fun x y => decide (x ≤ y)).map fun x => (⟨x.toArray⟩ : ByteArray)
  have e : (rawL l).map (fun x => (⟨x.toArray⟩ : ByteArray)) = l := by
    unfold rawL
    rw [List.map_map]
    conv => rhs; rw [← List.map_id l]
    rfl
  rw [e] at h
  exact h
theorem grownBy_below {w w' : World} {B : Nat} {row : Option Nat} (h : w.grownBy w' row) (hB : B ≤ w.heap.size) (hr : ∀ j, row = some j → B ≤ j) : Below B w w' := (Below.refl B w).grown h hB hr
theorem Ext.grownBy {w w' w'' : World} {row : Option Nat} (k : Ext w w') (h : w'.grownBy w'' row) (hr : ∀ j, row = some j → w.heap.size ≤ j) : Ext w w'' := Below.grown k h k.size hr
theorem Ext.grown {w w' : World} (k : Ext w w') : w.grownBy w' none := ⟨k.below.os, k.below.tape, k.below.output, k.size, fun i hi _ => k.below.block i hi⟩
theorem LkT.grownBy {w w' : World} {b : Nat} {t : TypeId} {v : Value} {row : Option Nat} (h : LkT w b t v) (k : w.grownBy w' row) (hb : some b ≠ row) : LkT w' b t v := by
  unfold LkT
  rw [k.block b h.lt hb]
  exact h
theorem SortS_any (a : Option Addr) (c B : Nat) (l : List ByteArray) (w : World) (ho : Own w B 9 1 a l.length c (strsV l)) (hB : B ≤ w.heap.size) (hl : l.length ≤ 1048576) (he : l = [] → ∃ g, a = some ⟨g, 0, none⟩ ∧ B ≤ g ∧ g < w.heap.size) :
    Calls Tryd.prog 20 #[.slice a l.length c] w fun e w' => e = .returned (.tuple #[]) ∧ Own w' B 9 1 a l.length c (strsV (sortW l)) ∧ Below B w w' := by
  have hr : (rawL l).length = l.length := by simp [rawL]
  have empty : l = [] → c = 0 → Calls Tryd.prog 20 #[.slice a l.length c] w fun e w' => e = .returned (.tuple #[]) ∧ Own w' B 9 1 a l.length c (strsV (sortW l)) ∧ Below B w w' := by
    rintro rfl rfl
    obtain ⟨g, rfl, hg, hgl⟩ := he rfl
    refine (Any.slices_Sort_string Tryd.laysH190 g 0 0 [] w (fun j hj => absurd hj (by simp)) hgl (by decide)).mono ?_
    rintro e w' ⟨rfl, n, os, rfl⟩
    exact ⟨rfl, .inl ⟨rfl, rfl, by simp [sortW, rawL, strsV]⟩, grownBy_below (grownBy_sorted _) hB (fun j hj => by cases hj; exact hg)⟩
  rcases ho with ⟨n0, c0, e0⟩ | ho
  · exact empty (by cases l; rfl; simp at n0) c0
  rcases ho.2 with ⟨hv, n0⟩ | ⟨g, cap, cur, hv, hbase, hb, h1, h2, h3, h4⟩
  · simp only [Value.slice.injEq] at hv
    exact empty (by cases l; rfl; simp at n0) hv.2.2
  simp only [Value.slice.injEq] at hv
  obtain ⟨rfl, -, rfl⟩ := hv
  have hH : Holds encStr w g 0 (rawL l).toArray := holds_of_block hb (by rw [rawL_enc, hr]; simpa using h4)
  have hc := Any.slices_Sort_string Tryd.laysH190 g 0 c (rawL l) w hH (Array.getElem?_eq_some_iff.1 hb).1 (by omega)
  rw [hr] at hc
  refine hc.mono ?_
  rintro e w' ⟨rfl, n, os, rfl⟩
  refine ⟨rfl, .inr ?_, grownBy_below (grownBy_sorted _) hB (fun j hj => by cases hj; exact hbase)⟩
  have := ownsRow_sorted (n := n) (os := os) (ss := rawL l) (ts := (rawL l).mergeSort fun x y => decide (x ≤ y)) (List.length_mergeSort _) hbase hb (by rw [hr]; exact h1) h2 (by simpa using h3)
  rw [hr, ← sortW_enc] at this
  exact this
end Go.Proofs.YtflpiebiacainaaDoor
