/- Several texts in one: ShelfS, SortS. Conditions: see each. -/
import Derived.Shelf.Sort.Plain
import Derived.Test.YtaigabenlccdaaaProg
import Derived.Test.YtaigabenlccdaaaCh05h
import Derived.Sort.OwnSorted
section
namespace Go.Proofs
open Go.Shelf
def Try.laysH190_ren : Go.Shelf.Ren := ⟨fun | 125 => 58 | 128 => 85 | 129 => 86 | 190 => 32 | 258 => 57 | 302 => 77 | 303 => 78 | 304 => 79 | 305 => 80 | 306 => 81 | 307 => 82 | 308 => 75 | 309 => 83 | 310 => 84 | 329 => 99 | 330 => 100 | 333 => 98 | 334 => 101 | 335 => 102 | 336 => 97 | 344 => 104 | n => n, fun | 0 => 0 | 3 => 3 | 4 => 4 | 5 => 5 | 9 => 9 | 31 => 22 | 46 => 79 | 51 => 102 | 53 => 80 | 131 => 75 | 182 => 95 | 183 => 96 | 218 => 109 | 222 => 113 | 228 => 116 | 229 => 117 | n => n, fun | n => n⟩
theorem Try.laysH190 : Go.Proofs.Lays.n190 Try.prog Try.laysH190_ren := {
  mixed := by kernel_rfl
  f125 := Try.func58.trans (congrArg some (by kernel_rfl))
  f128 := Try.func85.trans (congrArg some (by kernel_rfl))
  f129 := Try.func86.trans (congrArg some (by kernel_rfl))
  f190 := Try.func32.trans (congrArg some (by kernel_rfl))
  f258 := Try.func57.trans (congrArg some (by kernel_rfl))
  f302 := Try.func77.trans (congrArg some (by kernel_rfl))
  f303 := Try.func78.trans (congrArg some (by kernel_rfl))
  f304 := Try.func79.trans (congrArg some (by kernel_rfl))
  f305 := Try.func80.trans (congrArg some (by kernel_rfl))
  f306 := Try.func81.trans (congrArg some (by kernel_rfl))
  f307 := Try.func82.trans (congrArg some (by kernel_rfl))
  f308 := Try.func75.trans (congrArg some (by kernel_rfl))
  f309 := Try.func83.trans (congrArg some (by kernel_rfl))
  f310 := Try.func84.trans (congrArg some (by kernel_rfl))
  f329 := Try.func99.trans (congrArg some (by kernel_rfl))
  f330 := Try.func100.trans (congrArg some (by kernel_rfl))
  f333 := Try.func98.trans (congrArg some (by kernel_rfl))
  f334 := Try.func101.trans (congrArg some (by kernel_rfl))
  f335 := Try.func102.trans (congrArg some (by kernel_rfl))
  f336 := Try.func97.trans (congrArg some (by kernel_rfl))
  f344 := Try.func104.trans (congrArg some (by kernel_rfl))
  t0 := Try.underlying0
  a0 := Try.isAgg0
  z0 := Try.sizeOf0
  v0 := Try.zeroValue0
  t3 := Try.underlying3
  a3 := Try.isAgg3
  z3 := Try.sizeOf3
  v3 := Try.zeroValue3
  t4 := Try.underlying4
  a4 := Try.isAgg4
  z4 := Try.sizeOf4
  v4 := Try.zeroValue4
  t5 := Try.underlying5
  a5 := Try.isAgg5
  z5 := Try.sizeOf5
  v5 := Try.zeroValue5
  t9 := Try.underlying9
  a9 := Try.isAgg9
  z9 := Try.sizeOf9
  v9 := Try.zeroValue9
  t31 := Try.underlying22
  a31 := Try.isAgg22
  z31 := Try.sizeOf22
  v31 := Try.zeroValue22
  t46 := Try.underlying79
  a46 := Try.isAgg79
  z46 := Try.sizeOf79
  v46 := Try.zeroValue79
  t51 := Try.underlying102
  a51 := Try.isAgg102
  z51 := Try.sizeOf102
  v51 := Try.zeroValue102
  t53 := Try.underlying80
  a53 := Try.isAgg80
  z53 := Try.sizeOf80
  v53 := Try.zeroValue80
  t131 := Try.underlying75
  a131 := Try.isAgg75
  z131 := Try.sizeOf75
  v131 := Try.zeroValue75
  t182 := Try.underlying95
  a182 := Try.isAgg95
  z182 := Try.sizeOf95
  v182 := Try.zeroValue95
  t183 := Try.underlying96
  a183 := Try.isAgg96
  z183 := Try.sizeOf96
  v183 := Try.zeroValue96
  t218 := Try.underlying109
  a218 := Try.isAgg109
  z218 := Try.sizeOf109
  v218 := Try.zeroValue109
  t222 := Try.underlying113
  a222 := Try.isAgg113
  z222 := Try.sizeOf113
  v222 := Try.zeroValue113
  t228 := Try.underlying116
  a228 := Try.isAgg116
  z228 := Try.sizeOf116
  v228 := Try.zeroValue116
  t229 := Try.underlying117
  a229 := Try.isAgg117
  z229 := Try.sizeOf117
  v229 := Try.zeroValue117 }
end Go.Proofs
end
section
namespace Go.Proofs.Ytaigabenlccdaaa
set_option linter.unusedVariables false
set_option linter.unusedSimpArgs false
open Go Go.RowKit Go.Sort
/-- The words in order. -/
def sortW (l : List ByteArray) : List ByteArray := ((rawL l).mergeSort fun x y => decide (x ≤ y)).map fun x => ⟨x.toArray⟩
theorem sortW_enc (l : List ByteArray) : strsV (sortW l) = ((rawL l).mergeSort fun x y => decide (x ≤ y)).map encStr := by
  unfold sortW strsV encStr
  rw [List.map_map]
  rfl
theorem sortW_length (l : List ByteArray) : (sortW l).length = l.length := by
  simp [sortW, rawL, List.length_mergeSort]
theorem sortW_perm (l : List ByteArray) : (sortW l).Perm l := by
  have h := (List.mergeSort_perm (rawL l) fun x y => decide (x ≤ y)).map fun x => (⟨x.toArray⟩ : ByteArray)
  have e : (rawL l).map (fun x => (⟨x.toArray⟩ : ByteArray)) = l := by
    unfold rawL
    rw [List.map_map]
    conv => rhs; rw [← List.map_id l]
    rfl
  rw [e] at h
  exact h
theorem grownBy_below {w w' : World} {B : Nat} {row : Option Nat} (h : w.grownBy w' row) (hB : B ≤ w.heap.size) (hr : ∀ j, row = some j → B ≤ j) : Below B w w' := (Below.refl B w).grown h hB hr
theorem Ext.grownBy {w w' w'' : World} {row : Option Nat} (k : Ext w w') (h : w'.grownBy w'' row) (hr : ∀ j, row = some j → w.heap.size ≤ j) : Ext w w'' := Below.grown k h k.size hr
theorem Ext.grown {w w' : World} (k : Ext w w') : w.grownBy w' none := ⟨k.below.os, k.below.tape, k.below.output, k.size, fun i hi _ => k.below.block i hi⟩
theorem LkT.grownBy {w w' : World} {b : Nat} {t : TypeId} {v : Value} {row : Option Nat} (h : LkT w b t v) (k : w.grownBy w' row) (hb : some b ≠ row) : LkT w' b t v := by
  unfold LkT
  rw [k.block b h.lt hb]
  exact h
theorem SortS_any (a : Option Addr) (c B : Nat) (l : List ByteArray) (w : World) (ho : Own w B 9 1 a l.length c (strsV l)) (hB : B ≤ w.heap.size) (hl : l.length ≤ 1048576) (he : l = [] → ∃ g, a = some ⟨g, 0, none⟩ ∧ B ≤ g ∧ g < w.heap.size) :
    Calls Try.prog 32 #[.slice a l.length c] w fun e w' => e = .returned (.tuple #[]) ∧ Own w' B 9 1 a l.length c (strsV (sortW l)) ∧ Below B w w' := by
  have hr : (rawL l).length = l.length := by simp [rawL]
  have empty : l = [] → c = 0 → Calls Try.prog 32 #[.slice a l.length c] w fun e w' => e = .returned (.tuple #[]) ∧ Own w' B 9 1 a l.length c (strsV (sortW l)) ∧ Below B w w' := by
    rintro rfl rfl
    obtain ⟨g, rfl, hg, hgl⟩ := he rfl
    refine (Any.slices_Sort_string Try.laysH190 g 0 0 [] w (fun j hj => absurd hj (by simp)) hgl (by decide)).mono ?_
    rintro e w' ⟨rfl, n, os, rfl⟩
    exact ⟨rfl, .inl ⟨rfl, rfl, by simp [sortW, rawL, strsV]⟩, grownBy_below (grownBy_sorted _) hB (fun j hj => by cases hj; exact hg)⟩
  rcases ho with ⟨n0, c0, e0⟩ | ho
  · exact empty (by cases l; rfl; simp at n0) c0
  rcases ho.2 with ⟨hv, n0⟩ | ⟨g, cap, cur, hv, hbase, hb, h1, h2, h3, h4⟩
  · simp only [Value.slice.injEq] at hv
    exact empty (by cases l; rfl; simp at n0) hv.2.2
  simp only [Value.slice.injEq] at hv
  obtain ⟨rfl, -, rfl⟩ := hv
  have hH : Holds encStr w g 0 (rawL l).toArray := holds_of_block hb (by rw [rawL_enc, hr]; simpa using h4)
  have hc := Any.slices_Sort_string Try.laysH190 g 0 c (rawL l) w hH (Array.getElem?_eq_some_iff.1 hb).1 (by omega)
  rw [hr] at hc
  refine hc.mono ?_
  rintro e w' ⟨rfl, n, os, rfl⟩
  refine ⟨rfl, .inr ?_, grownBy_below (grownBy_sorted _) hB (fun j hj => by cases hj; exact hbase)⟩
  have := ownsRow_sorted (n := n) (os := os) (ss := rawL l) (ts := (rawL l).mergeSort fun x y => decide (x ≤ y)) (List.length_mergeSort _) hbase hb (by rw [hr]; exact h1) h2 (by simpa using h3)
  rw [hr, ← sortW_enc] at this
  exact this
end Go.Proofs.Ytaigabenlccdaaa
end
