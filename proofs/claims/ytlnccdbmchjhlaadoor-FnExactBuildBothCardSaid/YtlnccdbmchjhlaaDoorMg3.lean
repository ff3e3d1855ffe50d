/- Several texts in one: ShelfS, SortS, Strs2. Conditions: see each. -/
import Derived.Shelf.Sort.Plain
import Derived.Test.YtlnccdbmchjhlaaDoorProg
import Derived.Test.YtlnccdbmchjhlaaDoorMg2
import Derived.Sort.OwnSorted
import Derived.Test.YtlnccdbmchjhlaaDoorStrs
section
namespace Go.Proofs
open Go.Shelf
def Tryd.laysH190_ren : Go.Shelf.Ren := ⟨fun | 125 => 53 | 128 => 72 | 129 => 73 | 190 => 38 | 258 => 52 | 302 => 63 | 303 => 64 | 304 => 65 | 305 => 66 | 306 => 67 | 307 => 68 | 308 => 69 | 309 => 70 | 310 => 71 | 329 => 81 | 330 => 82 | 333 => 80 | 334 => 83 | 335 => 84 | 336 => 85 | 344 => 88 | n => n, fun | 0 => 0 | 3 => 3 | 4 => 4 | 5 => 5 | 9 => 9 | 31 => 22 | 46 => 80 | 51 => 105 | 53 => 107 | 131 => 102 | 182 => 96 | 183 => 97 | 218 => 118 | 222 => 122 | 228 => 126 | 229 => 127 | n => n, fun | n => n⟩
theorem Tryd.laysH190 : Go.Proofs.Lays.n190 Tryd.prog Tryd.laysH190_ren := {
  mixed := by kernel_rfl
  f125 := Tryd.func53.trans (congrArg some (by kernel_rfl))
  f128 := Tryd.func72.trans (congrArg some (by kernel_rfl))
  f129 := Tryd.func73.trans (congrArg some (by kernel_rfl))
  f190 := Tryd.func38.trans (congrArg some (by kernel_rfl))
  f258 := Tryd.func52.trans (congrArg some (by kernel_rfl))
  f302 := Tryd.func63.trans (congrArg some (by kernel_rfl))
  f303 := Tryd.func64.trans (congrArg some (by kernel_rfl))
  f304 := Tryd.func65.trans (congrArg some (by kernel_rfl))
  f305 := Tryd.func66.trans (congrArg some (by kernel_rfl))
  f306 := Tryd.func67.trans (congrArg some (by kernel_rfl))
  f307 := Tryd.func68.trans (congrArg some (by kernel_rfl))
  f308 := Tryd.func69.trans (congrArg some (by kernel_rfl))
  f309 := Tryd.func70.trans (congrArg some (by kernel_rfl))
  f310 := Tryd.func71.trans (congrArg some (by kernel_rfl))
  f329 := Tryd.func81.trans (congrArg some (by kernel_rfl))
  f330 := Tryd.func82.trans (congrArg some (by kernel_rfl))
  f333 := Tryd.func80.trans (congrArg some (by kernel_rfl))
  f334 := Tryd.func83.trans (congrArg some (by kernel_rfl))
  f335 := Tryd.func84.trans (congrArg some (by kernel_rfl))
  f336 := Tryd.func85.trans (congrArg some (by kernel_rfl))
  f344 := Tryd.func88.trans (congrArg some (by kernel_rfl))
  t0 := Tryd.underlying0
  a0 := Tryd.isAgg0
  z0 := Tryd.sizeOf0
  v0 := Tryd.zeroValue0
  t3 := Tryd.underlying3
  a3 := Tryd.isAgg3
  z3 := Tryd.sizeOf3
  v3 := Tryd.zeroValue3
  t4 := Tryd.underlying4
  a4 := Tryd.isAgg4
  z4 := Tryd.sizeOf4
  v4 := Tryd.zeroValue4
  t5 := Tryd.underlying5
  a5 := Tryd.isAgg5
  z5 := Tryd.sizeOf5
  v5 := Tryd.zeroValue5
  t9 := Tryd.underlying9
  a9 := Tryd.isAgg9
  z9 := Tryd.sizeOf9
  v9 := Tryd.zeroValue9
  t31 := Tryd.underlying22
  a31 := Tryd.isAgg22
  z31 := Tryd.sizeOf22
  v31 := Tryd.zeroValue22
  t46 := Tryd.underlying80
  a46 := Tryd.isAgg80
  z46 := Tryd.sizeOf80
  v46 := Tryd.zeroValue80
  t51 := Tryd.underlying105
  a51 := Tryd.isAgg105
  z51 := Tryd.sizeOf105
  v51 := Tryd.zeroValue105
  t53 := Tryd.underlying107
  a53 := Tryd.isAgg107
  z53 := Tryd.sizeOf107
  v53 := Tryd.zeroValue107
  t131 := Tryd.underlying102
  a131 := Tryd.isAgg102
  z131 := Tryd.sizeOf102
  v131 := Tryd.zeroValue102
  t182 := Tryd.underlying96
  a182 := Tryd.isAgg96
  z182 := Tryd.sizeOf96
  v182 := Tryd.zeroValue96
  t183 := Tryd.underlying97
  a183 := Tryd.isAgg97
  z183 := Tryd.sizeOf97
  v183 := Tryd.zeroValue97
  t218 := Tryd.underlying118
  a218 := Tryd.isAgg118
  z218 := Tryd.sizeOf118
  v218 := Tryd.zeroValue118
  t222 := Tryd.underlying122
  a222 := Tryd.isAgg122
  z222 := Tryd.sizeOf122
  v222 := Tryd.zeroValue122
  t228 := Tryd.underlying126
  a228 := Tryd.isAgg126
  z228 := Tryd.sizeOf126
  v228 := Tryd.zeroValue126
  t229 := Tryd.underlying127
  a229 := Tryd.isAgg127
  z229 := Tryd.sizeOf127
  v229 := Tryd.zeroValue127 }
end Go.Proofs
end
section
namespace Go.Proofs.YtlnccdbmchjhlaaDoor
set_option linter.unusedVariables false
set_option linter.unusedSimpArgs false
open Go Go.RowKit Go.Sort
/-- The words in order. -/
def sortW (l : List ByteArray) : List ByteArray := ((rawL l).mergeSort fun x y => decide (x ≤ y)).map fun x => ⟨x.toArray⟩
theorem sortW_enc (l : List ByteArray) : strsV (sortW l) = ((rawL l).mergeSort fun x y => decide (x ≤ y)).map encStr := by
  unfold sortW strsV encStr
  rw [List.map_map]
  rfl
theorem sortW_length (l : List ByteArray) : (sortW l).length = l.length := by
  simp [sortW, rawL, List.length_mergeSort]
theorem sortW_perm (l : List ByteArray) : (sortW l).Perm l := by
  have h := (List.mergeSort_perm (rawL l) fun x y => decide (x ≤ y)).map fun x => (⟨x.toArray⟩ : ByteArray)
  have e : (rawL l).map (fun x => (⟨x.toArray⟩ : ByteArray)) = l := by
    unfold rawL
    rw [List.map_map]
    conv => rhs; rw [← List.map_id l]
    rfl
  rw [e] at h
  exact h
theorem grownBy_below {w w' : World} {B : Nat} {row : Option Nat} (h : w.grownBy w' row) (hB : B ≤ w.heap.size) (hr : ∀ j, row = some j → B ≤ j) : Below B w w' := (Below.refl B w).grown h hB hr
theorem Ext.grownBy {w w' w'' : World} {row : Option Nat} (k : Ext w w') (h : w'.grownBy w'' row) (hr : ∀ j, row = some j → w.heap.size ≤ j) : Ext w w'' := Below.grown k h k.size hr
theorem Ext.grown {w w' : World} (k : Ext w w') : w.grownBy w' none := ⟨k.below.os, k.below.tape, k.below.output, k.size, fun i hi _ => k.below.block i hi⟩
theorem LkT.grownBy {w w' : World} {b : Nat} {t : TypeId} {v : Value} {row : Option Nat} (h : LkT w b t v) (k : w.grownBy w' row) (hb : some b ≠ row) : LkT w' b t v := by
  unfold LkT
  rw [k.block b h.lt hb]
  exact h
theorem SortS_any (a : Option Addr) (c B : Nat) (l : List ByteArray) (w : World) (ho : Own w B 9 1 a l.length c (strsV l)) (hB : B ≤ w.heap.size) (hl : l.length ≤ 1048576) (he : l = [] → ∃ g, a = some ⟨g, 0, none⟩ ∧ B ≤ g ∧ g < w.heap.size) :
    Calls Tryd.prog 38 #[.slice a l.length c] w fun e w' => e = .returned (.tuple #[]) ∧ Own w' B 9 1 a l.length c (strsV (sortW l)) ∧ Below B w w' := by
  have hr : (rawL l).length = l.length := by simp [rawL]
  have empty : l = [] → c = 0 → Calls Tryd.prog 38 #[.slice a l.length c] w fun e w' => e = .returned (.tuple #[]) ∧ Own w' B 9 1 a l.length c (strsV (sortW l)) ∧ Below B w w' := by
    rintro rfl rfl
    obtain ⟨g, rfl, hg, hgl⟩ := he rfl
    refine (Any.slices_Sort_string Tryd.laysH190 g 0 0 [] w (fun j hj => absurd hj (by simp)) hgl (by decide)).mono ?_
    rintro e w' ⟨rfl, n, os, rfl⟩
    exact ⟨rfl, .inl ⟨rfl, rfl, by simp [sortW, rawL, strsV]⟩, grownBy_below (grownBy_sorted _) hB (fun j hj => by cases hj; exact hg)⟩
  rcases ho with ⟨n0, c0, e0⟩ | ho
  · exact empty (by cases l; rfl; simp at n0) c0
  rcases ho.2 with ⟨hv, n0⟩ | ⟨g, cap, cur, hv, hbase, hb, h1, h2, h3, h4⟩
  · simp only [Value.slice.injEq] at hv
    exact empty (by cases l; rfl; simp at n0) hv.2.2
  simp only [Value.slice.injEq] at hv
  obtain ⟨rfl, -, rfl⟩ := hv
  have hH : Holds encStr w g 0 (rawL l).toArray := holds_of_block hb (by rw [rawL_enc, hr]; simpa using h4)
  have hc := Any.slices_Sort_string Tryd.laysH190 g 0 c (rawL l) w hH (Array.getElem?_eq_some_iff.1 hb).1 (by omega)
  rw [hr] at hc
  refine hc.mono ?_
  rintro e w' ⟨rfl, n, os, rfl⟩
  refine ⟨rfl, .inr ?_, grownBy_below (grownBy_sorted _) hB (fun j hj => by cases hj; exact hbase)⟩
  have := ownsRow_sorted (n := n) (os := os) (ss := rawL l) (ts := (rawL l).mergeSort fun x y => decide (x ≤ y)) (List.length_mergeSort _) hbase hb (by rw [hr]; exact h1) h2 (by simpa using h3)
  rw [hr, ← sortW_enc] at this
  exact this
end Go.Proofs.YtlnccdbmchjhlaaDoor
end
section
namespace Go.Proofs.YtlnccdbmchjhlaaDoor
set_option linter.unusedVariables false
set_option linter.unusedSimpArgs false
open Go Go.RowKit
theorem mixed_start (l : List ByteArray) (k : Nat) : ((List.range l.length).map fun q => if q < 0 then Value.string (markTx (k + q)) else .string (l.getD q ⟨#[]⟩)) = strsV l := by
  apply List.ext_getElem
  · simp [strsV]
  · intro j h1 h2
    simp at h1
    simp [strsV, h1]
theorem mixed_end (l : List ByteArray) (k : Nat) : ((List.range l.length).map fun q => if q < l.length then Value.string (markTx (k + q)) else .string (l.getD q ⟨#[]⟩)) = strsV (marksL l.length k) := by
  apply List.ext_getElem
  · simp [strsV, marksL]
  · intro j h1 h2
    simp at h1
    simp [strsV, marksL, h1]
set_option maxHeartbeats 400000 in
theorem markStringS_nil (a : Option Addr) (c k : Nat) (w : World) : Calls Tryd.prog 26 #[.slice a 0 c, .int .i64 k] w (Same (.int .i64 k) w) := by
  go_enter Tryd.func26, Tryd.ntmps26
  go_wp2_with fail
  go_loop [1, 5] (fun t i => t = .int .i64 k ∧ i = .int .i64 0) (fun _ i => 0)
  case atStart => exact ⟨rfl, rfl⟩
  case round =>
    obtain ⟨rfl, rfl⟩ := hrel
    go_wp2_with fail
    go_returns
    exact ⟨rfl, rfl⟩
set_option maxHeartbeats 400000 in
theorem markStringS_any (g : Nat) (c : Nat) (l : List ByteArray) (k : Nat) (w : World) (h : Wr w g (strsV l)) (hl : l.length ≤ 1048576) (hk1 : 1 ≤ k) (hk2 : k ≤ 2000000) :
    Calls Tryd.prog 26 #[.slice (some ⟨g, 0, none⟩) l.length c, .int .i64 k] w fun e w' => e = .returned (.int .i64 ((k + l.length : Nat) : Int)) ∧ Wr w' g (strsV (marksL l.length k)) ∧ Exc g w w' := by
  have HS := hid (mixed_start l k)
  have HE := hid (mixed_end l k)
  rw [← HS.out] at h
  have hg := h.1
  have HW := hid h
  clear h
  go_enter Tryd.func26, Tryd.ntmps26
  go_wp2_with fail
  go_loopw [1, 5] (fun t i wr => ∃ j : Nat, j ≤ l.length ∧ i = .int .i64 j ∧ t = .int .i64 ((k + j : Nat) : Int) ∧ Hid (Wr wr g ((List.range l.length).map fun q => if q < j then Value.string (markTx (k + q)) else .string (l.getD q ⟨#[]⟩))) ∧ Exc g w wr) (fun _ i _ => l.length - (intOf i).toNat)
  case atStart => exact ⟨0, by omega, rfl, rfl, HW, Exc.refl _ _⟩
  case round =>
    clear HW HS
    obtain ⟨j, hj, rfl, rfl, hwr, hx⟩ := hrel
    by_cases hlt : j < l.length
    · go_wp2_with fail
      refine (markText_any (k + j) _ (by omega) (by omega)).mono ?_
      rintro e w1 ⟨rfl, hy⟩
      have hw1 := hwr.out.ext hy
      have HZ := hid (hw1.set j (by simpa using hlt) (.string (markTx (k + j))))
      obtain ⟨f1, f2⟩ := hw1.fit j (by simpa using hlt)
      clear hw1
      go_wp2_with fail
      go_roundw
      case rel =>
        refine ⟨j + 1, by omega, by go_num, by go_num, hid ?_, (hx.ext hy).setCell _ _⟩
        have e := set_map_range2 l.length j (fun q => .string (markTx (k + q))) (fun q => .string (l.getD q ⟨#[]⟩)) hlt
        have := HZ.out
        rw [e] at this
        exact this
      case measure => simp [intOf]; omega
    · obtain rfl : j = l.length := by omega
      rw [HE.out] at hwr
      go_wp2_with fail
      go_returns
      exact ⟨rfl, hwr.out, hx⟩
end Go.Proofs.YtlnccdbmchjhlaaDoor
end
