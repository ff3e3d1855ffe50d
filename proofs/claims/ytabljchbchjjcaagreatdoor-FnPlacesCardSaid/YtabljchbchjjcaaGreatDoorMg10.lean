/- Several texts in one: RawL, ShelfS, SortS, Strs2, Lex. Conditions: see each. -/
import Derived.Test.YtabljchbchjjcaaGreatDoorMg2
import Derived.Sort.KeysCollected
import Derived.Shelf.Sort.Plain
import Derived.Test.YtabljchbchjjcaaGreatDoorProg
import Derived.Test.YtabljchbchjjcaaGreatDoorApp0
import Derived.Sort.OwnSorted
section
namespace Go.Proofs.YtabljchbchjjcaaGreatDoor
set_option linter.unusedVariables false
set_option linter.unusedSimpArgs false
open Go Go.RowKit Go.Sort
/-- The words as lists of bytes. -/
def rawL (l : List ByteArray) : List (List UInt8) := l.map fun s => s.data.toList
theorem rawL_enc (l : List ByteArray) : (rawL l).map encStr = strsV l := by
  unfold rawL strsV encStr
  rw [List.map_map]
  rfl
end Go.Proofs.YtabljchbchjjcaaGreatDoor
end
section
namespace Go.Proofs
open Go.Shelf
def Tryz.laysH190_ren : Go.Shelf.Ren := ⟨fun | 125 => 59 | 128 => 85 | 129 => 86 | 190 => 37 | 258 => 58 | 302 => 76 | 303 => 77 | 304 => 78 | 305 => 79 | 306 => 80 | 307 => 81 | 308 => 82 | 309 => 83 | 310 => 84 | 329 => 97 | 330 => 98 | 333 => 96 | 334 => 99 | 335 => 100 | 336 => 101 | 344 => 105 | n => n, fun | 0 => 0 | 3 => 3 | 4 => 4 | 5 => 5 | 9 => 9 | 31 => 24 | 46 => 106 | 51 => 134 | 53 => 66 | 131 => 112 | 182 => 127 | 183 => 128 | 218 => 142 | 222 => 146 | 228 => 150 | 229 => 151 | n => n, fun | n => n⟩
theorem Tryz.laysH190 : Go.Proofs.Lays.n190 Tryz.prog Tryz.laysH190_ren := {
  mixed := by kernel_rfl
  f125 := Tryz.func59.trans (congrArg some (by kernel_rfl))
  f128 := Tryz.func85.trans (congrArg some (by kernel_rfl))
  f129 := Tryz.func86.trans (congrArg some (by kernel_rfl))
  f190 := Tryz.func37.trans (congrArg some (by kernel_rfl))
  f258 := Tryz.func58.trans (congrArg some (by kernel_rfl))
  f302 := Tryz.func76.trans (congrArg some (by kernel_rfl))
  f303 := Tryz.func77.trans (congrArg some (by kernel_rfl))
  f304 := Tryz.func78.trans (congrArg some (by kernel_rfl))
  f305 := Tryz.func79.trans (congrArg some (by kernel_rfl))
  f306 := Tryz.func80.trans (congrArg some (by kernel_rfl))
  f307 := Tryz.func81.trans (congrArg some (by kernel_rfl))
  f308 := Tryz.func82.trans (congrArg some (by kernel_rfl))
  f309 := Tryz.func83.trans (congrArg some (by kernel_rfl))
  f310 := Tryz.func84.trans (congrArg some (by kernel_rfl))
  f329 := Tryz.func97.trans (congrArg some (by kernel_rfl))
  f330 := Tryz.func98.trans (congrArg some (by kernel_rfl))
  f333 := Tryz.func96.trans (congrArg some (by kernel_rfl))
  f334 := Tryz.func99.trans (congrArg some (by kernel_rfl))
  f335 := Tryz.func100.trans (congrArg some (by kernel_rfl))
  f336 := Tryz.func101.trans (congrArg some (by kernel_rfl))
  f344 := Tryz.func105.trans (congrArg some (by kernel_rfl))
  t0 := Tryz.underlying0
  a0 := Tryz.isAgg0
  z0 := Tryz.sizeOf0
  v0 := Tryz.zeroValue0
  t3 := Tryz.underlying3
  a3 := Tryz.isAgg3
  z3 := Tryz.sizeOf3
  v3 := Tryz.zeroValue3
  t4 := Tryz.underlying4
  a4 := Tryz.isAgg4
  z4 := Tryz.sizeOf4
  v4 := Tryz.zeroValue4
  t5 := Tryz.underlying5
  a5 := Tryz.isAgg5
  z5 := Tryz.sizeOf5
  v5 := Tryz.zeroValue5
  t9 := Tryz.underlying9
  a9 := Tryz.isAgg9
  z9 := Tryz.sizeOf9
  v9 := Tryz.zeroValue9
  t31 := Tryz.underlying24
  a31 := Tryz.isAgg24
  z31 := Tryz.sizeOf24
  v31 := Tryz.zeroValue24
  t46 := Tryz.underlying106
  a46 := Tryz.isAgg106
  z46 := Tryz.sizeOf106
  v46 := Tryz.zeroValue106
  t51 := Tryz.underlying134
  a51 := Tryz.isAgg134
  z51 := Tryz.sizeOf134
  v51 := Tryz.zeroValue134
  t53 := Tryz.underlying66
  a53 := Tryz.isAgg66
  z53 := Tryz.sizeOf66
  v53 := Tryz.zeroValue66
  t131 := Tryz.underlying112
  a131 := Tryz.isAgg112
  z131 := Tryz.sizeOf112
  v131 := Tryz.zeroValue112
  t182 := Tryz.underlying127
  a182 := Tryz.isAgg127
  z182 := Tryz.sizeOf127
  v182 := Tryz.zeroValue127
  t183 := Tryz.underlying128
  a183 := Tryz.isAgg128
  z183 := Tryz.sizeOf128
  v183 := Tryz.zeroValue128
  t218 := Tryz.underlying142
  a218 := Tryz.isAgg142
  z218 := Tryz.sizeOf142
  v218 := Tryz.zeroValue142
  t222 := Tryz.underlying146
  a222 := Tryz.isAgg146
  z222 := Tryz.sizeOf146
  v222 := Tryz.zeroValue146
  t228 := Tryz.underlying150
  a228 := Tryz.isAgg150
  z228 := Tryz.sizeOf150
  v228 := Tryz.zeroValue150
  t229 := Tryz.underlying151
  a229 := Tryz.isAgg151
  z229 := Tryz.sizeOf151
  v229 := Tryz.zeroValue151 }
end Go.Proofs
end
section
namespace Go.Proofs.YtabljchbchjjcaaGreatDoor
set_option linter.unusedVariables false
set_option linter.unusedSimpArgs false
open Go Go.RowKit Go.Sort
/-- The words in order. -/
def sortW (l : List ByteArray) : List ByteArray := ((rawL l).mergeSort fun x y => decide (x ≤ y)).map fun x => ⟨x.toArray⟩
theorem sortW_enc (l : List ByteArray) : strsV (sortW l) = ((rawL l).mergeSort fun x y => decide (x ≤ y)).map encStr := by
  unfold sortW strsV encStr
  rw [List.map_map]
  rfl
theorem sortW_length (l : List ByteArray) : (sortW l).length = l.length := by
  simp [sortW, rawL, List.length_mergeSort]
theorem sortW_perm (l : List ByteArray) : (sortW l).Perm l := by
  have h := (List.mergeSort_perm (rawL l) fun x y => decide (x ≤ y)).map fun x => (⟨x.toArray⟩ : ByteArray)
  have e : (rawL l).map (fun x => (⟨x.toArray⟩ : ByteArray)) = l := by
    unfold rawL
    rw [List.map_map]
    conv => rhs; rw [← List.map_id l]
    rfl
  rw [e] at h
  exact h
theorem grownBy_below {w w' : World} {B : Nat} {row : Option Nat} (h : w.grownBy w' row) (hB : B ≤ w.heap.size) (hr : ∀ j, row = some j → B ≤ j) : Below B w w' := (Below.refl B w).grown h hB hr
theorem Ext.grownBy {w w' w'' : World} {row : Option Nat} (k : Ext w w') (h : w'.grownBy w'' row) (hr : ∀ j, row = some j → w.heap.size ≤ j) : Ext w w'' := Below.grown k h k.size hr
theorem Ext.grown {w w' : World} (k : Ext w w') : w.grownBy w' none := ⟨k.below.os, k.below.tape, k.below.output, k.size, fun i hi _ => k.below.block i hi⟩
theorem LkT.grownBy {w w' : World} {b : Nat} {t : TypeId} {v : Value} {row : Option Nat} (h : LkT w b t v) (k : w.grownBy w' row) (hb : some b ≠ row) : LkT w' b t v := by
  unfold LkT
  rw [k.block b h.lt hb]
  exact h
theorem SortS_any (a : Option Addr) (c B : Nat) (l : List ByteArray) (w : World) (ho : Own w B 9 1 a l.length c (strsV l)) (hB : B ≤ w.heap.size) (hl : l.length ≤ 1048576) (he : l = [] → ∃ g, a = some ⟨g, 0, none⟩ ∧ B ≤ g ∧ g < w.heap.size) :
    Calls Tryz.prog 37 #[.slice a l.length c] w fun e w' => e = .returned (.tuple #[]) ∧ Own w' B 9 1 a l.length c (strsV (sortW l)) ∧ Below B w w' := by
  have hr : (rawL l).length = l.length := by simp [rawL]
  have empty : l = [] → c = 0 → Calls Tryz.prog 37 #[.slice a l.length c] w fun e w' => e = .returned (.tuple #[]) ∧ Own w' B 9 1 a l.length c (strsV (sortW l)) ∧ Below B w w' := by
    rintro rfl rfl
    obtain ⟨g, rfl, hg, hgl⟩ := he rfl
    refine (Any.slices_Sort_string Tryz.laysH190 g 0 0 [] w (fun j hj => absurd hj (by simp)) hgl (by decide)).mono ?_
    rintro e w' ⟨rfl, n, os, rfl⟩
    exact ⟨rfl, .inl ⟨rfl, rfl, by simp [sortW, rawL, strsV]⟩, grownBy_below (grownBy_sorted _) hB (fun j hj => by cases hj; exact hg)⟩
  rcases ho with ⟨n0, c0, e0⟩ | ho
  · exact empty (by cases l; rfl; simp at n0) c0
  rcases ho.2 with ⟨hv, n0⟩ | ⟨g, cap, cur, hv, hbase, hb, h1, h2, h3, h4⟩
  · simp only [Value.slice.injEq] at hv
    exact empty (by cases l; rfl; simp at n0) hv.2.2
  simp only [Value.slice.injEq] at hv
  obtain ⟨rfl, -, rfl⟩ := hv
  have hH : Holds encStr w g 0 (rawL l).toArray := holds_of_block hb (by rw [rawL_enc, hr]; simpa using h4)
  have hc := Any.slices_Sort_string Tryz.laysH190 g 0 c (rawL l) w hH (Array.getElem?_eq_some_iff.1 hb).1 (by omega)
  rw [hr] at hc
  refine hc.mono ?_
  rintro e w' ⟨rfl, n, os, rfl⟩
  refine ⟨rfl, .inr ?_, grownBy_below (grownBy_sorted _) hB (fun j hj => by cases hj; exact hbase)⟩
  have := ownsRow_sorted (n := n) (os := os) (ss := rawL l) (ts := (rawL l).mergeSort fun x y => decide (x ≤ y)) (List.length_mergeSort _) hbase hb (by rw [hr]; exact h1) h2 (by simpa using h3)
  rw [hr, ← sortW_enc] at this
  exact this
end Go.Proofs.YtabljchbchjjcaaGreatDoor
end
section
namespace Go.Proofs.YtabljchbchjjcaaGreatDoor
set_option linter.unusedVariables false
set_option linter.unusedSimpArgs false
open Go Go.RowKit
theorem mixed_start (l : List ByteArray) (k : Nat) : ((List.range l.length).map fun q => if q < 0 then Value.string (markTx (k + q)) else .string (l.getD q ⟨#[]⟩)) = strsV l := by
  apply List.ext_getElem
  · simp [strsV]
  · intro j h1 h2
    simp at h1
    simp [strsV, h1]
theorem mixed_end (l : List ByteArray) (k : Nat) : ((List.range l.length).map fun q => if q < l.length then Value.string (markTx (k + q)) else .string (l.getD q ⟨#[]⟩)) = strsV (marksL l.length k) := by
  apply List.ext_getElem
  · simp [strsV, marksL]
  · intro j h1 h2
    simp at h1
    simp [strsV, marksL, h1]
end Go.Proofs.YtabljchbchjjcaaGreatDoor
end
section
namespace Go.Proofs.YtabljchbchjjcaaGreatDoor
set_option linter.unusedVariables false
set_option linter.unusedSimpArgs false
open Go Go.RowKit
abbrev lexV (a : Option Addr) (n c : Nat) : Value := .agg #[.slice a n c]
def szX (L : Int) (l : List ByteArray) : Int := if szL L l < 0 then -1 else szL L l
theorem szX_ok {L : Int} {l : List ByteArray} (h0 : 0 ≤ L) (h : ¬ szX L l < 0) : (l.length : Int) + sumL l ≤ L ∧ szX L l = L - l.length - sumL l := by
  unfold szX at *
  split at h
  · omega
  · rename_i hn
    rw [if_neg hn]
    exact szL_ok h0 hn
theorem Wr.other {w : World} {g b o : Nat} {xs : List Value} {u : Value} (h : Wr w g xs) (hb : b ≠ g) : Wr (w.setCell ⟨b, o, none⟩ u) g xs :=
  ⟨by simpa [World.setCell] using h.1, fun j v hj => by rw [World.cell?_setCell_other _ _ _ _ (by intro e; exact hb (congrArg Addr.block e))]; exact h.2.1 j v hj, fun j hj => by simpa using h.2.2 j hj⟩
/-- A lexicon comes back, whose row is the call's own. -/
def RetX (l : List ByteArray) (w : World) (e : Ending) (w' : World) : Prop := ∃ a c, e = .returned (lexV a l.length c) ∧ OwnR w' w.heap.size a (strsV l) ∧ Ext w w'
end Go.Proofs.YtabljchbchjjcaaGreatDoor
end
