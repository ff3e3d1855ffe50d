/- Plays on a board: their squares, and which plays fit. Plain. -/
import Derived.Test.YtcgedkpbobgkhaaGreatDoorLwB
namespace Go.Proofs.YtcgedkpbobgkhaaGreatDoor
set_option linter.unusedVariables false
set_option linter.unusedSimpArgs false
open Go Go.RowKit
/-- The byte on the square with a number of a play that begins at r, c. -/
def plAt (n : Int) (cs : ByteArray) (r c : Int) (d : Bool) (i : Int) : Int := if d then sqAt n cs (r + i) c else sqAt n cs r (c + i)
def letB (x : Int) : Bool := decide (x ≠ 0) && decide (x ≠ 46)
def freeB (x : Int) : Bool := decide (x = 46)
theorem inRC_comm (n r c : Int) : inRC n r c = inRC n c r := by simp [inRC, Bool.and_comm]
theorem sqAt_out {n r c : Int} {s : ByteArray} (h : inRC n r c = false) : sqAt n s r c = 0 := by simp [sqAt, h]
theorem sqAt_turn (n : Nat) (s : ByteArray) (r c : Int) : sqAt n (turnS n s) r c = sqAt n s c r := by
  unfold sqAt
  rw [inRC_comm n r c]
  by_cases h : inRC n c r = true
  · rw [if_pos h, if_pos h]
    obtain ⟨a1, a2, a3, a4⟩ := inRC_true h
    obtain ⟨C, rfl⟩ := Int.eq_ofNat_of_zero_le a1
    obtain ⟨R, rfl⟩ := Int.eq_ofNat_of_zero_le a3
    have e1 : ((R : Int) * n + C).toNat = R * n + C := by rw [← Int.natCast_mul, ← Int.natCast_add, Int.toNat_natCast]
    have e2 : ((C : Int) * n + R).toNat = C * n + R := by rw [← Int.natCast_mul, ← Int.natCast_add, Int.toNat_natCast]
    have h1 : R < n := by simp at a4; omega
    have h2 : C < n := by simp at a2; omega
    have := turnL_get n s R C h1 h2 n h1
    simp only [Int.ofNat_eq_natCast, e1, e2]
    have q : bAt (turnS n s) (R * n + C) = bAt s (C * n + R) := by
      rw [← this]
      rfl
    rw [q]
  · rw [if_neg h, if_neg h]
/-- On a board whose cells are letters or free, what is not free is a letter. -/
theorem sqAt_cell {n : Int} {cs : ByteArray} (h1 : 5 ≤ n) (h2 : n ≤ 15) (hs : (cs.size : Int) = n * n) (ha : allB cellB cs = true) {r c : Int} (hr : inRC n r c = true) : cellB (sqAt n cs r c) = true := by
  obtain ⟨e1, e2, e3, e4, e5⟩ := sq_index h1 h2 hs hr
  rw [← sqAt_in hr e5]
  unfold allB at ha
  rw [List.all_eq_true] at ha
  have h' : (r * n + c).toNat < cs.data.size := e5
  exact ha cs[(r * n + c).toNat] (Array.mem_toList_iff.2 (Array.getElem_mem h'))
theorem sqAt_ne {n : Int} {cs : ByteArray} (h1 : 5 ≤ n) (h2 : n ≤ 15) (hs : (cs.size : Int) = n * n) (ha : allB cellB cs = true) {r c : Int} (hr : inRC n r c = true) : sqAt n cs r c ≠ 0 := by
  have := sqAt_cell h1 h2 hs ha hr
  intro e
  rw [e] at this
  exact absurd this (by decide)
theorem full_eq {n : Int} {cs : ByteArray} (h1 : 5 ≤ n) (h2 : n ≤ 15) (hs : (cs.size : Int) = n * n) (ha : allB cellB cs = true) (r c : Int) : (inRC n r c && decide (sqAt n cs r c ≠ 46)) = letB (sqAt n cs r c) := by
  unfold letB
  cases hr : inRC n r c
  · rw [sqAt_out hr]; rfl
  · have := sqAt_ne h1 h2 hs ha hr
    simp [this]
/-- The places of a word where the squares are free. -/
def frL (g : Nat → Int) (m : Nat) : List Nat := (List.range m).filter fun i => freeB (g i)
theorem frL_succ (g : Nat → Int) (m : Nat) : frL g (m + 1) = frL g m ++ if freeB (g m) then [m] else [] := by
  unfold frL
  rw [List.range_succ, List.filter_append]
  cases h : freeB (g m) <;> simp [h]
theorem frL_le (g : Nat → Int) (m : Nat) : (frL g m).length ≤ m := by
  have := List.length_filter_le (fun i => freeB (g i)) (List.range m)
  rw [List.length_range] at this
  exact this
theorem frL_lt {g : Nat → Int} {m i : Nat} (h : i ∈ frL g m) : i < m := List.mem_range.1 (List.mem_filter.1 h).1
theorem frL_free {g : Nat → Int} {m i : Nat} (h : i ∈ frL g m) : freeB (g i) = true := by simpa using (List.mem_filter.1 h).2
/-- Each square is free or has the word's letter, and one is free. -/
def fitB (g : Nat → Int) (s : ByteArray) : Bool := ((List.range s.size).all fun i => freeB (g i) || decide (g i = (bAt s i).toNat)) && (List.range s.size).any fun i => freeB (g i)
def anyF (g : Nat → Int) (k : Nat) : Bool := (List.range k).any fun i => freeB (g i)
theorem anyF_succ (g : Nat → Int) (k : Nat) : anyF g (k + 1) = (anyF g k || freeB (g k)) := by simp [anyF, List.range_succ]
theorem fitB_no {g : Nat → Int} {s : ByteArray} (i : Nat) (hi : i < s.size) (h1 : freeB (g i) = false) (h2 : g i ≠ (bAt s i).toNat) : fitB g s = false := by
  unfold fitB
  rw [Bool.and_eq_false_iff]
  left
  rw [List.all_eq_false]
  exact ⟨i, List.mem_range.2 hi, by simp [h1, h2]⟩
theorem fitB_yes {g : Nat → Int} {s : ByteArray} (h : ∀ i, i < s.size → (freeB (g i) || decide (g i = (bAt s i).toNat)) = true) : fitB g s = anyF g s.size := by
  unfold fitB
  have : ((List.range s.size).all fun i => freeB (g i) || decide (g i = (bAt s i).toNat)) = true := by
    rw [List.all_eq_true]
    intro i hi
    exact h i (List.mem_range.1 hi)
  rw [this]
  rfl
def letterB (c : Int) : Bool := smallB c || capB c
/-- A word that may be placed as a main word. -/
def mainB (s : ByteArray) : Bool := decide (2 ≤ s.size ∧ s.size ≤ 12) && allB letterB s
/-- A play that is valid on a valid board. -/
def playB (n : Int) (cs : ByteArray) (r c : Int) (d : Bool) (s : ByteArray) : Bool :=
  mainB s && (inRC n r c && (decide ((if d then r else c) + s.size ≤ n) && (!letB (plAt n cs r c d (-1)) && (!letB (plAt n cs r c d s.size) && fitB (fun i => plAt n cs r c d i) s))))
def okP (n : Int) (p cs : ByteArray) (r c : Int) (d : Bool) (s : ByteArray) : Bool := okB n p cs && playB n cs r c d s
theorem plAt_in {n r c : Int} {d : Bool} {m : Nat} (hr : inRC n r c = true) (hl : (if d then r else c) + (m : Int) ≤ n) (i : Nat) (hi : i < m) : inRC n (if d then r + i else r) (if d then c else c + i) = true := by
  obtain ⟨a1, a2, a3, a4⟩ := inRC_true hr
  cases d <;> simp [inRC, inB] at hl ⊢ <;> omega
theorem plAt_eq (n : Int) (cs : ByteArray) (r c : Int) (d : Bool) (i : Int) : plAt n cs r c d i = sqAt n cs (if d then r + i else r) (if d then c else c + i) := by
  cases d <;> rfl
theorem plAt_flat (n : Nat) (cs : ByteArray) (r c : Int) (d : Bool) (i : Int) : sqAt n (if d then turnS n cs else cs) (if d then c else r) ((if d then r else c) + i) = plAt n cs r c d i := by
  cases d
  · rfl
  · simp only [if_true, plAt]
    exact sqAt_turn n cs _ _
end Go.Proofs.YtcgedkpbobgkhaaGreatDoor
