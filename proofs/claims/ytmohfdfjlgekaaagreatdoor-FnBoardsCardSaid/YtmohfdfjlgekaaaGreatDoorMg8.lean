/- Several texts in one: Ch12b, LetL. Conditions: see each. -/
import Derived.Test.YtmohfdfjlgekaaaGreatDoorMg7
section
namespace Go.Proofs.YtmohfdfjlgekaaaGreatDoor
set_option linter.unusedVariables false
set_option linter.unusedSimpArgs false
open Go Go.RowKit
/-- The byte on the square with a number of a play that begins at r, c. -/
def plAt (n : Int) (cs : ByteArray) (r c : Int) (d : Bool) (i : Int) : Int := if d then sqAt n cs (r + i) c else sqAt n cs r (c + i)
def letB (x : Int) : Bool := decide (x ≠ 0) && decide (x ≠ 46)
def freeB (x : Int) : Bool := decide (x = 46)
theorem inRC_comm (n r c : Int) : inRC n r c = inRC n c r := by simp [inRC, Bool.and_comm]
theorem sqAt_out {n r c : Int} {s : ByteArray} (h : inRC n r c = false) : sqAt n s r c = 0 := by simp [sqAt, h]
theorem sqAt_turn (n : Nat) (s : ByteArray) (r c : Int) : sqAt n (turnS n s) r c = sqAt n s c r := by
  unfold sqAt
  rw [inRC_comm n r c]
  by_cases h : inRC n c r = true
  · rw [if_pos h, if_pos h]
    obtain ⟨a1, a2, a3, a4⟩ := inRC_true h
    obtain ⟨C, rfl⟩ := Int.eq_ofNat_of_zero_le a1
    obtain ⟨R, rfl⟩ := Int.eq_ofNat_of_zero_le a3
    have e1 : ((R : Int) * n + C).toNat = R * n + C := by rw [← Int.natCast_mul, ← Int.natCast_add, Int.toNat_natCast]
    have e2 : ((C : Int) * n + R).toNat = C * n + R := by rw [← Int.natCast_mul, ← Int.natCast_add, Int.toNat_natCast]
    have h1 : R < n := by simp at a4; omega
    have h2 : C < n := by simp at a2; omega
    have := turnL_get n s R C h1 h2 n h1
    simp only [Int.ofNat_eq_natCast, e1, e2]
    have q : bAt (turnS n s) (R * n + C) = bAt s (C * n + R) := by
      rw [← this]
      rfl
    rw [q]
  · rw [if_neg h, if_neg h]
/-- On a board whose cells are letters or free, what is not free is a letter. -/
theorem sqAt_cell {n : Int} {cs : ByteArray} (h1 : 5 ≤ n) (h2 : n ≤ 15) (hs : (cs.size : Int) = n * n) (ha : allB cellB cs = true) {r c : Int} (hr : inRC n r c = true) : cellB (sqAt n cs r c) = true := by
  obtain ⟨e1, e2, e3, e4, e5⟩ := sq_index h1 h2 hs hr
  rw [← sqAt_in hr e5]
  unfold allB at ha
  rw [List.all_eq_true] at ha
  have h' : (r * n + c).toNat < cs.data.size := e5
  exact ha cs[(r * n + c).toNat] (Array.mem_toList_iff.2 (Array.getElem_mem h'))
theorem sqAt_ne {n : Int} {cs : ByteArray} (h1 : 5 ≤ n) (h2 : n ≤ 15) (hs : (cs.size : Int) = n * n) (ha : allB cellB cs = true) {r c : Int} (hr : inRC n r c = true) : sqAt n cs r c ≠ 0 := by
  have := sqAt_cell h1 h2 hs ha hr
  intro e
  rw [e] at this
  exact absurd this (by decide)
theorem full_eq {n : Int} {cs : ByteArray} (h1 : 5 ≤ n) (h2 : n ≤ 15) (hs : (cs.size : Int) = n * n) (ha : allB cellB cs = true) (r c : Int) : (inRC n r c && decide (sqAt n cs r c ≠ 46)) = letB (sqAt n cs r c) := by
  unfold letB
  cases hr : inRC n r c
  · rw [sqAt_out hr]; rfl
  · have := sqAt_ne h1 h2 hs ha hr
    simp [this]
/-- The places of a word where the squares are free. -/
def frL (g : Nat → Int) (m : Nat) : List Nat := (List.range m).filter fun i => freeB (g i)
theorem frL_succ (g : Nat → Int) (m : Nat) : frL g (m + 1) = frL g m ++ if freeB (g m) then [m] else [] := by
  unfold frL
  rw [List.range_succ, List.filter_append]
  cases h : freeB (g m) <;> simp [h]
theorem frL_le (g : Nat → Int) (m : Nat) : (frL g m).length ≤ m := by
  have := List.length_filter_le (fun i => freeB (g i)) (List.range m)
  rw [List.length_range] at this
  exact this
theorem frL_lt {g : Nat → Int} {m i : Nat} (h : i ∈ frL g m) : i < m := List.mem_range.1 (List.mem_filter.1 h).1
theorem frL_free {g : Nat → Int} {m i : Nat} (h : i ∈ frL g m) : freeB (g i) = true := by simpa using (List.mem_filter.1 h).2
/-- Each square is free or has the word's letter, and one is free. -/
def fitB (g : Nat → Int) (s : ByteArray) : Bool := ((List.range s.size).all fun i => freeB (g i) || decide (g i = (bAt s i).toNat)) && (List.range s.size).any fun i => freeB (g i)
def anyF (g : Nat → Int) (k : Nat) : Bool := (List.range k).any fun i => freeB (g i)
theorem anyF_succ (g : Nat → Int) (k : Nat) : anyF g (k + 1) = (anyF g k || freeB (g k)) := by simp [anyF, List.range_succ]
theorem fitB_no {g : Nat → Int} {s : ByteArray} (i : Nat) (hi : i < s.size) (h1 : freeB (g i) = false) (h2 : g i ≠ (bAt s i).toNat) : fitB g s = false := by
  unfold fitB
  rw [Bool.and_eq_false_iff]
  left
  rw [List.all_eq_false]
  exact ⟨i, List.mem_range.2 hi, by simp [h1, h2]⟩
theorem fitB_yes {g : Nat → Int} {s : ByteArray} (h : ∀ i, i < s.size → (freeB (g i) || decide (g i = (bAt s i).toNat)) = true) : fitB g s = anyF g s.size := by
  unfold fitB
  have : ((List.range s.size).all fun i => freeB (g i) || decide (g i = (bAt s i).toNat)) = true := by
    rw [List.all_eq_true]
    intro i hi
    exact h i (List.mem_range.1 hi)
  rw [this]
  rfl
def letterB (c : Int) : Bool := smallB c || capB c
/-- A word that may be placed as a main word. -/
def mainB (s : ByteArray) : Bool := decide (2 ≤ s.size ∧ s.size ≤ 12) && allB letterB s
/-- A play that is valid on a valid board. -/
def playB (n : Int) (cs : ByteArray) (r c : Int) (d : Bool) (s : ByteArray) : Bool :=
  mainB s && (inRC n r c && (decide ((if d then r else c) + s.size ≤ n) && (!letB (plAt n cs r c d (-1)) && (!letB (plAt n cs r c d s.size) && fitB (fun i => plAt n cs r c d i) s))))
def okP (n : Int) (p cs : ByteArray) (r c : Int) (d : Bool) (s : ByteArray) : Bool := okB n p cs && playB n cs r c d s
theorem plAt_in {n r c : Int} {d : Bool} {m : Nat} (hr : inRC n r c = true) (hl : (if d then r else c) + (m : Int) ≤ n) (i : Nat) (hi : i < m) : inRC n (if d then r + i else r) (if d then c else c + i) = true := by
  obtain ⟨a1, a2, a3, a4⟩ := inRC_true hr
  cases d <;> simp [inRC, inB] at hl ⊢ <;> omega
theorem plAt_eq (n : Int) (cs : ByteArray) (r c : Int) (d : Bool) (i : Int) : plAt n cs r c d i = sqAt n cs (if d then r + i else r) (if d then c else c + i) := by
  cases d <;> rfl
theorem plAt_flat (n : Nat) (cs : ByteArray) (r c : Int) (d : Bool) (i : Int) : sqAt n (if d then turnS n cs else cs) (if d then c else r) ((if d then r else c) + i) = plAt n cs r c d i := by
  cases d
  · rfl
  · simp only [if_true, plAt]
    exact sqAt_turn n cs _ _
end Go.Proofs.YtmohfdfjlgekaaaGreatDoor
end
section
namespace Go.Proofs.YtmohfdfjlgekaaaGreatDoor
set_option linter.unusedVariables false
set_option linter.unusedSimpArgs false
open Go Go.RowKit
set_option maxHeartbeats 400000 in
theorem letter_any (n : Int) (p c : ByteArray) (i j : Int) (w : World) (h1 : 5 ≤ n) (h2 : n ≤ 15) (hc : (c.size : Int) = n * n) :
    Calls Tryz.prog 42 #[boardV n p c, .int .i64 i, .int .i64 j] w (Ret (.bool (letB (sqAt n c i j))) w) := by
  have HC := hid (fun w => cell_any n p c i j w h1 h2 hc)
  clear hc
  obtain ⟨x, hx⟩ : ∃ x, sqAt n c i j = x := ⟨_, rfl⟩
  rw [hx] at HC ⊢
  clear hx
  have HL : Hid (letB x = (decide (x ≠ 0) && decide (x ≠ 46))) := hid rfl
  by_cases a0 : x = 0
  · subst a0
    go_enter Tryz.func42, Tryz.ntmps42
    go_wp2_with fail
    refine (HC.out _).mono ?_
    rintro e w1 ⟨rfl, hx⟩
    go_wp2_with fail
    go_returns
    exact ⟨rfl, ((Ext.refl w).alloc _).trans hx⟩
  · by_cases a1 : x = 46
    · subst a1
      go_enter Tryz.func42, Tryz.ntmps42
      go_wp2_with fail
      refine (HC.out _).mono ?_
      rintro e w1 ⟨rfl, hx⟩
      go_wp2_with fail
      go_returns
      exact ⟨rfl, ((Ext.refl w).alloc _).trans hx⟩
    · have q0 : (x != 0) = true := by simpa using a0
      have q1 : (x != 46) = true := by simpa using a1
      have A := hid (And.intro a0 a1)
      clear a0 a1
      go_enter Tryz.func42, Tryz.ntmps42
      go_wp2_with fail
      refine (HC.out _).mono ?_
      rintro e w1 ⟨rfl, hx⟩
      go_wp2_with fail
      go_returns
      exact ⟨ret_bool (by rw [HL.out]; simp [A.out.1, A.out.2]), ((Ext.refl w).alloc _).trans hx⟩
set_option maxHeartbeats 400000 in
theorem l11Full_any (b o : Nat) (n : Int) (p c : ByteArray) (i j : Int) (w : World) (hB : BdAt w b o n p c) (h1 : 5 ≤ n) (h2 : n ≤ 15) (hc : (c.size : Int) = n * n) :
    Calls Tryz.prog 83 #[.pointer (some ⟨b, o, none⟩), .int .i64 i, .int .i64 j] w fun e w' => e = .returned (.bool (inRC n i j && decide (sqAt n c i j ≠ 46))) ∧ Dr w w' := by
  have HB := hid hB
  have HC := hid hc
  clear hB hc
  go_enter Tryz.func83, Tryz.ntmps83
  go_wp2_with fail
  refine (l11In_any b o n p c i j _ HB.out h1 h2).mono ?_
  rintro e w1 ⟨rfl, rfl⟩
  cases hr : inRC n i j
  · have HR := hid hr
    clear hr
    go_wp2_with fail
    go_returns
    exact ⟨ret_bool (by rw [HR.out]; rfl), Dr.refl _⟩
  · have HR := hid hr
    clear hr
    go_wp2_with fail
    refine (l11At_any b o n p c i j _ HB.out h1 h2 HC.out HR.out).mono ?_
    rintro e w1 ⟨rfl, hD⟩
    obtain ⟨x, hx⟩ : ∃ x, sqAt n c i j = x := ⟨_, rfl⟩
    rw [hx]
    go_wp2_with fail
    go_returns
    exact ⟨ret_bool (by rw [HR.out]; simp [hx]; rfl), hD⟩
end Go.Proofs.YtmohfdfjlgekaaaGreatDoor
end
