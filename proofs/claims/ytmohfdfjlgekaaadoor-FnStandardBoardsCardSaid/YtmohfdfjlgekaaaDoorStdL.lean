/- The standard board looks the same from all four sides. Plain. Conditions: a size of 5 to 15. -/
import Derived.Test.YtmohfdfjlgekaaaDoorCh11k
import Derived.Test.YtmohfdfjlgekaaaDoorSetL
namespace Go.Proofs.YtmohfdfjlgekaaaDoor
set_option linter.unusedVariables false
set_option linter.unusedSimpArgs false
open Go Go.RowKit
theorem stdP_turn (n r c : Int) : stdP n c r = stdP n r c := by
  unfold stdP
  rw [Int.min_comm (min c (n - 1 - c)), Int.max_comm (min c (n - 1 - c))]
theorem stdP_flip (n r c : Int) : stdP n (n - 1 - r) c = stdP n r c := by
  have h : min (n - 1 - r) (n - 1 - (n - 1 - r)) = min r (n - 1 - r) := by
    rw [show n - 1 - (n - 1 - r) = r by omega, Int.min_comm]
  unfold stdP
  rw [h]
theorem stdP_flip2 (n r c : Int) : stdP n r (n - 1 - c) = stdP n r c := by rw [stdP_turn, stdP_flip, stdP_turn]
theorem stdL_get (n : Nat) (r c : Nat) (hc : c < n) : ∀ m, r < m → (stdL n m).getD (r * n + c) 0 = stdP n r c
  | 0, h => by omega
  | m + 1, h => by
    rw [stdL_succ]
    by_cases hr : r < m
    · have hl : r * n + c < (stdL n m).length := by
        rw [stdL_length]
        have := Nat.mul_le_mul_right n (show r + 1 ≤ m from hr)
        rw [Nat.add_mul] at this
        omega
      rw [List.getD_eq_getElem?_getD, List.getElem?_append_left hl, ← List.getD_eq_getElem?_getD]
      exact stdL_get n r c hc m hr
    · obtain rfl : r = m := by omega
      rw [List.getD_eq_getElem?_getD, List.getElem?_append_right (by rw [stdL_length]; omega), stdL_length]
      have e : r * n + c - r * n = c := by omega
      rw [e]
      simp [stdCol, hc]
theorem bAt_std (n r c : Nat) (hr : r < n) (hc : c < n) : bAt (stdS n) (r * n + c) = stdP n r c := by
  have := stdL_get n r c hc n hr
  have hl : r * n + c < (stdL n n).length := by
    rw [stdL_length]
    have := Nat.mul_le_mul_right n (show r + 1 ≤ n from hr)
    rw [Nat.add_mul] at this
    omega
  rw [← this]
  simp [bAt, stdS, List.getD_eq_getElem?_getD, hl]
theorem sq_std (n r c : Int) (h1 : 5 ≤ n) (hr : inRC n r c = true) : sqAt n (stdS n.toNat) r c = ((stdP n r c).toNat : Int) := by
  obtain ⟨r0, r1, c0, c1⟩ := inRC_true hr
  rw [sqAt_bAt hr]
  obtain ⟨m, rfl⟩ : ∃ m : Nat, n = m := ⟨n.toNat, by omega⟩
  obtain ⟨i, rfl⟩ : ∃ i : Nat, r = i := ⟨r.toNat, by omega⟩
  obtain ⟨j, rfl⟩ : ∃ j : Nat, c = j := ⟨c.toNat, by omega⟩
  have e : ((i : Int) * (m : Int) + (j : Int)).toNat = i * m + j := by
    rw [show (i : Int) * (m : Int) + (j : Int) = ((i * m + j : Nat) : Int) by push_cast; rfl]
    omega
  rw [e, show ((m : Int)).toNat = m by omega, bAt_std m i j (by omega) (by omega)]
theorem sq_free (n r c : Int) (h1 : 5 ≤ n) (hr : inRC n r c = true) : sqAt n (freeS (n * n).toNat) r c = 46 := by
  obtain ⟨r0, r1, c0, c1⟩ := inRC_true hr
  rw [sqAt_bAt hr]
  have hl : (r * n + c).toNat < (n * n).toNat := by
    have h2 : (r + 1) * n ≤ n * n := Int.mul_le_mul_of_nonneg_right (by omega) (by omega)
    rw [Int.add_mul] at h2
    have h3 : 0 ≤ r * n := Int.mul_nonneg r0 (by omega)
    omega
  simp [bAt, freeS, hl]
theorem inRC_turn {n r c : Int} (h : inRC n r c = true) : inRC n c r = true ∧ inRC n (n - 1 - r) c = true ∧ inRC n r (n - 1 - c) = true := by
  obtain ⟨r0, r1, c0, c1⟩ := inRC_true h
  refine ⟨?_, ?_, ?_⟩ <;> simp [inRC, inB] <;> omega
theorem stdP_ok (n r c : Int) : premB ((stdP n r c).toNat : Int) = true := by
  unfold stdP stdQ
  (repeat' split) <;> rfl
theorem okB_std (n : Int) (h1 : 5 ≤ n) (h2 : n ≤ 15) : okB n (stdS n.toNat) (freeS (n * n).toNat) = true := by
  obtain ⟨m, rfl⟩ : ∃ m : Nat, n = m := ⟨n.toNat, by omega⟩
  have e : ((m : Int) * (m : Int)).toNat = m * m := by rw [show (m : Int) * (m : Int) = ((m * m : Nat) : Int) by push_cast; rfl]; omega
  have e2 : ((m : Int)).toNat = m := by omega
  have hp : (stdS m).size = m * m := by show (stdL m m).toArray.size = _; simp [stdL_length]
  have hf : (freeS (m * m)).size = m * m := by show (List.replicate (m * m) (46 : UInt8)).toArray.size = _; simp
  unfold okB
  rw [e, e2]
  have q1 : inB (m : Int) 5 15 = true := by simp [inB]; omega
  have q2 : decide (((stdS m).size : Int) = (m : Int) * m) = true := by rw [hp]; simp
  have q3 : decide (((freeS (m * m)).size : Int) = (m : Int) * m) = true := by rw [hf]; simp
  have q4 : allB premB (stdS m) = true := allB_yes premB _ (fun k hk => by
    rw [bAt_eq _ _ hk]
    rw [hp] at hk
    have hm : 0 < m := by omega
    have e3 : k = (k / m) * m + k % m := by rw [Nat.mul_comm]; exact (Nat.div_add_mod k m).symm
    rw [e3, bAt_std m (k / m) (k % m) (Nat.div_lt_of_lt_mul hk) (Nat.mod_lt _ hm)]
    exact stdP_ok _ _ _)
  have q5 : allB cellB (freeS (m * m)) = true := allB_yes cellB _ (fun k hk => by
    have : (freeS (m * m))[k] = 46 := by
      show (List.replicate (m * m) (46 : UInt8)).toArray[k]'_ = 46
      simp
    rw [this]
    rfl)
  rw [q1, q2, q3, q4, q5]
  rfl
theorem allB_free (k : Nat) : allB premB (freeS k) = true := allB_yes premB _ (fun j hj => by
    have : (freeS k)[j] = 46 := by
      show (List.replicate k (46 : UInt8)).toArray[j]'_ = 46
      simp
    rw [this]
    rfl)
theorem okB_free (n : Int) (h1 : 5 ≤ n) (h2 : n ≤ 15) : okB n (freeS (n * n).toNat) (freeS (n * n).toNat) = true := by
  obtain ⟨m, rfl⟩ : ∃ m : Nat, n = m := ⟨n.toNat, by omega⟩
  have e : ((m : Int) * (m : Int)).toNat = m * m := by rw [show (m : Int) * (m : Int) = ((m * m : Nat) : Int) by push_cast; rfl]; omega
  have hf : (freeS (m * m)).size = m * m := by show (List.replicate (m * m) (46 : UInt8)).toArray.size = _; simp
  unfold okB
  rw [e]
  have q1 : inB (m : Int) 5 15 = true := by simp [inB]; omega
  have q3 : decide (((freeS (m * m)).size : Int) = (m : Int) * m) = true := by rw [hf]; simp
  have q5 : allB cellB (freeS (m * m)) = true := allB_yes cellB _ (fun k hk => by
    have : (freeS (m * m))[k] = 46 := by
      show (List.replicate (m * m) (46 : UInt8)).toArray[k]'_ = 46
      simp
    rw [this]
    rfl)
  rw [q1, q3, allB_free, q5]
  rfl
/-- What the law asks of a standard board. -/
theorem std_sides (n r c : Int) (h1 : 5 ≤ n) (h2 : n ≤ 15) (hr : inRC n r c = true) :
    premAtR n (stdS n.toNat) (freeS (n * n).toNat) c r = premAtR n (stdS n.toNat) (freeS (n * n).toNat) r c ∧ premAtR n (stdS n.toNat) (freeS (n * n).toNat) (n - 1 - r) c = premAtR n (stdS n.toNat) (freeS (n * n).toNat) r c ∧ premAtR n (stdS n.toNat) (freeS (n * n).toNat) r (n - 1 - c) = premAtR n (stdS n.toNat) (freeS (n * n).toNat) r c ∧ cellAtR n (stdS n.toNat) (freeS (n * n).toNat) r c = 46 := by
  obtain ⟨i1, i2, i3⟩ := inRC_turn hr
  unfold premAtR cellAtR
  simp only [okB_std n h1 h2, if_true]
  rw [sq_std n _ _ h1 i1, sq_std n _ _ h1 i2, sq_std n _ _ h1 i3, sq_std n _ _ h1 hr, stdP_turn, stdP_flip, stdP_flip2, sq_free n r c h1 hr]
  exact ⟨rfl, rfl, rfl, rfl⟩
theorem std_corner (n : Int) (h1 : 5 ≤ n) (h2 : n ≤ 15) : premAtR n (stdS n.toNat) (freeS (n * n).toNat) 0 0 = 116 := by
  have hr : inRC n 0 0 = true := by simp [inRC, inB]; omega
  unfold premAtR
  simp only [okB_std n h1 h2, if_true]
  rw [sq_std n _ _ h1 hr]
  have : stdP n 0 0 = 116 := by
    unfold stdP
    rw [show min (0 : Int) (n - 1 - 0) = 0 by omega]
    simp [stdQ]
  rw [this]
  rfl
end Go.Proofs.YtmohfdfjlgekaaaDoor
