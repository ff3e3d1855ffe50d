/- The text of a play, read again. Plain. No condition. -/
import Derived.Test.YtdecakimhjieeaaDoorCh12s
import Derived.Test.YtdecakimhjieeaaDoorCh11w
namespace Go.Proofs.YtdecakimhjieeaaDoor
set_option linter.unusedVariables false
set_option linter.unusedSimpArgs false
open Go Go.RowKit
theorem unl_append (c : UInt8) (a b : List ByteArray) : unl c (a ++ b) = unl c a ++ unl c b := by
  unfold unl
  rw [List.flatMap_append]
theorem unl_cut (c : UInt8) (s : ByteArray) : ∀ k, k ≤ s.size → unl c (cutC c s k).1 = s.data.toList.take (cutC c s k).2
  | 0, _ => by simp [cutC, unl]
  | k + 1, hk => by
    have ih := unl_cut c s k (by omega)
    have hle := (cutC_le c s k).1
    unfold cutC
    by_cases hc : bAt s k = c
    · rw [if_pos hc]
      simp only
      rw [unl_append, ih]
      have e1 : unl c [s.extract (cutC c s k).2 k] = (s.data.toList.drop (cutC c s k).2).take (k - (cutC c s k).2) ++ [c] := by
        simp [unl, extract_list]
      rw [e1, ← List.append_assoc, ← List.take_add, show (cutC c s k).2 + (k - (cutC c s k).2) = k by omega]
      have h1 := at_someC (show k < s.size by omega)
      rw [hc] at h1
      rw [List.take_add_one, h1]
      rfl
    · rw [if_neg hc]
      exact ih
theorem unl_split (c : UInt8) (s : ByteArray) : unl c (splitC c s) = s.data.toList ++ [c] := by
  unfold splitC
  rw [unl_append, unl_cut c s s.size (Nat.le_refl _)]
  have e1 : unl c [s.extract (cutC c s s.size).2 s.size] = (s.data.toList.drop (cutC c s s.size).2).take (s.size - (cutC c s s.size).2) ++ [c] := by
    simp [unl, extract_list]
  have e2 : (s.data.toList.drop (cutC c s s.size).2).take (s.size - (cutC c s s.size).2) = s.data.toList.drop (cutC c s s.size).2 := List.take_of_length_le (by rw [List.length_drop, list_len]; omega)
  rw [e1, e2, ← List.append_assoc, List.take_append_drop]
theorem split_two {c : UInt8} {s a b : ByteArray} (h : splitC c s = [a, b]) : s.data.toList = a.data.toList ++ c :: b.data.toList := by
  have := unl_split c s
  rw [h] at this
  have e : unl c [a, b] = (a.data.toList ++ c :: b.data.toList) ++ [c] := by simp [unl]
  rw [e] at this
  exact (List.append_cancel_right this).symm
theorem index_at (c : UInt8) : ∀ (x y : List UInt8), (∀ u ∈ x, u ≠ c) → Lib.index (x ++ c :: y) [c] = x.length
  | [], y, _ => by rw [List.nil_append, Lib.index]; simp [List.isPrefixOf]
  | b :: x, y, h => by
    have ih := index_at c x y (fun u hu => h u (List.mem_cons_of_mem _ hu))
    have hb := h b (List.mem_cons_self ..)
    have hp : ([c] : List UInt8).isPrefixOf (b :: (x ++ c :: y)) = false := by simp [List.isPrefixOf, Ne.symm hb]
    rw [List.cons_append, Lib.index, hp, ih]
    simp only [Bool.false_eq_true, if_false]
    rw [if_neg]
    · simp
    · rw [beq_iff_eq]
      omega
theorem cut_at (c : UInt8) (x y : List UInt8) (h : ∀ u ∈ x, u ≠ c) : Lib.cut (x ++ c :: y) [c] = (x, y, true) := by
  unfold Lib.cut
  rw [index_at c x y h, if_pos (by omega)]
  simp
/-- Where a play begins, as a text. -/
def plcS (r c : Int) (d : Bool) : ByteArray := if d then colS c ++ decS (r + 1).toNat else decS (r + 1).toNat ++ colS c
theorem playOk_in {r c : Int} {t : ByteArray} (h : playOk r c t = true) : 0 ≤ r ∧ r ≤ 14 ∧ 0 ≤ c ∧ c ≤ 14 ∧ ∀ u ∈ t.data.toList, u ≠ 32 := by
  unfold playOk at h
  simp only [Bool.and_eq_true] at h
  obtain ⟨h1, h2, h3⟩ := h
  obtain ⟨a1, a2⟩ := inB_true h1
  obtain ⟨b1, b2⟩ := inB_true h2
  refine ⟨a1, a2, b1, b2, fun u hu e => ?_⟩
  subst e
  unfold mainB at h3
  rw [Bool.and_eq_true] at h3
  have := List.all_eq_true.1 h3.2 _ hu
  exact absurd this (by decide)
theorem playT_list {r c : Int} {d : Bool} {t : ByteArray} (h : playOk r c t = true) : (playT r c d t).data.toList = (plcS r c d).data.toList ++ 32 :: t.data.toList := by
  unfold playT plcS
  rw [if_pos h]
  cases d
  · simp [ByteArray.data_append]
  · simp [ByteArray.data_append]
theorem plcS_list (r c : Int) (d : Bool) : (plcS r c d).data.toList = if d then UInt8.ofNat (97 + c.toNat) :: (decS (r + 1).toNat).data.toList else (decS (r + 1).toNat).data.toList ++ [UInt8.ofNat (97 + c.toNat)] := by
  unfold plcS colS
  cases d
  · simp [ByteArray.data_append]
  · simp [ByteArray.data_append]
theorem colU (c : Int) (h0 : 0 ≤ c) (h1 : c ≤ 14) : (UInt8.ofNat (97 + c.toNat)).toNat = 97 + c.toNat := by simp; omega
theorem plcS_no {r c : Int} (d : Bool) (h0 : 0 ≤ r) (h1 : r ≤ 14) (h2 : 0 ≤ c) (h3 : c ≤ 14) : ∀ u ∈ (plcS r c d).data.toList, u ≠ 32 := by
  intro u hu e
  subst e
  rw [plcS_list] at hu
  have hd := (dec_facts (r + 1).toNat (by omega)).2.1 32
  have hc := colU c h2 h3
  cases d
  · simp only [Bool.false_eq_true, if_false, List.mem_append, List.mem_singleton] at hu
    rcases hu with hu | hu
    · exact absurd (hd hu).1 (by decide)
    · rw [← hu] at hc
      have : (32 : UInt8).toNat = 32 := rfl
      omega
  · simp only [if_true, List.mem_cons] at hu
    rcases hu with hu | hu
    · rw [← hu] at hc
      have : (32 : UInt8).toNat = 32 := rfl
      omega
    · exact absurd (hd hu).1 (by decide)
/-- What a place says. -/
def plcD (p : ByteArray) : Bool := smallB (bAt p 0).toNat
def plcN (p : ByteArray) : ByteArray := if plcD p then p.extract 1 p.size else p.extract 0 (p.size - 1)
def plcL (p : ByteArray) : UInt8 := if plcD p then bAt p 0 else bAt p (p.size - 1)
theorem dec_size1 (m : Nat) (h : m < 100) : 1 ≤ (decS m).size := (dec_facts m h).2.2
theorem plcS_parts {r c : Int} (d : Bool) (h0 : 0 ≤ r) (h1 : r ≤ 14) (h2 : 0 ≤ c) (h3 : c ≤ 14) : 2 ≤ (plcS r c d).size ∧ plcD (plcS r c d) = d ∧ plcN (plcS r c d) = decS (r + 1).toNat ∧ (plcL (plcS r c d)).toNat = 97 + c.toNat := by
  have hz := dec_size1 (r + 1).toNat (by omega)
  have hl := list_len (decS (r + 1).toNat)
  have hsz : (plcS r c d).size = (decS (r + 1).toNat).size + 1 := by
    rw [← list_len (plcS r c d), plcS_list]
    cases d
    · simp [hl]
    · simp [hl]
  have hc := colU c h2 h3
  obtain ⟨a, t, e, ha, hb⟩ := dec_head (r + 1).toNat (by omega)
  have h00 : bAt (plcS r c d) 0 = if d then UInt8.ofNat (97 + c.toNat) else a := by
    unfold bAt
    rw [plcS_list]
    cases d
    · rw [e]; rfl
    · rfl
  have hD : plcD (plcS r c d) = d := by
    unfold plcD
    rw [h00]
    unfold smallB
    cases d
    · simp only [Bool.false_eq_true, if_false, decide_eq_false_iff_not]
      omega
    · simp only [if_true, decide_eq_true_eq]
      omega
  have hP := plcS_list r c d
  obtain ⟨X, hX⟩ : ∃ X, (decS (r + 1).toNat).data.toList = X := ⟨_, rfl⟩
  have hNX : decS (r + 1).toNat = ofL X := by rw [← hX]; rfl
  rw [hX] at hP hl
  rw [← hl] at hsz
  refine ⟨by omega, hD, ?_, ?_⟩
  · unfold plcN
    rw [hD, hNX]
    cases d
    · simp only [Bool.false_eq_true, if_false] at hP ⊢
      apply ba_list
      rw [extract_list, hP, hsz, ofL_list, List.drop_zero, Nat.add_sub_cancel, Nat.sub_zero, List.take_left]
    · simp only [if_true] at hP ⊢
      apply ba_list
      rw [extract_list, hP, hsz, ofL_list, List.drop_succ_cons, List.drop_zero, Nat.add_sub_cancel, List.take_length]
  · unfold plcL
    rw [hD]
    cases d
    · simp only [Bool.false_eq_true, if_false] at hP ⊢
      have : bAt (plcS r c false) ((plcS r c false).size - 1) = UInt8.ofNat (97 + c.toNat) := by
        unfold bAt
        rw [hP, hsz, Nat.add_sub_cancel, List.getD_eq_getElem?_getD, List.getElem?_append_right (Nat.le_refl _), Nat.sub_self]
        rfl
      rw [this, hc]
    · simp only [if_true]
      rw [h00]
      simp only [if_true]
      exact hc
end Go.Proofs.YtdecakimhjieeaaDoor
