/- Hooks make words that come back by taking a letter. Plain. Conditions: a valid lexicon and a word. -/
import Derived.Test.YtaigabenlccdaaaMg6
import Derived.Test.YtaigabenlccdaaaF6
namespace Go.Proofs.Ytaigabenlccdaaa
set_option linter.unusedVariables false
set_option linter.unusedSimpArgs false
open Go Go.RowKit
theorem hasL_iff {l : List ByteArray} (h : incB l = true) (x : ByteArray) : hasL l x = true ↔ x ∈ l := by
  unfold hasL
  rw [decide_eq_true_eq]
  constructor
  · rintro ⟨h1, h2⟩
    rw [← h2]
    exact wAt_mem l _ h1
  · intro hm
    obtain ⟨i, hi, he⟩ := List.getElem_of_mem hm
    rw [wAt_eq l i hi] at he
    have hp : posL l x = i := posL_eq (by omega) (fun j hj => by rw [← he]; exact incB_lt h i hj hi) (fun _ => by rw [he]; exact lessB_self x)
    rw [hp]
    exact ⟨hi, he⟩
theorem ask_ok {l : List ByteArray} {s : ByteArray} (h : askC l s = 0) : lexOk l = true ∧ wordOk s = true := by
  unfold askC at h
  split at h
  · split at h
    · exact ⟨‹_›, ‹_›⟩
    · simp at h
  · simp at h
theorem ask_yes {l : List ByteArray} {s : ByteArray} (h1 : lexOk l = true) (h2 : wordOk s = true) : askC l s = 0 := by unfold askC; rw [if_pos h1, if_pos h2]
theorem relL_ok {g : ByteArray → Bool} {l : List ByteArray} {s : ByteArray} (h1 : lexOk l = true) (h2 : wordOk s = true) : relL g l s = l.filter g := by unfold relL; rw [if_pos h1, if_pos h2]
theorem hook_at {l : List ByteArray} {p q : ByteArray} {i : Nat} (h : i < (hookS l p q).size) : ∃ k, k < 26 ∧ (hookS l p q).extract i (i + 1) = chS k ∧ hasL l (p ++ chS k ++ q) = true := by
  rw [extract_one _ _ h]
  have hl : i < (hkL l p q 26).length := by
    have h2 : i < (hkL l p q 26).toArray.size := h
    simpa using h2
  have he : (hookS l p q)[i]'h = (hkL l p q 26)[i]'hl := by
    exact List.getElem_toArray (xs := hkL l p q 26) (i := i) (by simpa using hl)
  have he2 : (⟨#[(hookS l p q)[i]'h]⟩ : ByteArray) = ⟨#[(hkL l p q 26)[i]'hl]⟩ := by rw [he]
  rw [he2]
  have hm := List.getElem_mem hl
  unfold hkL at hm
  obtain ⟨k, hk, hk2⟩ := List.mem_map.1 hm
  obtain ⟨hk3, hk4⟩ := List.mem_filter.1 hk
  have hk5 := List.mem_range.1 hk3
  refine ⟨k, hk5, ?_, hk4⟩
  show (⟨#[(hkL l p q 26)[i]]⟩ : ByteArray) = ⟨#[UInt8.ofNat (97 + k)]⟩
  unfold hkL
  rw [← hk2]
theorem ba_ext {x y : ByteArray} (h : x.data.toList = y.data.toList) : x = y := ByteArray.ext (Array.toList_inj.1 h)
theorem cut_front (k : Nat) (s : ByteArray) : cutAt (chS k ++ s) 0 = s := by
  apply ba_ext
  unfold cutAt
  rw [ByteArray.size_append, chS_size]
  simp [ByteArray.data_append, ByteArray.data_extract, chS]
  exact List.take_of_length_le (by simp)
theorem cut_back (k : Nat) (s : ByteArray) : cutAt (s ++ chS k) s.size = s := by
  apply ba_ext
  unfold cutAt
  simp [ByteArray.data_append, ByteArray.data_extract, chS]
theorem drop_front (k : Nat) (s : ByteArray) : dropB s (chS k ++ s) = true :=
  dropB_yes 0 (by rw [ByteArray.size_append, chS_size]; omega) (by rw [cut_front]; simp)
theorem drop_back (k : Nat) (s : ByteArray) : dropB s (s ++ chS k) = true :=
  dropB_yes s.size (by rw [ByteArray.size_append, chS_size]; omega) (by rw [cut_back]; simp)
theorem nob_front (s : ByteArray) : noB ++ s = s := by
  apply ba_ext
  simp [noB]
theorem nob_back (s : ByteArray) : s ++ noB = s := by
  apply ba_ext
  simp [noB]
theorem front_in {l : List ByteArray} {s : ByteArray} (h : askC l s = 0) {i : Nat} (hi : i < (hooksV l s noB s).size) : inL (relL (fun x => dropB s x) l s) ((hooksV l s noB s).extract i (i + 1) ++ s) = true := by
  obtain ⟨h1, h2⟩ := ask_ok h
  unfold hooksV at hi ⊢
  rw [if_pos h] at hi ⊢
  obtain ⟨k, hk, he, hh⟩ := hook_at hi
  rw [he, relL_ok h1 h2]
  rw [nob_front] at hh
  exact inL_iff.2 (List.mem_filter.2 ⟨(hasL_iff (lexOk_inc h1) _).1 hh, drop_front k s⟩)
theorem back_in {l : List ByteArray} {s : ByteArray} (h : askC l s = 0) {i : Nat} (hi : i < (hooksV l s s noB).size) : inL (relL (fun x => dropB s x) l s) (s ++ (hooksV l s s noB).extract i (i + 1)) = true := by
  obtain ⟨h1, h2⟩ := ask_ok h
  unfold hooksV at hi ⊢
  rw [if_pos h] at hi ⊢
  obtain ⟨k, hk, he, hh⟩ := hook_at hi
  rw [he, relL_ok h1 h2]
  rw [nob_back] at hh
  exact inL_iff.2 (List.mem_filter.2 ⟨(hasL_iff (lexOk_inc h1) _).1 hh, drop_back k s⟩)
theorem ins_drop {l : List ByteArray} {s x : ByteArray} (h : askC l s = 0) (hx : x ∈ relL (fun x => dropB s x) l s) : askC l x = 0 ∧ inL (relL (fun y => dropB y x) l x) s = hasWordB l s ∧ x ∈ l := by
  obtain ⟨h1, h2⟩ := ask_ok h
  rw [relL_ok h1 h2] at hx
  obtain ⟨m1, m2⟩ := List.mem_filter.1 hx
  have hw := lex_word h1 x m1
  refine ⟨ask_yes h1 hw, ?_, m1⟩
  rw [relL_ok h1 hw]
  unfold hasWordB
  rw [h1, Bool.true_and]
  cases hq : hasL l s
  · cases hr : inL (l.filter fun y => dropB y x) s
    · rfl
    · have := (hasL_iff (lexOk_inc h1) s).2 (List.mem_filter.1 (inL_iff.1 hr)).1
      rw [hq] at this
      cases this
  · exact inL_iff.2 (List.mem_filter.2 ⟨(hasL_iff (lexOk_inc h1) s).1 hq, m2⟩)
theorem hookS_size (l : List ByteArray) (p q : ByteArray) : (hookS l p q).size ≤ 26 := by
  show (hkL l p q 26).toArray.size ≤ 26
  simpa using hkL_le l p q 26
theorem hooksV_size (l : List ByteArray) (s p q : ByteArray) : (hooksV l s p q).size ≤ 26 := by
  unfold hooksV
  split
  · exact hookS_size l p q
  · show (0 : Nat) ≤ 26; omega
end Go.Proofs.Ytaigabenlccdaaa
