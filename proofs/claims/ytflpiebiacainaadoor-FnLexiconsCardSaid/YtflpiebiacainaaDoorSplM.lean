/- Lines put together and cut again. Plain. No condition. -/
import Derived.Test.YtflpiebiacainaaDoorSplL
namespace Go.Proofs.YtflpiebiacainaaDoor
set_option linter.unusedVariables false
set_option linter.unusedSimpArgs false
open Go Go.RowKit
def ofL (l : List UInt8) : ByteArray := ⟨l.toArray⟩
theorem ofL_size (l : List UInt8) : (ofL l).size = l.length := by
  show l.toArray.size = l.length
  exact List.size_toArray ..
theorem ofL_list (l : List UInt8) : (ofL l).data.toList = l := rfl
theorem ofL_of (s : ByteArray) : ofL s.data.toList = s := rfl
theorem bAt_ofL (l : List UInt8) (i : Nat) : bAt (ofL l) i = l.getD i 0 := rfl
theorem ba_list {x y : ByteArray} (h : x.data.toList = y.data.toList) : x = y := by
  rw [← ofL_of x, ← ofL_of y, h]
theorem extract_list (s : ByteArray) (a b : Nat) : (s.extract a b).data.toList = (s.data.toList.drop a).take (b - a) := by
  rw [ByteArray.data_extract, Array.toList_extract]
theorem splitC_nil (c : UInt8) : splitC c ⟨#[]⟩ = [⟨#[]⟩] := by
  show [(⟨#[]⟩ : ByteArray).extract 0 0] = _
  rfl
theorem splitC_line (c : UInt8) (x l : List UInt8) (hx : ∀ u ∈ x, u ≠ c) : splitC c (ofL (x ++ c :: l)) = ofL x :: splitC c (ofL l) := by
  have h1 : x.length < (ofL (x ++ c :: l)).size := by rw [ofL_size]; simp
  have h := pieces_hit c (ofL (x ++ c :: l)) x.length h1 (by rw [bAt_ofL]; simp) (fun k hk => by
    rw [bAt_ofL]
    have : (x ++ c :: l).getD k 0 = x[k] := by simp [List.getD, List.getElem?_append_left hk, hk]
    rw [this]
    exact hx _ (List.getElem_mem _))
  rw [splitC_eq, splitC_eq] at h
  rw [h]
  congr 1
  · apply ba_list
    rw [extract_list, ofL_list, ofL_list]
    simp
  · congr 1
    apply ba_list
    rw [extract_list, ofL_list, ofL_list, ofL_size]
    simp
    exact List.take_of_length_le (by omega)
theorem splitC_none (c : UInt8) (s : ByteArray) (h : ∀ u ∈ s.data.toList, u ≠ c) : splitC c s = [s] := by
  rw [← splitC_eq]
  exact pieces_miss c s (fun k hk => h _ (List.mem_of_getElem? (at_someC hk)))
/-- Lines, each with its end. -/
def unl (c : UInt8) (ls : List ByteArray) : List UInt8 := ls.flatMap fun s => s.data.toList ++ [c]
theorem splitC_unl (c : UInt8) : ∀ (ls : List ByteArray), (∀ s ∈ ls, ∀ u ∈ s.data.toList, u ≠ c) → splitC c (ofL (unl c ls)) = ls ++ [⟨#[]⟩]
  | [], _ => splitC_nil c
  | s :: ls, h => by
    have e : unl c (s :: ls) = s.data.toList ++ c :: unl c ls := by simp [unl]
    rw [e, splitC_line c _ _ (h s (List.mem_cons_self ..)), splitC_unl c ls (fun t ht => h t (List.mem_cons_of_mem _ ht)), ofL_of]
    rfl
theorem list_len (s : ByteArray) : s.data.toList.length = s.size := Array.length_toList
theorem extract_snoc (c : UInt8) (s : ByteArray) (a b : Nat) (hb : b ≤ s.size) : (ofL (s.data.toList ++ [c])).extract a b = s.extract a b := by
  apply ba_list
  have hl := list_len s
  rw [extract_list, extract_list, ofL_list]
  by_cases h : a ≤ s.data.toList.length
  · rw [List.drop_append_of_le_length h, List.take_append_of_le_length]
    rw [List.length_drop]
    omega
  · have : b - a = 0 := by omega
    rw [this, List.take_zero, List.take_zero]
theorem cutC_snoc (c : UInt8) (s : ByteArray) : ∀ k, k ≤ s.size → cutC c (ofL (s.data.toList ++ [c])) k = cutC c s k
  | 0, _ => rfl
  | k + 1, hk => by
    have ih := cutC_snoc c s k (by omega)
    have hb : bAt (ofL (s.data.toList ++ [c])) k = bAt s k := by
      rw [bAt_ofL]
      have : k < s.data.toList.length := by rw [list_len]; omega
      simp only [bAt, List.getD, List.getElem?_append_left this]
    unfold cutC
    rw [hb, ih, extract_snoc c s _ _ (by omega)]
theorem splitC_snoc (c : UInt8) (s : ByteArray) : splitC c (ofL (s.data.toList ++ [c])) = splitC c s ++ [⟨#[]⟩] := by
  have hz : (ofL (s.data.toList ++ [c])).size = s.size + 1 := by rw [ofL_size, List.length_append, list_len]; rfl
  have hcut := cutC_snoc c s s.size (Nat.le_refl _)
  have hb : bAt (ofL (s.data.toList ++ [c])) s.size = c := by
    rw [bAt_ofL, ← list_len s]
    simp [List.getD]
  have hstep : cutC c (ofL (s.data.toList ++ [c])) (s.size + 1) = ((cutC c s s.size).1 ++ [s.extract (cutC c s s.size).2 s.size], s.size + 1) := by
    show (if bAt _ s.size = c then _ else _) = _
    rw [hb, if_pos rfl, hcut, extract_snoc c s _ _ (Nat.le_refl _)]
  have he : (ofL (s.data.toList ++ [c])).extract (s.size + 1) (s.size + 1) = ⟨#[]⟩ := by
    apply ba_list
    rw [extract_list, Nat.sub_self, List.take_zero]
  show (cutC c _ (ofL (s.data.toList ++ [c])).size).1 ++ [(ofL (s.data.toList ++ [c])).extract (cutC c _ (ofL (s.data.toList ++ [c])).size).2 (ofL (s.data.toList ++ [c])).size] = _
  rw [hz, hstep]
  simp only
  rw [he]
  rfl
end Go.Proofs.YtflpiebiacainaaDoor
