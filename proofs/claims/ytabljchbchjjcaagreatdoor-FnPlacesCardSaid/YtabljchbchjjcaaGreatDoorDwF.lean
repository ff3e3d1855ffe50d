/- The forms of a lexicon's words in order are fit to be built from. Plain. No condition. -/
import Derived.Test.YtabljchbchjjcaaGreatDoorMg12
import Derived.Test.YtabljchbchjjcaaGreatDoorMg13
import Derived.Test.YtabljchbchjjcaaGreatDoorCh09e
import Derived.Test.YtabljchbchjjcaaGreatDoorMg18
namespace Go.Proofs.YtabljchbchjjcaaGreatDoor
set_option linter.unusedVariables false
set_option linter.unusedSimpArgs false
open Go Go.RowKit Go.Sort
/-- A form, as bytes. -/
def formB (x : List UInt8) (k : Nat) : List UInt8 := if k = x.length then x.reverse else (x.take k).reverse ++ 62 :: x.drop k
theorem formS_data (x : ByteArray) {k : Nat} (hk : k ≤ x.size) : (formS x k).data.toList = formB x.data.toList k := by
  unfold formS formB
  rw [lenL]
  split
  · rw [revL]
  · rw [appL, appL, revL, extL, extL, List.drop_zero, Nat.sub_zero, List.take_of_length_le (l := List.drop k x.data.toList) (by rw [List.length_drop, lenL]; exact Nat.le_refl _), List.append_assoc]
    rfl
theorem cut_inj : ∀ {a c b d : List UInt8}, (∀ u ∈ a, u ≠ 62) → (∀ u ∈ c, u ≠ 62) → a ++ 62 :: b = c ++ 62 :: d → a = c ∧ b = d
  | [], [], b, d, _, _, h => ⟨rfl, by simpa using h⟩
  | [], z :: c, b, d, _, h2, h => by
    rw [List.nil_append, List.cons_append, List.cons.injEq] at h
    exact absurd h.1.symm (h2 z (by simp))
  | z :: a, [], b, d, h1, _, h => by
    rw [List.nil_append, List.cons_append, List.cons.injEq] at h
    exact absurd h.1 (h1 z (by simp))
  | z :: a, y :: c, b, d, h1, h2, h => by
    rw [List.cons_append, List.cons_append, List.cons.injEq] at h
    obtain ⟨e1, e2⟩ := cut_inj (fun u hu => h1 u (List.mem_cons_of_mem _ hu)) (fun u hu => h2 u (List.mem_cons_of_mem _ hu)) h.2
    exact ⟨by rw [h.1, e1], e2⟩
theorem formB_inj {x y : List UInt8} {k j : Nat} (hx : ∀ u ∈ x, u ≠ 62) (hy : ∀ u ∈ y, u ≠ 62) (hk : k ≤ x.length) (hj : j ≤ y.length) (h : formB x k = formB y j) : x = y ∧ k = j := by
  unfold formB at h
  by_cases h1 : k = x.length
  · by_cases h2 : j = y.length
    · rw [if_pos h1, if_pos h2] at h
      have e : x = y := List.reverse_inj.1 h
      exact ⟨e, by rw [h1, h2, e]⟩
    · rw [if_pos h1, if_neg h2] at h
      have hm : (62 : UInt8) ∈ x.reverse := by rw [h]; simp
      exact absurd rfl (hx 62 (List.mem_reverse.1 hm))
  · by_cases h2 : j = y.length
    · rw [if_neg h1, if_pos h2] at h
      have hm : (62 : UInt8) ∈ y.reverse := by rw [← h]; simp
      exact absurd rfl (hy 62 (List.mem_reverse.1 hm))
    · rw [if_neg h1, if_neg h2] at h
      obtain ⟨e1, e2⟩ := cut_inj (fun u hu => hx u (List.mem_of_mem_take (List.mem_reverse.1 hu))) (fun u hu => hy u (List.mem_of_mem_take (List.mem_reverse.1 hu))) h
      have e3 := List.reverse_inj.1 e1
      have e4 := congrArg List.length e3
      rw [List.length_take, List.length_take] at e4
      exact ⟨by rw [← List.take_append_drop k x, ← List.take_append_drop j y, e3, e2], by omega⟩
/-- The forms of all words. -/
def allF (l : List ByteArray) : List ByteArray := l.flatMap fun x => formL x x.size
theorem allF_snoc (l : List ByteArray) (x : ByteArray) : allF (l ++ [x]) = allF l ++ formL x x.size := by simp [allF]
theorem allF_take {l : List ByteArray} {i : Nat} (h : i < l.length) : allF (l.take (i + 1)) = allF (l.take i) ++ formL (wAt l i) (wAt l i).size := by
  rw [List.take_succ_eq_append_getElem h, allF_snoc, wAt_eq l i h]
theorem allF_len {b : Nat} : ∀ {l : List ByteArray}, (∀ s ∈ l, s.size ≤ b) → (allF l).length ≤ l.length * b
  | [], _ => by simp [allF]
  | x :: r, h => by
    have ih := allF_len (l := r) (fun s hs => h s (List.mem_cons_of_mem _ hs))
    have h1 := h x (by simp)
    have e : allF (x :: r) = formL x x.size ++ allF r := by simp [allF]
    rw [e, List.length_append, formL_length, List.length_cons, Nat.succ_mul]
    omega
theorem mem_formL {x s : ByteArray} (h : s ∈ formL x x.size) : ∃ k, k ≤ x.size ∧ s = formS x k := by
  unfold formL at h
  obtain ⟨k, hk, rfl⟩ := List.mem_map.1 h
  exact ⟨k + 1, by have := List.mem_range.1 hk; omega, rfl⟩
theorem mem_allF {l : List ByteArray} {s : ByteArray} (h : s ∈ allF l) : ∃ x ∈ l, ∃ k, k ≤ x.size ∧ s = formS x k := by
  obtain ⟨x, hx, h⟩ := List.mem_flatMap.1 h
  exact ⟨x, hx, mem_formL h⟩
theorem formB_len {x : List UInt8} {k : Nat} (h : k ≤ x.length) : (formB x k).length ≤ x.length + 1 := by
  unfold formB
  split
  · simp
  · rw [List.length_append, List.length_reverse, List.length_take, List.length_cons, List.length_drop]
    omega
theorem formB_mem {x : List UInt8} {k : Nat} {u : UInt8} (h : u ∈ formB x k) : u ∈ x ∨ u = 62 := by
  unfold formB at h
  split at h
  · exact .inl (List.mem_reverse.1 h)
  · rcases List.mem_append.1 h with h | h
    · exact .inl (List.mem_of_mem_take (List.mem_reverse.1 h))
    · rcases List.mem_cons.1 h with h | h
      · exact .inr h
      · exact .inl (List.mem_of_mem_drop h)
theorem word_no {s : ByteArray} (h : longOk s = true) : ∀ u ∈ s.data.toList, u ≠ 62 := fun u hu e => by
  have := (longOk_parts h).2.2 u hu
  subst e
  simp at this
theorem form_ne {x y : ByteArray} {k j : Nat} (hx : longOk x = true) (hy : longOk y = true) (hk : k ≤ x.size) (hj : j ≤ y.size) (h : formS x k = formS y j) : x = y ∧ k = j := by
  have e := congrArg (fun s : ByteArray => s.data.toList) h
  simp only [formS_data x hk, formS_data y hj] at e
  obtain ⟨e1, e2⟩ := formB_inj (word_no hx) (word_no hy) (by rw [lenL]; exact hk) (by rw [lenL]; exact hj) e
  exact ⟨ba_ext e1, e2⟩
theorem inc_ne {l : List ByteArray} (h : incB l = true) : l.Pairwise (· ≠ ·) := by
  have := rise_words h
  unfold RiseS sufs at this
  rw [List.pairwise_map] at this
  refine this.imp fun {a b} hab e => ?_
  subst e
  exact List.lt_irrefl _ hab
theorem allF_ne {l : List ByteArray} (h : lexOk l = true) : (allF l).Pairwise (· ≠ ·) := by
  obtain ⟨h1, h2, h3⟩ := lexOk_parts h
  unfold allF
  rw [List.pairwise_flatMap]
  refine ⟨fun x hx => ?_, ?_⟩
  · unfold formL
    rw [List.pairwise_map]
    refine (List.pairwise_lt_range (n := x.size)).imp_of_mem fun {a b} ha hb hab e => ?_
    have ha := List.mem_range.1 ha
    have hb := List.mem_range.1 hb
    have := (form_ne (h3 x hx) (h3 x hx) (by omega) (by omega) e).2
    omega
  · refine (inc_ne h2).imp_of_mem fun {a b} ha hb hab x hx y hy e => ?_
    obtain ⟨k, hk, rfl⟩ := mem_formL hx
    obtain ⟨j, hj, rfl⟩ := mem_formL hy
    exact hab (form_ne (h3 a ha) (h3 b hb) hk hj e).1
/-- The forms in order. -/
def srtF (l : List ByteArray) : List ByteArray := sortW (allF l)
theorem srtF_ok {l : List ByteArray} (h : lexOk l = true) : WsOk 0 101 (srtF l) ∧ (srtF l).length ≤ 2400 ∧ totL (sufs 0 (srtF l)) ≤ 31200 := by
  obtain ⟨h1, h2, h3⟩ := lexOk_parts h
  have hp := sortW_perm (allF l)
  have hlen : (srtF l).length ≤ 2400 := by
    have := allF_len (b := 12) (l := l) (fun s hs => (longOk_parts (h3 s hs)).2.1)
    unfold srtF
    rw [sortW_length]
    omega
  have hm : ∀ s ∈ srtF l, s.size ≤ 13 ∧ ∀ u ∈ s.data.toList, u ≠ 43 ∧ u.toNat < 128 := fun s hs => by
    obtain ⟨x, hx, k, hk, rfl⟩ := mem_allF (hp.mem_iff.1 hs)
    obtain ⟨p1, p2, p3⟩ := longOk_parts (h3 x hx)
    have e := formS_data x hk
    refine ⟨?_, fun u hu => ?_⟩
    · rw [← lenL, e]
      have := formB_len (x := x.data.toList) (k := k) (by rw [lenL]; exact hk)
      rw [lenL] at this
      omega
    · rw [e] at hu
      rcases formB_mem hu with hu | rfl
      · have := p3 u hu
        exact ⟨fun e => by subst e; simp at this, by omega⟩
      · exact ⟨by decide, by decide⟩
  refine ⟨⟨?_, fun s _ => Nat.zero_le _, fun s hs => by have := (hm s hs).1; omega, fun s hs => (hm s hs).2⟩, hlen, ?_⟩
  · have hne : (srtF l).Pairwise (· ≠ ·) := (hp.pairwise_iff (fun {a b} h e => h e.symm)).2 (allF_ne h)
    have hs := sortW_sorted (allF l)
    unfold RiseS sufs
    rw [List.pairwise_map]
    refine (List.Pairwise.and hs hne).imp fun {a b} hab => ?_
    rw [List.drop_zero, List.drop_zero]
    obtain ⟨k1, k2⟩ := hab
    simp only [leW, leB, decide_eq_true_eq] at k1
    rcases List.le_iff_lt_or_eq.1 k1 with h | h
    · exact h
    · exact absurd (ba_ext h) k2
  · have := totL_le (d := 0) (b := 13) (S := srtF l) (fun s hs => (hm s hs).1)
    omega
/-- What BuildBoth answers. -/
def bothR (l : List ByteArray) : List Nd × Int := if lexOk l then dawgR (srtF l) else ([], 1)
theorem bothR_ok (l : List ByteArray) : (bothR l).1.length ≤ 3000 ∧ wtN (bothR l).1 ≤ 31200 := by
  unfold bothR
  cases hv : lexOk l
  · exact ⟨Nat.zero_le _, by simp [wtN]⟩
  · obtain ⟨g1, g2, g3⟩ := srtF_ok hv
    obtain ⟨h1, h2, -⟩ := autoS_ok g1
    rw [if_pos rfl]
    unfold dawgR
    split
    · exact ⟨Nat.zero_le _, by simp [wtN]⟩
    · split
      · exact ⟨Nat.zero_le _, by simp [wtN]⟩
      · exact ⟨by simp only; omega, by simp only; omega⟩
end Go.Proofs.YtabljchbchjjcaaGreatDoor
