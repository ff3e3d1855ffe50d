/- The words of a turned board, and of a blank one. Plain. No condition. -/
import Derived.Test.YtmohfdfjlgekaaaGreatDoorCh11v
import Derived.Test.YtmohfdfjlgekaaaGreatDoorMg5
import Derived.Test.YtmohfdfjlgekaaaGreatDoorCh15d
namespace Go.Proofs.YtmohfdfjlgekaaaGreatDoor
set_option linter.unusedVariables false
set_option linter.unusedSimpArgs false
open Go Go.RowKit
theorem bAt_extW {N : Nat} {a b : ByteArray} (ha : a.size = N * N) (hb : b.size = N * N) (h : ∀ i j, i < N → j < N → bAt a (i * N + j) = bAt b (i * N + j)) : a = b := by
  have e : a.data.toList = b.data.toList := by
    have la : a.data.toList.length = N * N := by simpa using ha
    have lb : b.data.toList.length = N * N := by simpa using hb
    apply List.ext_getElem (by rw [la, lb])
    intro k h1 h2
    have hk : k < N * N := by rw [← la]; exact h1
    have hN : 0 < N := by
      rcases Nat.eq_zero_or_pos N with h0 | h0
      · subst h0; simp at hk
      · exact h0
    have := h (k / N) (k % N) (Nat.div_lt_of_lt_mul hk) (Nat.mod_lt _ hN)
    rw [Nat.mul_comm (k / N), Nat.div_add_mod] at this
    unfold bAt at this
    rw [List.getD_eq_getElem?_getD, List.getD_eq_getElem?_getD, List.getElem?_eq_getElem h1, List.getElem?_eq_getElem h2] at this
    exact this
  cases a
  cases b
  congr 1
  exact Array.toList_inj.1 e
theorem bAt_turnW {N : Nat} {s : ByteArray} {i j : Nat} (hi : i < N) (hj : j < N) : bAt (turnS N s) (i * N + j) = bAt s (j * N + i) := turnL_get N s i j hi hj N hi
theorem turn_turnW (N : Nat) (s : ByteArray) (h : s.size = N * N) : turnS N (turnS N s) = s :=
  bAt_extW (turnS_size N _) h fun i j hi hj => by rw [bAt_turnW hi hj, bAt_turnW hj hi]
theorem mem_turn {n : Nat} {c : ByteArray} (hc : c.size = n * n) (hn : 0 < n) : ∀ x ∈ (turnS n c).data.toList, x ∈ c.data.toList := by
  intro x hx
  obtain ⟨t, ht⟩ := List.getElem?_of_mem hx
  have htl : t < (turnS n c).size := by
    have := (List.getElem?_eq_some_iff.1 ht).1
    simpa using this
  rw [at_someC htl] at ht
  have hx2 : bAt (turnS n c) t = x := by simpa using ht
  rw [turnS_size] at htl
  have h1 : t / n < n := Nat.div_lt_of_lt_mul htl
  have h2 : t % n < n := Nat.mod_lt _ hn
  have h3 : t / n * n + t % n = t := by rw [Nat.mul_comm]; exact Nat.div_add_mod t n
  have h4 : bAt (turnS n c) (t / n * n + t % n) = bAt c (t % n * n + t / n) := turnL_get n c (t / n) (t % n) h1 h2 n h1
  rw [h3, hx2] at h4
  have h5 : t % n * n + t / n < c.size := by
    rw [hc]
    have : (t % n + 1) * n ≤ n * n := Nat.mul_le_mul_right n h2
    rw [Nat.add_mul, Nat.one_mul] at this
    omega
  have h6 := at_someC h5
  rw [← h4] at h6
  exact List.mem_of_getElem? h6
theorem okB_turn {m : Nat} {p c : ByteArray} (h : okB m p c = true) : okB m (turnS m p) (turnS m c) = true := by
  obtain ⟨h1, h2, h3, h4⟩ := okB_true h
  have hp2 : p.size = m * m := by have : ((m * m : Nat) : Int) = (m : Int) * m := by push_cast; rfl
                                  omega
  have hc2 : c.size = m * m := by have : ((m * m : Nat) : Int) = (m : Int) * m := by push_cast; rfl
                                  omega
  unfold okB at h ⊢
  simp only [Bool.and_eq_true, decide_eq_true_eq] at h ⊢
  obtain ⟨a1, a2, a3, a4, a5⟩ := h
  refine ⟨a1, by rw [turnS_size]; push_cast; rfl, by rw [turnS_size]; push_cast; rfl, ?_, ?_⟩
  · exact List.all_eq_true.2 fun x hx => List.all_eq_true.1 a4 x (mem_turn hp2 (by omega) x hx)
  · exact List.all_eq_true.2 fun x hx => List.all_eq_true.1 a5 x (mem_turn hc2 (by omega) x hx)
theorem wonL_ok {m : Nat} {p c : ByteArray} (h : okB m p c = true) : wonL m p c = wordsN m c m ++ wordsN m (turnS m c) m := by
  unfold wonL
  rw [h]
  rfl
theorem wonL_turn {m : Nat} {p c : ByteArray} (h : okB m p c = true) : wonL m (turnS m p) (turnS m c) = wordsN m (turnS m c) m ++ wordsN m c m := by
  obtain ⟨h1, h2, h3, h4⟩ := okB_true h
  have hc2 : c.size = m * m := by have : ((m * m : Nat) : Int) = (m : Int) * m := by push_cast; rfl
                                  omega
  rw [wonL_ok (okB_turn h), turn_turnW m c hc2]
theorem cut_no (c : UInt8) (s : ByteArray) : ∀ k, k ≤ s.size → ∀ x ∈ (cutC c s k).1, ∀ j, j < x.size → bAt x j ≠ c
  | 0, _ => by intro x hx; simp [cutC] at hx
  | k + 1, hk => by
    have ih := cut_no c s k (by omega)
    have hno := (cut_pieces c s k (by omega)).2
    have hle := (cutC_le c s k).1
    unfold cutC
    split
    · intro x hx
      simp only [List.mem_append, List.mem_singleton] at hx
      rcases hx with hx | rfl
      · exact ih x hx
      · intro j hj
        rw [ByteArray.size_extract] at hj
        rw [bAt_sub _ _ _ _ (by omega) (by omega)]
        exact hno _ (by omega) (by omega)
    · exact ih
theorem split_no (c : UInt8) (s : ByteArray) : ∀ x ∈ splitC c s, ∀ j, j < x.size → bAt x j ≠ c := by
  have hno := (cut_pieces c s s.size (Nat.le_refl _)).2
  intro x hx
  unfold splitC at hx
  simp only [List.mem_append, List.mem_singleton] at hx
  rcases hx with hx | rfl
  · exact cut_no c s s.size (Nat.le_refl _) x hx
  · intro j hj
    rw [ByteArray.size_extract] at hj
    rw [bAt_sub _ _ _ _ (Nat.le_refl _) (by omega)]
    exact hno _ (by omega) (by omega)
/-- A row of dots has no words. -/
theorem words_dots {s : ByteArray} (h : ∀ j, j < s.size → bAt s j = 46) : wordsP (splitC 46 s) = [] := by
  unfold wordsP
  rw [List.filter_eq_nil_iff.2, List.map_nil]
  intro x hx
  obtain ⟨a, b, h1, h2, rfl⟩ := splitC_sub 46 s x hx
  have h3 := split_no 46 s _ hx
  simp only [decide_eq_true_eq]
  intro h4
  rw [ByteArray.size_extract] at h4
  refine h3 0 (by rw [ByteArray.size_extract]; omega) ?_
  rw [bAt_sub _ _ _ _ h2 (by omega)]
  exact h _ (by omega)
theorem wordsN_dots {n : Nat} {c : ByteArray} (hc : c.size = n * n) (h : ∀ j, j < c.size → bAt c j = 46) : wordsN n c n = [] := by
  unfold wordsN
  rw [List.flatMap_eq_nil_iff]
  intro r hr
  obtain ⟨k, hk, rfl⟩ := List.mem_map.1 hr
  have hk2 := List.mem_range.1 hk
  refine words_dots fun j hj => ?_
  unfold rowAt at hj ⊢
  have : (k + 1) * n ≤ n * n := Nat.mul_le_mul_right n hk2
  rw [Nat.add_mul, Nat.one_mul] at this
  rw [ByteArray.size_extract] at hj
  rw [bAt_sub _ _ _ _ (by omega) (by omega)]
  exact h _ (by omega)
end Go.Proofs.YtmohfdfjlgekaaaGreatDoor
