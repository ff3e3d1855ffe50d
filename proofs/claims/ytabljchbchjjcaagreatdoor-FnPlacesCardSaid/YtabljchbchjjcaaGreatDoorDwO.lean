/- Numbering with the nodes filled one after another: the plain part. No condition. -/
import Derived.Test.YtabljchbchjjcaaGreatDoorMg5
namespace Go.Proofs.YtabljchbchjjcaaGreatDoor
set_option linter.unusedVariables false
set_option linter.unusedSimpArgs false
open Go Go.RowKit
/-- A numbered node with its first i edges. -/
def numI (N : List Nd) (o : List Nat) (k i : Nat) : Nd := ⟨(ndG N k).fin, (ndG N k).lt, ((ndG N k).nx.take i).map fun j => (o.idxOf j.toNat : Int)⟩
theorem numI_zero (N : List Nd) (o : List Nat) (k : Nat) : numI N o k 0 = ⟨(ndG N k).fin, (ndG N k).lt, []⟩ := rfl
theorem numI_all (N : List Nd) (o : List Nat) (k : Nat) : numI N o k (ndG N k).nx.length = numN N o k := by
  unfold numI numN
  rw [List.take_length]
/-- The nodes while those below k have their edges. -/
def fillN (N : List Nd) (o : List Nat) (k : Nat) : List Nd := o.map fun j => if j < k then numN N o j else numI N o j 0
theorem fillN_len (N : List Nd) (o : List Nat) (k : Nat) : (fillN N o k).length = o.length := by simp [fillN]
theorem fillN_zero (N : List Nd) (o : List Nat) : fillN N o 0 = o.map fun j => numI N o j 0 := by simp [fillN]
theorem fillN_all {N : List Nd} {o : List Nat} {n : Nat} (h : ∀ x ∈ o, x < n) : fillN N o n = o.map (numN N o) := List.map_congr_left fun j hj => if_pos (h j hj)
theorem fillN_skip {N : List Nd} {o : List Nat} {k : Nat} (h : k ∉ o) : fillN N o (k + 1) = fillN N o k := by
  refine List.map_congr_left fun j hj => ?_
  have : j ≠ k := fun e => h (e ▸ hj)
  by_cases hjk : j < k
  · rw [if_pos hjk, if_pos (by omega)]
  · rw [if_neg hjk, if_neg (by omega)]
theorem idx_lt {o : List Nat} {k : Nat} (h : k ∈ o) : o.idxOf k < o.length := List.idxOf_lt_length_of_mem h
theorem idx_get {o : List Nat} {k : Nat} (h : k ∈ o) : o[o.idxOf k]'(idx_lt h) = k := List.getElem_idxOf _
theorem fillN_get {N : List Nd} {o : List Nat} {k x : Nat} (h : x < (fillN N o k).length) (hx : x < o.length) : (fillN N o k)[x] = if o[x] < k then numN N o o[x] else numI N o o[x] 0 := by simp [fillN]
theorem fillN_at {N : List Nd} {o : List Nat} {k : Nat} (h : k ∈ o) : (fillN N o k).set (o.idxOf k) (numI N o k 0) = fillN N o k := by
  apply List.ext_getElem
  · rw [List.length_set]
  · intro x h1 h2
    rw [List.getElem_set]
    split
    · rename_i e
      subst e
      rw [fillN_get h2 (idx_lt h), idx_get h, if_neg (Nat.lt_irrefl _)]
    · rfl
theorem fillN_next {N : List Nd} {o : List Nat} {k : Nat} (hn : o.Nodup) (h : k ∈ o) : (fillN N o k).set (o.idxOf k) (numN N o k) = fillN N o (k + 1) := by
  apply List.ext_getElem
  · rw [List.length_set, fillN_len, fillN_len]
  · intro x h1 h2
    have hx : x < o.length := by rw [fillN_len] at h2; exact h2
    rw [List.getElem_set]
    split
    · rename_i e
      subst e
      rw [fillN_get h2 (idx_lt h), idx_get h, if_pos (Nat.lt_succ_self _)]
    · rename_i e
      rw [fillN_get (by rw [fillN_len]; exact hx) hx, fillN_get h2 hx]
      by_cases hk : o[x] = k
      · exact absurd (by rw [← hk]; exact hn.idxOf_getElem x hx) e
      · by_cases hl : o[x] < k
        · rw [if_pos hl, if_pos (by omega)]
        · rw [if_neg hl, if_neg (by omega)]
end Go.Proofs.YtabljchbchjjcaaGreatDoor
