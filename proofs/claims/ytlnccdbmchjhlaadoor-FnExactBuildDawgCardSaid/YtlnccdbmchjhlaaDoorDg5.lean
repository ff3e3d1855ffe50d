/- Automata compared, by the program and by the reference. Conditions: at most 2^20 elements. -/
import Derived.Test.YtlnccdbmchjhlaaDoorDg4
namespace Go.Proofs.YtlnccdbmchjhlaaDoor
set_option linter.unusedVariables false
set_option linter.unusedSimpArgs false
open Go Go.RowKit
def eqDg (L M : List NdP) : Bool := decide (L.length = M.length) && (List.range L.length).all fun i => eqNd (ndAt L i).nd (ndAt M i).nd
theorem ndAt_of (L : List NdP) (k : Nat) : (ndAt L k).nd = (ndsOf L).getD k noNd.nd := by
  unfold ndAt ndsOf
  rw [List.getD_eq_getElem?_getD, List.getD_eq_getElem?_getD, List.getElem?_map]
  cases L[k]? <;> rfl
theorem eqDg_congr {L L' M M' : List NdP} (h : ndsOf L = ndsOf L') (k : ndsOf M = ndsOf M') : eqDg L M = eqDg L' M' := by
  have h1 : L.length = L'.length := by rw [← ndsOf_length, h, ndsOf_length]
  have h2 : M.length = M'.length := by rw [← ndsOf_length, k, ndsOf_length]
  unfold eqDg
  rw [h1, h2]
  congr 1
  congr 1
  funext i
  rw [ndAt_of, ndAt_of, ndAt_of, ndAt_of, h, k]
theorem eqDg_len {L M : List NdP} (h : L.length ≠ M.length) : eqDg L M = false := by unfold eqDg; rw [decide_eq_false h]; rfl
theorem eqDg_no {L M : List NdP} (k : Nat) (hk : k < L.length) (h : eqNd (ndAt L k).nd (ndAt M k).nd = false) : eqDg L M = false := by
  unfold eqDg
  rw [Bool.and_eq_false_iff]
  right
  rw [List.all_eq_false]
  exact ⟨k, List.mem_range.2 hk, by simp [h]⟩
theorem eqDg_yes {L M : List NdP} (hl : L.length = M.length) (h : ∀ k, k < L.length → eqNd (ndAt L k).nd (ndAt M k).nd = true) : eqDg L M = true := by
  unfold eqDg
  rw [decide_eq_true hl, Bool.true_and, List.all_eq_true]
  exact fun k hk => h k (List.mem_range.1 hk)
/-- Every node's list is short. -/
def NdSh (L : List NdP) : Prop := ∀ p ∈ L, p.nd.nx.length ≤ 1048576
end Go.Proofs.YtlnccdbmchjhlaaDoor
