/- A word put into an ordered list that has it not: by either way of looking. Plain. -/
import Derived.Test.YtflpiebiacainaaDoorCh05c
namespace Go.Proofs.YtflpiebiacainaaDoor
set_option linter.unusedVariables false
set_option linter.unusedSimpArgs false
open Go Go.RowKit
theorem lessB_tri {p q : ByteArray} (h1 : lessB p q = false) (h2 : p ≠ q) : lessB q p = true := by
  unfold lessB at *
  rw [Go.Proofs.bytesLess_eq] at *
  rw [decide_eq_false_iff_not] at h1
  rw [decide_eq_true_eq]
  have h3 : p.toList ≠ q.toList := fun e => h2 (by
    rw [Lib.toList_data, Lib.toList_data] at e
    cases p
    cases q
    exact congrArg ByteArray.mk (Array.toList_inj.1 e))
  exact List.not_le.1 fun h => h3 (List.le_antisymm (List.not_lt.1 h1 |> fun z => h) (List.not_lt.1 h1))
theorem posIt_eq {l : List ByteArray} {t : ByteArray} {p : Nat} (h2 : 0 < p → lessB t (wAt l (p - 1)) = false) : ∀ k, p ≤ k → (∀ j, p ≤ j → j < k → lessB t (wAt l j) = true) → posIt l t k = p
  | 0, h, _ => by
    have : p = 0 := by omega
    subst this; rfl
  | k + 1, h, ha => by
    unfold posIt
    by_cases e : p = k + 1
    · rw [if_neg]
      · exact e.symm
      · have := h2 (by omega)
        rw [e, Nat.add_sub_cancel] at this
        simp [this]
    · rw [if_pos (ha k (by omega) (by omega))]
      exact posIt_eq h2 k (by omega) (fun j hj hq => ha j hj (by omega))
theorem insL_new {l : List ByteArray} {t : ByteArray} (hi : incB l = true) (hn : hasL l t = false) : insL l t = inAt l (posL l t) t := by
  have hne : ∀ j, posL l t ≤ j → j < l.length → wAt l j ≠ t := by
    intro j hj hlt e
    by_cases q : posL l t = j
    · have : hasL l t = true := by
        unfold hasL
        rw [decide_eq_true_eq]
        exact ⟨by omega, by rw [q]; exact e⟩
      rw [this] at hn
      cases hn
    · have h1 := incB_lt hi j (show posL l t < j by omega) hlt
      rw [e, posL_at (by omega)] at h1
      cases h1
  have hp : posI l t = posL l t := by
    refine posIt_eq (fun h0 => ?_) _ (posL_le l t) (fun j hj hlt => lessB_tri (posL_after hi hj hlt) (hne j hj hlt))
    cases hb : lessB t (wAt l (posL l t - 1))
    · rfl
    · have := lessB_trans hb (posL_before (l := l) (x := t) (j := posL l t - 1) (by omega))
      rw [lessB_self] at this
      cases this
  unfold insL
  rw [hp, if_neg]
  · rfl
  · rintro ⟨h0, e⟩
    have := posL_before (l := l) (x := t) (j := posL l t - 1) (by omega)
    rw [e, lessB_self] at this
    cases this
end Go.Proofs.YtflpiebiacainaaDoor
