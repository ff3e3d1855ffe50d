/- slices.Clone at []string. Conditions: at most 2^20 words. -/
import Derived.Test.YtflpiebiacainaaDoorCh05d
import Derived.Test.YtflpiebiacainaaDoorShelf
namespace Go.Proofs.YtflpiebiacainaaDoor
set_option linter.unusedVariables false
set_option linter.unusedSimpArgs false
open Go Go.RowKit
theorem own_form {w : World} {B : Nat} {v : Value} {n : Nat} {xs : List Value} (h : w.ownsRow B 9 1 v n xs) : ∃ a c, v = .slice a n c ∧ Own w B 9 1 a n c xs := by
  have h' := h
  rcases h.2 with ⟨rfl, rfl⟩ | ⟨g, cap, cur, rfl, _⟩
  · have : xs = [] := List.eq_nil_of_length_eq_zero (by simpa using h.1)
    subst this
    exact ⟨none, 0, rfl, Own.empty _ _ _ _ _⟩
  · exact ⟨_, _, rfl, .inr h'⟩
theorem Clone_any (a : Option Addr) (c : Nat) (l : List ByteArray) (w : World) (h : Rd w a (strsV l)) (hl : l.length ≤ 1048576) :
    Calls Tryd.prog 29 #[.slice a l.length c] w fun e w' => ∃ a' c', e = .returned (.slice a' l.length c') ∧ Own w' w.heap.size 9 1 a' l.length c' (strsV l) ∧ Ext w w' := by
  by_cases hn : 0 < l.length
  · obtain ⟨b, o, rfl, hc⟩ := h.word hn
    refine (Tryd.slices_Clone_string b o l.length c l w (Nat.le_refl _) (by omega) (fun j hj => by rw [hc j hj]; rw [List.getD_eq_getElem?_getD, List.getElem?_eq_getElem hj, Option.getD_some, wAt_eq l j hj])).mono ?_
    rintro e w' ⟨v', he, ho, _, hx⟩
    obtain ⟨a', c', rfl, ho2⟩ := own_form ho
    rw [List.take_length] at ho2
    exact ⟨a', c', he, ho2, hx⟩
  · have e0 : l = [] := List.eq_nil_of_length_eq_zero (by omega)
    subst e0
    cases a with
    | none =>
      refine (Tryd.slices_Clone_string_nil 0 c w).mono ?_
      rintro e w' ⟨he, rfl⟩
      exact ⟨none, 0, he, Own.empty _ _ _ _ _, Ext.refl _⟩
    | some b =>
      refine (Tryd.slices_Clone_string_zero b c w).mono ?_
      rintro e w' ⟨v', he, ho, _, hx⟩
      obtain ⟨a', c', rfl, ho2⟩ := own_form ho
      exact ⟨a', c', he, ho2, hx⟩
end Go.Proofs.YtflpiebiacainaaDoor
