/- Words that are made with tiles and blanks: how many blanks are wanted. Plain. -/
import Derived.Test.YtaigabenlccdaaaPile
namespace Go.Proofs.Ytaigabenlccdaaa
set_option linter.unusedVariables false
set_option linter.unusedSimpArgs false
/-- How many blanks the first letters of a word want. -/
def needT (p w : List UInt8) : Nat → Nat
  | 0 => 0
  | i + 1 => needT p w i + if p.count (w.getD i 0) < (w.take (i + 1)).count (w.getD i 0) then 1 else 0
theorem needT_le (p w : List UInt8) : ∀ i, needT p w i ≤ i
  | 0 => Nat.le_refl 0
  | i + 1 => by have := needT_le p w i; unfold needT; split <;> omega
theorem needT_congr {p q w : List UInt8} (h : ∀ x, p.count x = q.count x) : ∀ i, needT p w i = needT q w i
  | 0 => rfl
  | i + 1 => by unfold needT; rw [needT_congr h i, h]
def canW (p w : List UInt8) : Bool := decide (needT p w w.length ≤ p.count 63)
theorem canW_perm {p q w : List UInt8} (h : p.Perm q) : canW p w = canW q w := by
  unfold canW
  rw [needT_congr (fun x => h.count_eq x), h.count_eq]
/-- What is left of the tiles behind the first letters. -/
def LeftT (p w : List UInt8) (i : Nat) (L : List UInt8) : Prop := ∀ x, L.count x = p.count x - (w.take i).count x
theorem LeftT.zero (p w : List UInt8) : LeftT p w 0 p := fun x => by simp
theorem take_snoc (w : List UInt8) (i : Nat) (h : i < w.length) : w.take (i + 1) = w.take i ++ [w.getD i 0] := by
  rw [List.take_succ_eq_append_getElem h, List.getD_eq_getElem?_getD, List.getElem?_eq_getElem h]
  rfl
theorem LeftT.mem {p w L : List UInt8} {i : Nat} (h : LeftT p w i L) (hi : i < w.length) : w.getD i 0 ∈ L ↔ ¬ p.count (w.getD i 0) < (w.take (i + 1)).count (w.getD i 0) := by
  rw [← List.count_pos_iff, h, take_snoc w i hi]
  simp [List.count_append]
  omega
theorem LeftT.yes {p w L : List UInt8} {i : Nat} (h : LeftT p w i L) (hi : i < w.length) (hm : w.getD i 0 ∈ L) : LeftT p w (i + 1) (L.erase (w.getD i 0)) ∧ needT p w (i + 1) = needT p w i := by
  have hn := (h.mem hi).1 hm
  refine ⟨fun x => ?_, by rw [needT, if_neg hn]; rfl⟩
  rw [List.count_erase, h, take_snoc w i hi, List.count_append]
  by_cases e : w.getD i 0 = x
  · subst e; simp; omega
  · rw [List.count_eq_zero_of_not_mem (l := [w.getD i 0]) (by simpa using fun h => e (Eq.symm h))]
    rw [if_neg (by simpa using e)]
    omega
theorem LeftT.no {p w L : List UInt8} {i : Nat} (h : LeftT p w i L) (hi : i < w.length) (hm : ¬ w.getD i 0 ∈ L) : LeftT p w (i + 1) L ∧ needT p w (i + 1) = needT p w i + 1 := by
  have hn : p.count (w.getD i 0) < (w.take (i + 1)).count (w.getD i 0) := by
    by_cases e : p.count (w.getD i 0) < (w.take (i + 1)).count (w.getD i 0)
    · exact e
    · exact absurd ((h.mem hi).2 e) hm
  refine ⟨fun x => ?_, by rw [needT, if_pos hn]⟩
  have h0 : L.count (w.getD i 0) = 0 := List.count_eq_zero_of_not_mem hm
  rw [h, take_snoc w i hi, List.count_append]
  by_cases e : w.getD i 0 = x
  · have := h (w.getD i 0)
    rw [← e, List.count_singleton_self]
    omega
  · rw [List.count_eq_zero_of_not_mem (l := [w.getD i 0]) (by simpa using fun h => e (Eq.symm h))]
    omega
end Go.Proofs.Ytaigabenlccdaaa
