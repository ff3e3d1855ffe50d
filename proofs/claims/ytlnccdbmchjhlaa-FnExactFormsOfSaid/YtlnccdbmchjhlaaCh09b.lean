/- A form cut at its sign, by both. Conditions: at most 2^20 bytes. -/
import Derived.Test.YtlnccdbmchjhlaaCh09a
import Derived.Test.YtlnccdbmchjhlaaShelf
import Derived.Test.YtlnccdbmchjhlaaStrV
import Derived.Lib.IndexLaws
namespace Go.Proofs.Ytlnccdbmchjhlaa
set_option linter.unusedVariables false
set_option linter.unusedSimpArgs false
open Go Go.RowKit
def posS (s : ByteArray) : Int := Go.Lib.indexByte s.data.toList 62
def cutB (s : ByteArray) : ByteArray := if 0 ≤ posS s then s.extract 0 (posS s).toNat else s
def cutE (s : ByteArray) : ByteArray := if 0 ≤ posS s then s.extract ((posS s).toNat + 1) s.size else ⟨#[]⟩
theorem at_some {s : ByteArray} {k : Nat} (h : k < s.size) : s.data.toList[k]? = some (bAt s k) := by
  rw [Array.getElem?_toList, ← bAt_eq s k h]
  exact Array.getElem?_eq_getElem h
theorem posS_cases (s : ByteArray) : (posS s = -1 ∧ ∀ k, k < s.size → bAt s k ≠ 62) ∨ ∃ j : Nat, posS s = j ∧ j < s.size ∧ bAt s j = 62 ∧ ∀ k, k < j → bAt s k ≠ 62 := by
  have hge := Go.Lib.indexByte_ge s.data.toList 62
  by_cases h : posS s = -1
  · refine .inl ⟨h, fun k hk hb => ?_⟩
    exact Go.Lib.indexByte_none h k (by rw [at_some hk, hb])
  · obtain ⟨j, hj⟩ : ∃ j : Nat, posS s = j := ⟨(posS s).toNat, by unfold posS at h ⊢; omega⟩
    obtain ⟨h1, h2⟩ := Go.Lib.indexByte_some (show Go.Lib.indexByte s.data.toList 62 = (j : Int) from hj)
    have hjs : j < s.size := by
      have := (List.getElem?_eq_some_iff.1 h1).1
      simpa using this
    refine .inr ⟨j, hj, hjs, ?_, fun k hk hb => h2 k hk (by rw [at_some (by omega), hb])⟩
    rw [at_some hjs] at h1
    simpa using h1
/-- Pieces between signs, and where the next one begins. -/
def cutS (s : ByteArray) : Nat → List ByteArray × Nat
  | 0 => ([], 0)
  | k + 1 => if bAt s k = 62 then ((cutS s k).1 ++ [s.extract (cutS s k).2 k], k + 1) else cutS s k
theorem cutS_le (s : ByteArray) (k : Nat) : (cutS s k).2 ≤ k ∧ (cutS s k).1.length ≤ k := by
  induction k with
  | zero => simp [cutS]
  | succ k ih =>
    unfold cutS
    split
    · simp; omega
    · omega
theorem cutS_none (s : ByteArray) (k : Nat) (h : ∀ i, i < k → bAt s i ≠ 62) : cutS s k = ([], 0) := by
  induction k with
  | zero => rfl
  | succ k ih =>
    unfold cutS
    rw [if_neg (h k (by omega))]
    exact ih fun i hi => h i (by omega)
theorem cutS_one (s : ByteArray) (j m : Nat) (h0 : ∀ i, i < j → bAt s i ≠ 62) (h1 : bAt s j = 62) (h : ∀ i, j < i → i < j + 1 + m → bAt s i ≠ 62) : cutS s (j + 1 + m) = ([s.extract 0 j], j + 1) := by
  induction m with
  | zero =>
    show cutS s (j + 1) = _
    unfold cutS
    rw [if_pos h1, cutS_none s j h0]
    rfl
  | succ m ih =>
    show cutS s (j + 1 + m + 1) = _
    unfold cutS
    rw [if_neg (h _ (by omega) (by omega))]
    exact ih fun i hi hk => h i hi (by omega)
theorem cutS_mono (s : ByteArray) (k m : Nat) : (cutS s k).1.length ≤ (cutS s (k + m)).1.length := by
  induction m with
  | zero => exact Nat.le_refl _
  | succ m ih =>
    refine Nat.le_trans ih ?_
    show _ ≤ (cutS s (k + m + 1)).1.length
    rw [cutS]
    split
    · simp
    · exact Nat.le_refl _
theorem cutS_step (s : ByteArray) (k : Nat) (h : bAt s k = 62) : (cutS s (k + 1)).1.length = (cutS s k).1.length + 1 := by
  rw [cutS, if_pos h]
  simp
def splitL (s : ByteArray) : List ByteArray := (cutS s s.size).1 ++ [s.extract (cutS s s.size).2 s.size]
theorem splitL_length (s : ByteArray) : (splitL s).length = (cutS s s.size).1.length + 1 := by simp [splitL]
theorem extract_whole (s : ByteArray) : s.extract 0 s.size = s := by simp
theorem split_cases (s : ByteArray) : (posS s = -1 ∧ splitL s = [s]) ∨ (∃ j : Nat, posS s = j ∧ j < s.size ∧ bAt s j = 62 ∧ splitL s = [s.extract 0 j, s.extract (j + 1) s.size]) ∨ (2 < (splitL s).length ∧ ∃ j p : Nat, posS s = j ∧ j < p ∧ p < s.size ∧ bAt s p = 62) := by
  rcases posS_cases s with ⟨h1, h2⟩ | ⟨j, h1, h2, h3, h4⟩
  · refine .inl ⟨h1, ?_⟩
    unfold splitL
    rw [cutS_none s _ h2, extract_whole]
    rfl
  · by_cases hp : ∃ p, j < p ∧ p < s.size ∧ bAt s p = 62
    · obtain ⟨p, p1, p2, p3⟩ := hp
      refine .inr (.inr ⟨?_, j, p, h1, p1, p2, p3⟩)
      rw [splitL_length]
      have a1 := cutS_step s j h3
      have a2 := cutS_mono s (j + 1) (p - (j + 1))
      rw [show j + 1 + (p - (j + 1)) = p by omega] at a2
      have a3 := cutS_step s p p3
      have a4 := cutS_mono s (p + 1) (s.size - (p + 1))
      rw [show p + 1 + (s.size - (p + 1)) = s.size by omega] at a4
      omega
    · refine .inr (.inl ⟨j, h1, h2, h3, ?_⟩)
      unfold splitL
      have e := cutS_one s j (s.size - (j + 1)) h4 h3 (fun i hi hk hb => hp ⟨i, hi, by omega, hb⟩)
      rw [show j + 1 + (s.size - (j + 1)) = s.size by omega] at e
      rw [e]
      rfl
end Go.Proofs.Ytlnccdbmchjhlaa
