/- Texts cut at a byte. Plain. No condition. -/
import Derived.Test.YtflpiebiacainaaDoorCh11a
import Derived.Lib.SplitLaws
import Derived.Lib.CountLaws
import Derived.Lib.IndexBytes
import Derived.Lib.IndexLaws
namespace Go.Proofs.YtflpiebiacainaaDoor
set_option linter.unusedVariables false
set_option linter.unusedSimpArgs false
open Go Go.RowKit
/-- The pieces of the first k bytes that are closed, and where the open one begins. -/
def cutC (c : UInt8) (s : ByteArray) : Nat → List ByteArray × Nat
  | 0 => ([], 0)
  | k + 1 => if bAt s k = c then ((cutC c s k).1 ++ [s.extract (cutC c s k).2 k], k + 1) else cutC c s k
def splitC (c : UInt8) (s : ByteArray) : List ByteArray := (cutC c s s.size).1 ++ [s.extract (cutC c s s.size).2 s.size]
theorem cutC_le (c : UInt8) (s : ByteArray) (k : Nat) : (cutC c s k).2 ≤ k ∧ (cutC c s k).1.length ≤ k := by
  induction k with
  | zero => simp [cutC]
  | succ k ih =>
    unfold cutC
    split
    · simp; omega
    · omega
theorem splitC_length (c : UInt8) (s : ByteArray) : (splitC c s).length = (cutC c s s.size).1.length + 1 := by simp [splitC]
theorem splitC_length_le (c : UInt8) (s : ByteArray) : (splitC c s).length ≤ s.size + 1 := by
  rw [splitC_length]
  have := (cutC_le c s s.size).2
  omega
theorem cutC_sub (c : UInt8) (s : ByteArray) (k : Nat) : ∀ x ∈ (cutC c s k).1, ∃ a b, a ≤ b ∧ b ≤ k ∧ x = s.extract a b := by
  induction k with
  | zero => intro x hx; simp [cutC] at hx
  | succ k ih =>
    unfold cutC
    split
    · intro x hx
      simp only [List.mem_append, List.mem_singleton] at hx
      rcases hx with hx | rfl
      · obtain ⟨a, b, h1, h2, h3⟩ := ih x hx
        exact ⟨a, b, h1, by omega, h3⟩
      · exact ⟨_, _, (cutC_le c s k).1, by omega, rfl⟩
    · intro x hx
      obtain ⟨a, b, h1, h2, h3⟩ := ih x hx
      exact ⟨a, b, h1, by omega, h3⟩
theorem splitC_sub (c : UInt8) (s : ByteArray) : ∀ x ∈ splitC c s, ∃ a b, a ≤ b ∧ b ≤ s.size ∧ x = s.extract a b := by
  intro x hx
  unfold splitC at hx
  simp only [List.mem_append, List.mem_singleton] at hx
  rcases hx with hx | rfl
  · exact cutC_sub c s s.size x hx
  · exact ⟨_, _, (cutC_le c s s.size).1, Nat.le_refl _, rfl⟩
theorem at_someC {s : ByteArray} {k : Nat} (h : k < s.size) : s.data.toList[k]? = some (bAt s k) := by
  rw [Array.getElem?_toList, ← bAt_eq s k h]
  exact Array.getElem?_eq_getElem h
theorem indexC_cases (c : UInt8) (s : ByteArray) : (Lib.indexB s ⟨#[c]⟩ = -1 ∧ ∀ k, k < s.size → bAt s k ≠ c) ∨ ∃ j : Nat, Lib.indexB s ⟨#[c]⟩ = j ∧ j < s.size ∧ bAt s j = c ∧ ∀ k, k < j → bAt s k ≠ c := by
  have e : Lib.indexB s ⟨#[c]⟩ = Lib.indexByte s.data.toList c := Lib.index_one _ _
  rw [e]
  have hge := Lib.indexByte_ge s.data.toList c
  by_cases h : Lib.indexByte s.data.toList c = -1
  · refine .inl ⟨h, fun k hk hb => ?_⟩
    exact Lib.indexByte_none h k (by rw [at_someC hk, hb])
  · obtain ⟨j, hj⟩ : ∃ j : Nat, Lib.indexByte s.data.toList c = j := ⟨(Lib.indexByte s.data.toList c).toNat, by omega⟩
    obtain ⟨h1, h2⟩ := Lib.indexByte_some hj
    have hjs : j < s.size := by
      have := (List.getElem?_eq_some_iff.1 h1).1
      simpa using this
    refine .inr ⟨j, hj, hjs, ?_, fun k hk hb => h2 k hk (by rw [at_someC (by omega), hb])⟩
    rw [at_someC hjs] at h1
    simpa using h1
theorem pieces_miss (c : UInt8) (s : ByteArray) (h : ∀ k, k < s.size → bAt s k ≠ c) : Lib.splitB ⟨#[c]⟩ 0 (Lib.countB s ⟨#[c]⟩) s = [s] := by
  rcases indexC_cases c s with ⟨h1, -⟩ | ⟨j, -, h2, h3, -⟩
  · exact Lib.splitB_miss _ _ _ _ h1
  · exact absurd h3 (h j h2)
theorem pieces_hit (c : UInt8) (s : ByteArray) (j : Nat) (hj : j < s.size) (h1 : bAt s j = c) (h : ∀ k, k < j → bAt s k ≠ c) :
    Lib.splitB ⟨#[c]⟩ 0 (Lib.countB s ⟨#[c]⟩) s = s.extract 0 j :: Lib.splitB ⟨#[c]⟩ 0 (Lib.countB (s.extract (j + 1) s.size) ⟨#[c]⟩) (s.extract (j + 1) s.size) := by
  rcases indexC_cases c s with ⟨-, h2⟩ | ⟨i, h2, h3, h4, h5⟩
  · exact absurd h1 (h2 j hj)
  · have : i = j := by
      rcases Nat.lt_trichotomy i j with q | q | q
      · exact absurd h4 (h i q)
      · exact q
      · exact absurd h1 (h5 j q)
    subst this
    have e := Lib.countB_hit s ⟨#[c]⟩ i (Nat.le_refl 1) h2
    rw [e, Nat.add_comm 1]
    exact Lib.splitB_hit ⟨#[c]⟩ 0 _ s i h2
theorem bAt_sub (s : ByteArray) (a b k : Nat) (hb : b ≤ s.size) (h : a + k < b) : bAt (s.extract a b) k = bAt s (a + k) := by
  have h1 : k < (s.extract a b).size := by rw [ByteArray.size_extract]; omega
  rw [← bAt_eq _ k h1, ← bAt_eq s (a + k) (by omega), ByteArray.getElem_extract]
theorem extract_sub (s : ByteArray) (a b i j : Nat) (hb : a + j ≤ b) : (s.extract a b).extract i j = s.extract (a + i) (a + j) := by
  rw [ByteArray.extract_extract]
  congr 1
  omega
theorem cut_pieces (c : UInt8) (s : ByteArray) : ∀ k, k ≤ s.size → ((cutC c s k).1 ++ Lib.splitB ⟨#[c]⟩ 0 (Lib.countB (s.extract (cutC c s k).2 s.size) ⟨#[c]⟩) (s.extract (cutC c s k).2 s.size) = Lib.splitB ⟨#[c]⟩ 0 (Lib.countB s ⟨#[c]⟩) s) ∧ ∀ j, (cutC c s k).2 ≤ j → j < k → bAt s j ≠ c
  | 0, _ => by
    have e : s.extract 0 s.size = s := ByteArray.extract_zero_size
    refine ⟨?_, fun j _ h => absurd h (by omega)⟩
    show [] ++ Lib.splitB _ 0 (Lib.countB (s.extract 0 s.size) _) (s.extract 0 s.size) = _
    rw [e]
    rfl
  | k + 1, hk => by
    obtain ⟨h1, h2⟩ := cut_pieces c s k (by omega)
    have hle := (cutC_le c s k).1
    unfold cutC
    by_cases hc : bAt s k = c
    · rw [if_pos hc]
      refine ⟨?_, fun j h h' => absurd h (by simp only; omega)⟩
      simp only
      obtain ⟨f, hf⟩ : ∃ f, (cutC c s k).2 = f := ⟨_, rfl⟩
      rw [hf] at h1 h2 hle ⊢
      have hz : (s.extract f s.size).size = s.size - f := by rw [ByteArray.size_extract]; omega
      have hp := pieces_hit c (s.extract f s.size) (k - f) (by omega) (by rw [bAt_sub _ _ _ _ (Nat.le_refl _) (by omega), show f + (k - f) = k by omega]; exact hc) (fun j hj => by rw [bAt_sub _ _ _ _ (Nat.le_refl _) (by omega)]; exact h2 _ (by omega) (by omega))
      rw [hz, extract_sub _ _ _ _ _ (by omega), extract_sub _ _ _ _ _ (by omega), show f + 0 = f by omega, show f + (k - f) = k by omega, show f + (k - f + 1) = k + 1 by omega, show f + (s.size - f) = s.size by omega] at hp
      rw [← h1, hp]
      simp
    · rw [if_neg hc]
      refine ⟨h1, fun j h h' => ?_⟩
      by_cases e : j = k
      · rw [e]; exact hc
      · exact h2 j h (by omega)
theorem splitC_eq (c : UInt8) (s : ByteArray) : Lib.splitB ⟨#[c]⟩ 0 (Lib.countB s ⟨#[c]⟩) s = splitC c s := by
  obtain ⟨h1, h2⟩ := cut_pieces c s s.size (Nat.le_refl _)
  have hle := (cutC_le c s s.size).1
  rw [← h1]
  unfold splitC
  rw [pieces_miss]
  intro k hk
  rw [ByteArray.size_extract] at hk
  rw [bAt_sub _ _ _ _ (Nat.le_refl _) (by omega)]
  exact h2 _ (by omega) (by omega)
theorem splitC_count (c : UInt8) (s : ByteArray) : Lib.countB s ⟨#[c]⟩ + 1 = (splitC c s).length := by
  rw [← splitC_eq]
  exact (Lib.splitB_all ⟨#[c]⟩ (Nat.le_refl 1) 0 _ s rfl).symm
end Go.Proofs.YtflpiebiacainaaDoor
