/- Words in any order, made an ordered list. Plain. -/
import Derived.Test.YtflpiebiacainaaDoorCh05d
import Derived.Sort.KeysCollected
namespace Go.Proofs.YtflpiebiacainaaDoor
set_option linter.unusedVariables false
set_option linter.unusedSimpArgs false
open Go Go.RowKit
/-- In strictly rising order. -/
def Rise (l : List ByteArray) : Prop := l.Pairwise fun p q => lessB p q = true
theorem Rise.of_inc {l : List ByteArray} (h : incB l = true) : Rise l := by
  unfold Rise
  rw [List.pairwise_iff_getElem]
  intro i j hi hj hij
  rw [wAt_eq l i hi, wAt_eq l j hj]
  exact incB_lt h j hij hj
theorem Rise.inc {l : List ByteArray} (h : Rise l) : incB l = true := by
  refine incB_yes fun i hi => ?_
  have := List.pairwise_iff_getElem.1 h i (i + 1) (by omega) hi (by omega)
  rwa [wAt_eq l i (by omega), wAt_eq l (i + 1) hi] at this
theorem Rise.at {l : List ByteArray} (h : Rise l) {i j : Nat} (hij : i < j) (hj : j < l.length) : lessB (wAt l i) (wAt l j) = true := by
  have := List.pairwise_iff_getElem.1 h i j (by omega) hj hij
  rwa [wAt_eq l i (by omega), wAt_eq l j hj] at this
theorem posIt_past (l : List ByteArray) (t : ByteArray) : ∀ k j, posIt l t k ≤ j → j < k → lessB t (wAt l j) = true
  | 0, j, _, h => by omega
  | k + 1, j, h, hj => by
    unfold posIt at h
    split at h
    · rename_i hk
      by_cases e : j = k
      · rw [e]; exact hk
      · exact posIt_past l t k j h (by omega)
    · omega
theorem posIt_back (l : List ByteArray) (t : ByteArray) : ∀ k, 0 < posIt l t k → lessB t (wAt l (posIt l t k - 1)) = false
  | 0, h => by simp [posIt] at h
  | k + 1, h => by
    unfold posIt at h ⊢
    split
    · rename_i hk
      rw [if_pos hk] at h
      exact posIt_back l t k h
    · rename_i hk
      simpa using hk
theorem wAt_take (l : List ByteArray) (k i : Nat) (h : i < (l.take k).length) : (l.take k)[i] = wAt l i := by
  rw [List.length_take] at h
  rw [List.getElem_take, wAt_eq l i (by omega)]
theorem Rise.ins {l : List ByteArray} (h : Rise l) (t : ByteArray) : Rise (insL l t) := by
  unfold insL
  split
  · exact h
  · rename_i hn
    have hp : posI l t ≤ l.length := posIt_le l t l.length
    have h1 : ∀ x ∈ l.take (posI l t), lessB x t = true := by
      intro x hx
      obtain ⟨i, hi, rfl⟩ := List.getElem_of_mem hx
      rw [wAt_take]
      rw [List.length_take] at hi
      have hb : lessB (wAt l (posI l t - 1)) t = true :=
        lessB_tri (posIt_back l t l.length (by unfold posI at hi; omega)) (fun e => hn ⟨by unfold posI at hi ⊢; omega, e.symm⟩)
      by_cases e : i = posI l t - 1
      · rw [e]; exact hb
      · exact lessB_trans (h.at (show i < posI l t - 1 by omega) (by omega)) hb
    have h2 : ∀ x ∈ l.drop (posI l t), lessB t x = true := by
      intro x hx
      obtain ⟨i, hi, rfl⟩ := List.getElem_of_mem hx
      rw [List.length_drop] at hi
      rw [List.getElem_drop, wAt_eq l _ (by omega)]
      exact posIt_past l t l.length _ (by unfold posI; omega) (by omega)
    unfold Rise
    rw [List.append_assoc, List.pairwise_append, List.singleton_append, List.pairwise_cons]
    refine ⟨List.Pairwise.sublist (List.take_sublist _ _) h, ⟨h2, List.Pairwise.sublist (List.drop_sublist _ _) h⟩, ?_⟩
    intro x hx y hy
    rcases List.mem_cons.1 hy with rfl | hy
    · exact h1 x hx
    · exact lessB_trans (h1 x hx) (h2 y hy)
theorem insL_iff (l : List ByteArray) (t x : ByteArray) : x ∈ insL l t ↔ x ∈ l ∨ x = t := by
  refine ⟨insL_mem, fun h => ?_⟩
  have hp : posI l t ≤ l.length := posIt_le l t l.length
  unfold insL
  split
  · rename_i hy
    rcases h with h | rfl
    · exact h
    · have := wAt_mem l (posI l x - 1) (by unfold posI at *; omega)
      rwa [hy.2] at this
  · rw [List.append_assoc, List.mem_append, List.mem_append, List.mem_singleton]
    rcases h with h | rfl
    · rw [← List.take_append_drop (posI l t) l, List.mem_append] at h
      rcases h with h | h
      · exact .inl h
      · exact .inr (.inr h)
    · exact .inr (.inl rfl)
theorem Rise.fold : ∀ (l L : List ByteArray), Rise L → Rise (l.foldl insL L)
  | [], _, h => h
  | x :: l, L, h => Rise.fold l _ (h.ins x)
theorem fold_iff : ∀ (l L : List ByteArray) (x : ByteArray), x ∈ l.foldl insL L ↔ x ∈ L ∨ x ∈ l
  | [], L, x => by simp
  | y :: l, L, x => by
    rw [List.foldl_cons, fold_iff l, insL_iff, List.mem_cons, or_assoc]
theorem makeL_rise (l : List ByteArray) : Rise (makeL l) := Rise.fold l [] List.Pairwise.nil
theorem makeL_iff (l : List ByteArray) (x : ByteArray) : x ∈ makeL l ↔ x ∈ l := by
  unfold makeL
  rw [fold_iff]
  simp
theorem Rise.one : ∀ {l m : List ByteArray}, Rise l → Rise m → (∀ x, x ∈ l ↔ x ∈ m) → l = m
  | [], [], _, _, _ => rfl
  | [], y :: m, _, _, h => by have := (h y).2 (List.mem_cons_self ..); simp at this
  | x :: l, [], _, _, h => by have := (h x).1 (List.mem_cons_self ..); simp at this
  | x :: l, y :: m, h1, h2, h => by
    obtain ⟨a1, b1⟩ := List.pairwise_cons.1 h1
    obtain ⟨a2, b2⟩ := List.pairwise_cons.1 h2
    have no : ∀ p q, lessB p q = true → lessB q p = true → False := fun p q h k => by
      have := lessB_trans h k
      rw [lessB_self] at this
      cases this
    have e : x = y := by
      rcases List.mem_cons.1 ((h x).1 (List.mem_cons_self ..)) with e | e
      · exact e
      · rcases List.mem_cons.1 ((h y).2 (List.mem_cons_self ..)) with f | f
        · exact f.symm
        · exact (no _ _ (a2 x e) (a1 y f)).elim
    subst e
    congr 1
    refine Rise.one b1 b2 fun z => ⟨fun hz => ?_, fun hz => ?_⟩
    · rcases List.mem_cons.1 ((h z).1 (List.mem_cons_of_mem _ hz)) with e | e
      · subst e; exact (no _ _ (a1 z hz) (a1 z hz)).elim
      · exact e
    · rcases List.mem_cons.1 ((h z).2 (List.mem_cons_of_mem _ hz)) with e | e
      · subst e; exact (no _ _ (a2 z hz) (a2 z hz)).elim
      · exact e
theorem makeL_self {l : List ByteArray} (h : Rise l) : makeL l = l := Rise.one (makeL_rise l) h (makeL_iff l)
theorem makeL_append {a : List ByteArray} (h : Rise a) (b : List ByteArray) : makeL (a ++ b) = b.foldl insL a := by
  unfold makeL
  rw [List.foldl_append]
  congr 1
  exact makeL_self h
/-- The words as lists of bytes. -/
def rawL (l : List ByteArray) : List (List UInt8) := l.map fun s => s.data.toList
theorem rawL_enc (l : List ByteArray) : (rawL l).map encStr = strsV l := by
  unfold rawL strsV encStr
  rw [List.map_map]
  rfl
theorem lessB_data (p q : ByteArray) : lessB p q = decide (p.data.toList < q.data.toList) := by
  unfold lessB
  rw [Go.Proofs.bytesLess_eq, Lib.toList_data, Lib.toList_data]
theorem rawL_sorted {l : List ByteArray} (h : Rise l) : (rawL l).mergeSort (fun x y => decide (x ≤ y)) = rawL l := by
  refine List.mergeSort_of_pairwise ?_
  unfold rawL
  rw [List.pairwise_map]
  refine List.Pairwise.imp (fun {a b} h => ?_) h
  rw [lessB_data, decide_eq_true_eq] at h
  rw [decide_eq_true_eq]
  exact List.le_of_lt h
theorem rawL_nodup {l : List ByteArray} (h : Rise l) : (rawL l).Nodup := by
  unfold rawL List.Nodup
  rw [List.pairwise_map]
  refine List.Pairwise.imp (fun {a b} h e => ?_) h
  rw [lessB_data, e, decide_eq_true_eq] at h
  exact List.lt_irrefl _ h
theorem mem_rawL (l : List ByteArray) (x : List UInt8) : x ∈ rawL l ↔ (⟨x.toArray⟩ : ByteArray) ∈ l := by
  unfold rawL
  rw [List.mem_map]
  constructor
  · rintro ⟨s, hs, rfl⟩
    exact hs
  · intro h
    exact ⟨_, h, rfl⟩
end Go.Proofs.YtflpiebiacainaaDoor
