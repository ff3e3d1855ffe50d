/- Several texts in one: DwS, Ins. Conditions: see each. -/
import Derived.Test.YtlnccdbmchjhlaaDoorMg3
import Derived.Test.YtlnccdbmchjhlaaDoorCh05a
import Derived.Test.YtlnccdbmchjhlaaDoorMg2
section
namespace Go.Proofs.YtlnccdbmchjhlaaDoor
set_option linter.unusedVariables false
set_option linter.unusedSimpArgs false
open Go Go.RowKit Go.Sort
def leW (a b : ByteArray) : Bool := leB a.data.toList b.data.toList
def SortedW (l : List ByteArray) : Prop := l.Pairwise fun a b => leW a b = true
theorem leW_trans (a b c : ByteArray) (h1 : leW a b = true) (h2 : leW b c = true) : leW a c = true := by
  simp only [leW, leB, decide_eq_true_eq] at *
  exact List.le_trans h1 h2
theorem leW_total (a b : ByteArray) : (leW a b || leW b a) = true := by
  simp only [leW, leB, Bool.or_eq_true, decide_eq_true_eq]
  exact List.le_total _ _
theorem leW_anti {a b : ByteArray} (h1 : leW a b = true) (h2 : leW b a = true) : a = b := by
  simp only [leW, leB, decide_eq_true_eq] at *
  have h := List.le_antisymm h1 h2
  exact ByteArray.ext (Array.toList_inj.1 h)
theorem sortW_raw (l : List ByteArray) : rawL (sortW l) = (rawL l).mergeSort leB := by
  unfold sortW rawL
  rw [List.map_map]
  conv => rhs; rw [← List.map_id (List.mergeSort _ leB)]
  rfl
theorem sortW_sorted (l : List ByteArray) : SortedW (sortW l) := by
  have tr : ∀ a b c : List UInt8, leB a b = true → leB b c = true → leB a c = true := fun a b c h1 h2 => by simp only [leB, decide_eq_true_eq] at *; exact List.le_trans h1 h2
  have to : ∀ a b : List UInt8, (leB a b || leB b a) = true := fun a b => by simp only [leB, Bool.or_eq_true, decide_eq_true_eq]; exact List.le_total a b
  have h := List.pairwise_mergeSort tr to (rawL l)
  rw [← sortW_raw] at h
  unfold rawL at h
  rw [List.pairwise_map] at h
  exact h
/-- One list alone is sorted and has these words. -/
theorem sortW_uniq {M l : List ByteArray} (hp : M.Perm l) (hs : SortedW M) : sortW l = M :=
  List.Perm.eq_of_pairwise (le := fun a b => leW a b = true) (fun a b _ _ h1 h2 => leW_anti h1 h2) (sortW_sorted l) hs ((sortW_perm l).trans hp.symm)
theorem sortW_short {l : List ByteArray} (h : l.length < 2) : sortW l = l := by
  refine sortW_uniq (List.Perm.refl l) ?_
  match l, h with
  | [], _ => exact List.Pairwise.nil
  | [a], _ => exact List.pairwise_singleton _ _
theorem sortW_merge (a b : List ByteArray) : List.merge (sortW a) (sortW b) leW = sortW (a ++ b) :=
  (sortW_uniq ((List.merge_perm_append leW).trans ((sortW_perm a).append (sortW_perm b))) (List.pairwise_merge leW_trans leW_total _ _ (sortW_sorted a) (sortW_sorted b))).symm
/-- What is yet to be merged. -/
def restM (a b : List ByteArray) (i k : Nat) : List ByteArray := List.merge (a.drop i) (b.drop k) leW
theorem restM_a {a b : List ByteArray} {i k : Nat} (hi : i < a.length) (hk : k < b.length) (h : leW (wAt a i) (wAt b k) = true) : restM a b i k = wAt a i :: restM a b (i + 1) k := by
  unfold restM
  rw [List.drop_eq_getElem_cons hi, List.drop_eq_getElem_cons hk, wAt_eq a i hi, wAt_eq b k hk, List.cons_merge_cons_pos _ _ _ h]
theorem restM_b {a b : List ByteArray} {i k : Nat} (hk : k < b.length) (h : i < a.length → leW (wAt a i) (wAt b k) = false) : restM a b i k = wAt b k :: restM a b i (k + 1) := by
  unfold restM
  by_cases hi : i < a.length
  · rw [List.drop_eq_getElem_cons hi, List.drop_eq_getElem_cons hk, wAt_eq a i hi, wAt_eq b k hk, List.cons_merge_cons_neg _ _ _ (by rw [h hi]; simp)]
  · rw [List.drop_eq_nil_of_le (by omega), List.drop_eq_getElem_cons hk, wAt_eq b k hk]
    simp [List.merge]
theorem restM_end (a b : List ByteArray) (i : Nat) : restM a b i b.length = a.drop i := by
  unfold restM
  rw [List.drop_length]
  simp [List.merge]
theorem restM_all (a b : List ByteArray) : restM (sortW a) (sortW b) 0 0 = sortW (a ++ b) := by
  unfold restM
  rw [List.drop_zero, List.drop_zero, sortW_merge]
end Go.Proofs.YtlnccdbmchjhlaaDoor
end
section
namespace Go.Proofs.YtlnccdbmchjhlaaDoor
set_option linter.unusedVariables false
set_option linter.unusedSimpArgs false
open Go Go.RowKit
/-- How many words stand before a word, looked for from the end. -/
def posIt (l : List ByteArray) (t : ByteArray) : Nat → Nat
  | 0 => 0
  | k + 1 => if lessB t (wAt l k) then posIt l t k else k + 1
def posI (l : List ByteArray) (t : ByteArray) : Nat := posIt l t l.length
theorem posIt_le (l : List ByteArray) (t : ByteArray) : ∀ k, posIt l t k ≤ k
  | 0 => Nat.le_refl _
  | k + 1 => by
    unfold posIt
    split
    · exact Nat.le_succ_of_le (posIt_le l t k)
    · exact Nat.le_refl _
def insL (l : List ByteArray) (t : ByteArray) : List ByteArray := if 0 < posI l t ∧ wAt l (posI l t - 1) = t then l else l.take (posI l t) ++ [t] ++ l.drop (posI l t)
theorem insL_length_le (l : List ByteArray) (t : ByteArray) : (insL l t).length ≤ l.length + 1 := by
  unfold insL
  split
  · omega
  · have := posIt_le l t l.length
    simp only [posI, List.length_append, List.length_take, List.length_drop, List.length_singleton]
    omega
theorem insL_mem {l : List ByteArray} {t x : ByteArray} (h : x ∈ insL l t) : x ∈ l ∨ x = t := by
  unfold insL at h
  split at h
  · exact .inl h
  · simp only [List.append_assoc, List.mem_append, List.mem_cons, List.not_mem_nil, or_false] at h
    rcases h with h | h | h
    · exact .inl (List.mem_of_mem_take h)
    · exact .inr h
    · exact .inl (List.mem_of_mem_drop h)
/-- An owned list of words, or the one that came in. -/
def InsR (a : Option Addr) (c : Nat) (l L : List ByteArray) (w : World) (e : Ending) (w' : World) : Prop :=
  ∃ a' c', e = .returned (.slice a' L.length c') ∧ ((a' = a ∧ c' = c ∧ L = l) ∨ Own w' w.heap.size 9 1 a' L.length c' (strsV L)) ∧ Ext w w'
theorem InsR.own {a : Option Addr} {c B : Nat} {l L : List ByteArray} {w w' : World} {e : Ending} (h : InsR a c l L w e w') (ho : Own w B 9 1 a l.length c (strsV l)) (hB : B ≤ w.heap.size) :
    ∃ a' c', e = .returned (.slice a' L.length c') ∧ Own w' B 9 1 a' L.length c' (strsV L) ∧ Ext w w' := by
  obtain ⟨a', c', he, h1, hx⟩ := h
  refine ⟨a', c', he, ?_, hx⟩
  rcases h1 with ⟨rfl, rfl, rfl⟩ | h1
  · exact ho.ext hx
  · exact h1.mono hB
theorem beq_toList {s t : ByteArray} : (s.toList == t.toList) = true ↔ s = t := by
  rw [beq_iff_eq]
  constructor
  · intro h
    rw [ByteArray.toList_eq, ByteArray.toList_eq] at h
    exact ByteArray.ext (Array.toList_inj.1 h)
  · exact fun h => by rw [h]
theorem Rd.drop {w : World} {b o : Nat} {l : List ByteArray} (h : Rd w (some ⟨b, o, none⟩) (strsV l)) (k : Nat) : Rd w (some ⟨b, o + k, none⟩) (strsV (l.drop k)) := by
  intro j u hj
  have hl : j < (l.drop k).length := by
    have := (List.getElem?_eq_some_iff.1 hj).1
    simpa [strsV] using this
  have hj' : (strsV l)[k + j]? = some u := by
    rw [← hj]
    simp [strsV, List.getElem?_drop]
  obtain ⟨b', o', ha, hc⟩ := h _ _ hj'
  cases ha
  exact ⟨b, o + k, rfl, by rw [Nat.add_assoc]; exact hc⟩
theorem Rd.take {w : World} {a : Option Addr} {l : List ByteArray} (h : Rd w a (strsV l)) (k : Nat) : Rd w a (strsV (l.take k)) := by
  intro j u hj
  have hl : j < (l.take k).length := by
    have := (List.getElem?_eq_some_iff.1 hj).1
    simpa [strsV] using this
  refine h j u ?_
  rw [← hj]
  rw [List.length_take] at hl
  simp only [strsV, List.getElem?_map, List.getElem?_take]
  rw [if_pos (by omega)]
theorem strsV_one {l : List ByteArray} : ∀ u ∈ strsV l, u.oneCell' = true := by
  intro u hu
  simp only [strsV, List.mem_map] at hu
  obtain ⟨x, _, rfl⟩ := hu
  rfl
/-- A list of words of the call's own comes back. -/
def RetO (L : List ByteArray) (w : World) (e : Ending) (w' : World) : Prop := ∃ a c, e = .returned (.slice a L.length c) ∧ Own w' w.heap.size 9 1 a L.length c (strsV L) ∧ Ext w w'
def makeL (l : List ByteArray) : List ByteArray := l.foldl insL []
theorem foldl_take (l : List ByteArray) (k : Nat) (h : k < l.length) : (l.take (k + 1)).foldl insL [] = insL ((l.take k).foldl insL []) (wAt l k) := by
  rw [List.take_succ_eq_append_getElem h, List.foldl_append, wAt_eq l k h]
  rfl
theorem foldl_len (l : List ByteArray) (L : List ByteArray) : (l.foldl insL L).length ≤ L.length + l.length := by
  induction l generalizing L with
  | nil => simp
  | cons x l ih =>
    have h1 := ih (insL L x)
    have h2 := insL_length_le L x
    simp only [List.foldl_cons, List.length_cons]
    omega
theorem foldl_mem {l L : List ByteArray} {x : ByteArray} (h : x ∈ l.foldl insL L) : x ∈ L ∨ x ∈ l := by
  induction l generalizing L with
  | nil => exact .inl h
  | cons y l ih =>
    rcases ih h with h1 | h1
    · rcases insL_mem h1 with h2 | rfl
      · exact .inl h2
      · exact .inr (List.mem_cons_self ..)
    · exact .inr (List.mem_cons_of_mem _ h1)
end Go.Proofs.YtlnccdbmchjhlaaDoor
end
