/- Several texts in one: DwS, DwB. Conditions: see each. -/
import Derived.Test.YtabljchbchjjcaaGreatDoorMg10
import Derived.Test.YtabljchbchjjcaaGreatDoorCh05a
import Derived.Test.YtabljchbchjjcaaGreatDoorMg4
section
namespace Go.Proofs.YtabljchbchjjcaaGreatDoor
set_option linter.unusedVariables false
set_option linter.unusedSimpArgs false
open Go Go.RowKit Go.Sort
def leW (a b : ByteArray) : Bool := leB a.data.toList b.data.toList
def SortedW (l : List ByteArray) : Prop := l.Pairwise fun a b => leW a b = true
theorem leW_trans (a b c : ByteArray) (h1 : leW a b = true) (h2 : leW b c = true) : leW a c = true := by
  simp only [leW, leB, decide_eq_true_eq] at *
  exact List.le_trans h1 h2
theorem leW_total (a b : ByteArray) : (leW a b || leW b a) = true := by
  simp only [leW, leB, Bool.or_eq_true, decide_eq_true_eq]
  exact List.le_total _ _
theorem leW_anti {a b : ByteArray} (h1 : leW a b = true) (h2 : leW b a = true) : a = b := by
  simp only [leW, leB, decide_eq_true_eq] at *
  have h := List.le_antisymm h1 h2
  exact ByteArray.ext (Array.toList_inj.1 h)
theorem sortW_raw (l : List ByteArray) : rawL (sortW l) = (rawL l).mergeSort leB := by
  unfold sortW rawL
  rw [List.map_map]
  conv => rhs; rw [← List.map_id (List.mergeSort _ leB)]
  rfl
theorem sortW_sorted (l : List ByteArray) : SortedW (sortW l) := by
  have tr : ∀ a b c : List UInt8, leB a b = true → leB b c = true → leB a c = true := fun a b c h1 h2 => by simp only [leB, decide_eq_true_eq] at *; exact List.le_trans h1 h2
  have to : ∀ a b : List UInt8, (leB a b || leB b a) = true := fun a b => by simp only [leB, Bool.or_eq_true, decide_eq_true_eq]; exact List.le_total a b
  have h := List.pairwise_mergeSort tr to (rawL l)
  rw [← sortW_raw] at h
  unfold rawL at h
  rw [List.pairwise_map] at h
  exact h
/-- One list alone is sorted and has these words. -/
theorem sortW_uniq {M l : List ByteArray} (hp : M.Perm l) (hs : SortedW M) : sortW l = M :=
  List.Perm.eq_of_pairwise (le := fun a b => leW a b = true) (fun a b _ _ h1 h2 => leW_anti h1 h2) (sortW_sorted l) hs ((sortW_perm l).trans hp.symm)
theorem sortW_short {l : List ByteArray} (h : l.length < 2) : sortW l = l := by
  refine sortW_uniq (List.Perm.refl l) ?_
  match l, h with
  | [], _ => exact List.Pairwise.nil
  | [a], _ => exact List.pairwise_singleton _ _
theorem sortW_merge (a b : List ByteArray) : List.merge (sortW a) (sortW b) leW = sortW (a ++ b) :=
  (sortW_uniq ((List.merge_perm_append leW).trans ((sortW_perm a).append (sortW_perm b))) (List.pairwise_merge leW_trans leW_total _ _ (sortW_sorted a) (sortW_sorted b))).symm
/-- What is yet to be merged. -/
def restM (a b : List ByteArray) (i k : Nat) : List ByteArray := List.merge (a.drop i) (b.drop k) leW
theorem restM_a {a b : List ByteArray} {i k : Nat} (hi : i < a.length) (hk : k < b.length) (h : leW (wAt a i) (wAt b k) = true) : restM a b i k = wAt a i :: restM a b (i + 1) k := by
  unfold restM
  rw [List.drop_eq_getElem_cons hi, List.drop_eq_getElem_cons hk, wAt_eq a i hi, wAt_eq b k hk, List.cons_merge_cons_pos _ _ _ h]
theorem restM_b {a b : List ByteArray} {i k : Nat} (hk : k < b.length) (h : i < a.length → leW (wAt a i) (wAt b k) = false) : restM a b i k = wAt b k :: restM a b i (k + 1) := by
  unfold restM
  by_cases hi : i < a.length
  · rw [List.drop_eq_getElem_cons hi, List.drop_eq_getElem_cons hk, wAt_eq a i hi, wAt_eq b k hk, List.cons_merge_cons_neg _ _ _ (by rw [h hi]; simp)]
  · rw [List.drop_eq_nil_of_le (by omega), List.drop_eq_getElem_cons hk, wAt_eq b k hk]
    simp [List.merge]
theorem restM_end (a b : List ByteArray) (i : Nat) : restM a b i b.length = a.drop i := by
  unfold restM
  rw [List.drop_length]
  simp [List.merge]
theorem restM_all (a b : List ByteArray) : restM (sortW a) (sortW b) 0 0 = sortW (a ++ b) := by
  unfold restM
  rw [List.drop_zero, List.drop_zero, sortW_merge]
end Go.Proofs.YtabljchbchjjcaaGreatDoor
end
section
namespace Go.Proofs.YtabljchbchjjcaaGreatDoor
set_option linter.unusedVariables false
set_option linter.unusedSimpArgs false
open Go Go.RowKit
def sufs (d : Nat) (S : List ByteArray) : List (List UInt8) := S.map fun s => s.data.toList.drop d
theorem sufs_length (d : Nat) (S : List ByteArray) : (sufs d S).length = S.length := by simp [sufs]
theorem toL_len (s : ByteArray) : s.data.toList.length = s.size := Array.length_toList
/-- Words fit to be built from place d on, with fewer than f letters to come. -/
structure WsOk (d f : Nat) (S : List ByteArray) : Prop where
  rise : RiseS (sufs d S)
  lo : ∀ s ∈ S, d ≤ s.size
  hi : ∀ s ∈ S, s.size < d + f
  asc : ∀ s ∈ S, ∀ u ∈ s.data.toList, u ≠ 43 ∧ u.toNat < 128
theorem WsOk.sub {d f : Nat} {S S' : List ByteArray} (h : WsOk d f S) (k : S'.Sublist S) : WsOk d f S' :=
  ⟨List.Pairwise.sublist (k.map _) h.rise, fun s hs => h.lo s (k.subset hs), fun s hs => h.hi s (k.subset hs), fun s hs => h.asc s (k.subset hs)⟩
theorem finB_nil (d : Nat) : finB (sufs d []) = false := rfl
theorem finB_cons {d : Nat} {s : ByteArray} {r : List ByteArray} (h : d ≤ s.size) : finB (sufs d (s :: r)) = decide (s.size = d) := by
  have hl := toL_len s
  rw [sufs, List.map_cons]
  by_cases e : s.size = d
  · have : s.data.toList.drop d = [] := List.drop_eq_nil_of_le (by omega)
    rw [this, decide_eq_true e]
    rfl
  · have : s.data.toList.drop d ≠ [] := by
      intro q
      have := List.drop_eq_nil_iff.1 q
      omega
    rw [decide_eq_false e]
    cases hc : s.data.toList.drop d with
    | nil => exact absurd hc this
    | cons a b => rfl
/-- The words that go further. -/
def goOn (d : Nat) (S : List ByteArray) : List ByteArray := if finB (sufs d S) then S.tail else S
theorem restL_sufs (d : Nat) (S : List ByteArray) : restL (sufs d S) = sufs d (goOn d S) := by
  unfold restL goOn
  split
  · cases S with
    | nil => rfl
    | cons s r => simp [sufs]
  · rfl
theorem goOn_sub (d : Nat) (S : List ByteArray) : (goOn d S).Sublist S := by
  unfold goOn
  split
  · exact List.tail_sublist S
  · exact List.Sublist.refl S
theorem goOn_lt {d f : Nat} {S : List ByteArray} (h : WsOk d f S) : ∀ s ∈ goOn d S, d < s.size := by
  intro s hs
  have h1 := rise_ne h.rise
  rw [restL_sufs] at h1
  have := h1 _ (List.mem_map_of_mem hs)
  have h2 : ¬ s.data.toList.length ≤ d := fun q => this (List.drop_eq_nil_of_le q)
  rw [toL_len] at h2
  omega
def ltr (d : Nat) (s : ByteArray) : UInt8 := s.data.toList.getD d 0
theorem ltr_drop {d : Nat} {s : ByteArray} (h : d < s.size) : s.data.toList.drop d = ltr d s :: s.data.toList.drop (d + 1) := by
  have hl := toL_len s
  rw [List.drop_eq_getElem_cons (by omega)]
  unfold ltr
  rw [List.getD_eq_getElem?_getD, List.getElem?_eq_getElem (by omega)]
  rfl
theorem grp_words {d : Nat} {S : List ByteArray} (hS : ∀ s ∈ S, d < s.size) {c : UInt8} {k : Nat} (h0 : 0 < k) (hk : k ≤ S.length) (hc : ∀ i (hi : i < S.length), i < k → ltr d S[i] = c) (hn : ∀ (h : k < S.length), ltr d S[k] ≠ c) :
    grp (sufs d S) = (c, sufs (d + 1) (S.take k)) :: grp (sufs d (S.drop k)) := by
  rw [grp_take c (sufs d S) k h0 (by rw [sufs_length]; exact hk) (fun i hi hik => ?_) (fun x hx => ?_) (fun h => ?_)]
  · congr 2
    · unfold sufs
      rw [← List.map_take, List.map_map]
      refine List.map_congr_left fun s hs => ?_
      rw [Function.comp, ltr_drop (hS s (List.mem_of_mem_take hs))]
      rfl
    · unfold sufs
      rw [← List.map_drop]
  · have hi2 : i < S.length := by rw [sufs_length] at hi; exact hi
    simp only [sufs, List.getElem_map]
    rw [ltr_drop (hS _ (List.getElem_mem hi2)), hc i hi2 hik]
    rfl
  · obtain ⟨s, hs, rfl⟩ := List.mem_map.1 hx
    rw [ltr_drop (hS s hs)]
    simp
  · have hi2 : k < S.length := by rw [sufs_length] at h; exact h
    simp only [sufs, List.getElem_map]
    rw [ltr_drop (hS _ (List.getElem_mem hi2))]
    simp only [List.head?_cons, ne_eq, Option.some.injEq]
    exact hn hi2
theorem WsOk.step {d f : Nat} {S : List ByteArray} (h : WsOk d (f + 1) S) (hS : ∀ s ∈ S, d < s.size) {c : UInt8} {k : Nat} (h0 : 0 < k) (hk : k ≤ S.length) (hc : ∀ i (hi : i < S.length), i < k → ltr d S[i] = c) (hn : ∀ (h : k < S.length), ltr d S[k] ≠ c) :
    WsOk (d + 1) f (S.take k) ∧ totL (sufs d S) = totL (sufs (d + 1) (S.take k)) + k + totL (sufs d (S.drop k)) := by
  have hne : ∀ x ∈ sufs d S, x ≠ [] := fun x hx => by
    obtain ⟨s, hs, rfl⟩ := List.mem_map.1 hx
    rw [ltr_drop (hS s hs)]
    simp
  have hg := grp_words hS h0 hk hc hn
  refine ⟨⟨?_, fun s hs => hS s (List.mem_of_mem_take hs), fun s hs => ?_, fun s hs => h.asc s (List.mem_of_mem_take hs)⟩, ?_⟩
  · exact grp_rise h.rise hne (c, sufs (d + 1) (S.take k)) (by rw [hg]; simp)
  · have := h.hi s (List.mem_of_mem_take hs); omega
  · have e1 : sufs d S = sufs d (S.take k) ++ sufs d (S.drop k) := by unfold sufs; rw [← List.map_append, List.take_append_drop]
    have e2 : ∀ (l : List ByteArray), (∀ s ∈ l, d < s.size) → totL (sufs d l) = totL (sufs (d + 1) l) + l.length := by
      intro l
      induction l with
      | nil => intro _; rfl
      | cons a r ih =>
        intro hl
        have ih2 := ih (fun s hs => hl s (List.mem_cons_of_mem _ hs))
        have ha := hl a (by simp)
        simp only [sufs, List.map_cons, totL_cons, List.length_cons] at ih2 ⊢
        rw [ih2, List.length_drop, List.length_drop, toL_len]
        omega
    rw [e1, totL_append, e2 _ (fun s hs => hS s (List.mem_of_mem_take hs)), List.length_take, Nat.min_eq_left hk]
theorem ltr_asc {d f : Nat} {S : List ByteArray} (h : WsOk d f S) {s : ByteArray} (hs : s ∈ S) (hd : d < s.size) : ltr d s ≠ 43 ∧ (ltr d s).toNat < 128 := by
  refine h.asc s hs _ ?_
  have hl := toL_len s
  unfold ltr
  rw [List.getD_eq_getElem?_getD, List.getElem?_eq_getElem (by omega)]
  exact List.getElem_mem _
/-- The first word that begins a further group. -/
def runN (c : UInt8) (d : Nat) : List ByteArray → Nat
  | [] => 0
  | s :: r => if ltr d s = c then runN c d r + 1 else 0
theorem runN_le (c : UInt8) (d : Nat) : ∀ (S : List ByteArray), runN c d S ≤ S.length
  | [] => Nat.le_refl _
  | s :: r => by
    rw [runN]
    have := runN_le c d r
    split <;> simp <;> omega
theorem runN_in (c : UInt8) (d : Nat) : ∀ (S : List ByteArray) (i : Nat) (hi : i < S.length), i < runN c d S → ltr d S[i] = c
  | s :: r, 0, _, h => by
    rw [runN] at h
    split at h
    · assumption
    · omega
  | s :: r, i + 1, hi, h => by
    rw [runN] at h
    split at h
    · exact runN_in c d r i (by simpa using hi) (by omega)
    · omega
theorem runN_out (c : UInt8) (d : Nat) : ∀ (S : List ByteArray) (h : runN c d S < S.length), ltr d (S[runN c d S]) ≠ c
  | [], h => by simp [runN] at h
  | s :: r, h => by
    by_cases q : ltr d s = c
    · have e : runN c d (s :: r) = runN c d r + 1 := by rw [runN, if_pos q]
      have h2 : runN c d r < r.length := by rw [e] at h; simpa using h
      have := runN_out c d r h2
      simpa [e] using this
    · have e : runN c d (s :: r) = 0 := by rw [runN, if_neg q]
      simpa [e] using q
theorem runN_pos {d : Nat} {s : ByteArray} {r : List ByteArray} : 0 < runN (ltr d s) d (s :: r) := by
  rw [runN, if_pos rfl]; omega
/-- What building one list of words comes to, after its groups. -/
def foldW (f d : Nat) (st : BSt) (S : List ByteArray) : BSt := (grp (sufs d S)).foldl (bldG (bld f)) st
theorem foldW_nil (f d : Nat) (st : BSt) : foldW f d st [] = st := rfl
theorem foldW_step {f d : Nat} {st : BSt} {S : List ByteArray} (hS : ∀ s ∈ S, d < s.size) {c : UInt8} {k : Nat} (h0 : 0 < k) (hk : k ≤ S.length) (hc : ∀ i (hi : i < S.length), i < k → ltr d S[i] = c) (hn : ∀ (h : k < S.length), ltr d S[k] ≠ c) :
    foldW f d st S = foldW f d (bldG (bld f) st (c, sufs (d + 1) (S.take k))) (S.drop k) := by
  unfold foldW
  rw [grp_words hS h0 hk hc hn, List.foldl_cons]
theorem bld_words (f d : Nat) (N : List Nd) (S : List ByteArray) : bld (f + 1) N (sufs d S) = putN (foldW f d (N, [], []) (goOn d S)).1 ⟨finB (sufs d S), ⟨(foldW f d (N, [], []) (goOn d S)).2.1.toArray⟩, (foldW f d (N, [], []) (goOn d S)).2.2⟩ := by
  rw [bld, restL_sufs]
  rfl
end Go.Proofs.YtabljchbchjjcaaGreatDoor
end
