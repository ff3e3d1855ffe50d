/- Words of a lexicon are fit to be built from; how many edges there are at most. Plain. No condition. -/
import Derived.Test.YtlnccdbmchjhlaaDoorCh05a
import Derived.Test.YtlnccdbmchjhlaaDoorDwB
import Derived.Test.YtlnccdbmchjhlaaDoorDwN
namespace Go.Proofs.YtlnccdbmchjhlaaDoor
set_option linter.unusedVariables false
set_option linter.unusedSimpArgs false
open Go Go.RowKit
theorem incB_step {l : List ByteArray} (h : incB l = true) {i : Nat} (hi : i + 1 < l.length) : (wAt l i).data.toList < (wAt l (i + 1)).data.toList := by
  unfold incB at h
  rw [List.all_eq_true] at h
  have := h i (List.mem_range.2 (by omega))
  unfold lessB at this
  rw [Go.Proofs.bytesLess_eq, decide_eq_true_eq, Lib.toList_data, Lib.toList_data] at this
  exact this
theorem incB_up {l : List ByteArray} (h : incB l = true) : ∀ (d i : Nat), i + d + 1 < l.length → (wAt l i).data.toList < (wAt l (i + d + 1)).data.toList
  | 0, i, hi => incB_step h hi
  | d + 1, i, hi => List.lt_trans (incB_up h d i (by omega)) (incB_step h hi)
theorem rise_words {l : List ByteArray} (h : incB l = true) : RiseS (sufs 0 l) := by
  unfold RiseS sufs
  rw [List.pairwise_map, List.pairwise_iff_getElem]
  intro i j hi hj hij
  rw [List.drop_zero, List.drop_zero, wAt_eq l i hi, wAt_eq l j hj]
  obtain ⟨d, rfl⟩ : ∃ d, j = i + d + 1 := ⟨j - i - 1, by omega⟩
  exact incB_up h d i hj
theorem totL_le {d b : Nat} : ∀ {S : List ByteArray}, (∀ s ∈ S, s.size ≤ b) → totL (sufs d S) ≤ S.length * b
  | [], _ => by simp [totL, sufs]
  | s :: r, h => by
    have ih := totL_le (d := d) (S := r) (fun x hx => h x (List.mem_cons_of_mem _ hx))
    have h1 := h s (by simp)
    have e : sufs d (s :: r) = s.data.toList.drop d :: sufs d r := rfl
    have hl := toL_len s
    rw [e, totL_cons, List.length_drop, hl, List.length_cons, Nat.succ_mul]
    omega
theorem longOk_parts {s : ByteArray} (h : longOk s = true) : 2 ≤ s.size ∧ s.size ≤ 12 ∧ ∀ u ∈ s.data.toList, 97 ≤ u.toNat ∧ u.toNat ≤ 122 := by
  unfold longOk wordOk at h
  simp only [Bool.and_eq_true, decide_eq_true_eq] at h
  obtain ⟨h1, ⟨h2, h3⟩, h4⟩ := h
  refine ⟨h1, h3, fun u hu => ?_⟩
  unfold allB at h4
  rw [List.all_eq_true] at h4
  have := h4 u hu
  unfold smallB at this
  simp only [decide_eq_true_eq] at this
  omega
theorem lexOk_parts {l : List ByteArray} (h : lexOk l = true) : l.length ≤ 200 ∧ incB l = true ∧ ∀ s ∈ l, longOk s = true := by
  unfold lexOk at h
  simp only [Bool.and_eq_true, decide_eq_true_eq, List.all_eq_true] at h
  exact ⟨h.1, h.2.1, h.2.2⟩
/-- Words of a valid lexicon are fit to be built from. -/
theorem wsOk_lex {l : List ByteArray} (h : lexOk l = true) : WsOk 0 101 l ∧ l.length ≤ 200 ∧ totL (sufs 0 l) ≤ 2400 := by
  obtain ⟨h1, h2, h3⟩ := lexOk_parts h
  refine ⟨⟨rise_words h2, fun s hs => Nat.zero_le _, fun s hs => ?_, fun s hs u hu => ?_⟩, h1, ?_⟩
  · have := longOk_parts (h3 s hs); omega
  · have := (longOk_parts (h3 s hs)).2.2 u hu
    refine ⟨fun e => ?_, by omega⟩
    subst e
    simp at this
  · have := totL_le (d := 0) (b := 12) (S := l) (fun s hs => (longOk_parts (h3 s hs)).2.1)
    omega
/-- How many edges there are. -/
def wtN (N : List Nd) : Nat := (N.map fun n => n.nx.length).sum
theorem wtN_append (a b : List Nd) : wtN (a ++ b) = wtN a + wtN b := by simp [wtN]
theorem wtN_mem {N : List Nd} {n : Nd} (h : n ∈ N) : n.nx.length ≤ wtN N := by
  obtain ⟨a, b, rfl⟩ := List.append_of_mem h
  rw [wtN_append]
  have : wtN (n :: b) = n.nx.length + wtN b := by simp [wtN]
  omega
theorem bld_wt : ∀ (f : Nat) (N : List Nd) (l : List (List UInt8)), RiseS l → wtN (bld f N l).1 ≤ wtN N + totL l
  | 0, N, l, _ => by rw [bld]; simp
  | f + 1, N, l, hl => by
    have key : ∀ (gs : List (UInt8 × List (List UInt8))) (st : BSt), (∀ g ∈ gs, RiseS g.2) → (∀ g ∈ gs, g.2 ≠ []) → wtN (gs.foldl (bldG (bld f)) st).1 + (gs.foldl (bldG (bld f)) st).2.2.length ≤ wtN st.1 + st.2.2.length + totL (gs.flatMap (fun g => g.2.map (g.1 :: ·))) := by
      intro gs
      induction gs with
      | nil => intro st _ _; simp
      | cons g gs ih =>
        intro st h1 h2
        rw [List.foldl_cons, List.flatMap_cons, totL_append, totL_heads]
        have a1 := ih (bldG (bld f) st g) (fun x hx => h1 x (List.mem_cons_of_mem _ hx)) (fun x hx => h2 x (List.mem_cons_of_mem _ hx))
        have a2 := bld_wt f st.1 g.2 (h1 g (by simp))
        have a3 : (bldG (bld f) st g).1 = (bld f st.1 g.2).1 := rfl
        have a5 : (bldG (bld f) st g).2.2.length = st.2.2.length + 1 := by simp [bldG]
        have a4 : 0 < g.2.length := List.length_pos_iff.2 (h2 g (by simp))
        rw [a3, a5] at a1
        omega
    have hg : ∀ g ∈ grp (restL l), RiseS g.2 := fun g hg => grp_rise (rise_rest hl) (rise_ne hl) g hg
    have h1 := key (grp (restL l)) (N, [], []) hg (grp_ne _)
    rw [grp_flat _ (rise_ne hl), totL_rest] at h1
    rw [bld]
    unfold putN
    simp only
    split
    · simp only at h1; simp only [List.length_nil] at h1; omega
    · rw [wtN_append]
      simp only [List.length_nil] at h1
      have : ∀ n : Nd, wtN [n] = n.nx.length := fun n => by simp [wtN]
      rw [this]
      simp only
      omega
theorem ndG_wt (N : List Nd) : ((List.range N.length).map fun k => (ndG N k).nx.length).sum = wtN N := by
  have : (List.range N.length).map (fun k => (ndG N k).nx.length) = N.map fun n => n.nx.length := by
    apply List.ext_getElem
    · simp
    · intro i h1 h2
      simp at h1 h2
      simp [← ndG_eq h1]
  rw [this]
  rfl
theorem sum_filter_le (f : Nat → Nat) (p : Nat → Bool) : ∀ l : List Nat, ((l.filter p).map f).sum ≤ (l.map f).sum
  | [] => by simp
  | a :: l => by
    have := sum_filter_le f p l
    rw [List.filter_cons]
    split
    · simp; omega
    · simp; omega
/-- Numbering keeps the edges. -/
theorem numb_wt {N : List Nd} {o : List Nat} (h : o.Nodup) (hl : ∀ x ∈ o, x < N.length) (o' : List Nat) : wtN (o.map (numN N o')) ≤ wtN N := by
  have h1 : ((List.range N.length).filter fun j => decide (j ∈ o)).Perm o := by
    rw [List.perm_ext_iff_of_nodup (List.Nodup.sublist List.filter_sublist List.nodup_range) h]
    intro j
    rw [List.mem_filter, List.mem_range, decide_eq_true_eq]
    exact ⟨fun h => h.2, fun hj => ⟨hl j hj, hj⟩⟩
  have h2 : wtN (o.map (numN N o')) = (o.map fun k => (ndG N k).nx.length).sum := by
    unfold wtN
    rw [List.map_map]
    congr 1
    refine List.map_congr_left fun k _ => ?_
    simp [numN]
  rw [h2, ← (h1.map fun k => (ndG N k).nx.length).sum_nat, ← ndG_wt]
  exact sum_filter_le _ _ _
/-- The automaton of a list of words: its nodes. -/
def autoS (S : List ByteArray) : List Nd := autoL (sufs 0 S) 101
theorem autoS_ok {S : List ByteArray} (h : WsOk 0 101 S) : (autoS S).length ≤ 1 + totL (sufs 0 S) ∧ wtN (autoS S) ≤ totL (sufs 0 S) ∧ 0 < (autoS S).length := by
  have hf : ∀ x ∈ sufs 0 S, x.length < 101 := fun x hx => by
    obtain ⟨s, hs, rfl⟩ := List.mem_map.1 hx
    have := h.hi s hs
    have hl := toL_len s
    rw [List.length_drop, hl]
    omega
  obtain ⟨h1, h2, h3⟩ := bld_ok 101 [] (sufs 0 S) h.rise hf (by omega) Dn.nil
  have h4 := bld_len 101 [] (sufs 0 S) h.rise
  have h5 := bld_wt 101 [] (sufs 0 S) h.rise
  obtain ⟨d1, d2, d3, -⟩ := dfs_ok h2 _ [] _ h3 h3 List.nodup_nil (by simp)
  have h6 := nodup_len d1 d2
  unfold autoS autoL numb
  refine ⟨?_, Nat.le_trans (numb_wt d1 d2 _) (by simpa [wtN] using h5), ?_⟩
  · rw [List.length_map]
    simp at h4
    omega
  · rw [List.length_map]
    exact List.length_pos_of_mem d3
end Go.Proofs.YtlnccdbmchjhlaaDoor
