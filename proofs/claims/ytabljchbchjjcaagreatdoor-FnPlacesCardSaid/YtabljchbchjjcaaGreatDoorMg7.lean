/- Several texts in one: DwR, DwT. Conditions: see each. -/
import Derived.Test.YtabljchbchjjcaaGreatDoorMg6
section
namespace Go.Proofs.YtabljchbchjjcaaGreatDoor
set_option linter.unusedVariables false
set_option linter.unusedSimpArgs false
open Go Go.RowKit
theorem toL_len' (s : ByteArray) : s.data.toList.length = s.size := Array.length_toList
/-- How many strings lie behind a node, 3001 at most. -/
def cntN (N : List Nd) (k : Nat) : Nat := min (langN N k).length 3001
def mxL (l : List (List UInt8)) : Nat := (l.map List.length).foldr max 0
/-- How long the longest is. -/
def lgsN (N : List Nd) (k : Nat) : Nat := mxL (langN N k)
theorem mxL_append (a b : List (List UInt8)) : mxL (a ++ b) = max (mxL a) (mxL b) := by
  unfold mxL
  induction a with
  | nil => simp
  | cons x r ih => simp only [List.cons_append, List.map_cons, List.foldr_cons] at ih ⊢; rw [ih]; omega
theorem mxL_heads (c : UInt8) (l : List (List UInt8)) (h : l ≠ []) : mxL (l.map (c :: ·)) = mxL l + 1 := by
  unfold mxL
  induction l with
  | nil => exact absurd rfl h
  | cons x r ih =>
    by_cases hr : r = []
    · subst hr; simp
    · have := ih hr
      simp only [List.map_cons, List.foldr_cons, List.length_cons] at this ⊢
      rw [this]; omega
theorem mxL_le {l : List (List UInt8)} {b : Nat} (h : ∀ x ∈ l, x.length ≤ b) : mxL l ≤ b := by
  unfold mxL
  induction l with
  | nil => simp
  | cons x r ih =>
    have h1 := h x (by simp)
    have h2 := ih (fun y hy => h y (List.mem_cons_of_mem _ hy))
    simp only [List.map_cons, List.foldr_cons]
    omega
/-- What the first i edges tell: the strings, how many, how long. -/
def partN (N : List Nd) (k i : Nat) : List (List UInt8) := (if (ndG N k).fin then [[]] else []) ++ ((edg N k).take i).flatMap fun e => (langN N e.2).map (e.1 :: ·)
theorem partN_zero (N : List Nd) (k : Nat) : partN N k 0 = if (ndG N k).fin then [[]] else [] := by simp [partN]
theorem partN_succ {N : List Nd} {k i : Nat} (h : i < (edg N k).length) : partN N k (i + 1) = partN N k i ++ (langN N (edg N k)[i].2).map ((edg N k)[i].1 :: ·) := by
  unfold partN
  rw [List.take_succ_eq_append_getElem h, List.flatMap_append, List.append_assoc]
  simp
theorem partN_all {N : List Nd} (hN : Dn N) {k : Nat} (hk : k < N.length) : partN N k (edg N k).length = langN N k := by
  rw [lang_eq hN hk]
  unfold partN
  rw [List.take_length]
def cntI (N : List Nd) (k i : Nat) : Nat := min (partN N k i).length 3001
def lgsI (N : List Nd) (k i : Nat) : Nat := mxL (partN N k i)
theorem cntI_succ {N : List Nd} {k i : Nat} (h : i < (edg N k).length) : cntI N k (i + 1) = min (cntI N k i + cntN N (edg N k)[i].2) 3001 := by
  unfold cntI cntN
  rw [partN_succ h, List.length_append, List.length_map]
  omega
theorem lgsI_succ {N : List Nd} {k i : Nat} (h : i < (edg N k).length) (hne : langN N (edg N k)[i].2 ≠ []) : lgsI N k (i + 1) = max (lgsI N k i) (lgsN N (edg N k)[i].2 + 1) := by
  unfold lgsI lgsN
  rw [partN_succ h, mxL_append, mxL_heads _ _ hne]
theorem cntI_zero (N : List Nd) (k : Nat) : cntI N k 0 = if (ndG N k).fin then 1 else 0 := by
  unfold cntI
  rw [partN_zero]
  split <;> simp
theorem lgsI_zero (N : List Nd) (k : Nat) : lgsI N k 0 = 0 := by
  unfold lgsI
  rw [partN_zero]
  split <;> simp [mxL]
theorem edg_len {N : List Nd} (h : Dn N) {k : Nat} (hk : k < N.length) : (edg N k).length = (ndG N k).nx.length := by
  have := (h k hk).1
  unfold edg nxs
  rw [List.length_zip, List.length_map, toL_len']
  omega
theorem edg_at {N : List Nd} (h : Dn N) {k i : Nat} (hk : k < N.length) (hi : i < (ndG N k).nx.length) : (edg N k)[i]'(by rw [edg_len h hk]; exact hi) = ((ndG N k).lt.data.toList[i]'(by rw [toL_len', (h k hk).1]; exact hi), ((ndG N k).nx[i]).toNat) := by
  unfold edg nxs
  rw [List.getElem_zip, List.getElem_map]
/-- The renumbered nodes. -/
def numM (N : List Nd) (O : List Nat) : List Nd := O.map (numN N O)
theorem numM_at {N : List Nd} {O : List Nat} {x : Nat} (h : x ∈ O) : ndG (numM N O) (O.idxOf x) = numN N O x := by
  have hl := List.idxOf_lt_length_of_mem h
  unfold ndG numM
  rw [List.getD_eq_getElem?_getD, List.getElem?_map, List.getElem?_eq_getElem hl, List.getElem_idxOf hl]
  rfl
theorem numM_len (N : List Nd) (O : List Nat) : (numM N O).length = O.length := by simp [numM]
theorem numM_nxs {N : List Nd} {O : List Nat} {x : Nat} (h : x ∈ O) : nxs (numM N O) (O.idxOf x) = (nxs N x).map fun j => O.idxOf j := by
  unfold nxs
  rw [numM_at h]
  unfold numN
  simp
theorem lng_num {N : List Nd} {O : List Nat} (hN : Dn N) (hO : ∀ x ∈ O, x < N.length) (hc : ∀ x ∈ O, ∀ j ∈ nxs N x, j ∈ O) : ∀ (f x : Nat), x ∈ O → lng f (numM N O) (O.idxOf x) = lng f N x
  | 0, _, _ => rfl
  | f + 1, x, hx => by
    rw [lng, lng, numM_at hx]
    have e : edg (numM N O) (O.idxOf x) = (edg N x).map fun e => (e.1, O.idxOf e.2) := by
      unfold edg
      rw [numM_nxs hx, numM_at hx, List.zip_map_right]
      rfl
    rw [e, List.flatMap_map]
    congr 1
    refine flat_congr fun a ha => ?_
    rw [lng_num hN hO hc f a.2 (hc x hx _ (List.of_mem_zip ha).2)]
/-- The nodes after renumbering differ too. -/
theorem numM_nodup {N : List Nd} {O : List Nat} (hN : Dn N) (hd : N.Nodup) (hO : ∀ x ∈ O, x < N.length) (hc : ∀ x ∈ O, ∀ j ∈ nxs N x, j ∈ O) (hn : O.Nodup) : (numM N O).Nodup := by
  unfold numM
  unfold List.Nodup at *
  rw [List.pairwise_map]
  refine hn.imp_of_mem fun {x y} hx hy hxy e => hxy ?_
  unfold numN at e
  injection e with e1 e2 e3
  have hlen := congrArg List.length e3
  rw [List.length_map, List.length_map] at hlen
  have hnx : (ndG N x).nx = (ndG N y).nx := by
    apply List.ext_getElem hlen
    intro i h1 h2
    have h3 : ((ndG N x).nx.map fun j => (O.idxOf j.toNat : Int))[i]? = ((ndG N y).nx.map fun j => (O.idxOf j.toNat : Int))[i]? := by rw [e3]
    rw [List.getElem?_map, List.getElem?_map, List.getElem?_eq_getElem h1, List.getElem?_eq_getElem h2] at h3
    simp only [Option.map_some, Option.some.injEq] at h3
    have hm1 : ((ndG N x).nx[i]).toNat ∈ O := hc x hx _ (List.mem_map_of_mem (List.getElem_mem h1))
    have hm2 : ((ndG N y).nx[i]).toNat ∈ O := hc y hy _ (List.mem_map_of_mem (List.getElem_mem h2))
    have h4 : O.idxOf ((ndG N x).nx[i]).toNat = O.idxOf ((ndG N y).nx[i]).toNat := by omega
    have h5 : ((ndG N x).nx[i]).toNat = ((ndG N y).nx[i]).toNat := by
      have a1 := List.getElem_idxOf (List.idxOf_lt_length_of_mem hm1)
      have a2 := List.getElem_idxOf (List.idxOf_lt_length_of_mem hm2)
      rw [← a1, ← a2]
      simp only [h4]
    have b1 := ((hN x (hO x hx)).2 _ (List.getElem_mem h1)).1
    have b2 := ((hN y (hO y hy)).2 _ (List.getElem_mem h2)).1
    omega
  have hnd : ndG N x = ndG N y := by
    cases hx0 : ndG N x
    cases hy0 : ndG N y
    rw [hx0, hy0] at e1 e2 hnx
    simp only at e1 e2 hnx
    rw [e1, e2, hnx]
  have i1 := hO x hx
  have i2 := hO y hy
  rw [← ndG_eq i1, ← ndG_eq i2] at hnd
  exact (List.getElem_inj hd).1 hnd
end Go.Proofs.YtabljchbchjjcaaGreatDoor
end
section
namespace Go.Proofs.YtabljchbchjjcaaGreatDoor
set_option linter.unusedVariables false
set_option linter.unusedSimpArgs false
open Go Go.RowKit
/-- A function turned at one place. -/
def updF {α : Type} (f : Nat → α) (x : Nat) (v : α) : Nat → α := fun z => if z = x then v else f z
theorem updF_same {α : Type} (f : Nat → α) (x : Nat) (v : α) : updF f x v x = v := if_pos rfl
theorem updF_other {α : Type} {f : Nat → α} {x z : Nat} {v : α} (h : z ≠ x) : updF f x v z = f z := if_neg h
theorem map_upd {α β : Type} {O : List Nat} (hn : O.Nodup) {x : Nat} (hx : x ∈ O) (f : Nat → α) (g : α → β) (v : α) : (O.map fun z => g (f z)).set (O.idxOf x) (g v) = O.map fun z => g (updF f x v z) := by
  apply List.ext_getElem
  · simp
  · intro i h1 h2
    have hi : i < O.length := by simpa using h2
    rw [List.getElem_set, List.getElem_map, List.getElem_map]
    split
    · rename_i e
      subst e
      rw [List.getElem_idxOf hi, updF_same]
    · rename_i e
      rw [updF_other]
      intro e2
      exact e (by rw [← e2]; exact hn.idxOf_getElem i hi)
theorem map_at {β : Type} {O : List Nat} {x : Nat} (hx : x ∈ O) (f : Nat → β) : (O.map f)[O.idxOf x]? = some (f x) := by
  rw [List.getElem?_map, List.getElem?_eq_getElem (List.idxOf_lt_length_of_mem hx), List.getElem_idxOf]
  rfl
theorem lng_short {N : List Nd} : ∀ (f k : Nat), ∀ s ∈ lng f N k, s.length < f
  | 0, _, s, h => by simp [lng] at h
  | f + 1, k, s, h => by
    rw [lng] at h
    rcases List.mem_append.1 h with h | h
    · split at h
      · simp at h
        subst h
        simp
      · simp at h
    · obtain ⟨e, he, h2⟩ := List.mem_flatMap.1 h
      obtain ⟨t, ht, rfl⟩ := List.mem_map.1 h2
      have := lng_short f e.2 t ht
      simp
      omega
theorem lgsN_le (N : List Nd) (k : Nat) : lgsN N k ≤ k := mxL_le fun s hs => by have := lng_short (k + 1) k s hs; omega
theorem cntN_le (N : List Nd) (k : Nat) : cntN N k ≤ 3001 := by unfold cntN; omega
theorem cntI_le (N : List Nd) (k i : Nat) : cntI N k i ≤ 3001 := by unfold cntI; omega
theorem lgsI_le (N : List Nd) {k i : Nat} (hN : Dn N) (hk : k < N.length) (hi : i ≤ (edg N k).length) : lgsI N k i ≤ k := by
  refine mxL_le fun s hs => ?_
  have hsub : s ∈ langN N k := by
    rw [lang_eq hN hk]
    unfold partN at hs
    rcases List.mem_append.1 hs with hs | hs
    · exact List.mem_append.2 (.inl hs)
    · obtain ⟨e, he, h2⟩ := List.mem_flatMap.1 hs
      exact List.mem_append.2 (.inr (List.mem_flatMap.2 ⟨e, List.mem_of_mem_take he, h2⟩))
  have := lng_short (k + 1) k s hsub
  omega
theorem cntN_pos {N : List Nd} {k : Nat} (h : langN N k ≠ []) : 0 < cntN N k := by
  unfold cntN
  have := List.length_pos_iff.2 h
  omega
theorem cntI_all {N : List Nd} (hN : Dn N) {k : Nat} (hk : k < N.length) : cntI N k (ndG N k).nx.length = cntN N k := by
  unfold cntI cntN
  rw [← edg_len hN hk, partN_all hN hk]
theorem lgsI_all {N : List Nd} (hN : Dn N) {k : Nat} (hk : k < N.length) : lgsI N k (ndG N k).nx.length = lgsN N k := by
  unfold lgsI lgsN
  rw [← edg_len hN hk, partN_all hN hk]
theorem fold_pre (N : List Nd) (f : Nat) : ∀ (l o : List Nat), o <+: l.foldl (dfs N f) o
  | [], o => List.prefix_refl _
  | a :: l, o => (dfs_pre N f o a).trans (fold_pre N f l _)
end Go.Proofs.YtabljchbchjjcaaGreatDoor
end
