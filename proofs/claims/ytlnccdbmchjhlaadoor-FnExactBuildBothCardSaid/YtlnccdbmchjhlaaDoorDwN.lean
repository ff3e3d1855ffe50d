/- Nodes numbered while they are met: what stays when more are met. Plain. No condition. -/
import Derived.Test.YtlnccdbmchjhlaaDoorDwM
namespace Go.Proofs.YtlnccdbmchjhlaaDoor
set_option linter.unusedVariables false
set_option linter.unusedSimpArgs false
open Go Go.RowKit
theorem idxOf_pre {a b : List Nat} (h : a <+: b) {x : Nat} (hx : x ∈ a) : b.idxOf x = a.idxOf x := by
  obtain ⟨t, rfl⟩ := h
  rw [List.idxOf_append, if_pos hx]
theorem numN_pre {N : List Nd} {o o' : List Nat} (h : o <+: o') {x : Nat} (hx : ∀ j ∈ nxs N x, j ∈ o) : numN N o' x = numN N o x := by
  unfold numN
  congr 1
  refine List.map_congr_left fun j hj => ?_
  rw [idxOf_pre h (hx _ (List.mem_map_of_mem hj))]
theorem idxOf_new {o : List Nat} {k : Nat} (h : k ∉ o) : (o ++ [k]).idxOf k = o.length := by
  rw [List.idxOf_append, if_neg h]
  simp
/-- The nodes that were met since, with their numbers. -/
def metN (N : List Nd) (o o' : List Nat) : List Nd := (o'.drop o.length).map (numN N o')
theorem metN_self (N : List Nd) (o : List Nat) : metN N o o = [] := by simp [metN]
theorem metN_len {N : List Nd} {o o' : List Nat} (h : o <+: o') : (metN N o o').length + o.length = o'.length := by
  obtain ⟨t, rfl⟩ := h
  simp [metN]; omega
theorem metN_next {N : List Nd} {o o1 o2 : List Nat} (h : o <+: o1) (k : o1 <+: o2) (hc : ∀ x ∈ o1, x ∉ o → ∀ j ∈ nxs N x, j ∈ o1) (hn : o1.Nodup) : metN N o o2 = metN N o o1 ++ metN N o1 o2 := by
  obtain ⟨t, rfl⟩ := h
  obtain ⟨u, rfl⟩ := k
  unfold metN
  have e1 : (o ++ t ++ u).drop o.length = t ++ u := by rw [List.append_assoc, List.drop_left]
  have e2 : (o ++ t).drop o.length = t := List.drop_left
  have e3 : (o ++ t ++ u).drop (o ++ t).length = u := List.drop_left
  rw [e1, e2, e3, List.map_append]
  congr 1
  refine List.map_congr_left fun x hx => ?_
  refine numN_pre (List.prefix_append _ _) (fun j hj => hc x (List.mem_append.2 (.inr hx)) (fun q => ?_) j hj)
  rw [List.nodup_append] at hn
  exact hn.2.2 x q x hx rfl
/-- Many nodes visited, one after another. -/
theorem fold_ok {N : List Nd} (hN : Dn N) (f : Nat) : ∀ (l : List Nat) (o : List Nat), (∀ j ∈ l, j < f ∧ j < N.length) → o.Nodup → (∀ x ∈ o, x < N.length) →
    (l.foldl (dfs N f) o).Nodup ∧ (∀ x ∈ l.foldl (dfs N f) o, x < N.length) ∧ (∀ j ∈ l, j ∈ l.foldl (dfs N f) o) ∧ (∀ x ∈ l.foldl (dfs N f) o, x ∉ o → ∀ j ∈ nxs N x, j ∈ l.foldl (dfs N f) o) ∧ o <+: l.foldl (dfs N f) o
  | [], o, _, h1, h2 => ⟨h1, h2, fun j hj => by simp at hj, fun x hx hn => absurd hx hn, List.prefix_refl _⟩
  | a :: l, o, h0, h1, h2 => by
    obtain ⟨d1, d2, d3, d4⟩ := dfs_ok hN f o a (h0 a (by simp)).1 (h0 a (by simp)).2 h1 h2
    obtain ⟨e1, e2, e3, e4, e5⟩ := fold_ok hN f l (dfs N f o a) (fun j hj => h0 j (List.mem_cons_of_mem _ hj)) d1 d2
    rw [List.foldl_cons]
    refine ⟨e1, e2, fun j hj => ?_, fun x hx hn j hj => ?_, (dfs_pre N f o a).trans e5⟩
    · rcases List.mem_cons.1 hj with rfl | hj
      · exact mem_pre e5 d3
      · exact e3 j hj
    · by_cases hq : x ∈ dfs N f o a
      · exact mem_pre e5 (d4 x hq hn j hj)
      · exact e4 x hx hq j hj
/-- The order when i of a new node's edges have been followed. -/
def ordI (N : List Nd) (f : Nat) (o : List Nat) (k i : Nat) : List Nat := ((nxs N k).take i).foldl (dfs N f) (o ++ [k])
theorem ordI_zero (N : List Nd) (f : Nat) (o : List Nat) (k : Nat) : ordI N f o k 0 = o ++ [k] := rfl
theorem ordI_succ {N : List Nd} {f : Nat} {o : List Nat} {k i : Nat} (hi : i < (nxs N k).length) : ordI N f o k (i + 1) = dfs N f (ordI N f o k i) (nxs N k)[i] := by
  unfold ordI
  rw [List.take_succ_eq_append_getElem hi, List.foldl_append]
  rfl
theorem ordI_all {N : List Nd} {f : Nat} {o : List Nat} {k : Nat} (h : k ∉ o) : ordI N f o k (nxs N k).length = dfs N (f + 1) o k := by
  unfold ordI
  rw [List.take_length, dfs, if_neg h]
theorem ordI_ok {N : List Nd} (hN : Dn N) {f : Nat} {o : List Nat} {k : Nat} (hk : k < N.length) (hf : k ≤ f) (h : k ∉ o) (h1 : o.Nodup) (h2 : ∀ x ∈ o, x < N.length) (i : Nat) :
    (ordI N f o k i).Nodup ∧ (∀ x ∈ ordI N f o k i, x < N.length) ∧ (∀ j ∈ (nxs N k).take i, j ∈ ordI N f o k i) ∧ (∀ x ∈ ordI N f o k i, x ∉ o ++ [k] → ∀ j ∈ nxs N x, j ∈ ordI N f o k i) ∧ (o ++ [k]) <+: ordI N f o k i :=
  fold_ok hN f _ _ (fun j hj => by have := hN.nxs hk j (List.mem_of_mem_take hj); omega) (by rw [List.nodup_append]; exact ⟨h1, by simp, fun a ha b hb => by simp at hb; subst hb; exact fun e => h (e ▸ ha)⟩) (fun x hx => by
    rcases List.mem_append.1 hx with q | q
    · exact h2 x q
    · simp at q; omega)
/-- The numbers of the first i edges. -/
def nxI (N : List Nd) (f : Nat) (o : List Nat) (k i : Nat) : List Int := ((ndG N k).nx.take i).map fun j => ((ordI N f o k i).idxOf j.toNat : Int)
theorem nxI_succ {N : List Nd} (hN : Dn N) {f : Nat} {o : List Nat} {k : Nat} (hk : k < N.length) (hf : k ≤ f) (h : k ∉ o) (h1 : o.Nodup) (h2 : ∀ x ∈ o, x < N.length) {i : Nat} (hi : i < (ndG N k).nx.length) :
    nxI N f o k (i + 1) = nxI N f o k i ++ [((ordI N f o k (i + 1)).idxOf ((ndG N k).nx[i]).toNat : Int)] := by
  unfold nxI
  rw [List.take_succ_eq_append_getElem hi, List.map_append]
  congr 1
  refine List.map_congr_left fun j hj => ?_
  have hi2 : i < (nxs N k).length := by simpa [nxs] using hi
  rw [ordI_succ hi2, idxOf_pre (dfs_pre N f _ _)]
  refine (ordI_ok hN hk hf h h1 h2 i).2.2.1 _ ?_
  unfold nxs
  rw [← List.map_take]
  exact List.mem_map_of_mem hj
theorem nxI_all {N : List Nd} {f : Nat} {o : List Nat} {k : Nat} (h : k ∉ o) : nxI N f o k (ndG N k).nx.length = (numN N (dfs N (f + 1) o k) k).nx := by
  unfold nxI numN
  rw [List.take_length, show (ndG N k).nx.length = (nxs N k).length by simp [nxs], ordI_all h]
theorem metN_cons {N : List Nd} {o o' : List Nat} {k : Nat} (h : (o ++ [k]) <+: o') : metN N o o' = numN N o' k :: metN N (o ++ [k]) o' := by
  obtain ⟨t, rfl⟩ := h
  unfold metN
  have e1 : (o ++ [k] ++ t).drop o.length = k :: t := by rw [List.append_assoc, List.drop_left]; rfl
  have e2 : (o ++ [k] ++ t).drop (o ++ [k]).length = t := List.drop_left
  rw [e1, e2, List.map_cons]
theorem metI_succ {N : List Nd} (hN : Dn N) {f : Nat} {o : List Nat} {k : Nat} (hk : k < N.length) (hf : k ≤ f) (h : k ∉ o) (h1 : o.Nodup) (h2 : ∀ x ∈ o, x < N.length) {i : Nat} (hi : i < (nxs N k).length) :
    metN N (o ++ [k]) (ordI N f o k (i + 1)) = metN N (o ++ [k]) (ordI N f o k i) ++ metN N (ordI N f o k i) (ordI N f o k (i + 1)) := by
  obtain ⟨g1, g2, g3, g4, g5⟩ := ordI_ok hN hk hf h h1 h2 i
  exact metN_next g5 (by rw [ordI_succ hi]; exact dfs_pre N f _ _) g4 g1
end Go.Proofs.YtlnccdbmchjhlaaDoor
