/- Several texts in one: DwL, DwM. Conditions: see each. -/
import Derived.Test.YtabljchbchjjcaaGreatDoorDg4
section
namespace Go.Proofs.YtabljchbchjjcaaGreatDoor
set_option linter.unusedVariables false
set_option linter.unusedSimpArgs false
open Go Go.RowKit
/-- The strings by their first byte, one group after another, without this byte. -/
def grp : List (List UInt8) → List (UInt8 × List (List UInt8))
  | [] => []
  | [] :: r => grp r
  | (c :: t) :: r => match grp r with
    | [] => [(c, [t])]
    | (d, ts) :: g => if c = d then (c, t :: ts) :: g else (c, [t]) :: (d, ts) :: g
def finB (l : List (List UInt8)) : Bool := match l with
  | [] :: _ => true
  | _ => false
def restL (l : List (List UInt8)) : List (List UInt8) := if finB l then l.tail else l
/-- The nodes with a further one, unless there is an equal one; and its place. -/
def putN (N : List Nd) (n : Nd) : List Nd × Nat := (if N.findIdx (fun x => eqNd x n) < N.length then N else N ++ [n], N.findIdx (fun x => eqNd x n))
abbrev BSt := List Nd × List UInt8 × List Int
def bldG (bl : List Nd → List (List UInt8) → List Nd × Nat) (st : BSt) (g : UInt8 × List (List UInt8)) : BSt := ((bl st.1 g.2).1, st.2.1 ++ [g.1], st.2.2 ++ [((bl st.1 g.2).2 : Int)])
def bld : Nat → List Nd → List (List UInt8) → List Nd × Nat
  | 0, N, _ => (N, 0)
  | f + 1, N, l => putN ((grp (restL l)).foldl (bldG (bld f)) (N, [], [])).1 ⟨finB l, ⟨((grp (restL l)).foldl (bldG (bld f)) (N, [], [])).2.1.toArray⟩, ((grp (restL l)).foldl (bldG (bld f)) (N, [], [])).2.2⟩
/-- In rising order. -/
def RiseS (l : List (List UInt8)) : Prop := l.Pairwise (· < ·)
def totL (l : List (List UInt8)) : Nat := (l.map List.length).sum
theorem u8_irrefl (c : UInt8) : ¬ c < c := by
  rw [UInt8.lt_iff_toNat_lt]; omega
theorem cons_lt {c d : UInt8} {a b : List UInt8} : c :: a < d :: b ↔ c < d ∨ c = d ∧ a < b := by
  exact List.cons_lt_cons_iff
theorem rise_ne {l : List (List UInt8)} (h : RiseS l) : ∀ x ∈ restL l, x ≠ [] := by
  intro x hx
  cases l with
  | nil => simp [restL, finB] at hx
  | cons a r =>
    have hp := (List.pairwise_cons.1 h).1
    cases a with
    | nil =>
      have := hp x (by simpa [restL, finB] using hx)
      intro e
      subst e
      exact List.not_lt_nil _ this
    | cons c t =>
      have hx2 : x ∈ (c :: t) :: r := by simpa [restL, finB] using hx
      rcases List.mem_cons.1 hx2 with rfl | hx3
      · simp
      · have := hp x hx3
        intro e
        subst e
        exact List.not_lt_nil _ this
theorem rise_rest {l : List (List UInt8)} (h : RiseS l) : RiseS (restL l) := by
  unfold restL
  split
  · exact List.Pairwise.sublist (List.tail_sublist l) h
  · exact h
/-- What a group is, where the strings that follow begin otherwise. -/
theorem grp_take (c : UInt8) : ∀ (l : List (List UInt8)) (k : Nat), 0 < k → k ≤ l.length → (∀ i (hi : i < l.length), i < k → (l[i]).head? = some c) → (∀ x ∈ l, x ≠ []) → (∀ (hk : k < l.length), (l[k]).head? ≠ some c) →
    grp l = (c, (l.take k).map List.tail) :: grp (l.drop k)
  | [], k, h0, hk, _, _, _ => by simp at hk; omega
  | a :: r, k, h0, hk, hc, hne, hn => by
    have ha := hc 0 (by simp) h0
    cases a with
    | nil => simp at ha
    | cons d t =>
      simp at ha
      subst ha
      by_cases k1 : k = 1
      · subst k1
        cases r with
        | nil => simp [grp]
        | cons b r =>
          have hb := hn (by simp)
          have hbn := hne b (by simp)
          cases b with
          | nil => exact absurd rfl hbn
          | cons e u =>
            simp at hb
            have : ∃ ts g, grp ((e :: u) :: r) = (e, ts) :: g := by
              rw [grp]
              split
              · exact ⟨_, _, rfl⟩
              · split
                · exact ⟨_, _, rfl⟩
                · exact ⟨_, _, rfl⟩
            obtain ⟨ts, g, hg⟩ := this
            rw [grp, hg]
            simp only [List.take_succ_cons, List.take_zero, List.map_cons, List.map_nil, List.tail_cons, List.drop_succ_cons, List.drop_zero, hg]
            rw [if_neg (fun q => hb q.symm)]
      · have ih := grp_take d r (k - 1) (by omega) (by simp at hk; omega) (fun i hi hik => by
          have := hc (i + 1) (by simp; omega) (by omega)
          simpa using this) (fun x hx => hne x (List.mem_cons_of_mem _ hx)) (fun hk2 => by
          have := hn (by simp; omega)
          obtain ⟨j, rfl⟩ : ∃ j, k = j + 1 := ⟨k - 1, by omega⟩
          simpa using this)
        obtain ⟨j, rfl⟩ : ∃ j, k = j + 1 := ⟨k - 1, by omega⟩
        simp only [Nat.add_sub_cancel] at ih
        rw [grp, ih]
        simp
theorem grp_mem : ∀ (l : List (List UInt8)) (g : UInt8 × List (List UInt8)), g ∈ grp l → ∀ x ∈ g.2, (g.1 :: x) ∈ l
  | [], g, hg => by simp [grp] at hg
  | [] :: r, g, hg => fun x hx => List.mem_cons_of_mem _ (grp_mem r g (by simpa [grp] using hg) x hx)
  | (c :: t) :: r, g, hg => by
    intro x hx
    rw [grp] at hg
    have ih := grp_mem r
    split at hg
    · simp at hg
      subst hg
      simp at hx
      subst hx
      simp
    · rename_i d ts gs hq
      split at hg
      · rename_i hcd
        subst hcd
        rcases List.mem_cons.1 hg with rfl | hg
        · rcases List.mem_cons.1 hx with rfl | hx
          · simp
          · exact List.mem_cons_of_mem _ (ih (c, ts) (by rw [hq]; simp) x hx)
        · exact List.mem_cons_of_mem _ (ih g (by rw [hq]; exact List.mem_cons_of_mem _ hg) x hx)
      · rcases List.mem_cons.1 hg with rfl | hg
        · simp at hx
          subst hx
          simp
        · exact List.mem_cons_of_mem _ (ih g (by rw [hq]; exact hg) x hx)
/-- The groups give the list again. -/
theorem grp_flat : ∀ (l : List (List UInt8)), (∀ x ∈ l, x ≠ []) → (grp l).flatMap (fun g => g.2.map (g.1 :: ·)) = l
  | [], _ => rfl
  | [] :: r, h => absurd rfl (h [] (by simp))
  | (c :: t) :: r, h => by
    have ih := grp_flat r (fun x hx => h x (List.mem_cons_of_mem _ hx))
    rw [grp]
    split
    · rename_i hq
      rw [hq] at ih
      simp at ih
      subst ih
      simp
    · rename_i d ts gs hq
      rw [hq] at ih
      simp only [List.flatMap_cons] at ih
      split
      · rename_i hcd
        subst hcd
        simp [← ih]
      · simp [← ih]
theorem grp_ne : ∀ (l : List (List UInt8)) (g : UInt8 × List (List UInt8)), g ∈ grp l → g.2 ≠ []
  | [], g, hg => by simp [grp] at hg
  | [] :: r, g, hg => grp_ne r g (by simpa [grp] using hg)
  | (c :: t) :: r, g, hg => by
    rw [grp] at hg
    split at hg
    · simp at hg
      subst hg
      simp
    · rename_i d ts gs hq
      split at hg
      · rcases List.mem_cons.1 hg with rfl | hg
        · simp
        · exact grp_ne r g (by rw [hq]; exact List.mem_cons_of_mem _ hg)
      · rcases List.mem_cons.1 hg with rfl | hg
        · simp
        · exact grp_ne r g (by rw [hq]; exact hg)
theorem flat_sub {α β : Type} {f : α → List β} : ∀ {gs : List α} {g : α}, g ∈ gs → (f g).Sublist (gs.flatMap f)
  | a :: gs, g, h => by
    rw [List.flatMap_cons]
    rcases List.mem_cons.1 h with rfl | h
    · exact List.sublist_append_left _ _
    · exact (flat_sub h).trans (List.sublist_append_right _ _)
/-- Each group is in rising order. -/
theorem grp_rise {l : List (List UInt8)} (hl : RiseS l) (hn : ∀ x ∈ l, x ≠ []) : ∀ g ∈ grp l, RiseS g.2 := by
  intro g hg
  have h1 : (g.2.map (g.1 :: ·)).Sublist l := by
    have := flat_sub (f := fun g : UInt8 × List (List UInt8) => g.2.map (g.1 :: ·)) hg
    rw [grp_flat l hn] at this
    exact this
  have h2 := List.Pairwise.sublist h1 hl
  rw [List.pairwise_map] at h2
  refine h2.imp ?_
  intro a b h
  rcases cons_lt.1 h with k | ⟨_, k⟩
  · exact absurd k (u8_irrefl _)
  · exact k
theorem totL_append (a b : List (List UInt8)) : totL (a ++ b) = totL a + totL b := by simp [totL]
theorem totL_cons (a : List UInt8) (b : List (List UInt8)) : totL (a :: b) = a.length + totL b := by simp [totL]
theorem totL_heads (c : UInt8) (l : List (List UInt8)) : totL (l.map (c :: ·)) = totL l + l.length := by
  induction l with
  | nil => rfl
  | cons a r ih => rw [List.map_cons, totL_cons, totL_cons, ih]; simp; omega
theorem totL_rest (l : List (List UInt8)) : totL (restL l) = totL l := by
  cases l with
  | nil => rfl
  | cons a r =>
    cases a with
    | nil => rw [totL_cons]; simp [restL, finB]
    | cons c t => rfl
/-- How many nodes more there are at most: one a byte, and one. -/
theorem bld_len : ∀ (f : Nat) (N : List Nd) (l : List (List UInt8)), RiseS l → (bld f N l).1.length ≤ N.length + 1 + totL l
  | 0, N, l, _ => by rw [bld]; simp; omega
  | f + 1, N, l, hl => by
    have key : ∀ (gs : List (UInt8 × List (List UInt8))) (st : BSt), (∀ g ∈ gs, RiseS g.2) → (∀ g ∈ gs, g.2 ≠ []) → (gs.foldl (bldG (bld f)) st).1.length ≤ st.1.length + totL (gs.flatMap (fun g => g.2.map (g.1 :: ·))) := by
      intro gs
      induction gs with
      | nil => intro st _ _; simp
      | cons g gs ih =>
        intro st h1 h2
        rw [List.foldl_cons, List.flatMap_cons, totL_append, totL_heads]
        have a1 := ih (bldG (bld f) st g) (fun x hx => h1 x (List.mem_cons_of_mem _ hx)) (fun x hx => h2 x (List.mem_cons_of_mem _ hx))
        have a2 := bld_len f st.1 g.2 (h1 g (by simp))
        have a3 : (bldG (bld f) st g).1 = (bld f st.1 g.2).1 := rfl
        have a4 : 0 < g.2.length := List.length_pos_iff.2 (h2 g (by simp))
        rw [a3] at a1
        omega
    have hg : ∀ g ∈ grp (restL l), RiseS g.2 := by
      intro g hg
      exact grp_rise (rise_rest hl) (rise_ne hl) g hg
    have h1 := key (grp (restL l)) (N, [], []) hg (grp_ne _)
    rw [grp_flat _ (rise_ne hl), totL_rest] at h1
    rw [bld]
    unfold putN
    simp only
    split
    · simp only at h1; omega
    · rw [List.length_append]
      simp only [List.length_cons, List.length_nil] at h1 ⊢
      omega
end Go.Proofs.YtabljchbchjjcaaGreatDoor
end
section
namespace Go.Proofs.YtabljchbchjjcaaGreatDoor
set_option linter.unusedVariables false
set_option linter.unusedSimpArgs false
open Go Go.RowKit
theorem eqNd_iff {a b : Nd} : eqNd a b = true ↔ a = b := by
  cases a; cases b
  simp [eqNd]
def ndG (N : List Nd) (k : Nat) : Nd := N.getD k noNd.nd
theorem ndG_mem {N : List Nd} {k : Nat} (h : k < N.length) : ndG N k ∈ N := by
  unfold ndG
  rw [List.getD_eq_getElem?_getD, List.getElem?_eq_getElem h]
  exact List.getElem_mem h
theorem ndG_eq {N : List Nd} {k : Nat} (h : k < N.length) : N[k] = ndG N k := by
  unfold ndG
  rw [List.getD_eq_getElem?_getD, List.getElem?_eq_getElem h]; rfl
theorem ndG_pre {N M : List Nd} (h : N <+: M) {k : Nat} (hk : k < N.length) : ndG M k = ndG N k := by
  obtain ⟨t, rfl⟩ := h
  unfold ndG
  rw [List.getD_eq_getElem?_getD, List.getD_eq_getElem?_getD, List.getElem?_append_left hk]
/-- Edges lead to nodes that came before; as many letters as edges. -/
def Dn (N : List Nd) : Prop := ∀ k, k < N.length → (ndG N k).lt.size = (ndG N k).nx.length ∧ ∀ j ∈ (ndG N k).nx, 0 ≤ j ∧ j < (k : Int)
theorem Dn.nil : Dn [] := fun k h => by simp at h
theorem putN_at {N : List Nd} {n : Nd} : (putN N n).2 < (putN N n).1.length ∧ ndG (putN N n).1 (putN N n).2 = n ∧ N <+: (putN N n).1 := by
  unfold putN
  simp only
  by_cases h : N.findIdx (fun x => eqNd x n) < N.length
  · rw [if_pos h]
    refine ⟨h, ?_, List.prefix_refl _⟩
    rw [← ndG_eq h]
    exact eqNd_iff.1 (List.findIdx_getElem (p := fun x => eqNd x n) (w := h))
  · rw [if_neg h]
    have h2 : N.findIdx (fun x => eqNd x n) = N.length := by
      have := List.findIdx_le_length (p := fun x => eqNd x n) (xs := N)
      omega
    rw [h2]
    refine ⟨by simp, ?_, List.prefix_append _ _⟩
    unfold ndG
    rw [List.getD_eq_getElem?_getD]
    simp
theorem putN_dn {N : List Nd} {n : Nd} (h : Dn N) (h1 : n.lt.size = n.nx.length) (h2 : ∀ j ∈ n.nx, 0 ≤ j ∧ j < (N.length : Int)) : Dn (putN N n).1 := by
  unfold putN
  simp only
  by_cases q : N.findIdx (fun x => eqNd x n) < N.length
  · rw [if_pos q]; exact h
  · rw [if_neg q]
    intro k hk
    by_cases e : k < N.length
    · rw [ndG_pre (List.prefix_append _ _) e]
      exact h k e
    · have : k = N.length := by simp at hk; omega
      subst this
      have e2 : ndG (N ++ [n]) N.length = n := by
        unfold ndG
        rw [List.getD_eq_getElem?_getD]
        simp
      rw [e2]
      exact ⟨h1, h2⟩
theorem pre_len {α : Type} {a b : List α} (h : a <+: b) : a.length ≤ b.length := h.length_le
/-- What a fold over groups keeps. -/
def BOk (st : BSt) : Prop := Dn st.1 ∧ st.2.1.length = st.2.2.length ∧ ∀ j ∈ st.2.2, 0 ≤ j ∧ j < (st.1.length : Int)
theorem bldG_ok {bl : List Nd → List (List UInt8) → List Nd × Nat} {st : BSt} {g : UInt8 × List (List UInt8)} (h : BOk st) (h1 : Dn (bl st.1 g.2).1) (h2 : st.1 <+: (bl st.1 g.2).1) (h3 : (bl st.1 g.2).2 < (bl st.1 g.2).1.length) :
    BOk (bldG bl st g) := by
  obtain ⟨a1, a2, a3⟩ := h
  have hp := pre_len h2
  refine ⟨h1, ?_, ?_⟩
  · simp only [bldG, List.length_append, a2, List.length_cons, List.length_nil]
  · intro j hj
    simp only [bldG, List.mem_append, List.mem_singleton] at hj ⊢
    rcases hj with hj | rfl
    · have := a3 j hj; omega
    · omega
theorem bld_ok : ∀ (f : Nat) (N : List Nd) (l : List (List UInt8)), RiseS l → (∀ x ∈ l, x.length < f) → 0 < f → Dn N →
    N <+: (bld f N l).1 ∧ Dn (bld f N l).1 ∧ (bld f N l).2 < (bld f N l).1.length
  | 0, N, l, _, _, h, _ => by omega
  | f + 1, N, l, hl, hf, _, hN => by
    have hne := rise_ne hl
    have hg := grp_rise (rise_rest hl) hne
    have hlen : ∀ g ∈ grp (restL l), ∀ x ∈ g.2, x.length < f := by
      intro g hg x hx
      have := grp_mem _ g hg x hx
      have h2 : (g.1 :: x) ∈ l := by
        unfold restL at this
        split at this
        · exact List.mem_of_mem_tail this
        · exact this
      have := hf _ h2
      simp at this
      omega
    have hf0 : ∀ g ∈ grp (restL l), 0 < f := by
      intro g hg
      have h1 := grp_ne _ g hg
      obtain ⟨x, hx⟩ := List.exists_mem_of_ne_nil _ h1
      have := hlen g hg x hx
      omega
    have key : ∀ (gs : List (UInt8 × List (List UInt8))) (st : BSt), (∀ g ∈ gs, RiseS g.2) → (∀ g ∈ gs, ∀ x ∈ g.2, x.length < f) → (∀ g ∈ gs, 0 < f) → BOk st → BOk (gs.foldl (bldG (bld f)) st) ∧ st.1 <+: (gs.foldl (bldG (bld f)) st).1 := by
      intro gs
      induction gs with
      | nil => intro st _ _ _ h; exact ⟨h, List.prefix_refl _⟩
      | cons g gs ih =>
        intro st h1 h2 h3 h4
        obtain ⟨b1, b2, b3⟩ := bld_ok f st.1 g.2 (h1 g (by simp)) (h2 g (by simp)) (h3 g (by simp)) h4.1
        rw [List.foldl_cons]
        obtain ⟨c1, c2⟩ := ih (bldG (bld f) st g) (fun x hx => h1 x (List.mem_cons_of_mem _ hx)) (fun x hx => h2 x (List.mem_cons_of_mem _ hx)) (fun x hx => h3 x (List.mem_cons_of_mem _ hx)) (bldG_ok h4 b2 b1 b3)
        exact ⟨c1, b1.trans c2⟩
    obtain ⟨⟨k1, k2, k3⟩, k4⟩ := key (grp (restL l)) (N, [], []) hg hlen hf0 ⟨hN, rfl, fun j hj => by simp at hj⟩
    rw [bld]
    obtain ⟨p1, p2, p3⟩ := putN_at (N := ((grp (restL l)).foldl (bldG (bld f)) (N, [], [])).1) (n := ⟨finB l, ⟨((grp (restL l)).foldl (bldG (bld f)) (N, [], [])).2.1.toArray⟩, ((grp (restL l)).foldl (bldG (bld f)) (N, [], [])).2.2⟩)
    refine ⟨k4.trans p3, putN_dn k1 ?_ k3, p1⟩
    show Array.size _ = _
    simpa using k2
/-- The nodes behind a node. -/
def nxs (N : List Nd) (k : Nat) : List Nat := (ndG N k).nx.map Int.toNat
/-- Nodes in the order in which they are met. -/
def dfs (N : List Nd) : Nat → List Nat → Nat → List Nat
  | 0, o, _ => o
  | f + 1, o, k => if k ∈ o then o else (nxs N k).foldl (dfs N f) (o ++ [k])
theorem Dn.nxs {N : List Nd} (h : Dn N) {k : Nat} (hk : k < N.length) : ∀ j ∈ nxs N k, j < k := by
  intro j hj
  obtain ⟨x, hx, rfl⟩ := List.mem_map.1 hj
  have := (h k hk).2 x hx
  omega
theorem foldl_pre {α : Type} {F : List Nat → α → List Nat} : ∀ (l : List α) (o : List Nat), (∀ o, ∀ a ∈ l, o <+: F o a) → o <+: l.foldl F o
  | [], o, _ => List.prefix_refl _
  | a :: l, o, h => (h o a (by simp)).trans (foldl_pre l _ (fun o b hb => h o b (List.mem_cons_of_mem _ hb)))
theorem dfs_pre (N : List Nd) : ∀ (f : Nat) (o : List Nat) (k : Nat), o <+: dfs N f o k
  | 0, o, _ => List.prefix_refl _
  | f + 1, o, k => by
    rw [dfs]
    split
    · exact List.prefix_refl _
    · exact (List.prefix_append _ _).trans (foldl_pre _ _ fun o a _ => dfs_pre N f o a)
theorem mem_pre {a b : List Nat} (h : a <+: b) {x : Nat} (hx : x ∈ a) : x ∈ b := h.subset hx
theorem dfs_mem (N : List Nd) (f : Nat) (o : List Nat) (k : Nat) : k ∈ dfs N (f + 1) o k := by
  rw [dfs]
  split
  · rename_i h; exact h
  · exact mem_pre (foldl_pre _ _ fun o a _ => dfs_pre N f o a) (by simp)
/-- Those met are met once, are nodes, and all behind them are met. -/
theorem dfs_ok {N : List Nd} (hN : Dn N) : ∀ (f : Nat) (o : List Nat) (k : Nat), k < f → k < N.length → o.Nodup → (∀ x ∈ o, x < N.length) →
    (dfs N f o k).Nodup ∧ (∀ x ∈ dfs N f o k, x < N.length) ∧ k ∈ dfs N f o k ∧ (∀ x ∈ dfs N f o k, x ∉ o → ∀ j ∈ nxs N x, j ∈ dfs N f o k)
  | 0, o, k, h, _, _, _ => by omega
  | f + 1, o, k, hf, hk, ho, hlt => by
    refine ⟨?_, ?_, dfs_mem N f o k, ?_⟩
    all_goals rw [dfs]
    all_goals split
    · exact ho
    rotate_left
    · exact hlt
    rotate_left
    · intro x hx hn; exact absurd hx hn
    all_goals
      rename_i hno
      have hj := hN.nxs hk
      have key : ∀ (l : List Nat) (o : List Nat), (∀ j ∈ l, j < k) → o.Nodup → (∀ x ∈ o, x < N.length) → (l.foldl (dfs N f) o).Nodup ∧ (∀ x ∈ l.foldl (dfs N f) o, x < N.length) ∧ (∀ j ∈ l, j ∈ l.foldl (dfs N f) o) ∧ (∀ x ∈ l.foldl (dfs N f) o, x ∉ o → ∀ j ∈ nxs N x, j ∈ l.foldl (dfs N f) o) := by
        intro l
        induction l with
        | nil => intro o _ h1 h2; exact ⟨h1, h2, fun j hj => by simp at hj, fun x hx hn => absurd hx hn⟩
        | cons a l ih =>
          intro o h0 h1 h2
          obtain ⟨d1, d2, d3, d4⟩ := dfs_ok hN f o a (by have := h0 a (by simp); omega) (by have := h0 a (by simp); omega) h1 h2
          obtain ⟨e1, e2, e3, e4⟩ := ih (dfs N f o a) (fun j hj => h0 j (List.mem_cons_of_mem _ hj)) d1 d2
          have hp : dfs N f o a <+: l.foldl (dfs N f) (dfs N f o a) := foldl_pre _ _ fun o a _ => dfs_pre N f o a
          rw [List.foldl_cons]
          refine ⟨e1, e2, fun j hj => ?_, fun x hx hn j hj => ?_⟩
          · rcases List.mem_cons.1 hj with rfl | hj
            · exact mem_pre hp d3
            · exact e3 j hj
          · by_cases hq : x ∈ dfs N f o a
            · exact mem_pre hp (d4 x hq hn j hj)
            · exact e4 x hx hq j hj
      obtain ⟨e1, e2, e3, e4⟩ := key (nxs N k) (o ++ [k]) hj (by rw [List.nodup_append]; exact ⟨ho, by simp, fun a ha b hb => by simp at hb; subst hb; exact fun e => hno (e ▸ ha)⟩) (fun x hx => by
        rcases List.mem_append.1 hx with h | h
        · exact hlt x h
        · simp at h; omega)
      first
        | exact e1
        | exact e2
        | exact fun x hx hn j hj2 => by
            by_cases hq : x = k
            · subst hq
              exact e3 j hj2
            · exact e4 x hx (by simp [hn, hq]) j hj2
theorem nodup_len {N : Nat} {o : List Nat} (h : o.Nodup) (hl : ∀ x ∈ o, x < N) : o.length ≤ N := by
  have h1 : ((List.range N).filter fun j => decide (j ∈ o)).Perm o := by
    rw [List.perm_ext_iff_of_nodup (List.Nodup.sublist List.filter_sublist List.nodup_range) h]
    intro j
    rw [List.mem_filter, List.mem_range, decide_eq_true_eq]
    exact ⟨fun h => h.2, fun hj => ⟨hl j hj, hj⟩⟩
  have h2 := List.length_filter_le (fun j => decide (j ∈ o)) (List.range N)
  rw [h1.length_eq, List.length_range] at h2
  exact h2
/-- A node with its edges by the places of those they lead to. -/
def numN (N : List Nd) (o : List Nat) (k : Nat) : Nd := ⟨(ndG N k).fin, (ndG N k).lt, (ndG N k).nx.map fun j => (o.idxOf j.toNat : Int)⟩
def numb (N : List Nd) (root : Nat) : List Nd := (dfs N N.length [] root).map (numN N (dfs N N.length [] root))
/-- The nodes of the minimal automaton of a list. -/
def autoL (l : List (List UInt8)) (f : Nat) : List Nd := numb (bld f [] l).1 (bld f [] l).2
end Go.Proofs.YtabljchbchjjcaaGreatDoor
end
