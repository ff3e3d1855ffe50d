/- Minimal automata of ordered lists: what is built, and how its nodes are numbered. Plain. No condition. -/
import Derived.Test.YtlnccdbmchjhlaaDoorDg4
namespace Go.Proofs.YtlnccdbmchjhlaaDoor
set_option linter.unusedVariables false
set_option linter.unusedSimpArgs false
open Go Go.RowKit
/-- The strings by their first byte, one group after another, without this byte. -/
def grp : List (List UInt8) → List (UInt8 × List (List UInt8))
  | [] => []
  | [] :: r => grp r
  | (c :: t) :: r => match grp r with
    | [] => [(c, [t])]
    | (d, ts) :: g => if c = d then (c, t :: ts) :: g else (c, [t]) :: (d, ts) :: g
def finB (l : List (List UInt8)) : Bool := match l with
  | [] :: _ => true
  | _ => false
def restL (l : List (List UInt8)) : List (List UInt8) := if finB l then l.tail else l
/-- The nodes with a further one, unless there is an equal one; and its place. -/
def putN (N : List Nd) (n : Nd) : List Nd × Nat := (if N.findIdx (fun x => eqNd x n) < N.length then N else N ++ [n], N.findIdx (fun x => eqNd x n))
abbrev BSt := List Nd × List UInt8 × List Int
def bldG (bl : List Nd → List (List UInt8) → List Nd × Nat) (st : BSt) (g : UInt8 × List (List UInt8)) : BSt := ((bl st.1 g.2).1, st.2.1 ++ [g.1], st.2.2 ++ [((bl st.1 g.2).2 : Int)])
def bld : Nat → List Nd → List (List UInt8) → List Nd × Nat
  | 0, N, _ => (N, 0)
  | f + 1, N, l => putN ((grp (restL l)).foldl (bldG (bld f)) (N, [], [])).1 ⟨finB l, ⟨((grp (restL l)).foldl (bldG (bld f)) (N, [], [])).2.1.toArray⟩, ((grp (restL l)).foldl (bldG (bld f)) (N, [], [])).2.2⟩
/-- In rising order. -/
def RiseS (l : List (List UInt8)) : Prop := l.Pairwise (· < ·)
def totL (l : List (List UInt8)) : Nat := (l.map List.length).sum
theorem u8_irrefl (c : UInt8) : ¬ c < c := by
  rw [UInt8.lt_iff_toNat_lt]; omega
theorem cons_lt {c d : UInt8} {a b : List UInt8} : c :: a < d :: b ↔ c < d ∨ c = d ∧ a < b := by
  exact List.cons_lt_cons_iff
theorem rise_ne {l : List (List UInt8)} (h : RiseS l) : ∀ x ∈ restL l, x ≠ [] := by
  intro x hx
  cases l with
  | nil => simp [restL, finB] at hx
  | cons a r =>
    have hp := (List.pairwise_cons.1 h).1
    cases a with
    | nil =>
      have := hp x (by simpa [restL, finB] using hx)
      intro e
      subst e
      exact List.not_lt_nil _ this
    | cons c t =>
      have hx2 : x ∈ (c :: t) :: r := by simpa [restL, finB] using hx
      rcases List.mem_cons.1 hx2 with rfl | hx3
      · simp
      · have := hp x hx3
        intro e
        subst e
        exact List.not_lt_nil _ this
theorem rise_rest {l : List (List UInt8)} (h : RiseS l) : RiseS (restL l) := by
  unfold restL
  split
  · exact List.Pairwise.sublist (List.tail_sublist l) h
  · exact h
/-- What a group is, where the strings that follow begin otherwise. -/
theorem grp_take (c : UInt8) : ∀ (l : List (List UInt8)) (k : Nat), 0 < k → k ≤ l.length → (∀ i (hi : i < l.length), i < k → (l[i]).head? = some c) → (∀ x ∈ l, x ≠ []) → (∀ (hk : k < l.length), (l[k]).head? ≠ some c) →
    grp l = (c, (l.take k).map List.tail) :: grp (l.drop k)
  | [], k, h0, hk, _, _, _ => by simp at hk; omega
  | a :: r, k, h0, hk, hc, hne, hn => by
    have ha := hc 0 (by simp) h0
    cases a with
    | nil => simp at ha
    | cons d t =>
      simp at ha
      subst ha
      by_cases k1 : k = 1
      · subst k1
        cases r with
        | nil => simp [grp]
        | cons b r =>
          have hb := hn (by simp)
          have hbn := hne b (by simp)
          cases b with
          | nil => exact absurd rfl hbn
          | cons e u =>
            simp at hb
            have : ∃ ts g, grp ((e :: u) :: r) = (e, ts) :: g := by
              rw [grp]
              split
              · exact ⟨_, _, rfl⟩
              · split
                · exact ⟨_, _, rfl⟩
                · exact ⟨_, _, rfl⟩
            obtain ⟨ts, g, hg⟩ := this
            rw [grp, hg]
            simp only [List.take_succ_cons, List.take_zero, List.map_cons, List.map_nil, List.tail_cons, List.drop_succ_cons, List.drop_zero, hg]
            rw [if_neg (fun q => hb q.symm)]
      · have ih := grp_take d r (k - 1) (by omega) (by simp at hk; omega) (fun i hi hik => by
          have := hc (i + 1) (by simp; omega) (by omega)
          simpa using this) (fun x hx => hne x (List.mem_cons_of_mem _ hx)) (fun hk2 => by
          have := hn (by simp; omega)
          obtain ⟨j, rfl⟩ : ∃ j, k = j + 1 := ⟨k - 1, by omega⟩
          simpa using this)
        obtain ⟨j, rfl⟩ : ∃ j, k = j + 1 := ⟨k - 1, by omega⟩
        simp only [Nat.add_sub_cancel] at ih
        rw [grp, ih]
        simp
theorem grp_mem : ∀ (l : List (List UInt8)) (g : UInt8 × List (List UInt8)), g ∈ grp l → ∀ x ∈ g.2, (g.1 :: x) ∈ l
  | [], g, hg => by simp [grp] at hg
  | [] :: r, g, hg => fun x hx => List.mem_cons_of_mem _ (grp_mem r g (by simpa [grp] using hg) x hx)
  | (c :: t) :: r, g, hg => by
    intro x hx
    rw [grp] at hg
    have ih := grp_mem r
    split at hg
    · simp at hg
      subst hg
      simp at hx
      subst hx
      simp
    · rename_i d ts gs hq
      split at hg
      · rename_i hcd
        subst hcd
        rcases List.mem_cons.1 hg with rfl | hg
        · rcases List.mem_cons.1 hx with rfl | hx
          · simp
          · exact List.mem_cons_of_mem _ (ih (c, ts) (by rw [hq]; simp) x hx)
        · exact List.mem_cons_of_mem _ (ih g (by rw [hq]; exact List.mem_cons_of_mem _ hg) x hx)
      · rcases List.mem_cons.1 hg with rfl | hg
        · simp at hx
          subst hx
          simp
        · exact List.mem_cons_of_mem _ (ih g (by rw [hq]; exact hg) x hx)
/-- The groups give the list again. -/
theorem grp_flat : ∀ (l : List (List UInt8)), (∀ x ∈ l, x ≠ []) → (grp l).flatMap (fun g => g.2.map (g.1 :: ·)) = l
  | [], _ => rfl
  | [] :: r, h => absurd rfl (h [] (by simp))
  | (c :: t) :: r, h => by
    have ih := grp_flat r (fun x hx => h x (List.mem_cons_of_mem _ hx))
    rw [grp]
    split
    · rename_i hq
      rw [hq] at ih
      simp at ih
      subst ih
      simp
    · rename_i d ts gs hq
      rw [hq] at ih
      simp only [List.flatMap_cons] at ih
      split
      · rename_i hcd
        subst hcd
        simp [← ih]
      · simp [← ih]
theorem grp_ne : ∀ (l : List (List UInt8)) (g : UInt8 × List (List UInt8)), g ∈ grp l → g.2 ≠ []
  | [], g, hg => by simp [grp] at hg
  | [] :: r, g, hg => grp_ne r g (by simpa [grp] using hg)
  | (c :: t) :: r, g, hg => by
    rw [grp] at hg
    split at hg
    · simp at hg
      subst hg
      simp
    · rename_i d ts gs hq
      split at hg
      · rcases List.mem_cons.1 hg with rfl | hg
        · simp
        · exact grp_ne r g (by rw [hq]; exact List.mem_cons_of_mem _ hg)
      · rcases List.mem_cons.1 hg with rfl | hg
        · simp
        · exact grp_ne r g (by rw [hq]; exact hg)
theorem flat_sub {α β : Type} {f : α → List β} : ∀ {gs : List α} {g : α}, g ∈ gs → (f g).Sublist (gs.flatMap f)
  | a :: gs, g, h => by
    rw [List.flatMap_cons]
    rcases List.mem_cons.1 h with rfl | h
    · exact List.sublist_append_left _ _
    · exact (flat_sub h).trans (List.sublist_append_right _ _)
/-- Each group is in rising order. -/
theorem grp_rise {l : List (List UInt8)} (hl : RiseS l) (hn : ∀ x ∈ l, x ≠ []) : ∀ g ∈ grp l, RiseS g.2 := by
  intro g hg
  have h1 : (g.2.map (g.1 :: ·)).Sublist l := by
    have := flat_sub (f := fun g : UInt8 × List (List UInt8) => g.2.map (g.1 :: ·)) hg
    rw [grp_flat l hn] at this
    exact this
  have h2 := List.Pairwise.sublist h1 hl
  rw [List.pairwise_map] at h2
  refine h2.imp ?_
  intro a b h
  rcases cons_lt.1 h with k | ⟨_, k⟩
  · exact absurd k (u8_irrefl _)
  · exact k
theorem totL_append (a b : List (List UInt8)) : totL (a ++ b) = totL a + totL b := by simp [totL]
theorem totL_cons (a : List UInt8) (b : List (List UInt8)) : totL (a :: b) = a.length + totL b := by simp [totL]
theorem totL_heads (c : UInt8) (l : List (List UInt8)) : totL (l.map (c :: ·)) = totL l + l.length := by
  induction l with
  | nil => rfl
  | cons a r ih => rw [List.map_cons, totL_cons, totL_cons, ih]; simp; omega
theorem totL_rest (l : List (List UInt8)) : totL (restL l) = totL l := by
  cases l with
  | nil => rfl
  | cons a r =>
    cases a with
    | nil => rw [totL_cons]; simp [restL, finB]
    | cons c t => rfl
/-- How many nodes more there are at most: one a byte, and one. -/
theorem bld_len : ∀ (f : Nat) (N : List Nd) (l : List (List UInt8)), RiseS l → (bld f N l).1.length ≤ N.length + 1 + totL l
  | 0, N, l, _ => by rw [bld]; simp; omega
  | f + 1, N, l, hl => by
    have key : ∀ (gs : List (UInt8 × List (List UInt8))) (st : BSt), (∀ g ∈ gs, RiseS g.2) → (∀ g ∈ gs, g.2 ≠ []) → (gs.foldl (bldG (bld f)) st).1.length ≤ st.1.length + totL (gs.flatMap (fun g => g.2.map (g.1 :: ·))) := by
      intro gs
      induction gs with
      | nil => intro st _ _; simp
      | cons g gs ih =>
        intro st h1 h2
        rw [List.foldl_cons, List.flatMap_cons, totL_append, totL_heads]
        have a1 := ih (bldG (bld f) st g) (fun x hx => h1 x (List.mem_cons_of_mem _ hx)) (fun x hx => h2 x (List.mem_cons_of_mem _ hx))
        have a2 := bld_len f st.1 g.2 (h1 g (by simp))
        have a3 : (bldG (bld f) st g).1 = (bld f st.1 g.2).1 := rfl
        have a4 : 0 < g.2.length := List.length_pos_iff.2 (h2 g (by simp))
        rw [a3] at a1
        omega
    have hg : ∀ g ∈ grp (restL l), RiseS g.2 := by
      intro g hg
      exact grp_rise (rise_rest hl) (rise_ne hl) g hg
    have h1 := key (grp (restL l)) (N, [], []) hg (grp_ne _)
    rw [grp_flat _ (rise_ne hl), totL_rest] at h1
    rw [bld]
    unfold putN
    simp only
    split
    · simp only at h1; omega
    · rw [List.length_append]
      simp only [List.length_cons, List.length_nil] at h1 ⊢
      omega
end Go.Proofs.YtlnccdbmchjhlaaDoor
