/- Several texts in one: DwQ, DwK. Conditions: see each. -/
import Derived.Test.YtabljchbchjjcaaGreatDoorMg5
import Derived.Test.YtabljchbchjjcaaGreatDoorMg4
import Derived.Lib.ItoaNum
section
namespace Go.Proofs.YtabljchbchjjcaaGreatDoor
set_option linter.unusedVariables false
set_option linter.unusedSimpArgs false
open Go Go.RowKit
theorem putN_nodup {N : List Nd} {n : Nd} (h : N.Nodup) : (putN N n).1.Nodup := by
  unfold putN
  simp only
  by_cases q : N.findIdx (fun x => eqNd x n) < N.length
  · rw [if_pos q]; exact h
  · rw [if_neg q]
    have h2 : N.findIdx (fun x => eqNd x n) = N.length := by
      have := List.findIdx_le_length (p := fun x => eqNd x n) (xs := N)
      omega
    rw [List.findIdx_eq_length] at h2
    rw [List.nodup_append]
    refine ⟨h, by simp, fun a ha b hb e => ?_⟩
    simp at hb
    subst hb
    subst e
    have := h2 a ha
    rw [eqNd_iff.2 rfl] at this
    cases this
theorem bld_nodup : ∀ (f : Nat) (N : List Nd) (l : List (List UInt8)), N.Nodup → (bld f N l).1.Nodup
  | 0, N, l, h => h
  | f + 1, N, l, h => by
    have key : ∀ (gs : List (UInt8 × List (List UInt8))) (st : BSt), st.1.Nodup → (gs.foldl (bldG (bld f)) st).1.Nodup := by
      intro gs
      induction gs with
      | nil => intro st h; exact h
      | cons g gs ih => intro st h; exact ih _ (bld_nodup f st.1 g.2 h)
    rw [bld]
    exact putN_nodup (key _ _ h)
theorem fold_lt (bl : List Nd → List (List UInt8) → List Nd × Nat) : ∀ (gs : List (UInt8 × List (List UInt8))) (st : BSt), (gs.foldl (bldG bl) st).2.1 = st.2.1 ++ gs.map (·.1)
  | [], st => by simp
  | g :: gs, st => by
    rw [List.foldl_cons, fold_lt bl gs]
    simp [bldG]
/-- The heads of the groups rise. -/
theorem grp_heads : ∀ (l : List (List UInt8)), RiseS l → (∀ x ∈ l, x ≠ []) → ((grp l).map (·.1)).Pairwise (· < ·)
  | [], _, _ => by simp [grp]
  | [] :: r, _, h => absurd rfl (h [] (by simp))
  | (c :: t) :: r, hl, h => by
    have hr := (List.pairwise_cons.1 hl)
    have ih := grp_heads r hr.2 (fun x hx => h x (List.mem_cons_of_mem _ hx))
    have hle : ∀ g ∈ grp r, c = g.1 ∨ c < g.1 := fun g hg => by
      obtain ⟨x, hx⟩ := List.exists_mem_of_ne_nil _ (grp_ne r g hg)
      have := hr.1 _ (grp_mem r g hg x hx)
      rcases cons_lt.1 this with k | ⟨k, -⟩
      · exact .inr k
      · exact .inl k
    rw [grp]
    split
    · simp
    · rename_i d ts gs hq
      rw [hq] at ih hle
      split
      · rename_i hcd
        subst hcd
        exact ih
      · rename_i hcd
        have hcd2 : c < d := by
          rcases hle (d, ts) (by simp) with k | k
          · exact absurd k hcd
          · exact k
        rw [List.map_cons, List.pairwise_cons]
        refine ⟨fun y hy => ?_, ih⟩
        rw [List.map_cons, List.mem_cons] at hy
        rcases hy with rfl | hy
        · exact hcd2
        · rw [List.map_cons, List.pairwise_cons] at ih
          have h3 : d < y := ih.1 y hy
          show c < y
          rw [UInt8.lt_iff_toNat_lt] at *
          omega
/-- Letters rise, and are of a kind. -/
def LtOk (P : UInt8 → Prop) (N : List Nd) : Prop := ∀ n ∈ N, n.lt.data.toList.Pairwise (· < ·) ∧ ∀ u ∈ n.lt.data.toList, P u
theorem putN_mem {N : List Nd} {n x : Nd} (h : x ∈ (putN N n).1) : x ∈ N ∨ x = n := by
  unfold putN at h
  simp only at h
  split at h
  · exact .inl h
  · simpa using h
theorem rest_mem {l : List (List UInt8)} {x : List UInt8} (h : x ∈ restL l) : x ∈ l := by
  unfold restL at h
  split at h
  · exact List.mem_of_mem_tail h
  · exact h
theorem bld_lt {P : UInt8 → Prop} : ∀ (f : Nat) (N : List Nd) (l : List (List UInt8)), RiseS l → (∀ x ∈ l, ∀ u ∈ x, P u) → LtOk P N → LtOk P (bld f N l).1
  | 0, N, l, _, _, h => h
  | f + 1, N, l, hl, hp, h => by
    have hne := rise_ne hl
    have hg := grp_rise (rise_rest hl) hne
    have hgp : ∀ g ∈ grp (restL l), P g.1 ∧ ∀ x ∈ g.2, ∀ u ∈ x, P u := by
      intro g hg
      refine ⟨?_, fun x hx u hu => hp _ (rest_mem (grp_mem _ g hg x hx)) u (by simp [hu])⟩
      obtain ⟨x, hx⟩ := List.exists_mem_of_ne_nil _ (grp_ne _ g hg)
      exact hp _ (rest_mem (grp_mem _ g hg x hx)) g.1 (by simp)
    have key : ∀ (gs : List (UInt8 × List (List UInt8))) (st : BSt), (∀ g ∈ gs, RiseS g.2) → (∀ g ∈ gs, ∀ x ∈ g.2, ∀ u ∈ x, P u) → LtOk P st.1 → LtOk P (gs.foldl (bldG (bld f)) st).1 := by
      intro gs
      induction gs with
      | nil => intro st _ _ h; exact h
      | cons g gs ih => intro st h1 h2 h; exact ih _ (fun x hx => h1 x (List.mem_cons_of_mem _ hx)) (fun x hx => h2 x (List.mem_cons_of_mem _ hx)) (bld_lt f st.1 g.2 (h1 g (by simp)) (h2 g (by simp)) h)
    rw [bld]
    intro n hn
    rcases putN_mem hn with hn | rfl
    · exact key _ _ hg (fun g hg => (hgp g hg).2) h n hn
    · have e := fold_lt (bld f) (grp (restL l)) (N, [], [])
      simp only [List.nil_append] at e
      show List.Pairwise _ ((grp (restL l)).foldl (bldG (bld f)) (N, [], [])).2.1 ∧ ∀ u ∈ ((grp (restL l)).foldl (bldG (bld f)) (N, [], [])).2.1, P u
      rw [e]
      refine ⟨grp_heads _ (rise_rest hl) hne, fun u hu => ?_⟩
      obtain ⟨g, hg, rfl⟩ := List.mem_map.1 hu
      exact (hgp g hg).1
/-- Something lies behind each edge. -/
def NeOk (N : List Nd) : Prop := ∀ k, k < N.length → ∀ j ∈ nxs N k, langN N j ≠ []
theorem bld_ne : ∀ (f : Nat) (N : List Nd) (l : List (List UInt8)), RiseS l → (∀ x ∈ l, x.length < f) → 0 < f → Dn N → NeOk N → NeOk (bld f N l).1
  | 0, N, l, _, _, h, _, _ => by omega
  | f + 1, N, l, hl, hf, _, hN, hE => by
    have hne := rise_ne hl
    have hg := grp_rise (rise_rest hl) hne
    have hlen : ∀ g ∈ grp (restL l), ∀ x ∈ g.2, x.length < f := by
      intro g hg x hx
      have := hf _ (rest_mem (grp_mem _ g hg x hx))
      simp at this
      omega
    have hf0 : ∀ g ∈ grp (restL l), 0 < f := by
      intro g hg
      obtain ⟨x, hx⟩ := List.exists_mem_of_ne_nil _ (grp_ne _ g hg)
      have := hlen g hg x hx
      omega
    have key : ∀ (gs : List (UInt8 × List (List UInt8))) (st : BSt), (∀ g ∈ gs, RiseS g.2) → (∀ g ∈ gs, ∀ x ∈ g.2, x.length < f) → (∀ g ∈ gs, 0 < f) → (∀ g ∈ gs, g.2 ≠ []) → BOk st → NeOk st.1 → (∀ j ∈ st.2.2, langN st.1 j.toNat ≠ []) →
        BOk (gs.foldl (bldG (bld f)) st) ∧ NeOk (gs.foldl (bldG (bld f)) st).1 ∧ (∀ j ∈ (gs.foldl (bldG (bld f)) st).2.2, langN (gs.foldl (bldG (bld f)) st).1 j.toNat ≠ []) := by
      intro gs
      induction gs with
      | nil => intro st _ _ _ _ h h2 h3; exact ⟨h, h2, h3⟩
      | cons g gs ih =>
        intro st h1 h2 h3 h0 h4 h5 h6
        obtain ⟨b1, b2, b3⟩ := bld_ok f st.1 g.2 (h1 g (by simp)) (h2 g (by simp)) (h3 g (by simp)) h4.1
        have b4 := bld_lang f st.1 g.2 (h1 g (by simp)) (h2 g (by simp)) (h3 g (by simp)) h4.1
        rw [List.foldl_cons]
        refine ih (bldG (bld f) st g) (fun x hx => h1 x (List.mem_cons_of_mem _ hx)) (fun x hx => h2 x (List.mem_cons_of_mem _ hx)) (fun x hx => h3 x (List.mem_cons_of_mem _ hx)) (fun x hx => h0 x (List.mem_cons_of_mem _ hx)) (bldG_ok h4 b2 b1 b3) (bld_ne f st.1 g.2 (h1 g (by simp)) (h2 g (by simp)) (h3 g (by simp)) h4.1 h5) ?_
        intro j hj
        show langN (bld f st.1 g.2).1 j.toNat ≠ []
        rcases List.mem_append.1 (show j ∈ st.2.2 ++ [((bld f st.1 g.2).2 : Int)] from hj) with hj | hj
        · have := h4.2.2 j hj
          rw [lang_pre h4.1 b1 (by omega)]
          exact h6 j hj
        · simp at hj
          subst hj
          rw [Int.toNat_natCast, b4]
          exact h0 g (by simp)
    obtain ⟨⟨k1, k2, k3⟩, k4, k5⟩ := key (grp (restL l)) (N, [], []) hg hlen hf0 (fun g hg => grp_ne _ g hg) ⟨hN, rfl, fun j hj => by simp at hj⟩ hE (fun j hj => by simp at hj)
    rw [bld]
    obtain ⟨st, hst⟩ : ∃ st, (grp (restL l)).foldl (bldG (bld f)) (N, [], []) = st := ⟨_, rfl⟩
    rw [hst] at k1 k2 k3 k4 k5 ⊢
    obtain ⟨p1, p2, p3⟩ := putN_at (N := st.1) (n := ⟨finB l, ⟨st.2.1.toArray⟩, st.2.2⟩)
    intro k hk j hj
    by_cases hk2 : k < st.1.length
    · have e : nxs (putN st.1 ⟨finB l, ⟨st.2.1.toArray⟩, st.2.2⟩).1 k = nxs st.1 k := by unfold nxs; rw [ndG_pre p3 hk2]
      rw [e] at hj
      have := k1.nxs hk2 j hj
      rw [lang_pre k1 p3 (by omega)]
      exact k4 k hk2 j hj
    · have hk3 : ndG (putN st.1 ⟨finB l, ⟨st.2.1.toArray⟩, st.2.2⟩).1 k = ⟨finB l, ⟨st.2.1.toArray⟩, st.2.2⟩ := by
        unfold putN at hk ⊢
        simp only at hk ⊢
        split at hk
        · omega
        · rename_i q
          rw [if_neg q]
          have : k = st.1.length := by simp at hk; omega
          subst this
          unfold ndG
          rw [List.getD_eq_getElem?_getD]
          simp
      unfold nxs at hj
      rw [hk3] at hj
      obtain ⟨z, hz, rfl⟩ := List.mem_map.1 hj
      have := k3 z hz
      rw [lang_pre k1 p3 (by omega)]
      exact k5 z hz
end Go.Proofs.YtabljchbchjjcaaGreatDoor
end
section
namespace Go.Proofs.YtabljchbchjjcaaGreatDoor
set_option linter.unusedVariables false
set_option linter.unusedSimpArgs false
open Go Go.RowKit
theorem digits_small : ∀ u : Nat, ∀ d ∈ Lib.decDigits u, d ≠ 32 := by
  intro u
  induction u using Nat.strongRecOn with
  | ind u ih =>
    intro d hd
    rw [Lib.decDigits] at hd
    have hlast : ∀ v, v < 10 → UInt8.ofNat (48 + v) ≠ 32 := by decide
    split at hd
    · rename_i h
      rw [List.mem_singleton] at hd
      rw [hd]
      exact hlast u h
    · rename_i h
      rcases List.mem_append.1 hd with k | k
      · exact ih (u / 10) (by omega) d k
      · rw [List.mem_singleton] at k
        rw [k]
        exact hlast (u % 10) (by omega)
def valD (l : List UInt8) : Nat := l.foldl (fun a d => a * 10 + (d.toNat - 48)) 0
theorem digits_val : ∀ u : Nat, valD (Lib.decDigits u) = u := by
  intro u
  induction u using Nat.strongRecOn with
  | ind u ih =>
    have hlast : ∀ v, v < 10 → (UInt8.ofNat (48 + v)).toNat - 48 = v := by decide
    rw [Lib.decDigits]
    split
    · rename_i h
      show 0 * 10 + ((UInt8.ofNat (48 + u)).toNat - 48) = u
      rw [hlast u h]
      omega
    · rename_i h
      have e := ih (u / 10) (by omega)
      unfold valD at e ⊢
      rw [List.foldl_append, e]
      show u / 10 * 10 + ((UInt8.ofNat (48 + u % 10)).toNat - 48) = u
      rw [hlast _ (by omega)]
      omega
theorem itoa_inj {a b : Int} (ha : 0 ≤ a) (hb : 0 ≤ b) (h : Lib.itoa a = Lib.itoa b) : a = b := by
  unfold Lib.itoa at h
  rw [if_neg (by omega), if_neg (by omega)] at h
  have := congrArg valD h
  rw [digits_val, digits_val] at this
  omega
theorem itoa_small {a : Int} (ha : 0 ≤ a) : ∀ d ∈ Lib.itoa a, d ≠ 32 := by
  unfold Lib.itoa
  rw [if_neg (by omega)]
  exact digits_small _
/-- An edge in a node's text. -/
def chk (c : UInt8) (j : Int) : List UInt8 := c :: (Lib.itoa j ++ [32])
def chks : List UInt8 → List Int → List UInt8
  | c :: ls, j :: js => chk c j ++ chks ls js
  | _, _ => []
def keyL (n : Nd) : List UInt8 := (if n.fin then [43] else []) ++ chks n.lt.data.toList n.nx
def keyV (n : Nd) : ByteArray := ⟨(keyL n).toArray⟩
theorem keyV_list (n : Nd) : (keyV n).data.toList = keyL n := rfl
theorem cut_eq {a b : List UInt8} {r s : List UInt8} (ha : ∀ d ∈ a, d ≠ 32) (hb : ∀ d ∈ b, d ≠ 32) (h : a ++ 32 :: r = b ++ 32 :: s) : a = b ∧ r = s := by
  induction a generalizing b with
  | nil =>
    cases b with
    | nil => simpa using h
    | cons y b =>
      simp at h
      exact absurd h.1.symm (hb y (by simp))
  | cons x a ih =>
    cases b with
    | nil =>
      simp at h
      exact absurd h.1 (ha x (by simp))
    | cons y b =>
      simp only [List.cons_append, List.cons.injEq] at h
      obtain ⟨e1, e2⟩ := ih (fun d hd => ha d (List.mem_cons_of_mem _ hd)) (fun d hd => hb d (List.mem_cons_of_mem _ hd)) h.2
      exact ⟨by rw [h.1, e1], e2⟩
theorem chks_inj : ∀ (l m : List UInt8) (js ks : List Int), l.length = js.length → m.length = ks.length → (∀ j ∈ js, 0 ≤ j) → (∀ k ∈ ks, 0 ≤ k) → chks l js = chks m ks → l = m ∧ js = ks
  | [], [], [], [], _, _, _, _, _ => ⟨rfl, rfl⟩
  | [], c :: m, [], k :: ks, _, _, _, _, h => by simp [chks, chk] at h
  | c :: l, [], j :: js, [], _, _, _, _, h => by simp [chks, chk] at h
  | c :: l, d :: m, j :: js, k :: ks, h1, h2, h3, h4, h => by
    simp only [chks, chk, List.cons_append, List.append_assoc, List.cons.injEq, List.singleton_append] at h
    obtain ⟨e1, e2⟩ := h
    obtain ⟨e3, e4⟩ := cut_eq (itoa_small (h3 j (by simp))) (itoa_small (h4 k (by simp))) e2
    obtain ⟨e5, e6⟩ := chks_inj l m js ks (by simpa using h1) (by simpa using h2) (fun x hx => h3 x (List.mem_cons_of_mem _ hx)) (fun x hx => h4 x (List.mem_cons_of_mem _ hx)) e4
    rw [e1, e5, e6, itoa_inj (h3 j (by simp)) (h4 k (by simp)) e3]
    exact ⟨rfl, rfl⟩
/-- A node whose text tells it from others. -/
structure KeyOk (n : Nd) : Prop where
  len : n.lt.size = n.nx.length
  pos : ∀ j ∈ n.nx, 0 ≤ j
  plus : ∀ u ∈ n.lt.data.toList, u ≠ 43
theorem chks_head {l : List UInt8} {js : List Int} (h : ∀ u ∈ l, u ≠ 43) {r : List UInt8} : chks l js ≠ 43 :: r := by
  cases l with
  | nil => simp [chks]
  | cons c l =>
    cases js with
    | nil => simp [chks]
    | cons j js =>
      simp only [chks, chk, List.cons_append]
      intro e
      injection e with e1 e2
      exact h c (by simp) e1
theorem keyL_inj {a b : Nd} (ha : KeyOk a) (hb : KeyOk b) (h : keyL a = keyL b) : a = b := by
  have key : ∀ {a b : Nd}, KeyOk a → KeyOk b → a.fin = b.fin → chks a.lt.data.toList a.nx = chks b.lt.data.toList b.nx → a = b := by
    intro a b ha hb e1 e2
    obtain ⟨e3, e4⟩ := chks_inj _ _ _ _ (by have := ha.len; simpa using this) (by have := hb.len; simpa using this) ha.pos hb.pos e2
    cases a; cases b
    simp only at e1 e3 e4
    subst e1 e4
    congr 1
    exact ByteArray.ext (Array.toList_inj.1 e3)
  unfold keyL at h
  cases h1 : a.fin <;> cases h2 : b.fin <;> rw [h1, h2] at h
  · exact key ha hb (by rw [h1, h2]) (by simpa using h)
  · exact absurd (by simpa using h) (chks_head ha.plus)
  · exact absurd (by simpa using h.symm) (chks_head hb.plus)
  · exact key ha hb (by rw [h1, h2]) (by simpa using h)
theorem keyV_inj {a b : Nd} (ha : KeyOk a) (hb : KeyOk b) (h : keyV a = keyV b) : a = b := keyL_inj ha hb (by rw [← keyV_list, ← keyV_list, h])
/-- The text up to an edge. -/
def keyK (n : Nd) (k : Nat) : List UInt8 := (if n.fin then [43] else []) ++ chks (n.lt.data.toList.take k) (n.nx.take k)
theorem keyK_zero (n : Nd) : keyK n 0 = if n.fin then [43] else [] := by simp [keyK, chks]
theorem chks_snoc : ∀ (l : List UInt8) (js : List Int) (c : UInt8) (j : Int), l.length = js.length → chks (l ++ [c]) (js ++ [j]) = chks l js ++ chk c j
  | [], [], c, j, _ => by simp [chks]
  | x :: l, y :: js, c, j, h => by
    simp only [List.cons_append, chks, List.append_assoc]
    rw [chks_snoc l js c j (by simpa using h)]
theorem keyK_succ {n : Nd} (h : n.lt.size = n.nx.length) {k : Nat} (hk : k < n.nx.length) : keyK n (k + 1) = keyK n k ++ chk (n.lt.data.toList.getD k 0) n.nx[k] := by
  have hl : n.lt.data.toList.length = n.nx.length := by simpa using h
  unfold keyK
  rw [List.take_succ_eq_append_getElem (by omega), List.take_succ_eq_append_getElem hk, chks_snoc _ _ _ _ (by simp; omega), List.append_assoc]
  congr 3
  rw [List.getD_eq_getElem?_getD, List.getElem?_eq_getElem (by omega)]
  rfl
theorem keyK_all {n : Nd} (h : n.lt.size = n.nx.length) : keyK n n.nx.length = keyL n := by
  have hl : n.lt.data.toList.length = n.nx.length := by simpa using h
  unfold keyK keyL
  rw [List.take_of_length_le (by omega), List.take_of_length_le (Nat.le_refl _)]
theorem digits_len : ∀ (k u : Nat), u < 10 ^ (k + 1) → (Lib.decDigits u).length ≤ k + 1
  | 0, u, h => by
    rw [Lib.decDigits, dif_pos (by simpa using h)]
    simp
  | k + 1, u, h => by
    rw [Lib.decDigits]
    split
    · simp
    · rw [List.length_append]
      have := digits_len k (u / 10) (by rw [Nat.pow_succ] at h; omega)
      simp
      omega
theorem itoa_len {a : Int} (h0 : 0 ≤ a) (h1 : a < 1000000) : (Lib.itoa a).length ≤ 6 := by
  unfold Lib.itoa
  rw [if_neg (by omega)]
  exact digits_len 5 _ (by omega)
theorem chks_len : ∀ (l : List UInt8) (js : List Int), (∀ j ∈ js, 0 ≤ j ∧ j < 1000000) → (chks l js).length ≤ 8 * js.length
  | [], _, _ => by simp [chks]
  | _ :: _, [], _ => by simp [chks]
  | c :: l, j :: js, h => by
    have h1 := itoa_len (h j (by simp)).1 (h j (by simp)).2
    have h2 := chks_len l js (fun x hx => h x (List.mem_cons_of_mem _ hx))
    simp only [chks, chk, List.length_append, List.length_cons, List.length_nil]
    omega
end Go.Proofs.YtabljchbchjjcaaGreatDoor
end
