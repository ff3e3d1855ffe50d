/- Several texts in one: DwN, DwP. Conditions: see each. -/
import Derived.Test.YtabljchbchjjcaaGreatDoorMg4
section
namespace Go.Proofs.YtabljchbchjjcaaGreatDoor
set_option linter.unusedVariables false
set_option linter.unusedSimpArgs false
open Go Go.RowKit
theorem idxOf_pre {a b : List Nat} (h : a <+: b) {x : Nat} (hx : x ∈ a) : b.idxOf x = a.idxOf x := by
  obtain ⟨t, rfl⟩ := h
  rw [List.idxOf_append, if_pos hx]
theorem numN_pre {N : List Nd} {o o' : List Nat} (h : o <+: o') {x : Nat} (hx : ∀ j ∈ nxs N x, j ∈ o) : numN N o' x = numN N o x := by
  unfold numN
  congr 1
  refine List.map_congr_left fun j hj => ?_
  rw [idxOf_pre h (hx _ (List.mem_map_of_mem hj))]
theorem idxOf_new {o : List Nat} {k : Nat} (h : k ∉ o) : (o ++ [k]).idxOf k = o.length := by
  rw [List.idxOf_append, if_neg h]
  simp
/-- The nodes that were met since, with their numbers. -/
def metN (N : List Nd) (o o' : List Nat) : List Nd := (o'.drop o.length).map (numN N o')
theorem metN_self (N : List Nd) (o : List Nat) : metN N o o = [] := by simp [metN]
theorem metN_len {N : List Nd} {o o' : List Nat} (h : o <+: o') : (metN N o o').length + o.length = o'.length := by
  obtain ⟨t, rfl⟩ := h
  simp [metN]; omega
theorem metN_next {N : List Nd} {o o1 o2 : List Nat} (h : o <+: o1) (k : o1 <+: o2) (hc : ∀ x ∈ o1, x ∉ o → ∀ j ∈ nxs N x, j ∈ o1) (hn : o1.Nodup) : metN N o o2 = metN N o o1 ++ metN N o1 o2 := by
  obtain ⟨t, rfl⟩ := h
  obtain ⟨u, rfl⟩ := k
  unfold metN
  have e1 : (o ++ t ++ u).drop o.length = t ++ u := by rw [List.append_assoc, List.drop_left]
  have e2 : (o ++ t).drop o.length = t := List.drop_left
  have e3 : (o ++ t ++ u).drop (o ++ t).length = u := List.drop_left
  rw [e1, e2, e3, List.map_append]
  congr 1
  refine List.map_congr_left fun x hx => ?_
  refine numN_pre (List.prefix_append _ _) (fun j hj => hc x (List.mem_append.2 (.inr hx)) (fun q => ?_) j hj)
  rw [List.nodup_append] at hn
  exact hn.2.2 x q x hx rfl
/-- Many nodes visited, one after another. -/
theorem fold_ok {N : List Nd} (hN : Dn N) (f : Nat) : ∀ (l : List Nat) (o : List Nat), (∀ j ∈ l, j < f ∧ j < N.length) → o.Nodup → (∀ x ∈ o, x < N.length) →
    (l.foldl (dfs N f) o).Nodup ∧ (∀ x ∈ l.foldl (dfs N f) o, x < N.length) ∧ (∀ j ∈ l, j ∈ l.foldl (dfs N f) o) ∧ (∀ x ∈ l.foldl (dfs N f) o, x ∉ o → ∀ j ∈ nxs N x, j ∈ l.foldl (dfs N f) o) ∧ o <+: l.foldl (dfs N f) o
  | [], o, _, h1, h2 => ⟨h1, h2, fun j hj => by simp at hj, fun x hx hn => absurd hx hn, List.prefix_refl _⟩
  | a :: l, o, h0, h1, h2 => by
    obtain ⟨d1, d2, d3, d4⟩ := dfs_ok hN f o a (h0 a (by simp)).1 (h0 a (by simp)).2 h1 h2
    obtain ⟨e1, e2, e3, e4, e5⟩ := fold_ok hN f l (dfs N f o a) (fun j hj => h0 j (List.mem_cons_of_mem _ hj)) d1 d2
    rw [List.foldl_cons]
    refine ⟨e1, e2, fun j hj => ?_, fun x hx hn j hj => ?_, (dfs_pre N f o a).trans e5⟩
    · rcases List.mem_cons.1 hj with rfl | hj
      · exact mem_pre e5 d3
      · exact e3 j hj
    · by_cases hq : x ∈ dfs N f o a
      · exact mem_pre e5 (d4 x hq hn j hj)
      · exact e4 x hx hq j hj
/-- The order when i of a new node's edges have been followed. -/
def ordI (N : List Nd) (f : Nat) (o : List Nat) (k i : Nat) : List Nat := ((nxs N k).take i).foldl (dfs N f) (o ++ [k])
theorem ordI_zero (N : List Nd) (f : Nat) (o : List Nat) (k : Nat) : ordI N f o k 0 = o ++ [k] := rfl
theorem ordI_succ {N : List Nd} {f : Nat} {o : List Nat} {k i : Nat} (hi : i < (nxs N k).length) : ordI N f o k (i + 1) = dfs N f (ordI N f o k i) (nxs N k)[i] := by
  unfold ordI
  rw [List.take_succ_eq_append_getElem hi, List.foldl_append]
  rfl
theorem ordI_all {N : List Nd} {f : Nat} {o : List Nat} {k : Nat} (h : k ∉ o) : ordI N f o k (nxs N k).length = dfs N (f + 1) o k := by
  unfold ordI
  rw [List.take_length, dfs, if_neg h]
theorem ordI_ok {N : List Nd} (hN : Dn N) {f : Nat} {o : List Nat} {k : Nat} (hk : k < N.length) (hf : k ≤ f) (h : k ∉ o) (h1 : o.Nodup) (h2 : ∀ x ∈ o, x < N.length) (i : Nat) :
    (ordI N f o k i).Nodup ∧ (∀ x ∈ ordI N f o k i, x < N.length) ∧ (∀ j ∈ (nxs N k).take i, j ∈ ordI N f o k i) ∧ (∀ x ∈ ordI N f o k i, x ∉ o ++ [k] → ∀ j ∈ nxs N x, j ∈ ordI N f o k i) ∧ (o ++ [k]) <+: ordI N f o k i :=
  fold_ok hN f _ _ (fun j hj => by have := hN.nxs hk j (List.mem_of_mem_take hj); omega) (by rw [List.nodup_append]; exact ⟨h1, by simp, fun a ha b hb => by simp at hb; subst hb; exact fun e => h (e ▸ ha)⟩) (fun x hx => by
    rcases List.mem_append.1 hx with q | q
    · exact h2 x q
    · simp at q; omega)
/-- The numbers of the first i edges. -/
def nxI (N : List Nd) (f : Nat) (o : List Nat) (k i : Nat) : List Int := ((ndG N k).nx.take i).map fun j => ((ordI N f o k i).idxOf j.toNat : Int)
theorem nxI_succ {N : List Nd} (hN : Dn N) {f : Nat} {o : List Nat} {k : Nat} (hk : k < N.length) (hf : k ≤ f) (h : k ∉ o) (h1 : o.Nodup) (h2 : ∀ x ∈ o, x < N.length) {i : Nat} (hi : i < (ndG N k).nx.length) :
    nxI N f o k (i + 1) = nxI N f o k i ++ [((ordI N f o k (i + 1)).idxOf ((ndG N k).nx[i]).toNat : Int)] := by
  unfold nxI
  rw [List.take_succ_eq_append_getElem hi, List.map_append]
  congr 1
  refine List.map_congr_left fun j hj => ?_
  have hi2 : i < (nxs N k).length := by simpa [nxs] using hi
  rw [ordI_succ hi2, idxOf_pre (dfs_pre N f _ _)]
  refine (ordI_ok hN hk hf h h1 h2 i).2.2.1 _ ?_
  unfold nxs
  rw [← List.map_take]
  exact List.mem_map_of_mem hj
theorem nxI_all {N : List Nd} {f : Nat} {o : List Nat} {k : Nat} (h : k ∉ o) : nxI N f o k (ndG N k).nx.length = (numN N (dfs N (f + 1) o k) k).nx := by
  unfold nxI numN
  rw [List.take_length, show (ndG N k).nx.length = (nxs N k).length by simp [nxs], ordI_all h]
theorem metN_cons {N : List Nd} {o o' : List Nat} {k : Nat} (h : (o ++ [k]) <+: o') : metN N o o' = numN N o' k :: metN N (o ++ [k]) o' := by
  obtain ⟨t, rfl⟩ := h
  unfold metN
  have e1 : (o ++ [k] ++ t).drop o.length = k :: t := by rw [List.append_assoc, List.drop_left]; rfl
  have e2 : (o ++ [k] ++ t).drop (o ++ [k]).length = t := List.drop_left
  rw [e1, e2, List.map_cons]
theorem metI_succ {N : List Nd} (hN : Dn N) {f : Nat} {o : List Nat} {k : Nat} (hk : k < N.length) (hf : k ≤ f) (h : k ∉ o) (h1 : o.Nodup) (h2 : ∀ x ∈ o, x < N.length) {i : Nat} (hi : i < (nxs N k).length) :
    metN N (o ++ [k]) (ordI N f o k (i + 1)) = metN N (o ++ [k]) (ordI N f o k i) ++ metN N (ordI N f o k i) (ordI N f o k (i + 1)) := by
  obtain ⟨g1, g2, g3, g4, g5⟩ := ordI_ok hN hk hf h h1 h2 i
  exact metN_next g5 (by rw [ordI_succ hi]; exact dfs_pre N f _ _) g4 g1
end Go.Proofs.YtabljchbchjjcaaGreatDoor
end
section
namespace Go.Proofs.YtabljchbchjjcaaGreatDoor
set_option linter.unusedVariables false
set_option linter.unusedSimpArgs false
open Go Go.RowKit
/-- The edges of a node. -/
def edg (N : List Nd) (k : Nat) : List (UInt8 × Nat) := (ndG N k).lt.data.toList.zip (nxs N k)
/-- The strings behind a node. -/
def lng : Nat → List Nd → Nat → List (List UInt8)
  | 0, _, _ => []
  | f + 1, N, k => (if (ndG N k).fin then [[]] else []) ++ (edg N k).flatMap fun e => (lng f N e.2).map (e.1 :: ·)
def langN (N : List Nd) (k : Nat) : List (List UInt8) := lng (k + 1) N k
theorem edg_lt {N : List Nd} (h : Dn N) {k : Nat} (hk : k < N.length) {e : UInt8 × Nat} (he : e ∈ edg N k) : e.2 < k :=
  h.nxs hk _ (List.of_mem_zip he).2
theorem flat_congr {α β : Type} {l : List α} {f g : α → List β} (h : ∀ a ∈ l, f a = g a) : l.flatMap f = l.flatMap g := by
  induction l with
  | nil => rfl
  | cons a r ih => rw [List.flatMap_cons, List.flatMap_cons, h a (by simp), ih (fun b hb => h b (List.mem_cons_of_mem _ hb))]
theorem lng_fuel {N : List Nd} (h : Dn N) : ∀ (f g k : Nat), k < N.length → k < f → k < g → lng f N k = lng g N k
  | 0, _, k, _, h1, _ => by omega
  | _ + 1, 0, k, _, _, h2 => by omega
  | f + 1, g + 1, k, hk, h1, h2 => by
    rw [lng, lng]
    congr 1
    refine flat_congr fun e he => ?_
    have := edg_lt h hk he
    rw [lng_fuel h f g e.2 (by omega) (by omega) (by omega)]
theorem lang_eq {N : List Nd} (h : Dn N) {k : Nat} (hk : k < N.length) : langN N k = (if (ndG N k).fin then [[]] else []) ++ (edg N k).flatMap fun e => (langN N e.2).map (e.1 :: ·) := by
  unfold langN
  rw [lng]
  congr 1
  refine flat_congr fun e he => ?_
  have := edg_lt h hk he
  rw [lng_fuel h k (e.2 + 1) e.2 (by omega) (by omega) (by omega)]
theorem edg_pre {N M : List Nd} (h : N <+: M) {k : Nat} (hk : k < N.length) : edg M k = edg N k := by
  unfold edg nxs
  rw [ndG_pre h hk]
theorem lng_pre {N M : List Nd} (hN : Dn N) (h : N <+: M) : ∀ (f k : Nat), k < N.length → lng f M k = lng f N k
  | 0, _, _ => rfl
  | f + 1, k, hk => by
    rw [lng, lng, ndG_pre h hk, edg_pre h hk]
    congr 1
    refine flat_congr fun e he => ?_
    have := edg_lt hN hk he
    rw [lng_pre hN h f e.2 (by omega)]
theorem lang_pre {N M : List Nd} (hN : Dn N) (h : N <+: M) {k : Nat} (hk : k < N.length) : langN M k = langN N k := lng_pre hN h _ k hk
theorem fin_rest (l : List (List UInt8)) : l = (if finB l then [[]] else []) ++ restL l := by
  unfold restL
  cases l with
  | nil => rfl
  | cons a r =>
    cases a with
    | nil => simp [finB]
    | cons c t => simp [finB]
/-- What edges tell. -/
def flatE (N : List Nd) (lt : List UInt8) (nx : List Int) : List (List UInt8) := (lt.zip (nx.map Int.toNat)).flatMap fun e => (langN N e.2).map (e.1 :: ·)
theorem flatE_add (N : List Nd) {lt : List UInt8} {nx : List Int} (h : lt.length = nx.length) (c : UInt8) (j : Int) : flatE N (lt ++ [c]) (nx ++ [j]) = flatE N lt nx ++ (langN N j.toNat).map (c :: ·) := by
  unfold flatE
  rw [List.map_append, List.zip_append (by rw [List.length_map]; exact h), List.flatMap_append]
  simp
theorem flatE_pre {N M : List Nd} (hN : Dn N) (h : N <+: M) {lt : List UInt8} {nx : List Int} (hj : ∀ j ∈ nx, 0 ≤ j ∧ j < (N.length : Int)) : flatE M lt nx = flatE N lt nx := by
  refine flat_congr fun e he => ?_
  have h2 := (List.of_mem_zip he).2
  obtain ⟨j, hm, e2⟩ := List.mem_map.1 h2
  have := hj j hm
  rw [lang_pre hN h (by omega)]
/-- What is built has the strings again. -/
theorem bld_lang : ∀ (f : Nat) (N : List Nd) (l : List (List UInt8)), RiseS l → (∀ x ∈ l, x.length < f) → 0 < f → Dn N → langN (bld f N l).1 (bld f N l).2 = l
  | 0, N, l, _, _, h, _ => by omega
  | f + 1, N, l, hl, hf, _, hN => by
    have hne := rise_ne hl
    have hg := grp_rise (rise_rest hl) hne
    have hlen : ∀ g ∈ grp (restL l), ∀ x ∈ g.2, x.length < f := by
      intro g hg x hx
      have := grp_mem _ g hg x hx
      have h2 : (g.1 :: x) ∈ l := by
        unfold restL at this
        split at this
        · exact List.mem_of_mem_tail this
        · exact this
      have := hf _ h2
      simp at this
      omega
    have hf0 : ∀ g ∈ grp (restL l), 0 < f := by
      intro g hg
      have h1 := grp_ne _ g hg
      obtain ⟨x, hx⟩ := List.exists_mem_of_ne_nil _ h1
      have := hlen g hg x hx
      omega
    have key : ∀ (gs : List (UInt8 × List (List UInt8))) (st : BSt) (pre : List (List UInt8)), (∀ g ∈ gs, RiseS g.2) → (∀ g ∈ gs, ∀ x ∈ g.2, x.length < f) → (∀ g ∈ gs, 0 < f) → BOk st → flatE st.1 st.2.1 st.2.2 = pre →
        BOk (gs.foldl (bldG (bld f)) st) ∧ flatE (gs.foldl (bldG (bld f)) st).1 (gs.foldl (bldG (bld f)) st).2.1 (gs.foldl (bldG (bld f)) st).2.2 = pre ++ gs.flatMap (fun g => g.2.map (g.1 :: ·)) := by
      intro gs
      induction gs with
      | nil => intro st pre _ _ _ h h2; exact ⟨h, by simpa using h2⟩
      | cons g gs ih =>
        intro st pre h1 h2 h3 h4 h5
        obtain ⟨b1, b2, b3⟩ := bld_ok f st.1 g.2 (h1 g (by simp)) (h2 g (by simp)) (h3 g (by simp)) h4.1
        have b4 := bld_lang f st.1 g.2 (h1 g (by simp)) (h2 g (by simp)) (h3 g (by simp)) h4.1
        rw [List.foldl_cons]
        obtain ⟨c1, c2⟩ := ih (bldG (bld f) st g) (pre ++ g.2.map (g.1 :: ·)) (fun x hx => h1 x (List.mem_cons_of_mem _ hx)) (fun x hx => h2 x (List.mem_cons_of_mem _ hx)) (fun x hx => h3 x (List.mem_cons_of_mem _ hx)) (bldG_ok h4 b2 b1 b3) (by
          show flatE (bld f st.1 g.2).1 (st.2.1 ++ [g.1]) (st.2.2 ++ [((bld f st.1 g.2).2 : Int)]) = _
          rw [flatE_add _ h4.2.1, flatE_pre h4.1 b1 h4.2.2, h5, Int.toNat_natCast, b4])
        refine ⟨c1, ?_⟩
        rw [c2, List.flatMap_cons, List.append_assoc]
    obtain ⟨⟨k1, k2, k3⟩, k4⟩ := key (grp (restL l)) (N, [], []) [] hg hlen hf0 ⟨hN, rfl, fun j hj => by simp at hj⟩ rfl
    rw [bld]
    obtain ⟨p1, p2, p3⟩ := putN_at (N := ((grp (restL l)).foldl (bldG (bld f)) (N, [], [])).1) (n := ⟨finB l, ⟨((grp (restL l)).foldl (bldG (bld f)) (N, [], [])).2.1.toArray⟩, ((grp (restL l)).foldl (bldG (bld f)) (N, [], [])).2.2⟩)
    have hd := putN_dn k1 (n := ⟨finB l, ⟨((grp (restL l)).foldl (bldG (bld f)) (N, [], [])).2.1.toArray⟩, ((grp (restL l)).foldl (bldG (bld f)) (N, [], [])).2.2⟩) (by show Array.size _ = _; simpa using k2) k3
    rw [lang_eq hd p1, p2]
    have e : (edg (putN ((grp (restL l)).foldl (bldG (bld f)) (N, [], [])).1 ⟨finB l, ⟨((grp (restL l)).foldl (bldG (bld f)) (N, [], [])).2.1.toArray⟩, ((grp (restL l)).foldl (bldG (bld f)) (N, [], [])).2.2⟩).1 (putN ((grp (restL l)).foldl (bldG (bld f)) (N, [], [])).1 ⟨finB l, ⟨((grp (restL l)).foldl (bldG (bld f)) (N, [], [])).2.1.toArray⟩, ((grp (restL l)).foldl (bldG (bld f)) (N, [], [])).2.2⟩).2) = ((grp (restL l)).foldl (bldG (bld f)) (N, [], [])).2.1.zip (((grp (restL l)).foldl (bldG (bld f)) (N, [], [])).2.2.map Int.toNat) := by
      unfold edg nxs
      rw [p2]
    rw [e]
    have e2 := flatE_pre k1 p3 (lt := ((grp (restL l)).foldl (bldG (bld f)) (N, [], [])).2.1) k3
    unfold flatE at e2 k4
    rw [e2, k4, List.nil_append, grp_flat _ hne]
    exact (fin_rest l).symm
end Go.Proofs.YtabljchbchjjcaaGreatDoor
end
