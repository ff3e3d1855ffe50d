/- What a turned board keeps: its letters, whether it is blank, whether its letters are joined. Plain. No condition. -/
import Derived.Test.YtmohfdfjlgekaaaGreatDoorMg9
namespace Go.Proofs.YtmohfdfjlgekaaaGreatDoor
set_option linter.unusedVariables false
set_option linter.unusedSimpArgs false
open Go Go.RowKit
theorem flat_snoc {α β : Type} (l : List α) (g : α → List β) (h : α → β) : (l.flatMap fun j => g j ++ [h j]).Perm (l.flatMap g ++ l.map h) := by
  induction l with
  | nil => exact List.Perm.refl _
  | cons a l ih =>
    simp only [List.flatMap_cons, List.map_cons, List.append_assoc]
    refine List.Perm.append_left _ ?_
    refine List.Perm.trans (List.Perm.append_left _ ih) ?_
    rw [List.singleton_append]
    exact List.perm_middle.symm
theorem flat_swap {β : Type} (f : Nat → Nat → β) (b : Nat) : ∀ a, ((List.range a).flatMap fun i => (List.range b).map fun j => f i j).Perm ((List.range b).flatMap fun j => (List.range a).map fun i => f i j)
  | 0 => by
    have : ((List.range b).flatMap fun j => (List.range 0).map fun i => f i j) = [] := by simp
    rw [this]
    exact List.Perm.refl _
  | a + 1 => by
    have e1 : ((List.range (a + 1)).flatMap fun i => (List.range b).map fun j => f i j) = ((List.range a).flatMap fun i => (List.range b).map fun j => f i j) ++ (List.range b).map (f a) := by simp [List.range_succ]
    have e2 : ((List.range b).flatMap fun j => (List.range (a + 1)).map fun i => f i j) = ((List.range b).flatMap fun j => (List.range a).map (fun i => f i j) ++ [f a j]) := by simp [List.range_succ]
    rw [e1, e2]
    exact (List.Perm.append_right _ (flat_swap f b a)).trans (flat_snoc (List.range b) (fun j => (List.range a).map (fun i => f i j)) (f a)).symm
theorem cells_rows {n : Nat} {s : ByteArray} (h : s.size = n * n) : s.data.toList = (List.range n).flatMap fun i => (List.range n).map fun j => bAt s (i * n + j) := by
  have key : ∀ k, k ≤ n → (List.range (k * n)).map (bAt s) = (List.range k).flatMap fun i => (List.range n).map fun j => bAt s (i * n + j) := by
    intro k
    induction k with
    | zero => intro _; simp
    | succ k ih =>
      intro hk
      have e : (k + 1) * n = k * n + n := by rw [Nat.add_mul, Nat.one_mul]
      rw [List.range_succ, List.flatMap_append, ← ih (by omega), e, List.range_add]
      simp [Function.comp_def]
  rw [bAt_list, h]
  exact key n (Nat.le_refl n)
theorem turn_perm {n : Nat} {s : ByteArray} (h : s.size = n * n) : (turnS n s).data.toList.Perm s.data.toList := by
  have e : (turnS n s).data.toList = (List.range n).flatMap fun c => (List.range n).map fun k => bAt s (k * n + c) := by
    show (turnL n s n).toArray.toList = _
    simp [turnL, turnCol]
  rw [e, cells_rows h]
  exact (flat_swap (fun r c => bAt s (r * n + c)) n n).symm
theorem noDot_perm {n : Nat} {s : ByteArray} (h : s.size = n * n) : (noDot (turnS n s)).data.toList.Perm (noDot s).data.toList := by
  show ((turnS n s).data.toList.filter (· != 46)).toArray.toList.Perm (s.data.toList.filter (· != 46)).toArray.toList
  exact (turn_perm h).filter _
theorem noDot_tsize {n : Nat} {s : ByteArray} (h : s.size = n * n) : (noDot (turnS n s)).size = (noDot s).size := by
  have := (noDot_perm h).length_eq
  simpa using this
theorem pile_turn {n : Nat} {s : ByteArray} (h : s.size = n * n) : pileS (noDot (turnS n s)) = pileS (noDot s) := by
  unfold pileS
  rw [sortU_eq ((sortU_perm (tilesL (noDot (turnS n s)).data.toList)).trans ((noDot_perm h).map tileOf)) (sortU_sorted _)]
  rfl
theorem blank_turn {n : Nat} {s : ByteArray} (h : s.size = n * n) : blankS (turnS n s) = blankS s := by
  rw [blankS_eq, blankS_eq]
  have := ((turn_perm h).filter (· != 46)).length_eq
  rw [Bool.eq_iff_iff, List.isEmpty_iff_length_eq_zero, List.isEmpty_iff_length_eq_zero, this]
theorem tiles_turn {m : Nat} {p c : ByteArray} (h : okB m p c = true) : tilesV m (turnS m p) (turnS m c) = tilesV m p c := by
  obtain ⟨h1, h2, h3, h4⟩ := okB_true h
  have hc2 : c.size = m * m := by have : ((m * m : Nat) : Int) = (m : Int) * m := by push_cast; rfl
                                  omega
  unfold tilesV
  rw [okB_turn h, h, noDot_tsize hc2, pile_turn hc2]
/-- Next to each other. -/
def Nx (r c x y : Int) : Prop := (x = r - 1 ∧ y = c) ∨ (x = r + 1 ∧ y = c) ∨ (x = r ∧ y = c - 1) ∨ (x = r ∧ y = c + 1)
theorem Nx.symm {r c x y : Int} (h : Nx r c x y) : Nx x y r c := by unfold Nx at *; omega
theorem Nx.turn {r c x y : Int} (h : Nx r c x y) : Nx c r y x := by unfold Nx at *; omega
/-- With a letter, those beside it. -/
def ClosedL (L : Int → Int → Bool) (S : Int → Int → Prop) : Prop := ∀ r c x y, Nx r c x y → L r c = true → L x y = true → S r c → S x y
def ConnL (L : Int → Int → Bool) : Prop := ∀ S, ClosedL L S → ∀ r c x y, L r c = true → L x y = true → S r c → S x y
theorem ConnL.turn {L : Int → Int → Bool} (h : ConnL L) : ConnL (fun r c => L c r) := by
  intro S hS r c x y h1 h2 h3
  exact h (fun a b => S b a) (fun a b u v q k1 k2 k3 => hS b a v u q.turn k1 k2 k3) c r y x h1 h2 h3
theorem vis_in {n : Int} {L : Int → Int → Bool} (hL : ∀ r c, L r c = true → inRC n r c = true) {S : Int → Int → Prop} (hS : ClosedL L S) (f : Nat) :
    ∀ V r c, (∀ x y, L x y = true → V (mixN n x y) = true → S x y) → (L r c = true → S r c) → ∀ x y, L x y = true → vis n L f V r c (mixN n x y) = true → S x y := by
  induction f with
  | zero => intro V r c hV hs x y h1 h2; exact hV x y h1 h2
  | succ f ih =>
    intro V r c hV hs
    cases hq : (L r c && !V (mixN n r c))
    · rw [vis_stop hq]; exact hV
    · rw [vis, hq]
      rw [Bool.and_eq_true] at hq
      have hrc := hs hq.1
      have h0 : ∀ x y, L x y = true → upd V (mixN n r c) (mixN n x y) = true → S x y := by
        intro x y h1 h2
        unfold upd at h2
        by_cases e : mixN n x y = mixN n r c
        · obtain ⟨rfl, rfl⟩ := mixN_inj (Int.le_refl n) (hL _ _ h1) (hL _ _ hq.1) e
          exact hrc
        · rw [if_neg e] at h2; exact hV x y h1 h2
      exact ih _ _ _ (ih _ _ _ (ih _ _ _ (ih _ _ _ h0 (fun k => hS r c _ _ (by unfold Nx; omega) hq.1 k hrc)) (fun k => hS r c _ _ (by unfold Nx; omega) hq.1 k hrc)) (fun k => hS r c _ _ (by unfold Nx; omega) hq.1 k hrc)) (fun k => hS r c _ _ (by unfold Nx; omega) hq.1 k hrc)
/-- What a walk with enough fuel marks. -/
theorem vis_out {n : Int} {N : Nat} {L : Int → Int → Bool} (hL : ∀ r c, L r c = true → inRC n r c = true ∧ mixN n r c < N) (f : Nat) :
    ∀ V r c, N ≤ f + cnt N V → (L r c = true → vis n L f V r c (mixN n r c) = true) ∧ (∀ a b x y, Nx a b x y → L a b = true → L x y = true → vis n L f V r c (mixN n a b) = true → V (mixN n a b) = false → vis n L f V r c (mixN n x y) = true) := by
  induction f with
  | zero =>
    intro V r c hf
    have hall : ∀ i, i < N → V i = true := by
      have h1 := cnt_le N V
      have h2 : cnt N V = cnt N (fun _ => true) := by
        have : cnt N (fun _ => true) = N := by simp [cnt]
        omega
      intro i hi
      exact (cnt_eq (fun _ _ _ => rfl)).1 h2 i hi rfl
    exact ⟨fun h => hall _ (hL r c h).2, fun a b x y _ _ h2 _ h4 => hall _ (hL x y h2).2⟩
  | succ f ih =>
    intro V r c hf
    cases hq : (L r c && !V (mixN n r c))
    · rw [vis_stop hq]
      refine ⟨fun h => ?_, fun a b x y _ _ _ h3 h4 => by rw [h3] at h4; cases h4⟩
      rw [h] at hq
      simpa using hq
    · rw [vis, hq]
      rw [Bool.and_eq_true] at hq
      obtain ⟨q1, q2⟩ := hq
      have q3 : V (mixN n r c) = false := by simpa using q2
      have c1 : cnt N (upd V (mixN n r c)) = cnt N V + 1 := cnt_upd (hL r c q1).2 q3
      obtain ⟨V1, hV1⟩ : ∃ V1, upd V (mixN n r c) = V1 := ⟨_, rfl⟩
      have s0 : V1 (mixN n r c) = true := by rw [← hV1]; simp [upd]
      have k0 : ∀ a b, L a b = true → V1 (mixN n a b) = true → V (mixN n a b) = false → a = r ∧ b = c := by
        intro a b h1 h2 h3
        rw [← hV1] at h2
        unfold upd at h2
        by_cases e : mixN n a b = mixN n r c
        · exact mixN_inj (Int.le_refl n) (hL a b h1).1 (hL r c q1).1 e
        · rw [if_neg e, h3] at h2; cases h2
      rw [hV1] at c1 ⊢
      obtain ⟨a1, b1⟩ := ih V1 (r - 1) c (by omega)
      have s1 : ∀ i, V1 i = true → vis n L f V1 (r - 1) c i = true := fun i => vis_sup f V1 (r - 1) c i
      have d1 := vis_cnt (n := n) (L := L) f N V1 (r - 1) c
      obtain ⟨V2, hV2⟩ : ∃ V2, vis n L f V1 (r - 1) c = V2 := ⟨_, rfl⟩
      rw [hV2] at a1 b1 s1 d1 ⊢
      obtain ⟨a2, b2⟩ := ih V2 (r + 1) c (by omega)
      have s2 : ∀ i, V2 i = true → vis n L f V2 (r + 1) c i = true := fun i => vis_sup f V2 (r + 1) c i
      have d2 := vis_cnt (n := n) (L := L) f N V2 (r + 1) c
      obtain ⟨V3, hV3⟩ : ∃ V3, vis n L f V2 (r + 1) c = V3 := ⟨_, rfl⟩
      rw [hV3] at a2 b2 s2 d2 ⊢
      obtain ⟨a3, b3⟩ := ih V3 r (c - 1) (by omega)
      have s3 : ∀ i, V3 i = true → vis n L f V3 r (c - 1) i = true := fun i => vis_sup f V3 r (c - 1) i
      have d3 := vis_cnt (n := n) (L := L) f N V3 r (c - 1)
      obtain ⟨V4, hV4⟩ : ∃ V4, vis n L f V3 r (c - 1) = V4 := ⟨_, rfl⟩
      rw [hV4] at a3 b3 s3 d3 ⊢
      obtain ⟨a4, b4⟩ := ih V4 r (c + 1) (by omega)
      have s4 : ∀ i, V4 i = true → vis n L f V4 r (c + 1) i = true := fun i => vis_sup f V4 r (c + 1) i
      obtain ⟨V5, hV5⟩ : ∃ V5, vis n L f V4 r (c + 1) = V5 := ⟨_, rfl⟩
      rw [hV5] at a4 b4 s4 ⊢
      refine ⟨fun _ => s4 _ (s3 _ (s2 _ (s1 _ s0))), fun a b x y hx h1 h2 h3 h4 => ?_⟩
      cases e1 : V1 (mixN n a b)
      · cases e2 : V2 (mixN n a b)
        · cases e3 : V3 (mixN n a b)
          · cases e4 : V4 (mixN n a b)
            · exact b4 a b x y hx h1 h2 h3 e4
            · exact s4 _ (b3 a b x y hx h1 h2 e4 e3)
          · exact s4 _ (s3 _ (b2 a b x y hx h1 h2 e3 e2))
        · exact s4 _ (s3 _ (s2 _ (b1 a b x y hx h1 h2 e2 e1)))
      · obtain ⟨rfl, rfl⟩ := k0 a b h1 e1 h4
        rcases hx with ⟨rfl, rfl⟩ | ⟨rfl, rfl⟩ | ⟨rfl, rfl⟩ | ⟨rfl, rfl⟩
        · exact s4 _ (s3 _ (s2 _ (a1 h2)))
        · exact s4 _ (s3 _ (a2 h2))
        · exact s4 _ (a3 h2)
        · exact a4 h2
theorem inRC_mk {n r c : Int} (h1 : 0 ≤ r) (h2 : r < n) (h3 : 0 ≤ c) (h4 : c < n) : inRC n r c = true := by
  simp only [inRC, inB, Bool.and_eq_true, decide_eq_true_eq]
  omega
theorem lit_letF {n : Int} {cs : ByteArray} {r c : Int} (h : inRC n r c = true) (hl : litB cs (mixN n r c) = true) (hz : bAt cs (mixN n r c) ≠ 0) : letF n cs r c = true := by
  have e : sqAt n cs r c = ((bAt cs (mixN n r c)).toNat : Int) := by rw [sqAt, if_pos h]; rfl
  unfold letF letB
  rw [e]
  simp only [Bool.and_eq_true, decide_eq_true_eq]
  simp only [litB, bne_iff_ne, ne_eq] at hl
  exact ⟨fun q => hz (UInt8.toNat_inj.1 (by simpa using q)), fun q => hl (UInt8.toNat_inj.1 (by
    have h1 : ((bAt cs (mixN n r c)).toNat : Int) = 46 := q
    have h2 : (46 : UInt8).toNat = 46 := rfl
    omega))⟩
theorem cell_pos {cs : ByteArray} (ha : allB cellB cs = true) (i : Nat) (hi : i < cs.size) : bAt cs i ≠ 0 := by
  have := (List.all_eq_true.1 ha) (bAt cs i) (by rw [bAt_list]; exact List.mem_map.2 ⟨i, by simpa using hi, rfl⟩)
  intro q
  rw [q] at this
  exact absurd this (by decide)
theorem join_conn {n : Int} {p cs : ByteArray} (h : okB n p cs = true) (hb : blankS cs = false) : joinS n cs = true ↔ ConnL (letF n cs) := by
  obtain ⟨h1, h2, h3, h4, h5⟩ := okB_all h
  obtain ⟨f1, f2, f3⟩ := first_some hb
  have hL : ∀ r c, letF n cs r c = true → inRC n r c = true ∧ mixN n r c < cs.size := by
    intro r c k
    have hin := letF_in k
    exact ⟨hin, (sq_index h1 h2 h4 hin).2.2.2.2⟩
  have hF : letF n cs ((firstI cs : Int).tdiv n) ((firstI cs : Int).tmod n) = true := by
    obtain ⟨m1, m2, m3, m4, m5⟩ := mix_div (k := firstI cs) h1 h2 (by omega)
    refine lit_letF (inRC_mk m1 m2 m3 m4) (by rw [m5]; exact f2) (by rw [m5]; exact cell_pos h5 _ f1)
  obtain ⟨o1, o2⟩ := vis_out (n := n) (N := cs.size) (L := letF n cs) hL cs.size (fun _ => false) ((firstI cs : Int).tdiv n) ((firstI cs : Int).tmod n) (by omega)
  unfold joinS visJ
  obtain ⟨a, ha⟩ : ∃ a, (firstI cs : Int).tdiv n = a := ⟨_, rfl⟩
  obtain ⟨b, hb'⟩ : ∃ b, (firstI cs : Int).tmod n = b := ⟨_, rfl⟩
  rw [ha, hb'] at hF o1 o2
  rw [ha, hb']
  have hcl : ∀ S, ClosedL (letF n cs) S → S a b → ∀ x y, letF n cs x y = true → vis n (letF n cs) cs.size (fun _ => false) a b (mixN n x y) = true → S x y := fun S hS h0 =>
    vis_in (fun r c k => (hL r c k).1) hS cs.size (fun _ => false) a b (fun _ _ _ k => by cases k) (fun _ => h0)
  constructor
  · intro hall S hS r c x y k1 k2 k3
    rw [List.all_eq_true] at hall
    have hv : ∀ u v, letF n cs u v = true → vis n (letF n cs) cs.size (fun _ => false) a b (mixN n u v) = true := by
      intro u v k
      have := hall (mixN n u v) (by simpa using (hL u v k).2)
      rw [letF_lit k] at this
      simpa using this
    by_cases hs : S a b
    · exact hcl S hS hs x y k2 (hv x y k2)
    · exact absurd k3 (hcl (fun u v => ¬ S u v) (fun u v z t q p1 p2 p3 p4 => p3 (hS z t u v q.symm p2 p1 p4)) hs r c k1 (hv r c k1))
  · intro hc
    rw [List.all_eq_true]
    intro i hi
    have hi' : i < cs.size := by simpa using hi
    cases hl : litB cs i
    · rfl
    · obtain ⟨m1, m2, m3, m4, m5⟩ := mix_div (k := i) h1 h2 (by omega)
      have k := hc (fun u v => vis n (letF n cs) cs.size (fun _ => false) a b (mixN n u v) = true) (fun u v z t q p1 p2 p3 => o2 u v z t q p1 p2 p3 rfl) a b ((i : Int).tdiv n) ((i : Int).tmod n) hF
        (lit_letF (inRC_mk m1 m2 m3 m4) (by rw [m5]; exact hl) (by rw [m5]; exact cell_pos h5 _ hi')) (o1 hF)
      simp only [m5] at k
      rw [k]
      rfl
theorem join_turn {m : Nat} {p c : ByteArray} (h : okB m p c = true) : joinB m (turnS m p) (turnS m c) = joinB m p c := by
  obtain ⟨h1, h2, h3, h4⟩ := okB_true h
  have hc2 : c.size = m * m := by have : ((m * m : Nat) : Int) = (m : Int) * m := by push_cast; rfl
                                  omega
  have hk := okB_turn h
  unfold joinB
  rw [hk, h, blank_turn hc2]
  cases hb : blankS c
  · have hb2 : blankS (turnS m c) = false := by rw [blank_turn hc2]; exact hb
    have e : (fun r k => letF m c k r) = letF m (turnS m c) := by
      funext r k
      unfold letF
      rw [sqAt_turn]
    have e2 : (fun r k => letF m (turnS m c) k r) = letF m c := by
      funext r k
      unfold letF
      rw [sqAt_turn]
    have g1 := join_conn h hb
    have g2 := join_conn hk hb2
    have : joinS m (turnS m c) = joinS m c := by
      rw [Bool.eq_iff_iff, g1, g2]
      constructor
      · intro q
        have := q.turn
        rw [e2] at this
        exact this
      · intro q
        have := q.turn
        rw [e] at this
        exact this
    rw [this]
  · rfl
end Go.Proofs.YtmohfdfjlgekaaaGreatDoor
