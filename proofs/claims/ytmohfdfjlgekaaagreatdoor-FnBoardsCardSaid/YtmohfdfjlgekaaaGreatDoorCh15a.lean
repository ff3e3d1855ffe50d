/- Squares that are joined: marks, and which squares a walk from one square marks. Plain. -/
import Derived.Test.YtmohfdfjlgekaaaGreatDoorMg8
namespace Go.Proofs.YtmohfdfjlgekaaaGreatDoor
set_option linter.unusedVariables false
set_option linter.unusedSimpArgs false
open Go Go.RowKit
def upd (S : Nat → Bool) (i : Nat) : Nat → Bool := fun j => if j = i then true else S j
def cnt (N : Nat) (S : Nat → Bool) : Nat := (List.range N).countP S
theorem cnt_succ (N : Nat) (S : Nat → Bool) : cnt (N + 1) S = cnt N S + if S N then 1 else 0 := by
  simp [cnt, List.range_succ]
theorem cnt_le (N : Nat) (S : Nat → Bool) : cnt N S ≤ N := by
  have := List.countP_le_length (p := S) (l := List.range N)
  simpa [cnt] using this
theorem cnt_congr {N : Nat} {S T : Nat → Bool} (h : ∀ i, i < N → S i = T i) : cnt N S = cnt N T := by
  induction N with
  | zero => rfl
  | succ N ih => rw [cnt_succ, cnt_succ, ih (fun i hi => h i (by omega)), h N (by omega)]
theorem cnt_upd {N i : Nat} {S : Nat → Bool} (h : i < N) (hs : S i = false) : cnt N (upd S i) = cnt N S + 1 := by
  induction N with
  | zero => omega
  | succ N ih =>
    rw [cnt_succ, cnt_succ]
    by_cases e : i = N
    · subst e
      rw [cnt_congr (S := upd S i) (T := S) (fun j hj => by simp [upd]; omega)]
      simp [upd, hs]
    · rw [ih (by omega)]
      have : upd S i N = S N := by simp [upd, Ne.symm e]
      rw [this]
      omega
theorem cnt_mono {N : Nat} {S T : Nat → Bool} (h : ∀ i, i < N → S i = true → T i = true) : cnt N S ≤ cnt N T := by
  induction N with
  | zero => exact Nat.le_refl _
  | succ N ih =>
    have h1 := ih (fun i hi => h i (by omega))
    have h2 := h N (by omega)
    rw [cnt_succ, cnt_succ]
    cases hS : S N <;> cases hT : T N <;> simp_all <;> omega
theorem cnt_none (N : Nat) : cnt N (fun _ => false) = 0 := by simp [cnt]
/-- Among marks on letters alone: as many marks as letters, just where each letter is marked. -/
theorem cnt_eq {N : Nat} {S T : Nat → Bool} (h : ∀ i, i < N → S i = true → T i = true) : (cnt N S = cnt N T) ↔ ∀ i, i < N → T i = true → S i = true := by
  constructor
  · intro e
    induction N with
    | zero => intro i hi; omega
    | succ N ih =>
      have h1 := cnt_mono (fun i hi => h i (Nat.lt_succ_of_lt hi)) (N := N)
      have h2 := h N (by omega)
      rw [cnt_succ, cnt_succ] at e
      have e1 : cnt N S = cnt N T := by
        cases hS : S N <;> cases hT : T N <;> simp_all <;> omega
      intro i hi ht
      by_cases hiN : i = N
      · subst hiN
        rw [e1] at e
        cases hS : S i
        · simp [hS, ht] at e
        · rfl
      · exact ih (fun i hi => h i (by omega)) e1 i (by omega) ht
  · intro k
    exact Nat.le_antisymm (cnt_mono h) (cnt_mono k)
def mixN (n r c : Int) : Nat := (r * n + c).toNat
def vis (n : Int) (L : Int → Int → Bool) : Nat → (Nat → Bool) → Int → Int → (Nat → Bool)
  | 0, S, _, _ => S
  | f + 1, S, r, c => if L r c && !S (mixN n r c) then vis n L f (vis n L f (vis n L f (vis n L f (upd S (mixN n r c)) (r - 1) c) (r + 1) c) r (c - 1)) r (c + 1) else S
theorem vis_stop {n : Int} {L : Int → Int → Bool} {f : Nat} {S : Nat → Bool} {r c : Int} (h : (L r c && !S (mixN n r c)) = false) : vis n L f S r c = S := by
  cases f with
  | zero => rfl
  | succ f => rw [vis, h]; rfl
theorem vis_go {n : Int} {L : Int → Int → Bool} {f : Nat} {S : Nat → Bool} {r c : Int} (h1 : L r c = true) (h2 : S (mixN n r c) = false) :
    vis n L (f + 1) S r c = vis n L f (vis n L f (vis n L f (vis n L f (upd S (mixN n r c)) (r - 1) c) (r + 1) c) r (c - 1)) r (c + 1) := by
  rw [vis, h1, h2]; rfl
theorem upd_sup {S : Nat → Bool} {i j : Nat} (h : S j = true) : upd S i j = true := by
  unfold upd
  by_cases e : j = i
  · rw [if_pos e]
  · rw [if_neg e]; exact h
theorem vis_sup {n : Int} {L : Int → Int → Bool} (f : Nat) : ∀ (S : Nat → Bool) (r c : Int) (i : Nat), S i = true → vis n L f S r c i = true := by
  induction f with
  | zero => intro S r c i h; exact h
  | succ f ih =>
    intro S r c i h
    cases hq : (L r c && !S (mixN n r c))
    · rw [vis_stop hq]; exact h
    · rw [vis, hq]
      exact ih _ _ _ _ (ih _ _ _ _ (ih _ _ _ _ (ih _ _ _ _ (upd_sup h))))
theorem vis_cnt {n : Int} {L : Int → Int → Bool} (f : Nat) (N : Nat) (S : Nat → Bool) (r c : Int) : cnt N S ≤ cnt N (vis n L f S r c) :=
  cnt_mono fun i _ h => vis_sup f S r c i h
theorem vis_sub {n : Int} {L : Int → Int → Bool} {T : Nat → Bool} (hL : ∀ r c, L r c = true → T (mixN n r c) = true) (f : Nat) :
    ∀ (S : Nat → Bool) (r c : Int), (∀ i, S i = true → T i = true) → ∀ i, vis n L f S r c i = true → T i = true := by
  induction f with
  | zero => intro S r c hS i h; exact hS i h
  | succ f ih =>
    intro S r c hS
    cases hq : (L r c && !S (mixN n r c))
    · rw [vis_stop hq]; exact hS
    · rw [vis, hq]
      rw [Bool.and_eq_true] at hq
      have h0 : ∀ i, upd S (mixN n r c) i = true → T i = true := by
        intro i hi
        unfold upd at hi
        by_cases e : i = mixN n r c
        · subst e; exact hL r c hq.1
        · rw [if_neg e] at hi; exact hS i hi
      exact ih _ _ _ (ih _ _ _ (ih _ _ _ (ih _ _ _ h0)))
theorem mix_inj {m r c r' c' : Int} (h0 : 0 ≤ c) (h1 : c < m) (h2 : 0 ≤ c') (h3 : c' < m) (h : r * m + c = r' * m + c') : r = r' ∧ c = c' := by
  rcases Int.lt_trichotomy r r' with k | k | k
  · have := Int.mul_le_mul_of_nonneg_right (show r + 1 ≤ r' by omega) (show 0 ≤ m by omega)
    rw [Int.add_mul, Int.one_mul] at this
    omega
  · subst k; omega
  · have := Int.mul_le_mul_of_nonneg_right (show r' + 1 ≤ r by omega) (show 0 ≤ m by omega)
    rw [Int.add_mul, Int.one_mul] at this
    omega
theorem mixN_inj {m n r c r' c' : Int} (hm : n ≤ m) (h : inRC n r c = true) (k : inRC n r' c' = true) (e : mixN m r c = mixN m r' c') : r = r' ∧ c = c' := by
  obtain ⟨a0, a1, a2, a3⟩ := inRC_true h
  obtain ⟨b0, b1, b2, b3⟩ := inRC_true k
  have e1 : 0 ≤ r * m := Int.mul_nonneg a0 (by omega)
  have e2 : 0 ≤ r' * m := Int.mul_nonneg b0 (by omega)
  unfold mixN at e
  exact mix_inj (m := m) a2 (by omega) b2 (by omega) (by omega)
/-- Marks lie in block g, rows of m; the board has n. -/
def Bs (w : World) (g : Nat) (m n : Int) (S : Nat → Bool) : Prop := g < w.heap.size ∧ ∀ r c, inRC n r c = true → w.cell? ⟨g, mixN m r c, none⟩ = some (.bool (S (mixN n r c))) ∧ w.frozen? ⟨g, mixN m r c, none⟩ = false
theorem Bs.ext {w w' : World} {g : Nat} {m n : Int} {S : Nat → Bool} (h : Bs w g m n S) (k : Ext w w') : Bs w' g m n S :=
  ⟨Nat.lt_of_lt_of_le h.1 k.size, fun r c hr => ⟨k.cell (h.2 r c hr).1, by rw [Below.frozen k (p := ⟨g, mixN m r c, none⟩) h.1]; exact (h.2 r c hr).2⟩⟩
theorem Bs.set {w : World} {g : Nat} {m n : Int} {S : Nat → Bool} (h : Bs w g m n S) (hm : n ≤ m) {r c : Int} (hr : inRC n r c = true) : Bs (w.setCell ⟨g, mixN m r c, none⟩ (.bool true)) g m n (upd S (mixN n r c)) := by
  refine ⟨by simpa [World.setCell] using h.1, fun r' c' hr' => ⟨?_, by simpa using (h.2 r' c' hr').2⟩⟩
  by_cases e : mixN m r c = mixN m r' c'
  · obtain ⟨rfl, rfl⟩ := mixN_inj hm hr hr' e
    rw [World.cell?_setCell_same _ _ _ (h.2 r c hr).1]
    simp [upd]
  · rw [World.cell?_setCell_other _ _ _ _ (fun q => by simp at q <;> omega), (h.2 r' c' hr').1]
    have : mixN n r' c' ≠ mixN n r c := by
      intro q
      obtain ⟨rfl, rfl⟩ := mixN_inj (Int.le_refl n) hr' hr q
      exact e rfl
    simp [upd, this]
theorem Bs.other {w : World} {g b o : Nat} {m n : Int} {S : Nat → Bool} {v : Value} (h : Bs w g m n S) (hb : b ≠ g) : Bs (w.setCell ⟨b, o, none⟩ v) g m n S :=
  ⟨by simpa [World.setCell] using h.1, fun r c hr => ⟨by rw [World.cell?_setCell_other _ _ _ _ (fun q => by simp at q <;> omega)]; exact (h.2 r c hr).1, by simpa using (h.2 r c hr).2⟩⟩
end Go.Proofs.YtmohfdfjlgekaaaGreatDoor
