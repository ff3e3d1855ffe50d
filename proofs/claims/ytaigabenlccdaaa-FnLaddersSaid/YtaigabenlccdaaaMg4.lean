/- Several texts in one: ShelfI, Ch05c, Ch05d. Conditions: see each. -/
import Derived.Shelf.Spec.SlicesInsert
import Derived.Shelf.Spec.SlicesInsertGrow
import Derived.Test.YtaigabenlccdaaaProg
import Derived.Test.YtaigabenlccdaaaCh05b
import Derived.Test.YtaigabenlccdaaaIns
section
namespace Go.Proofs
open Go.Shelf
end Go.Proofs
end
section
namespace Go.Proofs.Ytaigabenlccdaaa
set_option linter.unusedVariables false
set_option linter.unusedSimpArgs false
open Go Go.RowKit
theorem setCells_heap (b : Nat) : ∀ (vs : List Value) (o : Nat) (w : World), (w.setCells b o vs).heap.size = w.heap.size
  | [], _, _ => rfl
  | v :: r, o, w => by rw [World.setCells, setCells_heap b r]; simp [World.setCell]
theorem setCells_frozen (b : Nat) : ∀ (vs : List Value) (o : Nat) (w : World) (q : Addr), (w.setCells b o vs).frozen? q = w.frozen? q
  | [], _, _, _ => rfl
  | v :: r, o, w, q => by rw [World.setCells, setCells_frozen b r]; simp
theorem setCells_below {B b : Nat} (hb : B ≤ b) : ∀ (vs : List Value) (o : Nat) (u w : World), Below B u w → Below B u (w.setCells b o vs)
  | [], _, _, _, h => h
  | v :: r, o, u, w, h => by rw [World.setCells]; exact setCells_below hb r (o + 1) u _ (Below.setCell h hb v)
/-- What lies in a block behind two stores of rows, side by side. -/
theorem two_rows {b i n : Nat} {cs : List Value} {v : Value} {w : World} (hc : cs.length = n) (hi : i ≤ n) (h0 : ∀ j u, (cs.take i)[j]? = some u → w.cell? ⟨b, j, none⟩ = some u)
    (hs : ∀ j, j < n + 1 → (w.cell? ⟨b, j, none⟩).isSome = true) : ∀ j u, (cs.take i ++ [v] ++ cs.drop i)[j]? = some u → ((w.setCells b (i + 1) (cs.drop i)).setCells b i [v]).cell? ⟨b, j, none⟩ = some u := by
  intro j u hj
  have h1 : ((w.setCells b (i + 1) (cs.drop i)).cell? ⟨b, i, none⟩).isSome = true := by
    rw [World.cell?_setCells_out b _ _ _ _ (fun _ _ => .inl (by simp))]
    exact hs i (by omega)
  have hl : (cs.take i).length = i := by simp; omega
  by_cases e : j = i
  · subst e
    have this : ((w.setCells b (j + 1) (cs.drop j)).setCells b j [v]).cell? ⟨b, j, none⟩ = some v := World.cell?_setCells_in b [v] j (w.setCells b (j + 1) (cs.drop j)) (fun q hq => by simp at hq; subst hq; exact h1) 0 (by simp)
    rw [this]
    rw [List.append_assoc, List.getElem?_append_right (by omega), hl] at hj
    simpa using hj
  · rw [World.cell?_setCells_out b _ _ _ _ (fun _ _ => by simp only [List.length_singleton]; omega)]
    by_cases hlt : j < i
    · rw [World.cell?_setCells_out b _ _ _ _ (fun _ _ => .inl (by show j < i + 1; omega))]
      rw [List.append_assoc, List.getElem?_append_left (by omega)] at hj
      exact h0 j u hj
    · rw [List.append_assoc, List.getElem?_append_right (by omega), hl, List.getElem?_append_right (by simp; omega)] at hj
      simp only [List.length_singleton] at hj
      obtain ⟨hq, hqe⟩ := List.getElem?_eq_some_iff.1 hj
      have hd : (cs.drop i).length = n - i := by rw [List.length_drop, hc]
      have := World.cell?_setCells_in b (cs.drop i) (i + 1) w (fun q hq => hs _ (by omega)) (j - i - 1) hq
      rw [show i + 1 + (j - i - 1) = j by omega] at this
      rw [this, hqe]
theorem two_rows2 {b i n : Nat} {cs : List Value} {v : Value} {w : World} (hc : cs.length = n) (hi : i ≤ n) (h0 : ∀ j u, (cs.take i)[j]? = some u → w.cell? ⟨b, j, none⟩ = some u)
    (hs : ∀ j, j < n + 1 → (w.cell? ⟨b, j, none⟩).isSome = true) : ∀ j u, (cs.take i ++ [v] ++ cs.drop i)[j]? = some u → ((w.setCells b i [v]).drew.setCells b (i + 1) (cs.drop i)).cell? ⟨b, j, none⟩ = some u := by
  intro j u hj
  have hl : (cs.take i).length = i := by simp; omega
  have hs2 : ∀ j, j < n + 1 → ((w.setCells b i [v]).drew.cell? ⟨b, j, none⟩).isSome = true := fun j hq => by
    rw [World.cell?_drew]; exact isSome_setCells b [v] i w (fun q hq => by simp at hq; subst hq; exact hs i (by omega)) j (hs j hq)
  by_cases hgt : i < j
  · rw [List.append_assoc, List.getElem?_append_right (by omega), hl, List.getElem?_append_right (by simp; omega)] at hj
    simp only [List.length_singleton] at hj
    obtain ⟨hq, hqe⟩ := List.getElem?_eq_some_iff.1 hj
    have hd : (cs.drop i).length = n - i := by rw [List.length_drop, hc]
    have := World.cell?_setCells_in b (cs.drop i) (i + 1) (w.setCells b i [v]).drew (fun q hq => hs2 _ (by omega)) (j - i - 1) hq
    rw [show i + 1 + (j - i - 1) = j by omega] at this
    rw [this, hqe]
  · rw [World.cell?_setCells_out b _ _ _ _ (fun _ _ => .inl (by show j < i + 1; omega)), World.cell?_drew]
    by_cases e : j = i
    · subst e
      have this : (w.setCells b j [v]).cell? ⟨b, j, none⟩ = some v := World.cell?_setCells_in b [v] j w (fun q hq => by simp at hq; subst hq; exact hs j (by omega)) 0 (by simp)
      rw [this]
      rw [List.append_assoc, List.getElem?_append_right (by omega), hl] at hj
      simpa using hj
    · rw [World.cell?_setCells_out b _ _ _ _ (fun _ _ => .inl (by show j < i; omega))]
      rw [List.append_assoc, List.getElem?_append_left (by omega)] at hj
      exact h0 j u hj
def inAt (l : List ByteArray) (k : Nat) (x : ByteArray) : List ByteArray := l.take k ++ [x] ++ l.drop k
theorem strsV_inAt (l : List ByteArray) (k : Nat) (x : ByteArray) : strsV (inAt l k x) = (strsV l).take k ++ [.string x] ++ (strsV l).drop k := by
  simp [inAt, strsV]
end Go.Proofs.Ytaigabenlccdaaa
end
section
namespace Go.Proofs.Ytaigabenlccdaaa
set_option linter.unusedVariables false
set_option linter.unusedSimpArgs false
open Go Go.RowKit
theorem lessB_tri {p q : ByteArray} (h1 : lessB p q = false) (h2 : p ≠ q) : lessB q p = true := by
  unfold lessB at *
  rw [Go.Proofs.bytesLess_eq] at *
  rw [decide_eq_false_iff_not] at h1
  rw [decide_eq_true_eq]
  have h3 : p.toList ≠ q.toList := fun e => h2 (by
    rw [Lib.toList_data, Lib.toList_data] at e
    cases p
    cases q
    exact congrArg ByteArray.mk (Array.toList_inj.1 e))
  exact List.not_le.1 fun h => h3 (List.le_antisymm (List.not_lt.1 h1 |> fun z => h) (List.not_lt.1 h1))
theorem posIt_eq {l : List ByteArray} {t : ByteArray} {p : Nat} (h2 : 0 < p → lessB t (wAt l (p - 1)) = false) : ∀ k, p ≤ k → (∀ j, p ≤ j → j < k → lessB t (wAt l j) = true) → posIt l t k = p
  | 0, h, _ => by
    have : p = 0 := by omega
    subst this; rfl
  | k + 1, h, ha => by
    unfold posIt
    by_cases e : p = k + 1
    · rw [if_neg]
      · exact e.symm
      · have := h2 (by omega)
        rw [e, Nat.add_sub_cancel] at this
        simp [this]
    · rw [if_pos (ha k (by omega) (by omega))]
      exact posIt_eq h2 k (by omega) (fun j hj hq => ha j hj (by omega))
theorem insL_new {l : List ByteArray} {t : ByteArray} (hi : incB l = true) (hn : hasL l t = false) : insL l t = inAt l (posL l t) t := by
  have hne : ∀ j, posL l t ≤ j → j < l.length → wAt l j ≠ t := by
    intro j hj hlt e
    by_cases q : posL l t = j
    · have : hasL l t = true := by
        unfold hasL
        rw [decide_eq_true_eq]
        exact ⟨by omega, by rw [q]; exact e⟩
      rw [this] at hn
      cases hn
    · have h1 := incB_lt hi j (show posL l t < j by omega) hlt
      rw [e, posL_at (by omega)] at h1
      cases h1
  have hp : posI l t = posL l t := by
    refine posIt_eq (fun h0 => ?_) _ (posL_le l t) (fun j hj hlt => lessB_tri (posL_after hi hj hlt) (hne j hj hlt))
    cases hb : lessB t (wAt l (posL l t - 1))
    · rfl
    · have := lessB_trans hb (posL_before (l := l) (x := t) (j := posL l t - 1) (by omega))
      rw [lessB_self] at this
      cases this
  unfold insL
  rw [hp, if_neg]
  · rfl
  · rintro ⟨h0, e⟩
    have := posL_before (l := l) (x := t) (j := posL l t - 1) (by omega)
    rw [e, lessB_self] at this
    cases this
end Go.Proofs.Ytaigabenlccdaaa
end
