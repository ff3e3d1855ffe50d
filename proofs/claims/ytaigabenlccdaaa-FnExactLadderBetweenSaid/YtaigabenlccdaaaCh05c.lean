/- slices.Insert of one word into a row of the call's own. Conditions: at most 2^20 words. -/
import Derived.Test.YtaigabenlccdaaaCh05b
import Derived.Test.YtaigabenlccdaaaIns
import Derived.Test.YtaigabenlccdaaaShelfI
namespace Go.Proofs.Ytaigabenlccdaaa
set_option linter.unusedVariables false
set_option linter.unusedSimpArgs false
open Go Go.RowKit
theorem setCells_heap (b : Nat) : ∀ (vs : List Value) (o : Nat) (w : World), (w.setCells b o vs).heap.size = w.heap.size
  | [], _, _ => rfl
  | v :: r, o, w => by rw [World.setCells, setCells_heap b r]; simp [World.setCell]
theorem setCells_frozen (b : Nat) : ∀ (vs : List Value) (o : Nat) (w : World) (q : Addr), (w.setCells b o vs).frozen? q = w.frozen? q
  | [], _, _, _ => rfl
  | v :: r, o, w, q => by rw [World.setCells, setCells_frozen b r]; simp
theorem setCells_below {B b : Nat} (hb : B ≤ b) : ∀ (vs : List Value) (o : Nat) (u w : World), Below B u w → Below B u (w.setCells b o vs)
  | [], _, _, _, h => h
  | v :: r, o, u, w, h => by rw [World.setCells]; exact setCells_below hb r (o + 1) u _ (Below.setCell h hb v)
/-- What lies in a block behind two stores of rows, side by side. -/
theorem two_rows {b i n : Nat} {cs : List Value} {v : Value} {w : World} (hc : cs.length = n) (hi : i ≤ n) (h0 : ∀ j u, (cs.take i)[j]? = some u → w.cell? ⟨b, j, none⟩ = some u)
    (hs : ∀ j, j < n + 1 → (w.cell? ⟨b, j, none⟩).isSome = true) : ∀ j u, (cs.take i ++ [v] ++ cs.drop i)[j]? = some u → ((w.setCells b (i + 1) (cs.drop i)).setCells b i [v]).cell? ⟨b, j, none⟩ = some u := by
  intro j u hj
  have h1 : ((w.setCells b (i + 1) (cs.drop i)).cell? ⟨b, i, none⟩).isSome = true := by
    rw [World.cell?_setCells_out b _ _ _ _ (fun _ _ => .inl (by simp))]
    exact hs i (by omega)
  have hl : (cs.take i).length = i := by simp; omega
  by_cases e : j = i
  · subst e
    have this : ((w.setCells b (j + 1) (cs.drop j)).setCells b j [v]).cell? ⟨b, j, none⟩ = some v := World.cell?_setCells_in b [v] j (w.setCells b (j + 1) (cs.drop j)) (fun q hq => by simp at hq; subst hq; exact h1) 0 (by simp)
    rw [this]
    rw [List.append_assoc, List.getElem?_append_right (by omega), hl] at hj
    simpa using hj
  · rw [World.cell?_setCells_out b _ _ _ _ (fun _ _ => by simp only [List.length_singleton]; omega)]
    by_cases hlt : j < i
    · rw [World.cell?_setCells_out b _ _ _ _ (fun _ _ => .inl (by show j < i + 1; omega))]
      rw [List.append_assoc, List.getElem?_append_left (by omega)] at hj
      exact h0 j u hj
    · rw [List.append_assoc, List.getElem?_append_right (by omega), hl, List.getElem?_append_right (by simp; omega)] at hj
      simp only [List.length_singleton] at hj
      obtain ⟨hq, hqe⟩ := List.getElem?_eq_some_iff.1 hj
      have hd : (cs.drop i).length = n - i := by rw [List.length_drop, hc]
      have := World.cell?_setCells_in b (cs.drop i) (i + 1) w (fun q hq => hs _ (by omega)) (j - i - 1) hq
      rw [show i + 1 + (j - i - 1) = j by omega] at this
      rw [this, hqe]
theorem two_rows2 {b i n : Nat} {cs : List Value} {v : Value} {w : World} (hc : cs.length = n) (hi : i ≤ n) (h0 : ∀ j u, (cs.take i)[j]? = some u → w.cell? ⟨b, j, none⟩ = some u)
    (hs : ∀ j, j < n + 1 → (w.cell? ⟨b, j, none⟩).isSome = true) : ∀ j u, (cs.take i ++ [v] ++ cs.drop i)[j]? = some u → ((w.setCells b i [v]).drew.setCells b (i + 1) (cs.drop i)).cell? ⟨b, j, none⟩ = some u := by
  intro j u hj
  have hl : (cs.take i).length = i := by simp; omega
  have hs2 : ∀ j, j < n + 1 → ((w.setCells b i [v]).drew.cell? ⟨b, j, none⟩).isSome = true := fun j hq => by
    rw [World.cell?_drew]; exact isSome_setCells b [v] i w (fun q hq => by simp at hq; subst hq; exact hs i (by omega)) j (hs j hq)
  by_cases hgt : i < j
  · rw [List.append_assoc, List.getElem?_append_right (by omega), hl, List.getElem?_append_right (by simp; omega)] at hj
    simp only [List.length_singleton] at hj
    obtain ⟨hq, hqe⟩ := List.getElem?_eq_some_iff.1 hj
    have hd : (cs.drop i).length = n - i := by rw [List.length_drop, hc]
    have := World.cell?_setCells_in b (cs.drop i) (i + 1) (w.setCells b i [v]).drew (fun q hq => hs2 _ (by omega)) (j - i - 1) hq
    rw [show i + 1 + (j - i - 1) = j by omega] at this
    rw [this, hqe]
  · rw [World.cell?_setCells_out b _ _ _ _ (fun _ _ => .inl (by show j < i + 1; omega)), World.cell?_drew]
    by_cases e : j = i
    · subst e
      have this : (w.setCells b j [v]).cell? ⟨b, j, none⟩ = some v := World.cell?_setCells_in b [v] j w (fun q hq => by simp at hq; subst hq; exact hs j (by omega)) 0 (by simp)
      rw [this]
      rw [List.append_assoc, List.getElem?_append_right (by omega), hl] at hj
      simpa using hj
    · rw [World.cell?_setCells_out b _ _ _ _ (fun _ _ => .inl (by show j < i; omega))]
      rw [List.append_assoc, List.getElem?_append_left (by omega)] at hj
      exact h0 j u hj
def inAt (l : List ByteArray) (k : Nat) (x : ByteArray) : List ByteArray := l.take k ++ [x] ++ l.drop k
theorem strsV_inAt (l : List ByteArray) (k : Nat) (x : ByteArray) : strsV (inAt l k x) = (strsV l).take k ++ [.string x] ++ (strsV l).drop k := by
  simp [inAt, strsV]
end Go.Proofs.Ytaigabenlccdaaa
