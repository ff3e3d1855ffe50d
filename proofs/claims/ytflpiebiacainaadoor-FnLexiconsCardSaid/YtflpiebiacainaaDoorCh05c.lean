/- slices.Insert of one word into a row of the call's own. Conditions: at most 2^20 words. -/
import Derived.Test.YtflpiebiacainaaDoorCh05b
import Derived.Test.YtflpiebiacainaaDoorIns
import Derived.Test.YtflpiebiacainaaDoorShelfI
namespace Go.Proofs.YtflpiebiacainaaDoor
set_option linter.unusedVariables false
set_option linter.unusedSimpArgs false
open Go Go.RowKit
theorem setCells_heap (b : Nat) : ∀ (vs : List Value) (o : Nat) (w : World), (w.setCells b o vs).heap.size = w.heap.size
  | [], _, _ => rfl
  | v :: r, o, w => by rw [World.setCells, setCells_heap b r]; simp [World.setCell]
theorem setCells_frozen (b : Nat) : ∀ (vs : List Value) (o : Nat) (w : World) (q : Addr), (w.setCells b o vs).frozen? q = w.frozen? q
  | [], _, _, _ => rfl
  | v :: r, o, w, q => by rw [World.setCells, setCells_frozen b r]; simp
theorem setCells_below {B b : Nat} (hb : B ≤ b) : ∀ (vs : List Value) (o : Nat) (u w : World), Below B u w → Below B u (w.setCells b o vs)
  | [], _, _, _, h => h
  | v :: r, o, u, w, h => by rw [World.setCells]; exact setCells_below hb r (o + 1) u _ (Below.setCell h hb v)
/-- What lies in a block behind two stores of rows, side by side. -/
theorem two_rows {b i n : Nat} {cs : List Value} {v : Value} {w : World} (hc : cs.length = n) (hi : i ≤ n) (h0 : ∀ j u, (cs.take i)[j]? = some u → w.cell? ⟨b, j, none⟩ = some u)
    (hs : ∀ j, j < n + 1 → (w.cell? ⟨b, j, none⟩).isSome = true) : ∀ j u, (cs.take i ++ [v] ++ cs.drop i)[j]? = some u → ((w.setCells b (i + 1) (cs.drop i)).setCells b i [v]).cell? ⟨b, j, none⟩ = some u := by
  intro j u hj
  have h1 : ((w.setCells b (i + 1) (cs.drop i)).cell? ⟨b, i, none⟩).isSome = true := by
    rw [World.cell?_setCells_out b _ _ _ _ (fun _ _ => .inl (by simp))]
    exact hs i (by omega)
  have hl : (cs.take i).length = i := by simp; omega
  by_cases e : j = i
  · subst e
    have this : ((w.setCells b (j + 1) (cs.drop j)).setCells b j [v]).cell? ⟨b, j, none⟩ = some v := World.cell?_setCells_in b [v] j (w.setCells b (j + 1) (cs.drop j)) (fun q hq => by simp at hq; subst hq; exact h1) 0 (by simp)
    rw [this]
    rw [List.append_assoc, List.getElem?_append_right (by omega), hl] at hj
    simpa using hj
  · rw [World.cell?_setCells_out b _ _ _ _ (fun _ _ => by simp only [List.length_singleton]; omega)]
    by_cases hlt : j < i
    · rw [World.cell?_setCells_out b _ _ _ _ (fun _ _ => .inl (by show j < i + 1; omega))]
      rw [List.append_assoc, List.getElem?_append_left (by omega)] at hj
      exact h0 j u hj
    · rw [List.append_assoc, List.getElem?_append_right (by omega), hl, List.getElem?_append_right (by simp; omega)] at hj
      simp only [List.length_singleton] at hj
      obtain ⟨hq, hqe⟩ := List.getElem?_eq_some_iff.1 hj
      have hd : (cs.drop i).length = n - i := by rw [List.length_drop, hc]
      have := World.cell?_setCells_in b (cs.drop i) (i + 1) w (fun q hq => hs _ (by omega)) (j - i - 1) hq
      rw [show i + 1 + (j - i - 1) = j by omega] at this
      rw [this, hqe]
theorem two_rows2 {b i n : Nat} {cs : List Value} {v : Value} {w : World} (hc : cs.length = n) (hi : i ≤ n) (h0 : ∀ j u, (cs.take i)[j]? = some u → w.cell? ⟨b, j, none⟩ = some u)
    (hs : ∀ j, j < n + 1 → (w.cell? ⟨b, j, none⟩).isSome = true) : ∀ j u, (cs.take i ++ [v] ++ cs.drop i)[j]? = some u → ((w.setCells b i [v]).drew.setCells b (i + 1) (cs.drop i)).cell? ⟨b, j, none⟩ = some u := by
  intro j u hj
  have hl : (cs.take i).length = i := by simp; omega
  have hs2 : ∀ j, j < n + 1 → ((w.setCells b i [v]).drew.cell? ⟨b, j, none⟩).isSome = true := fun j hq => by
    rw [World.cell?_drew]; exact isSome_setCells b [v] i w (fun q hq => by simp at hq; subst hq; exact hs i (by omega)) j (hs j hq)
  by_cases hgt : i < j
  · rw [List.append_assoc, List.getElem?_append_right (by omega), hl, List.getElem?_append_right (by simp; omega)] at hj
    simp only [List.length_singleton] at hj
    obtain ⟨hq, hqe⟩ := List.getElem?_eq_some_iff.1 hj
    have hd : (cs.drop i).length = n - i := by rw [List.length_drop, hc]
    have := World.cell?_setCells_in b (cs.drop i) (i + 1) (w.setCells b i [v]).drew (fun q hq => hs2 _ (by omega)) (j - i - 1) hq
    rw [show i + 1 + (j - i - 1) = j by omega] at this
    rw [this, hqe]
  · rw [World.cell?_setCells_out b _ _ _ _ (fun _ _ => .inl (by show j < i + 1; omega)), World.cell?_drew]
    by_cases e : j = i
    · subst e
      have this : (w.setCells b j [v]).cell? ⟨b, j, none⟩ = some v := World.cell?_setCells_in b [v] j w (fun q hq => by simp at hq; subst hq; exact hs j (by omega)) 0 (by simp)
      rw [this]
      rw [List.append_assoc, List.getElem?_append_right (by omega), hl] at hj
      simpa using hj
    · rw [World.cell?_setCells_out b _ _ _ _ (fun _ _ => .inl (by show j < i; omega))]
      rw [List.append_assoc, List.getElem?_append_left (by omega)] at hj
      exact h0 j u hj
def inAt (l : List ByteArray) (k : Nat) (x : ByteArray) : List ByteArray := l.take k ++ [x] ++ l.drop k
theorem strsV_inAt (l : List ByteArray) (k : Nat) (x : ByteArray) : strsV (inAt l k x) = (strsV l).take k ++ [.string x] ++ (strsV l).drop k := by
  simp [inAt, strsV]
theorem fresh_wr (w : World) (cur : Array Value) (t : TypeId) (xs : List Value) (h : ∀ (j : Nat) (u : Value), xs[j]? = some u → cur[j]? = some u) : Wr (w.alloc (.cells cur t)) w.heap.size xs :=
  ⟨by simp, fun j u hj => by rw [World.cell?_alloc_at _ _ _ _ rfl]; exact h j u hj, fun j _ => World.frozen?_alloc_at _ _ _ _ rfl⟩
theorem head_get {xs ys : List Value} {cur : Array Value} (hc : cur.toList = xs ++ ys) : ∀ (j : Nat) (u : Value), xs[j]? = some u → cur[j]? = some u := by
  intro j u hj
  rw [← Array.getElem?_toList, hc, List.getElem?_append_left (List.getElem?_eq_some_iff.1 hj).1]
  exact hj
theorem Wr.inR {w : World} {g B : Nat} {xs : List Value} (h : Wr w g xs) (hg : B ≤ g) : InR B w.heap.size w (some ⟨g, 0, none⟩) xs := .inr ⟨g, rfl, hg, h.1, h⟩
set_option maxHeartbeats 1000000 in
theorem Insert_one (a : Option Addr) (c : Nat) (l : List ByteArray) (k : Nat) (x : ByteArray) (vb vc B : Nat) (w0 w : World) (ho : Own w0 B 9 1 a l.length c (strsV l)) (hE0 : Ext w0 w) (hvb : w0.heap.size ≤ vb) (hB : B ≤ w.heap.size) (hl : l.length ≤ 1048576) (hk : k ≤ l.length)
    (hx : w.cell? ⟨vb, 0, none⟩ = some (.string x)) (tA : TypeId) (kA : Nat) (hsh : w.shape? vb = some (tA, kA)) (hfr : ∀ o, w.frozen? ⟨vb, o, none⟩ = false) :
    Calls Tryd.prog 28 #[.slice a l.length c, .int .i64 k, .slice (some ⟨vb, 0, none⟩) 1 vc] w fun e w' => ∃ a' c', e = .returned (.slice a' (l.length + 1) c') ∧ InR B w'.heap.size w' a' (strsV (inAt l k x)) ∧ Below B w w' := by
  have hvs : ∀ j v, [Value.string x][j]? = some v → w.cell? ⟨vb, 0 + j, none⟩ = some v := by
    intro j v hj
    cases j with
    | zero => simp at hj; subst hj; exact hx
    | succ j => simp at hj
  have h1v : ∀ v ∈ [Value.string x], v.oneCell' = true := by intro v hv; simp at hv; subst hv; rfl
  have empty : l = [] → c = 0 → Calls Tryd.prog 28 #[.slice a l.length c, .int .i64 k, .slice (some ⟨vb, 0, none⟩) 1 vc] w fun e w' => ∃ a' c', e = .returned (.slice a' (l.length + 1) c') ∧ InR B w'.heap.size w' a' (strsV (inAt l k x)) ∧ Below B w w' := by
    rintro rfl rfl
    obtain rfl : k = 0 := by simpa using hk
    refine (Any2.slices_Insert_string_end_grow Tryd.laysH222 a 0 0 vb 0 1 vc [] [.string x] w (by omega) (by omega) (by omega) (by omega) rfl rfl (fun _ => rfl) (fun _ _ j v hj => by simp at hj) hvs h1v).mono ?_
    rintro e w' ⟨he, hw⟩
    refine ⟨_, _, he, ?_, ?_⟩
    · subst hw
      have e : strsV (inAt [] 0 x) = [Value.string x] := by simp [inAt, strsV]
      rw [e]
      exact (fresh_wr w.drew _ _ _ (head_get (by rw [Array.toList_append]; rfl))).inR hB
    · subst hw
      exact ((Below.refl B w).drew).alloc hB _
  have hL : (strsV l).length = l.length := by simp [strsV]
  have h1c : ∀ v ∈ strsV l, v.oneCell' = true := strsV_one
  rcases ho with ⟨n0, c0, e0⟩ | ⟨hlen, ho⟩
  · exact empty (by cases l; rfl; simp at n0) c0
  rcases ho with ⟨hv, n0⟩ | ⟨g, cap, cur, hv, hg, hh0, hnc, hcap, hsz, htk⟩
  · simp only [Value.slice.injEq] at hv
    exact empty (by cases l; rfl; simp at n0) hv.2.2
  simp only [Value.slice.injEq] at hv
  obtain ⟨rfl, -, rfl⟩ := hv
  rw [Nat.mul_one] at hsz htk
  have hglt0 : g < w0.heap.size := (Array.getElem?_eq_some_iff.1 hh0).1
  have hh : w.heap[g]? = some (.cells cur 9 (0, 0)) := by rw [hE0.below.block g hglt0]; exact hh0
  have hcell : ∀ j, w.cell? ⟨g, j, none⟩ = cur[j]? := by
    intro j
    simp [World.cell?, hh]
  have hfz : ∀ j, w.frozen? ⟨g, j, none⟩ = false := by
    intro j
    simp [World.frozen?, hh]
  have hglt : g < w.heap.size := (Array.getElem?_eq_some_iff.1 hh).1
  have hcs : ∀ j v, (strsV l)[j]? = some v → w.cell? ⟨g, j, none⟩ = some v := by
    intro j v hj
    rw [hcell, ← Array.getElem?_toList]
    rw [← htk] at hj
    have hq := (List.getElem?_eq_some_iff.1 hj).1
    rw [List.getElem?_take_of_lt (by rw [List.length_take] at hq; omega)] at hj
    exact hj
  have hcs0 : ∀ j v, (strsV l)[j]? = some v → w.cell? ⟨g, 0 + j, none⟩ = some v := fun j v hj => by rw [Nat.zero_add]; exact hcs j v hj
  by_cases hroom : l.length + 1 ≤ c
  · have hs : ∀ j, j < l.length + 1 → (w.cell? ⟨g, j, none⟩).isSome = true := by
      intro j hj
      rw [hcell, Array.getElem?_eq_getElem (by omega)]
      rfl
    by_cases hkn : k < l.length
    · refine (Any2.slices_Insert_string_shift Tryd.laysH222 g 0 l.length c k vb 0 1 vc (strsV l) [.string x] w hkn (by omega) hroom (by unfold maxLen at hcap; omega) (by omega) hL rfl hcs0 (fun j hj => by rw [Nat.zero_add]; exact hs j hj) (fun j _ => hfz _) hvs h1c h1v tA _ kA _ hsh (by simp only [World.shape?, hh]; rfl) (by omega) (hfr _) (hfr _)).mono ?_
      rintro e w' ⟨he, hw⟩
      rw [Nat.zero_add, Nat.zero_add] at hw
      refine ⟨_, _, he, ?_, ?_⟩
      · rw [strsV_inAt]
        subst hw
        refine Wr.inR ⟨by rw [setCells_heap, setCells_heap]; exact hglt, two_rows hL hk (fun j u hj => ?_) hs, fun j _ => by rw [setCells_frozen, setCells_frozen]; exact hfz j⟩ hg
        exact hcs j u (by
          have hq := (List.getElem?_eq_some_iff.1 hj).1
          rw [List.length_take] at hq
          rw [List.getElem?_take_of_lt (by omega)] at hj
          exact hj)
      · subst hw
        exact setCells_below hg _ _ _ _ (setCells_below hg _ _ _ _ (Below.refl B w).drew)
    · obtain rfl : k = l.length := by omega
      refine (Any2.slices_Insert_string_end_room Tryd.laysH222 g 0 l.length c vb 0 1 vc [.string x] w (by omega) hroom (by unfold maxLen at hcap; omega) rfl (fun j hj => by rw [Nat.zero_add]; exact hs _ (by omega)) (fun j _ => hfz _) hvs h1v).mono ?_
      rintro e w' ⟨he, hw⟩
      rw [Nat.zero_add] at hw
      refine ⟨_, _, he, ?_, ?_⟩
      · rw [strsV_inAt]
        have hw2 : w' = (w.setCells g (l.length + 1) ((strsV l).drop l.length)).setCells g l.length [.string x] := by
          rw [hw, List.drop_of_length_le (by omega)]; rfl
        subst hw2
        refine Wr.inR ⟨by rw [setCells_heap, setCells_heap]; exact hglt, two_rows hL hk (fun j u hj => ?_) hs, fun j _ => by rw [setCells_frozen, setCells_frozen]; exact hfz j⟩ hg
        exact hcs j u (by
          have hq := (List.getElem?_eq_some_iff.1 hj).1
          rw [List.length_take] at hq
          rw [List.getElem?_take_of_lt (by omega)] at hj
          exact hj)
      · subst hw
        exact setCells_below hg _ _ _ _ (Below.refl B w)
  · by_cases hkn : k < l.length
    · refine (Any2.slices_Insert_string_grow Tryd.laysH222 g 0 l.length c k vb 0 1 vc (strsV l) [.string x] w hkn (by omega) hnc (by omega) (by omega) hL rfl hcs0 hvs h1c h1v).mono ?_
      rintro e w' ⟨he, hw⟩
      refine ⟨_, _, he, ?_, ?_⟩
      · rw [strsV_inAt]
        subst hw
        refine Wr.inR ⟨by rw [setCells_heap]; show w.heap.size < (World.setCells _ _ _ _).heap.size; rw [setCells_heap]; simp, two_rows2 hL hk (fun j u hj => ?_) (fun j hj => ?_), fun j _ => by rw [setCells_frozen]; show (World.setCells _ _ _ _).frozen? _ = false; rw [setCells_frozen]; exact World.frozen?_alloc_at _ _ _ _ rfl⟩ hB
        · rw [World.cell?_drew, World.cell?_alloc_at _ _ _ _ rfl]
          exact head_get (by rw [Array.toList_append, Array.toList_append, List.append_assoc]) j u hj
        · rw [World.cell?_drew, World.cell?_alloc_at _ _ _ _ rfl, Array.getElem?_eq_getElem]
          · rfl
          · simp only [Array.size_append, List.size_toArray, size_zeroCells, List.length_take, hL]
            show j < _ + _ * 1 + _ * 1
            omega
      · subst hw
        exact setCells_below hB _ _ _ _ (setCells_below hB _ _ _ _ ((Below.refl B w).alloc hB _).drew).drew
    · obtain rfl : k = l.length := by omega
      refine (Any2.slices_Insert_string_end_grow Tryd.laysH222 (some ⟨g, 0, none⟩) l.length c vb 0 1 vc (strsV l) [.string x] w (by omega) hnc (by omega) (by omega) hL rfl (fun q => by cases q) (fun q hq j v hj => ?_) hvs h1v).mono ?_
      · cases hq
        have hadd : (⟨g, 0, none⟩ : Addr).add j = ⟨g, 0 + j, none⟩ := by unfold Addr.add; split <;> simp_all
        rw [hadd]
        exact hcs0 j v hj
      · rintro e w' ⟨he, hw⟩
        refine ⟨_, _, he, ?_, ?_⟩
        · rw [strsV_inAt, List.drop_of_length_le (by omega), List.take_of_length_le (by omega), List.append_nil]
          subst hw
          exact (fresh_wr w.drew _ _ _ (head_get (by rw [Array.toList_append]))).inR hB
        · subst hw
          exact ((Below.refl B w).drew).alloc hB _
end Go.Proofs.YtflpiebiacainaaDoor
