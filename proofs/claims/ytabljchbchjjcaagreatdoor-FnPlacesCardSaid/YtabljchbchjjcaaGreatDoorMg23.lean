/- Several texts in one: DrawQ, ShelfI, Ch05c, Ch05d, Ch05h. Conditions: see each. -/
import Derived.Test.YtabljchbchjjcaaGreatDoorMg22
import Derived.Test.YtabljchbchjjcaaGreatDoorMg1
import Derived.Shelf.Spec.SlicesInsert
import Derived.Shelf.Spec.SlicesInsertGrow
import Derived.Test.YtabljchbchjjcaaGreatDoorProg
import Derived.Test.YtabljchbchjjcaaGreatDoorMg21
import Derived.Test.YtabljchbchjjcaaGreatDoorMg16
import Derived.Test.YtabljchbchjjcaaGreatDoorMg10
import Derived.Sort.KeysCollected
section
namespace Go.Proofs.YtabljchbchjjcaaGreatDoor
set_option linter.unusedVariables false
set_option linter.unusedSimpArgs false
open Go Go.RowKit
set_option maxHeartbeats 1000000 in
theorem a2At_any (a : Option Addr) (c : Nat) (l : List UInt8) (i n : Nat) (w : World) (h : Rd w a (bytesV l)) (hl : l.length ≤ maxLen) (hi : i ≤ 1000) (hn : 1 ≤ n ∧ n ≤ 1000) :
    Calls Tryz.prog 8 #[.slice a l.length c, .int .i64 (i : Int), .int .i64 (n : Int)] w fun e w' => ∃ k : Nat, k < n ∧ e = .returned (.int .i64 (k : Int)) ∧ w' = w := by
  obtain ⟨h1, h2⟩ := hn
  unfold maxLen at hl
  by_cases hlt : i < l.length
  · obtain ⟨b, o, rfl, hc⟩ := h.at (by rw [bytesV_length]; omega)
    have c0 := hc i _ (by rw [bytesV_get, List.getElem?_eq_getElem hlt]; rfl)
    obtain ⟨u, hu⟩ : ∃ u, l[i] = u := ⟨_, rfl⟩
    rw [hu] at c0
    simp only at c0
    have hu2 := u.toNat_lt
    obtain ⟨x, hx⟩ : ∃ x, u.toNat = x := ⟨_, rfl⟩
    rw [hx] at c0 hu2
    have hm := Nat.mod_lt x (show 0 < n by omega)
    clear h hc hu hx
    go_enter Tryz.func8, Tryz.ntmps8
    go_wp2_with fail
    go_returns
    exact ⟨x % n, hm, by first | rfl | simp, rfl⟩
  · clear h
    go_enter Tryz.func8, Tryz.ntmps8
    go_wp2_with fail
    go_returns
    exact ⟨0, by omega, rfl, rfl⟩
theorem any_take (s : ByteArray) (u : UInt8) {k : Nat} (hk : k < s.size) : ((s.data.toList.take (k + 1)).any fun v => v == u) = (((s.data.toList.take k).any fun v => v == u) || bAt s k == u) := by
  have hl := lenL s
  rw [List.take_succ_eq_append_getElem (by omega), List.any_append]
  have e : s.data.toList[k]'(by omega) = bAt s k := by
    unfold bAt
    rw [List.getD_eq_getElem?_getD, List.getElem?_eq_getElem (by omega)]
    rfl
  rw [e]
  simp
set_option maxHeartbeats 1000000 in
theorem a2Letter_any (s : ByteArray) (u : UInt8) (w : World) (hs : s.size ≤ 1048576) :
    Calls Tryz.prog 14 #[.string s, .int .u8 (u.toNat : Int)] w (Same (.bool (inC s u)) w) := by
  have HS := hid (fun k h => any_take s u (k := k) h)
  have HF : Hid (inC s u = (s.data.toList.take s.size).any fun v => v == u) := hid (by unfold inC; rw [List.take_of_length_le (by rw [lenL]; omega)])
  have HB := hid (fun k h => bAt_eq s k h)
  have HU : Hid (∀ v : UInt8, (v == u) = ((v.toNat : Int) == (u.toNat : Int))) := hid (fun v => by
    rw [Bool.eq_iff_iff, beq_iff_eq, beq_iff_eq]
    refine ⟨fun e => by rw [e], fun e => UInt8.toNat_inj.1 (by omega)⟩)
  obtain ⟨I, hI⟩ : ∃ I, inC s u = I := ⟨_, rfl⟩
  rw [hI] at HF ⊢
  clear hI
  obtain ⟨x, hx⟩ : ∃ x : Int, (u.toNat : Int) = x := ⟨_, rfl⟩
  rw [hx] at HU ⊢
  clear hx
  go_enter Tryz.func14, Tryz.ntmps14
  go_wp2_with fail
  go_loopw [5] (fun i wr => ∃ k : Nat, k ≤ s.size ∧ i = .int .i64 (k : Int) ∧ Hid (((s.data.toList.take k).any fun v => v == u) = false) ∧ wr = w) (fun i _ => s.size - (intOf i).toNat)
  case atStart => exact ⟨0, by omega, rfl, hid (by simp), rfl⟩
  case round =>
    obtain ⟨k, hk, rfl, hN, rfl⟩ := hrel
    by_cases hlt : k < s.size
    · have HSk := hid (HS.out k hlt)
      have HBk := hid (HB.out k hlt)
      obtain ⟨v, hv⟩ : ∃ v, bAt s k = v := ⟨_, rfl⟩
      rw [hv] at HSk HBk
      have HUv := hid (HU.out v)
      clear hv
      cases he : (v.toNat : Int) == x
      · have hne : ((s[k].toNat : Int) == x) = false := by rw [HBk.out]; exact he
        have HN2 : Hid (((s.data.toList.take (k + 1)).any fun v => v == u) = false) := hid (by rw [HSk.out, hN.out, HUv.out, he]; rfl)
        clear he
        go_wp2_with fail
        go_roundw
        case rel => exact ⟨k + 1, by omega, by go_num, HN2, by first | rfl | trivial⟩
        case measure => simp [intOf]; omega
      · have hne : ((s[k].toNat : Int) == x) = true := by rw [HBk.out]; exact he
        have HIT : Hid (I = true) := hid (by
          rw [HF.out, List.any_eq_true]
          have h1 := HSk.out
          rw [hN.out, HUv.out, he] at h1
          obtain ⟨z, hz, hz2⟩ := List.any_eq_true.1 h1
          refine ⟨z, ?_, hz2⟩
          rw [List.take_of_length_le (by rw [lenL]; omega)]
          exact List.mem_of_mem_take hz)
        clear he
        go_wp2_with fail
        go_returns
        exact ⟨ret_bool HIT.out.symm, rfl⟩
    · obtain rfl : k = s.size := by omega
      go_wp2_with fail
      go_returns
      exact ⟨ret_bool (by rw [HF.out, hN.out]), rfl⟩
end Go.Proofs.YtabljchbchjjcaaGreatDoor
end
section
namespace Go.Proofs
open Go.Shelf
end Go.Proofs
end
section
namespace Go.Proofs.YtabljchbchjjcaaGreatDoor
set_option linter.unusedVariables false
set_option linter.unusedSimpArgs false
open Go Go.RowKit
theorem setCells_heap (b : Nat) : ∀ (vs : List Value) (o : Nat) (w : World), (w.setCells b o vs).heap.size = w.heap.size
  | [], _, _ => rfl
  | v :: r, o, w => by rw [World.setCells, setCells_heap b r]; simp [World.setCell]
theorem setCells_frozen (b : Nat) : ∀ (vs : List Value) (o : Nat) (w : World) (q : Addr), (w.setCells b o vs).frozen? q = w.frozen? q
  | [], _, _, _ => rfl
  | v :: r, o, w, q => by rw [World.setCells, setCells_frozen b r]; simp
theorem setCells_below {B b : Nat} (hb : B ≤ b) : ∀ (vs : List Value) (o : Nat) (u w : World), Below B u w → Below B u (w.setCells b o vs)
  | [], _, _, _, h => h
  | v :: r, o, u, w, h => by rw [World.setCells]; exact setCells_below hb r (o + 1) u _ (Below.setCell h hb v)
/-- What lies in a block behind two stores of rows, side by side. -/
theorem two_rows {b i n : Nat} {cs : List Value} {v : Value} {w : World} (hc : cs.length = n) (hi : i ≤ n) (h0 : ∀ j u, (cs.take i)[j]? = some u → w.cell? ⟨b, j, none⟩ = some u)
    (hs : ∀ j, j < n + 1 → (w.cell? ⟨b, j, none⟩).isSome = true) : ∀ j u, (cs.take i ++ [v] ++ cs.drop i)[j]? = some u → ((w.setCells b (i + 1) (cs.drop i)).setCells b i [v]).cell? ⟨b, j, none⟩ = some u := by
  intro j u hj
  have h1 : ((w.setCells b (i + 1) (cs.drop i)).cell? ⟨b, i, none⟩).isSome = true := by
    rw [World.cell?_setCells_out b _ _ _ _ (fun _ _ => .inl (by simp))]
    exact hs i (by omega)
  have hl : (cs.take i).length = i := by simp; omega
  by_cases e : j = i
  · subst e
    have this : ((w.setCells b (j + 1) (cs.drop j)).setCells b j [v]).cell? ⟨b, j, none⟩ = some v := World.cell?_setCells_in b [v] j (w.setCells b (j + 1) (cs.drop j)) (fun q hq => by simp at hq; subst hq; exact h1) 0 (by simp)
    rw [this]
    rw [List.append_assoc, List.getElem?_append_right (by omega), hl] at hj
    simpa using hj
  · rw [World.cell?_setCells_out b _ _ _ _ (fun _ _ => by simp only [List.length_singleton]; omega)]
    by_cases hlt : j < i
    · rw [World.cell?_setCells_out b _ _ _ _ (fun _ _ => .inl (by show j < i + 1; omega))]
      rw [List.append_assoc, List.getElem?_append_left (by omega)] at hj
      exact h0 j u hj
    · rw [List.append_assoc, List.getElem?_append_right (by omega), hl, List.getElem?_append_right (by simp; omega)] at hj
      simp only [List.length_singleton] at hj
      obtain ⟨hq, hqe⟩ := List.getElem?_eq_some_iff.1 hj
      have hd : (cs.drop i).length = n - i := by rw [List.length_drop, hc]
      have := World.cell?_setCells_in b (cs.drop i) (i + 1) w (fun q hq => hs _ (by omega)) (j - i - 1) hq
      rw [show i + 1 + (j - i - 1) = j by omega] at this
      rw [this, hqe]
theorem two_rows2 {b i n : Nat} {cs : List Value} {v : Value} {w : World} (hc : cs.length = n) (hi : i ≤ n) (h0 : ∀ j u, (cs.take i)[j]? = some u → w.cell? ⟨b, j, none⟩ = some u)
    (hs : ∀ j, j < n + 1 → (w.cell? ⟨b, j, none⟩).isSome = true) : ∀ j u, (cs.take i ++ [v] ++ cs.drop i)[j]? = some u → ((w.setCells b i [v]).drew.setCells b (i + 1) (cs.drop i)).cell? ⟨b, j, none⟩ = some u := by
  intro j u hj
  have hl : (cs.take i).length = i := by simp; omega
  have hs2 : ∀ j, j < n + 1 → ((w.setCells b i [v]).drew.cell? ⟨b, j, none⟩).isSome = true := fun j hq => by
    rw [World.cell?_drew]; exact isSome_setCells b [v] i w (fun q hq => by simp at hq; subst hq; exact hs i (by omega)) j (hs j hq)
  by_cases hgt : i < j
  · rw [List.append_assoc, List.getElem?_append_right (by omega), hl, List.getElem?_append_right (by simp; omega)] at hj
    simp only [List.length_singleton] at hj
    obtain ⟨hq, hqe⟩ := List.getElem?_eq_some_iff.1 hj
    have hd : (cs.drop i).length = n - i := by rw [List.length_drop, hc]
    have := World.cell?_setCells_in b (cs.drop i) (i + 1) (w.setCells b i [v]).drew (fun q hq => hs2 _ (by omega)) (j - i - 1) hq
    rw [show i + 1 + (j - i - 1) = j by omega] at this
    rw [this, hqe]
  · rw [World.cell?_setCells_out b _ _ _ _ (fun _ _ => .inl (by show j < i + 1; omega)), World.cell?_drew]
    by_cases e : j = i
    · subst e
      have this : (w.setCells b j [v]).cell? ⟨b, j, none⟩ = some v := World.cell?_setCells_in b [v] j w (fun q hq => by simp at hq; subst hq; exact hs j (by omega)) 0 (by simp)
      rw [this]
      rw [List.append_assoc, List.getElem?_append_right (by omega), hl] at hj
      simpa using hj
    · rw [World.cell?_setCells_out b _ _ _ _ (fun _ _ => .inl (by show j < i; omega))]
      rw [List.append_assoc, List.getElem?_append_left (by omega)] at hj
      exact h0 j u hj
def inAt (l : List ByteArray) (k : Nat) (x : ByteArray) : List ByteArray := l.take k ++ [x] ++ l.drop k
theorem strsV_inAt (l : List ByteArray) (k : Nat) (x : ByteArray) : strsV (inAt l k x) = (strsV l).take k ++ [.string x] ++ (strsV l).drop k := by
  simp [inAt, strsV]
end Go.Proofs.YtabljchbchjjcaaGreatDoor
end
section
namespace Go.Proofs.YtabljchbchjjcaaGreatDoor
set_option linter.unusedVariables false
set_option linter.unusedSimpArgs false
open Go Go.RowKit
theorem lessB_tri {p q : ByteArray} (h1 : lessB p q = false) (h2 : p ≠ q) : lessB q p = true := by
  unfold lessB at *
  rw [Go.Proofs.bytesLess_eq] at *
  rw [decide_eq_false_iff_not] at h1
  rw [decide_eq_true_eq]
  have h3 : p.toList ≠ q.toList := fun e => h2 (by
    rw [Lib.toList_data, Lib.toList_data] at e
    cases p
    cases q
    exact congrArg ByteArray.mk (Array.toList_inj.1 e))
  exact List.not_le.1 fun h => h3 (List.le_antisymm (List.not_lt.1 h1 |> fun z => h) (List.not_lt.1 h1))
theorem posIt_eq {l : List ByteArray} {t : ByteArray} {p : Nat} (h2 : 0 < p → lessB t (wAt l (p - 1)) = false) : ∀ k, p ≤ k → (∀ j, p ≤ j → j < k → lessB t (wAt l j) = true) → posIt l t k = p
  | 0, h, _ => by
    have : p = 0 := by omega
    subst this; rfl
  | k + 1, h, ha => by
    unfold posIt
    by_cases e : p = k + 1
    · rw [if_neg]
      · exact e.symm
      · have := h2 (by omega)
        rw [e, Nat.add_sub_cancel] at this
        simp [this]
    · rw [if_pos (ha k (by omega) (by omega))]
      exact posIt_eq h2 k (by omega) (fun j hj hq => ha j hj (by omega))
theorem insL_new {l : List ByteArray} {t : ByteArray} (hi : incB l = true) (hn : hasL l t = false) : insL l t = inAt l (posL l t) t := by
  have hne : ∀ j, posL l t ≤ j → j < l.length → wAt l j ≠ t := by
    intro j hj hlt e
    by_cases q : posL l t = j
    · have : hasL l t = true := by
        unfold hasL
        rw [decide_eq_true_eq]
        exact ⟨by omega, by rw [q]; exact e⟩
      rw [this] at hn
      cases hn
    · have h1 := incB_lt hi j (show posL l t < j by omega) hlt
      rw [e, posL_at (by omega)] at h1
      cases h1
  have hp : posI l t = posL l t := by
    refine posIt_eq (fun h0 => ?_) _ (posL_le l t) (fun j hj hlt => lessB_tri (posL_after hi hj hlt) (hne j hj hlt))
    cases hb : lessB t (wAt l (posL l t - 1))
    · rfl
    · have := lessB_trans hb (posL_before (l := l) (x := t) (j := posL l t - 1) (by omega))
      rw [lessB_self] at this
      cases this
  unfold insL
  rw [hp, if_neg]
  · rfl
  · rintro ⟨h0, e⟩
    have := posL_before (l := l) (x := t) (j := posL l t - 1) (by omega)
    rw [e, lessB_self] at this
    cases this
end Go.Proofs.YtabljchbchjjcaaGreatDoor
end
section
namespace Go.Proofs.YtabljchbchjjcaaGreatDoor
set_option linter.unusedVariables false
set_option linter.unusedSimpArgs false
open Go Go.RowKit
/-- In strictly rising order. -/
def Rise (l : List ByteArray) : Prop := l.Pairwise fun p q => lessB p q = true
theorem Rise.of_inc {l : List ByteArray} (h : incB l = true) : Rise l := by
  unfold Rise
  rw [List.pairwise_iff_getElem]
  intro i j hi hj hij
  rw [wAt_eq l i hi, wAt_eq l j hj]
  exact incB_lt h j hij hj
theorem Rise.inc {l : List ByteArray} (h : Rise l) : incB l = true := by
  refine incB_yes fun i hi => ?_
  have := List.pairwise_iff_getElem.1 h i (i + 1) (by omega) hi (by omega)
  rwa [wAt_eq l i (by omega), wAt_eq l (i + 1) hi] at this
theorem Rise.at {l : List ByteArray} (h : Rise l) {i j : Nat} (hij : i < j) (hj : j < l.length) : lessB (wAt l i) (wAt l j) = true := by
  have := List.pairwise_iff_getElem.1 h i j (by omega) hj hij
  rwa [wAt_eq l i (by omega), wAt_eq l j hj] at this
theorem posIt_past (l : List ByteArray) (t : ByteArray) : ∀ k j, posIt l t k ≤ j → j < k → lessB t (wAt l j) = true
  | 0, j, _, h => by omega
  | k + 1, j, h, hj => by
    unfold posIt at h
    split at h
    · rename_i hk
      by_cases e : j = k
      · rw [e]; exact hk
      · exact posIt_past l t k j h (by omega)
    · omega
theorem posIt_back (l : List ByteArray) (t : ByteArray) : ∀ k, 0 < posIt l t k → lessB t (wAt l (posIt l t k - 1)) = false
  | 0, h => by simp [posIt] at h
  | k + 1, h => by
    unfold posIt at h ⊢
    split
    · rename_i hk
      rw [if_pos hk] at h
      exact posIt_back l t k h
    · rename_i hk
      simpa using hk
theorem wAt_take (l : List ByteArray) (k i : Nat) (h : i < (l.take k).length) : (l.take k)[i] = wAt l i := by
  rw [List.length_take] at h
  rw [List.getElem_take, wAt_eq l i (by omega)]
theorem Rise.ins {l : List ByteArray} (h : Rise l) (t : ByteArray) : Rise (insL l t) := by
  unfold insL
  split
  · exact h
  · rename_i hn
    have hp : posI l t ≤ l.length := posIt_le l t l.length
    have h1 : ∀ x ∈ l.take (posI l t), lessB x t = true := by
      intro x hx
      obtain ⟨i, hi, rfl⟩ := List.getElem_of_mem hx
      rw [wAt_take]
      rw [List.length_take] at hi
      have hb : lessB (wAt l (posI l t - 1)) t = true :=
        lessB_tri (posIt_back l t l.length (by unfold posI at hi; omega)) (fun e => hn ⟨by unfold posI at hi ⊢; omega, e.symm⟩)
      by_cases e : i = posI l t - 1
      · rw [e]; exact hb
      · exact lessB_trans (h.at (show i < posI l t - 1 by omega) (by omega)) hb
    have h2 : ∀ x ∈ l.drop (posI l t), lessB t x = true := by
      intro x hx
      obtain ⟨i, hi, rfl⟩ := List.getElem_of_mem hx
      rw [List.length_drop] at hi
      rw [List.getElem_drop, wAt_eq l _ (by omega)]
      exact posIt_past l t l.length _ (by unfold posI; omega) (by omega)
    unfold Rise
    rw [List.append_assoc, List.pairwise_append, List.singleton_append, List.pairwise_cons]
    refine ⟨List.Pairwise.sublist (List.take_sublist _ _) h, ⟨h2, List.Pairwise.sublist (List.drop_sublist _ _) h⟩, ?_⟩
    intro x hx y hy
    rcases List.mem_cons.1 hy with rfl | hy
    · exact h1 x hx
    · exact lessB_trans (h1 x hx) (h2 y hy)
theorem insL_iff (l : List ByteArray) (t x : ByteArray) : x ∈ insL l t ↔ x ∈ l ∨ x = t := by
  refine ⟨insL_mem, fun h => ?_⟩
  have hp : posI l t ≤ l.length := posIt_le l t l.length
  unfold insL
  split
  · rename_i hy
    rcases h with h | rfl
    · exact h
    · have := wAt_mem l (posI l x - 1) (by unfold posI at *; omega)
      rwa [hy.2] at this
  · rw [List.append_assoc, List.mem_append, List.mem_append, List.mem_singleton]
    rcases h with h | rfl
    · rw [← List.take_append_drop (posI l t) l, List.mem_append] at h
      rcases h with h | h
      · exact .inl h
      · exact .inr (.inr h)
    · exact .inr (.inl rfl)
theorem Rise.fold : ∀ (l L : List ByteArray), Rise L → Rise (l.foldl insL L)
  | [], _, h => h
  | x :: l, L, h => Rise.fold l _ (h.ins x)
theorem fold_iff : ∀ (l L : List ByteArray) (x : ByteArray), x ∈ l.foldl insL L ↔ x ∈ L ∨ x ∈ l
  | [], L, x => by simp
  | y :: l, L, x => by
    rw [List.foldl_cons, fold_iff l, insL_iff, List.mem_cons, or_assoc]
theorem makeL_rise (l : List ByteArray) : Rise (makeL l) := Rise.fold l [] List.Pairwise.nil
theorem makeL_iff (l : List ByteArray) (x : ByteArray) : x ∈ makeL l ↔ x ∈ l := by
  unfold makeL
  rw [fold_iff]
  simp
theorem Rise.one : ∀ {l m : List ByteArray}, Rise l → Rise m → (∀ x, x ∈ l ↔ x ∈ m) → l = m
  | [], [], _, _, _ => rfl
  | [], y :: m, _, _, h => by have := (h y).2 (List.mem_cons_self ..); simp at this
  | x :: l, [], _, _, h => by have := (h x).1 (List.mem_cons_self ..); simp at this
  | x :: l, y :: m, h1, h2, h => by
    obtain ⟨a1, b1⟩ := List.pairwise_cons.1 h1
    obtain ⟨a2, b2⟩ := List.pairwise_cons.1 h2
    have no : ∀ p q, lessB p q = true → lessB q p = true → False := fun p q h k => by
      have := lessB_trans h k
      rw [lessB_self] at this
      cases this
    have e : x = y := by
      rcases List.mem_cons.1 ((h x).1 (List.mem_cons_self ..)) with e | e
      · exact e
      · rcases List.mem_cons.1 ((h y).2 (List.mem_cons_self ..)) with f | f
        · exact f.symm
        · exact (no _ _ (a2 x e) (a1 y f)).elim
    subst e
    congr 1
    refine Rise.one b1 b2 fun z => ⟨fun hz => ?_, fun hz => ?_⟩
    · rcases List.mem_cons.1 ((h z).1 (List.mem_cons_of_mem _ hz)) with e | e
      · subst e; exact (no _ _ (a1 z hz) (a1 z hz)).elim
      · exact e
    · rcases List.mem_cons.1 ((h z).2 (List.mem_cons_of_mem _ hz)) with e | e
      · subst e; exact (no _ _ (a2 z hz) (a2 z hz)).elim
      · exact e
theorem makeL_self {l : List ByteArray} (h : Rise l) : makeL l = l := Rise.one (makeL_rise l) h (makeL_iff l)
theorem makeL_append {a : List ByteArray} (h : Rise a) (b : List ByteArray) : makeL (a ++ b) = b.foldl insL a := by
  unfold makeL
  rw [List.foldl_append]
  congr 1
  exact makeL_self h
theorem lessB_data (p q : ByteArray) : lessB p q = decide (p.data.toList < q.data.toList) := by
  unfold lessB
  rw [Go.Proofs.bytesLess_eq, Lib.toList_data, Lib.toList_data]
theorem rawL_sorted {l : List ByteArray} (h : Rise l) : (rawL l).mergeSort (fun x y => decide (x ≤ y)) = rawL l := by
  refine List.mergeSort_of_pairwise ?_
  unfold rawL
  rw [List.pairwise_map]
  refine List.Pairwise.imp (fun {a b} h => ?_) h
  rw [lessB_data, decide_eq_true_eq] at h
  rw [decide_eq_true_eq]
  exact List.le_of_lt h
theorem rawL_nodup {l : List ByteArray} (h : Rise l) : (rawL l).Nodup := by
  unfold rawL List.Nodup
  rw [List.pairwise_map]
  refine List.Pairwise.imp (fun {a b} h e => ?_) h
  rw [lessB_data, e, decide_eq_true_eq] at h
  exact List.lt_irrefl _ h
theorem mem_rawL (l : List ByteArray) (x : List UInt8) : x ∈ rawL l ↔ (⟨x.toArray⟩ : ByteArray) ∈ l := by
  unfold rawL
  rw [List.mem_map]
  constructor
  · rintro ⟨s, hs, rfl⟩
    exact hs
  · intro h
    exact ⟨_, h, rfl⟩
end Go.Proofs.YtabljchbchjjcaaGreatDoor
end
