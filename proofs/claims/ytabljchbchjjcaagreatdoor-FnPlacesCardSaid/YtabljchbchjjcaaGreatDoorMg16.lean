/- Several texts in one: Ch06c, Ins. Conditions: see each. -/
import Derived.Test.YtabljchbchjjcaaGreatDoorCh06a
import Derived.Test.YtabljchbchjjcaaGreatDoorCh06b
import Derived.Test.YtabljchbchjjcaaGreatDoorMg9
import Derived.Test.YtabljchbchjjcaaGreatDoorCh05a
import Derived.Test.YtabljchbchjjcaaGreatDoorApp0
section
namespace Go.Proofs.YtabljchbchjjcaaGreatDoor
set_option linter.unusedVariables false
set_option linter.unusedSimpArgs false
open Go Go.RowKit
end Go.Proofs.YtabljchbchjjcaaGreatDoor
end
section
namespace Go.Proofs.YtabljchbchjjcaaGreatDoor
set_option linter.unusedVariables false
set_option linter.unusedSimpArgs false
open Go Go.RowKit
/-- How many words stand before a word, looked for from the end. -/
def posIt (l : List ByteArray) (t : ByteArray) : Nat → Nat
  | 0 => 0
  | k + 1 => if lessB t (wAt l k) then posIt l t k else k + 1
def posI (l : List ByteArray) (t : ByteArray) : Nat := posIt l t l.length
theorem posIt_le (l : List ByteArray) (t : ByteArray) : ∀ k, posIt l t k ≤ k
  | 0 => Nat.le_refl _
  | k + 1 => by
    unfold posIt
    split
    · exact Nat.le_succ_of_le (posIt_le l t k)
    · exact Nat.le_refl _
def insL (l : List ByteArray) (t : ByteArray) : List ByteArray := if 0 < posI l t ∧ wAt l (posI l t - 1) = t then l else l.take (posI l t) ++ [t] ++ l.drop (posI l t)
theorem insL_length_le (l : List ByteArray) (t : ByteArray) : (insL l t).length ≤ l.length + 1 := by
  unfold insL
  split
  · omega
  · have := posIt_le l t l.length
    simp only [posI, List.length_append, List.length_take, List.length_drop, List.length_singleton]
    omega
theorem insL_mem {l : List ByteArray} {t x : ByteArray} (h : x ∈ insL l t) : x ∈ l ∨ x = t := by
  unfold insL at h
  split at h
  · exact .inl h
  · simp only [List.append_assoc, List.mem_append, List.mem_cons, List.not_mem_nil, or_false] at h
    rcases h with h | h | h
    · exact .inl (List.mem_of_mem_take h)
    · exact .inr h
    · exact .inl (List.mem_of_mem_drop h)
/-- An owned list of words, or the one that came in. -/
def InsR (a : Option Addr) (c : Nat) (l L : List ByteArray) (w : World) (e : Ending) (w' : World) : Prop :=
  ∃ a' c', e = .returned (.slice a' L.length c') ∧ ((a' = a ∧ c' = c ∧ L = l) ∨ Own w' w.heap.size 9 1 a' L.length c' (strsV L)) ∧ Ext w w'
theorem InsR.own {a : Option Addr} {c B : Nat} {l L : List ByteArray} {w w' : World} {e : Ending} (h : InsR a c l L w e w') (ho : Own w B 9 1 a l.length c (strsV l)) (hB : B ≤ w.heap.size) :
    ∃ a' c', e = .returned (.slice a' L.length c') ∧ Own w' B 9 1 a' L.length c' (strsV L) ∧ Ext w w' := by
  obtain ⟨a', c', he, h1, hx⟩ := h
  refine ⟨a', c', he, ?_, hx⟩
  rcases h1 with ⟨rfl, rfl, rfl⟩ | h1
  · exact ho.ext hx
  · exact h1.mono hB
theorem beq_toList {s t : ByteArray} : (s.toList == t.toList) = true ↔ s = t := by
  rw [beq_iff_eq]
  constructor
  · intro h
    rw [ByteArray.toList_eq, ByteArray.toList_eq] at h
    exact ByteArray.ext (Array.toList_inj.1 h)
  · exact fun h => by rw [h]
theorem Rd.drop {w : World} {b o : Nat} {l : List ByteArray} (h : Rd w (some ⟨b, o, none⟩) (strsV l)) (k : Nat) : Rd w (some ⟨b, o + k, none⟩) (strsV (l.drop k)) := by
  intro j u hj
  have hl : j < (l.drop k).length := by
    have := (List.getElem?_eq_some_iff.1 hj).1
    simpa [strsV] using this
  have hj' : (strsV l)[k + j]? = some u := by
    rw [← hj]
    simp [strsV, List.getElem?_drop]
  obtain ⟨b', o', ha, hc⟩ := h _ _ hj'
  cases ha
  exact ⟨b, o + k, rfl, by rw [Nat.add_assoc]; exact hc⟩
theorem Rd.take {w : World} {a : Option Addr} {l : List ByteArray} (h : Rd w a (strsV l)) (k : Nat) : Rd w a (strsV (l.take k)) := by
  intro j u hj
  have hl : j < (l.take k).length := by
    have := (List.getElem?_eq_some_iff.1 hj).1
    simpa [strsV] using this
  refine h j u ?_
  rw [← hj]
  rw [List.length_take] at hl
  simp only [strsV, List.getElem?_map, List.getElem?_take]
  rw [if_pos (by omega)]
theorem strsV_one {l : List ByteArray} : ∀ u ∈ strsV l, u.oneCell' = true := by
  intro u hu
  simp only [strsV, List.mem_map] at hu
  obtain ⟨x, _, rfl⟩ := hu
  rfl
set_option maxHeartbeats 2000000 in
theorem l03Insert_any (a : Option Addr) (c : Nat) (l : List ByteArray) (t : ByteArray) (w : World) (h : Rd w a (strsV l)) (hl : l.length ≤ 1000000) (hc : l.length ≤ c) :
    Calls Tryz.prog 28 #[.slice a l.length c, .string t] w (InsR a c l (insL l t) w) := by
  have HR := hid h
  have HP : Hid (posIt l t l.length = posI l t) := hid rfl
  have HS : Hid (∀ k, posIt l t (k + 1) = if lessB t (wAt l k) then posIt l t k else k + 1) := hid (fun k => rfl)
  have HI : Hid (insL l t = if 0 < posI l t ∧ wAt l (posI l t - 1) = t then l else l.take (posI l t) ++ [t] ++ l.drop (posI l t)) := hid rfl
  clear h
  go_enter Tryz.func28, Tryz.ntmps28
  go_wp2_with fail
  go_loopw [5] (fun i wr => ∃ k : Nat, k ≤ l.length ∧ i = .int .i64 k ∧ Hid (posIt l t k = posI l t) ∧ wr = w) (fun i _ => (intOf i).toNat)
  case atStart => exact ⟨l.length, by omega, rfl, HP, rfl⟩
  case round =>
    obtain ⟨k, hk, rfl, hp, rfl⟩ := hrel
    have fin : Hid (∀ k : Nat, k ≤ l.length → k = posI l t → (0 < k → ∃ s, wAt l (k - 1) = s) → True) := hid (fun _ _ _ _ => trivial)
    clear fin
    by_cases h0 : k = 0
    · subst h0
      have HK : Hid (posI l t = 0) := hid (by rw [← hp.out]; rfl)
      have HL : Hid (insL l t = [t] ++ l) := hid (by rw [HI.out, HK.out]; simp)
      clear hp
      by_cases hl0 : l.length = 0
      · obtain rfl : l = [] := List.eq_nil_of_length_eq_zero hl0
        clear hl0 HR
        by_cases hc0 : c = 0
        · subst hc0
          cases a with
          | none =>
            go_wp2_with (at_builtin; first
              | (refine wpList_appendm rfl _ _ 24 rfl El_str rfl rfl [] (Rd.nil _ _) (by simp) (by simp) (Own.empty _ (wr.heap.size + 1) _ _ _) (by simp) (by unfold maxLen; omega) (by omega) ?_; intro a2 c2 w3 hown2 hb2; have hz3 := hb2.size; simp only [World.size_alloc] at hz3; have HO := hid (show Own w3 (wr.heap.size + 1) 9 1 a2 0 c2 [] by simpa using hown2); clear hown2)
              | (refine wpList_push rfl _ _ 24 rfl El_str rfl [_] rfl rfl (by simp [Value.oneCell']) HO.out (by omega) (by unfold maxLen; omega) (by omega) ?_; intro a3 c3 w4 hown3 hb3; have hz4 := hb3.size; have HO3 := hid (show Own w4 (wr.heap.size + 1) 9 1 a3 1 c3 [.string t] by simpa using hown3); have HE3 := hid (((Ext.refl wr).alloc _).thenBelow (hb2.trans hb3) (by simp)); clear hown3)
              | (refine wpList_appendm rfl _ _ 24 rfl El_str rfl rfl [] (Rd.nil _ _) (by simp) (by simp) HO3.out (by omega) (by unfold maxLen; omega) (by omega) ?_; intro a4 c4 w5 hown4 hb4; have HO4 := hid (show Own w5 (wr.heap.size + 1) 9 1 a4 1 c4 [.string t] by simpa using hown4); have HE4 := hid (HE3.out.thenBelow hb4 (by omega)); clear hown4))
            go_returns
            exact ⟨a4, c4, by rw [HL.out]; rfl, .inr (by rw [HL.out]; exact HO4.out.mono (by omega)), HE4.out⟩
          | some ad =>
            obtain ⟨b, o, spot⟩ := ad
            go_wp2_with (at_builtin; first
              | (refine wpList_appendm rfl _ _ 24 rfl El_str rfl rfl [] (Rd.nil _ _) (by simp) (by simp) (Own.empty _ (wr.heap.size + 1) _ _ _) (by simp) (by unfold maxLen; omega) (by omega) ?_; intro a2 c2 w3 hown2 hb2; have hz3 := hb2.size; simp only [World.size_alloc] at hz3; have HO := hid (show Own w3 (wr.heap.size + 1) 9 1 a2 0 c2 [] by simpa using hown2); clear hown2)
              | (refine wpList_push rfl _ _ 24 rfl El_str rfl [_] rfl rfl (by simp [Value.oneCell']) HO.out (by omega) (by unfold maxLen; omega) (by omega) ?_; intro a3 c3 w4 hown3 hb3; have hz4 := hb3.size; have HO3 := hid (show Own w4 (wr.heap.size + 1) 9 1 a3 1 c3 [.string t] by simpa using hown3); have HE3 := hid (((Ext.refl wr).alloc _).thenBelow (hb2.trans hb3) (by simp)); clear hown3)
              | (refine wpList_appendm rfl _ _ 24 rfl El_str rfl rfl [] (Rd.nil _ _) (by simp) (by simp) HO3.out (by omega) (by unfold maxLen; omega) (by omega) ?_; intro a4 c4 w5 hown4 hb4; have HO4 := hid (show Own w5 (wr.heap.size + 1) 9 1 a4 1 c4 [.string t] by simpa using hown4); have HE4 := hid (HE3.out.thenBelow hb4 (by omega)); clear hown4))
            go_returns
            exact ⟨a4, c4, by rw [HL.out]; rfl, .inr (by rw [HL.out]; exact HO4.out.mono (by omega)), HE4.out⟩
        · cases a with
          | none =>
            go_wp2_with (at_builtin; first
              | (refine wpList_appendm rfl _ _ 24 rfl El_str rfl rfl [] (Rd.nil _ _) (by simp) (by simp) (Own.empty _ (wr.heap.size + 1) _ _ _) (by simp) (by unfold maxLen; omega) (by omega) ?_; intro a2 c2 w3 hown2 hb2; have hz3 := hb2.size; simp only [World.size_alloc] at hz3; have HO := hid (show Own w3 (wr.heap.size + 1) 9 1 a2 0 c2 [] by simpa using hown2); clear hown2)
              | (refine wpList_push rfl _ _ 24 rfl El_str rfl [_] rfl rfl (by simp [Value.oneCell']) HO.out (by omega) (by unfold maxLen; omega) (by omega) ?_; intro a3 c3 w4 hown3 hb3; have hz4 := hb3.size; have HO3 := hid (show Own w4 (wr.heap.size + 1) 9 1 a3 1 c3 [.string t] by simpa using hown3); have HE3 := hid (((Ext.refl wr).alloc _).thenBelow (hb2.trans hb3) (by simp)); clear hown3)
              | (refine wpList_appendm rfl _ _ 24 rfl El_str rfl rfl [] (Rd.nil _ _) (by simp) (by simp) HO3.out (by omega) (by unfold maxLen; omega) (by omega) ?_; intro a4 c4 w5 hown4 hb4; have HO4 := hid (show Own w5 (wr.heap.size + 1) 9 1 a4 1 c4 [.string t] by simpa using hown4); have HE4 := hid (HE3.out.thenBelow hb4 (by omega)); clear hown4))
            go_returns
            exact ⟨a4, c4, by rw [HL.out]; rfl, .inr (by rw [HL.out]; exact HO4.out.mono (by omega)), HE4.out⟩
          | some ad =>
            obtain ⟨b, o, spot⟩ := ad
            go_wp2_with (at_builtin; first
              | (refine wpList_appendm rfl _ _ 24 rfl El_str rfl rfl [] (Rd.nil _ _) (by simp) (by simp) (Own.empty _ (wr.heap.size + 1) _ _ _) (by simp) (by unfold maxLen; omega) (by omega) ?_; intro a2 c2 w3 hown2 hb2; have hz3 := hb2.size; simp only [World.size_alloc] at hz3; have HO := hid (show Own w3 (wr.heap.size + 1) 9 1 a2 0 c2 [] by simpa using hown2); clear hown2)
              | (refine wpList_push rfl _ _ 24 rfl El_str rfl [_] rfl rfl (by simp [Value.oneCell']) HO.out (by omega) (by unfold maxLen; omega) (by omega) ?_; intro a3 c3 w4 hown3 hb3; have hz4 := hb3.size; have HO3 := hid (show Own w4 (wr.heap.size + 1) 9 1 a3 1 c3 [.string t] by simpa using hown3); have HE3 := hid (((Ext.refl wr).alloc _).thenBelow (hb2.trans hb3) (by simp)); clear hown3)
              | (refine wpList_appendm rfl _ _ 24 rfl El_str rfl rfl [] (Rd.nil _ _) (by simp) (by simp) HO3.out (by omega) (by unfold maxLen; omega) (by omega) ?_; intro a4 c4 w5 hown4 hb4; have HO4 := hid (show Own w5 (wr.heap.size + 1) 9 1 a4 1 c4 [.string t] by simpa using hown4); have HE4 := hid (HE3.out.thenBelow hb4 (by omega)); clear hown4))
            go_returns
            exact ⟨a4, c4, by rw [HL.out]; rfl, .inr (by rw [HL.out]; exact HO4.out.mono (by omega)), HE4.out⟩
      · obtain ⟨b, o, rfl, hcs⟩ := HR.out.word (by omega)
        clear hcs
        by_cases hc0 : c = 0
        · omega
        go_wp2_with (at_builtin; first
          | (refine wpList_appendm rfl _ _ 24 rfl El_str rfl rfl [] (Rd.nil _ _) (by simp) (by simp) (Own.empty _ (wr.heap.size + 1) _ _ _) (by simp) (by unfold maxLen; omega) (by omega) ?_; intro a2 c2 w3 hown2 hb2; have hz3 := hb2.size; simp only [World.size_alloc] at hz3; have HO := hid (show Own w3 (wr.heap.size + 1) 9 1 a2 0 c2 [] by simpa using hown2); clear hown2)
          | (refine wpList_push rfl _ _ 24 rfl El_str rfl [_] rfl rfl (by simp [Value.oneCell']) HO.out (by omega) (by unfold maxLen; omega) (by omega) ?_; intro a3 c3 w4 hown3 hb3; have hz4 := hb3.size; have HO3 := hid (show Own w4 (wr.heap.size + 1) 9 1 a3 1 c3 [.string t] by simpa using hown3); have HE3 := hid (((Ext.refl wr).alloc _).thenBelow (hb2.trans hb3) (by simp)); clear hown3)
          | (refine wpList_appendm rfl _ _ 24 rfl El_str rfl rfl (strsV l) (HR.out.ext HE3.out) (by rw [strsV_length]; simp <;> omega) strsV_one HO3.out (by omega) (by unfold maxLen; omega) (by omega) ?_; intro a4 c4 w5 hown4 hb4; have HO4 := hid hown4; have HE4 := hid (HE3.out.thenBelow hb4 (by omega)); clear hown4))
        go_returns
        have hll : 1 + l.length = (insL l t).length := by rw [HL.out]; simp; omega
        exact ⟨a4, c4, by rw [← hll]; rfl, .inr (by rw [← hll, HL.out]; exact (by simpa [strsV] using HO4.out : Own w5 (wr.heap.size + 1) 9 1 a4 (1 + l.length) c4 (strsV ([t] ++ l))).mono (by omega)), HE4.out⟩
    · obtain ⟨q, rfl⟩ : ∃ q, k = q + 1 := ⟨k - 1, by omega⟩
      have hq : q < l.length := by omega
      obtain ⟨b, o, rfl, hcs⟩ := HR.out.word (by omega)
      have c1 := hcs q hq
      have e1 : ((q + 1 : Nat) : Int) - 1 = (q : Int) := by omega
      have e2 : ¬ ((q + 1 : Nat) : Int) ≤ 0 := by omega
      obtain ⟨s, hs⟩ : ∃ s, wAt l q = s := ⟨_, rfl⟩
      have HSS := hid hs
      rw [hs] at c1
      obtain ⟨p1, hp1⟩ : ∃ p1, o + q = p1 := ⟨_, rfl⟩
      rw [hp1] at c1
      clear hs
      by_cases hlt : Op.bytesLess t.toList s.toList = true
      · have HN : Hid (posIt l t q = posI l t) := hid (by
          rw [← hp.out, HS.out q]
          have : lessB t (wAt l q) = true := by rw [HSS.out]; exact hlt
          rw [if_pos this])
        obtain ⟨f1, f2⟩ := less_not hlt
        clear hcs hlt
        go_wp2_with fail
        go_roundw
        case rel => exact ⟨q, by omega, by go_num, HN, trivial⟩
        case measure => simp [intOf]
      · have hltf : Op.bytesLess t.toList s.toList = false := by simpa using hlt
        have HK : Hid (posI l t = q + 1) := hid (by
          rw [← hp.out, HS.out q]
          have : lessB t (wAt l q) = false := by rw [HSS.out]; exact hltf
          rw [if_neg (by rw [this]; decide)])
        have hor := less_or hltf
        clear hlt hp hltf
        by_cases heq : (s.toList == t.toList) = true
        · have HL : Hid (insL l t = l) := hid (by
            rw [HI.out, if_pos]
            rw [HK.out]
            exact ⟨by omega, by rw [Nat.add_sub_cancel, HSS.out]; exact beq_toList.1 heq⟩)
          clear hcs hor
          go_wp2_with fail
          go_returns
          exact ⟨_, c, by rw [HL.out]; rfl, .inl ⟨rfl, rfl, HL.out⟩, Ext.refl _⟩
        · have heqf : (s.toList == t.toList) = false := by simpa using heq
          have hsl : Op.bytesLess s.toList t.toList = true := by rw [heqf, Bool.or_false] at hor; exact hor
          clear hor
          have HL : Hid (insL l t = l.take (q + 1) ++ [t] ++ l.drop (q + 1)) := hid (by
            rw [HI.out, if_neg, HK.out]
            rw [HK.out, Nat.add_sub_cancel, HSS.out]
            exact fun h => heq (beq_toList.2 h.2))
          clear heq hcs
          have HT := hid (HR.out.take (q + 1))
          by_cases hcq : c = q + 1
          · have hdr : Hid (l.drop (q + 1) = []) := hid (List.drop_eq_nil_of_le (by omega))
            go_wp2_with (at_builtin; first
              | (refine wpList_appendm rfl _ _ 24 rfl El_str rfl rfl (strsV (l.take (q + 1))) (HT.out.ext ((Ext.refl _).alloc _)) (by rw [strsV_length]; simp <;> omega) strsV_one (Own.empty _ (wr.heap.size + 1) _ _ _) (by simp) (by unfold maxLen; omega) (by omega) ?_; intro a2 c2 w3 hown2 hb2; have hz3 := hb2.size; simp only [World.size_alloc] at hz3; have HO := hid (show Own w3 (wr.heap.size + 1) 9 1 a2 (q + 1) c2 (strsV (l.take (q + 1))) by simpa using hown2); clear hown2)
              | (refine wpList_push rfl _ _ 24 rfl El_str rfl [_] rfl rfl (by simp [Value.oneCell']) HO.out (by omega) (by unfold maxLen; omega) (by omega) ?_; intro a3 c3 w4 hown3 hb3; have hz4 := hb3.size; have HO3 := hid hown3; have HE3 := hid (((Ext.refl wr).alloc _).thenBelow (hb2.trans hb3) (by simp)); clear hown3)
              | (refine wpList_appendm rfl _ _ 24 rfl El_str rfl rfl (strsV (l.drop (q + 1))) (by rw [hdr.out]; exact Rd.nil _ _) (by rw [strsV_length]; simp <;> omega) strsV_one HO3.out (by omega) (by unfold maxLen; omega) (by omega) ?_; intro a4 c4 w5 hown4 hb4; have HO4 := hid hown4; have HE4 := hid (HE3.out.thenBelow hb4 (by omega)); clear hown4))
            go_returns
            have hll : q + 1 + 1 + (l.length - (q + 1)) = (insL l t).length := by rw [HL.out]; simp; omega
            exact ⟨a4, c4, by rw [← hll]; rfl, .inr (by rw [← hll, HL.out]; exact (by simpa [strsV] using HO4.out : Own w5 (wr.heap.size + 1) 9 1 a4 (q + 1 + 1 + (l.length - (q + 1))) c4 (strsV (l.take (q + 1) ++ [t] ++ l.drop (q + 1)))).mono (by omega)), HE4.out⟩
          · have HD := hid (HR.out.drop (q + 1))
            go_wp2_with (at_builtin; first
              | (refine wpList_appendm rfl _ _ 24 rfl El_str rfl rfl (strsV (l.take (q + 1))) (HT.out.ext ((Ext.refl _).alloc _)) (by rw [strsV_length]; simp <;> omega) strsV_one (Own.empty _ (wr.heap.size + 1) _ _ _) (by simp) (by unfold maxLen; omega) (by omega) ?_; intro a2 c2 w3 hown2 hb2; have hz3 := hb2.size; simp only [World.size_alloc] at hz3; have HO := hid (show Own w3 (wr.heap.size + 1) 9 1 a2 (q + 1) c2 (strsV (l.take (q + 1))) by simpa using hown2); clear hown2)
              | (refine wpList_push rfl _ _ 24 rfl El_str rfl [_] rfl rfl (by simp [Value.oneCell']) HO.out (by omega) (by unfold maxLen; omega) (by omega) ?_; intro a3 c3 w4 hown3 hb3; have hz4 := hb3.size; have HO3 := hid hown3; have HE3 := hid (((Ext.refl wr).alloc _).thenBelow (hb2.trans hb3) (by simp)); clear hown3)
              | (refine wpList_appendm rfl _ _ 24 rfl El_str rfl rfl (strsV (l.drop (q + 1))) (HD.out.ext HE3.out) (by rw [strsV_length]; simp <;> omega) strsV_one HO3.out (by omega) (by unfold maxLen; omega) (by omega) ?_; intro a4 c4 w5 hown4 hb4; have HO4 := hid hown4; have HE4 := hid (HE3.out.thenBelow hb4 (by omega)); clear hown4))
            go_returns
            have hll : q + 1 + 1 + (l.length - (q + 1)) = (insL l t).length := by rw [HL.out]; simp; omega
            exact ⟨a4, c4, by rw [← hll]; rfl, .inr (by rw [← hll, HL.out]; exact (by simpa [strsV] using HO4.out : Own w5 (wr.heap.size + 1) 9 1 a4 (q + 1 + 1 + (l.length - (q + 1))) c4 (strsV (l.take (q + 1) ++ [t] ++ l.drop (q + 1)))).mono (by omega)), HE4.out⟩
/-- A list of words of the call's own comes back. -/
def RetO (L : List ByteArray) (w : World) (e : Ending) (w' : World) : Prop := ∃ a c, e = .returned (.slice a L.length c) ∧ Own w' w.heap.size 9 1 a L.length c (strsV L) ∧ Ext w w'
def makeL (l : List ByteArray) : List ByteArray := l.foldl insL []
theorem foldl_take (l : List ByteArray) (k : Nat) (h : k < l.length) : (l.take (k + 1)).foldl insL [] = insL ((l.take k).foldl insL []) (wAt l k) := by
  rw [List.take_succ_eq_append_getElem h, List.foldl_append, wAt_eq l k h]
  rfl
theorem foldl_len (l : List ByteArray) (L : List ByteArray) : (l.foldl insL L).length ≤ L.length + l.length := by
  induction l generalizing L with
  | nil => simp
  | cons x l ih =>
    have h1 := ih (insL L x)
    have h2 := insL_length_le L x
    simp only [List.foldl_cons, List.length_cons]
    omega
theorem foldl_mem {l L : List ByteArray} {x : ByteArray} (h : x ∈ l.foldl insL L) : x ∈ L ∨ x ∈ l := by
  induction l generalizing L with
  | nil => exact .inl h
  | cons y l ih =>
    rcases ih h with h1 | h1
    · rcases insL_mem h1 with h2 | rfl
      · exact .inl h2
      · exact .inr (List.mem_cons_self ..)
    · exact .inr (List.mem_cons_of_mem _ h1)
end Go.Proofs.YtabljchbchjjcaaGreatDoor
end
