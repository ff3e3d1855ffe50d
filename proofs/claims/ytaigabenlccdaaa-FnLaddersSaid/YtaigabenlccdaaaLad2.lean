/- Ladders: what the search of the program knows at each moment. Plain. -/
import Derived.Test.YtaigabenlccdaaaLad
import Derived.Test.YtaigabenlccdaaaMg8
import Derived.Maps.OwnSet
namespace Go.Proofs.Ytaigabenlccdaaa
set_option linter.unusedVariables false
set_option linter.unusedSimpArgs false
open Go Go.RowKit Go.Sort
theorem sortW_rise {L M : List ByteArray} (h : L.Perm M) (hM : Rise M) : sortW L = M := by
  have hp : (rawL L).Perm (rawL M) := h.map _
  have e := mergeSort_of_perm hp
  have e2 := rawL_sorted hM
  unfold sortW
  rw [show (rawL L).mergeSort (fun x y => decide (x ≤ y)) = (rawL L).mergeSort leB from rfl, e, show (rawL M).mergeSort leB = (rawL M).mergeSort (fun x y => decide (x ≤ y)) from rfl, e2]
  unfold rawL
  rw [List.map_map]
  conv => rhs; rw [← List.map_id M]
  rfl
def ladV (l : List ByteArray) (b : Nat) (v : Int) (j : Nat) : ByteArray := if v = 0 then ⟨#[]⟩ else wAt l (par l b v j)
def stV (l : List ByteArray) (b d j : Nat) : ByteArray := ladV l b (if 0 ≤ lad l b d j then lad l b d j else ((d + 1 : Nat) : Int)) j
def stK (l : List ByteArray) (b d : Nat) (T : List Nat) (j : Nat) : Bool := decide (0 ≤ lad l b d j) || decide (j ∈ T)
/-- The new words, when q words of the level are through and the words before the k-th one for the next. -/
def Prog (l : List ByteArray) (b d q k : Nat) (T : List Nat) : Prop :=
  T.Nodup ∧ ∀ j, j ∈ T ↔ j < l.length ∧ lad l b d j < 0 ∧ (((lvl l b d).take q).any (fun i => nr l i j) = true ∨ (j < k ∧ ∃ i, (lvl l b d)[q]? = some i ∧ nr l i j = true))
theorem Prog.zero (l : List ByteArray) (b d : Nat) : Prog l b d 0 0 [] := ⟨List.nodup_nil, fun j => by simp⟩
theorem stK_no {l : List ByteArray} {b d : Nat} {T : List Nat} {j : Nat} (h : stK l b d T j = false) : lad l b d j < 0 ∧ ¬ j ∈ T := by
  unfold stK at h
  simp only [Bool.or_eq_false_iff, decide_eq_false_iff_not] at h
  exact ⟨by omega, h.2⟩
theorem Prog.yes {l : List ByteArray} {b d q k i : Nat} {T : List Nat} (h : Prog l b d q k T) (hi : (lvl l b d)[q]? = some i) (hk : k < l.length) (hK : stK l b d T k = false) (hn : nr l i k = true) : Prog l b d q (k + 1) (T ++ [k]) := by
  obtain ⟨h1, h2⟩ := h
  obtain ⟨k1, k2⟩ := stK_no hK
  refine ⟨?_, fun j => ?_⟩
  · rw [List.nodup_append]
    refine ⟨h1, by simp, ?_⟩
    intro x hx y hy
    rw [List.mem_singleton] at hy
    subst hy
    exact fun e => k2 (e ▸ hx)
  · rw [List.mem_append, List.mem_singleton, h2]
    constructor
    · rintro (⟨a1, a2, a3⟩ | rfl)
      · exact ⟨a1, a2, a3.imp id fun ⟨c1, c2⟩ => ⟨by omega, c2⟩⟩
      · exact ⟨hk, k1, .inr ⟨by omega, i, hi, hn⟩⟩
    · rintro ⟨a1, a2, a3 | ⟨c1, c2⟩⟩
      · exact .inl ⟨a1, a2, .inl a3⟩
      · by_cases e : j = k
        · exact .inr e
        · exact .inl ⟨a1, a2, .inr ⟨by omega, c2⟩⟩
theorem Prog.no {l : List ByteArray} {b d q k i : Nat} {T : List Nat} (h : Prog l b d q k T) (hi : (lvl l b d)[q]? = some i) (hn : stK l b d T k = true ∨ nr l i k = false) : Prog l b d q (k + 1) T := by
  obtain ⟨h1, h2⟩ := h
  refine ⟨h1, fun j => ?_⟩
  rw [h2]
  constructor
  · rintro ⟨a1, a2, a3⟩
    exact ⟨a1, a2, a3.imp id fun ⟨c1, c2⟩ => ⟨by omega, c2⟩⟩
  · rintro ⟨a1, a2, a3 | ⟨c1, i', e', n'⟩⟩
    · exact ⟨a1, a2, .inl a3⟩
    · by_cases e : j = k
      · subst e
        rw [hi] at e'
        cases e'
        rcases hn with hn | hn
        · unfold stK at hn
          simp only [Bool.or_eq_true, decide_eq_true_eq] at hn
          rcases hn with hn | hn
          · omega
          · exact (h2 j).1 hn
        · rw [hn] at n'; cases n'
      · exact ⟨a1, a2, .inr ⟨by omega, i', e', n'⟩⟩
theorem Prog.next {l : List ByteArray} {b d q : Nat} {T : List Nat} (h : Prog l b d q l.length T) (hq : q < (lvl l b d).length) : Prog l b d (q + 1) 0 T := by
  obtain ⟨h1, h2⟩ := h
  refine ⟨h1, fun j => ?_⟩
  rw [h2, List.take_succ_eq_append_getElem hq, List.any_append]
  have e : (lvl l b d)[q]? = some (lvl l b d)[q] := List.getElem?_eq_getElem hq
  constructor
  · rintro ⟨a1, a2, a3 | ⟨c1, i, e', n'⟩⟩
    · exact ⟨a1, a2, .inl (by rw [a3, Bool.true_or])⟩
    · rw [e] at e'
      cases e'
      exact ⟨a1, a2, .inl (by simp [n'])⟩
  · rintro ⟨a1, a2, a3 | ⟨c1, _⟩⟩
    · rw [Bool.or_eq_true] at a3
      rcases a3 with a3 | a3
      · exact ⟨a1, a2, .inl a3⟩
      · exact ⟨a1, a2, .inr ⟨a1, _, e, by simpa using a3⟩⟩
    · omega
theorem Prog.full {l : List ByteArray} {b d : Nat} {T : List Nat} (h : Prog l b d (lvl l b d).length 0 T) (j : Nat) : j ∈ T ↔ j < l.length ∧ lad l b d j < 0 ∧ lad l b (d + 1) j = ((d + 1 : Nat) : Int) := by
  rw [h.2, List.take_length, lad_succ]
  constructor
  · rintro ⟨a1, a2, a3 | ⟨c1, _⟩⟩
    · exact ⟨a1, a2, by rw [if_pos ⟨a2, a3⟩]⟩
    · omega
  · rintro ⟨a1, a2, a3⟩
    refine ⟨a1, a2, .inl ?_⟩
    split at a3
    · rename_i hc; exact hc.2
    · omega
theorem Prog.perm {l : List ByteArray} {b d : Nat} {T : List Nat} (h : Prog l b d (lvl l b d).length 0 T) : T.Perm (lvl l b (d + 1)) := by
  rw [List.perm_ext_iff_of_nodup h.1 (lvl_nodup l b (d + 1))]
  intro j
  rw [h.full, mem_lvl]
  constructor
  · rintro ⟨a1, _, a3⟩; exact ⟨a1, a3⟩
  · rintro ⟨a1, a3⟩
    refine ⟨a1, ?_, a3⟩
    have := (lad_at a3).2 (by omega)
    simpa using this.1
theorem Prog.known {l : List ByteArray} {b d : Nat} {T : List Nat} (h : Prog l b d (lvl l b d).length 0 T) {j : Nat} (hj : j < l.length) : stK l b d T j = stK l b (d + 1) [] j := by
  unfold stK
  rw [Bool.eq_iff_iff]
  simp only [Bool.or_eq_true, decide_eq_true_eq, List.not_mem_nil, or_false]
  rw [h.full]
  constructor
  · rintro (h1 | ⟨_, _, h1⟩)
    · rw [lad_keep h1]; exact h1
    · omega
  · intro h1
    by_cases h0 : 0 ≤ lad l b d j
    · exact .inl h0
    · right
      refine ⟨hj, by omega, ?_⟩
      rw [lad_succ] at h1 ⊢
      split
      · rfl
      · rename_i hc; rw [if_neg hc] at h1; omega
theorem stV_next {l : List ByteArray} {b d j : Nat} (h : 0 ≤ lad l b (d + 1) j) : stV l b (d + 1) j = stV l b d j := by
  unfold stV
  rw [if_pos h]
  by_cases h0 : 0 ≤ lad l b d j
  · rw [if_pos h0, lad_keep h0]
  · rw [if_neg h0]
    rw [lad_succ] at h ⊢
    split
    · rfl
    · rename_i hc; rw [if_neg hc] at h; exact absurd h h0
theorem Prog.par {l : List ByteArray} {b d q k i : Nat} {T : List Nat} (h : Prog l b d q k T) (hi : (lvl l b d)[q]? = some i) (hk : k < l.length) (hK : stK l b d T k = false) (hn : nr l i k = true) : stV l b d k = wAt l i := by
  obtain ⟨k1, k2⟩ := stK_no hK
  have hno : ((lvl l b d).take q).any (fun i => nr l i k) = false := by
    cases hc : ((lvl l b d).take q).any (fun i => nr l i k)
    · rfl
    · exact absurd ((h.2 k).2 ⟨hk, k1, .inl hc⟩) k2
  unfold stV ladV
  rw [if_neg (by omega), if_neg (by omega)]
  congr 1
  unfold Proofs.Ytaigabenlccdaaa.par
  rw [show (((d + 1 : Nat) : Int) - 1).toNat = d by omega]
  have hq : q < (lvl l b d).length := (List.getElem?_eq_some_iff.1 hi).1
  have e : lvl l b d = (lvl l b d).take q ++ i :: (lvl l b d).drop (q + 1) := by
    conv => lhs; rw [← List.take_append_drop q (lvl l b d), List.drop_eq_getElem_cons hq]
    rw [(List.getElem?_eq_some_iff.1 hi).2]
  rw [e, List.find?_append]
  have hf : ((lvl l b d).take q).find? (fun i => nr l i k) = none := by
    rw [List.find?_eq_none]
    intro x hx
    have := List.any_eq_false.1 hno x hx
    simpa using this
  rw [hf, Option.none_or]
  simp [List.find?_cons, hn]
theorem Prog.len {l : List ByteArray} {b d q k : Nat} {T : List Nat} (h : Prog l b d q k T) : T.length ≤ l.length := by
  have h1 : ((List.range l.length).filter fun j => decide (j ∈ T)).Perm T := by
    rw [List.perm_ext_iff_of_nodup (List.Nodup.sublist List.filter_sublist List.nodup_range) h.1]
    intro j
    rw [List.mem_filter, List.mem_range, decide_eq_true_eq]
    exact ⟨fun h => h.2, fun hj => ⟨((h.2 j).1 hj).1, hj⟩⟩
  have h2 := List.length_filter_le (fun j => decide (j ∈ T)) (List.range l.length)
  rw [h1.length_eq, List.length_range] at h2
  exact h2
/-- What a map says of the words. -/
def PMap (D : DataW Unit) (l : List ByteArray) (K : Nat → Bool) (V : Nat → ByteArray) : Prop :=
  Maps.IsMap D ∧ ∀ j, j < l.length → Maps.has D (.string (wAt l j).data.toList) = K j ∧ (K j = true → D.atKey (.string (wAt l j).data.toList) (.lit (.string [])) = .lit (.string (V j).data.toList))
theorem PMap.nil (l : List ByteArray) : PMap (.map []) l (fun _ => false) (fun _ => ⟨#[]⟩) := ⟨⟨[], rfl⟩, fun j hj => ⟨rfl, fun h => by cases h⟩⟩
theorem PMap.congr {D : DataW Unit} {l : List ByteArray} {K K' : Nat → Bool} {V V' : Nat → ByteArray} (h : PMap D l K V) (hK : ∀ j, j < l.length → K j = K' j) (hV : ∀ j, j < l.length → K' j = true → V j = V' j) : PMap D l K' V' :=
  ⟨h.1, fun j hj => ⟨by rw [← hK j hj]; exact (h.2 j hj).1, fun hk => by rw [← hV j hj hk]; exact (h.2 j hj).2 (by rw [hK j hj]; exact hk)⟩⟩
theorem wAt_inj2 {l : List ByteArray} (h : incB l = true) {i j : Nat} (hi : i < l.length) (hj : j < l.length) (e : wAt l i = wAt l j) : i = j := by
  rcases Nat.lt_trichotomy i j with hl | hl | hl
  · have := incB_lt h j hl hj
    rw [e, lessB_self] at this
    cases this
  · exact hl
  · have := incB_lt h i hl hi
    rw [e, lessB_self] at this
    cases this
theorem PMap.put {D : DataW Unit} {l : List ByteArray} {K : Nat → Bool} {V : Nat → ByteArray} (h : PMap D l K V) (hl : incB l = true) {k : Nat} (hk : k < l.length) (v : ByteArray) :
    PMap (D.put (.string (wAt l k).data.toList) (.lit (.string v.data.toList))) l (fun j => decide (j = k) || K j) (fun j => if j = k then v else V j) := by
  refine ⟨h.1.put _ _, fun j hj => ?_⟩
  by_cases e : j = k
  · subst e
    have hkl : WideAt.IsKeyLit (.string (wAt l j).data.toList) := trivial
    refine ⟨?_, fun _ => ?_⟩
    · show _ = (decide (j = j) || K j)
      rw [Maps.has_put_same h.1 hkl]; simp
    · show _ = DataW.lit (.string (if j = j then v else V j).data.toList)
      rw [Maps.atKey_put_same h.1 hkl, if_pos rfl]
  · have hne : (Lit.string (wAt l j).data.toList) ≠ .string (wAt l k).data.toList := fun he => by
      injection he with he
      exact e (wAt_inj2 hl hj hk (ByteArray.ext (Array.toList_inj.1 he)))
    refine ⟨?_, fun hK => ?_⟩
    · show _ = (decide (j = k) || K j)
      rw [Maps.has_put_other hne, (h.2 j hj).1]; simp [e]
    · show _ = DataW.lit (.string (if j = k then v else V j).data.toList)
      rw [Maps.atKey_put_other hne, if_neg e]
      exact (h.2 j hj).2 (by simpa [e] using hK)
end Go.Proofs.Ytaigabenlccdaaa
