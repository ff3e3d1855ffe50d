/- What FnLexicons asks of lists of words. Plain. Conditions: valid lexicons. -/
import Derived.Test.YtflpiebiacainaaDoorLexT
import Derived.Test.YtflpiebiacainaaDoorDrawA
import Derived.Test.YtflpiebiacainaaDoorCh05i
namespace Go.Proofs.YtflpiebiacainaaDoor
set_option linter.unusedVariables false
set_option linter.unusedSimpArgs false
open Go Go.RowKit
/-- Each word twice, from the last one back to a place. -/
def bkL (l : List ByteArray) (k : Nat) : List ByteArray := (l.drop k).reverse.flatMap fun s => [s, s]
theorem bkL_end (l : List ByteArray) : bkL l l.length = [] := by simp [bkL]
theorem bkL_step {l : List ByteArray} {k : Nat} (h : k < l.length) : bkL l k = bkL l (k + 1) ++ [wAt l k, wAt l k] := by
  unfold bkL
  rw [List.drop_eq_getElem_cons h, List.reverse_cons, List.flatMap_append, wAt_eq l k h]
  rfl
theorem bkL_mem {l : List ByteArray} {x : ByteArray} : x ∈ bkL l 0 ↔ x ∈ l := by
  simp [bkL]
theorem bkL_len (l : List ByteArray) (k : Nat) : (bkL l k).length = 2 * (l.length - k) := by
  unfold bkL
  have : ∀ m : List ByteArray, (m.flatMap fun s => [s, s]).length = 2 * m.length := by
    intro m
    induction m with
    | nil => rfl
    | cons a m ih => rw [List.flatMap_cons, List.length_append, ih]; simp; omega
  rw [this]
  simp
/-- A lexicon made of its own words again. -/
theorem make_back {l : List ByteArray} (hr : Rise l) (h200 : l.length ≤ 200) (hw : ∀ s ∈ l, longOk s = true) : makC (bkL l 0) = 0 ∧ makX (bkL l 0) = l := by
  have e : makeL (bkL l 0) = l := Rise.one (makeL_rise _) hr fun x => by rw [makeL_iff, bkL_mem]
  have h1 : (bkL l 0).all longOk = true := List.all_eq_true.2 fun s hs => hw s (bkL_mem.1 hs)
  have h2 : makC (bkL l 0) = 0 := by
    unfold makC
    rw [h1, e, if_pos rfl, if_neg (by omega)]
  refine ⟨h2, ?_⟩
  unfold makX
  rw [if_pos h2, e]
theorem inAt_length (l : List ByteArray) (p : Nat) (x : ByteArray) (h : p ≤ l.length) : (inAt l p x).length = l.length + 1 := by
  simp [inAt]; omega
theorem wAt_inAt_lt {l : List ByteArray} {p j : Nat} {x : ByteArray} (h : p ≤ l.length) (hj : j < p) : wAt (inAt l p x) j = wAt l j := by
  rw [← wAt_eq _ j (by rw [inAt_length l p x h]; omega), ← wAt_eq l j (by omega)]
  simp only [inAt]
  rw [List.getElem_append_left (by simp; omega), List.getElem_append_left (by simp; omega), List.getElem_take]
theorem wAt_inAt_eq {l : List ByteArray} {p : Nat} {x : ByteArray} (h : p ≤ l.length) : wAt (inAt l p x) p = x := by
  rw [← wAt_eq _ p (by rw [inAt_length l p x h]; omega)]
  have hl : (l.take p).length = p := by rw [List.length_take]; omega
  simp only [inAt]
  rw [List.getElem_append_left (by simp; omega), List.getElem_append_right (by rw [hl]; exact Nat.le_refl _)]
  simp [hl]
/-- A word that is added. -/
theorem added {l : List ByteArray} {y : ByteArray} (hr : Rise l) (h16 : l.length ≤ 16) (hw : ∀ s ∈ l, longOk s = true) (hy : longOk y = true) (hh : hasL l y = false) :
    lexOk (inAt l (posL l y) y) = true ∧ posL (inAt l (posL l y) y) y = posL l y ∧ hasL (inAt l (posL l y) y) y = true ∧ cutAt (inAt l (posL l y) y) (posL l y) = l := by
  have hp := posL_le l y
  have hins := insL_new hr.inc hh
  have hr2 : Rise (inAt l (posL l y) y) := by rw [← hins]; exact hr.ins y
  have hlen := inAt_length l (posL l y) y hp
  have hpos : posL (inAt l (posL l y) y) y = posL l y := posL_eq (by omega) (fun j hj => by rw [wAt_inAt_lt hp hj]; exact posL_before hj) (fun _ => by rw [wAt_inAt_eq hp]; exact lessB_self y)
  refine ⟨?_, hpos, ?_, cutAt_inAt hp⟩
  · have h4 : (inAt l (posL l y) y).all longOk = true := List.all_eq_true.2 fun s hs => by
      simp only [inAt, List.mem_append, List.mem_singleton] at hs
      rcases hs with (hs | rfl) | hs
      · exact hw s (List.mem_of_mem_take hs)
      · exact hy
      · exact hw s (List.mem_of_mem_drop hs)
    unfold lexOk
    simp only [Bool.and_eq_true, decide_eq_true_eq]
    exact ⟨by omega, hr2.inc, h4⟩
  · unfold hasL
    rw [hpos, wAt_inAt_eq hp]
    simp only [decide_eq_true_eq]
    exact ⟨by omega, trivial⟩
/-- The first byte. -/
def hdB (s : ByteArray) : UInt8 := bAt s 0
theorem hd_cons {s : ByteArray} (h : 0 < s.size) : ∃ r, s.data.toList = hdB s :: r := by
  have hl : 0 < s.data.toList.length := by rw [list_len]; exact h
  obtain ⟨a, r, e⟩ := List.exists_cons_of_length_pos hl
  refine ⟨r, ?_⟩
  have : hdB s = a := by unfold hdB bAt; rw [e]; rfl
  rw [this, e]
theorem one_list (c : UInt8) : (⟨#[c]⟩ : ByteArray).data.toList = [c] := rfl
theorem less_hd {s : ByteArray} {c : UInt8} (h : 0 < s.size) : lessB s ⟨#[c]⟩ = decide (hdB s < c) := by
  obtain ⟨r, e⟩ := hd_cons h
  rw [lessB_data, e, one_list, decide_eq_decide, List.cons_lt_cons_iff]
  constructor
  · rintro (k | ⟨_, k⟩)
    · exact k
    · exact absurd k (List.not_lt_nil _)
  · exact fun k => .inl k
theorem prefix_hd {s : ByteArray} {c : UInt8} (h : 0 < s.size) : Lib.hasPrefix s.data.toList (⟨#[c]⟩ : ByteArray).data.toList = (hdB s == c) := by
  obtain ⟨r, e⟩ := hd_cons h
  rw [e, one_list]
  show (c == hdB s && ([] : List UInt8).isPrefixOf r) = (hdB s == c)
  rw [List.isPrefixOf_nil_left, Bool.and_true, Bool.eq_iff_iff, beq_iff_eq, beq_iff_eq]
  exact ⟨fun h => h.symm, fun h => h.symm⟩
theorem hd_mono {s t : ByteArray} (hs : 0 < s.size) (ht : 0 < t.size) (h : lessB s t = true) : hdB s ≤ hdB t := by
  obtain ⟨r, e⟩ := hd_cons hs
  obtain ⟨q, e2⟩ := hd_cons ht
  rw [lessB_data, e, e2, decide_eq_true_eq, List.cons_lt_cons_iff] at h
  rcases h with k | ⟨k, _⟩
  · rw [UInt8.lt_iff_toNat_lt] at k
    rw [UInt8.le_iff_toNat_le]
    omega
  · rw [k, UInt8.le_iff_toNat_le]
    exact Nat.le_refl _
theorem runP_in {l : List ByteArray} {x : ByteArray} {p : Nat} : ∀ i, p ≤ i → i < p + runP l x p → Lib.hasPrefix (wAt l i).data.toList x.data.toList = true := by
  intro i h1 h2
  obtain ⟨j, rfl⟩ : ∃ j, i = p + j := ⟨i - p, by omega⟩
  have hj : j < runP l x p := by omega
  have hle := runP_le l x p
  unfold runP at hj
  have hm := List.getElem_mem hj
  have hall := List.all_takeWhile (p := fun s : ByteArray => Lib.hasPrefix s.data.toList x.data.toList) (l := l.drop p)
  have h3 := List.all_eq_true.1 hall _ hm
  have hpre := List.takeWhile_prefix (l := l.drop p) (fun s : ByteArray => Lib.hasPrefix s.data.toList x.data.toList)
  have e : ((l.drop p).takeWhile fun s : ByteArray => Lib.hasPrefix s.data.toList x.data.toList)[j] = wAt l (p + j) := by
    rw [hpre.getElem hj, List.getElem_drop, wAt_eq]
  rw [e] at h3
  exact h3
theorem runP_out {l : List ByteArray} {x : ByteArray} {p : Nat} (h : p + runP l x p < l.length) : Lib.hasPrefix (wAt l (p + runP l x p)).data.toList x.data.toList = false := by
  have key : ∀ (n p : Nat), l.length - p = n → p + runP l x p < l.length → Lib.hasPrefix (wAt l (p + runP l x p)).data.toList x.data.toList = false := by
    intro n
    induction n with
    | zero => intro p h1 h2; omega
    | succ n ih =>
      intro p h1 h2
      cases hb : Lib.hasPrefix (wAt l p).data.toList x.data.toList
      · rw [runP_stop (fun _ => hb), Nat.add_zero]
        exact hb
      · have e := runP_go (k := p) (by omega) hb
        rw [e] at h2 ⊢
        rw [show p + (runP l x (p + 1) + 1) = p + 1 + runP l x (p + 1) by omega] at h2 ⊢
        exact ih (p + 1) (by omega) h2
  exact key _ p rfl h
/-- Just the words from the first place on begin with the letter. -/
theorem range_hd {l : List ByteArray} (hr : Rise l) (hw : ∀ s ∈ l, longOk s = true) (c : UInt8) (i : Nat) (hi : i < l.length) :
    (hdB (wAt l i) = c) ↔ (posL l ⟨#[c]⟩ ≤ i ∧ i < posL l ⟨#[c]⟩ + runP l ⟨#[c]⟩ (posL l ⟨#[c]⟩)) := by
  have hpos : ∀ j, j < l.length → 0 < (wAt l j).size := fun j hj => by have := (long_size (hw _ (wAt_mem l j hj))).1; omega
  obtain ⟨p, hp⟩ : ∃ p, posL l ⟨#[c]⟩ = p := ⟨_, rfl⟩
  rw [hp]
  constructor
  · intro e
    have hpi : p ≤ i := by
      by_cases h : i < p
      · have h1 : lessB (wAt l i) ⟨#[c]⟩ = true := posL_before (by rw [hp]; exact h)
        rw [less_hd (hpos i hi), decide_eq_true_eq, e] at h1
        exact absurd h1 (by rw [UInt8.lt_iff_toNat_lt]; omega)
      · omega
    refine ⟨hpi, ?_⟩
    by_cases h : i < p + runP l ⟨#[c]⟩ p
    · exact h
    · exfalso
      obtain ⟨q, hq⟩ : ∃ q, p + runP l ⟨#[c]⟩ p = q := ⟨_, rfl⟩
      have h1 := runP_out (l := l) (x := ⟨#[c]⟩) (p := p) (by omega)
      rw [hq] at h1 h
      have hql : q < l.length := by omega
      rw [prefix_hd (hpos q hql), beq_eq_false_iff_ne] at h1
      have h2 : lessB (wAt l q) ⟨#[c]⟩ = false := posL_after hr.inc (by rw [hp]; omega) hql
      rw [less_hd (hpos q hql), decide_eq_false_iff_not] at h2
      by_cases hqi : q = i
      · subst hqi; exact h1 e
      · have h3 := hd_mono (hpos q hql) (hpos i hi) (incB_lt hr.inc i (by omega) hi)
        rw [e, UInt8.le_iff_toNat_le] at h3
        rw [UInt8.lt_iff_toNat_lt] at h2
        exact h1 (UInt8.toNat_inj.1 (by omega))
  · rintro ⟨h1, h2⟩
    have h3 := runP_in i h1 h2
    rw [prefix_hd (hpos i hi), beq_iff_eq] at h3
    exact h3
end Go.Proofs.YtflpiebiacainaaDoor
