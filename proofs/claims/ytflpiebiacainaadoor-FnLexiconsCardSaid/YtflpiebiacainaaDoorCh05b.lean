/- Where a word stands in a lexicon. Conditions: at most 2^20 words, each of at most 2^20 bytes. -/
import Derived.Test.YtflpiebiacainaaDoorCh05a
import Derived.Test.YtflpiebiacainaaDoorShelfB
namespace Go.Proofs.YtflpiebiacainaaDoor
set_option linter.unusedVariables false
set_option linter.unusedSimpArgs false
open Go Go.RowKit
/-- The number of the first word that is not less. -/
def posL (l : List ByteArray) (x : ByteArray) : Nat := l.findIdx fun s => !lessB s x
def hasL (l : List ByteArray) (x : ByteArray) : Bool := decide (posL l x < l.length ∧ wAt l (posL l x) = x)
theorem posL_le (l : List ByteArray) (x : ByteArray) : posL l x ≤ l.length := List.findIdx_le_length
theorem posL_eq {l : List ByteArray} {x : ByteArray} {k : Nat} (hk : k ≤ l.length) (h1 : ∀ j, j < k → lessB (wAt l j) x = true) (h2 : k < l.length → lessB (wAt l k) x = false) : posL l x = k := by
  unfold posL
  by_cases hlt : k < l.length
  · rw [List.findIdx_eq hlt]
    refine ⟨by rw [wAt_eq l k hlt, h2 hlt]; rfl, fun j hj => ?_⟩
    rw [wAt_eq l j (by omega), h1 j hj]
    rfl
  · obtain rfl : k = l.length := by omega
    rw [List.findIdx_eq_length]
    intro y hy
    obtain ⟨j, hj, rfl⟩ := List.getElem_of_mem hy
    rw [wAt_eq l j hj, h1 j hj]
    rfl
theorem posL_before {l : List ByteArray} {x : ByteArray} {j : Nat} (h : j < posL l x) : lessB (wAt l j) x = true := by
  have hl := posL_le l x
  have := List.not_of_lt_findIdx h
  rw [wAt_eq l j (by omega)] at this
  simpa using this
theorem posL_at {l : List ByteArray} {x : ByteArray} (h : posL l x < l.length) : lessB (wAt l (posL l x)) x = false := by
  have : (fun s => !lessB s x) l[posL l x] = true := List.findIdx_getElem (w := h)
  rw [wAt_eq l _ h] at this
  simpa using this
theorem lessB_trans {p q r : ByteArray} (h : lessB p q = true) (k : lessB q r = true) : lessB p r = true := by
  unfold lessB at *
  rw [Go.Proofs.bytesLess_eq, decide_eq_true_eq] at *
  exact List.lt_trans h k
theorem lessB_self (p : ByteArray) : lessB p p = false := by
  unfold lessB
  rw [Go.Proofs.bytesLess_eq, decide_eq_false_iff_not]
  exact List.lt_irrefl _
theorem incB_at {l : List ByteArray} (h : incB l = true) {i : Nat} (hi : i + 1 < l.length) : lessB (wAt l i) (wAt l (i + 1)) = true := by
  unfold incB at h
  rw [List.all_eq_true] at h
  exact h i (List.mem_range.2 (by omega))
theorem incB_lt {l : List ByteArray} (h : incB l = true) {i : Nat} : ∀ j, i < j → j < l.length → lessB (wAt l i) (wAt l j) = true
  | 0, hj, _ => by omega
  | j + 1, hj, hl => by
    by_cases e : i = j
    · subst e; exact incB_at h hl
    · exact lessB_trans (incB_lt h j (by omega) (by omega)) (incB_at h hl)
theorem posL_after {l : List ByteArray} (h : incB l = true) {x : ByteArray} {j : Nat} (hj : posL l x ≤ j) (hl : j < l.length) : lessB (wAt l j) x = false := by
  by_cases e : posL l x = j
  · rw [← e]; exact posL_at (by omega)
  · cases hb : lessB (wAt l j) x
    · rfl
    · have := lessB_trans (incB_lt h j (show posL l x < j by omega) hl) hb
      rw [posL_at (by omega)] at this
      cases this
theorem bytes_beq (p q : ByteArray) : (p.toList == q.toList) = decide (p = q) := by
  rw [Bool.eq_iff_iff, beq_iff_eq, decide_eq_true_eq]
  constructor
  · intro h
    rw [Lib.toList_data, Lib.toList_data] at h
    cases p
    cases q
    exact congrArg ByteArray.mk (Array.toList_inj.1 h)
  · rintro rfl; rfl
theorem lexOk_inc {l : List ByteArray} (h : lexOk l = true) : incB l = true := by
  unfold lexOk at h
  simp only [Bool.and_eq_true] at h
  exact h.2.1
theorem lexOk_200 {l : List ByteArray} (h : lexOk l = true) : l.length ≤ 200 := by
  unfold lexOk at h
  simp only [Bool.and_eq_true, decide_eq_true_eq] at h
  exact h.1
theorem bs_pos {l : List ByteArray} (x : ByteArray) (h : incB l = true) : Lib.bsGo (fun t => Op.bytesLess ((fun t => if t < l.length then wAt l t else x) t).toList x.toList) l.length 0 l.length = posL l x := by
  refine Lib.bsGo_spec _ _ ?_ ?_ _ _ _ (by omega) (by omega) (posL_le l x)
  · intro t ht
    have := posL_le l x
    show lessB (if t < l.length then wAt l t else x) x = true
    rw [if_pos (by omega)]
    exact posL_before ht
  · intro t ht
    show lessB (if t < l.length then wAt l t else x) x = false
    split
    · exact posL_after h ht ‹_›
    · exact lessB_self x
set_option maxHeartbeats 400000 in
theorem BinarySearch_any (a : Option Addr) (c : Nat) (l : List ByteArray) (x : ByteArray) (w : World) (h : Rd w a (strsV l)) (hl : l.length ≤ 1048576) (hi : incB l = true) :
    Calls Tryd.prog 27 #[.slice a l.length c, .string x] w fun e w' => e = .returned (.tuple #[.int .i64 (posL l x), .bool (hasL l x)]) ∧ Dr w w' := by
  by_cases hn : 0 < l.length
  · obtain ⟨b, o, rfl, hc⟩ := h.word hn
    refine (Any2.slices_BinarySearch_string Tryd.laysB26 b o l.length c (fun t => if t < l.length then wAt l t else x) x w (by omega) (fun j hj => by rw [hc j hj, if_pos hj])).mono ?_
    rintro e w' ⟨rfl, hD⟩
    rw [bs_pos x hi]
    refine ⟨?_, hD⟩
    have e : decide (posL l x < l.length ∧ (if posL l x < l.length then wAt l (posL l x) else x) = x) = hasL l x := by
      unfold hasL
      rw [decide_eq_decide]
      constructor
      · rintro ⟨h1, h2⟩
        rw [if_pos h1] at h2
        exact ⟨h1, h2⟩
      · rintro ⟨h1, h2⟩
        rw [if_pos h1]
        exact ⟨h1, h2⟩
    rw [← e]
  · have e : l = [] := List.eq_nil_of_length_eq_zero (by omega)
    subst e
    refine (Any2.slices_BinarySearch_string_empty Tryd.laysB26 a c x w).mono ?_
    rintro e w' ⟨rfl, rfl⟩
    exact ⟨rfl, Dr.refl _⟩
set_option maxHeartbeats 400000 in
theorem has_any (a : Option Addr) (c : Nat) (l : List ByteArray) (x : ByteArray) (w : World) (h : Rd w a (strsV l)) (hl : l.length ≤ 1048576) (hi : incB l = true) :
    Calls Tryd.prog 26 #[lexV a l.length c, .string x] w (Ret (.bool (hasL l x)) w) := by
  have HR := hid (h.ext ((Ext.refl w).alloc (.cells #[.slice a l.length c] 26)))
  have HI := hid hi
  clear h hi
  go_enter Tryd.func26, Tryd.ntmps26
  go_wp2_with fail
  refine (BinarySearch_any a c l x _ HR.out hl HI.out).mono ?_
  rintro e w1 ⟨rfl, hD⟩
  go_wp2_with fail
  go_returns
  exact ⟨rfl, ((Ext.refl w).alloc _).trans hD.ext⟩
def hasWordB (l : List ByteArray) (x : ByteArray) : Bool := lexOk l && hasL l x
set_option maxHeartbeats 400000 in
theorem HasWord_any (a : Option Addr) (c : Nat) (l : List ByteArray) (p : ByteArray) (w : World) (h : Rd w a (strsV l)) (hl : l.length ≤ 1048576) (hs : ∀ s ∈ l, s.size ≤ 1048576) :
    Calls Tryd.prog 13 #[lexV a l.length c, .string p] w (Ret (.bool (hasWordB l p)) w) := by
  have H : Hid (hasWordB l p = (lexOk l && hasL l p)) := hid rfl
  have HR : Hid (∀ w', Ext w w' → Rd w' a (strsV l)) := hid (fun w' k => h.ext k)
  clear h
  go_enter Tryd.func13, Tryd.ntmps13
  go_wp2_with fail
  refine (ValidLexicon_any a c l _ (HR.out _ ((Ext.refl w).alloc _)) hl hs).mono ?_
  rintro e w1 ⟨rfl, hx⟩
  have b0 := hx.cell (b := w.heap.size) (o := 0) (v := .slice a l.length c) (by simp)
  have hE := ((Ext.refl w).alloc _).trans hx
  clear hx
  cases h1 : lexOk l
  · have L1 := hid h1
    go_wp2_with fail
    go_returns
    exact ⟨ret_bool (by rw [H.out, L1.out]; rfl), hE⟩
  · have L1 := hid h1
    have LI := hid (lexOk_inc h1)
    clear h1
    go_wp2_with fail
    refine (has_any a c l p _ (HR.out _ hE) hl LI.out).mono ?_
    rintro e w2 ⟨rfl, hx⟩
    go_wp2_with fail
    go_returns
    exact ⟨ret_bool (by rw [H.out, L1.out]; rfl), hE.trans hx⟩
end Go.Proofs.YtflpiebiacainaaDoor
