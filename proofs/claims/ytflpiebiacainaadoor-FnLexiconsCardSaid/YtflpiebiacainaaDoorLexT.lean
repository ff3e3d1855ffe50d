/- The text of a lexicon, and the lexicon read from it. Conditions: valid lexicons. -/
import Derived.Test.YtflpiebiacainaaDoorSplM
import Derived.Test.YtflpiebiacainaaDoorCh05m
import Derived.Test.YtflpiebiacainaaDoorReplL
import Derived.Test.YtflpiebiacainaaDoorBld
import Derived.Test.YtflpiebiacainaaDoorShelfT
import Derived.Test.YtflpiebiacainaaDoorShelfU
namespace Go.Proofs.YtflpiebiacainaaDoor
set_option linter.unusedVariables false
set_option linter.unusedSimpArgs false
open Go Go.RowKit
def textX (l : List ByteArray) : ByteArray := ofL (unl 10 l)
theorem unl_append (c : UInt8) (a b : List ByteArray) : unl c (a ++ b) = unl c a ++ unl c b := by simp [unl]
theorem unl_one (c : UInt8) (a : ByteArray) : unl c [a] = a.data.toList ++ [c] := by simp [unl]
theorem unl_len {c : UInt8} {l : List ByteArray} {b : Nat} (h : ∀ s ∈ l, s.size ≤ b) : (unl c l).length ≤ l.length * (b + 1) := by
  induction l with
  | nil => simp [unl]
  | cons s l ih =>
    have h1 := ih (fun x hx => h x (List.mem_cons_of_mem _ hx))
    have h2 := h s (by simp)
    have e : unl c (s :: l) = s.data.toList ++ [c] ++ unl c l := by simp [unl]
    have e2 : (s :: l).length * (b + 1) = l.length * (b + 1) + (b + 1) := by rw [List.length_cons, Nat.add_mul, Nat.one_mul]
    rw [e, List.length_append, List.length_append, list_len, e2]
    simp only [List.length_cons, List.length_nil]
    omega
theorem lex_word {l : List ByteArray} (hk : lexOk l = true) : ∀ s ∈ l, longOk s = true := by
  unfold lexOk at hk
  simp only [Bool.and_eq_true, decide_eq_true_eq] at hk
  exact fun s hs => List.all_eq_true.1 hk.2.2 s hs
theorem long_size {s : ByteArray} (h : longOk s = true) : 2 ≤ s.size ∧ s.size ≤ 12 := by
  unfold longOk wordOk at h
  simp only [Bool.and_eq_true, decide_eq_true_eq] at h
  omega
theorem long_no10 {s : ByteArray} (h : longOk s = true) : ∀ u ∈ s.data.toList, u ≠ 10 := by
  unfold longOk wordOk at h
  simp only [Bool.and_eq_true, decide_eq_true_eq] at h
  intro u hu e
  subst e
  have := List.all_eq_true.1 h.2.2 _ hu
  exact absurd this (by decide)
theorem suffixL (X : List UInt8) : Lib.hasSuffix (X ++ [10]) [10] = true ∧ Lib.trimSuffix (X ++ [10]) [10] = X := by
  have h : Lib.hasSuffix (X ++ [10]) [10] = true := by simp [Lib.hasSuffix]
  refine ⟨h, ?_⟩
  unfold Lib.trimSuffix
  rw [if_pos h]
  simp
/-- What is cut from a lexicon's text. -/
theorem textX_cut {l : List ByteArray} (hk : lexOk l = true) (hn : l ≠ []) : ∃ X : List UInt8, (textX l).data.toList = X ++ [10] ∧ splitC 10 (ofL X) = l := by
  obtain ⟨X, hX⟩ : ∃ X : List UInt8, unl 10 l = X ++ [10] := by
    obtain ⟨r, s, rfl⟩ : ∃ r s, l = r ++ [s] := ⟨_, _, (List.dropLast_concat_getLast hn).symm⟩
    exact ⟨unl 10 r ++ s.data.toList, by rw [unl_append, unl_one, List.append_assoc]⟩
  refine ⟨X, hX, ?_⟩
  have h := splitC_unl 10 l (fun s hs => long_no10 (lex_word hk s hs))
  have e : ofL (unl 10 l) = ofL ((ofL X).data.toList ++ [10]) := by rw [hX]; rfl
  rw [e, splitC_snoc] at h
  exact List.append_cancel_right h
theorem textX_ne {l : List ByteArray} (hn : l ≠ []) : (textX l).toList.isEmpty = false := by
  rw [← Bool.not_eq_true, List.isEmpty_iff, ByteArray.toList_eq]
  intro e
  obtain ⟨s, r, rfl⟩ := List.exists_cons_of_ne_nil hn
  have : (textX (s :: r)).data.toList = unl 10 (s :: r) := rfl
  rw [this] at e
  simp [unl] at e
set_option maxHeartbeats 1600000 in
theorem LexiconText_yes (a : Option Addr) (c : Nat) (l : List ByteArray) (w : World) (h : Rd w a (strsV l)) (hk : lexOk l = true) :
    Calls Tryd.prog 9 #[lexV a l.length c] w (Ret (.string (textX l)) w) := by
  have h200 := lexOk_200 hk
  have hsz : ∀ s ∈ l, s.size ≤ 12 := fun s hs => (long_size (lex_word hk s hs)).2
  have hx0 := (Ext.refl w).alloc (.cells #[.slice a l.length c] 26)
  have HV := hid (ValidLexicon_any a c l _ (h.ext hx0) (by omega) (fun s hs => by have := hsz s hs; omega))
  have HR : Hid (∀ w', Ext w w' → Rd w' a (strsV l)) := hid (fun w' k => h.ext k)
  have HSz : Hid (∀ k, k < l.length → (wAt l k).size ≤ 12) := hid (fun k hk => hsz _ (wAt_mem l k hk))
  have HLn : Hid (∀ k, k ≤ l.length → (unl 10 (l.take k)).length ≤ 2600) := hid (fun k hk => by
    have := unl_len (c := 10) (l := l.take k) (b := 12) (fun s hs => hsz s (List.mem_of_mem_take hs))
    rw [List.length_take] at this
    have h2 : min k l.length * 13 ≤ 200 * 13 := Nat.mul_le_mul_right _ (by omega)
    omega)
  have HT : Hid (∀ k, k < l.length → unl 10 (l.take (k + 1)) = unl 10 (l.take k) ++ ((wAt l k).data.toList ++ [10])) := hid (fun k hk => by
    rw [List.take_succ_eq_append_getElem hk, unl_append, unl_one, wAt_eq l k hk])
  have HX : Hid (textX l = ⟨(unl 10 (l.take l.length)).toArray⟩) := hid (by rw [List.take_length]; rfl)
  rw [hk] at HV
  clear h hk hsz
  go_enter Tryd.func9, Tryd.ntmps9
  go_wp2_with fail
  refine HV.out.mono ?_
  rintro e w1 ⟨rfl, hE⟩
  have b0 := hE.cell (b := w.heap.size) (o := 0) (v := .slice a l.length c) (by simp)
  have hE1 := hx0.trans hE
  have hlb := World.block_lt_of_cell? _ _ b0
  clear hE HV hx0
  go_wp2_with fail
  go_loopw [12] (fun v wr => ∃ k : Nat, k ≤ l.length ∧ v = .int .i64 (k : Int) ∧ Hid (Lib.IsBuilderF 52 5 w1.heap.size w1.heap.size (Lib.byteCells (unl 10 (l.take k))) wr) ∧ Ext w1 wr ∧ w1.heap.size < wr.heap.size) (fun v _ => l.length - (intOf v).toNat)
  case atStart => exact ⟨0, by omega, rfl, hid (Lib.IsBuilderF.of (by simpa [unl, Lib.byteCells] using Lib.fresh_isBuilder 52 5 w1)), (Ext.refl _).alloc _, by simp⟩
  case round =>
    obtain ⟨k, hkl, rfl, hb, hx, hsz⟩ := hrel
    have hE := hE1.trans hx
    by_cases hlt : k < l.length
    · obtain ⟨b, o, rfl, hc⟩ := (HR.out _ hE).word (by omega)
      have ck := hc k hlt
      have HSk := hid (HSz.out k hlt)
      have HTk := hid (HT.out k hlt)
      obtain ⟨s, hs⟩ : ∃ s, wAt l k = s := ⟨_, rfl⟩
      rw [hs] at ck HSk HTk
      obtain ⟨q, hq⟩ : ∃ q, o + k = q := ⟨_, rfl⟩
      rw [hq] at ck
      have hno : ¬ 9223372036854775807 < s.size + 1 := by have := HSk.out; omega
      obtain ⟨y, hy⟩ : ∃ y : ByteArray, s ++ (⟨#[10]⟩ : ByteArray) = y := ⟨_, rfl⟩
      have HY : Hid (y.data.toList = s.data.toList ++ [10]) := hid (by rw [← hy, ByteArray.data_append, Array.toList_append])
      have hys : y.size ≤ 13 := by rw [← hy, ByteArray.size_append]; have := HSk.out; show s.size + 1 ≤ 13; omega
      clear hc hs
      go_wp2_with fail
      refine (Any.Builder_WriteString_k Tryd.laysH166 Tryd.Builder_Extra_H166 w1.heap.size w1.heap.size _ y _ hb.out (by rw [Lib.byteCells_length]; have := HLn.out k hkl; omega) (by omega)).mono ?_
      rintro e w2 ⟨rfl, hb2, hbel, -⟩
      have HB2 := hid hb2
      have hs2 := hbel.size
      clear hb2 hb ck
      go_wp2_with fail
      go_roundw
      case rel =>
        refine ⟨k + 1, by omega, by go_num, hid ?_, hx.thenBelow hbel (Nat.le_refl _), by omega⟩
        rw [HTk.out, ← HY.out, Lib.byteCells, List.map_append]
        exact .inr HB2.out
      case measure => simp [intOf]; omega
    · obtain rfl : k = l.length := by omega
      go_wp2_with fail
      refine (Any.Builder_String_any_k Tryd.laysH169 Tryd.Builder_Extra_H169 w1.heap.size w1.heap.size _ _ hb.out (by omega)).mono ?_
      rintro e w2 ⟨rfl, -, hbel, -⟩
      go_wp2_with fail
      go_returns
      exact ⟨rfl, hE.thenBelow hbel hE1.size⟩
theorem Split_10L (s : ByteArray) (w : World) (hs : s.size ≤ 1048576) (hM : MaxAt w) : Calls Tryd.prog 38 #[.string s, .string ⟨#[10]⟩] w fun e w' => e = .returned (.slice (some ⟨w.heap.size, 0, none⟩) (splitC 10 s).length (splitC 10 s).length) ∧ Rd w' (some ⟨w.heap.size, 0, none⟩) (strsV (splitC 10 s)) ∧ Ext w w' := by
  obtain ⟨m, hm⟩ := hM
  refine (Tryd.strings_Split s ⟨#[10]⟩ m w (by omega) hm (Nat.le_refl 1)).mono ?_
  rintro e w' ⟨rfl, rfl⟩
  rw [splitC_count, splitC_eq]
  refine ⟨rfl, fun j u hj => ⟨_, _, rfl, ?_⟩, (Ext.refl w).alloc _⟩
  rw [Nat.zero_add, cell_of_row _ w.heap.size j _ 9 (0, 0) (heap_alloc_new w _)]
  simpa [strsV] using hj
/-- The words that stand in the text, and that it ends as it should. -/
def RetWs (l : List ByteArray) (w : World) (e : Ending) (w' : World) : Prop := ∃ a c, e = .returned (.tuple #[.slice a l.length c, .bool true]) ∧ Rd w' a (strsV l) ∧ Ext w w' ∧ (0 < l.length → ∀ x, a = some x → w.heap.size ≤ x.block)
set_option maxHeartbeats 800000 in
theorem linesX_any (l : List ByteArray) (w : World) (hk : lexOk l = true) (hM : MaxAt w) : Calls Tryd.prog 21 #[.string (textX l)] w (RetWs l w) := by
  by_cases hn : l = []
  · subst hn
    have e0 : textX [] = ⟨#[]⟩ := rfl
    rw [e0]
    go_enter Tryd.func21, Tryd.ntmps21
    go_wp2_with fail
    go_returns
    exact ⟨_, 0, rfl, Rd.nil _ _, (Ext.refl w).alloc _, fun h => absurd h (by simp)⟩
  have hne := textX_ne hn
  obtain ⟨X, hX, hsp⟩ := textX_cut hk hn
  have h200 := lexOk_200 hk
  have hlen := unl_len (c := 10) (l := l) (b := 12) (fun s hs => (long_size (lex_word hk s hs)).2)
  have hTz : (textX l).size ≤ 2600 := by
    show (unl 10 l).toArray.size ≤ 2600
    rw [List.size_toArray]
    have h2 : l.length * 13 ≤ 200 * 13 := Nat.mul_le_mul_right _ h200
    omega
  have hXz : (ofL X).size ≤ 2600 := by
    rw [ofL_size]
    have : (textX l).data.toList.length = X.length + 1 := by rw [hX]; simp
    rw [list_len] at this
    omega
  obtain ⟨t1, t2⟩ := suffixL X
  obtain ⟨T, hT⟩ : ∃ T, textX l = T := ⟨_, rfl⟩
  rw [hT] at hne hX hTz ⊢
  have HCS : Hid (∀ w, Calls Tryd.prog 37 #[.string T, .string ⟨#[10]⟩] w (Same (.tuple #[.string (ofL X), .bool true]) w)) := hid (fun w => (Tryd.strings_CutSuffix T ⟨#[10]⟩ w (by omega)).mono (by
    rintro e w' ⟨rfl, rfl⟩
    have e1 : (⟨#[10]⟩ : ByteArray).data.toList = [10] := rfl
    rw [hX, e1, t1, t2]
    exact ⟨rfl, rfl⟩))
  obtain ⟨Y, hY⟩ : ∃ Y, ofL X = Y := ⟨_, rfl⟩
  rw [hY] at HCS hXz hsp
  have HS := hid (fun w' h => Split_10L Y w' (by omega) h)
  rw [hsp] at HS
  have HM := hid hM
  clear hM hT hX hTz t1 t2 hY hsp hlen hn hk
  go_enter Tryd.func21, Tryd.ntmps21
  go_wp2_with fail
  refine (HCS.out _).mono ?_
  rintro e w1 ⟨rfl, rfl⟩
  go_wp2_with fail
  refine (HS.out _ HM.out).mono ?_
  rintro e w2 ⟨rfl, hr, hx⟩
  have HRR := hid hr
  clear hr
  go_wp2_with fail
  go_returns
  exact ⟨_, _, rfl, HRR.out, hx, fun _ x e => by cases e; exact Nat.le_refl _⟩
set_option maxHeartbeats 800000 in
theorem ReadLexicon_yes (l : List ByteArray) (w : World) (hk : lexOk l = true) (hM : MaxAt w) :
    Calls Tryd.prog 8 #[.string (textX l)] w fun e w' => ∃ a c, e = .returned (.tuple #[lexV a l.length c, .bool true]) ∧ Rd w' a (strsV l) ∧ Ext w w' := by
  have h200 := lexOk_200 hk
  have hx0 := (Ext.refl w).alloc (.cells #[.slice none 0 0] 26)
  have HL := hid (linesX_any l _ hk (hM.ext hx0))
  have HV := hid (fun a c w' (h : Rd w' a (strsV l)) => ValidLexicon_any a c l w' h (by omega) (fun s hs => by have := (long_size (lex_word hk s hs)).2; omega))
  rw [hk] at HV
  obtain ⟨T, hT⟩ : ∃ T, textX l = T := ⟨_, rfl⟩
  rw [hT] at HL ⊢
  clear hM hT hk
  go_enter Tryd.func8, Tryd.ntmps8
  go_wp2_with fail
  refine HL.out.mono ?_
  rintro e w1 ⟨a, c, rfl, hr, hx, hbl⟩
  have HBL := hid hbl
  clear hbl
  have r0 := hx.cell (b := w.heap.size) (o := 0) (v := .slice none 0 0) (by simp)
  have rf : w1.frozen? ⟨w.heap.size, 0, none⟩ = false := by rw [hx.cells.2 _ _ (by simp)]; simp
  have hE := hx0.trans hx
  have hx1 := (Ext.refl w1).alloc (.cells #[.slice a l.length c] 26)
  have HR1 := hid (hr.ext hx1)
  have r1 := hx1.cell r0
  have rf1 : (w1.alloc (.cells #[.slice a l.length c] 26)).frozen? ⟨w.heap.size, 0, none⟩ = false := by rw [hx1.cells.2 _ _ (World.block_lt_of_cell? _ _ r0)]; exact rf
  have hE1 := hE.trans hx1
  clear hr hx hx1 hE rf HL hx0
  have hlt := World.block_lt_of_cell? _ _ r0
  clear r0
  go_wp2_with fail
  refine (HV.out a c _ HR1.out).mono ?_
  rintro e w2 ⟨rfl, hx⟩
  have l0 := hx.cell (b := w1.heap.size) (o := 0) (v := .slice a l.length c) (by simp)
  have r2 := hx.cell r1
  have rf2 : w2.frozen? ⟨w.heap.size, 0, none⟩ = false := by rw [hx.cells.2 _ _ (World.block_lt_of_cell? _ _ r1)]; exact rf1
  have hE2 := hE1.trans hx
  have HR2 := hid (HR1.out.ext hx)
  clear hx r1 rf1 HR1 hE1 HV
  go_wp2_with fail
  refine bodyPost_ret (v := .tuple #[lexV a l.length c, .bool true]) (by simp [results, Tryd.results8, go_sem, r2, rf2]) rfl ⟨_, _, rfl, ?_, hE2.setCell (by simp) _⟩
  intro j u hj
  obtain ⟨b', o', e1, e2⟩ := HR2.out j u hj
  refine ⟨b', o', e1, ?_⟩
  have hl0 : 0 < l.length := by
    have := (List.getElem?_eq_some_iff.1 hj).1
    simp only [strsV, List.length_map] at this
    omega
  have hb := HBL.out hl0 _ e1
  simp only [World.size_alloc] at hb
  rw [World.cell?_setCell_other _ _ _ _ (fun q => by simp at q <;> omega)]
  exact e2
end Go.Proofs.YtflpiebiacainaaDoor
