/- What keyOf computes. Conditions: as many letters as edges, at most 4000; places below a million. -/
import Derived.Test.YtabljchbchjjcaaGreatDoorMg6
import Derived.Test.YtabljchbchjjcaaGreatDoorMg15
import Derived.Test.YtabljchbchjjcaaGreatDoorShelf
import Derived.Lib.SmallJoins
import Derived.Lib.AppendIntMem
import Derived.Lib.AtoiErrMem
import Derived.Lib.ParseIntBTie
import Derived.Lib.LaidTab
namespace Go.Proofs.YtabljchbchjjcaaGreatDoor
set_option linter.unusedVariables false
set_option linter.unusedSimpArgs false
open Go Go.RowKit
/-- The library's table of powers. -/
def TabF (w : World) : Prop := Lib.TabIs Tryz.prog w "internal/strconv.uint64pow10" .u64 Lib.pow10Tab
theorem TabF.ext {w w' : World} (h : TabF w) (k : Ext w w') : TabF w' := Go.Joins.tab_stays (g := 1) (by kernel_rfl) h k (Nat.le_refl _)
theorem Decimal_tab (n : Int) (w : World) (h0 : -9223372036854775808 ≤ n) (h1 : n ≤ 9223372036854775807) (hN : TabF w) : Calls Tryz.prog 74 #[.int .i64 n] w (Ret (.string ⟨(Lib.itoa n).toArray⟩) w) := by
  have HF := hid (Tryz.strconv_FormatInt_10 n h0 h1 w hN)
  obtain ⟨D, hD⟩ : ∃ D : ByteArray, (⟨(Lib.itoa n).toArray⟩ : ByteArray) = D := ⟨_, rfl⟩
  rw [hD] at HF ⊢
  clear hD
  go_enter Tryz.func74, Tryz.ntmps74
  go_wp2_with fail
  refine HF.out.mono ?_
  rintro e w1 ⟨rfl, k, os, rfl⟩
  have hx := Lib.below_grow w.heap.size w (Nat.le_refl _) k os
  go_wp2_with fail
  go_returns
  exact ⟨rfl, hx⟩
set_option maxRecDepth 100000 in
set_option maxHeartbeats 4000000 in
theorem keyOf_false (s : ByteArray) (a : Option Addr) (c : Nat) (xs : List Int) (w : World) (hr : Rd w a (intsV xs)) (hn : s.size = xs.length) (hl : xs.length ≤ 4000) (hj : ∀ j ∈ xs, 0 ≤ j ∧ j < 1000000) (hT : TabF w) :
    Calls Tryz.prog 54 #[ndV false s a xs.length c] w (Ret (.string (keyV ⟨false, s, xs⟩)) w) := by
  have HR : Hid (∀ w', Ext w w' → Rd w' a (intsV xs)) := hid (fun w' k => hr.ext k)
  have HT : Hid (∀ w', Ext w w' → TabF w') := hid (fun w' k => hT.ext k)
  have HJ : Hid (∀ k (hk : k < xs.length), 0 ≤ xs[k] ∧ xs[k] < 1000000) := hid (fun k hk => hj _ (List.getElem_mem hk))
  have HLN := hid hn
  have HK : Hid (∀ k (hk : k < xs.length), keyK ⟨false, s, xs⟩ (k + 1) = keyK ⟨false, s, xs⟩ k ++ chk (s.data.toList.getD k 0) xs[k]) := hid (fun k hk => keyK_succ (n := ⟨false, s, xs⟩) hn hk)
  have HXX : Hid (∀ k, k < xs.length → s.extract k (k + 1) = ⟨#[s.data.toList.getD k 0]⟩) := hid (fun k hk => by
    apply ByteArray.ext
    apply Array.toList_inj.1
    rw [ByteArray.data_extract, Array.toList_extract]
    have hk2 : k < s.data.toList.length := by have : s.data.toList.length = s.size := Array.length_toList; omega
    show (s.data.toList.drop k).take (k + 1 - k) = [s.data.toList.getD k 0]
    rw [List.drop_eq_getElem_cons hk2, show k + 1 - k = 1 by omega, List.getD_eq_getElem?_getD, List.getElem?_eq_getElem hk2]
    rfl)
  have HKL : Hid (∀ k, k ≤ xs.length → (keyK ⟨false, s, xs⟩ k).length ≤ 40000) := hid (fun k hk => by
    have h1 := chks_len (s.data.toList.take k) (xs.take k) (fun j hj2 => hj j (List.mem_of_mem_take hj2))
    rw [List.length_take] at h1
    unfold keyK
    rw [List.length_append]
    split <;> simp <;> omega)
  have HFin : Hid (keyV ⟨false, s, xs⟩ = ⟨(keyK ⟨false, s, xs⟩ xs.length).toArray⟩) := hid (by rw [keyK_all (n := ⟨false, s, xs⟩) hn]; rfl)
  have HK0 := hid (keyK_zero ⟨false, s, xs⟩)
  clear hr hT hj hn
  go_enter Tryz.func54, Tryz.ntmps54
  have HB1 : Hid (Lib.IsBuilderF 80 5 (w.heap.size + 1) (w.heap.size + 1) (Lib.byteCells (keyK ⟨false, s, xs⟩ 0)) ((w.alloc (.cells #[.bool false, .string s, .slice a xs.length c] 92)).alloc (.cells #[.pointer none, .slice none 0 0] 80))) := hid (Lib.IsBuilderF.of (by rw [HK0.out]; simpa [Lib.byteCells] using Lib.fresh_isBuilder 80 5 (w.alloc (.cells #[.bool false, .string s, .slice a xs.length c] 92))))
  have hX1 : Ext (w.alloc (.cells #[.bool false, .string s, .slice a xs.length c] 92)) ((w.alloc (.cells #[.bool false, .string s, .slice a xs.length c] 92)).alloc (.cells #[.pointer none, .slice none 0 0] 80)) := (Ext.refl _).alloc _
  have hZ1 : w.heap.size + 1 < ((w.alloc (.cells #[.bool false, .string s, .slice a xs.length c] 92)).alloc (.cells #[.pointer none, .slice none 0 0] 80)).heap.size := by simp
  go_wp2_with fail
  go_loopw [12] (fun v wr => ∃ k : Nat, k ≤ xs.length ∧ v = .int .i64 (k : Int) ∧ Hid (Lib.IsBuilderF 80 5 (w.heap.size + 1) (w.heap.size + 1) (Lib.byteCells (keyK ⟨false, s, xs⟩ k)) wr) ∧ Ext (w.alloc (.cells #[.bool false, .string s, .slice a xs.length c] 92)) wr ∧ w.heap.size + 1 < wr.heap.size) (fun v _ => xs.length - (intOf v).toNat)
  case atStart => exact ⟨0, by omega, rfl, HB1, hX1, hZ1⟩
  case round =>
    clear HB1 hX1 hZ1
    obtain ⟨k, hk, rfl, hb, hx, hsz⟩ := hrel
    have b0 := hx.cell (b := w.heap.size) (o := 0) (v := .bool false) (by simp)
    have b1 := hx.cell (b := w.heap.size) (o := 1) (v := .string s) (by simp)
    have b2 := hx.cell (b := w.heap.size) (o := 2) (v := .slice a xs.length c) (by simp)
    have hE := ((Ext.refl w).alloc _).trans hx
    by_cases hlt : k < xs.length
    · obtain ⟨g1, o1, rfl, hc⟩ := (HR.out _ hE).int (by omega)
      have ck := hc k hlt
      obtain ⟨j0, j1⟩ := HJ.out k hlt
      have HSk := hid (HK.out k hlt)
      have HXk := hid (HXX.out k hlt)
      have hkl := HKL.out k (by omega)
      obtain ⟨j, hj⟩ : ∃ j, xs[k] = j := ⟨_, rfl⟩
      rw [hj] at ck j0 j1 HSk
      obtain ⟨x, hx0⟩ : ∃ x, s.data.toList.getD k 0 = x := ⟨_, rfl⟩
      rw [hx0] at HSk HXk
      obtain ⟨q, hq⟩ : ∃ q, o1 + k = q := ⟨_, rfl⟩
      rw [hq] at ck
      have HDc := hid (fun w' (h : TabF w') => Decimal_tab j w' (by omega) (by omega) h)
      have hD6 := itoa_len j0 j1
      obtain ⟨D, hD⟩ : ∃ D : ByteArray, (⟨(Lib.itoa j).toArray⟩ : ByteArray) = D := ⟨_, rfl⟩
      have hDz : D.size ≤ 6 := by rw [← hD]; show (Lib.itoa j).toArray.size ≤ 6; rw [List.size_toArray]; exact hD6
      obtain ⟨Y, hY⟩ : ∃ Y : ByteArray, (⟨#[x]⟩ : ByteArray) ++ D ++ (⟨#[32]⟩ : ByteArray) = Y := ⟨_, rfl⟩
      have HY : Hid (Y.data.toList = chk x j) := hid (by rw [← hY, ← hD, ByteArray.data_append, ByteArray.data_append, Array.toList_append, Array.toList_append]; rfl)
      have hYz : Y.size ≤ 8 := by rw [← hY, ByteArray.size_append, ByteArray.size_append]; show 1 + D.size + 1 ≤ 8; omega
      rw [hD] at HDc
      have hks : (k : Int) + 1 ≤ (s.size : Int) := by have := HLN.out; omega
      have hks2 : k + 1 ≤ s.size := by have := HLN.out; omega
      have q1 : IntKind.i64.wrap ((k : Int) + 1) = (k : Int) + 1 := IntWalk.i64_in _ (by omega)
      have q3 : (0 : Int) ≤ (k : Int) + 1 := by omega
      have q4 : (k : Int) ≤ (k : Int) + 1 := by omega
      have n1 : ¬ 9223372036854775807 < 1 + D.size := by omega
      have n2 : ¬ 9223372036854775807 < 1 + D.size + 1 := by omega
      clear hc hj hx0 hD hD6
      go_wp2_with fail
      refine wp_region_flow_at (C := Ext) 10 [fun v _ => v = .pointer (some ⟨w.heap.size, 1, none⟩), fun v _ => v = .string s, fun v _ => v = .int .i64 (k : Int), fun v _ => v = .int .i64 (k : Int), fun v _ => v = .int .i64 ((k : Int) + 1), fun v _ => v = .string ⟨#[x]⟩, fun v _ => v = .int .i64 j, fun v _ => v = .string D, fun v _ => v = .string ((⟨#[x]⟩ : ByteArray) ++ D), fun v _ => v = .string Y]
        [[(1, none)], [(17, some 0)], [(4, none)], [(4, none)], [(20, some 3)], [(18, some 1), (19, some 2), (21, some 4)], [(5, none)], [(23, some 6)], [(22, some 5), (24, some 7)], [(25, some 8)]] (by kernel_rfl) (by kernel_rfl) Ext.refl (fun _ _ _ => Ext.trans) ?_ ?_ ?_
      · intro F hF
        simp only [List.mem_cons, List.not_mem_nil, or_false] at hF
        rcases hF with rfl | rfl | rfl | rfl | rfl | rfl | rfl | rfl | rfl | rfl <;> exact fun _ _ _ h _ => h
      · refine ⟨?_, ?_, ?_, ?_, ?_, ?_, ?_, ?_, ?_, ?_, trivial⟩
        · rintro ρ w1 hw hcst hfn hk
          clear hw
          simp only [known, List.getD_cons_zero, List.getD_cons_succ, Nat.reduceAdd] at hk
          simp only [List.getD_cons_zero, List.getD_cons_succ, Nat.reduceAdd, flowAt]
          go_simp
          exact ⟨Ext.refl _, by first | rfl | trivial⟩
        · rintro ρ w1 hw hcst hfn hk
          have c0 := hw.cell (b := w.heap.size) (o := 1) (v := .string s) (by first | (simp [*]; done) | (simp [*, go_sem]; done) | go_cell)
          clear hw
          simp only [known, List.getD_cons_zero, List.getD_cons_succ, Nat.reduceAdd] at hk
          simp only [List.getD_cons_zero, List.getD_cons_succ, Nat.reduceAdd, flowAt]
          go_simp
          exact ⟨Ext.refl _, by first | rfl | trivial⟩
        · rintro ρ w1 hw hcst hfn hk
          clear hw
          simp only [known, List.getD_cons_zero, List.getD_cons_succ, Nat.reduceAdd] at hk
          simp only [List.getD_cons_zero, List.getD_cons_succ, Nat.reduceAdd, flowAt]
          go_simp
          exact ⟨Ext.refl _, by first | rfl | trivial⟩
        · rintro ρ w1 hw hcst hfn hk
          clear hw
          simp only [known, List.getD_cons_zero, List.getD_cons_succ, Nat.reduceAdd] at hk
          simp only [List.getD_cons_zero, List.getD_cons_succ, Nat.reduceAdd, flowAt]
          go_simp
          exact ⟨Ext.refl _, by first | rfl | trivial⟩
        · rintro ρ w1 hw hcst hfn hk
          simp only [known, List.getD_cons_zero, List.getD_cons_succ, Nat.reduceAdd] at hk
          simp only [List.getD_cons_zero, List.getD_cons_succ, Nat.reduceAdd, flowAt]
          go_simp
          exact ⟨Ext.refl _, by first | rfl | rw [q1]⟩
        · rintro ρ w1 hw hcst hfn hk
          simp only [known, List.getD_cons_zero, List.getD_cons_succ, Nat.reduceAdd] at hk
          simp only [List.getD_cons_zero, List.getD_cons_succ, Nat.reduceAdd, flowAt]
          go_simp
          exact ⟨Ext.refl _, by rw [← HXk.out]⟩
        · rintro ρ w1 hw hcst hfn hk
          clear hw
          simp only [known, List.getD_cons_zero, List.getD_cons_succ, Nat.reduceAdd] at hk
          simp only [List.getD_cons_zero, List.getD_cons_succ, Nat.reduceAdd, flowAt]
          go_simp
          exact ⟨Ext.refl _, by first | rfl | trivial⟩
        · rintro ρ w1 hw hcst hfn hk
          simp only [known, List.getD_cons_zero, List.getD_cons_succ, Nat.reduceAdd] at hk
          simp only [List.getD_cons_zero, List.getD_cons_succ, Nat.reduceAdd, flowAt]
          go_simp
          exact flow_ret (HDc.out _ (HT.out _ (hE.trans ((Ext.refl _).drew.trans hw))))
        · rintro ρ w1 hw hcst hfn hk
          simp only [known, List.getD_cons_zero, List.getD_cons_succ, Nat.reduceAdd] at hk
          simp only [List.getD_cons_zero, List.getD_cons_succ, Nat.reduceAdd, flowAt]
          go_simp
          exact ⟨Ext.refl _, rfl⟩
        · rintro ρ w1 hw hcst hfn hk
          simp only [known, List.getD_cons_zero, List.getD_cons_succ, Nat.reduceAdd] at hk
          simp only [List.getD_cons_zero, List.getD_cons_succ, Nat.reduceAdd, flowAt]
          go_simp
          exact ⟨Ext.refl _, by rw [← hY]⟩
      intro vs w1 hw hf
      simp only [flowFacts, Nat.reduceAdd] at hf
      obtain ⟨e0, e1, e2, e3, e4, e5, e6, e7, e8, e9, -⟩ := hf
      simp only [List.take_succ_cons, List.take_zero, List.drop_succ_cons, List.drop_zero, putAll, Act.put, Nat.reduceAdd, List.setIfInBounds_toArray, List.set_cons_zero, List.set_cons_succ, e0, e1, e2, e3, e4, e5, e6, e7, e8, e9]
      clear e0 e1 e2 e3 e4 e5 e6 e7 e8 e9
      have hx4 := ((Ext.refl _).drew.trans hw)
      have HB4 := hid (bldr_below hb.out hx4)
      have hs4 := hx4.size
      have hE4 := hx.trans hx4
      clear hx4 hw hb b0 b1 b2 ck hY
      go_wp2_with fail
      refine (Any.Builder_WriteString_k Tryz.laysH166 Tryz.Builder_Extra_H166 (w.heap.size + 1) (w.heap.size + 1) _ Y _ HB4.out (by rw [Lib.byteCells_length]; omega) (by omega)).mono ?_
      rintro e w2 ⟨rfl, hb2, hbel, -⟩
      have HB2 := hid hb2
      have hs2 := hbel.size
      clear hb2
      go_wp2_with fail
      go_roundw
      case rel =>
        refine ⟨k + 1, by omega, by go_num, hid ?_, hE4.thenBelow hbel (by simp), by omega⟩
        rw [HSk.out, ← HY.out, Lib.byteCells, List.map_append]
        exact .inr HB2.out
      case measure => simp [intOf]; omega
    · obtain rfl : k = xs.length := by omega
      have HF2 := hid HFin.out
      clear b0 b1 b2
      go_wp2_with fail
      refine (Any.Builder_String_any_k Tryz.laysH169 Tryz.Builder_Extra_H169 (w.heap.size + 1) (w.heap.size + 1) _ _ hb.out (by omega)).mono ?_
      rintro e w2 ⟨rfl, -, hbel, -⟩
      go_wp2_with fail
      go_returns
      exact ⟨by rw [HF2.out]; rfl, hE.thenBelow hbel (by omega)⟩
set_option maxRecDepth 100000 in
set_option maxHeartbeats 4000000 in
theorem keyOf_true (s : ByteArray) (a : Option Addr) (c : Nat) (xs : List Int) (w : World) (hr : Rd w a (intsV xs)) (hn : s.size = xs.length) (hl : xs.length ≤ 4000) (hj : ∀ j ∈ xs, 0 ≤ j ∧ j < 1000000) (hT : TabF w) :
    Calls Tryz.prog 54 #[ndV true s a xs.length c] w (Ret (.string (keyV ⟨true, s, xs⟩)) w) := by
  have HR : Hid (∀ w', Ext w w' → Rd w' a (intsV xs)) := hid (fun w' k => hr.ext k)
  have HT : Hid (∀ w', Ext w w' → TabF w') := hid (fun w' k => hT.ext k)
  have HJ : Hid (∀ k (hk : k < xs.length), 0 ≤ xs[k] ∧ xs[k] < 1000000) := hid (fun k hk => hj _ (List.getElem_mem hk))
  have HLN := hid hn
  have HK : Hid (∀ k (hk : k < xs.length), keyK ⟨true, s, xs⟩ (k + 1) = keyK ⟨true, s, xs⟩ k ++ chk (s.data.toList.getD k 0) xs[k]) := hid (fun k hk => keyK_succ (n := ⟨true, s, xs⟩) hn hk)
  have HXX : Hid (∀ k, k < xs.length → s.extract k (k + 1) = ⟨#[s.data.toList.getD k 0]⟩) := hid (fun k hk => by
    apply ByteArray.ext
    apply Array.toList_inj.1
    rw [ByteArray.data_extract, Array.toList_extract]
    have hk2 : k < s.data.toList.length := by have : s.data.toList.length = s.size := Array.length_toList; omega
    show (s.data.toList.drop k).take (k + 1 - k) = [s.data.toList.getD k 0]
    rw [List.drop_eq_getElem_cons hk2, show k + 1 - k = 1 by omega, List.getD_eq_getElem?_getD, List.getElem?_eq_getElem hk2]
    rfl)
  have HKL : Hid (∀ k, k ≤ xs.length → (keyK ⟨true, s, xs⟩ k).length ≤ 40000) := hid (fun k hk => by
    have h1 := chks_len (s.data.toList.take k) (xs.take k) (fun j hj2 => hj j (List.mem_of_mem_take hj2))
    rw [List.length_take] at h1
    unfold keyK
    rw [List.length_append]
    split <;> simp <;> omega)
  have HFin : Hid (keyV ⟨true, s, xs⟩ = ⟨(keyK ⟨true, s, xs⟩ xs.length).toArray⟩) := hid (by rw [keyK_all (n := ⟨true, s, xs⟩) hn]; rfl)
  have HK0 := hid (keyK_zero ⟨true, s, xs⟩)
  clear hr hT hj hn
  have HB0 : Hid (Lib.IsBuilderF 80 5 (w.heap.size + 1) (w.heap.size + 1) [] ((w.alloc (.cells #[.bool true, .string s, .slice a xs.length c] 92)).alloc (.cells #[.pointer none, .slice none 0 0] 80))) := hid (Lib.IsBuilderF.of (by simpa using Lib.fresh_isBuilder 80 5 (w.alloc (.cells #[.bool true, .string s, .slice a xs.length c] 92))))
  go_enter Tryz.func54, Tryz.ntmps54
  go_wp2_with fail
  refine (Any.Builder_WriteByte_k Tryz.laysH167 Tryz.Builder_Extra_H167 (w.heap.size + 1) (w.heap.size + 1) [] 43 _ HB0.out (by simp) (by simp)).mono ?_
  rintro e w1 ⟨rfl, hb2, hbel, -⟩
  have HB1 : Hid (Lib.IsBuilderF 80 5 (w.heap.size + 1) (w.heap.size + 1) (Lib.byteCells (keyK ⟨true, s, xs⟩ 0)) w1) := hid (by rw [HK0.out]; exact .inr hb2)
  have hX1 : Ext (w.alloc (.cells #[.bool true, .string s, .slice a xs.length c] 92)) w1 := ((Ext.refl _).alloc _).thenBelow hbel (by simp)
  have hZ1 : w.heap.size + 1 < w1.heap.size := by have := hbel.size; simp at this; omega
  clear hb2 hbel
  have c2 := hX1.cell (b := w.heap.size) (o := 2) (v := .slice a xs.length c) (by simp)
  go_wp2_with fail
  go_loopw [12] (fun v wr => ∃ k : Nat, k ≤ xs.length ∧ v = .int .i64 (k : Int) ∧ Hid (Lib.IsBuilderF 80 5 (w.heap.size + 1) (w.heap.size + 1) (Lib.byteCells (keyK ⟨true, s, xs⟩ k)) wr) ∧ Ext (w.alloc (.cells #[.bool true, .string s, .slice a xs.length c] 92)) wr ∧ w.heap.size + 1 < wr.heap.size) (fun v _ => xs.length - (intOf v).toNat)
  case atStart => exact ⟨0, by omega, rfl, HB1, hX1, hZ1⟩
  case round =>
    clear HB1 hX1 hZ1 c2
    obtain ⟨k, hk, rfl, hb, hx, hsz⟩ := hrel
    have b0 := hx.cell (b := w.heap.size) (o := 0) (v := .bool true) (by simp)
    have b1 := hx.cell (b := w.heap.size) (o := 1) (v := .string s) (by simp)
    have b2 := hx.cell (b := w.heap.size) (o := 2) (v := .slice a xs.length c) (by simp)
    have hE := ((Ext.refl w).alloc _).trans hx
    by_cases hlt : k < xs.length
    · obtain ⟨g1, o1, rfl, hc⟩ := (HR.out _ hE).int (by omega)
      have ck := hc k hlt
      obtain ⟨j0, j1⟩ := HJ.out k hlt
      have HSk := hid (HK.out k hlt)
      have HXk := hid (HXX.out k hlt)
      have hkl := HKL.out k (by omega)
      obtain ⟨j, hj⟩ : ∃ j, xs[k] = j := ⟨_, rfl⟩
      rw [hj] at ck j0 j1 HSk
      obtain ⟨x, hx0⟩ : ∃ x, s.data.toList.getD k 0 = x := ⟨_, rfl⟩
      rw [hx0] at HSk HXk
      obtain ⟨q, hq⟩ : ∃ q, o1 + k = q := ⟨_, rfl⟩
      rw [hq] at ck
      have HDc := hid (fun w' (h : TabF w') => Decimal_tab j w' (by omega) (by omega) h)
      have hD6 := itoa_len j0 j1
      obtain ⟨D, hD⟩ : ∃ D : ByteArray, (⟨(Lib.itoa j).toArray⟩ : ByteArray) = D := ⟨_, rfl⟩
      have hDz : D.size ≤ 6 := by rw [← hD]; show (Lib.itoa j).toArray.size ≤ 6; rw [List.size_toArray]; exact hD6
      obtain ⟨Y, hY⟩ : ∃ Y : ByteArray, (⟨#[x]⟩ : ByteArray) ++ D ++ (⟨#[32]⟩ : ByteArray) = Y := ⟨_, rfl⟩
      have HY : Hid (Y.data.toList = chk x j) := hid (by rw [← hY, ← hD, ByteArray.data_append, ByteArray.data_append, Array.toList_append, Array.toList_append]; rfl)
      have hYz : Y.size ≤ 8 := by rw [← hY, ByteArray.size_append, ByteArray.size_append]; show 1 + D.size + 1 ≤ 8; omega
      rw [hD] at HDc
      have hks : (k : Int) + 1 ≤ (s.size : Int) := by have := HLN.out; omega
      have hks2 : k + 1 ≤ s.size := by have := HLN.out; omega
      have q1 : IntKind.i64.wrap ((k : Int) + 1) = (k : Int) + 1 := IntWalk.i64_in _ (by omega)
      have q3 : (0 : Int) ≤ (k : Int) + 1 := by omega
      have q4 : (k : Int) ≤ (k : Int) + 1 := by omega
      have n1 : ¬ 9223372036854775807 < 1 + D.size := by omega
      have n2 : ¬ 9223372036854775807 < 1 + D.size + 1 := by omega
      clear hc hj hx0 hD hD6
      go_wp2_with fail
      refine wp_region_flow_at (C := Ext) 10 [fun v _ => v = .pointer (some ⟨w.heap.size, 1, none⟩), fun v _ => v = .string s, fun v _ => v = .int .i64 (k : Int), fun v _ => v = .int .i64 (k : Int), fun v _ => v = .int .i64 ((k : Int) + 1), fun v _ => v = .string ⟨#[x]⟩, fun v _ => v = .int .i64 j, fun v _ => v = .string D, fun v _ => v = .string ((⟨#[x]⟩ : ByteArray) ++ D), fun v _ => v = .string Y]
        [[(1, none)], [(17, some 0)], [(4, none)], [(4, none)], [(20, some 3)], [(18, some 1), (19, some 2), (21, some 4)], [(5, none)], [(23, some 6)], [(22, some 5), (24, some 7)], [(25, some 8)]] (by kernel_rfl) (by kernel_rfl) Ext.refl (fun _ _ _ => Ext.trans) ?_ ?_ ?_
      · intro F hF
        simp only [List.mem_cons, List.not_mem_nil, or_false] at hF
        rcases hF with rfl | rfl | rfl | rfl | rfl | rfl | rfl | rfl | rfl | rfl <;> exact fun _ _ _ h _ => h
      · refine ⟨?_, ?_, ?_, ?_, ?_, ?_, ?_, ?_, ?_, ?_, trivial⟩
        · rintro ρ w1 hw hcst hfn hk
          clear hw
          simp only [known, List.getD_cons_zero, List.getD_cons_succ, Nat.reduceAdd] at hk
          simp only [List.getD_cons_zero, List.getD_cons_succ, Nat.reduceAdd, flowAt]
          go_simp
          exact ⟨Ext.refl _, by first | rfl | trivial⟩
        · rintro ρ w1 hw hcst hfn hk
          have c0 := hw.cell (b := w.heap.size) (o := 1) (v := .string s) (by first | (simp [*]; done) | (simp [*, go_sem]; done) | go_cell)
          clear hw
          simp only [known, List.getD_cons_zero, List.getD_cons_succ, Nat.reduceAdd] at hk
          simp only [List.getD_cons_zero, List.getD_cons_succ, Nat.reduceAdd, flowAt]
          go_simp
          exact ⟨Ext.refl _, by first | rfl | trivial⟩
        · rintro ρ w1 hw hcst hfn hk
          clear hw
          simp only [known, List.getD_cons_zero, List.getD_cons_succ, Nat.reduceAdd] at hk
          simp only [List.getD_cons_zero, List.getD_cons_succ, Nat.reduceAdd, flowAt]
          go_simp
          exact ⟨Ext.refl _, by first | rfl | trivial⟩
        · rintro ρ w1 hw hcst hfn hk
          clear hw
          simp only [known, List.getD_cons_zero, List.getD_cons_succ, Nat.reduceAdd] at hk
          simp only [List.getD_cons_zero, List.getD_cons_succ, Nat.reduceAdd, flowAt]
          go_simp
          exact ⟨Ext.refl _, by first | rfl | trivial⟩
        · rintro ρ w1 hw hcst hfn hk
          simp only [known, List.getD_cons_zero, List.getD_cons_succ, Nat.reduceAdd] at hk
          simp only [List.getD_cons_zero, List.getD_cons_succ, Nat.reduceAdd, flowAt]
          go_simp
          exact ⟨Ext.refl _, by first | rfl | rw [q1]⟩
        · rintro ρ w1 hw hcst hfn hk
          simp only [known, List.getD_cons_zero, List.getD_cons_succ, Nat.reduceAdd] at hk
          simp only [List.getD_cons_zero, List.getD_cons_succ, Nat.reduceAdd, flowAt]
          go_simp
          exact ⟨Ext.refl _, by rw [← HXk.out]⟩
        · rintro ρ w1 hw hcst hfn hk
          clear hw
          simp only [known, List.getD_cons_zero, List.getD_cons_succ, Nat.reduceAdd] at hk
          simp only [List.getD_cons_zero, List.getD_cons_succ, Nat.reduceAdd, flowAt]
          go_simp
          exact ⟨Ext.refl _, by first | rfl | trivial⟩
        · rintro ρ w1 hw hcst hfn hk
          simp only [known, List.getD_cons_zero, List.getD_cons_succ, Nat.reduceAdd] at hk
          simp only [List.getD_cons_zero, List.getD_cons_succ, Nat.reduceAdd, flowAt]
          go_simp
          exact flow_ret (HDc.out _ (HT.out _ (hE.trans ((Ext.refl _).drew.trans hw))))
        · rintro ρ w1 hw hcst hfn hk
          simp only [known, List.getD_cons_zero, List.getD_cons_succ, Nat.reduceAdd] at hk
          simp only [List.getD_cons_zero, List.getD_cons_succ, Nat.reduceAdd, flowAt]
          go_simp
          exact ⟨Ext.refl _, rfl⟩
        · rintro ρ w1 hw hcst hfn hk
          simp only [known, List.getD_cons_zero, List.getD_cons_succ, Nat.reduceAdd] at hk
          simp only [List.getD_cons_zero, List.getD_cons_succ, Nat.reduceAdd, flowAt]
          go_simp
          exact ⟨Ext.refl _, by rw [← hY]⟩
      intro vs w1 hw hf
      simp only [flowFacts, Nat.reduceAdd] at hf
      obtain ⟨e0, e1, e2, e3, e4, e5, e6, e7, e8, e9, -⟩ := hf
      simp only [List.take_succ_cons, List.take_zero, List.drop_succ_cons, List.drop_zero, putAll, Act.put, Nat.reduceAdd, List.setIfInBounds_toArray, List.set_cons_zero, List.set_cons_succ, e0, e1, e2, e3, e4, e5, e6, e7, e8, e9]
      clear e0 e1 e2 e3 e4 e5 e6 e7 e8 e9
      have hx4 := ((Ext.refl _).drew.trans hw)
      have HB4 := hid (bldr_below hb.out hx4)
      have hs4 := hx4.size
      have hE4 := hx.trans hx4
      clear hx4 hw hb b0 b1 b2 ck hY
      go_wp2_with fail
      refine (Any.Builder_WriteString_k Tryz.laysH166 Tryz.Builder_Extra_H166 (w.heap.size + 1) (w.heap.size + 1) _ Y _ HB4.out (by rw [Lib.byteCells_length]; omega) (by omega)).mono ?_
      rintro e w2 ⟨rfl, hb2, hbel, -⟩
      have HB2 := hid hb2
      have hs2 := hbel.size
      clear hb2
      go_wp2_with fail
      go_roundw
      case rel =>
        refine ⟨k + 1, by omega, by go_num, hid ?_, hE4.thenBelow hbel (by simp), by omega⟩
        rw [HSk.out, ← HY.out, Lib.byteCells, List.map_append]
        exact .inr HB2.out
      case measure => simp [intOf]; omega
    · obtain rfl : k = xs.length := by omega
      have HF2 := hid HFin.out
      clear b0 b1 b2
      go_wp2_with fail
      refine (Any.Builder_String_any_k Tryz.laysH169 Tryz.Builder_Extra_H169 (w.heap.size + 1) (w.heap.size + 1) _ _ hb.out (by omega)).mono ?_
      rintro e w2 ⟨rfl, -, hbel, -⟩
      go_wp2_with fail
      go_returns
      exact ⟨by rw [HF2.out]; rfl, hE.thenBelow hbel (by omega)⟩
theorem keyOf_any (n : Nd) (a : Option Addr) (c : Nat) (w : World) (hr : Rd w a (intsV n.nx)) (hk : KeyOk n) (hl : n.nx.length ≤ 4000) (hj : ∀ j ∈ n.nx, j < 1000000) (hT : TabF w) :
    Calls Tryz.prog 54 #[ndV n.fin n.lt a n.nx.length c] w (Ret (.string (keyV n)) w) := by
  obtain ⟨f, s, xs⟩ := n
  cases f
  · exact keyOf_false s a c xs w hr hk.len hl (fun j h => ⟨hk.pos j h, hj j h⟩) hT
  · exact keyOf_true s a c xs w hr hk.len hl (fun j h => ⟨hk.pos j h, hj j h⟩) hT
end Go.Proofs.YtabljchbchjjcaaGreatDoor
