/- The reference's tails of words that begin alike. Conditions: at most 3000 words. -/
import Derived.Test.YtabljchbchjjcaaGreatDoorMg12
import Derived.Test.YtabljchbchjjcaaGreatDoorMg8
import Derived.Test.YtabljchbchjjcaaGreatDoorCh05a
namespace Go.Proofs.YtabljchbchjjcaaGreatDoor
set_option linter.unusedVariables false
set_option linter.unusedSimpArgs false
open Go Go.RowKit
/-- A word without its first byte. -/
def cut1 (s : ByteArray) : ByteArray := s.extract 1 s.size
theorem cut1_list (s : ByteArray) : (cut1 s).data.toList = s.data.toList.drop 1 := by
  unfold cut1
  rw [ByteArray.data_extract, Array.toList_extract]
  have hl := toL_len s
  rw [List.extract_eq_drop_take', ← hl, List.take_length]
theorem cut1_size (s : ByteArray) : (cut1 s).size = s.size - 1 := by
  rw [← toL_len, cut1_list, List.length_drop, toL_len]
theorem sufs_cut (T : List ByteArray) : sufs 0 (T.map cut1) = sufs 1 T := by
  unfold sufs
  rw [List.map_map]
  refine List.map_congr_left fun s _ => ?_
  rw [Function.comp, cut1_list, List.drop_zero]
theorem WsOk.cut {f : Nat} {T : List ByteArray} (h : WsOk 1 f T) : WsOk 0 f (T.map cut1) := by
  refine ⟨by rw [sufs_cut]; exact h.rise, fun s _ => Nat.zero_le _, fun s hs => ?_, fun s hs u hu => ?_⟩
  · obtain ⟨t, ht, rfl⟩ := List.mem_map.1 hs
    have h1 := h.hi t ht
    have h2 := h.lo t ht
    rw [cut1_size]; omega
  · obtain ⟨t, ht, rfl⟩ := List.mem_map.1 hs
    rw [cut1_list] at hu
    exact h.asc t ht u (List.mem_of_mem_drop hu)
theorem ltr0_eq {s : ByteArray} (h : 0 < s.size) : s[0] = ltr 0 s := by
  unfold ltr
  have : 0 < s.data.toList.length := by rw [toL_len]; exact h
  rw [List.getD_eq_getElem?_getD, List.getElem?_eq_getElem this]
  rfl
theorem take_cut (S : List ByteArray) (fr j : Nat) (h : fr + j < S.length) : strsV (((S.drop fr).take (j + 1)).map cut1) = strsV (((S.drop fr).take j).map cut1) ++ [.string (cut1 (wAt S (fr + j)))] := by
  rw [List.take_succ_eq_append_getElem (by rw [List.length_drop]; omega), List.map_append, strsV, strsV, List.map_append]
  simp [wAt_eq _ _ h]
set_option maxRecDepth 100000 in
set_option maxHeartbeats 4000000 in
theorem l06Tails_any (a : Option Addr) (c : Nat) (S : List ByteArray) (fr k : Nat) (x : UInt8) (w : World) (h : Rd w a (strsV S)) (hl : S.length ≤ 3000) (hk0 : 0 < k) (hk : fr + k ≤ S.length) (hin : ∀ i, i < k → ltr 0 (wAt S (fr + i)) = x) (hout : fr + k < S.length → ltr 0 (wAt S (fr + k)) ≠ x) (hsz : ∀ i, i < S.length → fr ≤ i → 0 < (wAt S i).size) :
    Calls Tryz.prog 68 #[.slice a S.length c, .int .i64 (fr : Int)] w fun e w' => ∃ g c', e = .returned (.tuple #[.slice (some ⟨g, 0, none⟩) k c', .int .i64 ((fr + k : Nat) : Int)]) ∧ Own w' w.heap.size 9 1 (some ⟨g, 0, none⟩) k c' (strsV (((S.drop fr).take k).map cut1)) ∧ Ext w w' := by
  obtain ⟨b, o, rfl, hc⟩ := h.word (by omega)
  have HC : Hid (∀ i, i < S.length → ∀ w', Ext w w' → w'.cell? ⟨b, o + i, none⟩ = some (.string (wAt S i))) := hid (fun i hi w' k => k.cell (hc i hi))
  have HIN := hid hin
  have HOUT := hid hout
  have HSZ := hid hsz
  have HTC := hid (take_cut S fr)
  have hf0 := hc fr (by omega)
  have hz0 := hsz fr (by omega) (Nat.le_refl _)
  have hx0 := hin 0 hk0
  rw [Nat.add_zero] at hx0
  obtain ⟨s0, hs0⟩ : ∃ s, wAt S fr = s := ⟨_, rfl⟩
  rw [hs0] at hf0 hz0 hx0
  have hx1 : s0[0] = x := by rw [ltr0_eq hz0]; exact hx0
  obtain ⟨p0, hp0⟩ : ∃ p, o + fr = p := ⟨_, rfl⟩
  rw [hp0] at hf0
  have hlt0 := World.block_lt_of_cell? _ _ hf0
  obtain ⟨T, hT⟩ : ∃ T, strsV (((S.drop fr).take k).map cut1) = T := ⟨_, rfl⟩
  have HTT := hid hT
  rw [hT]
  clear hT h hc hin hout hsz hs0 hx0
  go_enter Tryz.func68, Tryz.ntmps68
  go_wp2_with fail
  go_loopw [6, 8] (fun t i wr => ∃ (j g c' : Nat), i = .int .i64 ((fr + j : Nat) : Int) ∧ j ≤ k ∧ t = .slice (some ⟨g, 0, none⟩) j c' ∧ Hid (Own wr w.heap.size 9 1 (some ⟨g, 0, none⟩) j c' (strsV (((S.drop fr).take j).map cut1))) ∧ w.heap.size ≤ g ∧ Hid (Ext w wr)) (fun _ i _ => fr + k - (intOf i).toNat)
  case atStart => exact ⟨0, w.heap.size, 0, rfl, by omega, rfl, hid (by simpa [strsV] using Own.empty _ _ _ _ _), by omega, hid ((Ext.refl w).alloc _)⟩
  case round =>
    clear hf0 hlt0
    obtain ⟨j, g, c', rfl, hj, rfl, HO, hg, HX⟩ := hrel
    by_cases hjk : j < k
    · have hd := HC.out (fr + j) (by omega) wr HX.out
      have hz := HSZ.out (fr + j) (by omega) (by omega)
      have hx := HIN.out j hjk
      have HT := hid (HTC.out j (by omega))
      obtain ⟨s, hs⟩ : ∃ s, wAt S (fr + j) = s := ⟨_, rfl⟩
      rw [hs] at hd hz hx HT
      have hx2 : s[0] = x := by rw [ltr0_eq hz]; exact hx
      obtain ⟨q, hq⟩ : ∃ q, o + (fr + j) = q := ⟨_, rfl⟩
      rw [hq] at hd
      have hdl := World.block_lt_of_cell? _ _ hd
      have hsz := HX.out.size
      clear hs hx
      have hx3 : Ext wr (wr.alloc (.cells #[.string (cut1 s)] 9)) := (Ext.refl _).alloc _
      have HO4 := hid (HO.out.ext hx3)
      go_wp2_with (at_builtin; refine wpList_appendO rfl _ _ 24 rfl El_str rfl rfl [.string (cut1 s)] (rd_of_new (by simp) _ _) rfl (by omega) (by simp [Value.oneCell']) HO4.out (.inr ⟨g, rfl⟩) (by simp; omega) (by unfold maxLen; omega) (by omega) ?_; intro g9 c9 w9 ho9 hc9 hs9; have HO9 := hid ho9; have HC9 := hid hc9; have HS9 := hid hs9; clear ho9 hc9 hs9)
      have hg9 : w.heap.size ≤ g9 := by
        obtain ⟨g0, e9, k1, -, -, -⟩ := HO9.out.form (by omega)
        simp only [Option.some.injEq, Addr.mk.injEq, and_true] at e9
        subst e9
        exact k1
      have hE9 : Ext w w9 := ((Ch.of_ext _ (HX.out.trans hx3)).next HC9.out (J := fun b => blkA (some (⟨g, 0, none⟩ : Addr)) = some b) (K := fun _ => False) (fun b hb e => by
        have e2 : g = b := by simpa [blkA] using e
        omega)).ext (by simp)
      go_roundw
      case rel => exact ⟨j + 1, g9, c9, by go_num, by omega, rfl, hid (by rw [HT.out]; exact HO9.out), hg9, hid hE9⟩
      case measure => simp [intOf]; omega
    · obtain rfl : j = k := by omega
      by_cases hkl : fr + j < S.length
      · have hd := HC.out (fr + j) hkl wr HX.out
        have hz := HSZ.out (fr + j) hkl (by omega)
        have hx := HOUT.out hkl
        obtain ⟨s, hs⟩ : ∃ s, wAt S (fr + j) = s := ⟨_, rfl⟩
        rw [hs] at hd hz hx
        obtain ⟨y, hy⟩ : ∃ y, s[0] = y := ⟨_, rfl⟩
        have hyx : ¬ ((y.toNat : Int) = (x.toNat : Int)) := fun e => by
          have e2 : y = x := UInt8.toNat_inj.1 (by omega)
          have e3 : ltr 0 s = y := by rw [← hy]; exact (ltr0_eq hz).symm
          exact hx (by rw [e3, e2])
        obtain ⟨q, hq⟩ : ∃ q, o + (fr + j) = q := ⟨_, rfl⟩
        rw [hq] at hd
        clear hs hx
        go_wp2_with fail
        go_returns
        exact ⟨g, c', rfl, by rw [← HTT.out]; exact HO.out, HX.out⟩
      · have hkl2 : ¬ ((fr + j : Nat) : Int) < (S.length : Int) := by omega
        go_wp2_with fail
        go_returns
        exact ⟨g, c', rfl, by rw [← HTT.out]; exact HO.out, HX.out⟩
end Go.Proofs.YtabljchbchjjcaaGreatDoor
