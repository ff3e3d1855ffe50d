/- Piles and racks: which strings are. Conditions: at most 2^20 bytes. -/
import Derived.Test.YtaigabenlccdaaaMg3
namespace Go.Proofs.Ytaigabenlccdaaa
set_option linter.unusedVariables false
set_option linter.unusedSimpArgs false
open Go Go.RowKit
def cAt (s : ByteArray) (k : Nat) : Int := ((s.data.toList.getD k 0).toNat : Int)
theorem cAt_get (s : ByteArray) (k : Nat) (h : k < s.size) : ∃ x : UInt8, s[k] = x ∧ cAt s k = (x.toNat : Int) := by
  have hk : k < s.data.toList.length := by simpa using h
  refine ⟨s[k], rfl, ?_⟩
  unfold cAt
  rw [List.getD_eq_getElem?_getD, List.getElem?_eq_getElem hk]
  rfl
def tilB (c : Int) : Bool := c == 63 || smallB c
def tilsB (s : ByteArray) : Bool := (List.range s.size).all fun i => tilB (cAt s i)
def ascB (s : ByteArray) : Bool := (List.range (s.size - 1)).all fun i => decide (cAt s i ≤ cAt s (i + 1))
def pileOk (s : ByteArray) : Bool := decide (s.size ≤ 120) && (tilsB s && ascB s)
def rackOk (s : ByteArray) : Bool := decide (s.size ≤ 7) && pileOk s
theorem tilsB_no {s : ByteArray} (k : Nat) (hk : k < s.size) (h : tilB (cAt s k) = false) : tilsB s = false := by
  unfold tilsB
  rw [List.all_eq_false]
  exact ⟨k, List.mem_range.2 hk, by simp [h]⟩
theorem tilsB_yes {s : ByteArray} (h : ∀ k, k < s.size → tilB (cAt s k) = true) : tilsB s = true := by
  unfold tilsB
  rw [List.all_eq_true]
  intro i hi
  exact h i (List.mem_range.1 hi)
theorem ascB_no {s : ByteArray} (k : Nat) (hk : k + 1 < s.size) (h : ¬ cAt s k ≤ cAt s (k + 1)) : ascB s = false := by
  unfold ascB
  rw [List.all_eq_false]
  exact ⟨k, List.mem_range.2 (by omega), by simp [h]⟩
theorem ascB_yes {s : ByteArray} (h : ∀ k, k + 1 < s.size → cAt s k ≤ cAt s (k + 1)) : ascB s = true := by
  unfold ascB
  rw [List.all_eq_true]
  intro i hi
  have := List.mem_range.1 hi
  simpa using h i (by omega)
theorem placeI_tile (c : Int) : decide (placeI c < 0) = !tilB c := by
  unfold placeI tilB smallB
  by_cases h : c = 63
  · rw [if_pos h]; simp [h]
  · rw [if_neg h]
    by_cases h2 : 97 ≤ c ∧ c ≤ 122
    · rw [if_pos h2]; simp [h, h2]; omega
    · rw [if_neg h2]; simp [h, h2]
set_option maxHeartbeats 400000 in
theorem onlyTiles_any (s : ByteArray) (w : World) (hs : s.size ≤ 1048576) : Calls Try.prog 90 #[.string s] w (Same (.bool (tilsB s)) w) := by
  have HG := hid (cAt_get s)
  have HN := hid (@tilsB_no s)
  have HY := hid (@tilsB_yes s)
  go_enter Try.func90, Try.ntmps90
  go_wp2_with fail
  go_loopw [3] (fun i wr => ∃ k : Nat, k ≤ s.size ∧ i = .int .i64 (k : Int) ∧ Hid (∀ j, j < k → tilB (cAt s j) = true) ∧ wr = w) (fun i _ => s.size - (intOf i).toNat)
  case atStart => exact ⟨0, by omega, rfl, hid (fun j hj => by omega), rfl⟩
  case round =>
    obtain ⟨k, hk, rfl, hall, rfl⟩ := hrel
    by_cases hlt : k < s.size
    · obtain ⟨x, hx, hc⟩ := HG.out k hlt
      have HC := hid hc
      have hxb : x.toNat < 256 := x.toNat_lt
      have HP := hid (place_any (x.toNat : Int) wr (by omega) (by omega))
      have hpt := placeI_tile (x.toNat : Int)
      obtain ⟨p, hp⟩ : ∃ p, placeI (x.toNat : Int) = p := ⟨_, rfl⟩
      rw [hp] at HP hpt
      clear hc hp
      cases ht : tilB (x.toNat : Int)
      · have HT := hid ht
        rw [ht] at hpt
        have hp0 : p < 0 := by simpa using hpt
        clear hpt ht
        go_wp2_with fail
        refine HP.out.mono ?_
        rintro e w' ⟨rfl, rfl⟩
        go_wp2_with fail
        go_returns
        exact ⟨by rw [HN.out _ hlt (by rw [HC.out, HT.out])]; rfl, rfl⟩
      · have HT := hid ht
        rw [ht] at hpt
        have hp0 : ¬ p < 0 := by simpa using hpt
        clear hpt ht
        go_wp2_with fail
        refine HP.out.mono ?_
        rintro e w' ⟨rfl, rfl⟩
        go_wp2_with fail
        go_roundw
        case rel =>
          exact ⟨k + 1, by omega, by go_num, hid (fun j hj => by
            by_cases e : j = k
            · subst e; rw [HC.out, HT.out]
            · exact hall.out j (by omega)), by first | rfl | trivial⟩
        case measure => simp [intOf]; omega
    · obtain rfl : k = s.size := by omega
      go_wp2_with fail
      go_returns
      exact ⟨by rw [HY.out hall.out]; rfl, rfl⟩
set_option maxHeartbeats 400000 in
theorem ValidPile_any (s : ByteArray) (w : World) (hs : s.size ≤ 1048576) : Calls Try.prog 65 #[.string s] w (Ret (.bool (pileOk s)) w) := by
  have HG := hid (cAt_get s)
  have HN := hid (@ascB_no s)
  have HY := hid (@ascB_yes s)
  have H : Hid (pileOk s = (decide (s.size ≤ 120) && (tilsB s && ascB s))) := hid rfl
  by_cases h120 : s.size ≤ 120
  case neg =>
    have H0 : Hid (pileOk s = false) := hid (by rw [H.out, decide_eq_false h120]; rfl)
    go_enter Try.func65, Try.ntmps65
    go_wp2_with fail
    go_returns
    exact ⟨by rw [H0.out]; rfl, Ext.refl _⟩
  case pos =>
  have HO := hid (onlyTiles_any s w hs)
  cases ht : tilsB s
  · have H0 : Hid (pileOk s = false) := hid (by rw [H.out, ht]; simp)
    rw [ht] at HO
    clear ht
    go_enter Try.func65, Try.ntmps65
    go_wp2_with fail
    refine HO.out.mono ?_
    rintro e w' ⟨rfl, rfl⟩
    go_wp2_with fail
    go_returns
    exact ⟨by rw [H0.out]; rfl, Ext.refl _⟩
  · have H0 : Hid (pileOk s = ascB s) := hid (by rw [H.out, ht, decide_eq_true h120]; rfl)
    rw [ht] at HO
    clear ht H
    go_enter Try.func65, Try.ntmps65
    go_wp2_with fail
    refine HO.out.mono ?_
    rintro e w' ⟨rfl, rfl⟩
    go_wp2_with fail
    go_loopw [3] (fun i wr => ∃ k : Nat, (k ≤ s.size ∨ k ≤ 1) ∧ 1 ≤ k ∧ i = .int .i64 (k : Int) ∧ Hid (∀ j, j + 1 < k → cAt s j ≤ cAt s (j + 1)) ∧ Ext w wr) (fun i _ => s.size - (intOf i).toNat)
    case atStart => exact ⟨1, by omega, by omega, rfl, hid (fun j hj => by omega), Ext.refl _⟩
    case round =>
      obtain ⟨k, hk, hk1, rfl, hall, hE⟩ := hrel
      by_cases hlt : k < s.size
      · obtain ⟨q, hq⟩ : ∃ q, k = q + 1 := ⟨k - 1, by omega⟩
        have hlq : q < s.size := by omega
        obtain ⟨x, hx, hc⟩ := HG.out q hlq
        obtain ⟨y, hy, hd⟩ := HG.out k hlt
        have e1 : (k : Int) - 1 = (q : Int) := by omega
        have HC : Hid (cAt s q = (x.toNat : Int)) := hid hc
        have HD : Hid (cAt s (q + 1) = (y.toNat : Int)) := hid (by rw [← hq]; exact hd)
        have HQ := hid hq
        have hq6 : q ≤ 1048576 := by omega
        clear hq
        have hxb : x.toNat < 256 := x.toNat_lt
        have hyb : y.toNat < 256 := y.toNat_lt
        clear hc hd
        by_cases hxy : (y.toNat : Int) < (x.toNat : Int)
        · go_wp2_with fail
          go_quiet (fail)
          go_wp2_with fail
          go_returns
          exact ⟨by rw [H0.out, HN.out q (by rw [← HQ.out]; exact hlt) (by rw [HC.out, HD.out]; omega)]; rfl, hE.drewN _⟩
        · go_wp2_with fail
          go_quiet (fail)
          go_wp2_with fail
          go_roundw
          case rel =>
            exact ⟨k + 1, by omega, by omega, by go_num, hid (fun j hj => by
              by_cases e : j = q
              · subst e; rw [HC.out, HD.out]; omega
              · exact hall.out j (by have := HQ.out; omega)), hE.drewN _⟩
          case measure => simp [intOf]; omega
      · have hA := hid (HY.out (fun j hj => hall.out j (by omega)))
        have hki : ¬ (k : Int) < (s.size : Int) := by omega
        go_wp2_with fail
        go_returns
        exact ⟨by rw [H0.out, hA.out]; rfl, hE⟩
theorem ValidRack_any (s : ByteArray) (w : World) (hs : s.size ≤ 1048576) : Calls Try.prog 43 #[.string s] w (Ret (.bool (rackOk s)) w) := by
  have H : Hid (rackOk s = (decide (s.size ≤ 7) && pileOk s)) := hid rfl
  have HP := hid (ValidPile_any s w hs)
  by_cases h7 : s.size ≤ 7
  · have H0 : Hid (rackOk s = pileOk s) := hid (by rw [H.out, decide_eq_true h7]; rfl)
    go_enter Try.func43, Try.ntmps43
    go_wp2_with fail
    refine HP.out.mono ?_
    rintro e w' ⟨rfl, hx⟩
    go_wp2_with fail
    go_returns
    exact ⟨by rw [H0.out]; rfl, hx⟩
  · have H0 : Hid (rackOk s = false) := hid (by rw [H.out, decide_eq_false h7]; rfl)
    go_enter Try.func43, Try.ntmps43
    go_wp2_with fail
    go_returns
    exact ⟨by rw [H0.out]; rfl, Ext.refl _⟩
theorem l03Tile_any (c : Int) (w : World) (h0 : 0 ≤ c) (h1 : c < 256) : Calls Try.prog 92 #[.int .u8 c] w (Same (.bool (tilB c)) w) := by
  have H : Hid (tilB c = (c == 63 || smallB c)) := hid rfl
  have HS := hid (l01Small_any c w)
  by_cases h : c = 63
  · have H0 : Hid (tilB c = true) := hid (by rw [H.out, h]; rfl)
    have hb : (c == 63) = true := by simp [h]
    clear h
    go_enter Try.func92, Try.ntmps92
    go_wp2_with fail
    go_returns
    exact ⟨by rw [H0.out]; rfl, rfl⟩
  · have hb : (c == 63) = false := by simp [h]
    have H0 : Hid (tilB c = smallB c) := hid (by rw [H.out, hb]; rfl)
    clear h
    go_enter Try.func92, Try.ntmps92
    go_wp2_with fail
    refine HS.out.mono ?_
    rintro e w' ⟨rfl, rfl⟩
    go_wp2_with fail
    go_returns
    exact ⟨by rw [H0.out]; rfl, rfl⟩
set_option maxHeartbeats 1000000 in
theorem l03Pile_any (s : ByteArray) (w : World) (hs : s.size ≤ 1048576) : Calls Try.prog 68 #[.string s] w (Ret (.bool (pileOk s)) w) := by
  have HG := hid (cAt_get s)
  have HN := hid (@ascB_no s)
  have HY := hid (@ascB_yes s)
  have TN := hid (@tilsB_no s)
  have TY := hid (@tilsB_yes s)
  have H : Hid (pileOk s = (decide (s.size ≤ 120) && (tilsB s && ascB s))) := hid rfl
  go_enter Try.func68, Try.ntmps68
  go_wp2_with fail
  go_loopw [3] (fun i wr => ∃ k : Nat, k ≤ s.size ∧ i = .int .i64 (k : Int) ∧ Hid (∀ j, j < k → tilB (cAt s j) = true) ∧ Hid (∀ j, j + 1 < k → cAt s j ≤ cAt s (j + 1)) ∧ Ext w wr) (fun i _ => s.size - (intOf i).toNat)
  case atStart => exact ⟨0, by omega, rfl, hid (fun j hj => by omega), hid (fun j hj => by omega), Ext.refl _⟩
  case round =>
    obtain ⟨k, hk, rfl, hall, hasc, hE⟩ := hrel
    by_cases hlt : k < s.size
    · obtain ⟨x, hx, hc⟩ := HG.out k hlt
      have HC := hid hc
      have hxb : x.toNat < 256 := x.toNat_lt
      have HP := hid (fun w => l03Tile_any (x.toNat : Int) w (by omega) (by omega))
      clear hc
      cases ht : tilB (x.toNat : Int)
      · have HT := hid ht
        rw [ht] at HP
        clear ht
        go_wp2_with fail
        go_quiet ((go_at_call 92; exact Calls.quiet_of_same ((HP.out _).mono fun _ _ h => ⟨h.1, h.2.symm⟩)))
        go_wp2_with fail
        go_returns
        exact ⟨ret_bool (by rw [H.out, TN.out k hlt (by rw [HC.out, HT.out])]; simp), hE.drewN _⟩
      · have HT := hid ht
        rw [ht] at HP
        clear ht
        have HA : Hid (∀ j, j < k + 1 → tilB (cAt s j) = true) := hid (fun j hj => by
            by_cases e : j = k
            · subst e; rw [HC.out, HT.out]
            · exact hall.out j (by omega))
        by_cases h0 : k = 0
        · subst h0
          go_wp2_with fail
          go_quiet ((go_at_call 92; exact Calls.quiet_of_same ((HP.out _).mono fun _ _ h => ⟨h.1, h.2.symm⟩)))
          go_wp2_with fail
          go_roundw
          case rel => exact ⟨1, by omega, by go_num, HA, hid (fun j hj => by omega), hE.drewN _⟩
          case measure => simp [intOf]; omega
        · obtain ⟨q, hq⟩ : ∃ q, k = q + 1 := ⟨k - 1, by omega⟩
          have hlq : q < s.size := by omega
          obtain ⟨y, hy, hd⟩ := HG.out q hlq
          have e1 : (k : Int) - 1 = (q : Int) := by omega
          have e2 : ¬ (k : Int) ≤ 0 := by omega
          have e3 : (0 : Int) < (k : Int) := by omega
          have e4 : 0 < k := by omega
          have HD := hid hd
          have HQ := hid hq
          have hq6 : q ≤ 1048576 := by omega
          clear hq
          have hyb : y.toNat < 256 := y.toNat_lt
          clear hd
          by_cases hxy : (x.toNat : Int) < (y.toNat : Int)
          · go_wp2_with fail
            go_quiet ((go_at_call 92; exact Calls.quiet_of_same ((HP.out _).mono fun _ _ h => ⟨h.1, h.2.symm⟩)))
            go_wp2_with fail
            go_returns
            exact ⟨ret_bool (by rw [H.out, HN.out q (by rw [← HQ.out]; exact hlt) (by rw [← HQ.out, HC.out, HD.out]; omega)]; simp), hE.drewN _⟩
          · go_wp2_with fail
            go_quiet ((go_at_call 92; exact Calls.quiet_of_same ((HP.out _).mono fun _ _ h => ⟨h.1, h.2.symm⟩)))
            go_wp2_with fail
            go_roundw
            case rel =>
              exact ⟨k + 1, by omega, by go_num, HA, hid (fun j hj => by
                by_cases e : j = q
                · subst e; rw [← HQ.out, HC.out, HD.out]; omega
                · exact hasc.out j (by have := HQ.out; omega)), hE.drewN _⟩
            case measure => simp [intOf]; omega
    · obtain rfl : k = s.size := by omega
      have HA := hid (TY.out hall.out)
      have HB := hid (HY.out hasc.out)
      go_wp2_with fail
      go_returns
      refine ⟨ret_bool ?_, hE⟩
      rw [H.out, HA.out, HB.out]
      simp
      omega
theorem l03Rack_any (s : ByteArray) (w : World) (hs : s.size ≤ 1048576) : Calls Try.prog 48 #[.string s] w (Ret (.bool (rackOk s)) w) := by
  have H : Hid (rackOk s = (decide (s.size ≤ 7) && pileOk s)) := hid rfl
  have HP := hid (l03Pile_any s w hs)
  cases hq : pileOk s
  · rw [hq] at HP
    have H0 : Hid (rackOk s = false) := hid (by rw [H.out, hq]; simp)
    clear hq
    go_enter Try.func48, Try.ntmps48
    go_wp2_with fail
    refine HP.out.mono ?_
    rintro e w' ⟨rfl, hx⟩
    go_wp2_with fail
    go_returns
    exact ⟨by rw [H0.out]; rfl, hx⟩
  · rw [hq] at HP
    have H0 : Hid (rackOk s = decide (s.size ≤ 7)) := hid (by rw [H.out, hq]; simp)
    clear hq
    go_enter Try.func48, Try.ntmps48
    go_wp2_with fail
    refine HP.out.mono ?_
    rintro e w' ⟨rfl, hx⟩
    go_wp2_with fail
    go_returns
    exact ⟨ret_bool (by rw [H0.out]; simp; omega), hx⟩
end Go.Proofs.Ytaigabenlccdaaa
