/- Piles of letters, by the reference. Conditions: at most 2^20 bytes. -/
import Derived.Test.YtmohfdfjlgekaaaGreatDoorCh03b
namespace Go.Proofs.YtmohfdfjlgekaaaGreatDoor
set_option linter.unusedVariables false
set_option linter.unusedSimpArgs false
open Go Go.RowKit
theorem bytesV_setU (l : List UInt8) (j : Nat) (x : UInt8) : (bytesV l).set j (.int .u8 x.toNat) = bytesV (l.set j x) := by
  unfold bytesV
  rw [List.map_set]
theorem gap_get (L : List UInt8) (j : Nat) (y : UInt8) (h : j ≤ L.length) : (L.take j ++ y :: L.drop j)[j]? = some y := by
  rw [List.getElem?_append_right (by rw [List.length_take]; omega), List.length_take, show j - min j L.length = 0 by omega]; rfl
theorem gap_lt (L : List UInt8) (j k : Nat) (y : UInt8) (h : j ≤ L.length) (hk : k < j) : (L.take j ++ y :: L.drop j)[k]? = L[k]? := by
  rw [List.getElem?_append_left (by rw [List.length_take]; omega), List.getElem?_take_of_lt hk]
theorem gap_set (L : List UInt8) (j : Nat) (y x : UInt8) (h : j ≤ L.length) : (L.take j ++ y :: L.drop j).set j x = L.take j ++ x :: L.drop j := by
  rw [List.set_append_right _ _ (by rw [List.length_take]; omega), List.length_take, show j - min j L.length = 0 by omega]; rfl
theorem gap_back (L : List UInt8) (j : Nat) (u : UInt8) (h : j < L.length) (hu : L[j]? = some u) : L.take (j + 1) ++ u :: L.drop (j + 1) = L.take j ++ u :: L.drop j := by
  have hu' : L[j] = u := by rw [List.getElem?_eq_getElem h] at hu; exact Option.some.inj hu
  rw [List.take_succ_eq_append_getElem h, hu', List.append_assoc, List.drop_eq_getElem_cons h, hu']
  rfl
theorem gap_put {w : World} {B g n c j : Nat} {e : TypeId} {L : List UInt8} {y : UInt8} (h : w.ownsRow B e 1 (.slice (some ⟨g, 0, none⟩) n c) n (bytesV (L.take j ++ y :: L.drop j))) (hj : j ≤ L.length) (z : UInt8) (m : Nat) :
    ((w.drewN m).setCell ⟨g, j, none⟩ (.int .u8 z.toNat)).ownsRow B e 1 (.slice (some ⟨g, 0, none⟩) n c) n (bytesV (L.take j ++ z :: L.drop j)) := by
  have h' : (w.drewN m).ownsRow B e 1 (.slice (some ⟨g, 0, none⟩) n c) n (bytesV (L.take j ++ y :: L.drop j)) := h
  have := (h'.stored j (.int .u8 z.toNat)).1
  rwa [bytesV_setU, gap_set L j y z hj] at this
def sortS (s : ByteArray) : ByteArray := ⟨(sortU s.data.toList).toArray⟩
set_option maxHeartbeats 2000000 in
theorem l03Sort_any (s : ByteArray) (w : World) (hs : s.size ≤ 1048576) : Calls Tryz.prog 80 #[.string s] w (Ret (.string (sortS s)) w) := by
  have HR : Hid (sortS s = ⟨(sortU s.data.toList).toArray⟩) := hid rfl
  go_enter Tryz.func80, Tryz.ntmps80
  go_wp2_with fail
  go_loopw [3, 4] (fun v i wr => ∃ (k cap : Nat) (a : Option Addr), k ≤ s.size ∧ v = .slice a k cap ∧ i = .int .i64 (k : Int) ∧ Own wr (w.heap.size + 1) 5 1 a k cap (bytesV (sortU (s.data.toList.take k))) ∧ Ext (w.alloc (.cells #[] 5)) wr) (fun _ i _ => s.size - (intOf i).toNat)
  case atStart => exact ⟨0, 0, some ⟨w.heap.size, 0, none⟩, by omega, rfl, rfl, by simpa [sortU, bytesV] using Own.empty _ _ _ _ _, Ext.refl _⟩
  case round =>
    obtain ⟨k, cap, a, hk, rfl, rfl, hown, hext⟩ := hrel
    have hsz := hext.size
    simp only [World.size_alloc] at hsz
    by_cases hlt : k < s.size
    · obtain ⟨L, hL⟩ : ∃ L, sortU (s.data.toList.take k) = L := ⟨_, rfl⟩
      have hLl : L.length = k := by rw [← hL, sortU_length, List.length_take]; simp; omega
      obtain ⟨x, hxx⟩ : ∃ x, s[k] = x := ⟨_, rfl⟩
      have hidx : s.data.toList[k]? = some x := by rw [List.getElem?_eq_getElem (by simpa using hlt)]; exact congrArg some hxx
      have HI := hid hidx
      have HN : Hid (∀ j, j ≤ L.length → (∀ y ∈ L.drop j, x.toNat < y.toNat) → (j = 0 ∨ (L.getD (j - 1) 0).toNat ≤ x.toNat) → L.take j ++ x :: L.drop j = sortU (s.data.toList.take (k + 1))) := hid (fun j h1 h2 h3 => by
        have := sort_step (s.data.toList.take k) x j (by rw [← sortU_length, hL]; exact h1) (by rw [hL]; exact h2) (by rw [hL]; exact h3)
        rw [hL] at this
        rw [this, List.take_succ_eq_append_getElem (by simpa using hlt)]
        congr 2
        rw [List.getElem?_eq_getElem (by simpa using hlt)] at hidx
        exact (congrArg (fun q => [q]) (Option.some.inj hidx)).symm)
      rw [hL] at hown
      have HL := hid hLl
      have hxb : x.toNat < 256 := x.toNat_lt
      clear hL hLl hidx
      go_wp2_with (at_builtin; refine wpList_push rfl _ _ 22 rfl El_u8 rfl [_] rfl rfl (by simp [Value.oneCell']) hown (by omega) (by unfold maxLen; omega) (by omega) ?_; intro a1 c1 w1 hown1 hb1)
      obtain ⟨g, rfl, hgB, hgl, hfz, hrow⟩ := hown1.form (by omega)
      have HX1 := hid (hext.thenBelow hb1 (by simp))
      have HB := hid hrow
      clear hown1 hb1 hrow hfz hown
      have hkk : k < k + 1 := by omega
      go_loopw [5] (fun v wq => ∃ (j : Nat) (y : UInt8), j ≤ k ∧ v = .int .i64 (j : Int) ∧ Hid (wq.ownsRow (w.heap.size + 1) 5 1 (.slice (some ⟨g, 0, none⟩) (k + 1) c1) (k + 1) (bytesV (L.take j ++ y :: L.drop j))) ∧ Hid (∀ z ∈ L.drop j, x.toNat < z.toNat) ∧ Hid (Ext (w.alloc (.cells #[] 5)) wq)) (fun v _ => (intOf v).toNat)
      case atStart => exact ⟨k, x, Nat.le_refl _, rfl, hid (by rw [← HL.out, List.take_length, List.drop_length, bytesV_append]; rw [HL.out]; exact HB.out), hid (by rw [← HL.out, List.drop_length]; simp), HX1⟩
      case round =>
        obtain ⟨j, y, hj, rfl, hR, hG, hX⟩ := hrel
        have HGE : Hid (j < (bytesV (L.take j ++ y :: L.drop j)).length) := hid (by rw [bytesV_length, List.length_append, List.length_cons, List.length_take, List.length_drop, HL.out]; omega)
        have hcj : wr.cell? ⟨g, j, none⟩ = some (.int .u8 y.toNat) := by
          rw [hR.out.cellAt j (by omega), bytesV_get, gap_get L j y (by rw [HL.out]; exact hj)]; rfl
        have hfj := hR.out.frozenAt j
        have hst := hid (fun z m => gap_put hR.out (show j ≤ L.length by rw [HL.out]; exact hj) z m)
        by_cases hj0 : 0 < j
        · obtain ⟨u, hu⟩ : ∃ u, L[j - 1]? = some u := ⟨L[j - 1]'(by rw [HL.out]; omega), List.getElem?_eq_getElem _⟩
          have hcu : wr.cell? ⟨g, j - 1, none⟩ = some (.int .u8 u.toNat) := by
            rw [hR.out.cellAt (j - 1) (by omega), bytesV_get, gap_lt L j (j - 1) y (by rw [HL.out]; exact hj) (by omega), hu]; rfl
          have e1 : ((j : Int) - 1).toNat = j - 1 := by omega
          have hub : u.toNat < 256 := u.toNat_lt
          have HU := hid hu
          by_cases hxu : (x.toNat : Int) < (u.toNat : Int)
          · have HGB := hid (gap_back L (j - 1) u (by rw [HL.out]; omega) hu)
            rw [show j - 1 + 1 = j by omega] at HGB
            have HG2 : Hid (∀ z ∈ L.drop (j - 1), x.toNat < z.toNat) := hid (by
              rw [List.drop_eq_getElem_cons (by rw [HL.out]; omega), show j - 1 + 1 = j by omega]
              intro z hz
              rcases List.mem_cons.1 hz with rfl | hz
              · rw [List.getElem?_eq_getElem (by rw [HL.out]; omega)] at hu
                rw [Option.some.inj hu]; omega
              · exact hG.out z hz)
            clear hu
            have hj1 : (0 : Int) < (j : Int) := by omega
            go_wp2_with fail
            go_quiet (fail)
            go_wp2_with fail
            refine ⟨⟨j - 1, u, by omega, by rw [show (((j - 1 : Nat) : Int)) = (j : Int) - 1 by omega], hid (by rw [← HGB.out]; exact hst.out u _), HG2, hid ((hX.out.drewN _).setCell (by simpa using hgB) _)⟩, by simp [intOf]; omega⟩
          · have hxu2 : ¬ (x.toNat : Int) < (u.toNat : Int) := hxu
            have HD : Hid ((L.getD (j - 1) 0).toNat ≤ x.toNat) := hid (by rw [List.getD_eq_getElem?_getD, hu]; simp; omega)
            have HJ := hid (HN.out j (by rw [HL.out]; exact hj) hG.out (.inr HD.out))
            clear hu
            have hj1 : (0 : Int) < (j : Int) := by omega
            go_wp2_with fail
            go_quiet (fail)
            go_wp2_with fail
            go_roundw
            case rel => exact ⟨k + 1, c1, _, by omega, rfl, by go_num, .inr (by rw [← HJ.out]; exact hst.out x _), (hX.out.drewN _).setCell (by simpa using hgB) _⟩
            case measure => simp [intOf]; omega
        · obtain rfl : j = 0 := by omega
          have HJ := hid (HN.out 0 (by omega) hG.out (.inl rfl))
          go_wp2_with fail
          go_quiet (fail)
          go_wp2_with fail
          go_roundw
          case rel => exact ⟨k + 1, c1, _, by omega, rfl, by go_num, .inr (by rw [← HJ.out]; exact hst.out x _), (hX.out.drewN _).setCell (by simpa using hgB) _⟩
          case measure => simp [intOf]; omega
    · obtain rfl : k = s.size := by omega
      have e0 : s.data.toList.take s.size = s.data.toList := List.take_of_length_le (by simp)
      rw [e0] at hown
      clear e0
      go_wp2_with (refine wpList_str rfl _ 22 9 rfl Tryz.underlying22 Tryz.underlying5 Tryz.underlying9 rfl (l := sortU s.data.toList) (by rw [sortU_length]; simp) hown.rd ?_)
      go_returns
      exact ⟨by rw [HR.out]; rfl, ((Ext.refl w).alloc _).trans hext⟩
theorem tile_step (l : List UInt8) (k : Nat) (x : UInt8) (hx : l[k]? = some x) : (tilesL (l.take k) ++ l.drop k).set k (tileOf x) = tilesL (l.take (k + 1)) ++ l.drop (k + 1) := by
  have hk := (List.getElem?_eq_some_iff.1 hx).1
  have hlen : (tilesL (l.take k)).length = k := by unfold tilesL; rw [List.length_map, List.length_take]; omega
  have hx' : l[k] = x := by rw [List.getElem?_eq_getElem hk] at hx; exact Option.some.inj hx
  rw [List.set_append_right _ _ (by omega), hlen, Nat.sub_self, List.drop_eq_getElem_cons hk, List.set_cons_zero, List.take_succ_eq_append_getElem hk]
  unfold tilesL
  rw [List.map_append, List.append_assoc, hx']
  rfl
theorem tile_at (l : List UInt8) (k : Nat) (hk : k ≤ l.length) : (tilesL (l.take k) ++ l.drop k)[k]? = l[k]? := by
  have hlen : (tilesL (l.take k)).length = k := by unfold tilesL; rw [List.length_map, List.length_take]; omega
  rw [List.getElem?_append_right (by omega), hlen, Nat.sub_self, List.getElem?_drop]
  rfl
set_option maxHeartbeats 2000000 in
theorem l03Tiles_any (s : ByteArray) (w : World) (hs : s.size ≤ 1048576) : Calls Tryz.prog 39 #[.string s] w (Ret (.string (pileS s)) w) := by
  have HR : Hid (pileS s = sortS ⟨(tilesL s.data.toList).toArray⟩) := hid (by simp [pileS, sortS])
  have HTL : Hid ((⟨(tilesL s.data.toList).toArray⟩ : ByteArray).size = s.size) := hid (by show (tilesL s.data.toList).toArray.size = s.data.size; simp [tilesL])
  go_enter Tryz.func39, Tryz.ntmps39
  go_wp2_with (refine wpList_bytes rfl _ 9 22 rfl Tryz.underlying9 Tryz.underlying22 Tryz.underlying5 (s := s) rfl ?_; intro c w1 hw hc hx hz)
  have HW := hid hw
  have HX := hid hx
  have HZ := hid hz
  clear hw hx hz
  go_loopw [4] (fun i wr => ∃ k : Nat, k ≤ s.size ∧ i = .int .i64 (k : Int) ∧ Hid (Wr wr w.heap.size (bytesV (tilesL (s.data.toList.take k) ++ s.data.toList.drop k))) ∧ Hid (Ext w wr)) (fun i _ => s.size - (intOf i).toNat)
  case atStart => exact ⟨0, by omega, rfl, hid (by simpa [tilesL] using HW.out), HX⟩
  case round =>
    obtain ⟨k, hk, rfl, hW, hE⟩ := hrel
    by_cases hlt : k < s.size
    · obtain ⟨x, hx⟩ : ∃ x, s.data.toList[k]? = some x := ⟨s.data.toList[k]'(by simpa using hlt), List.getElem?_eq_getElem _⟩
      have hxb : x.toNat < 256 := x.toNat_lt
      have hkl : k < (bytesV (tilesL (s.data.toList.take k) ++ s.data.toList.drop k)).length := by
        rw [bytesV_length, List.length_append]; simp [tilesL]; omega
      have hck : wr.cell? ⟨w.heap.size, k, none⟩ = some (.int .u8 x.toNat) := hW.out.2.1 k _ (by rw [bytesV_get, tile_at _ _ (by simp; omega), hx]; rfl)
      have hfk := hW.out.2.2 k hkl
      have HS := hid (tile_step s.data.toList k x hx)
      by_cases hcap : 65 ≤ x.toNat ∧ x.toNat ≤ 90
      · have hcb : capB (x.toNat : Int) = true := by simp [capB]; omega
        have HC := hid (l03Capital_any (x.toNat : Int))
        rw [hcb] at HC
        have HT : Hid (tileOf x = 63) := hid (by unfold tileOf; rw [if_pos hcap])
        have HW2 := hid (hW.out.set k hkl (.int .u8 (63 : UInt8).toNat))
        have HE2 : Hid (Ext w (wr.setCell ⟨w.heap.size, k, none⟩ (.int .u8 63))) := hid (hE.out.setCell (Nat.le_refl _) _)
        have HW3 : Hid (Wr (wr.setCell ⟨w.heap.size, k, none⟩ (.int .u8 63)) w.heap.size (bytesV (tilesL (s.data.toList.take (k + 1)) ++ s.data.toList.drop (k + 1)))) := hid (by
          have h := HW2.out
          rw [← HS.out, HT.out, ← bytesV_setU]
          exact h)
        clear hcb hx hcap hkl HW2
        go_wp2_with fail
        refine (HC.out _).mono ?_
        rintro e w' ⟨rfl, rfl⟩
        go_wp2_with fail
        go_roundw
        case rel => exact ⟨k + 1, by omega, by go_num, HW3, HE2⟩
        case measure => simp [intOf]; omega
      · have hcb : capB (x.toNat : Int) = false := by simp [capB]; omega
        have HC := hid (l03Capital_any (x.toNat : Int))
        rw [hcb] at HC
        have HW3 : Hid (Wr wr w.heap.size (bytesV (tilesL (s.data.toList.take (k + 1)) ++ s.data.toList.drop (k + 1)))) := hid (by
          have h := hW.out
          have ht : tileOf x = x := by unfold tileOf; rw [if_neg hcap]
          have e : (tilesL (s.data.toList.take k) ++ s.data.toList.drop k).set k x = tilesL (s.data.toList.take k) ++ s.data.toList.drop k := by
            have h1 := tile_at s.data.toList k (by simp; omega)
            rw [hx] at h1
            obtain ⟨h2, h3⟩ := List.getElem?_eq_some_iff.1 h1
            rw [← h3]
            exact List.set_getElem_self h2
          rw [← HS.out, ht, e]
          exact h)
        clear hcb hx hcap hkl
        go_wp2_with fail
        refine (HC.out _).mono ?_
        rintro e w' ⟨rfl, rfl⟩
        go_wp2_with fail
        go_roundw
        case rel => exact ⟨k + 1, by omega, by go_num, HW3, hE⟩
        case measure => simp [intOf]; omega
    · obtain rfl : k = s.size := by omega
      have e0 : tilesL (s.data.toList.take s.size) ++ s.data.toList.drop s.size = tilesL s.data.toList := by
        rw [List.take_of_length_le (by simp), List.drop_eq_nil_of_le (by simp), List.append_nil]
      rw [e0] at hW
      clear e0
      go_wp2_with (refine wpList_str rfl _ 22 9 rfl Tryz.underlying22 Tryz.underlying5 Tryz.underlying9 rfl (l := tilesL s.data.toList) (by simp [tilesL]) hW.out.rd ?_)
      refine (l03Sort_any _ _ (by rw [HTL.out]; exact hs)).mono ?_
      rintro e w2 ⟨rfl, hx⟩
      go_wp2_with fail
      go_returns
      exact ⟨by rw [HR.out]; rfl, hE.out.trans hx⟩
end Go.Proofs.YtmohfdfjlgekaaaGreatDoor
