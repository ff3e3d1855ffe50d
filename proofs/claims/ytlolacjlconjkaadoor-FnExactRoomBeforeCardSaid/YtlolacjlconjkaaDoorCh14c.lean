/- RoomBefore, by both. Conditions stand at each. -/
import Derived.Test.YtlolacjlconjkaaDoorCh14b
namespace Go.Proofs.YtlolacjlconjkaaDoor
set_option linter.unusedVariables false
set_option linter.unusedSimpArgs false
open Go Go.RowKit
def roomF (g : Nat → Bool) : Nat → Nat → Nat
  | 0, k => k
  | f + 1, k => if g k then roomF g f (k + 1) else k
def roomG (n : Int) (c : ByteArray) (i j : Int) (k : Nat) : Bool := freeQ n c i (j - (k : Int) - 1) && !ancB n c i (j - (k : Int) - 1)
def roomN (n : Int) (c : ByteArray) (i j : Int) : Nat := roomF (roomG n c i j) 20 0
def roomV (n : Int) (p c : ByteArray) (i j : Int) : Value := if okB n p c then if inRC n i j then .tuple #[.int .i64 (roomN n c i j : Nat), .int .i64 0] else .tuple #[.int .i64 0, .int .i64 2] else .tuple #[.int .i64 0, .int .i64 1]
theorem free_cell (n : Int) (c : ByteArray) (i j : Int) : decide (sqAt n c i j = 46) = freeQ n c i j := by
  unfold freeQ
  by_cases h : inRC n i j = true
  · rw [h]; simp
  · have : sqAt n c i j = 0 := by unfold sqAt; rw [if_neg h]
    rw [this, show inRC n i j = false by simpa using h]
    simp
theorem freeQ_in {n : Int} {c : ByteArray} {i j : Int} (h : freeQ n c i j = true) : inRC n i j = true := by
  unfold freeQ at h
  simp at h
  exact h.1
set_option maxHeartbeats 2000000 in
theorem RoomBefore_any (n : Int) (p c : ByteArray) (i j : Int) (w : World) (hp : p.size ≤ 1048576) (hc : c.size ≤ 1048576) (hM : MaxAt w) : Calls Tryd.prog 16 #[boardV n p c, .int .i64 i, .int .i64 j] w (Ret (roomV n p c i j) w) := by
  have HM := hid (fun w' (h : Ext w w') => hM.ext h)
  have HV : Hid (roomV n p c i j = if okB n p c then if inRC n i j then .tuple #[.int .i64 (roomN n c i j : Nat), .int .i64 0] else .tuple #[.int .i64 0, .int .i64 2] else .tuple #[.int .i64 0, .int .i64 1]) := hid rfl
  have HO := hid (fun w' => ValidBoard_any n p c w' hp hc)
  clear hM
  cases hk : okB n p c
  · rw [hk] at HO
    have HK := hid hk
    clear hk
    go_enter Tryd.func16, Tryd.ntmps16
    go_wp2_with fail
    refine (HO.out _).mono ?_
    rintro e w1 ⟨rfl, hx⟩
    go_wp2_with fail
    go_returns
    exact ⟨by rw [HV.out, HK.out]; rfl, ((Ext.refl w).alloc _).trans hx⟩
  · rw [hk] at HO
    have HK := hid hk
    obtain ⟨h1, h2, h3, h4⟩ := okB_true hk
    have HIN := hid (fun w' => inside_any n p c i j w' h1 h2)
    have HA := hid (fun J w' (h : MaxAt w') => anchor_any n p c i J w' hk h)
    have HC := hid (fun J w' => cell_any n p c i J w' h1 h2 h4)
    clear hk h3 h4
    cases hi : inRC n i j
    · rw [hi] at HIN
      have HI0 := hid hi
      clear hi
      go_enter Tryd.func16, Tryd.ntmps16
      go_wp2_with fail
      refine (HO.out _).mono ?_
      rintro e w1 ⟨rfl, hx⟩
      have hE := ((Ext.refl w).alloc _).trans hx
      have b0 := hx.cell (b := w.heap.size) (o := 0) (v := .int .i64 n) (by simp)
      have b1 := hx.cell (b := w.heap.size) (o := 1) (v := .string p) (by simp)
      have b2 := hx.cell (b := w.heap.size) (o := 2) (v := .string c) (by simp)
      clear hx
      go_wp2_with fail
      refine (HIN.out _).mono ?_
      rintro e w2 ⟨rfl, hx⟩
      go_wp2_with fail
      go_returns
      exact ⟨by rw [HV.out, HK.out, HI0.out]; rfl, hE.trans hx⟩
    · rw [hi] at HIN
      have HI0 := hid hi
      obtain ⟨i0, i1, j0, j1⟩ := inRC_true hi
      have HG : Hid (∀ k, roomG n c i j k = (freeQ n c i (j - (k : Int) - 1) && !ancB n c i (j - (k : Int) - 1))) := hid (fun k => rfl)
      have HN : Hid (roomN n c i j = roomF (roomG n c i j) 20 0) := hid rfl
      clear hi
      go_enter Tryd.func16, Tryd.ntmps16
      go_wp2_with fail
      refine (HO.out _).mono ?_
      rintro e w1 ⟨rfl, hx⟩
      have hE := ((Ext.refl w).alloc _).trans hx
      have b0 := hx.cell (b := w.heap.size) (o := 0) (v := .int .i64 n) (by simp)
      have b1 := hx.cell (b := w.heap.size) (o := 1) (v := .string p) (by simp)
      have b2 := hx.cell (b := w.heap.size) (o := 2) (v := .string c) (by simp)
      clear hx
      go_wp2_with fail
      refine (HIN.out _).mono ?_
      rintro e w2 ⟨rfl, hx⟩
      replace b0 := hx.cell b0
      replace b1 := hx.cell b1
      replace b2 := hx.cell b2
      replace hE := hE.trans hx
      clear hx
      have HCE : Hid (∀ w', Ext w2 w' → w'.cell? ⟨w.heap.size, 0, none⟩ = some (.int .i64 n) ∧ w'.cell? ⟨w.heap.size, 1, none⟩ = some (.string p) ∧ w'.cell? ⟨w.heap.size, 2, none⟩ = some (.string c)) := hid (fun w' h => ⟨h.cell b0, h.cell b1, h.cell b2⟩)
      clear b0 b1 b2
      go_wp2_with fail
      go_loopw [8] (fun v wr => ∃ k : Nat, (k : Int) ≤ j ∧ v = .int .i64 (k : Int) ∧ Hid (roomN n c i j = roomF (roomG n c i j) (20 - k) k) ∧ Ext w2 wr) (fun v _ => 20 - (intOf v).toNat)
      case atStart => exact ⟨0, by omega, rfl, HN, Ext.refl _⟩
      case round =>
        obtain ⟨k, hk, rfl, hR, hx⟩ := hrel
        obtain ⟨b0, b1, b2⟩ := HCE.out _ hx
        have HGk := hid (HG.out k)
        obtain ⟨J, hJ⟩ : ∃ J : Int, j - (k : Int) - 1 = J := ⟨_, rfl⟩
        have hRS : Hid (roomF (roomG n c i j) (20 - k) k = if roomG n c i j k then roomF (roomG n c i j) (20 - (k + 1)) (k + 1) else k) := hid (by
          rw [show 20 - k = (20 - (k + 1)) + 1 by omega]; rfl)
        have HF := hid (free_cell n c i J)
        have HFI := hid (fun h : freeQ n c i J = true => inRC_true (freeQ_in h))
        have HCJ := hid (HC.out J)
        have HAJ := hid (HA.out J)
        rw [hJ] at HGk
        obtain ⟨x, hx0⟩ : ∃ x, sqAt n c i J = x := ⟨_, rfl⟩
        rw [hx0] at HF HCJ
        clear hx0
        by_cases h46 : x = 46
        · subst h46
          have hfr : freeQ n c i J = true := by rw [← HF.out]; simp
          have hJb := (HFI.out hfr).2.2.1
          have HFR := hid hfr
          clear hfr
          cases ha : ancB n c i J
          · rw [ha] at HAJ
            have HRK : Hid (roomG n c i j k = true) := hid (by rw [HGk.out, HFR.out, ha]; rfl)
            clear ha
            go_wp2_with fail
            refine (HCJ.out _).mono ?_
            rintro e w3 ⟨rfl, hy⟩
            have hx3 := hx.trans hy
            clear hy b0 b1 b2
            obtain ⟨b0, b1, b2⟩ := HCE.out _ hx3
            go_wp2_with fail
            refine (HAJ.out _ (HM.out _ (hE.trans hx3))).mono ?_
            rintro e w4 ⟨rfl, hy⟩
            have hx4 := hx3.trans hy
            clear hy b0 b1 b2
            go_wp2_with fail
            go_roundw
            case rel => exact ⟨k + 1, by omega, by go_num, hid (by rw [hR.out, hRS.out, if_pos HRK.out]), hx4⟩
            case measure => simp [intOf]; omega
          · rw [ha] at HAJ
            have HRK : Hid (roomG n c i j k = false) := hid (by rw [HGk.out, HFR.out, ha]; rfl)
            clear ha
            go_wp2_with fail
            refine (HCJ.out _).mono ?_
            rintro e w3 ⟨rfl, hy⟩
            have hx3 := hx.trans hy
            clear hy b0 b1 b2
            obtain ⟨b0, b1, b2⟩ := HCE.out _ hx3
            go_wp2_with fail
            refine (HAJ.out _ (HM.out _ (hE.trans hx3))).mono ?_
            rintro e w4 ⟨rfl, hy⟩
            have hx4 := hx3.trans hy
            clear hy b0 b1 b2
            go_wp2_with fail
            go_returns
            exact ⟨by rw [HV.out, HK.out, HI0.out, hR.out, hRS.out, HRK.out]; rfl, hE.trans hx4⟩
        · have h47 : (x == 46) = false := by simpa using h46
          have HRK : Hid (roomG n c i j k = false) := hid (by rw [HGk.out, ← HF.out]; simp [h46])
          clear h46
          go_wp2_with fail
          refine (HCJ.out _).mono ?_
          rintro e w3 ⟨rfl, hy⟩
          have hx3 := hx.trans hy
          clear hy b0 b1 b2
          go_wp2_with fail
          go_returns
          exact ⟨by rw [HV.out, HK.out, HI0.out, hR.out, hRS.out, HRK.out]; rfl, hE.trans hx3⟩
set_option maxHeartbeats 2000000 in
theorem sRoomBefore_any (n : Int) (p c : ByteArray) (i j : Int) (w : World) (hp : p.size ≤ 1048576) (hc : c.size ≤ 1048576) : Calls Tryd.prog 15 #[boardV n p c, .int .i64 i, .int .i64 j] w (Ret (roomV n p c i j) w) := by
  have HV : Hid (roomV n p c i j = if okB n p c then if inRC n i j then .tuple #[.int .i64 (roomN n c i j : Nat), .int .i64 0] else .tuple #[.int .i64 0, .int .i64 2] else .tuple #[.int .i64 0, .int .i64 1]) := hid rfl
  have HBD : Hid (BdAt (w.alloc (.cells #[.int .i64 n, .string p, .string c] 26)) w.heap.size 0 n p c) := hid ⟨by simp, by simp, by simp⟩
  have HO := hid (l11Ok_any w.heap.size 0 n p c _ HBD.out hp hc)
  cases hk : okB n p c
  · rw [hk] at HO
    have HK := hid hk
    clear hk
    go_enter Tryd.func15, Tryd.ntmps15
    go_wp2_with fail
    refine HO.out.mono ?_
    rintro e w1 ⟨rfl, hx⟩
    have hx2 := Dr.ext hx
    go_wp2_with fail
    go_returns
    exact ⟨by rw [HV.out, HK.out]; rfl, ((Ext.refl w).alloc _).trans hx2⟩
  · rw [hk] at HO
    have HK := hid hk
    obtain ⟨h1, h2, h3, h4⟩ := okB_true hk
    have HIN := hid (fun w' h => l11In_any w.heap.size 0 n p c i j w' h h1 h2)
    have HA := hid (fun J w' h => l14Anchor_any w.heap.size 0 n p c i J w' h hk)
    have HC := hid (fun J w' h => l14Free_any w.heap.size 0 n p c i J w' h h1 h2 h4)
    clear hk h3 h4
    cases hi : inRC n i j
    · rw [hi] at HIN
      have HI0 := hid hi
      clear hi
      go_enter Tryd.func15, Tryd.ntmps15
      go_wp2_with fail
      refine HO.out.mono ?_
      rintro e w1 ⟨rfl, hx⟩
      have hx2 := Dr.ext hx
      have hE := ((Ext.refl w).alloc _).trans hx2
      have HB1 := hid (HBD.out.ext hx2)
      clear hx hx2
      go_wp2_with fail
      refine (HIN.out _ HB1.out).mono ?_
      rintro e w2 ⟨rfl, rfl⟩
      go_wp2_with fail
      go_returns
      exact ⟨by rw [HV.out, HK.out, HI0.out]; rfl, hE⟩
    · rw [hi] at HIN
      have HI0 := hid hi
      obtain ⟨i0, i1, j0, j1⟩ := inRC_true hi
      have HG : Hid (∀ k, roomG n c i j k = (freeQ n c i (j - (k : Int) - 1) && !ancB n c i (j - (k : Int) - 1))) := hid (fun k => rfl)
      have HN : Hid (roomN n c i j = roomF (roomG n c i j) 20 0) := hid rfl
      clear hi
      go_enter Tryd.func15, Tryd.ntmps15
      go_wp2_with fail
      refine HO.out.mono ?_
      rintro e w1 ⟨rfl, hx⟩
      have hx2 := Dr.ext hx
      have hE := ((Ext.refl w).alloc _).trans hx2
      have HB1 := hid (HBD.out.ext hx2)
      clear hx hx2
      go_wp2_with fail
      refine (HIN.out _ HB1.out).mono ?_
      rintro e w2 ⟨rfl, rfl⟩
      go_wp2_with fail
      go_loopw [8] (fun v wr => ∃ k : Nat, (k : Int) ≤ j ∧ v = .int .i64 (k : Int) ∧ Hid (roomN n c i j = roomF (roomG n c i j) (20 - k) k) ∧ Ext w1 wr) (fun v _ => 20 - (intOf v).toNat)
      case atStart => exact ⟨0, by omega, rfl, HN, Ext.refl _⟩
      case round =>
        obtain ⟨k, hk, rfl, hR, hx⟩ := hrel
        have HGk := hid (HG.out k)
        have hRS : Hid (roomF (roomG n c i j) (20 - k) k = if roomG n c i j k then roomF (roomG n c i j) (20 - (k + 1)) (k + 1) else k) := hid (by
          rw [show 20 - k = (20 - (k + 1)) + 1 by omega]; rfl)
        obtain ⟨J, hJ⟩ : ∃ J : Int, j - 1 - (k : Int) = J := ⟨_, rfl⟩
        rw [show j - (k : Int) - 1 = J by omega] at HGk
        have HFI := hid (fun h : freeQ n c i J = true => inRC_true (freeQ_in h))
        have HCJ := hid (HC.out J)
        have HAJ := hid (HA.out J)
        cases hf : freeQ n c i J
        · rw [hf] at HCJ
          have HRK : Hid (roomG n c i j k = false) := hid (by rw [HGk.out, hf]; rfl)
          clear hf
          go_wp2_with fail
          refine (HCJ.out _ (HB1.out.ext hx)).mono ?_
          rintro e w3 ⟨rfl, hy⟩
          have hx3 := hx.trans (Dr.ext hy)
          clear hy
          go_wp2_with fail
          go_returns
          exact ⟨by rw [HV.out, HK.out, HI0.out, hR.out, hRS.out, HRK.out]; rfl, hE.trans hx3⟩
        · have hJb := (HFI.out hf).2.2.1
          have HFR := hid hf
          rw [hf] at HCJ
          clear hf
          cases ha : ancB n c i J
          · rw [ha] at HAJ
            have HRK : Hid (roomG n c i j k = true) := hid (by rw [HGk.out, HFR.out, ha]; rfl)
            clear ha
            go_wp2_with fail
            refine (HCJ.out _ (HB1.out.ext hx)).mono ?_
            rintro e w3 ⟨rfl, hy⟩
            have hx3 := hx.trans (Dr.ext hy)
            clear hy
            go_wp2_with fail
            refine (HAJ.out _ (HB1.out.ext hx3)).mono ?_
            rintro e w4 ⟨rfl, hy⟩
            have hx4 := hx3.trans hy
            clear hy
            go_wp2_with fail
            go_roundw
            case rel => exact ⟨k + 1, by omega, by go_num, hid (by rw [hR.out, hRS.out, if_pos HRK.out]), hx4⟩
            case measure => simp [intOf]; omega
          · rw [ha] at HAJ
            have HRK : Hid (roomG n c i j k = false) := hid (by rw [HGk.out, HFR.out, ha]; rfl)
            clear ha
            go_wp2_with fail
            refine (HCJ.out _ (HB1.out.ext hx)).mono ?_
            rintro e w3 ⟨rfl, hy⟩
            have hx3 := hx.trans (Dr.ext hy)
            clear hy
            go_wp2_with fail
            refine (HAJ.out _ (HB1.out.ext hx3)).mono ?_
            rintro e w4 ⟨rfl, hy⟩
            have hx4 := hx3.trans hy
            clear hy
            go_wp2_with fail
            go_returns
            exact ⟨by rw [HV.out, HK.out, HI0.out, hR.out, hRS.out, HRK.out]; rfl, hE.trans hx4⟩
end Go.Proofs.YtlolacjlconjkaaDoor
