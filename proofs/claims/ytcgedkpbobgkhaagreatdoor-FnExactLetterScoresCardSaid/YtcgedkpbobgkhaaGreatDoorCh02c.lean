/- Valid tile sets by the reference. Conditions stand at each. -/
import Derived.Test.YtcgedkpbobgkhaaGreatDoorCh02b
namespace Go.Proofs.YtcgedkpbobgkhaaGreatDoor
set_option linter.unusedVariables false
set_option linter.unusedSimpArgs false
open Go Go.RowKit
set_option maxRecDepth 100000 in
set_option maxHeartbeats 3200000 in
theorem l02Ok_any (s : ByteArray) (a b : Option Addr) (c d g : Nat) (vs cs : List Int) (k : Int) (w : World) (hs : s.size ≤ 1048576) (l1 : vs.length ≤ 1048576) (l2 : cs.length ≤ 1048576) (h1 : Rd w a (intsV vs)) (h2 : Rd w b (intsV cs)) (h : TileAt w g s a b vs.length cs.length c d k) :
    Calls Tryz.prog 18 #[.pointer (some ⟨g, 0, none⟩)] w fun e w' => e = .returned (.bool (tilesB s vs cs k)) ∧ Dr w w' := by
  have H1 : Hid (∀ w', Dr w w' → Rd w' a (intsV vs)) := hid (fun w' k => h1.ext k.ext)
  have H2 : Hid (∀ w', Dr w w' → Rd w' b (intsV cs)) := hid (fun w' k => h2.ext k.ext)
  have HT : Hid (∀ w', Dr w w' → TileAt w' g s a b vs.length cs.length c d k) := hid (fun w' k => h.ext k.ext)
  obtain ⟨c0, c1, c2, c3⟩ := h
  clear h1 h2
  cases q0 : inB (s.size : Int) 1 26
  · have HN : Hid (¬ TilesOk s vs cs k) := hid (fun h => by have := h.pos; have := h.rise.size; simp only [inB, decide_eq_false_iff_not] at q0; omega)
    have HQ := hid q0
    clear q0
    go_enter Tryz.func18, Tryz.ntmps18
    go_wp2_with fail
    refine (l00In_any _ _ _ _).mono ?_
    rintro e w1 ⟨rfl, rfl⟩
    rw [HQ.out]
    go_wp2_with fail
    go_returns
    exact ⟨ret_bool (tilesB_no HN.out).symm, Dr.refl _⟩
  have HQ := hid q0
  have h26 : s.size ≤ 26 := by simp only [inB, decide_eq_true_eq] at q0; omega
  have h1s : 1 ≤ s.size := by simp only [inB, decide_eq_true_eq] at q0; omega
  clear q0
  by_cases q1 : (vs.length : Int) = s.size
  rotate_left
  · have HN : Hid (¬ TilesOk s vs cs k) := hid (fun h => q1 (by have := h.vlen; omega))
    go_enter Tryz.func18, Tryz.ntmps18
    go_wp2_with fail
    refine (l00In_any _ _ _ _).mono ?_
    rintro e w1 ⟨rfl, rfl⟩
    rw [HQ.out]
    go_wp2_with fail
    go_returns
    exact ⟨ret_bool (tilesB_no HN.out).symm, Dr.refl _⟩
  by_cases q2 : (cs.length : Int) = s.size
  rotate_left
  · have HN : Hid (¬ TilesOk s vs cs k) := hid (fun h => q2 (by have := h.clen; omega))
    go_enter Tryz.func18, Tryz.ntmps18
    go_wp2_with fail
    refine (l00In_any _ _ _ _).mono ?_
    rintro e w1 ⟨rfl, rfl⟩
    rw [HQ.out]
    go_wp2_with fail
    go_returns
    exact ⟨ret_bool (tilesB_no HN.out).symm, Dr.refl _⟩
  have HV := hid q1
  have HC := hid q2
  cases hb : inB k 0 4
  · have HN : Hid (¬ TilesOk s vs cs k) := hid (fun h => by have := h.blanks; simp only [inB, decide_eq_false_iff_not] at hb; omega)
    have HB := hid hb
    clear hb
    go_enter Tryz.func18, Tryz.ntmps18
    go_wp2_with fail
    refine (l00In_any _ _ _ _).mono ?_
    rintro e w1 ⟨rfl, rfl⟩
    rw [HQ.out]
    go_wp2_with fail
    refine (l00In_any _ _ _ _).mono ?_
    rintro e w2 ⟨rfl, rfl⟩
    rw [HB.out]
    go_wp2_with fail
    go_returns
    exact ⟨ret_bool (tilesB_no HN.out).symm, Dr.refl _⟩
  have HB := hid hb
  have hk4 : 0 ≤ k ∧ k ≤ 4 := by simpa only [inB, decide_eq_true_eq] using hb
  clear hb
  obtain ⟨hk0, hk1⟩ := hk4
  go_enter Tryz.func18, Tryz.ntmps18
  go_wp2_with fail
  refine (l00In_any _ _ _ _).mono ?_
  rintro e w1 ⟨rfl, rfl⟩
  rw [HQ.out]
  go_wp2_with fail
  refine (l00In_any _ _ _ _).mono ?_
  rintro e w2 ⟨rfl, rfl⟩
  rw [HB.out]
  go_wp2_with fail
  clear q1 q2
  go_loopw [4, 5] (fun t i wr => ∃ (m : Nat) (z : Int), m ≤ s.size ∧ i = .int .i64 m ∧ t = .int .i64 z ∧ Hid (z = k + (cs.take m).sum) ∧ 0 ≤ z ∧ z ≤ 4 + 20 * (m : Int) ∧ Hid (∀ j, j < m → ∀ (hv : j < vs.length) (hc : j < cs.length), (0 ≤ vs[j] ∧ vs[j] ≤ 20) ∧ 1 ≤ cs[j] ∧ cs[j] ≤ 20) ∧ Hid (∀ j (hj : j < s.size), j < m → smallB (s[j].toNat : Int) = true) ∧ Hid (∀ j (hj : j + 1 < s.size), j + 1 < m → s[j].toNat < s[j + 1].toNat) ∧ Dr w wr) (fun _ i _ => s.size - (intOf i).toNat)
  case atStart => exact ⟨0, k, by omega, rfl, rfl, hid (by simp), hk0, by omega, hid (fun j h => by omega), hid (fun j _ h => by omega), hid (fun j _ h => by omega), Dr.refl _⟩
  case round =>
    clear c0 c1 c2 c3
    obtain ⟨m, z, hm, rfl, rfl, hz, hz0, hz1, hall, hsm, hri, hD⟩ := hrel
    obtain ⟨c0, c1, c2, c3⟩ := HT.out _ hD
    by_cases hls : m < s.size
    · have hlt : m < cs.length := by have := HC.out; omega
      have hmv : m < vs.length := by have := HV.out; have := HC.out; omega
      have hm26 : m < 26 := by have := HC.out; omega
      obtain ⟨g1, o1, rfl, hc1⟩ := (H1.out _ hD).int (by omega)
      obtain ⟨g2, o2, rfl, hc2⟩ := (H2.out _ hD).int (by omega)
      have cv := hc1 m hmv
      have cc := hc2 m hlt
      clear hc1 hc2
      have HTk := hid (show (cs.take (m + 1)).sum = (cs.take m).sum + cs[m] by rw [List.take_succ_eq_append_getElem hlt, List.sum_append]; simp)
      obtain ⟨x, hx⟩ : ∃ x, vs[m] = x := ⟨_, rfl⟩
      obtain ⟨y, hy⟩ : ∃ y, cs[m] = y := ⟨_, rfl⟩
      obtain ⟨u, hu⟩ : ∃ u, s[m] = u := ⟨_, rfl⟩
      rw [hx] at cv
      rw [hy] at cc HTk
      have HX := hid hx
      have HY := hid hy
      have HU := hid hu
      clear hx hy
      cases hsu : smallB (u.toNat : Int)
      · have HSU := hid hsu
        have HN : Hid (¬ TilesOk s vs cs k) := hid (fun h => by have h3 := h.rise.1 m hls; rw [HU.out, HSU.out] at h3; cases h3)
        clear hsu
        go_wp2_with fail
        go_quiet ((go_at_call 26; exact Calls.quiet_of_same ((l01Small_any _ _).mono fun _ _ h => ⟨by rw [h.1, HSU.out], h.2.symm⟩)))
        go_wp2_with fail
        go_returns
        exact ⟨ret_bool (tilesB_no HN.out).symm, hD.trans ⟨_, rfl⟩⟩
      have HSU := hid hsu
      clear hsu
      by_cases h0 : m = 0
      · have hm1 : ¬ (0 : Int) < (m : Int) := by omega
        have hm2 : ¬ 0 < m := by omega
        have H0 := hid h0
        clear h0
        cases hgv : inB x 0 20
        · have HGV := hid hgv
          have HGC := HGV
          have HN : Hid (¬ TilesOk s vs cs k) := hid (fun h => by have h3 := h.vals _ hmv; rw [HX.out] at h3; simp only [inB, decide_eq_false_iff_not] at hgv; omega)
          clear hgv
          go_wp2_with fail
          go_quiet (first | (go_at_call 26; exact Calls.quiet_of_same ((l01Small_any _ _).mono fun _ _ h => ⟨by rw [h.1, HSU.out], h.2.symm⟩)) | (go_at_call 25; exact Calls.quiet_of_same ((l00In_any _ _ _ _).mono fun _ _ h => ⟨by rw [h.1, HGV.out], h.2.symm⟩)) | (go_at_call 25; exact Calls.quiet_of_same ((l00In_any _ _ _ _).mono fun _ _ h => ⟨by rw [h.1, HGC.out], h.2.symm⟩)))
          go_wp2_with fail
          go_returns
          exact ⟨ret_bool (tilesB_no HN.out).symm, hD.trans ⟨_, rfl⟩⟩
        have HGV := hid hgv
        have hgv2 := hid (show 0 ≤ x ∧ x ≤ 20 by simpa only [inB, decide_eq_true_eq] using hgv)
        clear hgv
        cases hgc : inB y 1 20
        · have HGC := hid hgc
          have HN : Hid (¬ TilesOk s vs cs k) := hid (fun h => by have h3 := h.cnts _ hlt; rw [HY.out] at h3; simp only [inB, decide_eq_false_iff_not] at hgc; omega)
          clear hgc
          go_wp2_with fail
          go_quiet (first | (go_at_call 26; exact Calls.quiet_of_same ((l01Small_any _ _).mono fun _ _ h => ⟨by rw [h.1, HSU.out], h.2.symm⟩)) | (go_at_call 25; exact Calls.quiet_of_same ((l00In_any _ _ _ _).mono fun _ _ h => ⟨by rw [h.1, HGV.out], h.2.symm⟩)) | (go_at_call 25; exact Calls.quiet_of_same ((l00In_any _ _ _ _).mono fun _ _ h => ⟨by rw [h.1, HGC.out], h.2.symm⟩)))
          go_wp2_with fail
          go_returns
          exact ⟨ret_bool (tilesB_no HN.out).symm, hD.trans ⟨_, rfl⟩⟩
        have HGC := hid hgc
        have hgc2 : 1 ≤ y ∧ y ≤ 20 := by simpa only [inB, decide_eq_true_eq] using hgc
        clear hgc
        obtain ⟨hy1, hy2⟩ := hgc2
        go_wp2_with fail
        go_quiet (first | (go_at_call 26; exact Calls.quiet_of_same ((l01Small_any _ _).mono fun _ _ h => ⟨by rw [h.1, HSU.out], h.2.symm⟩)) | (go_at_call 25; exact Calls.quiet_of_same ((l00In_any _ _ _ _).mono fun _ _ h => ⟨by rw [h.1, HGV.out], h.2.symm⟩)) | (go_at_call 25; exact Calls.quiet_of_same ((l00In_any _ _ _ _).mono fun _ _ h => ⟨by rw [h.1, HGC.out], h.2.symm⟩)))
        go_wp2_with fail
        go_roundw
        case rel =>
          refine ⟨m + 1, z + y, by omega, by go_num, rfl, hid (by rw [hz.out, HTk.out]; omega), by omega, by omega, hid (fun j hj hv hc => ?_), hid (fun j hj hjm => ?_), hid (fun j hj hjm => ?_), hD.trans ⟨_, rfl⟩⟩
          · by_cases hje : j = m
            · subst hje
              rw [HX.out, HY.out]
              exact ⟨hgv2.out, hy1, hy2⟩
            · exact hall.out j (by omega) hv hc
          · by_cases hje : j = m
            · subst hje
              rw [HU.out, HSU.out]
            · exact hsm.out j hj (by omega)
          · have := H0.out
            omega
        case measure => simp [intOf]; omega
      obtain ⟨q, rfl⟩ : ∃ q, m = q + 1 := ⟨m - 1, by omega⟩
      have hql : q < s.size := by omega
      have e1 : ((q + 1 : Nat) : Int) - 1 = (q : Int) := by omega
      have e2 : ¬ ((q + 1 : Nat) : Int) ≤ 0 := by omega
      obtain ⟨v, hv⟩ : ∃ v, s[q] = v := ⟨_, rfl⟩
      have HVV := hid hv
      by_cases hle : u.toNat ≤ v.toNat
      · have HN : Hid (¬ TilesOk s vs cs k) := hid (fun h => by have h3 := h.rise.2 q hls; rw [HU.out, HVV.out] at h3; omega)
        have HGV := hid trivial
        have HGC := hid trivial
        go_wp2_with fail
        go_quiet (first | (go_at_call 26; exact Calls.quiet_of_same ((l01Small_any _ _).mono fun _ _ h => ⟨by rw [h.1, HSU.out], h.2.symm⟩)) | (go_at_call 25; exact Calls.quiet_of_same ((l00In_any _ _ _ _).mono fun _ _ h => ⟨by rw [h.1, HGV.out], h.2.symm⟩)) | (go_at_call 25; exact Calls.quiet_of_same ((l00In_any _ _ _ _).mono fun _ _ h => ⟨by rw [h.1, HGC.out], h.2.symm⟩)))
        go_wp2_with fail
        go_returns
        exact ⟨ret_bool (tilesB_no HN.out).symm, hD.trans ⟨_, rfl⟩⟩
      have HLE := hid hle
      cases hgv : inB x 0 20
      · have HGV := hid hgv
        have HGC := HGV
        have HN : Hid (¬ TilesOk s vs cs k) := hid (fun h => by have h3 := h.vals _ hmv; rw [HX.out] at h3; simp only [inB, decide_eq_false_iff_not] at hgv; omega)
        clear hgv
        go_wp2_with fail
        go_quiet (first | (go_at_call 26; exact Calls.quiet_of_same ((l01Small_any _ _).mono fun _ _ h => ⟨by rw [h.1, HSU.out], h.2.symm⟩)) | (go_at_call 25; exact Calls.quiet_of_same ((l00In_any _ _ _ _).mono fun _ _ h => ⟨by rw [h.1, HGV.out], h.2.symm⟩)) | (go_at_call 25; exact Calls.quiet_of_same ((l00In_any _ _ _ _).mono fun _ _ h => ⟨by rw [h.1, HGC.out], h.2.symm⟩)))
        go_wp2_with fail
        go_returns
        exact ⟨ret_bool (tilesB_no HN.out).symm, hD.trans ⟨_, rfl⟩⟩
      have HGV := hid hgv
      have hgv2 := hid (show 0 ≤ x ∧ x ≤ 20 by simpa only [inB, decide_eq_true_eq] using hgv)
      clear hgv
      cases hgc : inB y 1 20
      · have HGC := hid hgc
        have HN : Hid (¬ TilesOk s vs cs k) := hid (fun h => by have h3 := h.cnts _ hlt; rw [HY.out] at h3; simp only [inB, decide_eq_false_iff_not] at hgc; omega)
        clear hgc
        go_wp2_with fail
        go_quiet (first | (go_at_call 26; exact Calls.quiet_of_same ((l01Small_any _ _).mono fun _ _ h => ⟨by rw [h.1, HSU.out], h.2.symm⟩)) | (go_at_call 25; exact Calls.quiet_of_same ((l00In_any _ _ _ _).mono fun _ _ h => ⟨by rw [h.1, HGV.out], h.2.symm⟩)) | (go_at_call 25; exact Calls.quiet_of_same ((l00In_any _ _ _ _).mono fun _ _ h => ⟨by rw [h.1, HGC.out], h.2.symm⟩)))
        go_wp2_with fail
        go_returns
        exact ⟨ret_bool (tilesB_no HN.out).symm, hD.trans ⟨_, rfl⟩⟩
      have HGC := hid hgc
      have hgc2 : 1 ≤ y ∧ y ≤ 20 := by simpa only [inB, decide_eq_true_eq] using hgc
      clear hgc
      obtain ⟨hy1, hy2⟩ := hgc2
      go_wp2_with fail
      go_quiet (first | (go_at_call 26; exact Calls.quiet_of_same ((l01Small_any _ _).mono fun _ _ h => ⟨by rw [h.1, HSU.out], h.2.symm⟩)) | (go_at_call 25; exact Calls.quiet_of_same ((l00In_any _ _ _ _).mono fun _ _ h => ⟨by rw [h.1, HGV.out], h.2.symm⟩)) | (go_at_call 25; exact Calls.quiet_of_same ((l00In_any _ _ _ _).mono fun _ _ h => ⟨by rw [h.1, HGC.out], h.2.symm⟩)))
      go_wp2_with fail
      go_roundw
      case rel =>
        refine ⟨(q + 1) + 1, z + y, by omega, by go_num, rfl, hid (by rw [hz.out, HTk.out]; omega), by omega, by omega, hid (fun j hj hv hc => ?_), hid (fun j hj hjm => ?_), hid (fun j hj hjm => ?_), hD.trans ⟨_, rfl⟩⟩
        · by_cases hje : j = (q + 1)
          · subst hje
            rw [HX.out, HY.out]
            exact ⟨hgv2.out, hy1, hy2⟩
          · exact hall.out j (by omega) hv hc
        · by_cases hje : j = (q + 1)
          · subst hje
            rw [HU.out, HSU.out]
          · exact hsm.out j hj (by omega)
        · by_cases hje : j = q
          · subst hje
            rw [HVV.out, HU.out]
            have := HLE.out
            omega
          · exact hri.out j hj (by omega)
      case measure => simp [intOf]; omega
    · have hmc := hid (show m = cs.length by have := HC.out; omega)
      have hsum := hid (show z = k + cs.sum by rw [hz.out, hmc.out, List.take_length])
      have hfit : TilesOk s vs cs k ↔ z ≤ 120 := ⟨fun h => by rw [hsum.out]; exact h.all, fun h => ⟨by omega, ⟨fun j hj => hsm.out j hj (by omega), fun j hj => hri.out j hj (by omega)⟩, by have := HV.out; omega, by have := HC.out; omega, ⟨hk0, hk1⟩, fun j hj => (hall.out j (by have := hmc.out; have := HV.out; have := HC.out; omega) hj (by have := HV.out; have := HC.out; omega)).1, fun j hj => (hall.out j (by have := hmc.out; omega) (by have := HV.out; have := HC.out; omega) hj).2, by rw [← hsum.out]; exact h⟩⟩
      have HF := hid hfit
      clear hfit
      by_cases h120 : z ≤ 120
      · go_wp2_with fail
        go_returns
        exact ⟨ret_bool (tilesB_yes (HF.out.2 h120)).symm, hD⟩
      · go_wp2_with fail
        go_returns
        exact ⟨ret_bool (tilesB_no (fun h => by have := HF.out.1 h; omega)).symm, hD⟩
end Go.Proofs.YtcgedkpbobgkhaaGreatDoor
