/- Valid tile sets, by both. Conditions stand at each. -/
import Derived.Test.YtcgedkpbobgkhaaGreatDoorCh01
import Derived.Test.YtcgedkpbobgkhaaGreatDoorTile
namespace Go.Proofs.YtcgedkpbobgkhaaGreatDoor
set_option linter.unusedVariables false
set_option linter.unusedSimpArgs false
open Go Go.RowKit
/-- Small letters, each above the one before. -/
def Rise (s : ByteArray) : Prop := (∀ i (h : i < s.size), smallB (s[i].toNat : Int) = true) ∧ ∀ i (h : i + 1 < s.size), s[i].toNat < s[i + 1].toNat
noncomputable def riseB (s : ByteArray) : Bool := @decide (Rise s) (Classical.propDecidable _)
theorem riseB_yes {s : ByteArray} (h : Rise s) : riseB s = true := by unfold riseB; simp [h]
theorem riseB_no {s : ByteArray} (h : ¬ Rise s) : riseB s = false := by unfold riseB; simp [h]
theorem riseB_iff {s : ByteArray} : riseB s = true ↔ Rise s := by unfold riseB; simp
theorem Rise.size {s : ByteArray} (h : Rise s) : s.size ≤ 26 := by
  have lo : ∀ i (hi : i < s.size), 97 + i ≤ s[i].toNat := by
    intro i
    induction i with
    | zero =>
      intro hi
      have := h.1 0 hi
      simp only [smallB, decide_eq_true_eq] at this
      omega
    | succ i ih =>
      intro hi
      have h1 := ih (by omega)
      have h2 := h.2 i hi
      omega
  by_cases hn : s.size = 0
  · omega
  · have h1 := lo (s.size - 1) (by omega)
    have h2 := h.1 (s.size - 1) (by omega)
    simp only [smallB, decide_eq_true_eq] at h2
    omega
structure TilesOk (s : ByteArray) (vs cs : List Int) (k : Int) : Prop where
  pos : 1 ≤ s.size
  rise : Rise s
  vlen : vs.length = s.size
  clen : cs.length = s.size
  blanks : 0 ≤ k ∧ k ≤ 4
  vals : ∀ i (h : i < vs.length), 0 ≤ vs[i] ∧ vs[i] ≤ 20
  cnts : ∀ i (h : i < cs.length), 1 ≤ cs[i] ∧ cs[i] ≤ 20
  all : k + cs.sum ≤ 120
noncomputable def tilesB (s : ByteArray) (vs cs : List Int) (k : Int) : Bool := @decide (TilesOk s vs cs k) (Classical.propDecidable _)
theorem tilesB_yes {s : ByteArray} {vs cs : List Int} {k : Int} (h : TilesOk s vs cs k) : tilesB s vs cs k = true := by unfold tilesB; simp [h]
theorem tilesB_no {s : ByteArray} {vs cs : List Int} {k : Int} (h : ¬ TilesOk s vs cs k) : tilesB s vs cs k = false := by unfold tilesB; simp [h]
theorem tilesB_iff {s : ByteArray} {vs cs : List Int} {k : Int} : tilesB s vs cs k = true ↔ TilesOk s vs cs k := by unfold tilesB; simp
theorem allB_smallB (s : ByteArray) : allB smallB s = true ↔ ∀ i (h : i < s.size), smallB (s[i].toNat : Int) = true := by
  constructor
  · intro h i hi
    cases hg : smallB (s[i].toNat : Int)
    · rw [allB_no smallB s i hi hg] at h; cases h
    · rfl
  · exact fun h => allB_yes smallB s h
set_option maxHeartbeats 400000 in
theorem rising_any (s : ByteArray) (w : World) (hs : s.size ≤ 1048576) : Calls Tryz.prog 53 #[.string s] w (Ret (.bool (riseB s)) w) := by
  have HO := hid (fun w' => onlySmall_any s w' hs)
  have HS : Hid (allB smallB s = true ↔ ∀ i (h : i < s.size), smallB (s[i].toNat : Int) = true) := hid (allB_smallB s)
  go_enter Tryz.func53, Tryz.ntmps53
  go_wp2_with fail
  go_loopw [3] (fun i wr => ∃ k : Nat, Hid (1 ≤ k ∧ (k = 1 ∨ k ≤ s.size)) ∧ i = .int .i64 k ∧ Hid (∀ j (hj : j + 1 < s.size), j + 1 < k → s[j].toNat < s[j + 1].toNat) ∧ Dr w wr) (fun i _ => s.size - (intOf i).toNat)
  case atStart => exact ⟨1, hid ⟨by omega, .inl rfl⟩, rfl, hid (fun j _ h => by omega), Dr.refl _⟩
  case round =>
    obtain ⟨k, hk, rfl, hall, hD⟩ := hrel
    by_cases hlt : k < s.size
    · obtain ⟨m, hm⟩ : ∃ m, k = m + 1 := ⟨k - 1, by have := hk.out; omega⟩
      have q1 : (k : Int) - 1 = (m : Int) := by omega
      have hml : m < s.size := by omega
      obtain ⟨x, hx⟩ : ∃ x, s[m] = x := ⟨_, rfl⟩
      obtain ⟨y, hy⟩ : ∃ y, s[k] = y := ⟨_, rfl⟩
      have HXY : Hid (∀ (h : m + 1 < s.size), s[m] = x ∧ s[m + 1] = y) := hid (by subst hm; exact fun h => ⟨hx, hy⟩)
      have HM := hid hm
      clear hm
      by_cases hg : y.toNat ≤ x.toNat
      · have HN : Hid (¬ Rise s) := hid (fun h => by
          have := HM.out
          have h1 := h.2 m (by omega)
          rw [(HXY.out (by omega)).1, (HXY.out (by omega)).2] at h1
          omega)
        go_wp2_with fail
        go_quiet (fail)
        go_wp2_with fail
        go_returns
        exact ⟨ret_bool (riseB_no HN.out).symm, (hD.trans ⟨_, rfl⟩).ext⟩
      · have HG := hid hg
        go_wp2_with fail
        go_quiet (fail)
        go_wp2_with fail
        go_roundw
        case rel => exact ⟨k + 1, hid ⟨by omega, .inr (by omega)⟩, by go_num, hid (fun j hj h => by
          have := HM.out
          by_cases hjk : j = m
          · subst hjk; rw [(HXY.out hj).1, (HXY.out hj).2]; have := HG.out; omega
          · exact hall.out j hj (by omega)), hD.trans ⟨_, rfl⟩⟩
        case measure => simp [intOf]; omega
    · go_wp2_with fail
      refine (HO.out _).mono ?_
      rintro e w1 ⟨rfl, hx⟩
      go_wp2_with fail
      go_returns
      have hall' : ∀ j (hj : j + 1 < s.size), s[j].toNat < s[j + 1].toNat := fun j hj => hall.out j hj (by omega)
      clear hall
      refine ⟨ret_bool ?_, hD.ext.trans hx⟩
      cases hq : allB smallB s
      · exact (riseB_no (fun h => by rw [HS.out.2 h.1] at hq; cases hq)).symm
      · exact (riseB_yes ⟨HS.out.1 hq, hall'⟩).symm
set_option maxRecDepth 100000 in
set_option maxHeartbeats 1600000 in
theorem ValidTiles_any (s : ByteArray) (a b : Option Addr) (c d : Nat) (vs cs : List Int) (k : Int) (w : World) (hs : s.size ≤ 1048576) (l1 : vs.length ≤ 1048576) (l2 : cs.length ≤ 1048576) (h1 : Rd w a (intsV vs)) (h2 : Rd w b (intsV cs)) :
    Calls Tryz.prog 35 #[tileV s a b vs.length cs.length c d k] w (Ret (.bool (tilesB s vs cs k)) w) := by
  have HR := hid (fun w' => rising_any s w' hs)
  have H1 : Hid (∀ w', Ext w w' → Rd w' a (intsV vs)) := hid (fun w' k => h1.ext k)
  have H2 : Hid (∀ w', Ext w w' → Rd w' b (intsV cs)) := hid (fun w' k => h2.ext k)
  clear h1 h2
  by_cases q0 : s.size < 1
  · have HN : Hid (¬ TilesOk s vs cs k) := hid (fun h => by have := h.pos; omega)
    go_enter Tryz.func35, Tryz.ntmps35
    go_wp2_with fail
    go_returns
    exact ⟨ret_bool (tilesB_no HN.out).symm, (Ext.refl w).alloc _⟩
  cases hr : riseB s
  · have HN : Hid (¬ TilesOk s vs cs k) := hid (fun h => by have := riseB_yes h.rise; rw [hr] at this; cases this)
    rw [hr] at HR
    clear hr
    go_enter Tryz.func35, Tryz.ntmps35
    go_wp2_with fail
    refine (HR.out _).mono ?_
    rintro e w1 ⟨rfl, hx⟩
    have hE := ((Ext.refl w).alloc _).trans hx
    clear hx
    go_wp2_with fail
    go_returns
    exact ⟨ret_bool (tilesB_no HN.out).symm, hE⟩
  have HRise : Hid (Rise s) := hid (riseB_iff.1 hr)
  have h26 := HRise.out.size
  rw [hr] at HR
  clear hr
  by_cases q1 : (vs.length : Int) = s.size
  rotate_left
  · have HN : Hid (¬ TilesOk s vs cs k) := hid (fun h => q1 (by have := h.vlen; omega))
    go_enter Tryz.func35, Tryz.ntmps35
    go_wp2_with fail
    refine (HR.out _).mono ?_
    rintro e w1 ⟨rfl, hx⟩
    have hE := ((Ext.refl w).alloc _).trans hx
    have b1 := hx.cell (b := w.heap.size) (o := 1) (v := .slice a vs.length c) (by simp)
    clear hx
    go_wp2_with fail
    go_returns
    exact ⟨ret_bool (tilesB_no HN.out).symm, hE⟩
  by_cases q2 : (cs.length : Int) = s.size
  rotate_left
  · have HN : Hid (¬ TilesOk s vs cs k) := hid (fun h => q2 (by have := h.clen; omega))
    go_enter Tryz.func35, Tryz.ntmps35
    go_wp2_with fail
    refine (HR.out _).mono ?_
    rintro e w1 ⟨rfl, hx⟩
    have hE := ((Ext.refl w).alloc _).trans hx
    have b1 := hx.cell (b := w.heap.size) (o := 1) (v := .slice a vs.length c) (by simp)
    have b2 := hx.cell (b := w.heap.size) (o := 2) (v := .slice b cs.length d) (by simp)
    clear hx
    go_wp2_with fail
    go_returns
    exact ⟨ret_bool (tilesB_no HN.out).symm, hE⟩
  have HV := hid q1
  have HC := hid q2
  cases hb : inB k 0 4
  · have HN : Hid (¬ TilesOk s vs cs k) := hid (fun h => by have := h.blanks; simp only [inB, decide_eq_false_iff_not] at hb; omega)
    have HB := hid hb
    clear hb
    go_enter Tryz.func35, Tryz.ntmps35
    go_wp2_with fail
    refine (HR.out _).mono ?_
    rintro e w1 ⟨rfl, hx⟩
    have hE := ((Ext.refl w).alloc _).trans hx
    have b1 := hx.cell (b := w.heap.size) (o := 1) (v := .slice a vs.length c) (by simp)
    have b2 := hx.cell (b := w.heap.size) (o := 2) (v := .slice b cs.length d) (by simp)
    have b3 := hx.cell (b := w.heap.size) (o := 3) (v := .int .i64 k) (by simp)
    clear hx
    go_wp2_with fail
    refine (within_any _ _ _ _).mono ?_
    rintro e w2 ⟨rfl, rfl⟩
    rw [HB.out]
    go_wp2_with fail
    go_returns
    exact ⟨ret_bool (tilesB_no HN.out).symm, hE⟩
  have HB := hid hb
  have hk4 : 0 ≤ k ∧ k ≤ 4 := by simpa only [inB, decide_eq_true_eq] using hb
  clear hb
  obtain ⟨hk0, hk1⟩ := hk4
  go_enter Tryz.func35, Tryz.ntmps35
  go_wp2_with fail
  refine (HR.out _).mono ?_
  rintro e w1 ⟨rfl, hx⟩
  have hE := ((Ext.refl w).alloc _).trans hx
  have b1 := hx.cell (b := w.heap.size) (o := 1) (v := .slice a vs.length c) (by simp)
  have b2 := hx.cell (b := w.heap.size) (o := 2) (v := .slice b cs.length d) (by simp)
  have b3 := hx.cell (b := w.heap.size) (o := 3) (v := .int .i64 k) (by simp)
  clear hx
  go_wp2_with fail
  refine (within_any _ _ _ _).mono ?_
  rintro e w2 ⟨rfl, rfl⟩
  rw [HB.out]
  go_wp2_with fail
  clear q1 q2
  go_loopw [4, 43] (fun t i wr => ∃ (m : Nat) (z : Int), m ≤ s.size ∧ i = .int .i64 m ∧ t = .int .i64 z ∧ Hid (z = k + (cs.take m).sum) ∧ 0 ≤ z ∧ z ≤ 4 + 20 * (m : Int) ∧ Hid (∀ j, j < m → ∀ (hv : j < vs.length) (hc : j < cs.length), (0 ≤ vs[j] ∧ vs[j] ≤ 20) ∧ 1 ≤ cs[j] ∧ cs[j] ≤ 20) ∧ wr = w1) (fun _ i _ => s.size - (intOf i).toNat)
  case atStart => exact ⟨0, k, by omega, rfl, rfl, hid (by simp), hk0, by omega, hid (fun j h => by omega), rfl⟩
  case round =>
    obtain ⟨m, z, hm, rfl, rfl, hz, hz0, hz1, hall, rfl⟩ := hrel
    by_cases hls : m < s.size
    · have hlt : m < cs.length := by have := HC.out; omega
      have hmv : m < vs.length := by have := HV.out; have := HC.out; omega
      have hm26 : m < 26 := by have := HC.out; omega
      obtain ⟨g1, o1, rfl, hc1⟩ := (H1.out _ hE).int (by omega)
      obtain ⟨g2, o2, rfl, hc2⟩ := (H2.out _ hE).int (by omega)
      have cv := hc1 m hmv
      have cc := hc2 m hlt
      clear hc1 hc2
      have HT := hid (show (cs.take (m + 1)).sum = (cs.take m).sum + cs[m] by rw [List.take_succ_eq_append_getElem hlt, List.sum_append]; simp)
      obtain ⟨x, hx⟩ : ∃ x, vs[m] = x := ⟨_, rfl⟩
      obtain ⟨y, hy⟩ : ∃ y, cs[m] = y := ⟨_, rfl⟩
      rw [hx] at cv
      rw [hy] at cc HT
      have HX := hid hx
      have HY := hid hy
      clear hx hy
      cases hgv : inB x 0 20
      · have HGV := hid hgv
        have HN : Hid (¬ TilesOk s vs cs k) := hid (fun h => by have h3 := h.vals m hmv; rw [HX.out] at h3; simp only [inB, decide_eq_false_iff_not] at hgv; omega)
        clear hgv
        go_wp2_with fail
        refine (within_any _ _ _ _).mono ?_
        rintro e w2 ⟨rfl, rfl⟩
        rw [HGV.out]
        go_wp2_with fail
        go_returns
        exact ⟨ret_bool (tilesB_no HN.out).symm, hE⟩
      have HGV := hid hgv
      have hgv2 := hid (show 0 ≤ x ∧ x ≤ 20 by simpa only [inB, decide_eq_true_eq] using hgv)
      clear hgv
      cases hgc : inB y 1 20
      · have HGC := hid hgc
        have HN : Hid (¬ TilesOk s vs cs k) := hid (fun h => by have h3 := h.cnts m hlt; rw [HY.out] at h3; simp only [inB, decide_eq_false_iff_not] at hgc; omega)
        clear hgc
        go_wp2_with fail
        refine (within_any _ _ _ _).mono ?_
        rintro e w2 ⟨rfl, rfl⟩
        rw [HGV.out]
        go_wp2_with fail
        refine (within_any _ _ _ _).mono ?_
        rintro e w2 ⟨rfl, rfl⟩
        rw [HGC.out]
        go_wp2_with fail
        go_returns
        exact ⟨ret_bool (tilesB_no HN.out).symm, hE⟩
      have HGC := hid hgc
      have hgc2 : 1 ≤ y ∧ y ≤ 20 := by simpa only [inB, decide_eq_true_eq] using hgc
      clear hgc
      obtain ⟨hy1, hy2⟩ := hgc2
      go_wp2_with fail
      refine (within_any _ _ _ _).mono ?_
      rintro e w2 ⟨rfl, rfl⟩
      rw [HGV.out]
      go_wp2_with fail
      refine (within_any _ _ _ _).mono ?_
      rintro e w2 ⟨rfl, rfl⟩
      rw [HGC.out]
      go_wp2_with fail
      go_roundw
      case rel =>
        refine ⟨m + 1, z + y, by omega, by go_num, rfl, hid (by rw [hz.out, HT.out]; omega), by omega, by omega, hid (fun j hj hv hc => ?_), trivial⟩
        by_cases hjm : j = m
        · subst hjm
          rw [HX.out, HY.out]
          exact ⟨hgv2.out, hy1, hy2⟩
        · exact hall.out j (by omega) hv hc
      case measure => simp [intOf]; omega
    · have hmc := hid (show m = cs.length by have := HC.out; omega)
      have hsum := hid (show z = k + cs.sum by rw [hz.out, hmc.out, List.take_length])
      have hfit : TilesOk s vs cs k ↔ z ≤ 120 := ⟨fun h => by rw [hsum.out]; exact h.all, fun h => ⟨by omega, HRise.out, by have := HV.out; omega, by have := HC.out; omega, ⟨hk0, hk1⟩, fun j hj => (hall.out j (by have := hmc.out; have := HV.out; have := HC.out; omega) hj (by have := HV.out; have := HC.out; omega)).1, fun j hj => (hall.out j (by have := hmc.out; omega) (by have := HV.out; have := HC.out; omega) hj).2, by rw [← hsum.out]; exact h⟩⟩
      have HF := hid hfit
      clear hfit
      by_cases h120 : z ≤ 120
      · go_wp2_with fail
        go_returns
        exact ⟨ret_bool (tilesB_yes (HF.out.2 h120)).symm, hE⟩
      · go_wp2_with fail
        go_returns
        exact ⟨ret_bool (tilesB_no (fun h => by have := HF.out.1 h; omega)).symm, hE⟩
end Go.Proofs.YtcgedkpbobgkhaaGreatDoor
