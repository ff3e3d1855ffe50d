/- Several texts in one: Ch11s, LwB. Conditions: see each. -/
import Derived.Test.YtmohfdfjlgekaaaGreatDoorCh11r
import Derived.Test.YtmohfdfjlgekaaaGreatDoorCh03c
import Derived.Test.YtmohfdfjlgekaaaGreatDoorCh11e
import Derived.Test.YtmohfdfjlgekaaaGreatDoorMg3
section
namespace Go.Proofs.YtmohfdfjlgekaaaGreatDoor
set_option linter.unusedVariables false
set_option linter.unusedSimpArgs false
open Go Go.RowKit
def tilesV (n : Int) (p c : ByteArray) : Value := if okB n p c then if 120 < (noDot c).size then .tuple #[.string ⟨#[]⟩, .int .i64 5] else .tuple #[.string (pileS (noDot c)), .int .i64 0] else .tuple #[.string ⟨#[]⟩, .int .i64 1]
theorem noDot_letP {n : Int} {p c : ByteArray} (h : okB n p c = true) : ∀ x ∈ (noDot c).data.toList, letP x := by
  intro x hx
  have hx2 : x ∈ c.data.toList.filter (· != 46) := by simpa [noDot] using hx
  obtain ⟨h1, h2⟩ := List.mem_filter.1 hx2
  have f : allB cellB c = true := by
    simp only [okB, Bool.and_eq_true] at h
    exact h.2.2.2.2
  have h3 := List.all_eq_true.1 f x h1
  unfold cellB smallB capB at h3
  simp only [Bool.or_eq_true, decide_eq_true_eq] at h3
  have h4 : ¬ (x.toNat : Int) = 46 := by
    intro e
    have : x = 46 := UInt8.toNat_inj.1 (by show x.toNat = 46; omega)
    simp [this] at h2
  unfold letP
  omega
set_option maxHeartbeats 1000000 in
theorem TilesOn_any (n : Int) (p c : ByteArray) (w : World) (hp : p.size ≤ 1048576) (hc : c.size ≤ 1048576) (hM : MaxAt w) : Calls Tryz.prog 9 #[boardV n p c] w (Ret (tilesV n p c) w) := by
  have HM := hid (fun w' (h : Ext w w') => hM.ext h)
  have HV : Hid (tilesV n p c = if okB n p c then if 120 < (noDot c).size then .tuple #[.string ⟨#[]⟩, .int .i64 5] else .tuple #[.string (pileS (noDot c)), .int .i64 0] else .tuple #[.string ⟨#[]⟩, .int .i64 1]) := hid rfl
  have HO := hid (fun w' => ValidBoard_any n p c w' hp hc)
  clear hM
  cases hk : okB n p c
  · rw [hk] at HO
    have HK := hid hk
    clear hk
    go_enter Tryz.func9, Tryz.ntmps9
    go_wp2_with fail
    refine (HO.out _).mono ?_
    rintro e w1 ⟨rfl, hx⟩
    go_wp2_with fail
    go_returns
    exact ⟨by rw [HV.out, HK.out]; rfl, ((Ext.refl w).alloc _).trans hx⟩
  · rw [hk] at HO
    have HK := hid hk
    have HT := hid (fun w' (h : (noDot c).size ≤ 1048576) => tilesOf_any (noDot c) w' h (noDot_letP hk))
    have HLE := hid (noDot_le c)
    have HLT := hid (fun w' (h : MaxAt w') => lettersOn_any n p c w' hc h)
    obtain ⟨X, hX⟩ : ∃ X, noDot c = X := ⟨_, rfl⟩
    obtain ⟨Y, hY⟩ : ∃ Y, pileS X = Y := ⟨_, rfl⟩
    rw [hX] at HT HLE HLT HV
    rw [hY] at HT HV
    clear hk hX hY
    have hXl : X.size ≤ 1048576 := by have := HLE.out; omega
    go_enter Tryz.func9, Tryz.ntmps9
    go_wp2_with fail
    refine (HO.out _).mono ?_
    rintro e w1 ⟨rfl, hx⟩
    have hE := ((Ext.refl w).alloc _).trans hx
    have b0 := hx.cell (b := w.heap.size) (o := 0) (v := .int .i64 n) (by simp)
    have b1 := hx.cell (b := w.heap.size) (o := 1) (v := .string p) (by simp)
    have b2 := hx.cell (b := w.heap.size) (o := 2) (v := .string c) (by simp)
    clear hx
    go_wp2_with fail
    refine (HLT.out _ (HM.out _ hE)).mono ?_
    rintro e w2 ⟨rfl, hx⟩
    have hE2 := hE.trans hx
    clear hx b0 b1 b2
    by_cases h120 : 120 < X.size
    · have h121 : (120 : Int) < (X.size : Int) := by omega
      go_wp2_with fail
      go_returns
      exact ⟨by rw [HV.out, HK.out, if_pos rfl, if_pos h120]; rfl, hE2⟩
    · have h121 : ¬ (120 : Int) < (X.size : Int) := by omega
      go_wp2_with fail
      refine (HT.out _ hXl).mono ?_
      rintro e w3 ⟨rfl, hx⟩
      go_wp2_with fail
      go_returns
      exact ⟨by rw [HV.out, HK.out, if_pos rfl, if_neg h120]; rfl, hE2.trans hx⟩
set_option maxHeartbeats 1000000 in
theorem sTilesOn_any (n : Int) (p c : ByteArray) (w : World) (hp : p.size ≤ 1048576) (hc : c.size ≤ 1048576) : Calls Tryz.prog 10 #[boardV n p c] w (Ret (tilesV n p c) w) := by
  have HV : Hid (tilesV n p c = if okB n p c then if 120 < (noDot c).size then .tuple #[.string ⟨#[]⟩, .int .i64 5] else .tuple #[.string (pileS (noDot c)), .int .i64 0] else .tuple #[.string ⟨#[]⟩, .int .i64 1]) := hid rfl
  have HBD : Hid (BdAt (w.alloc (.cells #[.int .i64 n, .string p, .string c] 25)) w.heap.size 0 n p c) := hid ⟨by simp, by simp, by simp⟩
  have HO := hid (l11Ok_any w.heap.size 0 n p c _ HBD.out hp hc)
  cases hk : okB n p c
  · rw [hk] at HO
    have HK := hid hk
    clear hk
    go_enter Tryz.func10, Tryz.ntmps10
    go_wp2_with fail
    refine HO.out.mono ?_
    rintro e w1 ⟨rfl, hx⟩
    have hx2 := Dr.ext hx
    go_wp2_with fail
    go_returns
    exact ⟨by rw [HV.out, HK.out]; rfl, ((Ext.refl w).alloc _).trans hx2⟩
  · rw [hk] at HO
    have HK := hid hk
    have HT := hid (fun w' (h : (noDot c).size ≤ 1048576) => l03Tiles_any (noDot c) w' h)
    have HLE := hid (noDot_le c)
    have HLT := hid (fun w' h => l11Letters_any w.heap.size 0 n p c w' h hc)
    obtain ⟨X, hX⟩ : ∃ X, noDot c = X := ⟨_, rfl⟩
    obtain ⟨Y, hY⟩ : ∃ Y, pileS X = Y := ⟨_, rfl⟩
    rw [hX] at HT HLE HLT HV
    rw [hY] at HT HV
    clear hk hX hY
    have hXl : X.size ≤ 1048576 := by have := HLE.out; omega
    go_enter Tryz.func10, Tryz.ntmps10
    go_wp2_with fail
    refine HO.out.mono ?_
    rintro e w1 ⟨rfl, hx⟩
    have hx2 := Dr.ext hx
    have hE := ((Ext.refl w).alloc _).trans hx2
    have HB1 := hid (HBD.out.ext hx2)
    clear hx hx2
    go_wp2_with fail
    refine (HLT.out _ HB1.out).mono ?_
    rintro e w2 ⟨rfl, hx⟩
    have hE2 := hE.trans hx
    clear hx
    by_cases h120 : 120 < X.size
    · have h121 : (120 : Int) < (X.size : Int) := by omega
      go_wp2_with fail
      go_returns
      exact ⟨by rw [HV.out, HK.out, if_pos rfl, if_pos h120]; rfl, hE2⟩
    · have h121 : ¬ (120 : Int) < (X.size : Int) := by omega
      go_wp2_with fail
      refine (HT.out _ hXl).mono ?_
      rintro e w3 ⟨rfl, hx⟩
      go_wp2_with fail
      go_returns
      exact ⟨by rw [HV.out, HK.out, if_pos rfl, if_neg h120]; rfl, hE2.trans hx⟩
end Go.Proofs.YtmohfdfjlgekaaaGreatDoor
end
section
namespace Go.Proofs.YtmohfdfjlgekaaaGreatDoor
set_option linter.unusedVariables false
set_option linter.unusedSimpArgs false
open Go Go.RowKit

def sameV (n : Int) (p c : ByteArray) (m : Int) (q d : ByteArray) : Bool := decide (n = m) && decide (p.toList = q.toList) && decide (c.toList = d.toList)
def szB (L : Int) (p c : ByteArray) : Int := if L < p.size then -1 else if L - p.size < c.size then -1 else L - p.size - c.size

abbrev playV (r c : Int) (d : Bool) (s : ByteArray) : Value := .agg #[.int .i64 r, .int .i64 c, .bool d, .string s]
def szP (L : Int) (s : ByteArray) : Int := if L < s.size then -1 else L - s.size
end Go.Proofs.YtmohfdfjlgekaaaGreatDoor
end
