/- IsAnchor, by both. Conditions stand at each. -/
import Derived.Test.YtlolacjlconjkaaDoorCh14a
namespace Go.Proofs.YtlolacjlconjkaaDoor
set_option linter.unusedVariables false
set_option linter.unusedSimpArgs false
open Go Go.RowKit
def isAnc (n : Int) (p c : ByteArray) (i j : Int) : Bool := okB n p c && ancB n c i j
theorem IsAnchor_any (n : Int) (p c : ByteArray) (i j : Int) (w : World) (hp : p.size ≤ 1048576) (hc : c.size ≤ 1048576) (hM : MaxAt w) : Calls Tryd.prog 14 #[boardV n p c, .int .i64 i, .int .i64 j] w (Ret (.bool (isAnc n p c i j)) w) := by
  have HM := hid (fun w' (h : Ext w w') => hM.ext h)
  have HV : Hid (isAnc n p c i j = (okB n p c && ancB n c i j)) := hid rfl
  have HO := hid (fun w' => ValidBoard_any n p c w' hp hc)
  clear hM
  cases hk : okB n p c
  · rw [hk] at HO
    have HK := hid hk
    clear hk
    go_enter Tryd.func14, Tryd.ntmps14
    go_wp2_with fail
    refine (HO.out _).mono ?_
    rintro e w1 ⟨rfl, hx⟩
    go_wp2_with fail
    go_returns
    exact ⟨by rw [HV.out, HK.out]; rfl, ((Ext.refl w).alloc _).trans hx⟩
  · rw [hk] at HO
    have HK := hid hk
    have HA := hid (fun w' (h : MaxAt w') => anchor_any n p c i j w' hk h)
    clear hk
    go_enter Tryd.func14, Tryd.ntmps14
    go_wp2_with fail
    refine (HO.out _).mono ?_
    rintro e w1 ⟨rfl, hx⟩
    have hE := ((Ext.refl w).alloc _).trans hx
    have b0 := hx.cell (b := w.heap.size) (o := 0) (v := .int .i64 n) (by simp)
    have b1 := hx.cell (b := w.heap.size) (o := 1) (v := .string p) (by simp)
    have b2 := hx.cell (b := w.heap.size) (o := 2) (v := .string c) (by simp)
    clear hx
    go_wp2_with fail
    refine (HA.out _ (HM.out _ hE)).mono ?_
    rintro e w2 ⟨rfl, hx⟩
    go_wp2_with fail
    go_returns
    exact ⟨by rw [HV.out, HK.out]; rfl, hE.trans hx⟩
theorem sIsAnchor_any (n : Int) (p c : ByteArray) (i j : Int) (w : World) (hp : p.size ≤ 1048576) (hc : c.size ≤ 1048576) : Calls Tryd.prog 13 #[boardV n p c, .int .i64 i, .int .i64 j] w (Ret (.bool (isAnc n p c i j)) w) := by
  have HV : Hid (isAnc n p c i j = (okB n p c && ancB n c i j)) := hid rfl
  have HBD : Hid (BdAt (w.alloc (.cells #[.int .i64 n, .string p, .string c] 26)) w.heap.size 0 n p c) := hid ⟨by simp, by simp, by simp⟩
  have HO := hid (l11Ok_any w.heap.size 0 n p c _ HBD.out hp hc)
  cases hk : okB n p c
  · rw [hk] at HO
    have HK := hid hk
    clear hk
    go_enter Tryd.func13, Tryd.ntmps13
    go_wp2_with fail
    refine HO.out.mono ?_
    rintro e w1 ⟨rfl, hx⟩
    have hx2 := Dr.ext hx
    go_wp2_with fail
    go_returns
    exact ⟨by rw [HV.out, HK.out]; rfl, ((Ext.refl w).alloc _).trans hx2⟩
  · rw [hk] at HO
    have HK := hid hk
    have HA := hid (fun w' h => l14Anchor_any w.heap.size 0 n p c i j w' h hk)
    clear hk
    go_enter Tryd.func13, Tryd.ntmps13
    go_wp2_with fail
    refine HO.out.mono ?_
    rintro e w1 ⟨rfl, hx⟩
    have hx2 := Dr.ext hx
    have hE := ((Ext.refl w).alloc _).trans hx2
    have HB1 := hid (HBD.out.ext hx2)
    clear hx hx2
    go_wp2_with fail
    refine (HA.out _ HB1.out).mono ?_
    rintro e w2 ⟨rfl, hx⟩
    go_wp2_with fail
    go_returns
    exact ⟨by rw [HV.out, HK.out]; rfl, hE.trans hx⟩
end Go.Proofs.YtlolacjlconjkaaDoor
