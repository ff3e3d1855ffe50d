/- The letters on a board, and whether there are any, by both. Conditions stand at each. -/
import Derived.Test.YtmohfdfjlgekaaaDoorCh11f
import Derived.Test.YtmohfdfjlgekaaaDoorReplL
import Derived.Test.YtmohfdfjlgekaaaDoorShelf
namespace Go.Proofs.YtmohfdfjlgekaaaDoor
set_option linter.unusedVariables false
set_option linter.unusedSimpArgs false
open Go Go.RowKit
theorem ReplaceAll_dot (s : ByteArray) (w : World) (hs : s.size ≤ 1048576) (hM : MaxAt w) : Calls Tryd.prog 85 #[.string s, .string ⟨#[46]⟩, .string ⟨#[]⟩] w (Ret (.string (noDot s)) w) := by
  obtain ⟨m, hm⟩ := hM
  refine (Tryd.strings_ReplaceAll s ⟨#[46]⟩ ⟨#[]⟩ m w (by omega) hm (by decide) (by show s.size + _ * 0 ≤ _; omega)).mono ?_
  rintro e w' ⟨he, hb⟩
  rw [show Lib.replaceAll s.data.toList (⟨#[46]⟩ : ByteArray).data.toList (⟨#[]⟩ : ByteArray).data.toList = s.data.toList.filter (· != 46) from replaceAll_dot s] at he
  exact ⟨he, hb⟩
theorem lettersOn_any (n : Int) (p c : ByteArray) (w : World) (hc : c.size ≤ 1048576) (hM : MaxAt w) : Calls Tryd.prog 67 #[boardV n p c] w (Ret (.string (noDot c)) w) := by
  have HM := hid (hM.ext ((Ext.refl w).alloc (.cells #[.int .i64 n, .string p, .string c] 28)))
  clear hM
  go_enter Tryd.func67, Tryd.ntmps67
  go_wp2_with fail
  refine (ReplaceAll_dot c _ hc HM.out).mono ?_
  rintro e w1 ⟨rfl, hx⟩
  go_wp2_with fail
  go_returns
  exact ⟨rfl, ((Ext.refl w).alloc _).trans hx⟩
def blankS (c : ByteArray) : Bool := (noDot c).toList.isEmpty
theorem blankS_eq (c : ByteArray) : blankS c = (c.data.toList.filter (· != 46)).isEmpty := by
  unfold blankS noDot
  rw [ByteArray.toList_eq]
theorem blank_any (n : Int) (p c : ByteArray) (w : World) (hc : c.size ≤ 1048576) (hM : MaxAt w) : Calls Tryd.prog 43 #[boardV n p c] w (Ret (.bool (blankS c)) w) := by
  have HL := hid (lettersOn_any n p c _ hc (hM.ext ((Ext.refl w).alloc (.cells #[.int .i64 n, .string p, .string c] 28))))
  have HB : Hid (blankS c = (noDot c).toList.isEmpty) := hid rfl
  obtain ⟨X, hX⟩ : ∃ X, noDot c = X := ⟨_, rfl⟩
  rw [hX] at HL HB
  clear hX hM
  go_enter Tryd.func43, Tryd.ntmps43
  go_wp2_with fail
  refine HL.out.mono ?_
  rintro e w1 ⟨rfl, hx⟩
  go_wp2_with fail
  go_returns
  exact ⟨by rw [HB.out]; rfl, ((Ext.refl w).alloc _).trans hx⟩
theorem IsBlank_any (n : Int) (p c : ByteArray) (w : World) (hp : p.size ≤ 1048576) (hc : c.size ≤ 1048576) (hM : MaxAt w) : Calls Tryd.prog 22 #[boardV n p c] w (Ret (.bool (okB n p c && blankS c)) w) := by
  have HM := hid (fun w' (h : Ext w w') => hM.ext h)
  clear hM
  cases hk : okB n p c
  · have HV := hid (fun w' => ValidBoard_any n p c w' hp hc)
    rw [hk] at HV
    clear hk
    go_enter Tryd.func22, Tryd.ntmps22
    go_wp2_with fail
    refine (HV.out _).mono ?_
    rintro e w1 ⟨rfl, hx⟩
    go_wp2_with fail
    go_returns
    exact ⟨rfl, ((Ext.refl w).alloc _).trans hx⟩
  · have HV := hid (fun w' => ValidBoard_any n p c w' hp hc)
    rw [hk] at HV
    clear hk
    go_enter Tryd.func22, Tryd.ntmps22
    go_wp2_with fail
    refine (HV.out _).mono ?_
    rintro e w1 ⟨rfl, hx⟩
    have hE := ((Ext.refl w).alloc _).trans hx
    have b0 := hx.cell (b := w.heap.size) (o := 0) (v := .int .i64 n) (by simp)
    have b1 := hx.cell (b := w.heap.size) (o := 1) (v := .string p) (by simp)
    have b2 := hx.cell (b := w.heap.size) (o := 2) (v := .string c) (by simp)
    clear hx
    have HB := hid (blank_any n p c w1 hc (HM.out _ hE))
    obtain ⟨z, hz⟩ : ∃ z, blankS c = z := ⟨_, rfl⟩
    rw [hz] at HB
    have HZ := hid hz
    clear hz
    go_wp2_with fail
    refine HB.out.mono ?_
    rintro e w2 ⟨rfl, hx⟩
    go_wp2_with fail
    go_returns
    exact ⟨by rw [HZ.out]; cases z <;> rfl, hE.trans hx⟩
end Go.Proofs.YtmohfdfjlgekaaaDoor
