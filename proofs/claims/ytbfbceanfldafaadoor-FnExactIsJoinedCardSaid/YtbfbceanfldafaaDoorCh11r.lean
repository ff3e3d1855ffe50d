/- The letters on a board, and whether there are any, by both. Conditions stand at each. -/
import Derived.Test.YtbfbceanfldafaaDoorCh11f
import Derived.Test.YtbfbceanfldafaaDoorReplL
import Derived.Test.YtbfbceanfldafaaDoorShelf
namespace Go.Proofs.YtbfbceanfldafaaDoor
set_option linter.unusedVariables false
set_option linter.unusedSimpArgs false
open Go Go.RowKit
theorem ReplaceAll_dot (s : ByteArray) (w : World) (hs : s.size ≤ 1048576) (hM : MaxAt w) : Calls Tryd.prog 27 #[.string s, .string ⟨#[46]⟩, .string ⟨#[]⟩] w (Ret (.string (noDot s)) w) := by
  obtain ⟨m, hm⟩ := hM
  refine (Tryd.strings_ReplaceAll s ⟨#[46]⟩ ⟨#[]⟩ m w (by omega) hm (by decide) (by show s.size + _ * 0 ≤ _; omega)).mono ?_
  rintro e w' ⟨he, hb⟩
  rw [show Lib.replaceAll s.data.toList (⟨#[46]⟩ : ByteArray).data.toList (⟨#[]⟩ : ByteArray).data.toList = s.data.toList.filter (· != 46) from replaceAll_dot s] at he
  exact ⟨he, hb⟩
theorem lettersOn_any (n : Int) (p c : ByteArray) (w : World) (hc : c.size ≤ 1048576) (hM : MaxAt w) : Calls Tryd.prog 16 #[boardV n p c] w (Ret (.string (noDot c)) w) := by
  have HM := hid (hM.ext ((Ext.refl w).alloc (.cells #[.int .i64 n, .string p, .string c] 26)))
  clear hM
  go_enter Tryd.func16, Tryd.ntmps16
  go_wp2_with fail
  refine (ReplaceAll_dot c _ hc HM.out).mono ?_
  rintro e w1 ⟨rfl, hx⟩
  go_wp2_with fail
  go_returns
  exact ⟨rfl, ((Ext.refl w).alloc _).trans hx⟩
def blankS (c : ByteArray) : Bool := (noDot c).toList.isEmpty
theorem blankS_eq (c : ByteArray) : blankS c = (c.data.toList.filter (· != 46)).isEmpty := by
  unfold blankS noDot
  rw [ByteArray.toList_eq]
theorem blank_any (n : Int) (p c : ByteArray) (w : World) (hc : c.size ≤ 1048576) (hM : MaxAt w) : Calls Tryd.prog 11 #[boardV n p c] w (Ret (.bool (blankS c)) w) := by
  have HL := hid (lettersOn_any n p c _ hc (hM.ext ((Ext.refl w).alloc (.cells #[.int .i64 n, .string p, .string c] 26))))
  have HB : Hid (blankS c = (noDot c).toList.isEmpty) := hid rfl
  obtain ⟨X, hX⟩ : ∃ X, noDot c = X := ⟨_, rfl⟩
  rw [hX] at HL HB
  clear hX hM
  go_enter Tryd.func11, Tryd.ntmps11
  go_wp2_with fail
  refine HL.out.mono ?_
  rintro e w1 ⟨rfl, hx⟩
  go_wp2_with fail
  go_returns
  exact ⟨by rw [HB.out]; rfl, ((Ext.refl w).alloc _).trans hx⟩
end Go.Proofs.YtbfbceanfldafaaDoor
