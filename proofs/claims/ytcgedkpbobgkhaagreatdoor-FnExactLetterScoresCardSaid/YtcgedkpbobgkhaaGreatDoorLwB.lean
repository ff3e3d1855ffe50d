/- SameBoard, TransposePlay; and what the laws' own functions on boards and plays compute. Conditions: sizes up to 2^40, room left 0..2^20. -/
import Derived.Test.YtcgedkpbobgkhaaGreatDoorCh11i
namespace Go.Proofs.YtcgedkpbobgkhaaGreatDoor
set_option linter.unusedVariables false
set_option linter.unusedSimpArgs false
open Go Go.RowKit

def sameV (n : Int) (p c : ByteArray) (m : Int) (q d : ByteArray) : Bool := decide (n = m) && decide (p.toList = q.toList) && decide (c.toList = d.toList)
def szB (L : Int) (p c : ByteArray) : Int := if L < p.size then -1 else if L - p.size < c.size then -1 else L - p.size - c.size
theorem szBoard_any (n : Int) (p c : ByteArray) (L : Int) (w : World) (hp : p.size ≤ maxLen) (hc : c.size ≤ maxLen) (h0 : 0 ≤ L) (h1 : L ≤ 1048576) : Calls Tryz.prog 5 #[boardV n p c, .int .i64 L] w (Ret (.int .i64 (szB L p c)) w) := by
  have H : Hid (szB L p c = if L < p.size then -1 else if L - p.size < c.size then -1 else L - p.size - c.size) := hid rfl
  unfold maxLen at hp hc
  by_cases hl : L < p.size
  · have l1 : L - p.size < 0 := by omega
    go_enter Tryz.func5, Tryz.ntmps5
    go_wp2_with fail
    go_returns
    exact ⟨ret_int (by rw [H.out, if_pos hl]), (Ext.refl w).alloc _⟩
  · have l1 : ¬ L - p.size < 0 := by omega
    by_cases hk : L - p.size < c.size
    · have l2 : L - p.size - c.size < 0 := by omega
      go_enter Tryz.func5, Tryz.ntmps5
      go_wp2_with fail
      go_returns
      exact ⟨ret_int (by rw [H.out, if_neg (by omega), if_pos (by omega)]), (Ext.refl w).alloc _⟩
    · have l2 : ¬ L - p.size - c.size < 0 := by omega
      go_enter Tryz.func5, Tryz.ntmps5
      go_wp2_with fail
      go_returns
      exact ⟨ret_int (by rw [H.out, if_neg (by omega), if_neg (by omega)]), (Ext.refl w).alloc _⟩
theorem toBoard_any (n : Int) (p c : ByteArray) (w : World) : Calls Tryz.prog 9 #[boardV n p c] w (Ret (boardV n p c) w) := by
  go_enter Tryz.func9, Tryz.ntmps9
  go_wp2_with fail
  go_returns
  exact ⟨rfl, (((Ext.refl w).alloc _).alloc _).alloc _⟩

abbrev playV (r c : Int) (d : Bool) (s : ByteArray) : Value := .agg #[.int .i64 r, .int .i64 c, .bool d, .string s]
theorem l12Turn_any (r c : Int) (d : Bool) (s : ByteArray) (w : World) : Calls Tryz.prog 31 #[playV r c d s] w (Ret (playV c r (!d) s) w) := by
  cases d <;> (go_enter Tryz.func31, Tryz.ntmps31; go_wp2_with fail; go_returns; exact ⟨rfl, ((Ext.refl w).alloc _).alloc _⟩)
def szP (L : Int) (s : ByteArray) : Int := if L < s.size then -1 else L - s.size
theorem szPlay_any (r c : Int) (d : Bool) (s : ByteArray) (L : Int) (w : World) (hs : s.size ≤ maxLen) (h0 : 0 ≤ L) (h1 : L ≤ 1048576) : Calls Tryz.prog 6 #[playV r c d s, .int .i64 L] w (Ret (.int .i64 (szP L s)) w) := by
  have H : Hid (szP L s = if L < s.size then -1 else L - s.size) := hid rfl
  unfold maxLen at hs
  by_cases hl : L < s.size
  · have l1 : L - s.size < 0 := by omega
    go_enter Tryz.func6, Tryz.ntmps6
    go_wp2_with fail
    go_returns
    exact ⟨ret_int (by rw [H.out, if_pos hl]), (Ext.refl w).alloc _⟩
  · have l1 : ¬ L - s.size < 0 := by omega
    go_enter Tryz.func6, Tryz.ntmps6
    go_wp2_with fail
    go_returns
    exact ⟨ret_int (by rw [H.out, if_neg (by omega)]), (Ext.refl w).alloc _⟩
theorem toPlay_any (r c : Int) (d : Bool) (s : ByteArray) (w : World) : Calls Tryz.prog 10 #[playV r c d s] w (Ret (playV r c d s) w) := by
  cases d <;> (go_enter Tryz.func10, Tryz.ntmps10; go_wp2_with fail; go_returns; exact ⟨rfl, (((Ext.refl w).alloc _).alloc _).alloc _⟩)
end Go.Proofs.YtcgedkpbobgkhaaGreatDoor
