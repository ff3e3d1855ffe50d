/- SameBoard, TransposePlay; and what the laws' own functions on boards and plays compute. Conditions: sizes up to 2^40, room left 0..2^20. -/
import Derived.Test.YtjmiheapcbnhhaaCh11i
namespace Go.Proofs.Ytjmiheapcbnhhaa
set_option linter.unusedVariables false
set_option linter.unusedSimpArgs false
open Go Go.RowKit

def sameV (n : Int) (p c : ByteArray) (m : Int) (q d : ByteArray) : Bool := decide (n = m) && decide (p.toList = q.toList) && decide (c.toList = d.toList)
theorem SameBoard_any (n : Int) (p c : ByteArray) (m : Int) (q d : ByteArray) (w : World) : Calls Try.prog 14 #[boardV n p c, boardV m q d] w (Ret (.bool (sameV n p c m q d)) w) := by
  go_enter Try.func14, Try.ntmps14
  go_wp2_with fail
  all_goals (go_returns; exact ⟨ret_bool (by simp [sameV, *]), ((Ext.refl w).alloc _).alloc _⟩)
theorem sSameBoard_any (n : Int) (p c : ByteArray) (m : Int) (q d : ByteArray) (w : World) : Calls Try.prog 12 #[boardV n p c, boardV m q d] w (Ret (.bool (sameV n p c m q d)) w) := by
  go_enter Try.func12, Try.ntmps12
  go_wp2_with fail
  all_goals (go_returns; exact ⟨ret_bool (by simp [sameV, *]), ((Ext.refl w).alloc _).alloc _⟩)
def szB (L : Int) (p c : ByteArray) : Int := if L < p.size then -1 else if L - p.size < c.size then -1 else L - p.size - c.size
theorem szBoard_any (n : Int) (p c : ByteArray) (L : Int) (w : World) (hp : p.size ≤ maxLen) (hc : c.size ≤ maxLen) (h0 : 0 ≤ L) (h1 : L ≤ 1048576) : Calls Try.prog 11 #[boardV n p c, .int .i64 L] w (Ret (.int .i64 (szB L p c)) w) := by
  have H : Hid (szB L p c = if L < p.size then -1 else if L - p.size < c.size then -1 else L - p.size - c.size) := hid rfl
  unfold maxLen at hp hc
  by_cases hl : L < p.size
  · have l1 : L - p.size < 0 := by omega
    go_enter Try.func11, Try.ntmps11
    go_wp2_with fail
    go_returns
    exact ⟨ret_int (by rw [H.out, if_pos hl]), (Ext.refl w).alloc _⟩
  · have l1 : ¬ L - p.size < 0 := by omega
    by_cases hk : L - p.size < c.size
    · have l2 : L - p.size - c.size < 0 := by omega
      go_enter Try.func11, Try.ntmps11
      go_wp2_with fail
      go_returns
      exact ⟨ret_int (by rw [H.out, if_neg (by omega), if_pos (by omega)]), (Ext.refl w).alloc _⟩
    · have l2 : ¬ L - p.size - c.size < 0 := by omega
      go_enter Try.func11, Try.ntmps11
      go_wp2_with fail
      go_returns
      exact ⟨ret_int (by rw [H.out, if_neg (by omega), if_neg (by omega)]), (Ext.refl w).alloc _⟩
theorem toBoard_any (n : Int) (p c : ByteArray) (w : World) : Calls Try.prog 13 #[boardV n p c] w (Ret (boardV n p c) w) := by
  go_enter Try.func13, Try.ntmps13
  go_wp2_with fail
  go_returns
  exact ⟨rfl, (((Ext.refl w).alloc _).alloc _).alloc _⟩
theorem eqBoard_self (n : Int) (p c : ByteArray) (w : World) : Calls Try.prog 28 #[boardV n p c, boardV n p c] w (Ret (.bool true) w) := by
  go_enter Try.func28, Try.ntmps28
  go_wp2_with fail
  go_returns
  exact ⟨rfl, ((Ext.refl w).alloc _).alloc _⟩

abbrev playV (r c : Int) (d : Bool) (s : ByteArray) : Value := .agg #[.int .i64 r, .int .i64 c, .bool d, .string s]
theorem TransposePlay_any (r c : Int) (d : Bool) (s : ByteArray) (w : World) : Calls Try.prog 18 #[playV r c d s] w (Ret (playV c r (!d) s) w) := by
  cases d <;> (go_enter Try.func18, Try.ntmps18; go_wp2_with fail; go_returns; exact ⟨rfl, ((Ext.refl w).alloc _).alloc _⟩)
theorem l12Turn_any (r c : Int) (d : Bool) (s : ByteArray) (w : World) : Calls Try.prog 33 #[playV r c d s] w (Ret (playV c r (!d) s) w) := by
  cases d <;> (go_enter Try.func33, Try.ntmps33; go_wp2_with fail; go_returns; exact ⟨rfl, ((Ext.refl w).alloc _).alloc _⟩)
theorem sTransposePlay_any (r c : Int) (d : Bool) (s : ByteArray) (w : World) : Calls Try.prog 16 #[playV r c d s] w (Ret (playV c r (!d) s) w) := by
  go_enter Try.func16, Try.ntmps16
  go_wp2_with fail
  refine (l12Turn_any _ _ _ _ _).mono ?_
  rintro e w1 ⟨rfl, hx⟩
  have r0 := hx.cell (b := w.heap.size + 1) (o := 0) (v := .int .i64 0) (by simp)
  have r1 := hx.cell (b := w.heap.size + 1) (o := 1) (v := .int .i64 0) (by simp)
  have r2 := hx.cell (b := w.heap.size + 1) (o := 2) (v := .bool false) (by simp)
  have r3 := hx.cell (b := w.heap.size + 1) (o := 3) (v := .string ⟨#[]⟩) (by simp)
  have rf : ∀ j, w1.frozen? ⟨w.heap.size + 1, j, none⟩ = false := fun j => by rw [hx.cells.2 _ _ (by simp)]; simp
  have hE : Ext w w1 := (((Ext.refl w).alloc _).alloc _).trans hx
  clear hx
  go_wp2_with fail
  refine bodyPost_ret (v := playV c r (!d) s) (by simp [results, Try.results16, go_sem, r0, r1, r2, r3, rf]) rfl ⟨rfl, (((hE.setCell (by simp) _).setCell (by simp) _).setCell (by simp) _).setCell (by simp) _⟩
def szP (L : Int) (s : ByteArray) : Int := if L < s.size then -1 else L - s.size
theorem szPlay_any (r c : Int) (d : Bool) (s : ByteArray) (L : Int) (w : World) (hs : s.size ≤ maxLen) (h0 : 0 ≤ L) (h1 : L ≤ 1048576) : Calls Try.prog 15 #[playV r c d s, .int .i64 L] w (Ret (.int .i64 (szP L s)) w) := by
  have H : Hid (szP L s = if L < s.size then -1 else L - s.size) := hid rfl
  unfold maxLen at hs
  by_cases hl : L < s.size
  · have l1 : L - s.size < 0 := by omega
    go_enter Try.func15, Try.ntmps15
    go_wp2_with fail
    go_returns
    exact ⟨ret_int (by rw [H.out, if_pos hl]), (Ext.refl w).alloc _⟩
  · have l1 : ¬ L - s.size < 0 := by omega
    go_enter Try.func15, Try.ntmps15
    go_wp2_with fail
    go_returns
    exact ⟨ret_int (by rw [H.out, if_neg (by omega)]), (Ext.refl w).alloc _⟩
theorem toPlay_any (r c : Int) (d : Bool) (s : ByteArray) (w : World) : Calls Try.prog 17 #[playV r c d s] w (Ret (playV r c d s) w) := by
  cases d <;> (go_enter Try.func17, Try.ntmps17; go_wp2_with fail; go_returns; exact ⟨rfl, (((Ext.refl w).alloc _).alloc _).alloc _⟩)
theorem eqPlay_self (r c : Int) (d : Bool) (s : ByteArray) (w : World) : Calls Try.prog 19 #[playV r c d s, playV r c d s] w (Ret (.bool true) w) := by
  cases d <;> (go_enter Try.func19, Try.ntmps19; go_wp2_with fail; go_returns; exact ⟨rfl, ((Ext.refl w).alloc _).alloc _⟩)
end Go.Proofs.Ytjmiheapcbnhhaa
