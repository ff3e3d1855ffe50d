/- Boards: squares, cells, transposed boards, rows. Conditions stand at each. -/
import Derived.Test.YtcgedkpbobgkhaaGreatDoorCh11b
namespace Go.Proofs.YtcgedkpbobgkhaaGreatDoor
set_option linter.unusedVariables false
set_option linter.unusedSimpArgs false
open Go Go.RowKit

def inRC (n r c : Int) : Bool := inB r 0 (n - 1) && inB c 0 (n - 1)
theorem inRC_true {n r c : Int} (h : inRC n r c = true) : 0 ≤ r ∧ r < n ∧ 0 ≤ c ∧ c < n := by
  simp only [inRC, inB, Bool.and_eq_true, decide_eq_true_eq] at h; omega
/-- A square's place among the cells. -/
theorem sq_index {n r c : Int} {s : ByteArray} (h1 : 5 ≤ n) (h2 : n ≤ 15) (hs : (s.size : Int) = n * n) (hr : inRC n r c = true) :
    0 ≤ r * n ∧ r * n ≤ 210 ∧ 0 ≤ r * n + c ∧ r * n + c < s.size ∧ (r * n + c).toNat < s.size := by
  obtain ⟨a, b, c1, d⟩ := inRC_true hr
  have e1 : 0 ≤ r * n := Int.mul_nonneg a (by omega)
  have e2 : r * n ≤ 14 * 15 := Int.mul_le_mul (by omega) h2 (by omega) (by omega)
  have e3 : (r + 1) * n ≤ n * n := Int.mul_le_mul_of_nonneg_right (by omega) (by omega)
  rw [Int.add_mul, Int.one_mul] at e3
  omega

set_option maxHeartbeats 400000 in
theorem inside_any (n : Int) (p c : ByteArray) (i j : Int) (w : World) (h1 : 5 ≤ n) (h2 : n ≤ 15) :
    Calls Tryz.prog 61 #[boardV n p c, .int .i64 i, .int .i64 j] w (Ret (.bool (inRC n i j)) w) := by
  have H : Hid (inRC n i j = (inB i 0 (n - 1) && inB j 0 (n - 1))) := hid rfl
  unfold boardV
  go_enter Tryz.func61, Tryz.ntmps61
  go_wp2_with (go_at_call 54; refine (within_any _ _ _ _).mono ?_; rintro e w' ⟨rfl, rfl⟩)
  all_goals (go_returns; exact ⟨ret_bool (by rw [H.out]; simp [*]), (Ext.refl w).alloc _⟩)
set_option maxHeartbeats 400000 in
theorem l11In_any (b o : Nat) (n : Int) (p c : ByteArray) (i j : Int) (w : World) (hB : BdAt w b o n p c) (h1 : 5 ≤ n) (h2 : n ≤ 15) :
    Calls Tryz.prog 48 #[.pointer (some ⟨b, o, none⟩), .int .i64 i, .int .i64 j] w (Same (.bool (inRC n i j)) w) := by
  have H : Hid (inRC n i j = (inB i 0 (n - 1) && inB j 0 (n - 1))) := hid rfl
  obtain ⟨c0, c1, c2⟩ := hB
  go_enter Tryz.func48, Tryz.ntmps48
  go_wp2_with (go_at_call 25; refine (l00In_any _ _ _ _).mono ?_; rintro e w' ⟨rfl, rfl⟩)
  all_goals (go_returns; exact ⟨ret_bool (by rw [H.out]; simp [*]), rfl⟩)

/-- The byte of a square; 0 outside. -/
def sqAt (n : Int) (s : ByteArray) (r c : Int) : Int := if inRC n r c then (bAt s (r * n + c).toNat).toNat else 0
theorem sqAt_in {n r c : Int} {s : ByteArray} (hr : inRC n r c = true) (hl : (r * n + c).toNat < s.size) : (s[(r * n + c).toNat].toNat : Int) = sqAt n s r c := by
  rw [sqAt, if_pos hr, bAt_eq s _ hl]

set_option maxHeartbeats 400000 in
theorem cell_any (n : Int) (p c : ByteArray) (i j : Int) (w : World) (h1 : 5 ≤ n) (h2 : n ≤ 15) (hc : (c.size : Int) = n * n) :
    Calls Tryz.prog 62 #[boardV n p c, .int .i64 i, .int .i64 j] w (Ret (.int .u8 (sqAt n c i j)) w) := by
  cases hr : inRC n i j
  · have HZ : Hid (sqAt n c i j = 0) := hid (by simp [sqAt, hr])
    clear hc
    unfold boardV
    go_enter Tryz.func62, Tryz.ntmps62
    go_wp2_with fail
    refine (inside_any n p c i j _ h1 h2).mono ?_
    rintro e w1 ⟨rfl, hx⟩
    rw [hr]
    go_wp2_with fail
    go_returns
    exact ⟨ret_int HZ.out.symm, ((Ext.refl w).alloc _).trans hx⟩
  · obtain ⟨e1, e2, e3, e4, e5⟩ := sq_index h1 h2 hc hr
    obtain ⟨a1, a2, a3, a4⟩ := inRC_true hr
    have HZ := hid (sqAt_in hr e5)
    have HR := hid hr
    clear hc hr
    unfold boardV
    go_enter Tryz.func62, Tryz.ntmps62
    go_wp2_with fail
    refine (inside_any n p c i j _ h1 h2).mono ?_
    rintro e w1 ⟨rfl, hx⟩
    rw [HR.out]
    obtain ⟨xc, xf⟩ := hx.cells
    go_wp2_with fail
    go_returns
    exact ⟨ret_int HZ.out, ((Ext.refl w).alloc _).trans hx⟩
set_option maxHeartbeats 400000 in
theorem premium_any (n : Int) (p c : ByteArray) (i j : Int) (w : World) (h1 : 5 ≤ n) (h2 : n ≤ 15) (hp : (p.size : Int) = n * n) (hr : inRC n i j = true) :
    Calls Tryz.prog 42 #[boardV n p c, .int .i64 i, .int .i64 j] w (Ret (.int .u8 (sqAt n p i j)) w) := by
  obtain ⟨e1, e2, e3, e4, e5⟩ := sq_index h1 h2 hp hr
  obtain ⟨a1, a2, a3, a4⟩ := inRC_true hr
  have HZ := hid (sqAt_in hr e5)
  clear hp hr
  unfold boardV
  go_enter Tryz.func42, Tryz.ntmps42
  go_wp2_with fail
  go_returns
  exact ⟨ret_int HZ.out, (Ext.refl w).alloc _⟩
set_option maxHeartbeats 400000 in
theorem l11At_any (b o : Nat) (n : Int) (p c : ByteArray) (i j : Int) (w : World) (hB : BdAt w b o n p c) (h1 : 5 ≤ n) (h2 : n ≤ 15) (hc : (c.size : Int) = n * n) (hr : inRC n i j = true) :
    Calls Tryz.prog 32 #[.pointer (some ⟨b, o, none⟩), .int .i64 i, .int .i64 j] w fun e w' => e = .returned (.int .u8 (sqAt n c i j)) ∧ Dr w w' := by
  obtain ⟨e1, e2, e3, e4, e5⟩ := sq_index h1 h2 hc hr
  obtain ⟨a1, a2, a3, a4⟩ := inRC_true hr
  have HZ := hid (sqAt_in hr e5)
  have q1 : IntKind.i64.wrap (i * n) = i * n := IntWalk.i64_in _ (by omega)
  have q2 : IntKind.i64.wrap (i * n + j) = i * n + j := IntWalk.i64_in _ (by omega)
  clear hc hr
  obtain ⟨c0, c1, c2⟩ := hB
  go_enter Tryz.func32, Tryz.ntmps32
  go_wp2_with fail
  go_quiet (fail)
  go_wp2_with fail
  go_returns
  exact ⟨ret_int HZ.out, _, rfl⟩
end Go.Proofs.YtcgedkpbobgkhaaGreatDoor
