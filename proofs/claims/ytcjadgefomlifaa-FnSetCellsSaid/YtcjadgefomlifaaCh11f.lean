/- Boards: rows; what the exported functions on boards return. Conditions stand at each. -/
import Derived.Test.YtcjadgefomlifaaCh11e
import Derived.Test.YtcjadgefomlifaaStrV
namespace Go.Proofs.Ytcjadgefomlifaa
set_option linter.unusedVariables false
set_option linter.unusedSimpArgs false
open Go Go.RowKit


/-- A slice of the call's own comes back, which reads as these strings. -/
def RetStrs (l : List ByteArray) (w : World) (e : Ending) (w' : World) : Prop := ∃ a c, e = .returned (.slice a l.length c) ∧ Own w' w.heap.size 9 1 a l.length c (strsV l) ∧ Ext w w'

def rowAt (n : Nat) (s : ByteArray) (k : Nat) : ByteArray := s.extract (k * n) (k * n + n)
def rowsL (n : Nat) (s : ByteArray) (k : Nat) : List ByteArray := (List.range k).map (rowAt n s)
theorem rowsL_succ (n : Nat) (s : ByteArray) (k : Nat) : rowsL n s (k + 1) = rowsL n s k ++ [rowAt n s k] := by simp [rowsL, List.range_succ]
theorem rowsL_length (n : Nat) (s : ByteArray) (k : Nat) : (rowsL n s k).length = k := by simp [rowsL]


def noS : ByteArray := ⟨#[]⟩
def cellAtR (n : Int) (p c : ByteArray) (i j : Int) : Int := if okB n p c then sqAt n c i j else 0
def premAtR (n : Int) (p c : ByteArray) (i j : Int) : Int := if okB n p c then sqAt n p i j else 0
def setCellV (n : Int) (p c : ByteArray) (i j x : Int) : Value :=
  if okB n p c then if inRC n i j then if cellB x then .tuple #[boardV n p (setS c (i * n + j).toNat x), .int .i64 0] else .tuple #[boardV 0 noS noS, .int .i64 7] else .tuple #[boardV 0 noS noS, .int .i64 2] else .tuple #[boardV 0 noS noS, .int .i64 1]
def transV (n : Int) (p c : ByteArray) : Value := if okB n p c then .tuple #[boardV n (turnS n.toNat p) (turnS n.toNat c), .int .i64 0] else .tuple #[boardV 0 noS noS, .int .i64 1]

theorem nat_of {n : Int} (h : 5 ≤ n) : ∃ m : Nat, n = m := ⟨n.toNat, by omega⟩

set_option maxHeartbeats 400000 in
theorem CellAt_any (n : Int) (p c : ByteArray) (i j : Int) (w : World) (hp : p.size ≤ 1048576) (hc : c.size ≤ 1048576) :
    Calls Try.prog 20 #[boardV n p c, .int .i64 i, .int .i64 j] w (Ret (.int .u8 (cellAtR n p c i j)) w) := by
  have HR : Hid (cellAtR n p c i j = if okB n p c then sqAt n c i j else 0) := hid rfl
  go_enter Try.func20, Try.ntmps20
  go_wp2_with fail
  refine (ValidBoard_any _ _ _ _ hp hc).mono ?_
  rintro e w1 ⟨rfl, hx⟩
  cases hok : okB n p c
  · go_wp2_with fail
    go_returns
    exact ⟨ret_int (by rw [HR.out, hok]; rfl), ((Ext.refl w).alloc _).trans hx⟩
  · obtain ⟨h1, h2, h3, h4⟩ := okB_true hok
    obtain ⟨xc, xf⟩ := hx.cells
    go_wp2_with fail
    refine (cell_any _ p _ _ _ _ h1 h2 h4).mono ?_
    rintro e w2 ⟨rfl, hy⟩
    go_wp2_with fail
    go_returns
    exact ⟨ret_int (by rw [HR.out, hok]; rfl), ((Ext.refl w).alloc _).trans (hx.trans hy)⟩
set_option maxHeartbeats 400000 in
theorem sCellAt_any (n : Int) (p c : ByteArray) (i j : Int) (w : World) (hp : p.size ≤ 1048576) (hc : c.size ≤ 1048576) :
    Calls Try.prog 21 #[boardV n p c, .int .i64 i, .int .i64 j] w (Ret (.int .u8 (cellAtR n p c i j)) w) := by
  have HR : Hid (cellAtR n p c i j = if okB n p c then sqAt n c i j else 0) := hid rfl
  have HQ : Hid (sqAt n c i j = if inRC n i j then ((bAt c (i * n + j).toNat).toNat : Int) else 0) := hid rfl
  have B : BdAt (w.alloc (.cells #[.int .i64 n, .string p, .string c] 30)) w.heap.size 0 n p c := ⟨by simp, by simp, by simp⟩
  have HB := hid B
  clear B
  go_enter Try.func21, Try.ntmps21
  go_wp2_with fail
  refine (l11Ok_any _ _ n p c _ HB.out hp hc).mono ?_
  rintro e w1 ⟨rfl, hx⟩
  cases hok : okB n p c
  · go_wp2_with fail
    go_returns
    exact ⟨ret_int (by rw [HR.out, hok]; rfl), ((Ext.refl w).alloc _).trans hx.ext⟩
  · obtain ⟨h1, h2, h3, h4⟩ := okB_true hok
    go_wp2_with fail
    refine (l11In_any _ _ n p c _ _ _ (HB.out.ext hx.ext) h1 h2).mono ?_
    rintro e w2 ⟨rfl, rfl⟩
    cases hr : inRC n i j
    · go_wp2_with fail
      go_returns
      exact ⟨ret_int (by rw [HR.out, hok, HQ.out, hr]; rfl), ((Ext.refl w).alloc _).trans hx.ext⟩
    · have H4 := hid h4
      clear h3 h4
      go_wp2_with fail
      refine (l11At_any _ _ n p c _ _ _ (HB.out.ext hx.ext) h1 h2 H4.out hr).mono ?_
      rintro e w3 ⟨rfl, hy⟩
      go_wp2_with fail
      go_returns
      exact ⟨ret_int (by rw [HR.out, hok]; rfl), ((Ext.refl w).alloc _).trans (hx.ext.trans hy.ext)⟩
set_option maxHeartbeats 400000 in
theorem PremiumAt_any (n : Int) (p c : ByteArray) (i j : Int) (w : World) (hp : p.size ≤ 1048576) (hc : c.size ≤ 1048576) :
    Calls Try.prog 22 #[boardV n p c, .int .i64 i, .int .i64 j] w (Ret (.int .u8 (premAtR n p c i j)) w) := by
  have HR : Hid (premAtR n p c i j = if okB n p c then sqAt n p i j else 0) := hid rfl
  have HQ : Hid (sqAt n p i j = if inRC n i j then ((bAt p (i * n + j).toNat).toNat : Int) else 0) := hid rfl
  go_enter Try.func22, Try.ntmps22
  go_wp2_with fail
  refine (ValidBoard_any _ _ _ _ hp hc).mono ?_
  rintro e w1 ⟨rfl, hx⟩
  obtain ⟨xc, xf⟩ := hx.cells
  cases hok : okB n p c
  · go_wp2_with fail
    go_returns
    exact ⟨ret_int (by rw [HR.out, hok]; rfl), ((Ext.refl w).alloc _).trans hx⟩
  · obtain ⟨h1, h2, h3, h4⟩ := okB_true hok
    go_wp2_with fail
    refine (inside_any _ _ _ _ _ _ h1 h2).mono ?_
    rintro e w2 ⟨rfl, hy⟩
    obtain ⟨yc, yf⟩ := (((Ext.refl _).trans hx).trans hy).cells
    clear xc xf
    cases hr : inRC n i j
    · go_wp2_with fail
      go_returns
      exact ⟨ret_int (by rw [HR.out, hok, HQ.out, hr]; rfl), ((Ext.refl w).alloc _).trans (hx.trans hy)⟩
    · have H3 := hid h3
      clear h3 h4
      go_wp2_with fail
      refine (premium_any _ _ c _ _ _ h1 h2 H3.out hr).mono ?_
      rintro e w3 ⟨rfl, hz⟩
      go_wp2_with fail
      go_returns
      exact ⟨ret_int (by rw [HR.out, hok]; rfl), ((Ext.refl w).alloc _).trans (hx.trans (hy.trans hz))⟩
set_option maxHeartbeats 400000 in
theorem sPremiumAt_any (n : Int) (p c : ByteArray) (i j : Int) (w : World) (hp : p.size ≤ 1048576) (hc : c.size ≤ 1048576) :
    Calls Try.prog 23 #[boardV n p c, .int .i64 i, .int .i64 j] w (Ret (.int .u8 (premAtR n p c i j)) w) := by
  have HR : Hid (premAtR n p c i j = if okB n p c then sqAt n p i j else 0) := hid rfl
  have HQ : Hid (sqAt n p i j = if inRC n i j then ((bAt p (i * n + j).toNat).toNat : Int) else 0) := hid rfl
  have B : BdAt (w.alloc (.cells #[.int .i64 n, .string p, .string c] 30)) w.heap.size 0 n p c := ⟨by simp, by simp, by simp⟩
  have HB := hid B
  clear B
  go_enter Try.func23, Try.ntmps23
  go_wp2_with fail
  refine (l11Ok_any _ _ n p c _ HB.out hp hc).mono ?_
  rintro e w1 ⟨rfl, hx⟩
  cases hok : okB n p c
  · go_wp2_with fail
    go_returns
    exact ⟨ret_int (by rw [HR.out, hok]; rfl), ((Ext.refl w).alloc _).trans hx.ext⟩
  · obtain ⟨h1, h2, h3, h4⟩ := okB_true hok
    go_wp2_with fail
    refine (l11In_any _ _ n p c _ _ _ (HB.out.ext hx.ext) h1 h2).mono ?_
    rintro e w2 ⟨rfl, rfl⟩
    obtain ⟨xc, xf⟩ := hx.ext.cells
    cases hr : inRC n i j
    · go_wp2_with fail
      go_returns
      exact ⟨ret_int (by rw [HR.out, hok, HQ.out, hr]; rfl), ((Ext.refl w).alloc _).trans hx.ext⟩
    · obtain ⟨e1, e2, e3, e4, e5⟩ := sq_index h1 h2 h3 hr
      obtain ⟨a1, a2, a3, a4⟩ := inRC_true hr
      have HZ := hid (sqAt_in hr e5)
      have HK := hid hok
      clear hr hok h3 h4
      go_wp2_with fail
      go_returns
      exact ⟨ret_int (by rw [HR.out, HK.out, ← HZ.out]; rfl), ((Ext.refl w).alloc _).trans hx.ext⟩
end Go.Proofs.Ytcjadgefomlifaa
