/- Boards: empty and standard ones. Conditions stand at each. -/
import Derived.Lib.Repeat
import Derived.Test.YtmohfdfjlgekaaaGreatDoorMg3
namespace Go.Proofs.YtmohfdfjlgekaaaGreatDoor
set_option linter.unusedVariables false
set_option linter.unusedSimpArgs false
open Go Go.RowKit

theorem l00Min_any (a b : Int) (w : World) : Calls Tryz.prog 138 #[.int .i64 a, .int .i64 b] w (Same (.int .i64 (min a b)) w) := by
  go_enter Tryz.func138, Tryz.ntmps138
  go_wp2_with fail
  all_goals (go_returns; refine ⟨ret_int ?_, rfl⟩; omega)
theorem l00Max_any (a b : Int) (w : World) : Calls Tryz.prog 139 #[.int .i64 a, .int .i64 b] w (Same (.int .i64 (max a b)) w) := by
  go_enter Tryz.func139, Tryz.ntmps139
  go_wp2_with fail
  all_goals (go_returns; refine ⟨ret_int ?_, rfl⟩; omega)
def stdQ (n a b : Int) : UInt8 := if a = 0 ∧ (b = 0 ∨ b = (n - 1) / 2) then 116 else if a = b then 100 else if (a + b) % 6 = 4 then 51 else if (a + b) % 4 = 3 then 50 else 46
def stdP (n r c : Int) : UInt8 := stdQ n (min (min r (n - 1 - r)) (min c (n - 1 - c))) (max (min r (n - 1 - r)) (min c (n - 1 - c)))
set_option maxHeartbeats 400000 in
theorem l11Standard_any (n r c : Int) (w : World) (h1 : 5 ≤ n) (h2 : n ≤ 15) (h3 : 0 ≤ r) (h4 : r < n) (h5 : 0 ≤ c) (h6 : c < n) : Calls Tryz.prog 118 #[.int .i64 n, .int .i64 r, .int .i64 c] w (Same (.int .u8 (stdP n r c).toNat) w) := by
  have H := hid (show stdP n r c = stdQ n (min (min r (n - 1 - r)) (min c (n - 1 - c))) (max (min r (n - 1 - r)) (min c (n - 1 - c))) from rfl)
  obtain ⟨x, hx⟩ : ∃ x, min r (n - 1 - r) = x := ⟨_, rfl⟩
  obtain ⟨y, hy⟩ : ∃ y, min c (n - 1 - c) = y := ⟨_, rfl⟩
  rw [hx, hy] at H
  have x1 : 0 ≤ x := by omega
  have x2 : x < 15 := by omega
  have y1 : 0 ≤ y := by omega
  have y2 : y < 15 := by omega
  obtain ⟨a, ha⟩ : ∃ a, min x y = a := ⟨_, rfl⟩
  obtain ⟨b, hb⟩ : ∃ b, max x y = b := ⟨_, rfl⟩
  rw [ha, hb] at H
  have a1 : 0 ≤ a := by omega
  have a2 : a < 15 := by omega
  have b1 : 0 ≤ b := by omega
  have b2 : b < 15 := by omega
  have HQ : Hid (stdQ n a b = if a = 0 ∧ (b = 0 ∨ b = (n - 1) / 2) then 116 else if a = b then 100 else if (a + b) % 6 = 4 then 51 else if (a + b) % 4 = 3 then 50 else 46) := hid rfl
  go_enter Tryz.func118, Tryz.ntmps118
  go_wp2_with (first | (go_at_call 138; refine (l00Min_any _ _ _).mono ?_; rintro e w' ⟨rfl, rfl⟩) | (go_at_call 139; refine (l00Max_any _ _ _).mono ?_; rintro e w' ⟨rfl, rfl⟩))
  all_goals (go_returns; refine ⟨ret_int ?_, rfl⟩; rw [H.out, HQ.out]; simp_all)

def freeS (k : Nat) : ByteArray := ⟨(List.replicate k 46).toArray⟩
def emptyV (n : Int) : Value := if inB n 5 15 then .tuple #[boardV n (freeS (n * n).toNat) (freeS (n * n).toNat), .int .i64 0] else .tuple #[boardV 0 noS noS, .int .i64 2]
theorem l02Repeat_any (x : UInt8) (n : Int) (w : World) (h : n ≤ 1000000) : Calls Tryz.prog 66 #[.int .u8 x.toNat, .int .i64 n] w (Ret (.string ⟨(List.replicate n.toNat x).toArray⟩) w) := by
  go_enter Tryz.func66, Tryz.ntmps66
  go_wp2_with fail
  go_loopw [1, 5] (fun i v wr => ∃ (k cap : Nat) (m : Int) (a : Option Addr), m ≤ n ∧ (m ≤ 0 → k = n.toNat) ∧ (0 < m → (k : Int) + m = n) ∧ i = .int .i64 m ∧ v = .slice a k cap ∧ Own wr (w.heap.size + 1) 5 1 a k cap (bytesV (List.replicate k x)) ∧ Ext (w.alloc (.cells #[] 5)) wr) (fun i _ _ => (intOf i).toNat)
  case atStart => exact ⟨0, 0, n, some ⟨w.heap.size, 0, none⟩, by omega, by omega, by omega, rfl, rfl, Own.empty _ _ _ _ _, Ext.refl _⟩
  case round =>
    obtain ⟨k, cap, m, a, hm, hk0, hk1, rfl, rfl, hown, hext⟩ := hrel
    have hsz := hext.size
    simp only [World.size_alloc] at hsz
    by_cases hlt : 0 < m
    · have hkm := hk1 hlt
      clear hk0 hk1
      go_wp2_with (at_builtin; refine wpList_push rfl _ _ 22 rfl El_u8 rfl [_] rfl rfl (by simp [Value.oneCell']) hown (by omega) (by unfold maxLen; omega) (by omega) ?_; intro a' c' w' hown' hb')
      refine ⟨⟨k + 1, c', m - 1, a', by omega, by omega, by omega, by go_num, rfl, ?_, hext.thenBelow hb' (by simp)⟩, by simp [intOf]; omega⟩
      rw [List.replicate_succ', bytesV_append]
      exact hown'
    · have hkm := hk0 (by omega)
      clear hk0 hk1
      subst hkm
      go_wp2_with (refine wpList_str rfl _ 22 9 rfl Tryz.underlying22 Tryz.underlying5 Tryz.underlying9 rfl (l := List.replicate n.toNat x) (by simp) hown.rd ?_)
      go_returns
      exact ⟨rfl, ((Ext.refl w).alloc _).trans hext⟩
theorem repeat_one (k : Nat) : Lib.repeatL [46] k = List.replicate k 46 := by
  induction k with
  | zero => rfl
  | succ k ih => rw [Lib.repeatL, ih, List.replicate_succ]; rfl
theorem sq_le225 {n : Int} (h1 : 5 ≤ n) (h2 : n ≤ 15) : 0 ≤ n * n ∧ n * n ≤ 225 := by
  have : n * n ≤ 15 * 15 := Int.mul_le_mul h2 h2 (by omega) (by omega)
  exact ⟨Int.mul_nonneg (by omega) (by omega), by omega⟩
set_option maxHeartbeats 400000 in
theorem sEmptyBoard_any (n : Int) (w : World) : Calls Tryz.prog 92 #[.int .i64 n] w (Ret (emptyV n) w) := by
  have HR : Hid (emptyV n = if inB n 5 15 then .tuple #[boardV n (freeS (n * n).toNat) (freeS (n * n).toNat), .int .i64 0] else .tuple #[boardV 0 noS noS, .int .i64 2]) := hid rfl
  go_enter Tryz.func92, Tryz.ntmps92
  go_wp2_with fail
  refine (l11Size_any _ _).mono ?_
  rintro e w1 ⟨rfl, hz⟩
  subst hz
  cases hin : inB n 5 15
  · go_wp2_with fail
    go_returns
    exact ⟨by rw [HR.out, hin]; rfl, (Ext.refl w).alloc _⟩
  · obtain ⟨i1, i2⟩ := inB_true hin
    obtain ⟨s1, s2⟩ := sq_le225 i1 i2
    have HI := hid hin
    clear hin
    go_wp2_with fail
    refine (l02Repeat_any 46 (n * n) _ (by omega)).mono ?_
    rintro e w1 ⟨rfl, hx⟩
    go_wp2_with fail
    refine (l02Repeat_any 46 (n * n) _ (by omega)).mono ?_
    rintro e w2 ⟨rfl, hy⟩
    replace hx := hx.trans hy
    have r0 := hx.cell (b := w.heap.size) (o := 0) (v := .int .i64 0) (by simp)
    have r1 := hx.cell (b := w.heap.size) (o := 1) (v := .string ⟨#[]⟩) (by simp)
    have r2 := hx.cell (b := w.heap.size) (o := 2) (v := .string ⟨#[]⟩) (by simp)
    have rf : ∀ j, w2.frozen? ⟨w.heap.size, j, none⟩ = false := fun j => by rw [hx.cells.2 _ _ (by simp)]; simp
    have hE : Ext w w2 := ((Ext.refl w).alloc _).trans hx
    clear hx hy
    go_wp2_with fail
    refine bodyPost_ret (v := .tuple #[boardV n (freeS (n * n).toNat) (freeS (n * n).toNat), .int .i64 0]) (by simp [results, Tryz.results92, go_sem, r0, r1, r2, rf, boardV, freeS]) rfl ⟨by rw [HR.out, HI.out]; rfl, ((hE.setCell (by simp) _).setCell (by simp) _).setCell (by simp) _⟩
end Go.Proofs.YtmohfdfjlgekaaaGreatDoor
