/- Boards: SetCell, TransposeBoard, LineOf, SameBoard, as the program and the reference compute them. Conditions stand at each. -/
import Derived.Test.YtmohfdfjlgekaaaGreatDoorMg1
namespace Go.Proofs.YtmohfdfjlgekaaaGreatDoor
set_option linter.unusedVariables false
set_option linter.unusedSimpArgs false
open Go Go.RowKit

theorem toNat_sq (n : Int) (s : ByteArray) (h1 : 5 ≤ n) (h : (s.size : Int) = n * n) : s.size = n.toNat * n.toNat := by
  obtain ⟨m, rfl⟩ := nat_of h1
  simp only [Int.toNat_natCast]
  rw [← Int.natCast_mul] at h
  omega

set_option maxHeartbeats 400000 in
theorem TransposeBoard_any (n : Int) (p c : ByteArray) (w : World) (hp : p.size ≤ 1048576) (hc : c.size ≤ 1048576) :
    Calls Tryz.prog 16 #[boardV n p c] w (Ret (transV n p c) w) := by
  have HR : Hid (transV n p c = if okB n p c then .tuple #[boardV n (turnS n.toNat p) (turnS n.toNat c), .int .i64 0] else .tuple #[boardV 0 noS noS, .int .i64 1]) := hid rfl
  go_enter Tryz.func16, Tryz.ntmps16
  go_wp2_with fail
  refine (ValidBoard_any _ _ _ _ hp hc).mono ?_
  rintro e w1 ⟨rfl, hx⟩
  have c0 := hx.cell (b := w.heap.size) (o := 0) (v := .int .i64 n) (by simp)
  have c1 := hx.cell (b := w.heap.size) (o := 1) (v := .string p) (by simp)
  have c2 := hx.cell (b := w.heap.size) (o := 2) (v := .string c) (by simp)
  have r0 := hx.cell (b := w.heap.size + 1) (o := 0) (v := .int .i64 0) (by simp)
  have r1 := hx.cell (b := w.heap.size + 1) (o := 1) (v := .string ⟨#[]⟩) (by simp)
  have r2 := hx.cell (b := w.heap.size + 1) (o := 2) (v := .string ⟨#[]⟩) (by simp)
  have rf : ∀ j, w1.frozen? ⟨w.heap.size + 1, j, none⟩ = false := fun j => by rw [hx.cells.2 _ _ (by simp)]; simp
  have hE : Ext w w1 := (((Ext.refl w).alloc _).alloc _).trans hx
  have hs := hx.size
  simp only [World.size_alloc] at hs
  cases hok : okB n p c
  · go_wp2_with fail
    refine bodyPost_ret (v := .tuple #[boardV 0 noS noS, .int .i64 1]) (by simp [results, Tryz.results16, go_sem, r0, r1, r2, rf, noS]) rfl ⟨by rw [HR.out, hok]; rfl, ((hE.setCell (by simp) _).setCell (by simp) _).setCell (by simp) _⟩
  · obtain ⟨h1, h2, h3, h4⟩ := okB_true hok
    have t1 := toNat_sq n p h1 h3
    have t2 := toNat_sq n c h1 h4
    have en : ((n.toNat : Nat) : Int) = n := by omega
    have HT := hid (fun w => transpose_any n.toNat p c w t1 t2 (by omega) (by omega))
    rw [en] at HT
    clear h3 h4 t1 t2 en
    go_wp2_with fail
    refine (HT.out _).mono ?_
    rintro e w2 ⟨rfl, hy⟩
    have s0 := hy.cell r0
    have s1 := hy.cell r1
    have s2 := hy.cell r2
    have sf : ∀ j, w2.frozen? ⟨w.heap.size + 1, j, none⟩ = false := fun j => by rw [hy.cells.2 _ _ (by omega)]; exact rf j
    go_wp2_with fail
    refine bodyPost_ret (v := .tuple #[boardV n (turnS n.toNat p) (turnS n.toNat c), .int .i64 0]) (by simp [results, Tryz.results16, go_sem, s0, s1, s2, sf]) rfl ⟨by rw [HR.out, hok]; rfl, (((hE.trans hy).setCell (by simp) _).setCell (by simp) _).setCell (by simp) _⟩
set_option maxHeartbeats 400000 in
theorem sTransposeBoard_any (n : Int) (p c : ByteArray) (w : World) (hp : p.size ≤ 1048576) (hc : c.size ≤ 1048576) :
    Calls Tryz.prog 19 #[boardV n p c] w (Ret (transV n p c) w) := by
  have HR : Hid (transV n p c = if okB n p c then .tuple #[boardV n (turnS n.toNat p) (turnS n.toNat c), .int .i64 0] else .tuple #[boardV 0 noS noS, .int .i64 1]) := hid rfl
  have B : BdAt ((w.alloc (.cells #[.int .i64 n, .string p, .string c] 25)).alloc (.cells #[.int .i64 0, .string ⟨#[]⟩, .string ⟨#[]⟩] 25)) w.heap.size 0 n p c := ⟨by simp, by simp, by simp⟩
  have HB := hid B
  clear B
  go_enter Tryz.func19, Tryz.ntmps19
  go_wp2_with fail
  refine (l11Ok_any _ _ n p c _ HB.out hp hc).mono ?_
  rintro e w1 ⟨rfl, hx⟩
  have hx := hx.ext
  have r0 := hx.cell (b := w.heap.size + 1) (o := 0) (v := .int .i64 0) (by simp)
  have r1 := hx.cell (b := w.heap.size + 1) (o := 1) (v := .string ⟨#[]⟩) (by simp)
  have r2 := hx.cell (b := w.heap.size + 1) (o := 2) (v := .string ⟨#[]⟩) (by simp)
  have rf : ∀ j, w1.frozen? ⟨w.heap.size + 1, j, none⟩ = false := fun j => by rw [hx.cells.2 _ _ (by simp)]; simp
  have hE : Ext w w1 := (((Ext.refl w).alloc _).alloc _).trans hx
  have hs := hx.size
  simp only [World.size_alloc] at hs
  cases hok : okB n p c
  · go_wp2_with fail
    refine bodyPost_ret (v := .tuple #[boardV 0 noS noS, .int .i64 1]) (by simp [results, Tryz.results19, go_sem, r0, r1, r2, rf, noS]) rfl ⟨by rw [HR.out, hok]; rfl, ((hE.setCell (by simp) _).setCell (by simp) _).setCell (by simp) _⟩
  · obtain ⟨h1, h2, h3, h4⟩ := okB_true hok
    have t1 := toNat_sq n p h1 h3
    have t2 := toNat_sq n c h1 h4
    have en : ((n.toNat : Nat) : Int) = n := by omega
    have HT := hid (fun w h => l11Transpose_any w.heap.size 0 n.toNat p c w h t1 t2 (by omega) (by omega))
    clear HT
    have HT : Hid (∀ w' b o, BdAt w' b o n p c → Calls Tryz.prog 34 #[.pointer (some ⟨b, o, none⟩)] w' (Ret (boardV n (turnS n.toNat p) (turnS n.toNat c)) w')) := hid (fun w' b o h => by
      have := l11Transpose_any b o n.toNat p c w' (by rw [en]; exact h) t1 t2 (by omega) (by omega)
      rw [en] at this
      exact this)
    clear h3 h4 t1 t2 en
    go_wp2_with fail
    refine (HT.out _ _ _ (HB.out.ext hx)).mono ?_
    rintro e w2 ⟨rfl, hy⟩
    have s0 := hy.cell r0
    have s1 := hy.cell r1
    have s2 := hy.cell r2
    have sf : ∀ j, w2.frozen? ⟨w.heap.size + 1, j, none⟩ = false := fun j => by rw [hy.cells.2 _ _ (by omega)]; exact rf j
    go_wp2_with fail
    refine bodyPost_ret (v := .tuple #[boardV n (turnS n.toNat p) (turnS n.toNat c), .int .i64 0]) (by simp [results, Tryz.results19, go_sem, s0, s1, s2, sf]) rfl ⟨by rw [HR.out, hok]; rfl, (((hE.trans hy).setCell (by simp) _).setCell (by simp) _).setCell (by simp) _⟩
end Go.Proofs.YtmohfdfjlgekaaaGreatDoor
