/- Boards: SetCell, TransposeBoard, LineOf, SameBoard, as the program and the reference compute them. Conditions stand at each. -/
import Derived.Test.YtcjadgefomlifaaCh11f
namespace Go.Proofs.Ytcjadgefomlifaa
set_option linter.unusedVariables false
set_option linter.unusedSimpArgs false
open Go Go.RowKit

theorem toNat_sq (n : Int) (s : ByteArray) (h1 : 5 ≤ n) (h : (s.size : Int) = n * n) : s.size = n.toNat * n.toNat := by
  obtain ⟨m, rfl⟩ := nat_of h1
  simp only [Int.toNat_natCast]
  rw [← Int.natCast_mul] at h
  omega

set_option maxHeartbeats 400000 in
theorem sSetCell_any (n : Int) (p c : ByteArray) (i j x : Int) (w : World) (hp : p.size ≤ 1048576) (hc : c.size ≤ 1048576) (hx0 : 0 ≤ x) (hx1 : x < 256) :
    Calls Try.prog 19 #[boardV n p c, .int .i64 i, .int .i64 j, .int .u8 x] w (Ret (setCellV n p c i j x) w) := by
  have HR : Hid (setCellV n p c i j x = if okB n p c then if inRC n i j then if cellB x then .tuple #[boardV n p (setS c (i * n + j).toNat x), .int .i64 0] else .tuple #[boardV 0 noS noS, .int .i64 7] else .tuple #[boardV 0 noS noS, .int .i64 2] else .tuple #[boardV 0 noS noS, .int .i64 1]) := hid rfl
  have B : BdAt ((w.alloc (.cells #[.int .i64 n, .string p, .string c] 30)).alloc (.cells #[.int .i64 0, .string ⟨#[]⟩, .string ⟨#[]⟩] 30)) w.heap.size 0 n p c := ⟨by simp, by simp, by simp⟩
  have HB := hid B
  clear B
  go_enter Try.func19, Try.ntmps19
  go_wp2_with fail
  refine (l11Ok_any _ _ n p c _ HB.out hp hc).mono ?_
  rintro e w1 ⟨rfl, hx⟩
  have hx := hx.ext
  have r0 := hx.cell (b := w.heap.size + 1) (o := 0) (v := .int .i64 0) (by simp)
  have r1 := hx.cell (b := w.heap.size + 1) (o := 1) (v := .string ⟨#[]⟩) (by simp)
  have r2 := hx.cell (b := w.heap.size + 1) (o := 2) (v := .string ⟨#[]⟩) (by simp)
  have rf : ∀ j, w1.frozen? ⟨w.heap.size + 1, j, none⟩ = false := fun j => by rw [hx.cells.2 _ _ (by simp)]; simp
  have hE : Ext w w1 := (((Ext.refl w).alloc _).alloc _).trans hx
  have hs := hx.size
  simp only [World.size_alloc] at hs
  cases hok : okB n p c
  · go_wp2_with fail
    refine bodyPost_ret (v := .tuple #[boardV 0 noS noS, .int .i64 1]) (by simp [results, Try.results19, go_sem, r0, r1, r2, rf, noS]) rfl ⟨by rw [HR.out, hok]; rfl, ((hE.setCell (by simp) _).setCell (by simp) _).setCell (by simp) _⟩
  · obtain ⟨h1, h2, h3, h4⟩ := okB_true hok
    have H4 := hid h4
    clear h3 h4
    go_wp2_with fail
    refine (l11In_any _ _ n p c _ _ _ (HB.out.ext hx) h1 h2).mono ?_
    rintro e w2 ⟨rfl, rfl⟩
    cases hr : inRC n i j
    · go_wp2_with fail
      refine bodyPost_ret (v := .tuple #[boardV 0 noS noS, .int .i64 2]) (by simp [results, Try.results19, go_sem, r0, r1, r2, rf, noS]) rfl ⟨by rw [HR.out, hok, hr]; rfl, ((hE.setCell (by simp) _).setCell (by simp) _).setCell (by simp) _⟩
    · go_wp2_with fail
      refine (l11Cell_any _ _).mono ?_
      rintro e w2 ⟨rfl, rfl⟩
      cases hcb : cellB x
      · go_wp2_with fail
        refine bodyPost_ret (v := .tuple #[boardV 0 noS noS, .int .i64 7]) (by simp [results, Try.results19, go_sem, r0, r1, r2, rf, noS]) rfl ⟨by rw [HR.out, hok, hr, hcb]; rfl, ((hE.setCell (by simp) _).setCell (by simp) _).setCell (by simp) _⟩
      · go_wp2_with fail
        refine (l11Set_any _ _ n p c _ _ _ _ (HB.out.ext hx) h1 h2 H4.out hr hx0 hx1).mono ?_
        rintro e w2 ⟨rfl, hy⟩
        have s0 := hy.cell r0
        have s1 := hy.cell r1
        have s2 := hy.cell r2
        have sf : ∀ j, w2.frozen? ⟨w.heap.size + 1, j, none⟩ = false := fun j => by rw [hy.cells.2 _ _ (by omega)]; exact rf j
        go_wp2_with fail
        refine bodyPost_ret (v := .tuple #[boardV n p (setS c (i * n + j).toNat x), .int .i64 0]) (by simp [results, Try.results19, go_sem, s0, s1, s2, sf]) rfl ⟨by rw [HR.out, hok, hr, hcb]; rfl, (((hE.trans hy).setCell (by simp) _).setCell (by simp) _).setCell (by simp) _⟩
end Go.Proofs.Ytcjadgefomlifaa
