/- Boards: the program's SetCell; LineOf; SameBoard. Conditions stand at each. -/
import Derived.Test.YtcjadgefomlifaaCh11g
namespace Go.Proofs.Ytcjadgefomlifaa
set_option linter.unusedVariables false
set_option linter.unusedSimpArgs false
open Go Go.RowKit

set_option maxHeartbeats 1000000 in
theorem SetCell_any (n : Int) (p c : ByteArray) (i j x : Int) (w : World) (hp : p.size ≤ 1048576) (hc : c.size ≤ 1048576) (hx0 : 0 ≤ x) (hx1 : x < 256) :
    Calls Try.prog 18 #[boardV n p c, .int .i64 i, .int .i64 j, .int .u8 x] w (Ret (setCellV n p c i j x) w) := by
  have HR : Hid (setCellV n p c i j x = if okB n p c then if inRC n i j then if cellB x then .tuple #[boardV n p (setS c (i * n + j).toNat x), .int .i64 0] else .tuple #[boardV 0 noS noS, .int .i64 7] else .tuple #[boardV 0 noS noS, .int .i64 2] else .tuple #[boardV 0 noS noS, .int .i64 1]) := hid rfl
  go_enter Try.func18, Try.ntmps18
  go_wp2_with fail
  refine (ValidBoard_any _ _ _ _ hp hc).mono ?_
  rintro e w1 ⟨rfl, hx⟩
  have hE : Ext w w1 := (((Ext.refl w).alloc _).alloc _).trans hx
  have b0 := hx.cell (b := w.heap.size) (o := 0) (v := .int .i64 n) (by simp)
  have b1 := hx.cell (b := w.heap.size) (o := 1) (v := .string p) (by simp)
  have b2 := hx.cell (b := w.heap.size) (o := 2) (v := .string c) (by simp)
  have bf : ∀ j, w1.frozen? ⟨w.heap.size, j, none⟩ = false := fun j => by rw [hx.cells.2 _ _ (by simp; omega)]; simp
  have r0 := hx.cell (b := w.heap.size + 1) (o := 0) (v := .int .i64 0) (by simp)
  have r1 := hx.cell (b := w.heap.size + 1) (o := 1) (v := .string ⟨#[]⟩) (by simp)
  have r2 := hx.cell (b := w.heap.size + 1) (o := 2) (v := .string ⟨#[]⟩) (by simp)
  have rf : ∀ j, w1.frozen? ⟨w.heap.size + 1, j, none⟩ = false := fun j => by rw [hx.cells.2 _ _ (by simp)]; simp
  have hs := hx.size
  simp only [World.size_alloc] at hs
  clear hx
  cases hok : okB n p c
  · go_wp2_with fail
    refine bodyPost_ret (v := .tuple #[boardV 0 noS noS, .int .i64 1]) (by simp [results, Try.results18, go_sem, r0, r1, r2, rf, noS]) rfl ⟨by rw [HR.out, hok]; rfl, ((hE.setCell (by simp) _).setCell (by simp) _).setCell (by simp) _⟩
  · obtain ⟨h1, h2, h3, h4⟩ := okB_true hok
    have H4 := hid h4
    clear h3 h4
    go_wp2_with fail
    refine (inside_any n p c _ _ _ h1 h2).mono ?_
    rintro e w2 ⟨rfl, hy⟩
    have hE := hE.trans hy
    have hs2 := hy.size
    replace b0 := hy.cell b0
    replace b1 := hy.cell b1
    replace b2 := hy.cell b2
    replace bf : ∀ j, w2.frozen? ⟨w.heap.size, j, none⟩ = false := fun j => by rw [hy.cells.2 _ _ (by omega)]; exact bf j
    replace r0 := hy.cell r0
    replace r1 := hy.cell r1
    replace r2 := hy.cell r2
    replace rf : ∀ j, w2.frozen? ⟨w.heap.size + 1, j, none⟩ = false := fun j => by rw [hy.cells.2 _ _ (by omega)]; exact rf j
    clear hy
    cases hr : inRC n i j
    · go_wp2_with fail
      refine bodyPost_ret (v := .tuple #[boardV 0 noS noS, .int .i64 2]) (by simp [results, Try.results18, go_sem, r0, r1, r2, rf, noS]) rfl ⟨by rw [HR.out, hok, hr]; rfl, ((hE.setCell (by simp) _).setCell (by simp) _).setCell (by simp) _⟩
    · go_wp2_with fail
      refine (cellOk_any _ _).mono ?_
      rintro e w3 ⟨rfl, hz⟩
      subst hz
      cases hcb : cellB x
      · go_wp2_with fail
        refine bodyPost_ret (v := .tuple #[boardV 0 noS noS, .int .i64 7]) (by simp [results, Try.results18, go_sem, r0, r1, r2, rf, noS]) rfl ⟨by rw [HR.out, hok, hr, hcb]; rfl, ((hE.setCell (by simp) _).setCell (by simp) _).setCell (by simp) _⟩
      · obtain ⟨e1, e2, e3, e4, e5⟩ := sq_index h1 h2 H4.out hr
        have HQ := hid (And.intro hok (And.intro hr hcb))
        clear hok hr hcb
        have hset : (bytesV c.data.toList).set (i * n + j).toNat (.int .u8 x) = bytesV (c.data.toList.set (i * n + j).toNat (UInt8.ofNat x.toNat)) := bytesV_set _ _ _ hx0 hx1
        go_wp2_with (first
          | (refine wpList_bytes rfl _ 9 35 rfl Try.underlying9 Try.underlying35 Try.underlying5 rfl ?_
             intro cp w3 hwr hcap hx hsz1
             have HS := hid (hwr.set (i * n + j).toNat (by rw [bytesV_length]; exact e5) (.int .u8 x))
             obtain ⟨f1, f2⟩ := hwr.fit (i * n + j).toNat (by rw [bytesV_length]; exact e5)
             clear hwr
             have d0 := hx.cell b0
             have d1 := hx.cell b1
             have d2 := hx.cell b2
             have df : ∀ j, w3.frozen? ⟨w.heap.size, j, none⟩ = false := fun j => by rw [hx.cells.2 _ _ (by omega)]; exact bf j
             have s0 := hx.cell r0
             have s1 := hx.cell r1
             have s2 := hx.cell r2
             have sf : ∀ j, w3.frozen? ⟨w.heap.size + 1, j, none⟩ = false := fun j => by rw [hx.cells.2 _ _ (by omega)]; exact rf j
             have hs3 := hx.size
             have g1 : w.heap.size ≠ w2.heap.size := by omega
             have g2 : w.heap.size + 1 ≠ w2.heap.size := by omega)
          | refine wpList_str rfl _ 35 9 rfl Try.underlying35 Try.underlying5 Try.underlying9 rfl (l := c.data.toList.set (i * n + j).toNat (UInt8.ofNat x.toNat)) (by rw [List.length_set]; rfl) (by rw [← hset]; exact HS.out.rd) ?_)
        refine bodyPost_ret (v := .tuple #[boardV n p (setS c (i * n + j).toNat x), .int .i64 0]) (by simp [results, Try.results18, go_sem, s0, s1, s2, sf, d0, d1, d2, df, g1, g2, boardV, setS]) rfl ⟨by rw [HR.out, HQ.out.1, HQ.out.2.1, HQ.out.2.2]; rfl, (((((hE.trans hx).setCell (by simp; omega) _).setCell (by simp) _).setCell (by simp) _).setCell (by simp) _).setCell (by simp) _⟩
end Go.Proofs.Ytcjadgefomlifaa
