/- MakePlay, by the reference. Conditions stand at each. -/
import Derived.Test.YtpjmenfnaembcaaDoorCh12o
namespace Go.Proofs.YtpjmenfnaembcaaDoor
set_option linter.unusedVariables false
set_option linter.unusedSimpArgs false
open Go Go.RowKit
set_option maxHeartbeats 1000000 in
theorem sMakePlay_any (n : Int) (p cs : ByteArray) (r c : Int) (d : Bool) (s : ByteArray) (w : World) (hp : p.size ≤ 1048576) (hc : cs.size ≤ 1048576) (hs : s.size ≤ 1048576) :
    Calls Tryd.prog 15 #[boardV n p cs, playV r c d s] w (Ret (makeV n p cs r c d s) w) := by
  have H : Hid (makeV n p cs r c d s = if okP n p cs r c d s then .tuple #[boardV n p (layL n cs r c d s s.size), .int .i64 0] else .tuple #[boardV 0 noS noS, .int .i64 1]) := hid rfl
  have HB : Hid (BdAt (((w.alloc (.cells #[.int .i64 n, .string p, .string cs] 29)).alloc (.cells #[.int .i64 r, .int .i64 c, .bool d, .string s] 31)).alloc (.cells #[.int .i64 0, .string ⟨#[]⟩, .string ⟨#[]⟩] 29)) w.heap.size 0 n p cs) := hid ⟨by go_cell, by go_cell, by go_cell⟩
  go_enter Tryd.func15, Tryd.ntmps15
  go_wp2_with fail
  refine (l12Ok_any w.heap.size 0 n p cs r c d s _ HB.out hp hc hs).mono ?_
  rintro e w1 ⟨rfl, hx⟩
  have b0 := hx.cell (b := w.heap.size + 1) (o := 0) (v := .int .i64 r) (by go_cell)
  have b1 := hx.cell (b := w.heap.size + 1) (o := 1) (v := .int .i64 c) (by go_cell)
  have b2 := hx.cell (b := w.heap.size + 1) (o := 2) (v := .bool d) (by go_cell)
  have b3 := hx.cell (b := w.heap.size + 1) (o := 3) (v := .string s) (by go_cell)
  have u0 := hx.cell (b := w.heap.size + 2) (o := 0) (v := .int .i64 0) (by go_cell)
  have u1 := hx.cell (b := w.heap.size + 2) (o := 1) (v := .string ⟨#[]⟩) (by go_cell)
  have u2 := hx.cell (b := w.heap.size + 2) (o := 2) (v := .string ⟨#[]⟩) (by go_cell)
  have uf : ∀ j, w1.frozen? ⟨w.heap.size + 2, j, none⟩ = false := fun j => by rw [hx.cells.2 _ _ (by simp only [World.size_alloc]; omega)]; go_cell
  have hE := ((((Ext.refl w).alloc _).alloc _).alloc _).trans hx
  have HB1 := hid (HB.out.ext hx)
  have hz := hx.size
  simp only [World.size_alloc] at hz
  clear hx HB
  cases hk : okP n p cs r c d s
  · have HK := hid hk
    clear hk
    go_wp2_with fail
    refine bodyPost_ret (v := .tuple #[boardV 0 noS noS, .int .i64 1]) (by simp [results, Tryd.results15, go_sem, u0, u1, u2, uf, noS, boardV]) rfl ⟨by rw [H.out, HK.out]; rfl, ((hE.setCell (by simp only []; omega) _).setCell (by simp only []; omega) _).setCell (by simp only []; omega) _⟩
  · have HK := hid hk
    have hk2 := hk
    unfold okP at hk2
    rw [Bool.and_eq_true] at hk2
    obtain ⟨h1, h2, h3, h4⟩ := okB_true hk2.1
    obtain ⟨m0, m1, m2⟩ := playB_true hk2.2
    obtain ⟨N, rfl⟩ := nat_of h1
    have H3 : p.size = N * N := by rw [← Int.natCast_mul] at h3; omega
    have H4 : cs.size = N * N := by rw [← Int.natCast_mul] at h4; omega
    have HM := hid (fun w' h => l12Make_any w.heap.size 0 N p cs r c d s w' h (by omega) (by omega) H3 H4 m1 m2)
    obtain ⟨X, hX⟩ : ∃ X, layL N cs r c d s s.size = X := ⟨_, rfl⟩
    rw [hX] at HM H
    clear hk hk2 h3 h4 m0 m1 m2 hX H3 H4
    go_wp2_with fail
    refine (HM.out _ HB1.out).mono ?_
    rintro e w2 ⟨rfl, hy⟩
    replace u0 := hy.cell u0
    replace u1 := hy.cell u1
    replace u2 := hy.cell u2
    replace uf : ∀ j, w2.frozen? ⟨w.heap.size + 2, j, none⟩ = false := fun j => by rw [hy.cells.2 _ _ (by omega)]; exact uf j
    replace hE := hE.trans hy
    clear hy HM b0 b1 b2 b3
    unfold boardV
    go_wp2_with fail
    refine bodyPost_ret (v := .tuple #[boardV N p X, .int .i64 0]) (by simp [results, Tryd.results15, go_sem, u0, u1, u2, uf, boardV]) rfl ⟨by rw [H.out, HK.out]; rfl, ((hE.setCell (by simp only []; omega) _).setCell (by simp only []; omega) _).setCell (by simp only []; omega) _⟩
end Go.Proofs.YtpjmenfnaembcaaDoor
