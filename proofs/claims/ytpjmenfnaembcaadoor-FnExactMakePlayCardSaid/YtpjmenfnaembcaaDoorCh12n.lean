/- MakePlay, by both. Conditions stand at each. -/
import Derived.Test.YtpjmenfnaembcaaDoorCh12m
namespace Go.Proofs.YtpjmenfnaembcaaDoor
set_option linter.unusedVariables false
set_option linter.unusedSimpArgs false
open Go Go.RowKit
def makeV (n : Int) (p cs : ByteArray) (r c : Int) (d : Bool) (s : ByteArray) : Value := if okP n p cs r c d s then .tuple #[boardV n p (layL n cs r c d s s.size), .int .i64 0] else .tuple #[boardV 0 noS noS, .int .i64 1]
set_option maxHeartbeats 1000000 in
theorem MakePlay_any (n : Int) (p cs : ByteArray) (r c : Int) (d : Bool) (s : ByteArray) (w : World) (hp : p.size ≤ 1048576) (hc : cs.size ≤ 1048576) (hs : s.size ≤ 1048576) (hT : Tabs w) :
    Calls Tryd.prog 16 #[boardV n p cs, playV r c d s] w (Ret (makeV n p cs r c d s) w) := by
  have H : Hid (makeV n p cs r c d s = if okP n p cs r c d s then .tuple #[boardV n p (layL n cs r c d s s.size), .int .i64 0] else .tuple #[boardV 0 noS noS, .int .i64 1]) := hid rfl
  have HV := hid (ValidPlay_any n p cs r c d s _ hp hc hs (hT.ext ((((Ext.refl w).alloc (.cells #[.int .i64 n, .string p, .string cs] 29)).alloc (.cells #[.int .i64 r, .int .i64 c, .bool d, .string s] 31)).alloc (.cells #[.int .i64 0, .string ⟨#[]⟩, .string ⟨#[]⟩] 29))))
  clear hT
  go_enter Tryd.func16, Tryd.ntmps16
  go_wp2_with fail
  refine HV.out.mono ?_
  rintro e w1 ⟨rfl, hx⟩
  have a0 := hx.cell (b := w.heap.size) (o := 0) (v := .int .i64 n) (by go_cell)
  have a1 := hx.cell (b := w.heap.size) (o := 1) (v := .string p) (by go_cell)
  have a2 := hx.cell (b := w.heap.size) (o := 2) (v := .string cs) (by go_cell)
  have b0 := hx.cell (b := w.heap.size + 1) (o := 0) (v := .int .i64 r) (by go_cell)
  have b1 := hx.cell (b := w.heap.size + 1) (o := 1) (v := .int .i64 c) (by go_cell)
  have b2 := hx.cell (b := w.heap.size + 1) (o := 2) (v := .bool d) (by go_cell)
  have b3 := hx.cell (b := w.heap.size + 1) (o := 3) (v := .string s) (by go_cell)
  have u0 := hx.cell (b := w.heap.size + 2) (o := 0) (v := .int .i64 0) (by go_cell)
  have u1 := hx.cell (b := w.heap.size + 2) (o := 1) (v := .string ⟨#[]⟩) (by go_cell)
  have u2 := hx.cell (b := w.heap.size + 2) (o := 2) (v := .string ⟨#[]⟩) (by go_cell)
  have uf : ∀ j, w1.frozen? ⟨w.heap.size + 2, j, none⟩ = false := fun j => by rw [hx.cells.2 _ _ (by simp only [World.size_alloc]; omega)]; go_cell
  have hE := ((((Ext.refl w).alloc _).alloc _).alloc _).trans hx
  have hz := hx.size
  simp only [World.size_alloc] at hz
  clear hx HV
  cases hk : okP n p cs r c d s
  · have HK := hid hk
    clear hk
    go_wp2_with fail
    refine bodyPost_ret (v := .tuple #[boardV 0 noS noS, .int .i64 1]) (by simp [results, Tryd.results16, go_sem, u0, u1, u2, uf, noS, boardV]) rfl ⟨by rw [H.out, HK.out]; rfl, ((hE.setCell (by simp only []; omega) _).setCell (by simp only []; omega) _).setCell (by simp only []; omega) _⟩
  · have HK := hid hk
    have hk2 := hk
    unfold okP at hk2
    rw [Bool.and_eq_true] at hk2
    obtain ⟨h1, h2, h3, h4⟩ := okB_true hk2.1
    obtain ⟨m0, m1, m2⟩ := playB_true hk2.2
    have HM := hid (fun w' => made_any n p cs r c d s w' h1 h2 h4 m1 m2 (mainB_true m0).2.2)
    obtain ⟨X, hX⟩ : ∃ X, layL n cs r c d s s.size = X := ⟨_, rfl⟩
    rw [hX] at HM H
    clear hk hk2 h3 h4 m0 m1 m2 hX
    go_wp2_with fail
    refine (HM.out _).mono ?_
    rintro e w2 ⟨rfl, hy⟩
    replace u0 := hy.cell u0
    replace u1 := hy.cell u1
    replace u2 := hy.cell u2
    replace uf : ∀ j, w2.frozen? ⟨w.heap.size + 2, j, none⟩ = false := fun j => by rw [hy.cells.2 _ _ (by omega)]; exact uf j
    replace hE := hE.trans hy
    clear hy HM a0 a1 a2 b0 b1 b2 b3
    unfold boardV
    go_wp2_with fail
    refine bodyPost_ret (v := .tuple #[boardV n p X, .int .i64 0]) (by simp [results, Tryd.results16, go_sem, u0, u1, u2, uf, boardV]) rfl ⟨by rw [H.out, HK.out]; rfl, ((hE.setCell (by simp only []; omega) _).setCell (by simp only []; omega) _).setCell (by simp only []; omega) _⟩
end Go.Proofs.YtpjmenfnaembcaaDoor
