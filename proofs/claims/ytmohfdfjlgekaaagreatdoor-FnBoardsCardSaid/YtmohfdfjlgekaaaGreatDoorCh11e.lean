/- Boards: transposed boards, another cell, a row; the exported functions. Conditions stand at each. -/
import Derived.Test.YtmohfdfjlgekaaaGreatDoorCh11d
namespace Go.Proofs.YtmohfdfjlgekaaaGreatDoor
set_option linter.unusedVariables false
set_option linter.unusedSimpArgs false
open Go Go.RowKit

theorem okB_true {n : Int} {p c : ByteArray} (h : okB n p c = true) : 5 ≤ n ∧ n ≤ 15 ∧ (p.size : Int) = n * n ∧ (c.size : Int) = n * n := by
  simp only [okB, Bool.and_eq_true, decide_eq_true_eq] at h
  obtain ⟨h1, h2, h3, _⟩ := h
  obtain ⟨a, b⟩ := inB_true h1
  exact ⟨a, b, h2, h3⟩

set_option maxHeartbeats 400000 in
theorem transpose_any (n : Nat) (p c : ByteArray) (w : World) (hp : p.size = n * n) (hc : c.size = n * n) (h1 : 5 ≤ n) (h2 : n ≤ 15) :
    Calls Tryz.prog 29 #[boardV n p c] w (Ret (boardV n (turnS n p) (turnS n c)) w) := by
  unfold boardV
  go_enter Tryz.func29, Tryz.ntmps29
  go_wp2_with fail
  refine wp_region_flow_at (C := Ext) 13 [fun v _ => v = .pointer (some ⟨w.heap.size, 0, none⟩), fun v _ => v = .int .i64 n, fun v _ => v = .pointer (some ⟨w.heap.size, 1, none⟩), fun v _ => v = .string p, fun v _ => v = .pointer (some ⟨w.heap.size, 0, none⟩), fun v _ => v = .int .i64 n, fun v _ => v = .string (turnS n p), fun v _ => v = .pointer (some ⟨w.heap.size, 2, none⟩), fun v _ => v = .string c, fun v _ => v = .pointer (some ⟨w.heap.size, 0, none⟩), fun v _ => v = .int .i64 n, fun v _ => v = .string (turnS n c), fun v _ => v = .agg #[.int .i64 n, .string (turnS n p), .string (turnS n c)]]
    [[(1, none)], [(3, some 0)], [(1, none)], [(5, some 2)], [(1, none)], [(7, some 4)], [(6, some 3), (8, some 5)], [(1, none)], [(10, some 7)], [(1, none)], [(12, some 9)], [(11, some 8), (13, some 10)], [(4, some 1), (9, some 6), (14, some 11)]] (by kernel_rfl) (by kernel_rfl) Ext.refl (fun _ _ _ => Ext.trans) ?_ ?_ ?_
  · intro F hF
    simp only [List.mem_cons, List.not_mem_nil, or_false] at hF
    rcases hF with rfl | rfl | rfl | rfl | rfl | rfl | rfl | rfl | rfl | rfl | rfl | rfl | rfl <;> exact fun _ _ _ h _ => h
  · refine ⟨?_, ?_, ?_, ?_, ?_, ?_, ?_, ?_, ?_, ?_, ?_, ?_, ?_, trivial⟩
    · rintro ρ w1 hw hcst hfn hk
      clear hw
      simp only [known, List.getD_cons_zero, List.getD_cons_succ, Nat.reduceAdd] at hk
      simp only [List.getD_cons_zero, List.getD_cons_succ, Nat.reduceAdd, flowAt]
      go_simp
      exact ⟨Ext.refl _, by first | rfl | trivial⟩
    · rintro ρ w1 hw hcst hfn hk
      have c0 := hw.cell (b := w.heap.size) (o := 0) (v := .int .i64 n) (by first | (simp [*]; done) | (simp [*, go_sem]; done) | go_cell)
      clear hw
      simp only [known, List.getD_cons_zero, List.getD_cons_succ, Nat.reduceAdd] at hk
      simp only [List.getD_cons_zero, List.getD_cons_succ, Nat.reduceAdd, flowAt]
      go_simp
      exact ⟨Ext.refl _, by first | rfl | trivial⟩
    · rintro ρ w1 hw hcst hfn hk
      clear hw
      simp only [known, List.getD_cons_zero, List.getD_cons_succ, Nat.reduceAdd] at hk
      simp only [List.getD_cons_zero, List.getD_cons_succ, Nat.reduceAdd, flowAt]
      go_simp
      exact ⟨Ext.refl _, by first | rfl | trivial⟩
    · rintro ρ w1 hw hcst hfn hk
      have c0 := hw.cell (b := w.heap.size) (o := 1) (v := .string p) (by first | (simp [*]; done) | (simp [*, go_sem]; done) | go_cell)
      clear hw
      simp only [known, List.getD_cons_zero, List.getD_cons_succ, Nat.reduceAdd] at hk
      simp only [List.getD_cons_zero, List.getD_cons_succ, Nat.reduceAdd, flowAt]
      go_simp
      exact ⟨Ext.refl _, by first | rfl | trivial⟩
    · rintro ρ w1 hw hcst hfn hk
      clear hw
      simp only [known, List.getD_cons_zero, List.getD_cons_succ, Nat.reduceAdd] at hk
      simp only [List.getD_cons_zero, List.getD_cons_succ, Nat.reduceAdd, flowAt]
      go_simp
      exact ⟨Ext.refl _, by first | rfl | trivial⟩
    · rintro ρ w1 hw hcst hfn hk
      have c0 := hw.cell (b := w.heap.size) (o := 0) (v := .int .i64 n) (by first | (simp [*]; done) | (simp [*, go_sem]; done) | go_cell)
      clear hw
      simp only [known, List.getD_cons_zero, List.getD_cons_succ, Nat.reduceAdd] at hk
      simp only [List.getD_cons_zero, List.getD_cons_succ, Nat.reduceAdd, flowAt]
      go_simp
      exact ⟨Ext.refl _, by first | rfl | trivial⟩
    · rintro ρ w1 hw hcst hfn hk
      simp only [known, List.getD_cons_zero, List.getD_cons_succ, Nat.reduceAdd] at hk
      simp only [List.getD_cons_zero, List.getD_cons_succ, Nat.reduceAdd, flowAt]
      go_simp
      exact flow_ret (transposed_any _ _ _ hp h1 h2)
    · rintro ρ w1 hw hcst hfn hk
      clear hw
      simp only [known, List.getD_cons_zero, List.getD_cons_succ, Nat.reduceAdd] at hk
      simp only [List.getD_cons_zero, List.getD_cons_succ, Nat.reduceAdd, flowAt]
      go_simp
      exact ⟨Ext.refl _, by first | rfl | trivial⟩
    · rintro ρ w1 hw hcst hfn hk
      have c0 := hw.cell (b := w.heap.size) (o := 2) (v := .string c) (by first | (simp [*]; done) | (simp [*, go_sem]; done) | go_cell)
      clear hw
      simp only [known, List.getD_cons_zero, List.getD_cons_succ, Nat.reduceAdd] at hk
      simp only [List.getD_cons_zero, List.getD_cons_succ, Nat.reduceAdd, flowAt]
      go_simp
      exact ⟨Ext.refl _, by first | rfl | trivial⟩
    · rintro ρ w1 hw hcst hfn hk
      clear hw
      simp only [known, List.getD_cons_zero, List.getD_cons_succ, Nat.reduceAdd] at hk
      simp only [List.getD_cons_zero, List.getD_cons_succ, Nat.reduceAdd, flowAt]
      go_simp
      exact ⟨Ext.refl _, by first | rfl | trivial⟩
    · rintro ρ w1 hw hcst hfn hk
      have c0 := hw.cell (b := w.heap.size) (o := 0) (v := .int .i64 n) (by first | (simp [*]; done) | (simp [*, go_sem]; done) | go_cell)
      clear hw
      simp only [known, List.getD_cons_zero, List.getD_cons_succ, Nat.reduceAdd] at hk
      simp only [List.getD_cons_zero, List.getD_cons_succ, Nat.reduceAdd, flowAt]
      go_simp
      exact ⟨Ext.refl _, by first | rfl | trivial⟩
    · rintro ρ w1 hw hcst hfn hk
      simp only [known, List.getD_cons_zero, List.getD_cons_succ, Nat.reduceAdd] at hk
      simp only [List.getD_cons_zero, List.getD_cons_succ, Nat.reduceAdd, flowAt]
      go_simp
      exact flow_ret (transposed_any _ _ _ hc h1 h2)
    · rintro ρ w1 hw hcst hfn hk
      clear hw
      simp only [known, List.getD_cons_zero, List.getD_cons_succ, Nat.reduceAdd] at hk
      simp only [List.getD_cons_zero, List.getD_cons_succ, Nat.reduceAdd, flowAt]
      go_simp
      exact ⟨Ext.refl _, by first | rfl | trivial⟩
  intro vs w1 hw hf
  simp only [flowFacts, Nat.reduceAdd] at hf
  obtain ⟨e0, e1, e2, e3, e4, e5, e6, e7, e8, e9, e10, e11, e12, -⟩ := hf
  simp only [List.take_succ_cons, List.take_zero, List.drop_succ_cons, List.drop_zero, putAll, Act.put, Nat.reduceAdd, List.setIfInBounds_toArray, List.set_cons_zero, List.set_cons_succ, e0, e1, e2, e3, e4, e5, e6, e7, e8, e9, e10, e11, e12]
  clear e0 e1 e2 e3 e4 e5 e6 e7 e8 e9 e10 e11 e12
  have r0 := hw.cell (b := w.heap.size + 1) (o := 0) (v := .int .i64 0) (by simp)
  have r1 := hw.cell (b := w.heap.size + 1) (o := 1) (v := .string ⟨#[]⟩) (by simp)
  have r2 := hw.cell (b := w.heap.size + 1) (o := 2) (v := .string ⟨#[]⟩) (by simp)
  have xf : ∀ j, w1.frozen? ⟨w.heap.size + 1, j, none⟩ = false := fun j => by rw [hw.cells.2 _ _ (by simp)]; simp
  have hE : Ext w w1 := (((Ext.refl w).alloc _).alloc _).drew.trans hw
  clear hw
  go_wp2_with fail
  refine bodyPost_ret (v := boardV n (turnS n p) (turnS n c)) (by simp [results, Tryz.results29, go_sem, *, boardV]) rfl ⟨rfl, ((hE.setCell (by simp) _).setCell (by simp) _).setCell (by simp) _⟩
set_option maxHeartbeats 400000 in
theorem l11Transpose_any (b o : Nat) (n : Nat) (p c : ByteArray) (w : World) (hB : BdAt w b o n p c) (hp : p.size = n * n) (hc : c.size = n * n) (h1 : 5 ≤ n) (h2 : n ≤ 15) :
    Calls Tryz.prog 34 #[.pointer (some ⟨b, o, none⟩)] w (Ret (boardV n (turnS n p) (turnS n c)) w) := by
  unfold boardV
  obtain ⟨c0, c1, c2⟩ := hB
  have hsz : b < w.heap.size := World.block_lt_of_cell? w _ c0
  go_enter Tryz.func34, Tryz.ntmps34
  go_wp2_with fail
  refine wp_region_flow_at (C := Ext) 23 [fun v _ => v = .pointer (some ⟨b, o, none⟩), fun v _ => v = .pointer (some ⟨b, o, none⟩), fun v _ => v = .pointer (some ⟨b, o, none⟩), fun v _ => v = .int .i64 n, fun v _ => v = .pointer (some ⟨b, o, none⟩), fun v _ => v = .pointer (some ⟨b, o, none⟩), fun v _ => v = .pointer (some ⟨b, o, none⟩), fun v _ => v = .int .i64 n, fun v _ => v = .pointer (some ⟨b, o, none⟩), fun v _ => v = .pointer (some ⟨b, o, none⟩), fun v _ => v = .pointer (some ⟨b, o + 1, none⟩), fun v _ => v = .string p, fun v _ => v = .string (turnS n p), fun v _ => v = .pointer (some ⟨b, o, none⟩), fun v _ => v = .pointer (some ⟨b, o, none⟩), fun v _ => v = .pointer (some ⟨b, o, none⟩), fun v _ => v = .int .i64 n, fun v _ => v = .pointer (some ⟨b, o, none⟩), fun v _ => v = .pointer (some ⟨b, o, none⟩), fun v _ => v = .pointer (some ⟨b, o + 2, none⟩), fun v _ => v = .string c, fun v _ => v = .string (turnS n c), fun v _ => v = .agg #[.int .i64 n, .string (turnS n p), .string (turnS n c)]]
    [[(0, none)], [(3, some 0)], [(4, some 1)], [(5, some 2)], [(0, none)], [(7, some 4)], [(8, some 5)], [(9, some 6)], [(0, none)], [(11, some 8)], [(12, some 9)], [(13, some 10)], [(10, some 7), (14, some 11)], [(0, none)], [(16, some 13)], [(17, some 14)], [(18, some 15)], [(0, none)], [(20, some 17)], [(21, some 18)], [(22, some 19)], [(19, some 16), (23, some 20)], [(6, some 3), (15, some 12), (24, some 21)]] (by kernel_rfl) (by kernel_rfl) Ext.refl (fun _ _ _ => Ext.trans) ?_ ?_ ?_
  · intro F hF
    simp only [List.mem_cons, List.not_mem_nil, or_false] at hF
    rcases hF with rfl | rfl | rfl | rfl | rfl | rfl | rfl | rfl | rfl | rfl | rfl | rfl | rfl | rfl | rfl | rfl | rfl | rfl | rfl | rfl | rfl | rfl | rfl <;> exact fun _ _ _ h _ => h
  · refine ⟨?_, ?_, ?_, ?_, ?_, ?_, ?_, ?_, ?_, ?_, ?_, ?_, ?_, ?_, ?_, ?_, ?_, ?_, ?_, ?_, ?_, ?_, ?_, trivial⟩
    · rintro ρ w1 hw hcst hfn hk
      clear hw
      simp only [known, List.getD_cons_zero, List.getD_cons_succ, Nat.reduceAdd] at hk
      simp only [List.getD_cons_zero, List.getD_cons_succ, Nat.reduceAdd, flowAt]
      go_simp
      exact ⟨Ext.refl _, by first | rfl | trivial⟩
    · rintro ρ w1 hw hcst hfn hk
      clear hw
      simp only [known, List.getD_cons_zero, List.getD_cons_succ, Nat.reduceAdd] at hk
      simp only [List.getD_cons_zero, List.getD_cons_succ, Nat.reduceAdd, flowAt]
      go_simp
      exact ⟨Ext.refl _, by first | rfl | trivial⟩
    · rintro ρ w1 hw hcst hfn hk
      clear hw
      simp only [known, List.getD_cons_zero, List.getD_cons_succ, Nat.reduceAdd] at hk
      simp only [List.getD_cons_zero, List.getD_cons_succ, Nat.reduceAdd, flowAt]
      go_simp
      exact ⟨Ext.refl _, by first | rfl | trivial⟩
    · rintro ρ w1 hw hcst hfn hk
      have c0 := hw.cell (b := b) (o := o) (v := .int .i64 n) (by first | (simp [*]; done) | (simp [*, go_sem]; done) | go_cell)
      clear hw
      simp only [known, List.getD_cons_zero, List.getD_cons_succ, Nat.reduceAdd] at hk
      simp only [List.getD_cons_zero, List.getD_cons_succ, Nat.reduceAdd, flowAt]
      go_simp
      exact ⟨Ext.refl _, by first | rfl | trivial⟩
    · rintro ρ w1 hw hcst hfn hk
      clear hw
      simp only [known, List.getD_cons_zero, List.getD_cons_succ, Nat.reduceAdd] at hk
      simp only [List.getD_cons_zero, List.getD_cons_succ, Nat.reduceAdd, flowAt]
      go_simp
      exact ⟨Ext.refl _, by first | rfl | trivial⟩
    · rintro ρ w1 hw hcst hfn hk
      clear hw
      simp only [known, List.getD_cons_zero, List.getD_cons_succ, Nat.reduceAdd] at hk
      simp only [List.getD_cons_zero, List.getD_cons_succ, Nat.reduceAdd, flowAt]
      go_simp
      exact ⟨Ext.refl _, by first | rfl | trivial⟩
    · rintro ρ w1 hw hcst hfn hk
      clear hw
      simp only [known, List.getD_cons_zero, List.getD_cons_succ, Nat.reduceAdd] at hk
      simp only [List.getD_cons_zero, List.getD_cons_succ, Nat.reduceAdd, flowAt]
      go_simp
      exact ⟨Ext.refl _, by first | rfl | trivial⟩
    · rintro ρ w1 hw hcst hfn hk
      have c0 := hw.cell (b := b) (o := o) (v := .int .i64 n) (by first | (simp [*]; done) | (simp [*, go_sem]; done) | go_cell)
      clear hw
      simp only [known, List.getD_cons_zero, List.getD_cons_succ, Nat.reduceAdd] at hk
      simp only [List.getD_cons_zero, List.getD_cons_succ, Nat.reduceAdd, flowAt]
      go_simp
      exact ⟨Ext.refl _, by first | rfl | trivial⟩
    · rintro ρ w1 hw hcst hfn hk
      clear hw
      simp only [known, List.getD_cons_zero, List.getD_cons_succ, Nat.reduceAdd] at hk
      simp only [List.getD_cons_zero, List.getD_cons_succ, Nat.reduceAdd, flowAt]
      go_simp
      exact ⟨Ext.refl _, by first | rfl | trivial⟩
    · rintro ρ w1 hw hcst hfn hk
      clear hw
      simp only [known, List.getD_cons_zero, List.getD_cons_succ, Nat.reduceAdd] at hk
      simp only [List.getD_cons_zero, List.getD_cons_succ, Nat.reduceAdd, flowAt]
      go_simp
      exact ⟨Ext.refl _, by first | rfl | trivial⟩
    · rintro ρ w1 hw hcst hfn hk
      clear hw
      simp only [known, List.getD_cons_zero, List.getD_cons_succ, Nat.reduceAdd] at hk
      simp only [List.getD_cons_zero, List.getD_cons_succ, Nat.reduceAdd, flowAt]
      go_simp
      exact ⟨Ext.refl _, by first | rfl | trivial⟩
    · rintro ρ w1 hw hcst hfn hk
      have c0 := hw.cell (b := b) (o := o + 1) (v := .string p) (by first | (simp [*]; done) | (simp [*, go_sem]; done) | go_cell)
      clear hw
      simp only [known, List.getD_cons_zero, List.getD_cons_succ, Nat.reduceAdd] at hk
      simp only [List.getD_cons_zero, List.getD_cons_succ, Nat.reduceAdd, flowAt]
      go_simp
      exact ⟨Ext.refl _, by first | rfl | trivial⟩
    · rintro ρ w1 hw hcst hfn hk
      simp only [known, List.getD_cons_zero, List.getD_cons_succ, Nat.reduceAdd] at hk
      simp only [List.getD_cons_zero, List.getD_cons_succ, Nat.reduceAdd, flowAt]
      go_simp
      exact flow_ret (l11Turn_any _ _ _ hp h1 h2)
    · rintro ρ w1 hw hcst hfn hk
      clear hw
      simp only [known, List.getD_cons_zero, List.getD_cons_succ, Nat.reduceAdd] at hk
      simp only [List.getD_cons_zero, List.getD_cons_succ, Nat.reduceAdd, flowAt]
      go_simp
      exact ⟨Ext.refl _, by first | rfl | trivial⟩
    · rintro ρ w1 hw hcst hfn hk
      clear hw
      simp only [known, List.getD_cons_zero, List.getD_cons_succ, Nat.reduceAdd] at hk
      simp only [List.getD_cons_zero, List.getD_cons_succ, Nat.reduceAdd, flowAt]
      go_simp
      exact ⟨Ext.refl _, by first | rfl | trivial⟩
    · rintro ρ w1 hw hcst hfn hk
      clear hw
      simp only [known, List.getD_cons_zero, List.getD_cons_succ, Nat.reduceAdd] at hk
      simp only [List.getD_cons_zero, List.getD_cons_succ, Nat.reduceAdd, flowAt]
      go_simp
      exact ⟨Ext.refl _, by first | rfl | trivial⟩
    · rintro ρ w1 hw hcst hfn hk
      have c0 := hw.cell (b := b) (o := o) (v := .int .i64 n) (by first | (simp [*]; done) | (simp [*, go_sem]; done) | go_cell)
      clear hw
      simp only [known, List.getD_cons_zero, List.getD_cons_succ, Nat.reduceAdd] at hk
      simp only [List.getD_cons_zero, List.getD_cons_succ, Nat.reduceAdd, flowAt]
      go_simp
      exact ⟨Ext.refl _, by first | rfl | trivial⟩
    · rintro ρ w1 hw hcst hfn hk
      clear hw
      simp only [known, List.getD_cons_zero, List.getD_cons_succ, Nat.reduceAdd] at hk
      simp only [List.getD_cons_zero, List.getD_cons_succ, Nat.reduceAdd, flowAt]
      go_simp
      exact ⟨Ext.refl _, by first | rfl | trivial⟩
    · rintro ρ w1 hw hcst hfn hk
      clear hw
      simp only [known, List.getD_cons_zero, List.getD_cons_succ, Nat.reduceAdd] at hk
      simp only [List.getD_cons_zero, List.getD_cons_succ, Nat.reduceAdd, flowAt]
      go_simp
      exact ⟨Ext.refl _, by first | rfl | trivial⟩
    · rintro ρ w1 hw hcst hfn hk
      clear hw
      simp only [known, List.getD_cons_zero, List.getD_cons_succ, Nat.reduceAdd] at hk
      simp only [List.getD_cons_zero, List.getD_cons_succ, Nat.reduceAdd, flowAt]
      go_simp
      exact ⟨Ext.refl _, by first | rfl | trivial⟩
    · rintro ρ w1 hw hcst hfn hk
      have c0 := hw.cell (b := b) (o := o + 2) (v := .string c) (by first | (simp [*]; done) | (simp [*, go_sem]; done) | go_cell)
      clear hw
      simp only [known, List.getD_cons_zero, List.getD_cons_succ, Nat.reduceAdd] at hk
      simp only [List.getD_cons_zero, List.getD_cons_succ, Nat.reduceAdd, flowAt]
      go_simp
      exact ⟨Ext.refl _, by first | rfl | trivial⟩
    · rintro ρ w1 hw hcst hfn hk
      simp only [known, List.getD_cons_zero, List.getD_cons_succ, Nat.reduceAdd] at hk
      simp only [List.getD_cons_zero, List.getD_cons_succ, Nat.reduceAdd, flowAt]
      go_simp
      exact flow_ret (l11Turn_any _ _ _ hc h1 h2)
    · rintro ρ w1 hw hcst hfn hk
      clear hw
      simp only [known, List.getD_cons_zero, List.getD_cons_succ, Nat.reduceAdd] at hk
      simp only [List.getD_cons_zero, List.getD_cons_succ, Nat.reduceAdd, flowAt]
      go_simp
      exact ⟨Ext.refl _, by first | rfl | trivial⟩
  intro vs w1 hw hf
  simp only [flowFacts, Nat.reduceAdd] at hf
  obtain ⟨e0, e1, e2, e3, e4, e5, e6, e7, e8, e9, e10, e11, e12, e13, e14, e15, e16, e17, e18, e19, e20, e21, e22, -⟩ := hf
  simp only [List.take_succ_cons, List.take_zero, List.drop_succ_cons, List.drop_zero, putAll, Act.put, Nat.reduceAdd, List.setIfInBounds_toArray, List.set_cons_zero, List.set_cons_succ, e0, e1, e2, e3, e4, e5, e6, e7, e8, e9, e10, e11, e12, e13, e14, e15, e16, e17, e18, e19, e20, e21, e22]
  clear e0 e1 e2 e3 e4 e5 e6 e7 e8 e9 e10 e11 e12 e13 e14 e15 e16 e17 e18 e19 e20 e21 e22
  have r0 := hw.cell (b := w.heap.size) (o := 0) (v := .int .i64 0) (by simp)
  have r1 := hw.cell (b := w.heap.size) (o := 1) (v := .string ⟨#[]⟩) (by simp)
  have r2 := hw.cell (b := w.heap.size) (o := 2) (v := .string ⟨#[]⟩) (by simp)
  have xf : ∀ j, w1.frozen? ⟨w.heap.size, j, none⟩ = false := fun j => by rw [hw.cells.2 _ _ (by simp)]; simp
  have hE : Ext w w1 := ((Ext.refl w).alloc _).drew.trans hw
  clear hw
  go_wp2_with fail
  refine bodyPost_ret (v := boardV n (turnS n p) (turnS n c)) (by simp [results, Tryz.results34, go_sem, *, boardV]) rfl ⟨rfl, ((hE.setCell (by simp) _).setCell (by simp) _).setCell (by simp) _⟩

/-- The bytes with another one at a place. -/
def setS (s : ByteArray) (k : Nat) (x : Int) : ByteArray := ⟨(s.data.toList.set k (UInt8.ofNat x.toNat)).toArray⟩
theorem bytesV_set (l : List UInt8) (k : Nat) (x : Int) (h0 : 0 ≤ x) (h1 : x < 256) : (bytesV l).set k (.int .u8 x) = bytesV (l.set k (UInt8.ofNat x.toNat)) := by
  have : ((UInt8.ofNat x.toNat).toNat : Int) = x := by
    simp only [UInt8.toNat_ofNat']
    omega
  rw [bytesV, bytesV, List.map_set, this]

set_option maxRecDepth 100000 in
set_option maxHeartbeats 400000 in
theorem l11Set_any (b o : Nat) (n : Int) (p c : ByteArray) (i j x : Int) (w : World) (hB : BdAt w b o n p c) (h1 : 5 ≤ n) (h2 : n ≤ 15) (hc : (c.size : Int) = n * n) (hr : inRC n i j = true) (hx0 : 0 ≤ x) (hx1 : x < 256) :
    Calls Tryz.prog 119 #[.pointer (some ⟨b, o, none⟩), .int .i64 i, .int .i64 j, .int .u8 x] w (Ret (boardV n p (setS c (i * n + j).toNat x)) w) := by
  obtain ⟨e1, e2, e3, e4, e5⟩ := sq_index h1 h2 hc hr
  obtain ⟨a1, a2, a3, a4⟩ := inRC_true hr
  have HB := hid hB
  unfold boardV
  clear hc hr
  have hsz : b < w.heap.size := World.block_lt_of_cell? w _ hB.1
  obtain ⟨c0, c1, c2⟩ := hB
  go_enter Tryz.func119, Tryz.ntmps119
  go_wp2_with (refine wpList_bytes rfl _ 9 22 rfl Tryz.underlying9 Tryz.underlying22 Tryz.underlying5 rfl ?_; intro cp w1 hwr hcap hx hsz1; obtain ⟨d0, d1, d2⟩ := (HB.out.ext ((Ext.refl w).alloc _)).ext hx; have HW := hid hwr; obtain ⟨f1, f2⟩ := hwr.fit (i * n + j).toNat (by rw [bytesV_length]; exact e5); simp only [World.size_alloc] at f1 f2; clear hwr)
  have HX := hid hx
  have r0 := hx.cell (b := w.heap.size) (o := 0) (v := .int .i64 0) (by simp)
  have r1 := hx.cell (b := w.heap.size) (o := 1) (v := .string ⟨#[]⟩) (by simp)
  have r2 := hx.cell (b := w.heap.size) (o := 2) (v := .string ⟨#[]⟩) (by simp)
  have xf : ∀ j, w1.frozen? ⟨w.heap.size, j, none⟩ = false := fun j => by rw [hx.cells.2 _ _ (by simp)]; simp
  have HS := HW.out.set (i * n + j).toNat (by rw [bytesV_length]; exact e5) (.int .u8 x)
  rw [bytesV_set _ _ _ hx0 hx1] at HS
  simp only [World.size_alloc] at HS
  have n1 : ∀ (q : Nat) (v : Value) (o : Nat), q < w.heap.size + 1 → (w1.setCell ⟨w.heap.size + 1, (i * n + j).toNat, none⟩ v).cell? ⟨q, o, none⟩ = w1.cell? ⟨q, o, none⟩ := fun q v o h => World.cell?_setCell_other _ _ _ _ (by intro e; simp at e <;> omega)
  have n2 : ∀ (q : Nat) (v : Value) (o : Nat), (w1.setCell ⟨w.heap.size + 1, (i * n + j).toNat, none⟩ v).frozen? ⟨q, o, none⟩ = w1.frozen? ⟨q, o, none⟩ := fun q v o => by simp
  have hE : Ext w (w1.setCell ⟨w.heap.size + 1, (i * n + j).toNat, none⟩ (.int .u8 x)) := (((Ext.refl w).alloc _).trans hx).setCell (by simp) _
  have g0 := (n1 b (.int .u8 x) o (by omega)).trans d0
  have g1 := (n1 b (.int .u8 x) (o + 1) (by omega)).trans d1
  have g2 := (n1 b (.int .u8 x) (o + 2) (by omega)).trans d2
  have s0 := (n1 w.heap.size (.int .u8 x) 0 (by omega)).trans r0
  have s1 := (n1 w.heap.size (.int .u8 x) 1 (by omega)).trans r1
  have s2 := (n1 w.heap.size (.int .u8 x) 2 (by omega)).trans r2
  have sf : ∀ q, (w1.setCell ⟨w.heap.size + 1, (i * n + j).toNat, none⟩ (.int .u8 x)).frozen? ⟨w.heap.size, q, none⟩ = false := fun q => (n2 _ _ _).trans (xf q)
  have hlt := hx.size
  simp only [World.size_alloc] at hlt
  have hW : w.heap.size + 1 < (w1.setCell ⟨w.heap.size + 1, (i * n + j).toNat, none⟩ (.int .u8 x)).heap.size := HS.1
  clear n1 n2 r0 r1 r2 xf d0 d1 d2 c0 c1 c2 f1 f2 hx
  generalize w1.setCell ⟨w.heap.size + 1, (i * n + j).toNat, none⟩ (.int .u8 x) = W at *
  refine wp_region_flow_at (C := Ext) 11 [fun v _ => v = .pointer (some ⟨b, o, none⟩), fun v _ => v = .pointer (some ⟨b, o, none⟩), fun v _ => v = .pointer (some ⟨b, o, none⟩), fun v _ => v = .int .i64 n, fun v _ => v = .pointer (some ⟨b, o, none⟩), fun v _ => v = .pointer (some ⟨b, o, none⟩), fun v _ => v = .pointer (some ⟨b, o + 1, none⟩), fun v _ => v = .string p, fun v _ => v = .slice (some ⟨w.heap.size + 1, 0, none⟩) c.size cp, fun v _ => v = .string (setS c (i * n + j).toNat x), fun v _ => v = .agg #[.int .i64 n, .string p, .string (setS c (i * n + j).toNat x)]]
    [[(0, none)], [(26, some 0)], [(27, some 1)], [(28, some 2)], [(0, none)], [(30, some 4)], [(31, some 5)], [(32, some 6)], [(9, none)], [(34, some 8)], [(29, some 3), (33, some 7), (35, some 9)]] (by kernel_rfl) (by kernel_rfl) Ext.refl (fun _ _ _ => Ext.trans) ?_ ?_ ?_
  · intro F hF
    simp only [List.mem_cons, List.not_mem_nil, or_false] at hF
    rcases hF with rfl | rfl | rfl | rfl | rfl | rfl | rfl | rfl | rfl | rfl | rfl <;> exact fun _ _ _ h _ => h
  · refine ⟨?_, ?_, ?_, ?_, ?_, ?_, ?_, ?_, ?_, ?_, ?_, trivial⟩
    · rintro ρ w1 hw hcst hfn hk
      clear hw
      simp only [known, List.getD_cons_zero, List.getD_cons_succ, Nat.reduceAdd] at hk
      simp only [List.getD_cons_zero, List.getD_cons_succ, Nat.reduceAdd, flowAt]
      go_simp
      exact ⟨Ext.refl _, by first | rfl | trivial⟩
    · rintro ρ w1 hw hcst hfn hk
      clear hw
      simp only [known, List.getD_cons_zero, List.getD_cons_succ, Nat.reduceAdd] at hk
      simp only [List.getD_cons_zero, List.getD_cons_succ, Nat.reduceAdd, flowAt]
      go_simp
      exact ⟨Ext.refl _, by first | rfl | trivial⟩
    · rintro ρ w1 hw hcst hfn hk
      clear hw
      simp only [known, List.getD_cons_zero, List.getD_cons_succ, Nat.reduceAdd] at hk
      simp only [List.getD_cons_zero, List.getD_cons_succ, Nat.reduceAdd, flowAt]
      go_simp
      exact ⟨Ext.refl _, by first | rfl | trivial⟩
    · rintro ρ w1 hw hcst hfn hk
      have c0 := hw.cell (b := b) (o := o) (v := .int .i64 n) (by first | (simp [*]; done) | (simp [*, go_sem]; done) | go_cell)
      clear hw
      simp only [known, List.getD_cons_zero, List.getD_cons_succ, Nat.reduceAdd] at hk
      simp only [List.getD_cons_zero, List.getD_cons_succ, Nat.reduceAdd, flowAt]
      go_simp
      exact ⟨Ext.refl _, by first | rfl | trivial⟩
    · rintro ρ w1 hw hcst hfn hk
      clear hw
      simp only [known, List.getD_cons_zero, List.getD_cons_succ, Nat.reduceAdd] at hk
      simp only [List.getD_cons_zero, List.getD_cons_succ, Nat.reduceAdd, flowAt]
      go_simp
      exact ⟨Ext.refl _, by first | rfl | trivial⟩
    · rintro ρ w1 hw hcst hfn hk
      clear hw
      simp only [known, List.getD_cons_zero, List.getD_cons_succ, Nat.reduceAdd] at hk
      simp only [List.getD_cons_zero, List.getD_cons_succ, Nat.reduceAdd, flowAt]
      go_simp
      exact ⟨Ext.refl _, by first | rfl | trivial⟩
    · rintro ρ w1 hw hcst hfn hk
      clear hw
      simp only [known, List.getD_cons_zero, List.getD_cons_succ, Nat.reduceAdd] at hk
      simp only [List.getD_cons_zero, List.getD_cons_succ, Nat.reduceAdd, flowAt]
      go_simp
      exact ⟨Ext.refl _, by first | rfl | trivial⟩
    · rintro ρ w1 hw hcst hfn hk
      have c0 := hw.cell (b := b) (o := o + 1) (v := .string p) (by first | (simp [*]; done) | (simp [*, go_sem]; done) | go_cell)
      clear hw
      simp only [known, List.getD_cons_zero, List.getD_cons_succ, Nat.reduceAdd] at hk
      simp only [List.getD_cons_zero, List.getD_cons_succ, Nat.reduceAdd, flowAt]
      go_simp
      exact ⟨Ext.refl _, by first | rfl | trivial⟩
    · rintro ρ w1 hw hcst hfn hk
      clear hw
      simp only [known, List.getD_cons_zero, List.getD_cons_succ, Nat.reduceAdd] at hk
      simp only [List.getD_cons_zero, List.getD_cons_succ, Nat.reduceAdd, flowAt]
      go_simp
      exact ⟨Ext.refl _, by first | rfl | trivial⟩
    · rintro ρ w1 hw hcst hfn hk
      simp only [known, List.getD_cons_zero, List.getD_cons_succ, Nat.reduceAdd] at hk
      simp only [List.getD_cons_zero, List.getD_cons_succ, Nat.reduceAdd]
      exact flow_str (src := 22) (dst := 9) (e := 5) rfl Tryz.underlying22 Tryz.underlying5 Tryz.underlying9 hk.1 (by rw [List.length_set]; rfl) (HS.ext (Ext.drew (Ext.refl W) |>.trans hw)).rd
    · rintro ρ w1 hw hcst hfn hk
      clear hw
      simp only [known, List.getD_cons_zero, List.getD_cons_succ, Nat.reduceAdd] at hk
      simp only [List.getD_cons_zero, List.getD_cons_succ, Nat.reduceAdd, flowAt]
      go_simp
      exact ⟨Ext.refl _, by first | rfl | trivial⟩
  intro vs w1 hw hf
  simp only [flowFacts, Nat.reduceAdd] at hf
  obtain ⟨e0, e1, e2, e3, e4, e5, e6, e7, e8, e9, e10, -⟩ := hf
  simp only [List.take_succ_cons, List.take_zero, List.drop_succ_cons, List.drop_zero, putAll, Act.put, Nat.reduceAdd, List.setIfInBounds_toArray, List.set_cons_zero, List.set_cons_succ, e0, e1, e2, e3, e4, e5, e6, e7, e8, e9, e10]
  clear e0 e1 e2 e3 e4 e5 e6 e7 e8 e9 e10
  have t0 := hw.cell (b := w.heap.size) (o := 0) (v := .int .i64 0) (by simpa using s0)
  have t1 := hw.cell (b := w.heap.size) (o := 1) (v := .string ⟨#[]⟩) (by simpa using s1)
  have t2 := hw.cell (b := w.heap.size) (o := 2) (v := .string ⟨#[]⟩) (by simpa using s2)
  have tf : ∀ q, w1.frozen? ⟨w.heap.size, q, none⟩ = false := fun q => by rw [hw.cells.2 _ _ (by simp; omega)]; simpa using sf q
  have hE' := hE.drew.trans hw
  clear hw s0 s1 s2 sf
  go_wp2_with fail
  refine bodyPost_ret (v := boardV n p (setS c (i * n + j).toNat x)) (by simp [results, Tryz.results119, go_sem, t0, t1, t2, tf, boardV]) rfl ⟨rfl, ((hE'.setCell (by simp) _).setCell (by simp) _).setCell (by simp) _⟩
end Go.Proofs.YtmohfdfjlgekaaaGreatDoor
