/- Plays: squares, and what lies on them. Conditions stand at each. -/
import Derived.Test.YtcgedkpbobgkhaaGreatDoorCh03a
import Derived.Test.YtcgedkpbobgkhaaGreatDoorLetL
namespace Go.Proofs.YtcgedkpbobgkhaaGreatDoor
set_option linter.unusedVariables false
set_option linter.unusedSimpArgs false
open Go Go.RowKit
theorem directionOf_any (d : Bool) (w : World) : Calls Tryz.prog 63 #[.bool d] w (Same (if d then .iface 94 (.agg #[]) else .iface 95 (.agg #[])) w) := by
  cases d <;> (go_enter Tryz.func63, Tryz.ntmps63; go_wp2_with fail; go_returns; exact ⟨rfl, rfl⟩)
abbrev sqV (r c : Int) : Value := .agg #[.int .i64 r, .int .i64 c]
def sqR (r : Int) (d : Bool) (i : Int) : Int := if d then r + i else r
def sqC (c : Int) (d : Bool) (i : Int) : Int := if d then c else c + i
theorem sq_bd {r c i : Int} (d : Bool) (h1 : -1000 ≤ r ∧ r ≤ 1000) (h2 : -1000 ≤ c ∧ c ≤ 1000) (h3 : -1000 ≤ i ∧ i ≤ 1000) : (-2000 ≤ sqR r d i ∧ sqR r d i ≤ 2000) ∧ (-2000 ≤ sqC c d i ∧ sqC c d i ≤ 2000) := by
  cases d <;> simp [sqR, sqC] <;> omega
set_option maxHeartbeats 400000 in
theorem downAt_any (r c i : Int) (w : World) (h1 : -1000 ≤ r ∧ r ≤ 1000) (h2 : -1000 ≤ c ∧ c ≤ 1000) (h3 : -1000 ≤ i ∧ i ≤ 1000) :
    Calls Tryz.prog 116 #[.agg #[], .int .i64 r, .int .i64 c, .int .i64 i] w (Ret (sqV (r + i) c) w) := by
  obtain ⟨a1, a2⟩ := h1
  obtain ⟨b1, b2⟩ := h2
  obtain ⟨c1, c2⟩ := h3
  go_enter Tryz.func116, Tryz.ntmps116
  go_wp2_with fail
  refine bodyPost_ret (v := sqV (r + i) c) (by simp [results, Tryz.results116, go_sem]) rfl ⟨rfl, ((Ext.refl w).alloc _).alloc _⟩
set_option maxHeartbeats 400000 in
theorem rightAt_any (r c i : Int) (w : World) (h1 : -1000 ≤ r ∧ r ≤ 1000) (h2 : -1000 ≤ c ∧ c ≤ 1000) (h3 : -1000 ≤ i ∧ i ≤ 1000) :
    Calls Tryz.prog 118 #[.agg #[], .int .i64 r, .int .i64 c, .int .i64 i] w (Ret (sqV r (c + i)) w) := by
  obtain ⟨a1, a2⟩ := h1
  obtain ⟨b1, b2⟩ := h2
  obtain ⟨c1, c2⟩ := h3
  go_enter Tryz.func118, Tryz.ntmps118
  go_wp2_with fail
  refine bodyPost_ret (v := sqV r (c + i)) (by simp [results, Tryz.results118, go_sem]) rfl ⟨rfl, ((Ext.refl w).alloc _).alloc _⟩
theorem meth_right (w : World) : (method 250 95 (.agg #[]) "loop.example/g00911/impl.at").run Tryz.prog w = .ok (118, .agg #[]) w := by kernel_rfl
theorem meth_down (w : World) : (method 250 94 (.agg #[]) "loop.example/g00911/impl.at").run Tryz.prog w = .ok (116, .agg #[]) w := by kernel_rfl
theorem enter_right (a b c d : Value) (w : World) : (callFunc 118 #[a, b, c, d]).run Tryz.prog w = .ok (.enter 118 #[a, b, c, d]) w := by kernel_rfl
theorem enter_down (a b c d : Value) (w : World) : (callFunc 116 #[a, b, c, d]).run Tryz.prog w = .ok (.enter 116 #[a, b, c, d]) w := by kernel_rfl
set_option maxHeartbeats 1000000 in
theorem square_any (r c : Int) (d : Bool) (s : ByteArray) (i : Int) (w : World) (h1 : -1000 ≤ r ∧ r ≤ 1000) (h2 : -1000 ≤ c ∧ c ≤ 1000) (h3 : -1000 ≤ i ∧ i ≤ 1000) :
    Calls Tryz.prog 40 #[playV r c d s, .int .i64 i] w (Ret (sqV (sqR r d i) (sqC c d i)) w) := by
  cases d
  · go_enter Tryz.func40, Tryz.ntmps40
    go_wp2_with fail
    refine wp_region_flow_at (C := Ext) 9 [fun v _ => v = .pointer (some ⟨w.heap.size, 2, none⟩), fun v _ => v = .bool false, fun v _ => v = .iface 95 (.agg #[]), fun v _ => v = .pointer (some ⟨w.heap.size, 0, none⟩), fun v _ => v = .int .i64 r, fun v _ => v = .pointer (some ⟨w.heap.size, 1, none⟩), fun v _ => v = .int .i64 c, fun v _ => v = .int .i64 i, fun v _ => v = sqV r (c + i)]
      [[(2, none)], [(5, some 0)], [(6, some 1)], [(2, none)], [(8, some 3)], [(2, none)], [(10, some 5)], [(1, none)], [(7, some 2), (9, some 4), (11, some 6), (12, some 7)]] (by kernel_rfl) (by kernel_rfl) Ext.refl (fun _ _ _ => Ext.trans) ?_ ?_ ?_
    · intro F hF
      simp only [List.mem_cons, List.not_mem_nil, or_false] at hF
      rcases hF with rfl | rfl | rfl | rfl | rfl | rfl | rfl | rfl | rfl <;> exact fun _ _ _ h _ => h
    · refine ⟨?_, ?_, ?_, ?_, ?_, ?_, ?_, ?_, ?_, trivial⟩
      · rintro ρ w1 hw hcst hfn hk
        clear hw
        simp only [known, List.getD_cons_zero, List.getD_cons_succ, Nat.reduceAdd] at hk
        simp only [List.getD_cons_zero, List.getD_cons_succ, Nat.reduceAdd, flowAt]
        go_simp
        exact ⟨Ext.refl _, by first | rfl | trivial⟩
      · rintro ρ w1 hw hcst hfn hk
        have c0 := hw.cell (b := w.heap.size) (o := 2) (v := .bool false) (by first | (simp [*]; done) | (simp [*, go_sem]; done) | go_cell)
        clear hw
        simp only [known, List.getD_cons_zero, List.getD_cons_succ, Nat.reduceAdd] at hk
        simp only [List.getD_cons_zero, List.getD_cons_succ, Nat.reduceAdd, flowAt]
        go_simp
        exact ⟨Ext.refl _, by first | rfl | trivial⟩
      · rintro ρ w1 hw hcst hfn hk
        simp only [known, List.getD_cons_zero, List.getD_cons_succ, Nat.reduceAdd] at hk
        simp only [List.getD_cons_zero, List.getD_cons_succ, Nat.reduceAdd, flowAt]
        go_simp
        exact flow_same (directionOf_any false _)
      · rintro ρ w1 hw hcst hfn hk
        clear hw
        simp only [known, List.getD_cons_zero, List.getD_cons_succ, Nat.reduceAdd] at hk
        simp only [List.getD_cons_zero, List.getD_cons_succ, Nat.reduceAdd, flowAt]
        go_simp
        exact ⟨Ext.refl _, by first | rfl | trivial⟩
      · rintro ρ w1 hw hcst hfn hk
        have c0 := hw.cell (b := w.heap.size) (o := 0) (v := .int .i64 r) (by first | (simp [*]; done) | (simp [*, go_sem]; done) | go_cell)
        clear hw
        simp only [known, List.getD_cons_zero, List.getD_cons_succ, Nat.reduceAdd] at hk
        simp only [List.getD_cons_zero, List.getD_cons_succ, Nat.reduceAdd, flowAt]
        go_simp
        exact ⟨Ext.refl _, by first | rfl | trivial⟩
      · rintro ρ w1 hw hcst hfn hk
        clear hw
        simp only [known, List.getD_cons_zero, List.getD_cons_succ, Nat.reduceAdd] at hk
        simp only [List.getD_cons_zero, List.getD_cons_succ, Nat.reduceAdd, flowAt]
        go_simp
        exact ⟨Ext.refl _, by first | rfl | trivial⟩
      · rintro ρ w1 hw hcst hfn hk
        have c0 := hw.cell (b := w.heap.size) (o := 1) (v := .int .i64 c) (by first | (simp [*]; done) | (simp [*, go_sem]; done) | go_cell)
        clear hw
        simp only [known, List.getD_cons_zero, List.getD_cons_succ, Nat.reduceAdd] at hk
        simp only [List.getD_cons_zero, List.getD_cons_succ, Nat.reduceAdd, flowAt]
        go_simp
        exact ⟨Ext.refl _, by first | rfl | trivial⟩
      · rintro ρ w1 hw hcst hfn hk
        clear hw
        simp only [known, List.getD_cons_zero, List.getD_cons_succ, Nat.reduceAdd] at hk
        simp only [List.getD_cons_zero, List.getD_cons_succ, Nat.reduceAdd, flowAt]
        go_simp
        exact ⟨Ext.refl _, by first | rfl | trivial⟩
      · rintro ρ w1 hw hcst hfn hk
        simp only [known, List.getD_cons_zero, List.getD_cons_succ, Nat.reduceAdd] at hk
        simp only [List.getD_cons_zero, List.getD_cons_succ, Nat.reduceAdd, flowAt]
        go_simp
        (rw [meth_right]; simp only [Result.andThen_ok, enter_right]; exact flow_ret (rightAt_any _ _ _ _ h1 h2 h3))
    intro vs w1 hw hf
    simp only [flowFacts, Nat.reduceAdd] at hf
    obtain ⟨e0, e1, e2, e3, e4, e5, e6, e7, e8, -⟩ := hf
    simp only [List.take_succ_cons, List.take_zero, List.drop_succ_cons, List.drop_zero, putAll, Act.put, Nat.reduceAdd, List.setIfInBounds_toArray, List.set_cons_zero, List.set_cons_succ, e0, e1, e2, e3, e4, e5, e6, e7, e8]
    clear e0 e1 e2 e3 e4 e5 e6 e7 e8
    have r0 := hw.cell (b := w.heap.size + 1) (o := 0) (v := .int .i64 0) (by simp)
    have r1 := hw.cell (b := w.heap.size + 1) (o := 1) (v := .int .i64 0) (by simp)
    have xf : ∀ j, w1.frozen? ⟨w.heap.size + 1, j, none⟩ = false := fun j => by rw [hw.cells.2 _ _ (by simp)]; simp
    have hE : Ext w w1 := (((Ext.refl w).alloc _).alloc _).drew.trans hw
    clear hw
    go_wp2_with fail
    refine bodyPost_ret (v := sqV r (c + i)) (by simp [results, Tryz.results40, go_sem, *]) rfl ⟨rfl, (hE.setCell (by simp) _).setCell (by simp) _⟩
  · go_enter Tryz.func40, Tryz.ntmps40
    go_wp2_with fail
    refine wp_region_flow_at (C := Ext) 9 [fun v _ => v = .pointer (some ⟨w.heap.size, 2, none⟩), fun v _ => v = .bool true, fun v _ => v = .iface 94 (.agg #[]), fun v _ => v = .pointer (some ⟨w.heap.size, 0, none⟩), fun v _ => v = .int .i64 r, fun v _ => v = .pointer (some ⟨w.heap.size, 1, none⟩), fun v _ => v = .int .i64 c, fun v _ => v = .int .i64 i, fun v _ => v = sqV (r + i) c]
      [[(2, none)], [(5, some 0)], [(6, some 1)], [(2, none)], [(8, some 3)], [(2, none)], [(10, some 5)], [(1, none)], [(7, some 2), (9, some 4), (11, some 6), (12, some 7)]] (by kernel_rfl) (by kernel_rfl) Ext.refl (fun _ _ _ => Ext.trans) ?_ ?_ ?_
    · intro F hF
      simp only [List.mem_cons, List.not_mem_nil, or_false] at hF
      rcases hF with rfl | rfl | rfl | rfl | rfl | rfl | rfl | rfl | rfl <;> exact fun _ _ _ h _ => h
    · refine ⟨?_, ?_, ?_, ?_, ?_, ?_, ?_, ?_, ?_, trivial⟩
      · rintro ρ w1 hw hcst hfn hk
        clear hw
        simp only [known, List.getD_cons_zero, List.getD_cons_succ, Nat.reduceAdd] at hk
        simp only [List.getD_cons_zero, List.getD_cons_succ, Nat.reduceAdd, flowAt]
        go_simp
        exact ⟨Ext.refl _, by first | rfl | trivial⟩
      · rintro ρ w1 hw hcst hfn hk
        have c0 := hw.cell (b := w.heap.size) (o := 2) (v := .bool true) (by first | (simp [*]; done) | (simp [*, go_sem]; done) | go_cell)
        clear hw
        simp only [known, List.getD_cons_zero, List.getD_cons_succ, Nat.reduceAdd] at hk
        simp only [List.getD_cons_zero, List.getD_cons_succ, Nat.reduceAdd, flowAt]
        go_simp
        exact ⟨Ext.refl _, by first | rfl | trivial⟩
      · rintro ρ w1 hw hcst hfn hk
        simp only [known, List.getD_cons_zero, List.getD_cons_succ, Nat.reduceAdd] at hk
        simp only [List.getD_cons_zero, List.getD_cons_succ, Nat.reduceAdd, flowAt]
        go_simp
        exact flow_same (directionOf_any true _)
      · rintro ρ w1 hw hcst hfn hk
        clear hw
        simp only [known, List.getD_cons_zero, List.getD_cons_succ, Nat.reduceAdd] at hk
        simp only [List.getD_cons_zero, List.getD_cons_succ, Nat.reduceAdd, flowAt]
        go_simp
        exact ⟨Ext.refl _, by first | rfl | trivial⟩
      · rintro ρ w1 hw hcst hfn hk
        have c0 := hw.cell (b := w.heap.size) (o := 0) (v := .int .i64 r) (by first | (simp [*]; done) | (simp [*, go_sem]; done) | go_cell)
        clear hw
        simp only [known, List.getD_cons_zero, List.getD_cons_succ, Nat.reduceAdd] at hk
        simp only [List.getD_cons_zero, List.getD_cons_succ, Nat.reduceAdd, flowAt]
        go_simp
        exact ⟨Ext.refl _, by first | rfl | trivial⟩
      · rintro ρ w1 hw hcst hfn hk
        clear hw
        simp only [known, List.getD_cons_zero, List.getD_cons_succ, Nat.reduceAdd] at hk
        simp only [List.getD_cons_zero, List.getD_cons_succ, Nat.reduceAdd, flowAt]
        go_simp
        exact ⟨Ext.refl _, by first | rfl | trivial⟩
      · rintro ρ w1 hw hcst hfn hk
        have c0 := hw.cell (b := w.heap.size) (o := 1) (v := .int .i64 c) (by first | (simp [*]; done) | (simp [*, go_sem]; done) | go_cell)
        clear hw
        simp only [known, List.getD_cons_zero, List.getD_cons_succ, Nat.reduceAdd] at hk
        simp only [List.getD_cons_zero, List.getD_cons_succ, Nat.reduceAdd, flowAt]
        go_simp
        exact ⟨Ext.refl _, by first | rfl | trivial⟩
      · rintro ρ w1 hw hcst hfn hk
        clear hw
        simp only [known, List.getD_cons_zero, List.getD_cons_succ, Nat.reduceAdd] at hk
        simp only [List.getD_cons_zero, List.getD_cons_succ, Nat.reduceAdd, flowAt]
        go_simp
        exact ⟨Ext.refl _, by first | rfl | trivial⟩
      · rintro ρ w1 hw hcst hfn hk
        simp only [known, List.getD_cons_zero, List.getD_cons_succ, Nat.reduceAdd] at hk
        simp only [List.getD_cons_zero, List.getD_cons_succ, Nat.reduceAdd, flowAt]
        go_simp
        (rw [meth_down]; simp only [Result.andThen_ok, enter_down]; exact flow_ret (downAt_any _ _ _ _ h1 h2 h3))
    intro vs w1 hw hf
    simp only [flowFacts, Nat.reduceAdd] at hf
    obtain ⟨e0, e1, e2, e3, e4, e5, e6, e7, e8, -⟩ := hf
    simp only [List.take_succ_cons, List.take_zero, List.drop_succ_cons, List.drop_zero, putAll, Act.put, Nat.reduceAdd, List.setIfInBounds_toArray, List.set_cons_zero, List.set_cons_succ, e0, e1, e2, e3, e4, e5, e6, e7, e8]
    clear e0 e1 e2 e3 e4 e5 e6 e7 e8
    have r0 := hw.cell (b := w.heap.size + 1) (o := 0) (v := .int .i64 0) (by simp)
    have r1 := hw.cell (b := w.heap.size + 1) (o := 1) (v := .int .i64 0) (by simp)
    have xf : ∀ j, w1.frozen? ⟨w.heap.size + 1, j, none⟩ = false := fun j => by rw [hw.cells.2 _ _ (by simp)]; simp
    have hE : Ext w w1 := (((Ext.refl w).alloc _).alloc _).drew.trans hw
    clear hw
    go_wp2_with fail
    refine bodyPost_ret (v := sqV (r + i) c) (by simp [results, Tryz.results40, go_sem, *]) rfl ⟨rfl, (hE.setCell (by simp) _).setCell (by simp) _⟩
theorem on_any (n : Int) (p c : ByteArray) (i j : Int) (w : World) (h1 : 5 ≤ n) (h2 : n ≤ 15) (hc : (c.size : Int) = n * n) :
    Calls Tryz.prog 41 #[boardV n p c, sqV i j] w (Ret (.bool (letB (sqAt n c i j))) w) := by
  have HC := hid hc
  clear hc
  go_enter Tryz.func41, Tryz.ntmps41
  go_wp2_with fail
  refine (letter_any n p c i j _ h1 h2 HC.out).mono ?_
  rintro e w1 ⟨rfl, hx⟩
  go_wp2_with fail
  go_returns
  exact ⟨rfl, (((Ext.refl w).alloc _).alloc _).trans hx⟩
end Go.Proofs.YtcgedkpbobgkhaaGreatDoor
