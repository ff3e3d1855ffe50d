/- Plays that are valid on a valid board, by the reference. Conditions: at most 2^20 bytes. -/
import Derived.Test.YtcgedkpbobgkhaaGreatDoorCh12c
namespace Go.Proofs.YtcgedkpbobgkhaaGreatDoor
set_option linter.unusedVariables false
set_option linter.unusedSimpArgs false
open Go Go.RowKit
/-- A play lies at an address. -/
def flatS (d : Bool) (n : Nat) (s : ByteArray) : ByteArray := if d then turnS n s else s
def flatR (d : Bool) (r c : Int) : Int := if d then c else r
def flatC (d : Bool) (r c : Int) : Int := if d then r else c
theorem flatS_size (d : Bool) (n : Nat) (s : ByteArray) (h : s.size = n * n) : (flatS d n s).size = n * n := by
  cases d
  · exact h
  · exact turnS_size n s
theorem flat_at (d : Bool) (n : Nat) (cs : ByteArray) (r c : Int) (i : Int) : sqAt n (flatS d n cs) (flatR d r c) (flatC d r c + i) = plAt n cs r c d i := by
  cases d
  · rfl
  · exact sqAt_turn n cs _ _
theorem flat_in (d : Bool) (n r c : Int) : inRC n (flatR d r c) (flatC d r c) = inRC n r c := by
  cases d
  · rfl
  · exact inRC_comm n c r
theorem flat_lim (d : Bool) (r c : Int) : flatC d r c = if d then r else c := by cases d <;> rfl
def flatV (d : Bool) (n : Nat) (p cs : ByteArray) (r c : Int) (s : ByteArray) : Value := .tuple #[boardV n (flatS d n p) (flatS d n cs), playV (flatR d r c) (flatC d r c) false s]
set_option maxHeartbeats 1000000 in
theorem l12Flat_any (b o : Nat) (n : Nat) (p cs : ByteArray) (r c : Int) (d : Bool) (s : ByteArray) (w : World) (hB : BdAt w b o n p cs) (hp : p.size = n * n) (hc : cs.size = n * n) (h1 : 5 ≤ n) (h2 : n ≤ 15) :
    Calls Tryz.prog 20 #[.pointer (some ⟨b, o, none⟩), playV r c d s] w (Ret (flatV d n p cs r c s) w) := by
  have HP := hid hp
  have HC := hid hc
  have HB := hid hB
  clear hp hc
  obtain ⟨c0, c1, c2⟩ := hB
  have lt0 := World.block_lt_of_cell? _ _ c0
  cases d
  · go_enter Tryz.func20, Tryz.ntmps20
    go_wp2_with fail
    have hX : Ext w (((w.alloc (.cells #[.int .i64 r, .int .i64 c, .bool false, .string s] 38)).alloc (.cells #[.int .i64 0, .string ⟨#[]⟩, .string ⟨#[]⟩] 36)).alloc (.cells #[.int .i64 0, .int .i64 0, .bool false, .string ⟨#[]⟩] 38)) := (((Ext.refl w).alloc _).alloc _).alloc _
    have p0 : (((w.alloc (.cells #[.int .i64 r, .int .i64 c, .bool false, .string s] 38)).alloc (.cells #[.int .i64 0, .string ⟨#[]⟩, .string ⟨#[]⟩] 36)).alloc (.cells #[.int .i64 0, .int .i64 0, .bool false, .string ⟨#[]⟩] 38)).cell? ⟨w.heap.size, 0, none⟩ = some (.int .i64 r) := by go_cell
    have p1 : (((w.alloc (.cells #[.int .i64 r, .int .i64 c, .bool false, .string s] 38)).alloc (.cells #[.int .i64 0, .string ⟨#[]⟩, .string ⟨#[]⟩] 36)).alloc (.cells #[.int .i64 0, .int .i64 0, .bool false, .string ⟨#[]⟩] 38)).cell? ⟨w.heap.size, 1, none⟩ = some (.int .i64 c) := by go_cell
    have p2 : (((w.alloc (.cells #[.int .i64 r, .int .i64 c, .bool false, .string s] 38)).alloc (.cells #[.int .i64 0, .string ⟨#[]⟩, .string ⟨#[]⟩] 36)).alloc (.cells #[.int .i64 0, .int .i64 0, .bool false, .string ⟨#[]⟩] 38)).cell? ⟨w.heap.size, 2, none⟩ = some (.bool false) := by go_cell
    have p3 : (((w.alloc (.cells #[.int .i64 r, .int .i64 c, .bool false, .string s] 38)).alloc (.cells #[.int .i64 0, .string ⟨#[]⟩, .string ⟨#[]⟩] 36)).alloc (.cells #[.int .i64 0, .int .i64 0, .bool false, .string ⟨#[]⟩] 38)).cell? ⟨w.heap.size, 3, none⟩ = some (.string s) := by go_cell
    have u0 : (((w.alloc (.cells #[.int .i64 r, .int .i64 c, .bool false, .string s] 38)).alloc (.cells #[.int .i64 0, .string ⟨#[]⟩, .string ⟨#[]⟩] 36)).alloc (.cells #[.int .i64 0, .int .i64 0, .bool false, .string ⟨#[]⟩] 38)).cell? ⟨w.heap.size + 1, 0, none⟩ = some (.int .i64 0) := by go_cell
    have u1 : (((w.alloc (.cells #[.int .i64 r, .int .i64 c, .bool false, .string s] 38)).alloc (.cells #[.int .i64 0, .string ⟨#[]⟩, .string ⟨#[]⟩] 36)).alloc (.cells #[.int .i64 0, .int .i64 0, .bool false, .string ⟨#[]⟩] 38)).cell? ⟨w.heap.size + 1, 1, none⟩ = some (.string ⟨#[]⟩) := by go_cell
    have u2 : (((w.alloc (.cells #[.int .i64 r, .int .i64 c, .bool false, .string s] 38)).alloc (.cells #[.int .i64 0, .string ⟨#[]⟩, .string ⟨#[]⟩] 36)).alloc (.cells #[.int .i64 0, .int .i64 0, .bool false, .string ⟨#[]⟩] 38)).cell? ⟨w.heap.size + 1, 2, none⟩ = some (.string ⟨#[]⟩) := by go_cell
    have v0 : (((w.alloc (.cells #[.int .i64 r, .int .i64 c, .bool false, .string s] 38)).alloc (.cells #[.int .i64 0, .string ⟨#[]⟩, .string ⟨#[]⟩] 36)).alloc (.cells #[.int .i64 0, .int .i64 0, .bool false, .string ⟨#[]⟩] 38)).cell? ⟨w.heap.size + 2, 0, none⟩ = some (.int .i64 0) := by go_cell
    have v1 : (((w.alloc (.cells #[.int .i64 r, .int .i64 c, .bool false, .string s] 38)).alloc (.cells #[.int .i64 0, .string ⟨#[]⟩, .string ⟨#[]⟩] 36)).alloc (.cells #[.int .i64 0, .int .i64 0, .bool false, .string ⟨#[]⟩] 38)).cell? ⟨w.heap.size + 2, 1, none⟩ = some (.int .i64 0) := by go_cell
    have v2 : (((w.alloc (.cells #[.int .i64 r, .int .i64 c, .bool false, .string s] 38)).alloc (.cells #[.int .i64 0, .string ⟨#[]⟩, .string ⟨#[]⟩] 36)).alloc (.cells #[.int .i64 0, .int .i64 0, .bool false, .string ⟨#[]⟩] 38)).cell? ⟨w.heap.size + 2, 2, none⟩ = some (.bool false) := by go_cell
    have v3 : (((w.alloc (.cells #[.int .i64 r, .int .i64 c, .bool false, .string s] 38)).alloc (.cells #[.int .i64 0, .string ⟨#[]⟩, .string ⟨#[]⟩] 36)).alloc (.cells #[.int .i64 0, .int .i64 0, .bool false, .string ⟨#[]⟩] 38)).cell? ⟨w.heap.size + 2, 3, none⟩ = some (.string ⟨#[]⟩) := by go_cell
    have fu : ∀ j, (((w.alloc (.cells #[.int .i64 r, .int .i64 c, .bool false, .string s] 38)).alloc (.cells #[.int .i64 0, .string ⟨#[]⟩, .string ⟨#[]⟩] 36)).alloc (.cells #[.int .i64 0, .int .i64 0, .bool false, .string ⟨#[]⟩] 38)).frozen? ⟨w.heap.size + 1, j, none⟩ = false := fun j => by go_cell
    have fv : ∀ j, (((w.alloc (.cells #[.int .i64 r, .int .i64 c, .bool false, .string s] 38)).alloc (.cells #[.int .i64 0, .string ⟨#[]⟩, .string ⟨#[]⟩] 36)).alloc (.cells #[.int .i64 0, .int .i64 0, .bool false, .string ⟨#[]⟩] 38)).frozen? ⟨w.heap.size + 2, j, none⟩ = false := fun j => by go_cell
    generalize (((w.alloc (.cells #[.int .i64 r, .int .i64 c, .bool false, .string s] 38)).alloc (.cells #[.int .i64 0, .string ⟨#[]⟩, .string ⟨#[]⟩] 36)).alloc (.cells #[.int .i64 0, .int .i64 0, .bool false, .string ⟨#[]⟩] 38)) = W at hX p0 p1 p2 p3 u0 u1 u2 v0 v1 v2 v3 fu fv ⊢
    replace c0 := hX.cell c0
    replace c1 := hX.cell c1
    replace c2 := hX.cell c2
    have n1 : b ≠ w.heap.size + 1 := by omega
    have n2 : b ≠ w.heap.size + 2 := by omega
    go_region
    all_goals
      go_wp2_with fail
      refine bodyPost_ret (v := .tuple #[boardV n p cs, playV r c false s]) (by simp [results, Tryz.results20, go_sem, *]) rfl ⟨rfl, ?_⟩
      exact (((((((hX.setCell (by simp) _).setCell (by simp) _).setCell (by simp) _).setCell (by simp only []; omega) _).setCell (by simp only []; omega) _).setCell (by simp only []; omega) _).setCell (by simp only []; omega) _).drew
  · go_enter Tryz.func20, Tryz.ntmps20
    go_wp2_with fail
    refine wp_region_flow_at (C := Ext) 4 [fun v _ => v = .pointer (some ⟨b, o, none⟩), fun v _ => v = boardV n (turnS n p) (turnS n cs), fun v _ => v = .agg #[.int .i64 r, .int .i64 c, .bool true, .string s], fun v _ => v = playV c r (!true) s]
      [[(0, none)], [(8, some 0)], [(3, none)], [(10, some 2)]] (by kernel_rfl) (by kernel_rfl) Ext.refl (fun _ _ _ => Ext.trans) ?_ ?_ ?_
    · intro F hF
      simp only [List.mem_cons, List.not_mem_nil, or_false] at hF
      rcases hF with rfl | rfl | rfl | rfl <;> exact fun _ _ _ h _ => h
    · refine ⟨?_, ?_, ?_, ?_, trivial⟩
      · rintro ρ w1 hw hcst hfn hk
        clear hw
        simp only [known, List.getD_cons_zero, List.getD_cons_succ, Nat.reduceAdd] at hk
        simp only [List.getD_cons_zero, List.getD_cons_succ, Nat.reduceAdd, flowAt]
        go_simp
        exact ⟨Ext.refl _, by first | rfl | trivial⟩
      · rintro ρ w1 hw hcst hfn hk
        simp only [known, List.getD_cons_zero, List.getD_cons_succ, Nat.reduceAdd] at hk
        simp only [List.getD_cons_zero, List.getD_cons_succ, Nat.reduceAdd, flowAt]
        go_simp
        exact flow_ret (l11Transpose_any b o n p cs _ (HB.out.ext (((((Ext.refl w).alloc _).alloc _).alloc _).drew.trans hw)) HP.out HC.out h1 h2)
      · rintro ρ w1 hw hcst hfn hk
        have c0 := hw.cell (b := w.heap.size) (o := 0) (v := .int .i64 r) (by first | (simp [*]; done) | (simp [*, go_sem]; done) | go_cell)
        have c1 := hw.cell (b := w.heap.size) (o := 1) (v := .int .i64 c) (by first | (simp [*]; done) | (simp [*, go_sem]; done) | go_cell)
        have c2 := hw.cell (b := w.heap.size) (o := 2) (v := .bool true) (by first | (simp [*]; done) | (simp [*, go_sem]; done) | go_cell)
        have c3 := hw.cell (b := w.heap.size) (o := 3) (v := .string s) (by first | (simp [*]; done) | (simp [*, go_sem]; done) | go_cell)
        clear hw
        simp only [known, List.getD_cons_zero, List.getD_cons_succ, Nat.reduceAdd] at hk
        simp only [List.getD_cons_zero, List.getD_cons_succ, Nat.reduceAdd, flowAt]
        go_simp
        exact ⟨Ext.refl _, by first | rfl | trivial⟩
      · rintro ρ w1 hw hcst hfn hk
        simp only [known, List.getD_cons_zero, List.getD_cons_succ, Nat.reduceAdd] at hk
        simp only [List.getD_cons_zero, List.getD_cons_succ, Nat.reduceAdd, flowAt]
        go_simp
        exact flow_ret (l12Turn_any _ _ _ _ _)
    intro vs w1 hw hf
    simp only [flowFacts, Nat.reduceAdd] at hf
    obtain ⟨e0, e1, e2, e3, -⟩ := hf
    simp only [List.take_succ_cons, List.take_zero, List.drop_succ_cons, List.drop_zero, putAll, Act.put, Nat.reduceAdd, List.setIfInBounds_toArray, List.set_cons_zero, List.set_cons_succ, e0, e1, e2, e3]
    clear e0 e1 e2 e3
    have u0 := hw.cell (b := w.heap.size + 1) (o := 0) (v := .int .i64 0) (by go_cell)
    have u1 := hw.cell (b := w.heap.size + 1) (o := 1) (v := .string ⟨#[]⟩) (by go_cell)
    have u2 := hw.cell (b := w.heap.size + 1) (o := 2) (v := .string ⟨#[]⟩) (by go_cell)
    have v0 := hw.cell (b := w.heap.size + 2) (o := 0) (v := .int .i64 0) (by go_cell)
    have v1 := hw.cell (b := w.heap.size + 2) (o := 1) (v := .int .i64 0) (by go_cell)
    have v2 := hw.cell (b := w.heap.size + 2) (o := 2) (v := .bool false) (by go_cell)
    have v3 := hw.cell (b := w.heap.size + 2) (o := 3) (v := .string ⟨#[]⟩) (by go_cell)
    have fu : ∀ j, w1.frozen? ⟨w.heap.size + 1, j, none⟩ = false := fun j => by rw [hw.cells.2 _ _ (by simp)]; go_cell
    have fv : ∀ j, w1.frozen? ⟨w.heap.size + 2, j, none⟩ = false := fun j => by rw [hw.cells.2 _ _ (by simp)]; go_cell
    have hX : Ext w w1 := ((((Ext.refl w).alloc _).alloc _).alloc _).drew.trans hw
    clear hw
    go_wp2_with fail
    refine bodyPost_ret (v := .tuple #[boardV n (turnS n p) (turnS n cs), playV c r false s]) (by simp [results, Tryz.results20, go_sem, *]) rfl ⟨rfl, ?_⟩
    exact (((((((hX.setCell (by simp) _).setCell (by simp) _).setCell (by simp) _).setCell (by simp only []; omega) _).setCell (by simp only []; omega) _).setCell (by simp only []; omega) _).setCell (by simp only []; omega) _)
def fullB (n : Int) (cs : ByteArray) (r c : Int) : Bool := inRC n r c && decide (sqAt n cs r c ≠ 46)
def fitsF (n : Int) (cs : ByteArray) (r c : Int) (s : ByteArray) : Bool :=
  inRC n r c && (decide (c + s.size ≤ n) && (!fullB n cs r (c - 1) && (!fullB n cs r (c + s.size) && fitB (fun i => sqAt n cs r (c + (i : Nat))) s)))
set_option maxHeartbeats 2000000 in
theorem l12Fits_any (b o : Nat) (n : Int) (p cs : ByteArray) (r c : Int) (s : ByteArray) (w : World) (hB : BdAt w b o n p cs) (h1 : 5 ≤ n) (h2 : n ≤ 15) (hc : (cs.size : Int) = n * n) (m1 : 2 ≤ s.size) (m2 : s.size ≤ 12) :
    Calls Tryz.prog 29 #[.pointer (some ⟨b, o, none⟩), playV r c false s] w (Ret (.bool (fitsF n cs r c s)) w) := by
  have H : Hid (fitsF n cs r c s = (inRC n r c && (decide (c + s.size ≤ n) && (!fullB n cs r (c - 1) && (!fullB n cs r (c + s.size) && fitB (fun i => sqAt n cs r (c + (i : Nat))) s))))) := hid rfl
  have HB : Hid (∀ w', Ext w w' → BdAt w' b o n p cs) := hid (fun w' k => hB.ext k)
  have HC := hid hc
  have HI := hid (fun w' (k : Ext w w') => l11In_any b o n p cs r c w' (hB.ext k) h1 h2)
  have HF1 := hid (fun w' (k : Ext w w') => l11Full_any b o n p cs r (c - 1) w' (hB.ext k) h1 h2 hc)
  have HF2 := hid (fun w' (k : Ext w w') => l11Full_any b o n p cs r (c + s.size) w' (hB.ext k) h1 h2 hc)
  change Hid (∀ w', Ext w w' → Calls Tryz.prog 49 _ w' fun e w'' => e = .returned (.bool (fullB n cs r (c - 1))) ∧ _) at HF1
  change Hid (∀ w', Ext w w' → Calls Tryz.prog 49 _ w' fun e w'' => e = .returned (.bool (fullB n cs r (c + s.size))) ∧ _) at HF2
  obtain ⟨c0, c1, c2⟩ := hB
  have lt0 := World.block_lt_of_cell? _ _ c0
  clear hc
  cases hr : inRC n r c
  · rw [hr] at HI H
    clear hr
    go_enter Tryz.func29, Tryz.ntmps29
    go_wp2_with fail
    have hX : Ext w (w.alloc (.cells #[.int .i64 r, .int .i64 c, .bool false, .string s] 38)) := (Ext.refl w).alloc _
    refine wp_region_flow_at (C := Ext) 37 [fun v _ => v = .pointer (some ⟨b, o, none⟩), fun v _ => v = .pointer (some ⟨w.heap.size, 0, none⟩), fun v _ => v = .int .i64 r, fun v _ => v = .pointer (some ⟨w.heap.size, 1, none⟩), fun v _ => v = .int .i64 c, fun v _ => v = .bool false, fun v _ => v = .bool true, fun v _ => v = .bool true, fun v _ => v = undef, fun v _ => v = undef, fun v _ => v = undef, fun v _ => v = undef, fun v _ => v = undef, fun v _ => v = undef, fun v _ => v = undef, fun v _ => v = undef, fun v _ => v = undef, fun v _ => v = .bool true, fun v _ => v = .bool true, fun v _ => v = undef, fun v _ => v = undef, fun v _ => v = undef, fun v _ => v = undef, fun v _ => v = undef, fun v _ => v = undef, fun v _ => v = undef, fun v _ => v = .bool true, fun v _ => v = .bool true, fun v _ => v = undef, fun v _ => v = undef, fun v _ => v = undef, fun v _ => v = undef, fun v _ => v = undef, fun v _ => v = undef, fun v _ => v = undef, fun v _ => v = undef, fun v _ => v = .bool true]
      [[(0, none)], [(3, none)], [(13, some 1)], [(3, none)], [(15, some 3)], [(12, some 0), (14, some 2), (16, some 4)], [(17, some 5)], [(18, some 6)], [(3, none)], [(20, some 8)], [(5, none)], [(21, some 9), (22, some 10)], [(0, none)], [(24, some 12)], [(25, some 13)], [(26, some 14)], [(23, some 11), (27, some 15)], [(19, some 7), (28, some 16)], [(29, some 17)], [(0, none)], [(3, none)], [(32, some 20)], [(3, none)], [(34, some 22)], [(35, some 23)], [(31, some 19), (33, some 21), (36, some 24)], [(30, some 18), (37, some 25)], [(38, some 26)], [(0, none)], [(3, none)], [(41, some 29)], [(3, none)], [(43, some 31)], [(5, none)], [(44, some 32), (45, some 33)], [(40, some 28), (42, some 30), (46, some 34)], [(39, some 27), (47, some 35)]] (by kernel_rfl) (by kernel_rfl) Ext.refl (fun _ _ _ => Ext.trans) ?_ ?_ ?_
    · intro F hF
      simp only [List.mem_cons, List.not_mem_nil, or_false] at hF
      rcases hF with rfl | rfl | rfl | rfl | rfl | rfl | rfl | rfl | rfl | rfl | rfl | rfl | rfl | rfl | rfl | rfl | rfl | rfl | rfl | rfl | rfl | rfl | rfl | rfl | rfl | rfl | rfl | rfl | rfl | rfl | rfl | rfl | rfl | rfl | rfl | rfl | rfl <;> exact fun _ _ _ h _ => h
    · refine ⟨?_, ?_, ?_, ?_, ?_, ?_, ?_, ?_, ?_, ?_, ?_, ?_, ?_, ?_, ?_, ?_, ?_, ?_, ?_, ?_, ?_, ?_, ?_, ?_, ?_, ?_, ?_, ?_, ?_, ?_, ?_, ?_, ?_, ?_, ?_, ?_, ?_, trivial⟩
      · rintro ρ w1 hw hcst hfn hk
        clear hw
        simp only [known, List.getD_cons_zero, List.getD_cons_succ, Nat.reduceAdd] at hk
        simp only [List.getD_cons_zero, List.getD_cons_succ, Nat.reduceAdd, flowAt]
        go_simp
        exact ⟨Ext.refl _, by first | rfl | trivial⟩
      · rintro ρ w1 hw hcst hfn hk
        clear hw
        simp only [known, List.getD_cons_zero, List.getD_cons_succ, Nat.reduceAdd] at hk
        simp only [List.getD_cons_zero, List.getD_cons_succ, Nat.reduceAdd, flowAt]
        go_simp
        exact ⟨Ext.refl _, by first | rfl | trivial⟩
      · rintro ρ w1 hw hcst hfn hk
        have c0 := hw.cell (b := w.heap.size) (o := 0) (v := .int .i64 r) (by first | (simp [*]; done) | (simp [*, go_sem]; done) | go_cell)
        clear hw
        simp only [known, List.getD_cons_zero, List.getD_cons_succ, Nat.reduceAdd] at hk
        simp only [List.getD_cons_zero, List.getD_cons_succ, Nat.reduceAdd, flowAt]
        go_simp
        exact ⟨Ext.refl _, by first | rfl | trivial⟩
      · rintro ρ w1 hw hcst hfn hk
        clear hw
        simp only [known, List.getD_cons_zero, List.getD_cons_succ, Nat.reduceAdd] at hk
        simp only [List.getD_cons_zero, List.getD_cons_succ, Nat.reduceAdd, flowAt]
        go_simp
        exact ⟨Ext.refl _, by first | rfl | trivial⟩
      · rintro ρ w1 hw hcst hfn hk
        have c0 := hw.cell (b := w.heap.size) (o := 1) (v := .int .i64 c) (by first | (simp [*]; done) | (simp [*, go_sem]; done) | go_cell)
        clear hw
        simp only [known, List.getD_cons_zero, List.getD_cons_succ, Nat.reduceAdd] at hk
        simp only [List.getD_cons_zero, List.getD_cons_succ, Nat.reduceAdd, flowAt]
        go_simp
        exact ⟨Ext.refl _, by first | rfl | trivial⟩
      · rintro ρ w1 hw hcst hfn hk
        simp only [known, List.getD_cons_zero, List.getD_cons_succ, Nat.reduceAdd] at hk
        simp only [List.getD_cons_zero, List.getD_cons_succ, Nat.reduceAdd, flowAt]
        go_simp
        exact flow_same (HI.out _ (hX.drew.trans hw))
      · rintro ρ w1 hw hcst hfn hk
        clear hw
        simp only [known, List.getD_cons_zero, List.getD_cons_succ, Nat.reduceAdd] at hk
        simp only [List.getD_cons_zero, List.getD_cons_succ, Nat.reduceAdd, flowAt]
        go_simp
        exact ⟨Ext.refl _, by first | rfl | trivial⟩
      · rintro ρ w1 hw hcst hfn hk
        clear hw
        simp only [known, List.getD_cons_zero, List.getD_cons_succ, Nat.reduceAdd] at hk
        simp only [List.getD_cons_zero, List.getD_cons_succ, Nat.reduceAdd, flowAt]
        go_simp
        exact ⟨Ext.refl _, by first | rfl | trivial⟩
      · rintro ρ w1 hw hcst hfn hk
        clear hw
        simp only [known, List.getD_cons_zero, List.getD_cons_succ, Nat.reduceAdd] at hk
        simp only [List.getD_cons_zero, List.getD_cons_succ, Nat.reduceAdd, flowAt]
        rintro vg rfl
        refine ⟨fun hg => ?_, fun hg => ?_⟩ <;> simp at hg
        first | exact trivial | exact rfl
      · rintro ρ w1 hw hcst hfn hk
        clear hw
        simp only [known, List.getD_cons_zero, List.getD_cons_succ, Nat.reduceAdd] at hk
        simp only [List.getD_cons_zero, List.getD_cons_succ, Nat.reduceAdd, flowAt]
        rintro vg rfl
        refine ⟨fun hg => ?_, fun hg => ?_⟩ <;> simp at hg
        first | exact trivial | exact rfl
      · rintro ρ w1 hw hcst hfn hk
        clear hw
        simp only [known, List.getD_cons_zero, List.getD_cons_succ, Nat.reduceAdd] at hk
        simp only [List.getD_cons_zero, List.getD_cons_succ, Nat.reduceAdd, flowAt]
        rintro vg rfl
        refine ⟨fun hg => ?_, fun hg => ?_⟩ <;> simp at hg
        first | exact trivial | exact rfl
      · rintro ρ w1 hw hcst hfn hk
        clear hw
        simp only [known, List.getD_cons_zero, List.getD_cons_succ, Nat.reduceAdd] at hk
        simp only [List.getD_cons_zero, List.getD_cons_succ, Nat.reduceAdd, flowAt]
        rintro vg rfl
        refine ⟨fun hg => ?_, fun hg => ?_⟩ <;> simp at hg
        first | exact trivial | exact rfl
      · rintro ρ w1 hw hcst hfn hk
        clear hw
        simp only [known, List.getD_cons_zero, List.getD_cons_succ, Nat.reduceAdd] at hk
        simp only [List.getD_cons_zero, List.getD_cons_succ, Nat.reduceAdd, flowAt]
        rintro vg rfl
        refine ⟨fun hg => ?_, fun hg => ?_⟩ <;> simp at hg
        first | exact trivial | exact rfl
      · rintro ρ w1 hw hcst hfn hk
        clear hw
        simp only [known, List.getD_cons_zero, List.getD_cons_succ, Nat.reduceAdd] at hk
        simp only [List.getD_cons_zero, List.getD_cons_succ, Nat.reduceAdd, flowAt]
        rintro vg rfl
        refine ⟨fun hg => ?_, fun hg => ?_⟩ <;> simp at hg
        first | exact trivial | exact rfl
      · rintro ρ w1 hw hcst hfn hk
        clear hw
        simp only [known, List.getD_cons_zero, List.getD_cons_succ, Nat.reduceAdd] at hk
        simp only [List.getD_cons_zero, List.getD_cons_succ, Nat.reduceAdd, flowAt]
        rintro vg rfl
        refine ⟨fun hg => ?_, fun hg => ?_⟩ <;> simp at hg
        first | exact trivial | exact rfl
      · rintro ρ w1 hw hcst hfn hk
        clear hw
        simp only [known, List.getD_cons_zero, List.getD_cons_succ, Nat.reduceAdd] at hk
        simp only [List.getD_cons_zero, List.getD_cons_succ, Nat.reduceAdd, flowAt]
        rintro vg rfl
        refine ⟨fun hg => ?_, fun hg => ?_⟩ <;> simp at hg
        first | exact trivial | exact rfl
      · rintro ρ w1 hw hcst hfn hk
        clear hw
        simp only [known, List.getD_cons_zero, List.getD_cons_succ, Nat.reduceAdd] at hk
        simp only [List.getD_cons_zero, List.getD_cons_succ, Nat.reduceAdd, flowAt]
        rintro vg rfl
        refine ⟨fun hg => ?_, fun hg => ?_⟩ <;> simp at hg
        first | exact trivial | exact rfl
      · rintro ρ w1 hw hcst hfn hk
        clear hw
        simp only [known, List.getD_cons_zero, List.getD_cons_succ, Nat.reduceAdd] at hk
        simp only [List.getD_cons_zero, List.getD_cons_succ, Nat.reduceAdd, flowAt]
        go_simp
        exact ⟨Ext.refl _, by first | rfl | trivial⟩
      · rintro ρ w1 hw hcst hfn hk
        clear hw
        simp only [known, List.getD_cons_zero, List.getD_cons_succ, Nat.reduceAdd] at hk
        simp only [List.getD_cons_zero, List.getD_cons_succ, Nat.reduceAdd, flowAt]
        go_simp
        exact ⟨Ext.refl _, by first | rfl | trivial⟩
      · rintro ρ w1 hw hcst hfn hk
        clear hw
        simp only [known, List.getD_cons_zero, List.getD_cons_succ, Nat.reduceAdd] at hk
        simp only [List.getD_cons_zero, List.getD_cons_succ, Nat.reduceAdd, flowAt]
        rintro vg rfl
        refine ⟨fun hg => ?_, fun hg => ?_⟩ <;> simp at hg
        first | exact trivial | exact rfl
      · rintro ρ w1 hw hcst hfn hk
        clear hw
        simp only [known, List.getD_cons_zero, List.getD_cons_succ, Nat.reduceAdd] at hk
        simp only [List.getD_cons_zero, List.getD_cons_succ, Nat.reduceAdd, flowAt]
        rintro vg rfl
        refine ⟨fun hg => ?_, fun hg => ?_⟩ <;> simp at hg
        first | exact trivial | exact rfl
      · rintro ρ w1 hw hcst hfn hk
        clear hw
        simp only [known, List.getD_cons_zero, List.getD_cons_succ, Nat.reduceAdd] at hk
        simp only [List.getD_cons_zero, List.getD_cons_succ, Nat.reduceAdd, flowAt]
        rintro vg rfl
        refine ⟨fun hg => ?_, fun hg => ?_⟩ <;> simp at hg
        first | exact trivial | exact rfl
      · rintro ρ w1 hw hcst hfn hk
        clear hw
        simp only [known, List.getD_cons_zero, List.getD_cons_succ, Nat.reduceAdd] at hk
        simp only [List.getD_cons_zero, List.getD_cons_succ, Nat.reduceAdd, flowAt]
        rintro vg rfl
        refine ⟨fun hg => ?_, fun hg => ?_⟩ <;> simp at hg
        first | exact trivial | exact rfl
      · rintro ρ w1 hw hcst hfn hk
        clear hw
        simp only [known, List.getD_cons_zero, List.getD_cons_succ, Nat.reduceAdd] at hk
        simp only [List.getD_cons_zero, List.getD_cons_succ, Nat.reduceAdd, flowAt]
        rintro vg rfl
        refine ⟨fun hg => ?_, fun hg => ?_⟩ <;> simp at hg
        first | exact trivial | exact rfl
      · rintro ρ w1 hw hcst hfn hk
        clear hw
        simp only [known, List.getD_cons_zero, List.getD_cons_succ, Nat.reduceAdd] at hk
        simp only [List.getD_cons_zero, List.getD_cons_succ, Nat.reduceAdd, flowAt]
        rintro vg rfl
        refine ⟨fun hg => ?_, fun hg => ?_⟩ <;> simp at hg
        first | exact trivial | exact rfl
      · rintro ρ w1 hw hcst hfn hk
        clear hw
        simp only [known, List.getD_cons_zero, List.getD_cons_succ, Nat.reduceAdd] at hk
        simp only [List.getD_cons_zero, List.getD_cons_succ, Nat.reduceAdd, flowAt]
        rintro vg rfl
        refine ⟨fun hg => ?_, fun hg => ?_⟩ <;> simp at hg
        first | exact trivial | exact rfl
      · rintro ρ w1 hw hcst hfn hk
        clear hw
        simp only [known, List.getD_cons_zero, List.getD_cons_succ, Nat.reduceAdd] at hk
        simp only [List.getD_cons_zero, List.getD_cons_succ, Nat.reduceAdd, flowAt]
        go_simp
        exact ⟨Ext.refl _, by first | rfl | trivial⟩
      · rintro ρ w1 hw hcst hfn hk
        clear hw
        simp only [known, List.getD_cons_zero, List.getD_cons_succ, Nat.reduceAdd] at hk
        simp only [List.getD_cons_zero, List.getD_cons_succ, Nat.reduceAdd, flowAt]
        go_simp
        exact ⟨Ext.refl _, by first | rfl | trivial⟩
      · rintro ρ w1 hw hcst hfn hk
        clear hw
        simp only [known, List.getD_cons_zero, List.getD_cons_succ, Nat.reduceAdd] at hk
        simp only [List.getD_cons_zero, List.getD_cons_succ, Nat.reduceAdd, flowAt]
        rintro vg rfl
        refine ⟨fun hg => ?_, fun hg => ?_⟩ <;> simp at hg
        first | exact trivial | exact rfl
      · rintro ρ w1 hw hcst hfn hk
        clear hw
        simp only [known, List.getD_cons_zero, List.getD_cons_succ, Nat.reduceAdd] at hk
        simp only [List.getD_cons_zero, List.getD_cons_succ, Nat.reduceAdd, flowAt]
        rintro vg rfl
        refine ⟨fun hg => ?_, fun hg => ?_⟩ <;> simp at hg
        first | exact trivial | exact rfl
      · rintro ρ w1 hw hcst hfn hk
        clear hw
        simp only [known, List.getD_cons_zero, List.getD_cons_succ, Nat.reduceAdd] at hk
        simp only [List.getD_cons_zero, List.getD_cons_succ, Nat.reduceAdd, flowAt]
        rintro vg rfl
        refine ⟨fun hg => ?_, fun hg => ?_⟩ <;> simp at hg
        first | exact trivial | exact rfl
      · rintro ρ w1 hw hcst hfn hk
        clear hw
        simp only [known, List.getD_cons_zero, List.getD_cons_succ, Nat.reduceAdd] at hk
        simp only [List.getD_cons_zero, List.getD_cons_succ, Nat.reduceAdd, flowAt]
        rintro vg rfl
        refine ⟨fun hg => ?_, fun hg => ?_⟩ <;> simp at hg
        first | exact trivial | exact rfl
      · rintro ρ w1 hw hcst hfn hk
        clear hw
        simp only [known, List.getD_cons_zero, List.getD_cons_succ, Nat.reduceAdd] at hk
        simp only [List.getD_cons_zero, List.getD_cons_succ, Nat.reduceAdd, flowAt]
        rintro vg rfl
        refine ⟨fun hg => ?_, fun hg => ?_⟩ <;> simp at hg
        first | exact trivial | exact rfl
      · rintro ρ w1 hw hcst hfn hk
        clear hw
        simp only [known, List.getD_cons_zero, List.getD_cons_succ, Nat.reduceAdd] at hk
        simp only [List.getD_cons_zero, List.getD_cons_succ, Nat.reduceAdd, flowAt]
        rintro vg rfl
        refine ⟨fun hg => ?_, fun hg => ?_⟩ <;> simp at hg
        first | exact trivial | exact rfl
      · rintro ρ w1 hw hcst hfn hk
        clear hw
        simp only [known, List.getD_cons_zero, List.getD_cons_succ, Nat.reduceAdd] at hk
        simp only [List.getD_cons_zero, List.getD_cons_succ, Nat.reduceAdd, flowAt]
        rintro vg rfl
        refine ⟨fun hg => ?_, fun hg => ?_⟩ <;> simp at hg
        first | exact trivial | exact rfl
      · rintro ρ w1 hw hcst hfn hk
        clear hw
        simp only [known, List.getD_cons_zero, List.getD_cons_succ, Nat.reduceAdd] at hk
        simp only [List.getD_cons_zero, List.getD_cons_succ, Nat.reduceAdd, flowAt]
        rintro vg rfl
        refine ⟨fun hg => ?_, fun hg => ?_⟩ <;> simp at hg
        first | exact trivial | exact rfl
      · rintro ρ w1 hw hcst hfn hk
        clear hw
        simp only [known, List.getD_cons_zero, List.getD_cons_succ, Nat.reduceAdd] at hk
        simp only [List.getD_cons_zero, List.getD_cons_succ, Nat.reduceAdd, flowAt]
        go_simp
        exact ⟨Ext.refl _, by first | rfl | trivial⟩
    intro vs w1 hw hf
    simp only [flowFacts, Nat.reduceAdd] at hf
    obtain ⟨e0, e1, e2, e3, e4, e5, e6, e7, e8, e9, e10, e11, e12, e13, e14, e15, e16, e17, e18, e19, e20, e21, e22, e23, e24, e25, e26, e27, e28, e29, e30, e31, e32, e33, e34, e35, e36, -⟩ := hf
    simp only [List.take_succ_cons, List.take_zero, List.drop_succ_cons, List.drop_zero, putAll, Act.put, Nat.reduceAdd, List.setIfInBounds_toArray, List.set_cons_zero, List.set_cons_succ, e0, e1, e2, e3, e4, e5, e6, e7, e8, e9, e10, e11, e12, e13, e14, e15, e16, e17, e18, e19, e20, e21, e22, e23, e24, e25, e26, e27, e28, e29, e30, e31, e32, e33, e34, e35, e36]
    clear e0 e1 e2 e3 e4 e5 e6 e7 e8 e9 e10 e11 e12 e13 e14 e15 e16 e17 e18 e19 e20 e21 e22 e23 e24 e25 e26 e27 e28 e29 e30 e31 e32 e33 e34 e35 e36
    replace hX := hX.drew.trans hw
    clear hw
    go_wp2_with fail
    go_returns
    exact ⟨ret_bool (by rw [H.out]; rfl), hX⟩
  · obtain ⟨r1, r2, r3, r4⟩ := inRC_true hr
    rw [hr] at HI H
    have HR := hid hr
    clear hr
    by_cases hq : n < c + s.size
    · have HQ : Hid (decide (c + (s.size : Int) ≤ n) = false) := hid (decide_eq_false (by omega))
      rw [HQ.out] at H
      go_enter Tryz.func29, Tryz.ntmps29
      go_wp2_with fail
      have hX : Ext w (w.alloc (.cells #[.int .i64 r, .int .i64 c, .bool false, .string s] 38)) := (Ext.refl w).alloc _
      have q1 : IntKind.i64.wrap (c + (s.size : Int)) = c + (s.size : Int) := IntWalk.i64_in _ (by omega)
      have q2 : IntKind.i64.wrap (c - 1) = c - 1 := IntWalk.i64_in _ (by omega)
      have q3 : decide (n < c + (s.size : Int)) = true := decide_eq_true (by omega)
      refine wp_region_flow_at (C := Ext) 37 [fun v _ => v = .pointer (some ⟨b, o, none⟩), fun v _ => v = .pointer (some ⟨w.heap.size, 0, none⟩), fun v _ => v = .int .i64 r, fun v _ => v = .pointer (some ⟨w.heap.size, 1, none⟩), fun v _ => v = .int .i64 c, fun v _ => v = .bool true, fun v _ => v = .bool false, fun v _ => v = .bool false, fun v _ => v = .pointer (some ⟨w.heap.size, 1, none⟩), fun v _ => v = .int .i64 c, fun v _ => v = .int .i64 (s.size : Int), fun v _ => v = .int .i64 (c + (s.size : Int)), fun v _ => v = .pointer (some ⟨b, o, none⟩), fun v _ => v = .pointer (some ⟨b, o, none⟩), fun v _ => v = .pointer (some ⟨b, o, none⟩), fun v _ => v = .int .i64 n, fun v _ => v = .bool true, fun v _ => v = .bool true, fun v _ => v = .bool true, fun v _ => v = undef, fun v _ => v = undef, fun v _ => v = undef, fun v _ => v = undef, fun v _ => v = undef, fun v _ => v = undef, fun v _ => v = undef, fun v _ => v = .bool true, fun v _ => v = .bool true, fun v _ => v = undef, fun v _ => v = undef, fun v _ => v = undef, fun v _ => v = undef, fun v _ => v = undef, fun v _ => v = undef, fun v _ => v = undef, fun v _ => v = undef, fun v _ => v = .bool true]
        [[(0, none)], [(3, none)], [(13, some 1)], [(3, none)], [(15, some 3)], [(12, some 0), (14, some 2), (16, some 4)], [(17, some 5)], [(18, some 6)], [(3, none)], [(20, some 8)], [(5, none)], [(21, some 9), (22, some 10)], [(0, none)], [(24, some 12)], [(25, some 13)], [(26, some 14)], [(23, some 11), (27, some 15)], [(19, some 7), (28, some 16)], [(29, some 17)], [(0, none)], [(3, none)], [(32, some 20)], [(3, none)], [(34, some 22)], [(35, some 23)], [(31, some 19), (33, some 21), (36, some 24)], [(30, some 18), (37, some 25)], [(38, some 26)], [(0, none)], [(3, none)], [(41, some 29)], [(3, none)], [(43, some 31)], [(5, none)], [(44, some 32), (45, some 33)], [(40, some 28), (42, some 30), (46, some 34)], [(39, some 27), (47, some 35)]] (by kernel_rfl) (by kernel_rfl) Ext.refl (fun _ _ _ => Ext.trans) ?_ ?_ ?_
      · intro F hF
        simp only [List.mem_cons, List.not_mem_nil, or_false] at hF
        rcases hF with rfl | rfl | rfl | rfl | rfl | rfl | rfl | rfl | rfl | rfl | rfl | rfl | rfl | rfl | rfl | rfl | rfl | rfl | rfl | rfl | rfl | rfl | rfl | rfl | rfl | rfl | rfl | rfl | rfl | rfl | rfl | rfl | rfl | rfl | rfl | rfl | rfl <;> exact fun _ _ _ h _ => h
      · refine ⟨?_, ?_, ?_, ?_, ?_, ?_, ?_, ?_, ?_, ?_, ?_, ?_, ?_, ?_, ?_, ?_, ?_, ?_, ?_, ?_, ?_, ?_, ?_, ?_, ?_, ?_, ?_, ?_, ?_, ?_, ?_, ?_, ?_, ?_, ?_, ?_, ?_, trivial⟩
        · rintro ρ w1 hw hcst hfn hk
          clear hw
          simp only [known, List.getD_cons_zero, List.getD_cons_succ, Nat.reduceAdd] at hk
          simp only [List.getD_cons_zero, List.getD_cons_succ, Nat.reduceAdd, flowAt]
          go_simp
          exact ⟨Ext.refl _, by first | rfl | trivial⟩
        · rintro ρ w1 hw hcst hfn hk
          clear hw
          simp only [known, List.getD_cons_zero, List.getD_cons_succ, Nat.reduceAdd] at hk
          simp only [List.getD_cons_zero, List.getD_cons_succ, Nat.reduceAdd, flowAt]
          go_simp
          exact ⟨Ext.refl _, by first | rfl | trivial⟩
        · rintro ρ w1 hw hcst hfn hk
          have c0 := hw.cell (b := w.heap.size) (o := 0) (v := .int .i64 r) (by first | (simp [*]; done) | (simp [*, go_sem]; done) | go_cell)
          clear hw
          simp only [known, List.getD_cons_zero, List.getD_cons_succ, Nat.reduceAdd] at hk
          simp only [List.getD_cons_zero, List.getD_cons_succ, Nat.reduceAdd, flowAt]
          go_simp
          exact ⟨Ext.refl _, by first | rfl | trivial⟩
        · rintro ρ w1 hw hcst hfn hk
          clear hw
          simp only [known, List.getD_cons_zero, List.getD_cons_succ, Nat.reduceAdd] at hk
          simp only [List.getD_cons_zero, List.getD_cons_succ, Nat.reduceAdd, flowAt]
          go_simp
          exact ⟨Ext.refl _, by first | rfl | trivial⟩
        · rintro ρ w1 hw hcst hfn hk
          have c0 := hw.cell (b := w.heap.size) (o := 1) (v := .int .i64 c) (by first | (simp [*]; done) | (simp [*, go_sem]; done) | go_cell)
          clear hw
          simp only [known, List.getD_cons_zero, List.getD_cons_succ, Nat.reduceAdd] at hk
          simp only [List.getD_cons_zero, List.getD_cons_succ, Nat.reduceAdd, flowAt]
          go_simp
          exact ⟨Ext.refl _, by first | rfl | trivial⟩
        · rintro ρ w1 hw hcst hfn hk
          simp only [known, List.getD_cons_zero, List.getD_cons_succ, Nat.reduceAdd] at hk
          simp only [List.getD_cons_zero, List.getD_cons_succ, Nat.reduceAdd, flowAt]
          go_simp
          exact flow_same (HI.out _ (hX.drew.trans hw))
        · rintro ρ w1 hw hcst hfn hk
          clear hw
          simp only [known, List.getD_cons_zero, List.getD_cons_succ, Nat.reduceAdd] at hk
          simp only [List.getD_cons_zero, List.getD_cons_succ, Nat.reduceAdd, flowAt]
          go_simp
          exact ⟨Ext.refl _, by first | rfl | trivial⟩
        · rintro ρ w1 hw hcst hfn hk
          clear hw
          simp only [known, List.getD_cons_zero, List.getD_cons_succ, Nat.reduceAdd] at hk
          simp only [List.getD_cons_zero, List.getD_cons_succ, Nat.reduceAdd, flowAt]
          go_simp
          exact ⟨Ext.refl _, by first | rfl | trivial⟩
        · rintro ρ w1 hw hcst hfn hk
          clear hw
          simp only [known, List.getD_cons_zero, List.getD_cons_succ, Nat.reduceAdd] at hk
          simp only [List.getD_cons_zero, List.getD_cons_succ, Nat.reduceAdd, flowAt]
          rintro vg rfl
          refine ⟨fun hg => ?_, fun hg => ?_⟩ <;> simp at hg
          go_simp
          exact ⟨Ext.refl _, by first | rfl | trivial⟩
        · rintro ρ w1 hw hcst hfn hk
          have c0 := hw.cell (b := w.heap.size) (o := 1) (v := .int .i64 c) (by first | (simp [*]; done) | (simp [*, go_sem]; done) | go_cell)
          clear hw
          simp only [known, List.getD_cons_zero, List.getD_cons_succ, Nat.reduceAdd] at hk
          simp only [List.getD_cons_zero, List.getD_cons_succ, Nat.reduceAdd, flowAt]
          rintro vg rfl
          refine ⟨fun hg => ?_, fun hg => ?_⟩ <;> simp at hg
          go_simp
          exact ⟨Ext.refl _, by first | rfl | trivial⟩
        · rintro ρ w1 hw hcst hfn hk
          clear hw
          simp only [known, List.getD_cons_zero, List.getD_cons_succ, Nat.reduceAdd] at hk
          simp only [List.getD_cons_zero, List.getD_cons_succ, Nat.reduceAdd, flowAt]
          rintro vg rfl
          refine ⟨fun hg => ?_, fun hg => ?_⟩ <;> simp at hg
          go_simp
          exact ⟨Ext.refl _, by first | rfl | trivial⟩
        · rintro ρ w1 hw hcst hfn hk
          clear hw
          simp only [known, List.getD_cons_zero, List.getD_cons_succ, Nat.reduceAdd] at hk
          simp only [List.getD_cons_zero, List.getD_cons_succ, Nat.reduceAdd, flowAt]
          rintro vg rfl
          refine ⟨fun hg => ?_, fun hg => ?_⟩ <;> simp at hg
          go_simp
          exact ⟨Ext.refl _, by first | rfl | trivial⟩
        · rintro ρ w1 hw hcst hfn hk
          clear hw
          simp only [known, List.getD_cons_zero, List.getD_cons_succ, Nat.reduceAdd] at hk
          simp only [List.getD_cons_zero, List.getD_cons_succ, Nat.reduceAdd, flowAt]
          rintro vg rfl
          refine ⟨fun hg => ?_, fun hg => ?_⟩ <;> simp at hg
          go_simp
          exact ⟨Ext.refl _, by first | rfl | trivial⟩
        · rintro ρ w1 hw hcst hfn hk
          clear hw
          simp only [known, List.getD_cons_zero, List.getD_cons_succ, Nat.reduceAdd] at hk
          simp only [List.getD_cons_zero, List.getD_cons_succ, Nat.reduceAdd, flowAt]
          rintro vg rfl
          refine ⟨fun hg => ?_, fun hg => ?_⟩ <;> simp at hg
          go_simp
          exact ⟨Ext.refl _, by first | rfl | trivial⟩
        · rintro ρ w1 hw hcst hfn hk
          clear hw
          simp only [known, List.getD_cons_zero, List.getD_cons_succ, Nat.reduceAdd] at hk
          simp only [List.getD_cons_zero, List.getD_cons_succ, Nat.reduceAdd, flowAt]
          rintro vg rfl
          refine ⟨fun hg => ?_, fun hg => ?_⟩ <;> simp at hg
          go_simp
          exact ⟨Ext.refl _, by first | rfl | trivial⟩
        · rintro ρ w1 hw hcst hfn hk
          have c0 := hw.cell (b := b) (o := o) (v := .int .i64 n) (by first | (simp [*]; done) | (simp [*, go_sem]; done) | go_cell)
          clear hw
          simp only [known, List.getD_cons_zero, List.getD_cons_succ, Nat.reduceAdd] at hk
          simp only [List.getD_cons_zero, List.getD_cons_succ, Nat.reduceAdd, flowAt]
          rintro vg rfl
          refine ⟨fun hg => ?_, fun hg => ?_⟩ <;> simp at hg
          go_simp
          exact ⟨Ext.refl _, by first | rfl | trivial⟩
        · rintro ρ w1 hw hcst hfn hk
          clear hw
          simp only [known, List.getD_cons_zero, List.getD_cons_succ, Nat.reduceAdd] at hk
          simp only [List.getD_cons_zero, List.getD_cons_succ, Nat.reduceAdd, flowAt]
          rintro vg rfl
          refine ⟨fun hg => ?_, fun hg => ?_⟩ <;> simp at hg
          go_simp
          exact ⟨Ext.refl _, by first | rfl | trivial⟩
        · rintro ρ w1 hw hcst hfn hk
          clear hw
          simp only [known, List.getD_cons_zero, List.getD_cons_succ, Nat.reduceAdd] at hk
          simp only [List.getD_cons_zero, List.getD_cons_succ, Nat.reduceAdd, flowAt]
          go_simp
          exact ⟨Ext.refl _, by first | rfl | trivial⟩
        · rintro ρ w1 hw hcst hfn hk
          clear hw
          simp only [known, List.getD_cons_zero, List.getD_cons_succ, Nat.reduceAdd] at hk
          simp only [List.getD_cons_zero, List.getD_cons_succ, Nat.reduceAdd, flowAt]
          go_simp
          exact ⟨Ext.refl _, by first | rfl | trivial⟩
        · rintro ρ w1 hw hcst hfn hk
          clear hw
          simp only [known, List.getD_cons_zero, List.getD_cons_succ, Nat.reduceAdd] at hk
          simp only [List.getD_cons_zero, List.getD_cons_succ, Nat.reduceAdd, flowAt]
          rintro vg rfl
          refine ⟨fun hg => ?_, fun hg => ?_⟩ <;> simp at hg
          first | exact trivial | exact rfl
        · rintro ρ w1 hw hcst hfn hk
          clear hw
          simp only [known, List.getD_cons_zero, List.getD_cons_succ, Nat.reduceAdd] at hk
          simp only [List.getD_cons_zero, List.getD_cons_succ, Nat.reduceAdd, flowAt]
          rintro vg rfl
          refine ⟨fun hg => ?_, fun hg => ?_⟩ <;> simp at hg
          first | exact trivial | exact rfl
        · rintro ρ w1 hw hcst hfn hk
          clear hw
          simp only [known, List.getD_cons_zero, List.getD_cons_succ, Nat.reduceAdd] at hk
          simp only [List.getD_cons_zero, List.getD_cons_succ, Nat.reduceAdd, flowAt]
          rintro vg rfl
          refine ⟨fun hg => ?_, fun hg => ?_⟩ <;> simp at hg
          first | exact trivial | exact rfl
        · rintro ρ w1 hw hcst hfn hk
          clear hw
          simp only [known, List.getD_cons_zero, List.getD_cons_succ, Nat.reduceAdd] at hk
          simp only [List.getD_cons_zero, List.getD_cons_succ, Nat.reduceAdd, flowAt]
          rintro vg rfl
          refine ⟨fun hg => ?_, fun hg => ?_⟩ <;> simp at hg
          first | exact trivial | exact rfl
        · rintro ρ w1 hw hcst hfn hk
          clear hw
          simp only [known, List.getD_cons_zero, List.getD_cons_succ, Nat.reduceAdd] at hk
          simp only [List.getD_cons_zero, List.getD_cons_succ, Nat.reduceAdd, flowAt]
          rintro vg rfl
          refine ⟨fun hg => ?_, fun hg => ?_⟩ <;> simp at hg
          first | exact trivial | exact rfl
        · rintro ρ w1 hw hcst hfn hk
          clear hw
          simp only [known, List.getD_cons_zero, List.getD_cons_succ, Nat.reduceAdd] at hk
          simp only [List.getD_cons_zero, List.getD_cons_succ, Nat.reduceAdd, flowAt]
          rintro vg rfl
          refine ⟨fun hg => ?_, fun hg => ?_⟩ <;> simp at hg
          first | exact trivial | exact rfl
        · rintro ρ w1 hw hcst hfn hk
          clear hw
          simp only [known, List.getD_cons_zero, List.getD_cons_succ, Nat.reduceAdd] at hk
          simp only [List.getD_cons_zero, List.getD_cons_succ, Nat.reduceAdd, flowAt]
          rintro vg rfl
          refine ⟨fun hg => ?_, fun hg => ?_⟩ <;> simp at hg
          first | exact trivial | exact rfl
        · rintro ρ w1 hw hcst hfn hk
          clear hw
          simp only [known, List.getD_cons_zero, List.getD_cons_succ, Nat.reduceAdd] at hk
          simp only [List.getD_cons_zero, List.getD_cons_succ, Nat.reduceAdd, flowAt]
          go_simp
          exact ⟨Ext.refl _, by first | rfl | trivial⟩
        · rintro ρ w1 hw hcst hfn hk
          clear hw
          simp only [known, List.getD_cons_zero, List.getD_cons_succ, Nat.reduceAdd] at hk
          simp only [List.getD_cons_zero, List.getD_cons_succ, Nat.reduceAdd, flowAt]
          go_simp
          exact ⟨Ext.refl _, by first | rfl | trivial⟩
        · rintro ρ w1 hw hcst hfn hk
          clear hw
          simp only [known, List.getD_cons_zero, List.getD_cons_succ, Nat.reduceAdd] at hk
          simp only [List.getD_cons_zero, List.getD_cons_succ, Nat.reduceAdd, flowAt]
          rintro vg rfl
          refine ⟨fun hg => ?_, fun hg => ?_⟩ <;> simp at hg
          first | exact trivial | exact rfl
        · rintro ρ w1 hw hcst hfn hk
          clear hw
          simp only [known, List.getD_cons_zero, List.getD_cons_succ, Nat.reduceAdd] at hk
          simp only [List.getD_cons_zero, List.getD_cons_succ, Nat.reduceAdd, flowAt]
          rintro vg rfl
          refine ⟨fun hg => ?_, fun hg => ?_⟩ <;> simp at hg
          first | exact trivial | exact rfl
        · rintro ρ w1 hw hcst hfn hk
          clear hw
          simp only [known, List.getD_cons_zero, List.getD_cons_succ, Nat.reduceAdd] at hk
          simp only [List.getD_cons_zero, List.getD_cons_succ, Nat.reduceAdd, flowAt]
          rintro vg rfl
          refine ⟨fun hg => ?_, fun hg => ?_⟩ <;> simp at hg
          first | exact trivial | exact rfl
        · rintro ρ w1 hw hcst hfn hk
          clear hw
          simp only [known, List.getD_cons_zero, List.getD_cons_succ, Nat.reduceAdd] at hk
          simp only [List.getD_cons_zero, List.getD_cons_succ, Nat.reduceAdd, flowAt]
          rintro vg rfl
          refine ⟨fun hg => ?_, fun hg => ?_⟩ <;> simp at hg
          first | exact trivial | exact rfl
        · rintro ρ w1 hw hcst hfn hk
          clear hw
          simp only [known, List.getD_cons_zero, List.getD_cons_succ, Nat.reduceAdd] at hk
          simp only [List.getD_cons_zero, List.getD_cons_succ, Nat.reduceAdd, flowAt]
          rintro vg rfl
          refine ⟨fun hg => ?_, fun hg => ?_⟩ <;> simp at hg
          first | exact trivial | exact rfl
        · rintro ρ w1 hw hcst hfn hk
          clear hw
          simp only [known, List.getD_cons_zero, List.getD_cons_succ, Nat.reduceAdd] at hk
          simp only [List.getD_cons_zero, List.getD_cons_succ, Nat.reduceAdd, flowAt]
          rintro vg rfl
          refine ⟨fun hg => ?_, fun hg => ?_⟩ <;> simp at hg
          first | exact trivial | exact rfl
        · rintro ρ w1 hw hcst hfn hk
          clear hw
          simp only [known, List.getD_cons_zero, List.getD_cons_succ, Nat.reduceAdd] at hk
          simp only [List.getD_cons_zero, List.getD_cons_succ, Nat.reduceAdd, flowAt]
          rintro vg rfl
          refine ⟨fun hg => ?_, fun hg => ?_⟩ <;> simp at hg
          first | exact trivial | exact rfl
        · rintro ρ w1 hw hcst hfn hk
          clear hw
          simp only [known, List.getD_cons_zero, List.getD_cons_succ, Nat.reduceAdd] at hk
          simp only [List.getD_cons_zero, List.getD_cons_succ, Nat.reduceAdd, flowAt]
          rintro vg rfl
          refine ⟨fun hg => ?_, fun hg => ?_⟩ <;> simp at hg
          first | exact trivial | exact rfl
        · rintro ρ w1 hw hcst hfn hk
          clear hw
          simp only [known, List.getD_cons_zero, List.getD_cons_succ, Nat.reduceAdd] at hk
          simp only [List.getD_cons_zero, List.getD_cons_succ, Nat.reduceAdd, flowAt]
          go_simp
          exact ⟨Ext.refl _, by first | rfl | trivial⟩
      intro vs w1 hw hf
      simp only [flowFacts, Nat.reduceAdd] at hf
      obtain ⟨e0, e1, e2, e3, e4, e5, e6, e7, e8, e9, e10, e11, e12, e13, e14, e15, e16, e17, e18, e19, e20, e21, e22, e23, e24, e25, e26, e27, e28, e29, e30, e31, e32, e33, e34, e35, e36, -⟩ := hf
      simp only [List.take_succ_cons, List.take_zero, List.drop_succ_cons, List.drop_zero, putAll, Act.put, Nat.reduceAdd, List.setIfInBounds_toArray, List.set_cons_zero, List.set_cons_succ, e0, e1, e2, e3, e4, e5, e6, e7, e8, e9, e10, e11, e12, e13, e14, e15, e16, e17, e18, e19, e20, e21, e22, e23, e24, e25, e26, e27, e28, e29, e30, e31, e32, e33, e34, e35, e36]
      clear e0 e1 e2 e3 e4 e5 e6 e7 e8 e9 e10 e11 e12 e13 e14 e15 e16 e17 e18 e19 e20 e21 e22 e23 e24 e25 e26 e27 e28 e29 e30 e31 e32 e33 e34 e35 e36
      clear q1 q2 q3
      replace hX := hX.drew.trans hw
      clear hw
      go_wp2_with fail
      go_returns
      exact ⟨ret_bool (by rw [H.out]; rfl), hX⟩
    · have HQ : Hid (decide (c + (s.size : Int) ≤ n) = true) := hid (decide_eq_true (by omega))
      rw [HQ.out] at H
      obtain ⟨vb, hvb⟩ : ∃ vb, fullB n cs r (c - 1) = vb := ⟨_, rfl⟩
      obtain ⟨va, hva⟩ : ∃ va, fullB n cs r (c + s.size) = va := ⟨_, rfl⟩
      rw [hvb] at HF1 H
      rw [hva] at HF2 H
      clear hvb hva
      cases vb
      case true =>
        go_enter Tryz.func29, Tryz.ntmps29
        go_wp2_with fail
        have hX : Ext w (w.alloc (.cells #[.int .i64 r, .int .i64 c, .bool false, .string s] 38)) := (Ext.refl w).alloc _
        have q1 : IntKind.i64.wrap (c + (s.size : Int)) = c + (s.size : Int) := IntWalk.i64_in _ (by omega)
        have q2 : IntKind.i64.wrap (c - 1) = c - 1 := IntWalk.i64_in _ (by omega)
        have q3 : decide (n < c + (s.size : Int)) = false := decide_eq_false (by omega)
        refine wp_region_flow_at (C := Ext) 37 [fun v _ => v = .pointer (some ⟨b, o, none⟩), fun v _ => v = .pointer (some ⟨w.heap.size, 0, none⟩), fun v _ => v = .int .i64 r, fun v _ => v = .pointer (some ⟨w.heap.size, 1, none⟩), fun v _ => v = .int .i64 c, fun v _ => v = .bool true, fun v _ => v = .bool false, fun v _ => v = .bool false, fun v _ => v = .pointer (some ⟨w.heap.size, 1, none⟩), fun v _ => v = .int .i64 c, fun v _ => v = .int .i64 (s.size : Int), fun v _ => v = .int .i64 (c + (s.size : Int)), fun v _ => v = .pointer (some ⟨b, o, none⟩), fun v _ => v = .pointer (some ⟨b, o, none⟩), fun v _ => v = .pointer (some ⟨b, o, none⟩), fun v _ => v = .int .i64 n, fun v _ => v = .bool false, fun v _ => v = .bool false, fun v _ => v = .bool false, fun v _ => v = .pointer (some ⟨b, o, none⟩), fun v _ => v = .pointer (some ⟨w.heap.size, 0, none⟩), fun v _ => v = .int .i64 r, fun v _ => v = .pointer (some ⟨w.heap.size, 1, none⟩), fun v _ => v = .int .i64 c, fun v _ => v = .int .i64 (c - 1), fun v _ => v = .bool true, fun v _ => v = .bool true, fun v _ => v = .bool true, fun v _ => v = undef, fun v _ => v = undef, fun v _ => v = undef, fun v _ => v = undef, fun v _ => v = undef, fun v _ => v = undef, fun v _ => v = undef, fun v _ => v = undef, fun v _ => v = .bool true]
          [[(0, none)], [(3, none)], [(13, some 1)], [(3, none)], [(15, some 3)], [(12, some 0), (14, some 2), (16, some 4)], [(17, some 5)], [(18, some 6)], [(3, none)], [(20, some 8)], [(5, none)], [(21, some 9), (22, some 10)], [(0, none)], [(24, some 12)], [(25, some 13)], [(26, some 14)], [(23, some 11), (27, some 15)], [(19, some 7), (28, some 16)], [(29, some 17)], [(0, none)], [(3, none)], [(32, some 20)], [(3, none)], [(34, some 22)], [(35, some 23)], [(31, some 19), (33, some 21), (36, some 24)], [(30, some 18), (37, some 25)], [(38, some 26)], [(0, none)], [(3, none)], [(41, some 29)], [(3, none)], [(43, some 31)], [(5, none)], [(44, some 32), (45, some 33)], [(40, some 28), (42, some 30), (46, some 34)], [(39, some 27), (47, some 35)]] (by kernel_rfl) (by kernel_rfl) Ext.refl (fun _ _ _ => Ext.trans) ?_ ?_ ?_
        · intro F hF
          simp only [List.mem_cons, List.not_mem_nil, or_false] at hF
          rcases hF with rfl | rfl | rfl | rfl | rfl | rfl | rfl | rfl | rfl | rfl | rfl | rfl | rfl | rfl | rfl | rfl | rfl | rfl | rfl | rfl | rfl | rfl | rfl | rfl | rfl | rfl | rfl | rfl | rfl | rfl | rfl | rfl | rfl | rfl | rfl | rfl | rfl <;> exact fun _ _ _ h _ => h
        · refine ⟨?_, ?_, ?_, ?_, ?_, ?_, ?_, ?_, ?_, ?_, ?_, ?_, ?_, ?_, ?_, ?_, ?_, ?_, ?_, ?_, ?_, ?_, ?_, ?_, ?_, ?_, ?_, ?_, ?_, ?_, ?_, ?_, ?_, ?_, ?_, ?_, ?_, trivial⟩
          · rintro ρ w1 hw hcst hfn hk
            clear hw
            simp only [known, List.getD_cons_zero, List.getD_cons_succ, Nat.reduceAdd] at hk
            simp only [List.getD_cons_zero, List.getD_cons_succ, Nat.reduceAdd, flowAt]
            go_simp
            exact ⟨Ext.refl _, by first | rfl | trivial⟩
          · rintro ρ w1 hw hcst hfn hk
            clear hw
            simp only [known, List.getD_cons_zero, List.getD_cons_succ, Nat.reduceAdd] at hk
            simp only [List.getD_cons_zero, List.getD_cons_succ, Nat.reduceAdd, flowAt]
            go_simp
            exact ⟨Ext.refl _, by first | rfl | trivial⟩
          · rintro ρ w1 hw hcst hfn hk
            have c0 := hw.cell (b := w.heap.size) (o := 0) (v := .int .i64 r) (by first | (simp [*]; done) | (simp [*, go_sem]; done) | go_cell)
            clear hw
            simp only [known, List.getD_cons_zero, List.getD_cons_succ, Nat.reduceAdd] at hk
            simp only [List.getD_cons_zero, List.getD_cons_succ, Nat.reduceAdd, flowAt]
            go_simp
            exact ⟨Ext.refl _, by first | rfl | trivial⟩
          · rintro ρ w1 hw hcst hfn hk
            clear hw
            simp only [known, List.getD_cons_zero, List.getD_cons_succ, Nat.reduceAdd] at hk
            simp only [List.getD_cons_zero, List.getD_cons_succ, Nat.reduceAdd, flowAt]
            go_simp
            exact ⟨Ext.refl _, by first | rfl | trivial⟩
          · rintro ρ w1 hw hcst hfn hk
            have c0 := hw.cell (b := w.heap.size) (o := 1) (v := .int .i64 c) (by first | (simp [*]; done) | (simp [*, go_sem]; done) | go_cell)
            clear hw
            simp only [known, List.getD_cons_zero, List.getD_cons_succ, Nat.reduceAdd] at hk
            simp only [List.getD_cons_zero, List.getD_cons_succ, Nat.reduceAdd, flowAt]
            go_simp
            exact ⟨Ext.refl _, by first | rfl | trivial⟩
          · rintro ρ w1 hw hcst hfn hk
            simp only [known, List.getD_cons_zero, List.getD_cons_succ, Nat.reduceAdd] at hk
            simp only [List.getD_cons_zero, List.getD_cons_succ, Nat.reduceAdd, flowAt]
            go_simp
            exact flow_same (HI.out _ (hX.drew.trans hw))
          · rintro ρ w1 hw hcst hfn hk
            clear hw
            simp only [known, List.getD_cons_zero, List.getD_cons_succ, Nat.reduceAdd] at hk
            simp only [List.getD_cons_zero, List.getD_cons_succ, Nat.reduceAdd, flowAt]
            go_simp
            exact ⟨Ext.refl _, by first | rfl | trivial⟩
          · rintro ρ w1 hw hcst hfn hk
            clear hw
            simp only [known, List.getD_cons_zero, List.getD_cons_succ, Nat.reduceAdd] at hk
            simp only [List.getD_cons_zero, List.getD_cons_succ, Nat.reduceAdd, flowAt]
            go_simp
            exact ⟨Ext.refl _, by first | rfl | trivial⟩
          · rintro ρ w1 hw hcst hfn hk
            clear hw
            simp only [known, List.getD_cons_zero, List.getD_cons_succ, Nat.reduceAdd] at hk
            simp only [List.getD_cons_zero, List.getD_cons_succ, Nat.reduceAdd, flowAt]
            rintro vg rfl
            refine ⟨fun hg => ?_, fun hg => ?_⟩ <;> simp at hg
            go_simp
            exact ⟨Ext.refl _, by first | rfl | trivial⟩
          · rintro ρ w1 hw hcst hfn hk
            have c0 := hw.cell (b := w.heap.size) (o := 1) (v := .int .i64 c) (by first | (simp [*]; done) | (simp [*, go_sem]; done) | go_cell)
            clear hw
            simp only [known, List.getD_cons_zero, List.getD_cons_succ, Nat.reduceAdd] at hk
            simp only [List.getD_cons_zero, List.getD_cons_succ, Nat.reduceAdd, flowAt]
            rintro vg rfl
            refine ⟨fun hg => ?_, fun hg => ?_⟩ <;> simp at hg
            go_simp
            exact ⟨Ext.refl _, by first | rfl | trivial⟩
          · rintro ρ w1 hw hcst hfn hk
            clear hw
            simp only [known, List.getD_cons_zero, List.getD_cons_succ, Nat.reduceAdd] at hk
            simp only [List.getD_cons_zero, List.getD_cons_succ, Nat.reduceAdd, flowAt]
            rintro vg rfl
            refine ⟨fun hg => ?_, fun hg => ?_⟩ <;> simp at hg
            go_simp
            exact ⟨Ext.refl _, by first | rfl | trivial⟩
          · rintro ρ w1 hw hcst hfn hk
            clear hw
            simp only [known, List.getD_cons_zero, List.getD_cons_succ, Nat.reduceAdd] at hk
            simp only [List.getD_cons_zero, List.getD_cons_succ, Nat.reduceAdd, flowAt]
            rintro vg rfl
            refine ⟨fun hg => ?_, fun hg => ?_⟩ <;> simp at hg
            go_simp
            exact ⟨Ext.refl _, by first | rfl | trivial⟩
          · rintro ρ w1 hw hcst hfn hk
            clear hw
            simp only [known, List.getD_cons_zero, List.getD_cons_succ, Nat.reduceAdd] at hk
            simp only [List.getD_cons_zero, List.getD_cons_succ, Nat.reduceAdd, flowAt]
            rintro vg rfl
            refine ⟨fun hg => ?_, fun hg => ?_⟩ <;> simp at hg
            go_simp
            exact ⟨Ext.refl _, by first | rfl | trivial⟩
          · rintro ρ w1 hw hcst hfn hk
            clear hw
            simp only [known, List.getD_cons_zero, List.getD_cons_succ, Nat.reduceAdd] at hk
            simp only [List.getD_cons_zero, List.getD_cons_succ, Nat.reduceAdd, flowAt]
            rintro vg rfl
            refine ⟨fun hg => ?_, fun hg => ?_⟩ <;> simp at hg
            go_simp
            exact ⟨Ext.refl _, by first | rfl | trivial⟩
          · rintro ρ w1 hw hcst hfn hk
            clear hw
            simp only [known, List.getD_cons_zero, List.getD_cons_succ, Nat.reduceAdd] at hk
            simp only [List.getD_cons_zero, List.getD_cons_succ, Nat.reduceAdd, flowAt]
            rintro vg rfl
            refine ⟨fun hg => ?_, fun hg => ?_⟩ <;> simp at hg
            go_simp
            exact ⟨Ext.refl _, by first | rfl | trivial⟩
          · rintro ρ w1 hw hcst hfn hk
            have c0 := hw.cell (b := b) (o := o) (v := .int .i64 n) (by first | (simp [*]; done) | (simp [*, go_sem]; done) | go_cell)
            clear hw
            simp only [known, List.getD_cons_zero, List.getD_cons_succ, Nat.reduceAdd] at hk
            simp only [List.getD_cons_zero, List.getD_cons_succ, Nat.reduceAdd, flowAt]
            rintro vg rfl
            refine ⟨fun hg => ?_, fun hg => ?_⟩ <;> simp at hg
            go_simp
            exact ⟨Ext.refl _, by first | rfl | trivial⟩
          · rintro ρ w1 hw hcst hfn hk
            clear hw
            simp only [known, List.getD_cons_zero, List.getD_cons_succ, Nat.reduceAdd] at hk
            simp only [List.getD_cons_zero, List.getD_cons_succ, Nat.reduceAdd, flowAt]
            rintro vg rfl
            refine ⟨fun hg => ?_, fun hg => ?_⟩ <;> simp at hg
            go_simp
            exact ⟨Ext.refl _, by first | rfl | trivial⟩
          · rintro ρ w1 hw hcst hfn hk
            clear hw
            simp only [known, List.getD_cons_zero, List.getD_cons_succ, Nat.reduceAdd] at hk
            simp only [List.getD_cons_zero, List.getD_cons_succ, Nat.reduceAdd, flowAt]
            go_simp
            exact ⟨Ext.refl _, by first | rfl | trivial⟩
          · rintro ρ w1 hw hcst hfn hk
            clear hw
            simp only [known, List.getD_cons_zero, List.getD_cons_succ, Nat.reduceAdd] at hk
            simp only [List.getD_cons_zero, List.getD_cons_succ, Nat.reduceAdd, flowAt]
            go_simp
            exact ⟨Ext.refl _, by first | rfl | trivial⟩
          · rintro ρ w1 hw hcst hfn hk
            clear hw
            simp only [known, List.getD_cons_zero, List.getD_cons_succ, Nat.reduceAdd] at hk
            simp only [List.getD_cons_zero, List.getD_cons_succ, Nat.reduceAdd, flowAt]
            rintro vg rfl
            refine ⟨fun hg => ?_, fun hg => ?_⟩ <;> simp at hg
            go_simp
            exact ⟨Ext.refl _, by first | rfl | trivial⟩
          · rintro ρ w1 hw hcst hfn hk
            clear hw
            simp only [known, List.getD_cons_zero, List.getD_cons_succ, Nat.reduceAdd] at hk
            simp only [List.getD_cons_zero, List.getD_cons_succ, Nat.reduceAdd, flowAt]
            rintro vg rfl
            refine ⟨fun hg => ?_, fun hg => ?_⟩ <;> simp at hg
            go_simp
            exact ⟨Ext.refl _, by first | rfl | trivial⟩
          · rintro ρ w1 hw hcst hfn hk
            have c0 := hw.cell (b := w.heap.size) (o := 0) (v := .int .i64 r) (by first | (simp [*]; done) | (simp [*, go_sem]; done) | go_cell)
            clear hw
            simp only [known, List.getD_cons_zero, List.getD_cons_succ, Nat.reduceAdd] at hk
            simp only [List.getD_cons_zero, List.getD_cons_succ, Nat.reduceAdd, flowAt]
            rintro vg rfl
            refine ⟨fun hg => ?_, fun hg => ?_⟩ <;> simp at hg
            go_simp
            exact ⟨Ext.refl _, by first | rfl | trivial⟩
          · rintro ρ w1 hw hcst hfn hk
            clear hw
            simp only [known, List.getD_cons_zero, List.getD_cons_succ, Nat.reduceAdd] at hk
            simp only [List.getD_cons_zero, List.getD_cons_succ, Nat.reduceAdd, flowAt]
            rintro vg rfl
            refine ⟨fun hg => ?_, fun hg => ?_⟩ <;> simp at hg
            go_simp
            exact ⟨Ext.refl _, by first | rfl | trivial⟩
          · rintro ρ w1 hw hcst hfn hk
            have c0 := hw.cell (b := w.heap.size) (o := 1) (v := .int .i64 c) (by first | (simp [*]; done) | (simp [*, go_sem]; done) | go_cell)
            clear hw
            simp only [known, List.getD_cons_zero, List.getD_cons_succ, Nat.reduceAdd] at hk
            simp only [List.getD_cons_zero, List.getD_cons_succ, Nat.reduceAdd, flowAt]
            rintro vg rfl
            refine ⟨fun hg => ?_, fun hg => ?_⟩ <;> simp at hg
            go_simp
            exact ⟨Ext.refl _, by first | rfl | trivial⟩
          · rintro ρ w1 hw hcst hfn hk
            clear hw
            simp only [known, List.getD_cons_zero, List.getD_cons_succ, Nat.reduceAdd] at hk
            simp only [List.getD_cons_zero, List.getD_cons_succ, Nat.reduceAdd, flowAt]
            rintro vg rfl
            refine ⟨fun hg => ?_, fun hg => ?_⟩ <;> simp at hg
            go_simp
            exact ⟨Ext.refl _, by first | rfl | trivial⟩
          · rintro ρ w1 hw hcst hfn hk
            simp only [known, List.getD_cons_zero, List.getD_cons_succ, Nat.reduceAdd] at hk
            simp only [List.getD_cons_zero, List.getD_cons_succ, Nat.reduceAdd, flowAt]
            rintro vg rfl
            refine ⟨fun hg => ?_, fun hg => ?_⟩ <;> simp at hg
            go_simp
            exact flow_dr (HF1.out _ (hX.drew.trans hw))
          · rintro ρ w1 hw hcst hfn hk
            clear hw
            simp only [known, List.getD_cons_zero, List.getD_cons_succ, Nat.reduceAdd] at hk
            simp only [List.getD_cons_zero, List.getD_cons_succ, Nat.reduceAdd, flowAt]
            go_simp
            exact ⟨Ext.refl _, by first | rfl | trivial⟩
          · rintro ρ w1 hw hcst hfn hk
            clear hw
            simp only [known, List.getD_cons_zero, List.getD_cons_succ, Nat.reduceAdd] at hk
            simp only [List.getD_cons_zero, List.getD_cons_succ, Nat.reduceAdd, flowAt]
            go_simp
            exact ⟨Ext.refl _, by first | rfl | trivial⟩
          · rintro ρ w1 hw hcst hfn hk
            clear hw
            simp only [known, List.getD_cons_zero, List.getD_cons_succ, Nat.reduceAdd] at hk
            simp only [List.getD_cons_zero, List.getD_cons_succ, Nat.reduceAdd, flowAt]
            rintro vg rfl
            refine ⟨fun hg => ?_, fun hg => ?_⟩ <;> simp at hg
            first | exact trivial | exact rfl
          · rintro ρ w1 hw hcst hfn hk
            clear hw
            simp only [known, List.getD_cons_zero, List.getD_cons_succ, Nat.reduceAdd] at hk
            simp only [List.getD_cons_zero, List.getD_cons_succ, Nat.reduceAdd, flowAt]
            rintro vg rfl
            refine ⟨fun hg => ?_, fun hg => ?_⟩ <;> simp at hg
            first | exact trivial | exact rfl
          · rintro ρ w1 hw hcst hfn hk
            clear hw
            simp only [known, List.getD_cons_zero, List.getD_cons_succ, Nat.reduceAdd] at hk
            simp only [List.getD_cons_zero, List.getD_cons_succ, Nat.reduceAdd, flowAt]
            rintro vg rfl
            refine ⟨fun hg => ?_, fun hg => ?_⟩ <;> simp at hg
            first | exact trivial | exact rfl
          · rintro ρ w1 hw hcst hfn hk
            clear hw
            simp only [known, List.getD_cons_zero, List.getD_cons_succ, Nat.reduceAdd] at hk
            simp only [List.getD_cons_zero, List.getD_cons_succ, Nat.reduceAdd, flowAt]
            rintro vg rfl
            refine ⟨fun hg => ?_, fun hg => ?_⟩ <;> simp at hg
            first | exact trivial | exact rfl
          · rintro ρ w1 hw hcst hfn hk
            clear hw
            simp only [known, List.getD_cons_zero, List.getD_cons_succ, Nat.reduceAdd] at hk
            simp only [List.getD_cons_zero, List.getD_cons_succ, Nat.reduceAdd, flowAt]
            rintro vg rfl
            refine ⟨fun hg => ?_, fun hg => ?_⟩ <;> simp at hg
            first | exact trivial | exact rfl
          · rintro ρ w1 hw hcst hfn hk
            clear hw
            simp only [known, List.getD_cons_zero, List.getD_cons_succ, Nat.reduceAdd] at hk
            simp only [List.getD_cons_zero, List.getD_cons_succ, Nat.reduceAdd, flowAt]
            rintro vg rfl
            refine ⟨fun hg => ?_, fun hg => ?_⟩ <;> simp at hg
            first | exact trivial | exact rfl
          · rintro ρ w1 hw hcst hfn hk
            clear hw
            simp only [known, List.getD_cons_zero, List.getD_cons_succ, Nat.reduceAdd] at hk
            simp only [List.getD_cons_zero, List.getD_cons_succ, Nat.reduceAdd, flowAt]
            rintro vg rfl
            refine ⟨fun hg => ?_, fun hg => ?_⟩ <;> simp at hg
            first | exact trivial | exact rfl
          · rintro ρ w1 hw hcst hfn hk
            clear hw
            simp only [known, List.getD_cons_zero, List.getD_cons_succ, Nat.reduceAdd] at hk
            simp only [List.getD_cons_zero, List.getD_cons_succ, Nat.reduceAdd, flowAt]
            rintro vg rfl
            refine ⟨fun hg => ?_, fun hg => ?_⟩ <;> simp at hg
            first | exact trivial | exact rfl
          · rintro ρ w1 hw hcst hfn hk
            clear hw
            simp only [known, List.getD_cons_zero, List.getD_cons_succ, Nat.reduceAdd] at hk
            simp only [List.getD_cons_zero, List.getD_cons_succ, Nat.reduceAdd, flowAt]
            go_simp
            exact ⟨Ext.refl _, by first | rfl | trivial⟩
        intro vs w1 hw hf
        simp only [flowFacts, Nat.reduceAdd] at hf
        obtain ⟨e0, e1, e2, e3, e4, e5, e6, e7, e8, e9, e10, e11, e12, e13, e14, e15, e16, e17, e18, e19, e20, e21, e22, e23, e24, e25, e26, e27, e28, e29, e30, e31, e32, e33, e34, e35, e36, -⟩ := hf
        simp only [List.take_succ_cons, List.take_zero, List.drop_succ_cons, List.drop_zero, putAll, Act.put, Nat.reduceAdd, List.setIfInBounds_toArray, List.set_cons_zero, List.set_cons_succ, e0, e1, e2, e3, e4, e5, e6, e7, e8, e9, e10, e11, e12, e13, e14, e15, e16, e17, e18, e19, e20, e21, e22, e23, e24, e25, e26, e27, e28, e29, e30, e31, e32, e33, e34, e35, e36]
        clear e0 e1 e2 e3 e4 e5 e6 e7 e8 e9 e10 e11 e12 e13 e14 e15 e16 e17 e18 e19 e20 e21 e22 e23 e24 e25 e26 e27 e28 e29 e30 e31 e32 e33 e34 e35 e36
        clear q1 q2 q3
        replace hX := hX.drew.trans hw
        clear hw
        go_wp2_with fail
        go_returns
        exact ⟨ret_bool (by rw [H.out]; rfl), hX⟩
      cases va
      case false.true =>
        go_enter Tryz.func29, Tryz.ntmps29
        go_wp2_with fail
        have hX : Ext w (w.alloc (.cells #[.int .i64 r, .int .i64 c, .bool false, .string s] 38)) := (Ext.refl w).alloc _
        have q1 : IntKind.i64.wrap (c + (s.size : Int)) = c + (s.size : Int) := IntWalk.i64_in _ (by omega)
        have q2 : IntKind.i64.wrap (c - 1) = c - 1 := IntWalk.i64_in _ (by omega)
        have q3 : decide (n < c + (s.size : Int)) = false := decide_eq_false (by omega)
        refine wp_region_flow_at (C := Ext) 37 [fun v _ => v = .pointer (some ⟨b, o, none⟩), fun v _ => v = .pointer (some ⟨w.heap.size, 0, none⟩), fun v _ => v = .int .i64 r, fun v _ => v = .pointer (some ⟨w.heap.size, 1, none⟩), fun v _ => v = .int .i64 c, fun v _ => v = .bool true, fun v _ => v = .bool false, fun v _ => v = .bool false, fun v _ => v = .pointer (some ⟨w.heap.size, 1, none⟩), fun v _ => v = .int .i64 c, fun v _ => v = .int .i64 (s.size : Int), fun v _ => v = .int .i64 (c + (s.size : Int)), fun v _ => v = .pointer (some ⟨b, o, none⟩), fun v _ => v = .pointer (some ⟨b, o, none⟩), fun v _ => v = .pointer (some ⟨b, o, none⟩), fun v _ => v = .int .i64 n, fun v _ => v = .bool false, fun v _ => v = .bool false, fun v _ => v = .bool false, fun v _ => v = .pointer (some ⟨b, o, none⟩), fun v _ => v = .pointer (some ⟨w.heap.size, 0, none⟩), fun v _ => v = .int .i64 r, fun v _ => v = .pointer (some ⟨w.heap.size, 1, none⟩), fun v _ => v = .int .i64 c, fun v _ => v = .int .i64 (c - 1), fun v _ => v = .bool false, fun v _ => v = .bool false, fun v _ => v = .bool false, fun v _ => v = .pointer (some ⟨b, o, none⟩), fun v _ => v = .pointer (some ⟨w.heap.size, 0, none⟩), fun v _ => v = .int .i64 r, fun v _ => v = .pointer (some ⟨w.heap.size, 1, none⟩), fun v _ => v = .int .i64 c, fun v _ => v = .int .i64 (s.size : Int), fun v _ => v = .int .i64 (c + (s.size : Int)), fun v _ => v = .bool true, fun v _ => v = .bool true]
          [[(0, none)], [(3, none)], [(13, some 1)], [(3, none)], [(15, some 3)], [(12, some 0), (14, some 2), (16, some 4)], [(17, some 5)], [(18, some 6)], [(3, none)], [(20, some 8)], [(5, none)], [(21, some 9), (22, some 10)], [(0, none)], [(24, some 12)], [(25, some 13)], [(26, some 14)], [(23, some 11), (27, some 15)], [(19, some 7), (28, some 16)], [(29, some 17)], [(0, none)], [(3, none)], [(32, some 20)], [(3, none)], [(34, some 22)], [(35, some 23)], [(31, some 19), (33, some 21), (36, some 24)], [(30, some 18), (37, some 25)], [(38, some 26)], [(0, none)], [(3, none)], [(41, some 29)], [(3, none)], [(43, some 31)], [(5, none)], [(44, some 32), (45, some 33)], [(40, some 28), (42, some 30), (46, some 34)], [(39, some 27), (47, some 35)]] (by kernel_rfl) (by kernel_rfl) Ext.refl (fun _ _ _ => Ext.trans) ?_ ?_ ?_
        · intro F hF
          simp only [List.mem_cons, List.not_mem_nil, or_false] at hF
          rcases hF with rfl | rfl | rfl | rfl | rfl | rfl | rfl | rfl | rfl | rfl | rfl | rfl | rfl | rfl | rfl | rfl | rfl | rfl | rfl | rfl | rfl | rfl | rfl | rfl | rfl | rfl | rfl | rfl | rfl | rfl | rfl | rfl | rfl | rfl | rfl | rfl | rfl <;> exact fun _ _ _ h _ => h
        · refine ⟨?_, ?_, ?_, ?_, ?_, ?_, ?_, ?_, ?_, ?_, ?_, ?_, ?_, ?_, ?_, ?_, ?_, ?_, ?_, ?_, ?_, ?_, ?_, ?_, ?_, ?_, ?_, ?_, ?_, ?_, ?_, ?_, ?_, ?_, ?_, ?_, ?_, trivial⟩
          · rintro ρ w1 hw hcst hfn hk
            clear hw
            simp only [known, List.getD_cons_zero, List.getD_cons_succ, Nat.reduceAdd] at hk
            simp only [List.getD_cons_zero, List.getD_cons_succ, Nat.reduceAdd, flowAt]
            go_simp
            exact ⟨Ext.refl _, by first | rfl | trivial⟩
          · rintro ρ w1 hw hcst hfn hk
            clear hw
            simp only [known, List.getD_cons_zero, List.getD_cons_succ, Nat.reduceAdd] at hk
            simp only [List.getD_cons_zero, List.getD_cons_succ, Nat.reduceAdd, flowAt]
            go_simp
            exact ⟨Ext.refl _, by first | rfl | trivial⟩
          · rintro ρ w1 hw hcst hfn hk
            have c0 := hw.cell (b := w.heap.size) (o := 0) (v := .int .i64 r) (by first | (simp [*]; done) | (simp [*, go_sem]; done) | go_cell)
            clear hw
            simp only [known, List.getD_cons_zero, List.getD_cons_succ, Nat.reduceAdd] at hk
            simp only [List.getD_cons_zero, List.getD_cons_succ, Nat.reduceAdd, flowAt]
            go_simp
            exact ⟨Ext.refl _, by first | rfl | trivial⟩
          · rintro ρ w1 hw hcst hfn hk
            clear hw
            simp only [known, List.getD_cons_zero, List.getD_cons_succ, Nat.reduceAdd] at hk
            simp only [List.getD_cons_zero, List.getD_cons_succ, Nat.reduceAdd, flowAt]
            go_simp
            exact ⟨Ext.refl _, by first | rfl | trivial⟩
          · rintro ρ w1 hw hcst hfn hk
            have c0 := hw.cell (b := w.heap.size) (o := 1) (v := .int .i64 c) (by first | (simp [*]; done) | (simp [*, go_sem]; done) | go_cell)
            clear hw
            simp only [known, List.getD_cons_zero, List.getD_cons_succ, Nat.reduceAdd] at hk
            simp only [List.getD_cons_zero, List.getD_cons_succ, Nat.reduceAdd, flowAt]
            go_simp
            exact ⟨Ext.refl _, by first | rfl | trivial⟩
          · rintro ρ w1 hw hcst hfn hk
            simp only [known, List.getD_cons_zero, List.getD_cons_succ, Nat.reduceAdd] at hk
            simp only [List.getD_cons_zero, List.getD_cons_succ, Nat.reduceAdd, flowAt]
            go_simp
            exact flow_same (HI.out _ (hX.drew.trans hw))
          · rintro ρ w1 hw hcst hfn hk
            clear hw
            simp only [known, List.getD_cons_zero, List.getD_cons_succ, Nat.reduceAdd] at hk
            simp only [List.getD_cons_zero, List.getD_cons_succ, Nat.reduceAdd, flowAt]
            go_simp
            exact ⟨Ext.refl _, by first | rfl | trivial⟩
          · rintro ρ w1 hw hcst hfn hk
            clear hw
            simp only [known, List.getD_cons_zero, List.getD_cons_succ, Nat.reduceAdd] at hk
            simp only [List.getD_cons_zero, List.getD_cons_succ, Nat.reduceAdd, flowAt]
            go_simp
            exact ⟨Ext.refl _, by first | rfl | trivial⟩
          · rintro ρ w1 hw hcst hfn hk
            clear hw
            simp only [known, List.getD_cons_zero, List.getD_cons_succ, Nat.reduceAdd] at hk
            simp only [List.getD_cons_zero, List.getD_cons_succ, Nat.reduceAdd, flowAt]
            rintro vg rfl
            refine ⟨fun hg => ?_, fun hg => ?_⟩ <;> simp at hg
            go_simp
            exact ⟨Ext.refl _, by first | rfl | trivial⟩
          · rintro ρ w1 hw hcst hfn hk
            have c0 := hw.cell (b := w.heap.size) (o := 1) (v := .int .i64 c) (by first | (simp [*]; done) | (simp [*, go_sem]; done) | go_cell)
            clear hw
            simp only [known, List.getD_cons_zero, List.getD_cons_succ, Nat.reduceAdd] at hk
            simp only [List.getD_cons_zero, List.getD_cons_succ, Nat.reduceAdd, flowAt]
            rintro vg rfl
            refine ⟨fun hg => ?_, fun hg => ?_⟩ <;> simp at hg
            go_simp
            exact ⟨Ext.refl _, by first | rfl | trivial⟩
          · rintro ρ w1 hw hcst hfn hk
            clear hw
            simp only [known, List.getD_cons_zero, List.getD_cons_succ, Nat.reduceAdd] at hk
            simp only [List.getD_cons_zero, List.getD_cons_succ, Nat.reduceAdd, flowAt]
            rintro vg rfl
            refine ⟨fun hg => ?_, fun hg => ?_⟩ <;> simp at hg
            go_simp
            exact ⟨Ext.refl _, by first | rfl | trivial⟩
          · rintro ρ w1 hw hcst hfn hk
            clear hw
            simp only [known, List.getD_cons_zero, List.getD_cons_succ, Nat.reduceAdd] at hk
            simp only [List.getD_cons_zero, List.getD_cons_succ, Nat.reduceAdd, flowAt]
            rintro vg rfl
            refine ⟨fun hg => ?_, fun hg => ?_⟩ <;> simp at hg
            go_simp
            exact ⟨Ext.refl _, by first | rfl | trivial⟩
          · rintro ρ w1 hw hcst hfn hk
            clear hw
            simp only [known, List.getD_cons_zero, List.getD_cons_succ, Nat.reduceAdd] at hk
            simp only [List.getD_cons_zero, List.getD_cons_succ, Nat.reduceAdd, flowAt]
            rintro vg rfl
            refine ⟨fun hg => ?_, fun hg => ?_⟩ <;> simp at hg
            go_simp
            exact ⟨Ext.refl _, by first | rfl | trivial⟩
          · rintro ρ w1 hw hcst hfn hk
            clear hw
            simp only [known, List.getD_cons_zero, List.getD_cons_succ, Nat.reduceAdd] at hk
            simp only [List.getD_cons_zero, List.getD_cons_succ, Nat.reduceAdd, flowAt]
            rintro vg rfl
            refine ⟨fun hg => ?_, fun hg => ?_⟩ <;> simp at hg
            go_simp
            exact ⟨Ext.refl _, by first | rfl | trivial⟩
          · rintro ρ w1 hw hcst hfn hk
            clear hw
            simp only [known, List.getD_cons_zero, List.getD_cons_succ, Nat.reduceAdd] at hk
            simp only [List.getD_cons_zero, List.getD_cons_succ, Nat.reduceAdd, flowAt]
            rintro vg rfl
            refine ⟨fun hg => ?_, fun hg => ?_⟩ <;> simp at hg
            go_simp
            exact ⟨Ext.refl _, by first | rfl | trivial⟩
          · rintro ρ w1 hw hcst hfn hk
            have c0 := hw.cell (b := b) (o := o) (v := .int .i64 n) (by first | (simp [*]; done) | (simp [*, go_sem]; done) | go_cell)
            clear hw
            simp only [known, List.getD_cons_zero, List.getD_cons_succ, Nat.reduceAdd] at hk
            simp only [List.getD_cons_zero, List.getD_cons_succ, Nat.reduceAdd, flowAt]
            rintro vg rfl
            refine ⟨fun hg => ?_, fun hg => ?_⟩ <;> simp at hg
            go_simp
            exact ⟨Ext.refl _, by first | rfl | trivial⟩
          · rintro ρ w1 hw hcst hfn hk
            clear hw
            simp only [known, List.getD_cons_zero, List.getD_cons_succ, Nat.reduceAdd] at hk
            simp only [List.getD_cons_zero, List.getD_cons_succ, Nat.reduceAdd, flowAt]
            rintro vg rfl
            refine ⟨fun hg => ?_, fun hg => ?_⟩ <;> simp at hg
            go_simp
            exact ⟨Ext.refl _, by first | rfl | trivial⟩
          · rintro ρ w1 hw hcst hfn hk
            clear hw
            simp only [known, List.getD_cons_zero, List.getD_cons_succ, Nat.reduceAdd] at hk
            simp only [List.getD_cons_zero, List.getD_cons_succ, Nat.reduceAdd, flowAt]
            go_simp
            exact ⟨Ext.refl _, by first | rfl | trivial⟩
          · rintro ρ w1 hw hcst hfn hk
            clear hw
            simp only [known, List.getD_cons_zero, List.getD_cons_succ, Nat.reduceAdd] at hk
            simp only [List.getD_cons_zero, List.getD_cons_succ, Nat.reduceAdd, flowAt]
            go_simp
            exact ⟨Ext.refl _, by first | rfl | trivial⟩
          · rintro ρ w1 hw hcst hfn hk
            clear hw
            simp only [known, List.getD_cons_zero, List.getD_cons_succ, Nat.reduceAdd] at hk
            simp only [List.getD_cons_zero, List.getD_cons_succ, Nat.reduceAdd, flowAt]
            rintro vg rfl
            refine ⟨fun hg => ?_, fun hg => ?_⟩ <;> simp at hg
            go_simp
            exact ⟨Ext.refl _, by first | rfl | trivial⟩
          · rintro ρ w1 hw hcst hfn hk
            clear hw
            simp only [known, List.getD_cons_zero, List.getD_cons_succ, Nat.reduceAdd] at hk
            simp only [List.getD_cons_zero, List.getD_cons_succ, Nat.reduceAdd, flowAt]
            rintro vg rfl
            refine ⟨fun hg => ?_, fun hg => ?_⟩ <;> simp at hg
            go_simp
            exact ⟨Ext.refl _, by first | rfl | trivial⟩
          · rintro ρ w1 hw hcst hfn hk
            have c0 := hw.cell (b := w.heap.size) (o := 0) (v := .int .i64 r) (by first | (simp [*]; done) | (simp [*, go_sem]; done) | go_cell)
            clear hw
            simp only [known, List.getD_cons_zero, List.getD_cons_succ, Nat.reduceAdd] at hk
            simp only [List.getD_cons_zero, List.getD_cons_succ, Nat.reduceAdd, flowAt]
            rintro vg rfl
            refine ⟨fun hg => ?_, fun hg => ?_⟩ <;> simp at hg
            go_simp
            exact ⟨Ext.refl _, by first | rfl | trivial⟩
          · rintro ρ w1 hw hcst hfn hk
            clear hw
            simp only [known, List.getD_cons_zero, List.getD_cons_succ, Nat.reduceAdd] at hk
            simp only [List.getD_cons_zero, List.getD_cons_succ, Nat.reduceAdd, flowAt]
            rintro vg rfl
            refine ⟨fun hg => ?_, fun hg => ?_⟩ <;> simp at hg
            go_simp
            exact ⟨Ext.refl _, by first | rfl | trivial⟩
          · rintro ρ w1 hw hcst hfn hk
            have c0 := hw.cell (b := w.heap.size) (o := 1) (v := .int .i64 c) (by first | (simp [*]; done) | (simp [*, go_sem]; done) | go_cell)
            clear hw
            simp only [known, List.getD_cons_zero, List.getD_cons_succ, Nat.reduceAdd] at hk
            simp only [List.getD_cons_zero, List.getD_cons_succ, Nat.reduceAdd, flowAt]
            rintro vg rfl
            refine ⟨fun hg => ?_, fun hg => ?_⟩ <;> simp at hg
            go_simp
            exact ⟨Ext.refl _, by first | rfl | trivial⟩
          · rintro ρ w1 hw hcst hfn hk
            clear hw
            simp only [known, List.getD_cons_zero, List.getD_cons_succ, Nat.reduceAdd] at hk
            simp only [List.getD_cons_zero, List.getD_cons_succ, Nat.reduceAdd, flowAt]
            rintro vg rfl
            refine ⟨fun hg => ?_, fun hg => ?_⟩ <;> simp at hg
            go_simp
            exact ⟨Ext.refl _, by first | rfl | trivial⟩
          · rintro ρ w1 hw hcst hfn hk
            simp only [known, List.getD_cons_zero, List.getD_cons_succ, Nat.reduceAdd] at hk
            simp only [List.getD_cons_zero, List.getD_cons_succ, Nat.reduceAdd, flowAt]
            rintro vg rfl
            refine ⟨fun hg => ?_, fun hg => ?_⟩ <;> simp at hg
            go_simp
            exact flow_dr (HF1.out _ (hX.drew.trans hw))
          · rintro ρ w1 hw hcst hfn hk
            clear hw
            simp only [known, List.getD_cons_zero, List.getD_cons_succ, Nat.reduceAdd] at hk
            simp only [List.getD_cons_zero, List.getD_cons_succ, Nat.reduceAdd, flowAt]
            go_simp
            exact ⟨Ext.refl _, by first | rfl | trivial⟩
          · rintro ρ w1 hw hcst hfn hk
            clear hw
            simp only [known, List.getD_cons_zero, List.getD_cons_succ, Nat.reduceAdd] at hk
            simp only [List.getD_cons_zero, List.getD_cons_succ, Nat.reduceAdd, flowAt]
            go_simp
            exact ⟨Ext.refl _, by first | rfl | trivial⟩
          · rintro ρ w1 hw hcst hfn hk
            clear hw
            simp only [known, List.getD_cons_zero, List.getD_cons_succ, Nat.reduceAdd] at hk
            simp only [List.getD_cons_zero, List.getD_cons_succ, Nat.reduceAdd, flowAt]
            rintro vg rfl
            refine ⟨fun hg => ?_, fun hg => ?_⟩ <;> simp at hg
            go_simp
            exact ⟨Ext.refl _, by first | rfl | trivial⟩
          · rintro ρ w1 hw hcst hfn hk
            clear hw
            simp only [known, List.getD_cons_zero, List.getD_cons_succ, Nat.reduceAdd] at hk
            simp only [List.getD_cons_zero, List.getD_cons_succ, Nat.reduceAdd, flowAt]
            rintro vg rfl
            refine ⟨fun hg => ?_, fun hg => ?_⟩ <;> simp at hg
            go_simp
            exact ⟨Ext.refl _, by first | rfl | trivial⟩
          · rintro ρ w1 hw hcst hfn hk
            have c0 := hw.cell (b := w.heap.size) (o := 0) (v := .int .i64 r) (by first | (simp [*]; done) | (simp [*, go_sem]; done) | go_cell)
            clear hw
            simp only [known, List.getD_cons_zero, List.getD_cons_succ, Nat.reduceAdd] at hk
            simp only [List.getD_cons_zero, List.getD_cons_succ, Nat.reduceAdd, flowAt]
            rintro vg rfl
            refine ⟨fun hg => ?_, fun hg => ?_⟩ <;> simp at hg
            go_simp
            exact ⟨Ext.refl _, by first | rfl | trivial⟩
          · rintro ρ w1 hw hcst hfn hk
            clear hw
            simp only [known, List.getD_cons_zero, List.getD_cons_succ, Nat.reduceAdd] at hk
            simp only [List.getD_cons_zero, List.getD_cons_succ, Nat.reduceAdd, flowAt]
            rintro vg rfl
            refine ⟨fun hg => ?_, fun hg => ?_⟩ <;> simp at hg
            go_simp
            exact ⟨Ext.refl _, by first | rfl | trivial⟩
          · rintro ρ w1 hw hcst hfn hk
            have c0 := hw.cell (b := w.heap.size) (o := 1) (v := .int .i64 c) (by first | (simp [*]; done) | (simp [*, go_sem]; done) | go_cell)
            clear hw
            simp only [known, List.getD_cons_zero, List.getD_cons_succ, Nat.reduceAdd] at hk
            simp only [List.getD_cons_zero, List.getD_cons_succ, Nat.reduceAdd, flowAt]
            rintro vg rfl
            refine ⟨fun hg => ?_, fun hg => ?_⟩ <;> simp at hg
            go_simp
            exact ⟨Ext.refl _, by first | rfl | trivial⟩
          · rintro ρ w1 hw hcst hfn hk
            clear hw
            simp only [known, List.getD_cons_zero, List.getD_cons_succ, Nat.reduceAdd] at hk
            simp only [List.getD_cons_zero, List.getD_cons_succ, Nat.reduceAdd, flowAt]
            rintro vg rfl
            refine ⟨fun hg => ?_, fun hg => ?_⟩ <;> simp at hg
            go_simp
            exact ⟨Ext.refl _, by first | rfl | trivial⟩
          · rintro ρ w1 hw hcst hfn hk
            clear hw
            simp only [known, List.getD_cons_zero, List.getD_cons_succ, Nat.reduceAdd] at hk
            simp only [List.getD_cons_zero, List.getD_cons_succ, Nat.reduceAdd, flowAt]
            rintro vg rfl
            refine ⟨fun hg => ?_, fun hg => ?_⟩ <;> simp at hg
            go_simp
            exact ⟨Ext.refl _, by first | rfl | trivial⟩
          · rintro ρ w1 hw hcst hfn hk
            simp only [known, List.getD_cons_zero, List.getD_cons_succ, Nat.reduceAdd] at hk
            simp only [List.getD_cons_zero, List.getD_cons_succ, Nat.reduceAdd, flowAt]
            rintro vg rfl
            refine ⟨fun hg => ?_, fun hg => ?_⟩ <;> simp at hg
            go_simp
            exact flow_dr (HF2.out _ (hX.drew.trans hw))
          · rintro ρ w1 hw hcst hfn hk
            clear hw
            simp only [known, List.getD_cons_zero, List.getD_cons_succ, Nat.reduceAdd] at hk
            simp only [List.getD_cons_zero, List.getD_cons_succ, Nat.reduceAdd, flowAt]
            go_simp
            exact ⟨Ext.refl _, by first | rfl | trivial⟩
        intro vs w1 hw hf
        simp only [flowFacts, Nat.reduceAdd] at hf
        obtain ⟨e0, e1, e2, e3, e4, e5, e6, e7, e8, e9, e10, e11, e12, e13, e14, e15, e16, e17, e18, e19, e20, e21, e22, e23, e24, e25, e26, e27, e28, e29, e30, e31, e32, e33, e34, e35, e36, -⟩ := hf
        simp only [List.take_succ_cons, List.take_zero, List.drop_succ_cons, List.drop_zero, putAll, Act.put, Nat.reduceAdd, List.setIfInBounds_toArray, List.set_cons_zero, List.set_cons_succ, e0, e1, e2, e3, e4, e5, e6, e7, e8, e9, e10, e11, e12, e13, e14, e15, e16, e17, e18, e19, e20, e21, e22, e23, e24, e25, e26, e27, e28, e29, e30, e31, e32, e33, e34, e35, e36]
        clear e0 e1 e2 e3 e4 e5 e6 e7 e8 e9 e10 e11 e12 e13 e14 e15 e16 e17 e18 e19 e20 e21 e22 e23 e24 e25 e26 e27 e28 e29 e30 e31 e32 e33 e34 e35 e36
        clear q1 q2 q3
        replace hX := hX.drew.trans hw
        clear hw
        go_wp2_with fail
        go_returns
        exact ⟨ret_bool (by rw [H.out]; rfl), hX⟩
      case false.false =>
        go_enter Tryz.func29, Tryz.ntmps29
        go_wp2_with fail
        have hX : Ext w (w.alloc (.cells #[.int .i64 r, .int .i64 c, .bool false, .string s] 38)) := (Ext.refl w).alloc _
        have q1 : IntKind.i64.wrap (c + (s.size : Int)) = c + (s.size : Int) := IntWalk.i64_in _ (by omega)
        have q2 : IntKind.i64.wrap (c - 1) = c - 1 := IntWalk.i64_in _ (by omega)
        have q3 : decide (n < c + (s.size : Int)) = false := decide_eq_false (by omega)
        refine wp_region_flow_at (C := Ext) 37 [fun v _ => v = .pointer (some ⟨b, o, none⟩), fun v _ => v = .pointer (some ⟨w.heap.size, 0, none⟩), fun v _ => v = .int .i64 r, fun v _ => v = .pointer (some ⟨w.heap.size, 1, none⟩), fun v _ => v = .int .i64 c, fun v _ => v = .bool true, fun v _ => v = .bool false, fun v _ => v = .bool false, fun v _ => v = .pointer (some ⟨w.heap.size, 1, none⟩), fun v _ => v = .int .i64 c, fun v _ => v = .int .i64 (s.size : Int), fun v _ => v = .int .i64 (c + (s.size : Int)), fun v _ => v = .pointer (some ⟨b, o, none⟩), fun v _ => v = .pointer (some ⟨b, o, none⟩), fun v _ => v = .pointer (some ⟨b, o, none⟩), fun v _ => v = .int .i64 n, fun v _ => v = .bool false, fun v _ => v = .bool false, fun v _ => v = .bool false, fun v _ => v = .pointer (some ⟨b, o, none⟩), fun v _ => v = .pointer (some ⟨w.heap.size, 0, none⟩), fun v _ => v = .int .i64 r, fun v _ => v = .pointer (some ⟨w.heap.size, 1, none⟩), fun v _ => v = .int .i64 c, fun v _ => v = .int .i64 (c - 1), fun v _ => v = .bool false, fun v _ => v = .bool false, fun v _ => v = .bool false, fun v _ => v = .pointer (some ⟨b, o, none⟩), fun v _ => v = .pointer (some ⟨w.heap.size, 0, none⟩), fun v _ => v = .int .i64 r, fun v _ => v = .pointer (some ⟨w.heap.size, 1, none⟩), fun v _ => v = .int .i64 c, fun v _ => v = .int .i64 (s.size : Int), fun v _ => v = .int .i64 (c + (s.size : Int)), fun v _ => v = .bool false, fun v _ => v = .bool false]
          [[(0, none)], [(3, none)], [(13, some 1)], [(3, none)], [(15, some 3)], [(12, some 0), (14, some 2), (16, some 4)], [(17, some 5)], [(18, some 6)], [(3, none)], [(20, some 8)], [(5, none)], [(21, some 9), (22, some 10)], [(0, none)], [(24, some 12)], [(25, some 13)], [(26, some 14)], [(23, some 11), (27, some 15)], [(19, some 7), (28, some 16)], [(29, some 17)], [(0, none)], [(3, none)], [(32, some 20)], [(3, none)], [(34, some 22)], [(35, some 23)], [(31, some 19), (33, some 21), (36, some 24)], [(30, some 18), (37, some 25)], [(38, some 26)], [(0, none)], [(3, none)], [(41, some 29)], [(3, none)], [(43, some 31)], [(5, none)], [(44, some 32), (45, some 33)], [(40, some 28), (42, some 30), (46, some 34)], [(39, some 27), (47, some 35)]] (by kernel_rfl) (by kernel_rfl) Ext.refl (fun _ _ _ => Ext.trans) ?_ ?_ ?_
        · intro F hF
          simp only [List.mem_cons, List.not_mem_nil, or_false] at hF
          rcases hF with rfl | rfl | rfl | rfl | rfl | rfl | rfl | rfl | rfl | rfl | rfl | rfl | rfl | rfl | rfl | rfl | rfl | rfl | rfl | rfl | rfl | rfl | rfl | rfl | rfl | rfl | rfl | rfl | rfl | rfl | rfl | rfl | rfl | rfl | rfl | rfl | rfl <;> exact fun _ _ _ h _ => h
        · refine ⟨?_, ?_, ?_, ?_, ?_, ?_, ?_, ?_, ?_, ?_, ?_, ?_, ?_, ?_, ?_, ?_, ?_, ?_, ?_, ?_, ?_, ?_, ?_, ?_, ?_, ?_, ?_, ?_, ?_, ?_, ?_, ?_, ?_, ?_, ?_, ?_, ?_, trivial⟩
          · rintro ρ w1 hw hcst hfn hk
            clear hw
            simp only [known, List.getD_cons_zero, List.getD_cons_succ, Nat.reduceAdd] at hk
            simp only [List.getD_cons_zero, List.getD_cons_succ, Nat.reduceAdd, flowAt]
            go_simp
            exact ⟨Ext.refl _, by first | rfl | trivial⟩
          · rintro ρ w1 hw hcst hfn hk
            clear hw
            simp only [known, List.getD_cons_zero, List.getD_cons_succ, Nat.reduceAdd] at hk
            simp only [List.getD_cons_zero, List.getD_cons_succ, Nat.reduceAdd, flowAt]
            go_simp
            exact ⟨Ext.refl _, by first | rfl | trivial⟩
          · rintro ρ w1 hw hcst hfn hk
            have c0 := hw.cell (b := w.heap.size) (o := 0) (v := .int .i64 r) (by first | (simp [*]; done) | (simp [*, go_sem]; done) | go_cell)
            clear hw
            simp only [known, List.getD_cons_zero, List.getD_cons_succ, Nat.reduceAdd] at hk
            simp only [List.getD_cons_zero, List.getD_cons_succ, Nat.reduceAdd, flowAt]
            go_simp
            exact ⟨Ext.refl _, by first | rfl | trivial⟩
          · rintro ρ w1 hw hcst hfn hk
            clear hw
            simp only [known, List.getD_cons_zero, List.getD_cons_succ, Nat.reduceAdd] at hk
            simp only [List.getD_cons_zero, List.getD_cons_succ, Nat.reduceAdd, flowAt]
            go_simp
            exact ⟨Ext.refl _, by first | rfl | trivial⟩
          · rintro ρ w1 hw hcst hfn hk
            have c0 := hw.cell (b := w.heap.size) (o := 1) (v := .int .i64 c) (by first | (simp [*]; done) | (simp [*, go_sem]; done) | go_cell)
            clear hw
            simp only [known, List.getD_cons_zero, List.getD_cons_succ, Nat.reduceAdd] at hk
            simp only [List.getD_cons_zero, List.getD_cons_succ, Nat.reduceAdd, flowAt]
            go_simp
            exact ⟨Ext.refl _, by first | rfl | trivial⟩
          · rintro ρ w1 hw hcst hfn hk
            simp only [known, List.getD_cons_zero, List.getD_cons_succ, Nat.reduceAdd] at hk
            simp only [List.getD_cons_zero, List.getD_cons_succ, Nat.reduceAdd, flowAt]
            go_simp
            exact flow_same (HI.out _ (hX.drew.trans hw))
          · rintro ρ w1 hw hcst hfn hk
            clear hw
            simp only [known, List.getD_cons_zero, List.getD_cons_succ, Nat.reduceAdd] at hk
            simp only [List.getD_cons_zero, List.getD_cons_succ, Nat.reduceAdd, flowAt]
            go_simp
            exact ⟨Ext.refl _, by first | rfl | trivial⟩
          · rintro ρ w1 hw hcst hfn hk
            clear hw
            simp only [known, List.getD_cons_zero, List.getD_cons_succ, Nat.reduceAdd] at hk
            simp only [List.getD_cons_zero, List.getD_cons_succ, Nat.reduceAdd, flowAt]
            go_simp
            exact ⟨Ext.refl _, by first | rfl | trivial⟩
          · rintro ρ w1 hw hcst hfn hk
            clear hw
            simp only [known, List.getD_cons_zero, List.getD_cons_succ, Nat.reduceAdd] at hk
            simp only [List.getD_cons_zero, List.getD_cons_succ, Nat.reduceAdd, flowAt]
            rintro vg rfl
            refine ⟨fun hg => ?_, fun hg => ?_⟩ <;> simp at hg
            go_simp
            exact ⟨Ext.refl _, by first | rfl | trivial⟩
          · rintro ρ w1 hw hcst hfn hk
            have c0 := hw.cell (b := w.heap.size) (o := 1) (v := .int .i64 c) (by first | (simp [*]; done) | (simp [*, go_sem]; done) | go_cell)
            clear hw
            simp only [known, List.getD_cons_zero, List.getD_cons_succ, Nat.reduceAdd] at hk
            simp only [List.getD_cons_zero, List.getD_cons_succ, Nat.reduceAdd, flowAt]
            rintro vg rfl
            refine ⟨fun hg => ?_, fun hg => ?_⟩ <;> simp at hg
            go_simp
            exact ⟨Ext.refl _, by first | rfl | trivial⟩
          · rintro ρ w1 hw hcst hfn hk
            clear hw
            simp only [known, List.getD_cons_zero, List.getD_cons_succ, Nat.reduceAdd] at hk
            simp only [List.getD_cons_zero, List.getD_cons_succ, Nat.reduceAdd, flowAt]
            rintro vg rfl
            refine ⟨fun hg => ?_, fun hg => ?_⟩ <;> simp at hg
            go_simp
            exact ⟨Ext.refl _, by first | rfl | trivial⟩
          · rintro ρ w1 hw hcst hfn hk
            clear hw
            simp only [known, List.getD_cons_zero, List.getD_cons_succ, Nat.reduceAdd] at hk
            simp only [List.getD_cons_zero, List.getD_cons_succ, Nat.reduceAdd, flowAt]
            rintro vg rfl
            refine ⟨fun hg => ?_, fun hg => ?_⟩ <;> simp at hg
            go_simp
            exact ⟨Ext.refl _, by first | rfl | trivial⟩
          · rintro ρ w1 hw hcst hfn hk
            clear hw
            simp only [known, List.getD_cons_zero, List.getD_cons_succ, Nat.reduceAdd] at hk
            simp only [List.getD_cons_zero, List.getD_cons_succ, Nat.reduceAdd, flowAt]
            rintro vg rfl
            refine ⟨fun hg => ?_, fun hg => ?_⟩ <;> simp at hg
            go_simp
            exact ⟨Ext.refl _, by first | rfl | trivial⟩
          · rintro ρ w1 hw hcst hfn hk
            clear hw
            simp only [known, List.getD_cons_zero, List.getD_cons_succ, Nat.reduceAdd] at hk
            simp only [List.getD_cons_zero, List.getD_cons_succ, Nat.reduceAdd, flowAt]
            rintro vg rfl
            refine ⟨fun hg => ?_, fun hg => ?_⟩ <;> simp at hg
            go_simp
            exact ⟨Ext.refl _, by first | rfl | trivial⟩
          · rintro ρ w1 hw hcst hfn hk
            clear hw
            simp only [known, List.getD_cons_zero, List.getD_cons_succ, Nat.reduceAdd] at hk
            simp only [List.getD_cons_zero, List.getD_cons_succ, Nat.reduceAdd, flowAt]
            rintro vg rfl
            refine ⟨fun hg => ?_, fun hg => ?_⟩ <;> simp at hg
            go_simp
            exact ⟨Ext.refl _, by first | rfl | trivial⟩
          · rintro ρ w1 hw hcst hfn hk
            have c0 := hw.cell (b := b) (o := o) (v := .int .i64 n) (by first | (simp [*]; done) | (simp [*, go_sem]; done) | go_cell)
            clear hw
            simp only [known, List.getD_cons_zero, List.getD_cons_succ, Nat.reduceAdd] at hk
            simp only [List.getD_cons_zero, List.getD_cons_succ, Nat.reduceAdd, flowAt]
            rintro vg rfl
            refine ⟨fun hg => ?_, fun hg => ?_⟩ <;> simp at hg
            go_simp
            exact ⟨Ext.refl _, by first | rfl | trivial⟩
          · rintro ρ w1 hw hcst hfn hk
            clear hw
            simp only [known, List.getD_cons_zero, List.getD_cons_succ, Nat.reduceAdd] at hk
            simp only [List.getD_cons_zero, List.getD_cons_succ, Nat.reduceAdd, flowAt]
            rintro vg rfl
            refine ⟨fun hg => ?_, fun hg => ?_⟩ <;> simp at hg
            go_simp
            exact ⟨Ext.refl _, by first | rfl | trivial⟩
          · rintro ρ w1 hw hcst hfn hk
            clear hw
            simp only [known, List.getD_cons_zero, List.getD_cons_succ, Nat.reduceAdd] at hk
            simp only [List.getD_cons_zero, List.getD_cons_succ, Nat.reduceAdd, flowAt]
            go_simp
            exact ⟨Ext.refl _, by first | rfl | trivial⟩
          · rintro ρ w1 hw hcst hfn hk
            clear hw
            simp only [known, List.getD_cons_zero, List.getD_cons_succ, Nat.reduceAdd] at hk
            simp only [List.getD_cons_zero, List.getD_cons_succ, Nat.reduceAdd, flowAt]
            go_simp
            exact ⟨Ext.refl _, by first | rfl | trivial⟩
          · rintro ρ w1 hw hcst hfn hk
            clear hw
            simp only [known, List.getD_cons_zero, List.getD_cons_succ, Nat.reduceAdd] at hk
            simp only [List.getD_cons_zero, List.getD_cons_succ, Nat.reduceAdd, flowAt]
            rintro vg rfl
            refine ⟨fun hg => ?_, fun hg => ?_⟩ <;> simp at hg
            go_simp
            exact ⟨Ext.refl _, by first | rfl | trivial⟩
          · rintro ρ w1 hw hcst hfn hk
            clear hw
            simp only [known, List.getD_cons_zero, List.getD_cons_succ, Nat.reduceAdd] at hk
            simp only [List.getD_cons_zero, List.getD_cons_succ, Nat.reduceAdd, flowAt]
            rintro vg rfl
            refine ⟨fun hg => ?_, fun hg => ?_⟩ <;> simp at hg
            go_simp
            exact ⟨Ext.refl _, by first | rfl | trivial⟩
          · rintro ρ w1 hw hcst hfn hk
            have c0 := hw.cell (b := w.heap.size) (o := 0) (v := .int .i64 r) (by first | (simp [*]; done) | (simp [*, go_sem]; done) | go_cell)
            clear hw
            simp only [known, List.getD_cons_zero, List.getD_cons_succ, Nat.reduceAdd] at hk
            simp only [List.getD_cons_zero, List.getD_cons_succ, Nat.reduceAdd, flowAt]
            rintro vg rfl
            refine ⟨fun hg => ?_, fun hg => ?_⟩ <;> simp at hg
            go_simp
            exact ⟨Ext.refl _, by first | rfl | trivial⟩
          · rintro ρ w1 hw hcst hfn hk
            clear hw
            simp only [known, List.getD_cons_zero, List.getD_cons_succ, Nat.reduceAdd] at hk
            simp only [List.getD_cons_zero, List.getD_cons_succ, Nat.reduceAdd, flowAt]
            rintro vg rfl
            refine ⟨fun hg => ?_, fun hg => ?_⟩ <;> simp at hg
            go_simp
            exact ⟨Ext.refl _, by first | rfl | trivial⟩
          · rintro ρ w1 hw hcst hfn hk
            have c0 := hw.cell (b := w.heap.size) (o := 1) (v := .int .i64 c) (by first | (simp [*]; done) | (simp [*, go_sem]; done) | go_cell)
            clear hw
            simp only [known, List.getD_cons_zero, List.getD_cons_succ, Nat.reduceAdd] at hk
            simp only [List.getD_cons_zero, List.getD_cons_succ, Nat.reduceAdd, flowAt]
            rintro vg rfl
            refine ⟨fun hg => ?_, fun hg => ?_⟩ <;> simp at hg
            go_simp
            exact ⟨Ext.refl _, by first | rfl | trivial⟩
          · rintro ρ w1 hw hcst hfn hk
            clear hw
            simp only [known, List.getD_cons_zero, List.getD_cons_succ, Nat.reduceAdd] at hk
            simp only [List.getD_cons_zero, List.getD_cons_succ, Nat.reduceAdd, flowAt]
            rintro vg rfl
            refine ⟨fun hg => ?_, fun hg => ?_⟩ <;> simp at hg
            go_simp
            exact ⟨Ext.refl _, by first | rfl | trivial⟩
          · rintro ρ w1 hw hcst hfn hk
            simp only [known, List.getD_cons_zero, List.getD_cons_succ, Nat.reduceAdd] at hk
            simp only [List.getD_cons_zero, List.getD_cons_succ, Nat.reduceAdd, flowAt]
            rintro vg rfl
            refine ⟨fun hg => ?_, fun hg => ?_⟩ <;> simp at hg
            go_simp
            exact flow_dr (HF1.out _ (hX.drew.trans hw))
          · rintro ρ w1 hw hcst hfn hk
            clear hw
            simp only [known, List.getD_cons_zero, List.getD_cons_succ, Nat.reduceAdd] at hk
            simp only [List.getD_cons_zero, List.getD_cons_succ, Nat.reduceAdd, flowAt]
            go_simp
            exact ⟨Ext.refl _, by first | rfl | trivial⟩
          · rintro ρ w1 hw hcst hfn hk
            clear hw
            simp only [known, List.getD_cons_zero, List.getD_cons_succ, Nat.reduceAdd] at hk
            simp only [List.getD_cons_zero, List.getD_cons_succ, Nat.reduceAdd, flowAt]
            go_simp
            exact ⟨Ext.refl _, by first | rfl | trivial⟩
          · rintro ρ w1 hw hcst hfn hk
            clear hw
            simp only [known, List.getD_cons_zero, List.getD_cons_succ, Nat.reduceAdd] at hk
            simp only [List.getD_cons_zero, List.getD_cons_succ, Nat.reduceAdd, flowAt]
            rintro vg rfl
            refine ⟨fun hg => ?_, fun hg => ?_⟩ <;> simp at hg
            go_simp
            exact ⟨Ext.refl _, by first | rfl | trivial⟩
          · rintro ρ w1 hw hcst hfn hk
            clear hw
            simp only [known, List.getD_cons_zero, List.getD_cons_succ, Nat.reduceAdd] at hk
            simp only [List.getD_cons_zero, List.getD_cons_succ, Nat.reduceAdd, flowAt]
            rintro vg rfl
            refine ⟨fun hg => ?_, fun hg => ?_⟩ <;> simp at hg
            go_simp
            exact ⟨Ext.refl _, by first | rfl | trivial⟩
          · rintro ρ w1 hw hcst hfn hk
            have c0 := hw.cell (b := w.heap.size) (o := 0) (v := .int .i64 r) (by first | (simp [*]; done) | (simp [*, go_sem]; done) | go_cell)
            clear hw
            simp only [known, List.getD_cons_zero, List.getD_cons_succ, Nat.reduceAdd] at hk
            simp only [List.getD_cons_zero, List.getD_cons_succ, Nat.reduceAdd, flowAt]
            rintro vg rfl
            refine ⟨fun hg => ?_, fun hg => ?_⟩ <;> simp at hg
            go_simp
            exact ⟨Ext.refl _, by first | rfl | trivial⟩
          · rintro ρ w1 hw hcst hfn hk
            clear hw
            simp only [known, List.getD_cons_zero, List.getD_cons_succ, Nat.reduceAdd] at hk
            simp only [List.getD_cons_zero, List.getD_cons_succ, Nat.reduceAdd, flowAt]
            rintro vg rfl
            refine ⟨fun hg => ?_, fun hg => ?_⟩ <;> simp at hg
            go_simp
            exact ⟨Ext.refl _, by first | rfl | trivial⟩
          · rintro ρ w1 hw hcst hfn hk
            have c0 := hw.cell (b := w.heap.size) (o := 1) (v := .int .i64 c) (by first | (simp [*]; done) | (simp [*, go_sem]; done) | go_cell)
            clear hw
            simp only [known, List.getD_cons_zero, List.getD_cons_succ, Nat.reduceAdd] at hk
            simp only [List.getD_cons_zero, List.getD_cons_succ, Nat.reduceAdd, flowAt]
            rintro vg rfl
            refine ⟨fun hg => ?_, fun hg => ?_⟩ <;> simp at hg
            go_simp
            exact ⟨Ext.refl _, by first | rfl | trivial⟩
          · rintro ρ w1 hw hcst hfn hk
            clear hw
            simp only [known, List.getD_cons_zero, List.getD_cons_succ, Nat.reduceAdd] at hk
            simp only [List.getD_cons_zero, List.getD_cons_succ, Nat.reduceAdd, flowAt]
            rintro vg rfl
            refine ⟨fun hg => ?_, fun hg => ?_⟩ <;> simp at hg
            go_simp
            exact ⟨Ext.refl _, by first | rfl | trivial⟩
          · rintro ρ w1 hw hcst hfn hk
            clear hw
            simp only [known, List.getD_cons_zero, List.getD_cons_succ, Nat.reduceAdd] at hk
            simp only [List.getD_cons_zero, List.getD_cons_succ, Nat.reduceAdd, flowAt]
            rintro vg rfl
            refine ⟨fun hg => ?_, fun hg => ?_⟩ <;> simp at hg
            go_simp
            exact ⟨Ext.refl _, by first | rfl | trivial⟩
          · rintro ρ w1 hw hcst hfn hk
            simp only [known, List.getD_cons_zero, List.getD_cons_succ, Nat.reduceAdd] at hk
            simp only [List.getD_cons_zero, List.getD_cons_succ, Nat.reduceAdd, flowAt]
            rintro vg rfl
            refine ⟨fun hg => ?_, fun hg => ?_⟩ <;> simp at hg
            go_simp
            exact flow_dr (HF2.out _ (hX.drew.trans hw))
          · rintro ρ w1 hw hcst hfn hk
            clear hw
            simp only [known, List.getD_cons_zero, List.getD_cons_succ, Nat.reduceAdd] at hk
            simp only [List.getD_cons_zero, List.getD_cons_succ, Nat.reduceAdd, flowAt]
            go_simp
            exact ⟨Ext.refl _, by first | rfl | trivial⟩
        intro vs w1 hw hf
        simp only [flowFacts, Nat.reduceAdd] at hf
        obtain ⟨e0, e1, e2, e3, e4, e5, e6, e7, e8, e9, e10, e11, e12, e13, e14, e15, e16, e17, e18, e19, e20, e21, e22, e23, e24, e25, e26, e27, e28, e29, e30, e31, e32, e33, e34, e35, e36, -⟩ := hf
        simp only [List.take_succ_cons, List.take_zero, List.drop_succ_cons, List.drop_zero, putAll, Act.put, Nat.reduceAdd, List.setIfInBounds_toArray, List.set_cons_zero, List.set_cons_succ, e0, e1, e2, e3, e4, e5, e6, e7, e8, e9, e10, e11, e12, e13, e14, e15, e16, e17, e18, e19, e20, e21, e22, e23, e24, e25, e26, e27, e28, e29, e30, e31, e32, e33, e34, e35, e36]
        clear e0 e1 e2 e3 e4 e5 e6 e7 e8 e9 e10 e11 e12 e13 e14 e15 e16 e17 e18 e19 e20 e21 e22 e23 e24 e25 e26 e27 e28 e29 e30 e31 e32 e33 e34 e35 e36
        clear q1 q2 q3
        have a0 := hw.cell (b := w.heap.size) (o := 0) (v := .int .i64 r) (by simp)
        have a1 := hw.cell (b := w.heap.size) (o := 1) (v := .int .i64 c) (by simp)
        have a3 := hw.cell (b := w.heap.size) (o := 3) (v := .string s) (by simp)
        replace hX := hX.drew.trans hw
        clear hw HI HF1 HF2
        obtain ⟨g, hg⟩ : ∃ g : Nat → Int, (fun i : Nat => sqAt n cs r (c + (i : Nat))) = g := ⟨_, rfl⟩
        have HG : Hid (∀ i : Nat, sqAt n cs r (c + (i : Nat)) = g i) := hid (fun i => by rw [← hg])
        rw [hg] at H
        clear hg
        have HY := hid (@fitB_yes g s)
        have HN := hid (fun i => @fitB_no g s i)
        have HA := hid (anyF_succ g)
        have HFB : Hid (∀ x, freeB x = decide (x = 46)) := hid (fun x => rfl)
        have HBA := hid (bAt_eq s)
        go_wp2_with fail
        go_loopw [6, 7] (fun f i wr => ∃ k : Nat, k ≤ s.size ∧ i = .int .i64 k ∧ f = .bool (anyF g k) ∧ Hid (∀ j, j < k → (freeB (g j) || decide (g j = (bAt s j).toNat)) = true) ∧ Ext w1 wr) (fun _ i _ => s.size - (intOf i).toNat)
        case atStart => exact ⟨0, by omega, rfl, rfl, hid (fun j hj => by omega), Ext.refl _⟩
        case round =>
          obtain ⟨k, hk, rfl, rfl, hall, hx⟩ := hrel
          have hE1 := hX.trans hx
          replace a0 := hx.cell a0
          replace a1 := hx.cell a1
          replace a3 := hx.cell a3
          by_cases hlt : k < s.size
          · have HGk := HG.out k
            have HIn : Hid (inRC n r (c + (k : Int)) = true) := hid (by simp [inRC, inB]; omega)
            have HCk := hid (fun w' h => l11At_any b o n p cs r (c + (k : Int)) w' h h1 h2 HC.out HIn.out)
            rw [HGk] at HCk
            obtain ⟨x, hxg⟩ : ∃ x, g k = x := ⟨_, rfl⟩
            rw [hxg] at HCk
            have HX := hid hxg
            clear hxg HGk
            go_wp2_with fail
            refine (HCk.out _ (HB.out _ hE1)).mono ?_
            rintro e w4 ⟨rfl, hD⟩
            have hz := hD.ext
            have hzE := hx.trans hz
            replace a0 := hz.cell a0
            replace a1 := hz.cell a1
            replace a3 := hz.cell a3
            clear hz hD HCk
            by_cases h46 : x = 46
            · subst h46
              have HF : Hid (freeB (g k) = true) := hid (by rw [HX.out]; rfl)
              go_wp2_with fail
              go_roundw
              case rel => exact ⟨k + 1, by omega, by go_num, by rw [HA.out k, HF.out, Bool.or_true], hid (fun j hj => by
                by_cases hjk : j = k
                · subst hjk; rw [HF.out]; rfl
                · exact hall.out j (by omega)), hzE⟩
              case measure => simp [intOf]; omega
            · have HF : Hid (freeB (g k) = false) := hid (by rw [HFB.out, HX.out, decide_eq_false h46])
              have q46 : (x == 46) = false := by simpa using h46
              have HB2 := hid (HBA.out k hlt)
              clear h46
              obtain ⟨y, hy⟩ : ∃ y, s[k] = y := ⟨_, rfl⟩
              have HY1 := hid hy
              by_cases hne : x = (y.toNat : Int)
              · have HQ : Hid (g k = (bAt s k).toNat) := hid (by rw [← HB2.out, HY1.out, HX.out, hne])
                subst hne
                go_wp2_with fail
                go_roundw
                case rel => exact ⟨k + 1, by omega, by go_num, by rw [HA.out k, HF.out, Bool.or_false], hid (fun j hj => by
                  by_cases hjk : j = k
                  · subst hjk; rw [decide_eq_true HQ.out, Bool.or_true]
                  · exact hall.out j (by omega)), hzE⟩
                case measure => simp [intOf]; omega
              · have HQ : Hid (g k ≠ (bAt s k).toNat) := hid (by rw [← HB2.out, HY1.out, HX.out]; exact hne)
                have qne : (x != (y.toNat : Int)) = true := by simpa using hne
                clear hne
                go_wp2_with fail
                go_returns
                exact ⟨ret_bool (by rw [H.out, HN.out k hlt HF.out HQ.out]; rfl), hX.trans hzE⟩
          · obtain rfl : k = s.size := by omega
            go_wp2_with fail
            go_returns
            exact ⟨ret_bool (by rw [H.out, HY.out (fun i hi => hall.out i hi)]; rfl), hE1⟩
end Go.Proofs.YtcgedkpbobgkhaaGreatDoor
