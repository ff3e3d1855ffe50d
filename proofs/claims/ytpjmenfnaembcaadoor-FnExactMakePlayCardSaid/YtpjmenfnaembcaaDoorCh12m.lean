/- MakePlay, by the program. Conditions stand at each. -/
import Derived.Test.YtpjmenfnaembcaaDoorCh12l
import Derived.Test.YtpjmenfnaembcaaDoorMarkB
namespace Go.Proofs.YtpjmenfnaembcaaDoor
set_option linter.unusedVariables false
set_option linter.unusedSimpArgs false
open Go Go.RowKit
theorem Wr.blocks {w w' : World} {g : Nat} {xs : List Value} (h : Wr w g xs) (hn : 0 < xs.length) (k : ∀ (q : Nat) (cur : Array Value) (e' : TypeId) (fz : Nat × Nat), w.heap[q]? = some (Obj.cells cur e' fz) → w'.heap[q]? = w.heap[q]?) : Wr w' g xs := by
  have h0 := h.2.1 0 xs[0] (List.getElem?_eq_getElem hn)
  obtain ⟨cur, e', fz, hb⟩ : ∃ cur e' fz, w.heap[g]? = some (Obj.cells cur e' fz) := by
    unfold World.cell? at h0
    split at h0
    · rename_i c e f hb
      exact ⟨c, e, f, hb⟩
    · simp at h0
  have he := k g cur e' fz hb
  refine ⟨?_, fun j u hj => ?_, fun j hj => ?_⟩
  · have : w'.heap[g]? = some (Obj.cells cur e' fz) := by rw [he, hb]
    exact (Array.getElem?_eq_some_iff.1 this).1
  · rw [← h.2.1 j u hj]
    simp only [World.cell?, he]
  · rw [← h.2.2 j hj]
    simp only [World.frozen?, he]
theorem iterAt_exc {w w' : World} {g b : Nat} {s : ByteArray} {k' : Nat} (hx : Exc g w w') (hb : w.heap.size ≤ b) : Exc g w (w'.iterAt b s k') :=
  ⟨hx.os, hx.tape, hx.output, Nat.le_trans hx.size (by simp [World.iterAt]), fun j hj hg => by rw [← hx.block j hj hg]; simp [World.iterAt, Array.getElem?_modify, Array.getElem?_set, Array.getElem?_setIfInBounds]; omega⟩
theorem bytesV_put (l : List UInt8) (k : Nat) (u : UInt8) : (bytesV l).set k (.int .u8 (u.toNat : Int)) = bytesV (l.set k u) := by
  rw [bytesV, bytesV, List.map_set]
theorem iter_set {w : World} {b g q : Nat} {s : ByteArray} {k : Nat} {u : Value} (h : w.heap[b]? = some (.stringIter s k)) (hg : g ≠ b) : (w.setCell ⟨g, q, none⟩ u).heap[b]? = some (.stringIter s k) := by
  rw [← h]
  simp [World.setCell, Array.getElem?_modify, hg]
set_option maxRecDepth 100000 in
set_option maxHeartbeats 2000000 in
theorem made_any (n : Int) (p cs : ByteArray) (r c : Int) (d : Bool) (s : ByteArray) (w : World) (h1 : 5 ≤ n) (h2 : n ≤ 15) (hc : (cs.size : Int) = n * n) (hin : inRC n r c = true) (hl : (if d then r else c) + (s.size : Int) ≤ n) (hm : allB letterB s = true) :
    Calls Tryd.prog 33 #[boardV n p cs, playV r c d s] w (Ret (boardV n p (layL n cs r c d s s.size)) w) := by
  obtain ⟨r1, r2, r3, r4⟩ := inRC_true hin
  have hs15 : s.size ≤ 15 := by cases d <;> simp at hl <;> omega
  have HA := hid (main_ascii hm)
  have HIX := hid (fun (i : Nat) (hi : i < s.size) => sq_index h1 h2 hc (sq_in hin hl i hi))
  have HIN := hid (fun (i : Nat) (hi : i < s.size) => inRC_true (sq_in hin hl i hi))
  have HST : Hid (∀ (k q : Nat) (hk : k < s.size), (sqR r d k * n + sqC c d k) = (q : Int) → (layL n cs r c d s (k + 1)).data.toList = (layL n cs r c d s k).data.toList.set q s[k]) := hid (fun k q hk e => by
    rw [layL, e, ← bAt_eq s k hk]
    simp [setS])
  have HLS : Hid (∀ k, (layL n cs r c d s k).data.toList.length = cs.size) := hid (fun k => by
    have := layL_size n cs r c d s k
    simpa using this)
  have HZ : Hid (0 < cs.size) := hid (by have := sq_le h1 h2; have : 25 ≤ n * n := Int.mul_le_mul h1 h1 (by omega) (by omega); omega)
  have hcs : cs.size ≤ 225 := by have := (sq_le h1 h2).2; omega
  clear hc hin hm hl
  go_enter Tryd.func33, Tryd.ntmps33
  go_wp2_with (refine wpList_bytes rfl _ 9 64 rfl Tryd.underlying9 Tryd.underlying64 Tryd.underlying5 rfl ?_
               intro cp w1 hwr hcap hx hsz1
               have HW := hid hwr
               have HX := hid hx
               have b3 := hx.cell (b := w.heap.size + 1) (o := 3) (v := .string s) (by go_cell)
               have HSZ := hid hsz1
               clear hwr hx hcap hsz1)
  have hsz1 : w1.heap.size ≤ w.heap.size + 4 ∧ w.heap.size + 4 ≤ w1.heap.size := by
    have := HSZ.out
    simp only [World.size_alloc] at this
    omega
  have HWc : Hid (Wr w1 (w.heap.size + 3) (bytesV cs.data.toList)) := hid (by
    have := HW.out
    simp only [World.size_alloc] at this
    exact this)
  have hx := HX.out
  have HX0 : Hid (Ext w w1) := hid ((((Ext.refl w).alloc _).alloc _).alloc _ |>.trans HX.out)
  have a0 := hx.cell (b := w.heap.size) (o := 0) (v := .int .i64 n) (by go_cell)
  have a1 := hx.cell (b := w.heap.size) (o := 1) (v := .string p) (by go_cell)
  have a2 := hx.cell (b := w.heap.size) (o := 2) (v := .string cs) (by go_cell)
  have af : ∀ j, w1.frozen? ⟨w.heap.size, j, none⟩ = false := fun j => by rw [hx.cells.2 _ _ (by simp only [World.size_alloc]; omega)]; go_cell
  have b0 := hx.cell (b := w.heap.size + 1) (o := 0) (v := .int .i64 r) (by go_cell)
  have b1 := hx.cell (b := w.heap.size + 1) (o := 1) (v := .int .i64 c) (by go_cell)
  have b2 := hx.cell (b := w.heap.size + 1) (o := 2) (v := .bool d) (by go_cell)
  have u0 := hx.cell (b := w.heap.size + 2) (o := 0) (v := .int .i64 0) (by go_cell)
  have u1 := hx.cell (b := w.heap.size + 2) (o := 1) (v := .string ⟨#[]⟩) (by go_cell)
  have u2 := hx.cell (b := w.heap.size + 2) (o := 2) (v := .string ⟨#[]⟩) (by go_cell)
  have uf : ∀ j, w1.frozen? ⟨w.heap.size + 2, j, none⟩ = false := fun j => by rw [hx.cells.2 _ _ (by simp only [World.size_alloc]; omega)]; go_cell
  clear hx
  have HA0 := hid (And.intro a0 (And.intro a1 a2))
  have HB0 := hid (And.intro b0 (And.intro b1 (And.intro b2 b3)))
  have HU0 := hid (And.intro u0 (And.intro u1 u2))
  have HF0 := hid (And.intro af uf)
  go_loopw [6] (fun _ wr => ∃ k : Nat, k ≤ s.size ∧ wr.heap[w1.heap.size]? = some (.stringIter s k) ∧ Hid (Wr wr (w.heap.size + 3) (bytesV (layL n cs r c d s k).data.toList)) ∧ Hid (Exc (w.heap.size + 3) w1 wr)) (fun _ wr => s.size - wr.iterPos w1.heap.size)
  case atStart => exact ⟨0, by omega, iter_heap_at _ s _ rfl, hid (HWc.out.ext ((Ext.refl _).alloc _)), hid ((Exc.refl _ _).ext ((Ext.refl _).alloc _))⟩
  case round =>
    clear HW HWc HX HSZ
    obtain ⟨k, hk, hit, hwr, hexc⟩ := hrel
    have hsz := hexc.out.size
    by_cases hlt : k < s.size
    · have hnx : ∀ ty, (Instr.next (.pointer (some ⟨w1.heap.size, 0, none⟩)) true ty).run Tryd.prog wr = _ := fun ty => Go.Lib.run_next_ascii_at wr w1.heap.size s k ty hit hlt (HA.out k hlt)
      have hit2 := Go.Lib.iterAt_heap wr w1.heap.size s k (k + 1) hit
      have HW2 := hid (hwr.out.blocks (by rw [bytesV_length, HLS.out]; exact HZ.out) (iterAt_cells (k' := k + 1) hit))
      have HE2 := hid (iterAt_exc (s := s) (k' := k + 1) hexc.out (Nat.le_refl _))
      have HM1 := hid (iterPos_of hit)
      have hsW : wr.heap.size = (wr.iterAt w1.heap.size s (k + 1)).heap.size := by simp [World.iterAt]
      obtain ⟨W, hW⟩ : ∃ W, wr.iterAt w1.heap.size s (k + 1) = W := ⟨_, rfl⟩
      rw [hW] at hnx hit2 HW2 HE2 hsW
      clear hW hit hwr hexc a0 a1 a2 b0 b1 b2 b3 u0 u1 u2 af uf
      have a0 := HE2.out.cell HA0.out.1 (by omega)
      have a1 := HE2.out.cell HA0.out.2.1 (by omega)
      have a2 := HE2.out.cell HA0.out.2.2 (by omega)
      have b0 := HE2.out.cell HB0.out.1 (by omega)
      have b1 := HE2.out.cell HB0.out.2.1 (by omega)
      have b2 := HE2.out.cell HB0.out.2.2.1 (by omega)
      have b3 := HE2.out.cell HB0.out.2.2.2 (by omega)
      have HSq := hid (fun w' => square_any r c d s (k : Int) w' (by omega) (by omega) (by omega))
      obtain ⟨i1, i2, i3, i4, i5⟩ := HIX.out k hlt
      have HST1 := hid (fun q => HST.out k q hlt)
      obtain ⟨R1, hR1⟩ : ∃ R1, sqR r d (k : Int) = R1 := ⟨_, rfl⟩
      obtain ⟨C1, hC1⟩ : ∃ C1, sqC c d (k : Int) = C1 := ⟨_, rfl⟩
      rw [hR1, hC1] at HSq HST1 i3 i4 i5
      rw [hR1] at i1 i2
      obtain ⟨q, hq⟩ : ∃ q : Nat, R1 * n + C1 = (q : Int) := ⟨(R1 * n + C1).toNat, by omega⟩
      have HST2 := hid (HST1.out q hq)
      rw [hq] at i4
      have hqc : q < cs.size := by omega
      clear hR1 hC1 HST1 i3 i5
      go_wp2_with fail
      refine (HSq.out _).mono ?_
      rintro e w2 ⟨rfl, hy⟩
      obtain ⟨W3, hW3⟩ : ∃ W3, w2.alloc (.cells #[.int .i64 R1, .int .i64 C1] 56) = W3 := ⟨_, rfl⟩
      have hxy : Ext W W3 := by rw [← hW3]; exact hy.alloc _
      have t0 : W3.cell? ⟨w2.heap.size, 0, none⟩ = some (.int .i64 R1) := by rw [← hW3]; simp
      have t1 : W3.cell? ⟨w2.heap.size, 1, none⟩ = some (.int .i64 C1) := by rw [← hW3]; simp
      replace a0 := hxy.cell a0
      replace a1 := hxy.cell a1
      replace a2 := hxy.cell a2
      replace b0 := hxy.cell b0
      replace b1 := hxy.cell b1
      replace b2 := hxy.cell b2
      replace b3 := hxy.cell b3
      have HW3 := hid (HW2.out.ext hxy)
      have HE3 := hid (HE2.out.ext hxy)
      have hit3 := hxy.iter hit2
      have HSW := hid hxy.size
      have hlt2 : w.heap.size + 3 < w2.heap.size := by
        have := hy.size
        omega
      clear hy hxy hit2 HW2 HE2 HSq
      obtain ⟨uu, huu⟩ : ∃ uu, s[k] = uu := ⟨_, rfl⟩
      rw [huu] at HST2
      have q1 : IntKind.i64.wrap (R1 * n) = R1 * n := IntWalk.i64_in _ (by omega)
      have q2 : IntKind.i64.wrap (q : Int) = (q : Int) := IntWalk.i64_in _ (by omega)
      go_wp2_with (rw [hW3]; clear hW3)
      refine wp_region_flow_at (C := Ext) 14 [fun v _ => v = .slice (some ⟨w.heap.size + 3, 0, none⟩) cs.size cp, fun v _ => v = .pointer (some ⟨w2.heap.size, 0, none⟩), fun v _ => v = .int .i64 R1, fun v _ => v = .pointer (some ⟨w.heap.size, 0, none⟩), fun v _ => v = .int .i64 n, fun v _ => v = .int .i64 (R1 * n), fun v _ => v = .pointer (some ⟨w2.heap.size, 1, none⟩), fun v _ => v = .int .i64 C1, fun v _ => v = .int .i64 (q : Int), fun v _ => v = .pointer (some ⟨(w.heap.size + 1), 3, none⟩), fun v _ => v = .string s, fun v _ => v = .int .i64 (k : Int), fun v _ => v = .int .u8 (uu.toNat : Int), fun v _ => v = .pointer (some ⟨(w.heap.size + 3), q, none⟩)]
        [[(5, none)], [(7, none)], [(21, some 1)], [(2, none)], [(23, some 3)], [(22, some 2), (24, some 4)], [(7, none)], [(26, some 6)], [(25, some 5), (27, some 7)], [(3, none)], [(29, some 9)], [(6, none)], [(30, some 10), (31, some 11)], [(20, some 0), (28, some 8)]] (by kernel_rfl) (by kernel_rfl) Ext.refl (fun _ _ _ => Ext.trans) ?_ ?_ ?_
      · intro F hF
        simp only [List.mem_cons, List.not_mem_nil, or_false] at hF
        rcases hF with rfl | rfl | rfl | rfl | rfl | rfl | rfl | rfl | rfl | rfl | rfl | rfl | rfl | rfl <;> exact fun _ _ _ h _ => h
      · refine ⟨?_, ?_, ?_, ?_, ?_, ?_, ?_, ?_, ?_, ?_, ?_, ?_, ?_, ?_, trivial⟩
        · rintro ρ w1 hw hcst hfn hk
          clear hw
          simp only [known, List.getD_cons_zero, List.getD_cons_succ, Nat.reduceAdd] at hk
          simp only [List.getD_cons_zero, List.getD_cons_succ, Nat.reduceAdd, flowAt]
          go_simp
          exact ⟨Ext.refl _, rfl⟩
        · rintro ρ w1 hw hcst hfn hk
          clear hw
          simp only [known, List.getD_cons_zero, List.getD_cons_succ, Nat.reduceAdd] at hk
          simp only [List.getD_cons_zero, List.getD_cons_succ, Nat.reduceAdd, flowAt]
          go_simp
          exact ⟨Ext.refl _, rfl⟩
        · rintro ρ w1 hw hcst hfn hk
          have c0 := hw.cell (b := w2.heap.size) (o := 0) (v := .int .i64 R1) (by first | (simp [*]; done) | (simp [*, go_sem]; done) | go_cell)
          clear hw
          simp only [known, List.getD_cons_zero, List.getD_cons_succ, Nat.reduceAdd] at hk
          simp only [List.getD_cons_zero, List.getD_cons_succ, Nat.reduceAdd, flowAt]
          go_simp
          exact ⟨Ext.refl _, rfl⟩
        · rintro ρ w1 hw hcst hfn hk
          clear hw
          simp only [known, List.getD_cons_zero, List.getD_cons_succ, Nat.reduceAdd] at hk
          simp only [List.getD_cons_zero, List.getD_cons_succ, Nat.reduceAdd, flowAt]
          go_simp
          exact ⟨Ext.refl _, rfl⟩
        · rintro ρ w1 hw hcst hfn hk
          have c0 := hw.cell (b := w.heap.size) (o := 0) (v := .int .i64 n) (by first | (simp [*]; done) | (simp [*, go_sem]; done) | go_cell)
          clear hw
          simp only [known, List.getD_cons_zero, List.getD_cons_succ, Nat.reduceAdd] at hk
          simp only [List.getD_cons_zero, List.getD_cons_succ, Nat.reduceAdd, flowAt]
          go_simp
          exact ⟨Ext.refl _, rfl⟩
        · rintro ρ w1 hw hcst hfn hk
          clear hw
          simp only [known, List.getD_cons_zero, List.getD_cons_succ, Nat.reduceAdd] at hk
          simp only [List.getD_cons_zero, List.getD_cons_succ, Nat.reduceAdd, flowAt]
          go_simp
          exact ⟨Ext.refl _, rfl⟩
        · rintro ρ w1 hw hcst hfn hk
          clear hw
          simp only [known, List.getD_cons_zero, List.getD_cons_succ, Nat.reduceAdd] at hk
          simp only [List.getD_cons_zero, List.getD_cons_succ, Nat.reduceAdd, flowAt]
          go_simp
          exact ⟨Ext.refl _, rfl⟩
        · rintro ρ w1 hw hcst hfn hk
          have c0 := hw.cell (b := w2.heap.size) (o := 1) (v := .int .i64 C1) (by first | (simp [*]; done) | (simp [*, go_sem]; done) | go_cell)
          clear hw
          simp only [known, List.getD_cons_zero, List.getD_cons_succ, Nat.reduceAdd] at hk
          simp only [List.getD_cons_zero, List.getD_cons_succ, Nat.reduceAdd, flowAt]
          go_simp
          exact ⟨Ext.refl _, rfl⟩
        · rintro ρ w1 hw hcst hfn hk
          simp only [known, List.getD_cons_zero, List.getD_cons_succ, Nat.reduceAdd] at hk
          simp only [List.getD_cons_zero, List.getD_cons_succ, Nat.reduceAdd, flowAt]
          go_simp
          exact ⟨Ext.refl _, by first | rfl | rw [q2] | rw [hq, q2]⟩
        · rintro ρ w1 hw hcst hfn hk
          clear hw
          simp only [known, List.getD_cons_zero, List.getD_cons_succ, Nat.reduceAdd] at hk
          simp only [List.getD_cons_zero, List.getD_cons_succ, Nat.reduceAdd, flowAt]
          go_simp
          exact ⟨Ext.refl _, rfl⟩
        · rintro ρ w1 hw hcst hfn hk
          have c0 := hw.cell (b := (w.heap.size + 1)) (o := 3) (v := .string s) (by first | (simp [*]; done) | (simp [*, go_sem]; done) | go_cell)
          clear hw
          simp only [known, List.getD_cons_zero, List.getD_cons_succ, Nat.reduceAdd] at hk
          simp only [List.getD_cons_zero, List.getD_cons_succ, Nat.reduceAdd, flowAt]
          go_simp
          exact ⟨Ext.refl _, rfl⟩
        · rintro ρ w1 hw hcst hfn hk
          clear hw
          simp only [known, List.getD_cons_zero, List.getD_cons_succ, Nat.reduceAdd] at hk
          simp only [List.getD_cons_zero, List.getD_cons_succ, Nat.reduceAdd, flowAt]
          go_simp
          exact ⟨Ext.refl _, rfl⟩
        · rintro ρ w1 hw hcst hfn hk
          simp only [known, List.getD_cons_zero, List.getD_cons_succ, Nat.reduceAdd] at hk
          simp only [List.getD_cons_zero, List.getD_cons_succ, Nat.reduceAdd, flowAt]
          go_simp
          exact ⟨Ext.refl _, by first | rfl | rw [huu]⟩
        · rintro ρ w1 hw hcst hfn hk
          simp only [known, List.getD_cons_zero, List.getD_cons_succ, Nat.reduceAdd] at hk
          simp only [List.getD_cons_zero, List.getD_cons_succ, Nat.reduceAdd, flowAt]
          go_simp
          exact ⟨Ext.refl _, by first | rfl | simp⟩
      intro vs w1 hw hf
      simp only [flowFacts, Nat.reduceAdd] at hf
      obtain ⟨e0, e1, e2, e3, e4, e5, e6, e7, e8, e9, e10, e11, e12, e13, -⟩ := hf
      simp only [List.take_succ_cons, List.take_zero, List.drop_succ_cons, List.drop_zero, putAll, Act.put, Nat.reduceAdd, List.setIfInBounds_toArray, List.set_cons_zero, List.set_cons_succ, e0, e1, e2, e3, e4, e5, e6, e7, e8, e9, e10, e11, e12, e13]
      clear e0 e1 e2 e3 e4 e5 e6 e7 e8 e9 e10 e11 e12 e13
      have hx4 := (Ext.refl _).drew.trans hw
      have HW5 := hid (HW3.out.ext hx4)
      obtain ⟨g1, g2⟩ := HW5.out.fit q (by rw [bytesV_length, HLS.out]; exact hqc)
      have HW6 := hid (HW5.out.set q (by rw [bytesV_length, HLS.out]; exact hqc) (.int .u8 (uu.toNat : Int)))
      rw [bytesV_put, ← HST2.out] at HW6
      obtain ⟨f, hf⟩ : ∃ f, (bytesV (layL n cs r c d s k).data.toList)[q]'(by rw [bytesV_length, HLS.out]; exact hqc) = f := ⟨_, rfl⟩
      rw [hf] at g1
      have hit4 := hx4.iter hit3
      have HE4 := hid (HE3.out.ext hx4)
      clear hf hw hx4 hit3 HE3 HW3 a0 a1 a2 b0 b1 b2 b3 t0 t1 q1 q2 HW5
      go_wp2_with fail
      have hit5 := iter_set (g := w.heap.size + 3) (q := q) (u := .int .u8 (uu.toNat : Int)) hit4 (by omega)
      refine ⟨⟨k + 1, by omega, hit5, HW6, hid (HE4.out.setCell _ _)⟩, ?_⟩
      rw [iterPos_of hit5, HM1.out]
      omega
    · obtain rfl : k = s.size := by omega
      have hnx : ∀ ty, (Instr.next (.pointer (some ⟨w1.heap.size, 0, none⟩)) true ty).run Tryd.prog wr = _ := fun ty => Go.Lib.run_next_end_at wr w1.heap.size s s.size ty hit hlt
      clear a0 a1 a2 b0 b1 b2 b3 u0 u1 u2 af uf
      have a0 := hexc.out.cell HA0.out.1 (by omega)
      have a1 := hexc.out.cell HA0.out.2.1 (by omega)
      have a2 := hexc.out.cell HA0.out.2.2 (by omega)
      have u0 := hexc.out.cell HU0.out.1 (by omega)
      have u1 := hexc.out.cell HU0.out.2.1 (by omega)
      have u2 := hexc.out.cell HU0.out.2.2 (by omega)
      have af : ∀ j, wr.frozen? ⟨w.heap.size, j, none⟩ = false := fun j => by rw [hexc.out.frozen j (by omega) (by omega)]; exact HF0.out.1 j
      have uf : ∀ j, wr.frozen? ⟨w.heap.size + 2, j, none⟩ = false := fun j => by rw [hexc.out.frozen j (by omega) (by omega)]; exact HF0.out.2 j
      have hE : Ext w wr := (Exb.of_exc (lo := w.heap.size + 3) (hi := w.heap.size + 4) hexc.out (Nat.le_refl _) (by omega)).ext0 HX0.out (by omega)
      have HB := hid (show (⟨(layL n cs r c d s s.size).data.toList.toArray⟩ : ByteArray) = layL n cs r c d s s.size by simp)
      have HR := hid hwr.out.rd
      have HL := hid (HLS.out s.size).symm
      obtain ⟨L, hL⟩ : ∃ L, (layL n cs r c d s s.size).data.toList = L := ⟨_, rfl⟩
      obtain ⟨X, hX⟩ : ∃ X, layL n cs r c d s s.size = X := ⟨_, rfl⟩
      rw [hL] at HB HR HL
      rw [hX] at HB
      have HXX := hid hX
      clear hL hX hwr hexc hit HLS HST HIX HIN
      have hzw := hE.size
      go_wp2_with (refine wpList_str rfl _ 64 9 rfl Tryd.underlying64 Tryd.underlying5 Tryd.underlying9 rfl (l := L) HL.out HR.out ?_; rw [HB.out])
      refine bodyPost_ret (v := boardV n p X) (by simp [results, Tryd.results33, go_sem, a0, a1, a2, af, u0, u1, u2, uf, boardV]) rfl ⟨by rw [HXX.out], ((((hE.setCell (by first | (simp; done) | (simp only []; omega) | (simp; omega)) _).setCell (by first | (simp; done) | (simp only []; omega) | (simp; omega)) _).setCell (by first | (simp; done) | (simp only []; omega) | (simp; omega)) _).setCell (by first | (simp; done) | (simp only []; omega) | (simp; omega)) _)⟩
end Go.Proofs.YtpjmenfnaembcaaDoor
