/- Plays that are valid on a valid board, by the program. Conditions: at most 2^20 bytes; the library's tables as they were laid. -/
import Derived.Test.YtcgedkpbobgkhaaGreatDoorCh12c
namespace Go.Proofs.YtcgedkpbobgkhaaGreatDoor
set_option linter.unusedVariables false
set_option linter.unusedSimpArgs false
open Go Go.RowKit
theorem plAt_sq (n : Int) (cs : ByteArray) (r c : Int) (d : Bool) (i : Int) : plAt n cs r c d i = sqAt n cs (sqR r d i) (sqC c d i) := by
  cases d <;> rfl
theorem last_in {n r c : Int} {d : Bool} {m : Nat} (hr : inRC n r c = true) (hm : 1 ≤ m) : inRC n (sqR r d ((m : Int) - 1)) (sqC c d ((m : Int) - 1)) = decide ((if d then r else c) + (m : Int) ≤ n) := by
  obtain ⟨a1, a2, a3, a4⟩ := inRC_true hr
  cases d
  · simp only [sqR, sqC, Bool.false_eq_true, if_false, inRC, inB]
    rw [Bool.eq_iff_iff]
    simp
    omega
  · simp only [sqR, sqC, if_true, inRC, inB]
    rw [Bool.eq_iff_iff]
    simp
    omega
theorem mainB_true {s : ByteArray} (h : mainB s = true) : 2 ≤ s.size ∧ s.size ≤ 12 ∧ allB letterB s = true := by
  unfold mainB at h
  rw [Bool.and_eq_true, decide_eq_true_eq] at h
  exact ⟨h.1.1, h.1.2, h.2⟩
theorem allB_at {g : Int → Bool} {s : ByteArray} (h : allB g s = true) (k : Nat) (hk : k < s.size) : g (s[k].toNat : Int) = true := by
  unfold allB at h
  rw [List.all_eq_true] at h
  have h' : k < s.data.size := hk
  exact h s[k] (Array.mem_toList_iff.2 (Array.getElem_mem h'))
set_option maxRecDepth 100000 in
set_option maxHeartbeats 2000000 in
theorem validOn_any (r c : Int) (d : Bool) (s : ByteArray) (n : Int) (p cs : ByteArray) (w : World) (hs : s.size ≤ 1048576) (hT : Tabs w) (h1 : 5 ≤ n) (h2 : n ≤ 15) (hc : (cs.size : Int) = n * n) :
    Calls Tryz.prog 39 #[playV r c d s, boardV n p cs] w (Ret (.bool (playB n cs r c d s)) w) := by
  have H : Hid (playB n cs r c d s = (mainB s && (inRC n r c && (decide ((if d then r else c) + s.size ≤ n) && (!letB (plAt n cs r c d (-1)) && (!letB (plAt n cs r c d s.size) && fitB (fun i => plAt n cs r c d i) s)))))) := hid rfl
  have HT : Hid (∀ w', Ext w w' → Tabs w') := hid (fun w' k => hT.ext k)
  have HC := hid hc
  clear hT hc
  go_enter Tryz.func39, Tryz.ntmps39
  go_wp2_with fail
  refine (isMain_any s _ hs (HT.out _ (((Ext.refl w).alloc _).alloc _))).mono ?_
  rintro e w1 ⟨rfl, hx⟩
  have a0 := hx.cell (b := w.heap.size) (o := 0) (v := .int .i64 r) (by simp)
  have a1 := hx.cell (b := w.heap.size) (o := 1) (v := .int .i64 c) (by simp)
  have a2 := hx.cell (b := w.heap.size) (o := 2) (v := .bool d) (by simp)
  have a3 := hx.cell (b := w.heap.size) (o := 3) (v := .string s) (by simp)
  have b0 := hx.cell (b := w.heap.size + 1) (o := 0) (v := .int .i64 n) (by simp)
  have b1 := hx.cell (b := w.heap.size + 1) (o := 1) (v := .string p) (by simp)
  have b2 := hx.cell (b := w.heap.size + 1) (o := 2) (v := .string cs) (by simp)
  have hE : Ext w w1 := (((Ext.refl w).alloc _).alloc _).trans hx
  clear hx
  cases hm : mainB s
  · have HM := hid hm
    clear hm
    go_wp2_with fail
    go_returns
    exact ⟨ret_bool (by rw [H.out, HM.out]; rfl), hE⟩
  · obtain ⟨m1, m2, m3⟩ := mainB_true hm
    have HM := hid hm
    have ML := hid m3
    clear hm m3
    go_wp2_with fail
    refine (inside_any n p cs r c _ h1 h2).mono ?_
    rintro e w2 ⟨rfl, hx⟩
    replace a0 := hx.cell a0
    replace a1 := hx.cell a1
    replace a2 := hx.cell a2
    replace a3 := hx.cell a3
    replace b0 := hx.cell b0
    replace b1 := hx.cell b1
    replace b2 := hx.cell b2
    replace hE := hE.trans hx
    clear hx
    cases hr : inRC n r c
    · have HR := hid hr
      clear hr
      go_wp2_with fail
      go_returns
      exact ⟨ret_bool (by rw [H.out, HM.out, HR.out]; rfl), hE⟩
    · obtain ⟨r1, r2, r3, r4⟩ := inRC_true hr
      have HR := hid hr
      have HLast := hid (last_in (d := d) (m := s.size) hr (by omega))
      clear hr
      go_wp2_with fail
      refine (square_any r c d s ((s.size : Int) - 1) _ (by omega) (by omega) (by omega)).mono ?_
      rintro e w3 ⟨rfl, hx⟩
      replace a0 := hx.cell a0
      replace a1 := hx.cell a1
      replace a2 := hx.cell a2
      replace a3 := hx.cell a3
      replace b0 := hx.cell b0
      replace b1 := hx.cell b1
      replace b2 := hx.cell b2
      replace hE := hE.trans hx
      clear hx
      obtain ⟨R, hR⟩ : ∃ R, sqR r d ((s.size : Int) - 1) = R := ⟨_, rfl⟩
      obtain ⟨C, hC⟩ : ∃ C, sqC c d ((s.size : Int) - 1) = C := ⟨_, rfl⟩
      rw [hR, hC] at HLast ⊢
      clear hR hC
      have lt0 := World.block_lt_of_cell? _ _ a0
      have lt1 := World.block_lt_of_cell? _ _ b0
      go_wp2_with fail
      have HSb := hid (fun w => square_any r c d s (-1) w (by omega) (by omega) (by omega))
      have HSa := hid (fun w => square_any r c d s (s.size : Int) w (by omega) (by omega) (by omega))
      have HOb := hid (fun w => on_any n p cs (sqR r d (-1)) (sqC c d (-1)) w h1 h2 HC.out)
      have HOa := hid (fun w => on_any n p cs (sqR r d (s.size : Int)) (sqC c d (s.size : Int)) w h1 h2 HC.out)
      have HIl := hid (fun w => inside_any n p cs R C w h1 h2)
      have e1 := plAt_sq n cs r c d (-1)
      have e2 := plAt_sq n cs r c d (s.size : Int)
      rw [← e1] at HOb
      rw [← e2] at HOa
      clear e1 e2
      obtain ⟨vb, hvb⟩ : ∃ vb, letB (plAt n cs r c d (-1)) = vb := ⟨_, rfl⟩
      obtain ⟨va, hva⟩ : ∃ va, letB (plAt n cs r c d (s.size : Int)) = va := ⟨_, rfl⟩
      obtain ⟨vl, hvl⟩ : ∃ vl, inRC n R C = vl := ⟨_, rfl⟩
      rw [hvb] at HOb H
      rw [hva] at HOa H
      rw [hvl] at HIl HLast
      rw [HM.out, HR.out, ← HLast.out] at H
      clear hvb hva hvl HLast
      simp only [Bool.true_and] at H
      cases vl
      case false =>
        refine wp_region_flow_at (C := Ext) 22 [fun v _ => v = .agg #[.int .i64 n, .string p, .string cs], fun v _ => v = .pointer (some ⟨w3.heap.size, 0, none⟩), fun v _ => v = .int .i64 R, fun v _ => v = .pointer (some ⟨w3.heap.size, 1, none⟩), fun v _ => v = .int .i64 C, fun v _ => v = .bool false, fun v _ => v = .bool true, fun v _ => v = .bool true, fun v _ => v = undef, fun v _ => v = undef, fun v _ => v = undef, fun v _ => v = undef, fun v _ => v = .bool true, fun v _ => v = .bool true, fun v _ => v = undef, fun v _ => v = undef, fun v _ => v = undef, fun v _ => v = undef, fun v _ => v = undef, fun v _ => v = undef, fun v _ => v = undef, fun v _ => v = .bool true]
          [[(3, none)], [(5, none)], [(30, some 1)], [(5, none)], [(32, some 3)], [(29, some 0), (31, some 2), (33, some 4)], [(34, some 5)], [(35, some 6)], [(3, none)], [(2, none)], [(38, some 9)], [(37, some 8), (39, some 10)], [(36, some 7), (40, some 11)], [(41, some 12)], [(3, none)], [(2, none)], [(2, none)], [(45, some 16)], [(46, some 17)], [(44, some 15), (47, some 18)], [(43, some 14), (48, some 19)], [(42, some 13), (49, some 20)]] (by kernel_rfl) (by kernel_rfl) Ext.refl (fun _ _ _ => Ext.trans) ?_ ?_ ?_
        · intro F hF
          simp only [List.mem_cons, List.not_mem_nil, or_false] at hF
          rcases hF with rfl | rfl | rfl | rfl | rfl | rfl | rfl | rfl | rfl | rfl | rfl | rfl | rfl | rfl | rfl | rfl | rfl | rfl | rfl | rfl | rfl | rfl <;> exact fun _ _ _ h _ => h
        · refine ⟨?_, ?_, ?_, ?_, ?_, ?_, ?_, ?_, ?_, ?_, ?_, ?_, ?_, ?_, ?_, ?_, ?_, ?_, ?_, ?_, ?_, ?_, trivial⟩
          · rintro ρ w1 hw hcst hfn hk
            have c0 := hw.cell (b := (w.heap.size + 1)) (o := 0) (v := .int .i64 n) (by first | (simp [*]; done) | (simp [*, go_sem]; done) | go_cell)
            have c1 := hw.cell (b := (w.heap.size + 1)) (o := 1) (v := .string p) (by first | (simp [*]; done) | (simp [*, go_sem]; done) | go_cell)
            have c2 := hw.cell (b := (w.heap.size + 1)) (o := 2) (v := .string cs) (by first | (simp [*]; done) | (simp [*, go_sem]; done) | go_cell)
            clear hw
            simp only [known, List.getD_cons_zero, List.getD_cons_succ, Nat.reduceAdd] at hk
            simp only [List.getD_cons_zero, List.getD_cons_succ, Nat.reduceAdd, flowAt]
            go_simp
            exact ⟨Ext.refl _, by first | rfl | trivial⟩
          · rintro ρ w1 hw hcst hfn hk
            clear hw
            simp only [known, List.getD_cons_zero, List.getD_cons_succ, Nat.reduceAdd] at hk
            simp only [List.getD_cons_zero, List.getD_cons_succ, Nat.reduceAdd, flowAt]
            go_simp
            exact ⟨Ext.refl _, by first | rfl | trivial⟩
          · rintro ρ w1 hw hcst hfn hk
            have c0 := hw.cell (b := w3.heap.size) (o := 0) (v := .int .i64 R) (by first | (simp [*]; done) | (simp [*, go_sem]; done) | go_cell)
            clear hw
            simp only [known, List.getD_cons_zero, List.getD_cons_succ, Nat.reduceAdd] at hk
            simp only [List.getD_cons_zero, List.getD_cons_succ, Nat.reduceAdd, flowAt]
            go_simp
            exact ⟨Ext.refl _, by first | rfl | trivial⟩
          · rintro ρ w1 hw hcst hfn hk
            clear hw
            simp only [known, List.getD_cons_zero, List.getD_cons_succ, Nat.reduceAdd] at hk
            simp only [List.getD_cons_zero, List.getD_cons_succ, Nat.reduceAdd, flowAt]
            go_simp
            exact ⟨Ext.refl _, by first | rfl | trivial⟩
          · rintro ρ w1 hw hcst hfn hk
            have c0 := hw.cell (b := w3.heap.size) (o := 1) (v := .int .i64 C) (by first | (simp [*]; done) | (simp [*, go_sem]; done) | go_cell)
            clear hw
            simp only [known, List.getD_cons_zero, List.getD_cons_succ, Nat.reduceAdd] at hk
            simp only [List.getD_cons_zero, List.getD_cons_succ, Nat.reduceAdd, flowAt]
            go_simp
            exact ⟨Ext.refl _, by first | rfl | trivial⟩
          · rintro ρ w1 hw hcst hfn hk
            simp only [known, List.getD_cons_zero, List.getD_cons_succ, Nat.reduceAdd] at hk
            simp only [List.getD_cons_zero, List.getD_cons_succ, Nat.reduceAdd, flowAt]
            go_simp
            exact flow_ret (HIl.out _)
          · rintro ρ w1 hw hcst hfn hk
            clear hw
            simp only [known, List.getD_cons_zero, List.getD_cons_succ, Nat.reduceAdd] at hk
            simp only [List.getD_cons_zero, List.getD_cons_succ, Nat.reduceAdd, flowAt]
            go_simp
            exact ⟨Ext.refl _, by first | rfl | trivial⟩
          · rintro ρ w1 hw hcst hfn hk
            clear hw
            simp only [known, List.getD_cons_zero, List.getD_cons_succ, Nat.reduceAdd] at hk
            simp only [List.getD_cons_zero, List.getD_cons_succ, Nat.reduceAdd, flowAt]
            go_simp
            exact ⟨Ext.refl _, by first | rfl | trivial⟩
          · rintro ρ w1 hw hcst hfn hk
            clear hw
            simp only [known, List.getD_cons_zero, List.getD_cons_succ, Nat.reduceAdd] at hk
            simp only [List.getD_cons_zero, List.getD_cons_succ, Nat.reduceAdd, flowAt]
            rintro vg rfl
            refine ⟨fun hg => ?_, fun hg => ?_⟩ <;> simp at hg
            first | exact trivial | exact rfl
          · rintro ρ w1 hw hcst hfn hk
            clear hw
            simp only [known, List.getD_cons_zero, List.getD_cons_succ, Nat.reduceAdd] at hk
            simp only [List.getD_cons_zero, List.getD_cons_succ, Nat.reduceAdd, flowAt]
            rintro vg rfl
            refine ⟨fun hg => ?_, fun hg => ?_⟩ <;> simp at hg
            first | exact trivial | exact rfl
          · rintro ρ w1 hw hcst hfn hk
            clear hw
            simp only [known, List.getD_cons_zero, List.getD_cons_succ, Nat.reduceAdd] at hk
            simp only [List.getD_cons_zero, List.getD_cons_succ, Nat.reduceAdd, flowAt]
            rintro vg rfl
            refine ⟨fun hg => ?_, fun hg => ?_⟩ <;> simp at hg
            first | exact trivial | exact rfl
          · rintro ρ w1 hw hcst hfn hk
            clear hw
            simp only [known, List.getD_cons_zero, List.getD_cons_succ, Nat.reduceAdd] at hk
            simp only [List.getD_cons_zero, List.getD_cons_succ, Nat.reduceAdd, flowAt]
            rintro vg rfl
            refine ⟨fun hg => ?_, fun hg => ?_⟩ <;> simp at hg
            first | exact trivial | exact rfl
          · rintro ρ w1 hw hcst hfn hk
            clear hw
            simp only [known, List.getD_cons_zero, List.getD_cons_succ, Nat.reduceAdd] at hk
            simp only [List.getD_cons_zero, List.getD_cons_succ, Nat.reduceAdd, flowAt]
            go_simp
            exact ⟨Ext.refl _, by first | rfl | trivial⟩
          · rintro ρ w1 hw hcst hfn hk
            clear hw
            simp only [known, List.getD_cons_zero, List.getD_cons_succ, Nat.reduceAdd] at hk
            simp only [List.getD_cons_zero, List.getD_cons_succ, Nat.reduceAdd, flowAt]
            go_simp
            exact ⟨Ext.refl _, by first | rfl | trivial⟩
          · rintro ρ w1 hw hcst hfn hk
            clear hw
            simp only [known, List.getD_cons_zero, List.getD_cons_succ, Nat.reduceAdd] at hk
            simp only [List.getD_cons_zero, List.getD_cons_succ, Nat.reduceAdd, flowAt]
            rintro vg rfl
            refine ⟨fun hg => ?_, fun hg => ?_⟩ <;> simp at hg
            first | exact trivial | exact rfl
          · rintro ρ w1 hw hcst hfn hk
            clear hw
            simp only [known, List.getD_cons_zero, List.getD_cons_succ, Nat.reduceAdd] at hk
            simp only [List.getD_cons_zero, List.getD_cons_succ, Nat.reduceAdd, flowAt]
            rintro vg rfl
            refine ⟨fun hg => ?_, fun hg => ?_⟩ <;> simp at hg
            first | exact trivial | exact rfl
          · rintro ρ w1 hw hcst hfn hk
            clear hw
            simp only [known, List.getD_cons_zero, List.getD_cons_succ, Nat.reduceAdd] at hk
            simp only [List.getD_cons_zero, List.getD_cons_succ, Nat.reduceAdd, flowAt]
            rintro vg rfl
            refine ⟨fun hg => ?_, fun hg => ?_⟩ <;> simp at hg
            first | exact trivial | exact rfl
          · rintro ρ w1 hw hcst hfn hk
            clear hw
            simp only [known, List.getD_cons_zero, List.getD_cons_succ, Nat.reduceAdd] at hk
            simp only [List.getD_cons_zero, List.getD_cons_succ, Nat.reduceAdd, flowAt]
            rintro vg rfl
            refine ⟨fun hg => ?_, fun hg => ?_⟩ <;> simp at hg
            first | exact trivial | exact rfl
          · rintro ρ w1 hw hcst hfn hk
            clear hw
            simp only [known, List.getD_cons_zero, List.getD_cons_succ, Nat.reduceAdd] at hk
            simp only [List.getD_cons_zero, List.getD_cons_succ, Nat.reduceAdd, flowAt]
            rintro vg rfl
            refine ⟨fun hg => ?_, fun hg => ?_⟩ <;> simp at hg
            first | exact trivial | exact rfl
          · rintro ρ w1 hw hcst hfn hk
            clear hw
            simp only [known, List.getD_cons_zero, List.getD_cons_succ, Nat.reduceAdd] at hk
            simp only [List.getD_cons_zero, List.getD_cons_succ, Nat.reduceAdd, flowAt]
            rintro vg rfl
            refine ⟨fun hg => ?_, fun hg => ?_⟩ <;> simp at hg
            first | exact trivial | exact rfl
          · rintro ρ w1 hw hcst hfn hk
            clear hw
            simp only [known, List.getD_cons_zero, List.getD_cons_succ, Nat.reduceAdd] at hk
            simp only [List.getD_cons_zero, List.getD_cons_succ, Nat.reduceAdd, flowAt]
            rintro vg rfl
            refine ⟨fun hg => ?_, fun hg => ?_⟩ <;> simp at hg
            first | exact trivial | exact rfl
          · rintro ρ w1 hw hcst hfn hk
            clear hw
            simp only [known, List.getD_cons_zero, List.getD_cons_succ, Nat.reduceAdd] at hk
            simp only [List.getD_cons_zero, List.getD_cons_succ, Nat.reduceAdd, flowAt]
            go_simp
            exact ⟨Ext.refl _, by first | rfl | trivial⟩
        intro vs w1 hw hf
        simp only [flowFacts, Nat.reduceAdd] at hf
        obtain ⟨e0, e1, e2, e3, e4, e5, e6, e7, e8, e9, e10, e11, e12, e13, e14, e15, e16, e17, e18, e19, e20, e21, -⟩ := hf
        simp only [List.take_succ_cons, List.take_zero, List.drop_succ_cons, List.drop_zero, putAll, Act.put, Nat.reduceAdd, List.setIfInBounds_toArray, List.set_cons_zero, List.set_cons_succ, e0, e1, e2, e3, e4, e5, e6, e7, e8, e9, e10, e11, e12, e13, e14, e15, e16, e17, e18, e19, e20, e21]
        clear e0 e1 e2 e3 e4 e5 e6 e7 e8 e9 e10 e11 e12 e13 e14 e15 e16 e17 e18 e19 e20 e21
        replace hE := (hE.alloc _).drew.trans hw
        clear hw
        go_wp2_with fail
        go_returns
        exact ⟨ret_bool (by rw [H.out]; rfl), hE⟩
      cases vb
      case true.true =>
        refine wp_region_flow_at (C := Ext) 22 [fun v _ => v = .agg #[.int .i64 n, .string p, .string cs], fun v _ => v = .pointer (some ⟨w3.heap.size, 0, none⟩), fun v _ => v = .int .i64 R, fun v _ => v = .pointer (some ⟨w3.heap.size, 1, none⟩), fun v _ => v = .int .i64 C, fun v _ => v = .bool true, fun v _ => v = .bool false, fun v _ => v = .bool false, fun v _ => v = .agg #[.int .i64 n, .string p, .string cs], fun v _ => v = .agg #[.int .i64 r, .int .i64 c, .bool d, .string s], fun v _ => v = sqV (sqR r d (-1)) (sqC c d (-1)), fun v _ => v = .bool true, fun v _ => v = .bool true, fun v _ => v = .bool true, fun v _ => v = undef, fun v _ => v = undef, fun v _ => v = undef, fun v _ => v = undef, fun v _ => v = undef, fun v _ => v = undef, fun v _ => v = undef, fun v _ => v = .bool true]
          [[(3, none)], [(5, none)], [(30, some 1)], [(5, none)], [(32, some 3)], [(29, some 0), (31, some 2), (33, some 4)], [(34, some 5)], [(35, some 6)], [(3, none)], [(2, none)], [(38, some 9)], [(37, some 8), (39, some 10)], [(36, some 7), (40, some 11)], [(41, some 12)], [(3, none)], [(2, none)], [(2, none)], [(45, some 16)], [(46, some 17)], [(44, some 15), (47, some 18)], [(43, some 14), (48, some 19)], [(42, some 13), (49, some 20)]] (by kernel_rfl) (by kernel_rfl) Ext.refl (fun _ _ _ => Ext.trans) ?_ ?_ ?_
        · intro F hF
          simp only [List.mem_cons, List.not_mem_nil, or_false] at hF
          rcases hF with rfl | rfl | rfl | rfl | rfl | rfl | rfl | rfl | rfl | rfl | rfl | rfl | rfl | rfl | rfl | rfl | rfl | rfl | rfl | rfl | rfl | rfl <;> exact fun _ _ _ h _ => h
        · refine ⟨?_, ?_, ?_, ?_, ?_, ?_, ?_, ?_, ?_, ?_, ?_, ?_, ?_, ?_, ?_, ?_, ?_, ?_, ?_, ?_, ?_, ?_, trivial⟩
          · rintro ρ w1 hw hcst hfn hk
            have c0 := hw.cell (b := (w.heap.size + 1)) (o := 0) (v := .int .i64 n) (by first | (simp [*]; done) | (simp [*, go_sem]; done) | go_cell)
            have c1 := hw.cell (b := (w.heap.size + 1)) (o := 1) (v := .string p) (by first | (simp [*]; done) | (simp [*, go_sem]; done) | go_cell)
            have c2 := hw.cell (b := (w.heap.size + 1)) (o := 2) (v := .string cs) (by first | (simp [*]; done) | (simp [*, go_sem]; done) | go_cell)
            clear hw
            simp only [known, List.getD_cons_zero, List.getD_cons_succ, Nat.reduceAdd] at hk
            simp only [List.getD_cons_zero, List.getD_cons_succ, Nat.reduceAdd, flowAt]
            go_simp
            exact ⟨Ext.refl _, by first | rfl | trivial⟩
          · rintro ρ w1 hw hcst hfn hk
            clear hw
            simp only [known, List.getD_cons_zero, List.getD_cons_succ, Nat.reduceAdd] at hk
            simp only [List.getD_cons_zero, List.getD_cons_succ, Nat.reduceAdd, flowAt]
            go_simp
            exact ⟨Ext.refl _, by first | rfl | trivial⟩
          · rintro ρ w1 hw hcst hfn hk
            have c0 := hw.cell (b := w3.heap.size) (o := 0) (v := .int .i64 R) (by first | (simp [*]; done) | (simp [*, go_sem]; done) | go_cell)
            clear hw
            simp only [known, List.getD_cons_zero, List.getD_cons_succ, Nat.reduceAdd] at hk
            simp only [List.getD_cons_zero, List.getD_cons_succ, Nat.reduceAdd, flowAt]
            go_simp
            exact ⟨Ext.refl _, by first | rfl | trivial⟩
          · rintro ρ w1 hw hcst hfn hk
            clear hw
            simp only [known, List.getD_cons_zero, List.getD_cons_succ, Nat.reduceAdd] at hk
            simp only [List.getD_cons_zero, List.getD_cons_succ, Nat.reduceAdd, flowAt]
            go_simp
            exact ⟨Ext.refl _, by first | rfl | trivial⟩
          · rintro ρ w1 hw hcst hfn hk
            have c0 := hw.cell (b := w3.heap.size) (o := 1) (v := .int .i64 C) (by first | (simp [*]; done) | (simp [*, go_sem]; done) | go_cell)
            clear hw
            simp only [known, List.getD_cons_zero, List.getD_cons_succ, Nat.reduceAdd] at hk
            simp only [List.getD_cons_zero, List.getD_cons_succ, Nat.reduceAdd, flowAt]
            go_simp
            exact ⟨Ext.refl _, by first | rfl | trivial⟩
          · rintro ρ w1 hw hcst hfn hk
            simp only [known, List.getD_cons_zero, List.getD_cons_succ, Nat.reduceAdd] at hk
            simp only [List.getD_cons_zero, List.getD_cons_succ, Nat.reduceAdd, flowAt]
            go_simp
            exact flow_ret (HIl.out _)
          · rintro ρ w1 hw hcst hfn hk
            clear hw
            simp only [known, List.getD_cons_zero, List.getD_cons_succ, Nat.reduceAdd] at hk
            simp only [List.getD_cons_zero, List.getD_cons_succ, Nat.reduceAdd, flowAt]
            go_simp
            exact ⟨Ext.refl _, by first | rfl | trivial⟩
          · rintro ρ w1 hw hcst hfn hk
            clear hw
            simp only [known, List.getD_cons_zero, List.getD_cons_succ, Nat.reduceAdd] at hk
            simp only [List.getD_cons_zero, List.getD_cons_succ, Nat.reduceAdd, flowAt]
            go_simp
            exact ⟨Ext.refl _, by first | rfl | trivial⟩
          · rintro ρ w1 hw hcst hfn hk
            have c0 := hw.cell (b := (w.heap.size + 1)) (o := 0) (v := .int .i64 n) (by first | (simp [*]; done) | (simp [*, go_sem]; done) | go_cell)
            have c1 := hw.cell (b := (w.heap.size + 1)) (o := 1) (v := .string p) (by first | (simp [*]; done) | (simp [*, go_sem]; done) | go_cell)
            have c2 := hw.cell (b := (w.heap.size + 1)) (o := 2) (v := .string cs) (by first | (simp [*]; done) | (simp [*, go_sem]; done) | go_cell)
            clear hw
            simp only [known, List.getD_cons_zero, List.getD_cons_succ, Nat.reduceAdd] at hk
            simp only [List.getD_cons_zero, List.getD_cons_succ, Nat.reduceAdd, flowAt]
            rintro vg rfl
            refine ⟨fun hg => ?_, fun hg => ?_⟩ <;> simp at hg
            go_simp
            exact ⟨Ext.refl _, by first | rfl | trivial⟩
          · rintro ρ w1 hw hcst hfn hk
            have c0 := hw.cell (b := w.heap.size) (o := 0) (v := .int .i64 r) (by first | (simp [*]; done) | (simp [*, go_sem]; done) | go_cell)
            have c1 := hw.cell (b := w.heap.size) (o := 1) (v := .int .i64 c) (by first | (simp [*]; done) | (simp [*, go_sem]; done) | go_cell)
            have c2 := hw.cell (b := w.heap.size) (o := 2) (v := .bool d) (by first | (simp [*]; done) | (simp [*, go_sem]; done) | go_cell)
            have c3 := hw.cell (b := w.heap.size) (o := 3) (v := .string s) (by first | (simp [*]; done) | (simp [*, go_sem]; done) | go_cell)
            clear hw
            simp only [known, List.getD_cons_zero, List.getD_cons_succ, Nat.reduceAdd] at hk
            simp only [List.getD_cons_zero, List.getD_cons_succ, Nat.reduceAdd, flowAt]
            rintro vg rfl
            refine ⟨fun hg => ?_, fun hg => ?_⟩ <;> simp at hg
            go_simp
            exact ⟨Ext.refl _, by first | rfl | trivial⟩
          · rintro ρ w1 hw hcst hfn hk
            simp only [known, List.getD_cons_zero, List.getD_cons_succ, Nat.reduceAdd] at hk
            simp only [List.getD_cons_zero, List.getD_cons_succ, Nat.reduceAdd, flowAt]
            rintro vg rfl
            refine ⟨fun hg => ?_, fun hg => ?_⟩ <;> simp at hg
            go_simp
            exact flow_ret (HSb.out _)
          · rintro ρ w1 hw hcst hfn hk
            simp only [known, List.getD_cons_zero, List.getD_cons_succ, Nat.reduceAdd] at hk
            simp only [List.getD_cons_zero, List.getD_cons_succ, Nat.reduceAdd, flowAt]
            rintro vg rfl
            refine ⟨fun hg => ?_, fun hg => ?_⟩ <;> simp at hg
            go_simp
            exact flow_ret (HOb.out _)
          · rintro ρ w1 hw hcst hfn hk
            clear hw
            simp only [known, List.getD_cons_zero, List.getD_cons_succ, Nat.reduceAdd] at hk
            simp only [List.getD_cons_zero, List.getD_cons_succ, Nat.reduceAdd, flowAt]
            go_simp
            exact ⟨Ext.refl _, by first | rfl | trivial⟩
          · rintro ρ w1 hw hcst hfn hk
            clear hw
            simp only [known, List.getD_cons_zero, List.getD_cons_succ, Nat.reduceAdd] at hk
            simp only [List.getD_cons_zero, List.getD_cons_succ, Nat.reduceAdd, flowAt]
            go_simp
            exact ⟨Ext.refl _, by first | rfl | trivial⟩
          · rintro ρ w1 hw hcst hfn hk
            clear hw
            simp only [known, List.getD_cons_zero, List.getD_cons_succ, Nat.reduceAdd] at hk
            simp only [List.getD_cons_zero, List.getD_cons_succ, Nat.reduceAdd, flowAt]
            rintro vg rfl
            refine ⟨fun hg => ?_, fun hg => ?_⟩ <;> simp at hg
            first | exact trivial | exact rfl
          · rintro ρ w1 hw hcst hfn hk
            clear hw
            simp only [known, List.getD_cons_zero, List.getD_cons_succ, Nat.reduceAdd] at hk
            simp only [List.getD_cons_zero, List.getD_cons_succ, Nat.reduceAdd, flowAt]
            rintro vg rfl
            refine ⟨fun hg => ?_, fun hg => ?_⟩ <;> simp at hg
            first | exact trivial | exact rfl
          · rintro ρ w1 hw hcst hfn hk
            clear hw
            simp only [known, List.getD_cons_zero, List.getD_cons_succ, Nat.reduceAdd] at hk
            simp only [List.getD_cons_zero, List.getD_cons_succ, Nat.reduceAdd, flowAt]
            rintro vg rfl
            refine ⟨fun hg => ?_, fun hg => ?_⟩ <;> simp at hg
            first | exact trivial | exact rfl
          · rintro ρ w1 hw hcst hfn hk
            clear hw
            simp only [known, List.getD_cons_zero, List.getD_cons_succ, Nat.reduceAdd] at hk
            simp only [List.getD_cons_zero, List.getD_cons_succ, Nat.reduceAdd, flowAt]
            rintro vg rfl
            refine ⟨fun hg => ?_, fun hg => ?_⟩ <;> simp at hg
            first | exact trivial | exact rfl
          · rintro ρ w1 hw hcst hfn hk
            clear hw
            simp only [known, List.getD_cons_zero, List.getD_cons_succ, Nat.reduceAdd] at hk
            simp only [List.getD_cons_zero, List.getD_cons_succ, Nat.reduceAdd, flowAt]
            rintro vg rfl
            refine ⟨fun hg => ?_, fun hg => ?_⟩ <;> simp at hg
            first | exact trivial | exact rfl
          · rintro ρ w1 hw hcst hfn hk
            clear hw
            simp only [known, List.getD_cons_zero, List.getD_cons_succ, Nat.reduceAdd] at hk
            simp only [List.getD_cons_zero, List.getD_cons_succ, Nat.reduceAdd, flowAt]
            rintro vg rfl
            refine ⟨fun hg => ?_, fun hg => ?_⟩ <;> simp at hg
            first | exact trivial | exact rfl
          · rintro ρ w1 hw hcst hfn hk
            clear hw
            simp only [known, List.getD_cons_zero, List.getD_cons_succ, Nat.reduceAdd] at hk
            simp only [List.getD_cons_zero, List.getD_cons_succ, Nat.reduceAdd, flowAt]
            rintro vg rfl
            refine ⟨fun hg => ?_, fun hg => ?_⟩ <;> simp at hg
            first | exact trivial | exact rfl
          · rintro ρ w1 hw hcst hfn hk
            clear hw
            simp only [known, List.getD_cons_zero, List.getD_cons_succ, Nat.reduceAdd] at hk
            simp only [List.getD_cons_zero, List.getD_cons_succ, Nat.reduceAdd, flowAt]
            go_simp
            exact ⟨Ext.refl _, by first | rfl | trivial⟩
        intro vs w1 hw hf
        simp only [flowFacts, Nat.reduceAdd] at hf
        obtain ⟨e0, e1, e2, e3, e4, e5, e6, e7, e8, e9, e10, e11, e12, e13, e14, e15, e16, e17, e18, e19, e20, e21, -⟩ := hf
        simp only [List.take_succ_cons, List.take_zero, List.drop_succ_cons, List.drop_zero, putAll, Act.put, Nat.reduceAdd, List.setIfInBounds_toArray, List.set_cons_zero, List.set_cons_succ, e0, e1, e2, e3, e4, e5, e6, e7, e8, e9, e10, e11, e12, e13, e14, e15, e16, e17, e18, e19, e20, e21]
        clear e0 e1 e2 e3 e4 e5 e6 e7 e8 e9 e10 e11 e12 e13 e14 e15 e16 e17 e18 e19 e20 e21
        replace hE := (hE.alloc _).drew.trans hw
        clear hw
        go_wp2_with fail
        go_returns
        exact ⟨ret_bool (by rw [H.out]; rfl), hE⟩
      cases va
      case true.false.true =>
        refine wp_region_flow_at (C := Ext) 22 [fun v _ => v = .agg #[.int .i64 n, .string p, .string cs], fun v _ => v = .pointer (some ⟨w3.heap.size, 0, none⟩), fun v _ => v = .int .i64 R, fun v _ => v = .pointer (some ⟨w3.heap.size, 1, none⟩), fun v _ => v = .int .i64 C, fun v _ => v = .bool true, fun v _ => v = .bool false, fun v _ => v = .bool false, fun v _ => v = .agg #[.int .i64 n, .string p, .string cs], fun v _ => v = .agg #[.int .i64 r, .int .i64 c, .bool d, .string s], fun v _ => v = sqV (sqR r d (-1)) (sqC c d (-1)), fun v _ => v = .bool false, fun v _ => v = .bool false, fun v _ => v = .bool false, fun v _ => v = .agg #[.int .i64 n, .string p, .string cs], fun v _ => v = .agg #[.int .i64 r, .int .i64 c, .bool d, .string s], fun v _ => v = .pointer (some ⟨w.heap.size, 3, none⟩), fun v _ => v = .string s, fun v _ => v = .int .i64 (s).size, fun v _ => v = sqV (sqR r d (s.size : Int)) (sqC c d (s.size : Int)), fun v _ => v = .bool true, fun v _ => v = .bool true]
          [[(3, none)], [(5, none)], [(30, some 1)], [(5, none)], [(32, some 3)], [(29, some 0), (31, some 2), (33, some 4)], [(34, some 5)], [(35, some 6)], [(3, none)], [(2, none)], [(38, some 9)], [(37, some 8), (39, some 10)], [(36, some 7), (40, some 11)], [(41, some 12)], [(3, none)], [(2, none)], [(2, none)], [(45, some 16)], [(46, some 17)], [(44, some 15), (47, some 18)], [(43, some 14), (48, some 19)], [(42, some 13), (49, some 20)]] (by kernel_rfl) (by kernel_rfl) Ext.refl (fun _ _ _ => Ext.trans) ?_ ?_ ?_
        · intro F hF
          simp only [List.mem_cons, List.not_mem_nil, or_false] at hF
          rcases hF with rfl | rfl | rfl | rfl | rfl | rfl | rfl | rfl | rfl | rfl | rfl | rfl | rfl | rfl | rfl | rfl | rfl | rfl | rfl | rfl | rfl | rfl <;> exact fun _ _ _ h _ => h
        · refine ⟨?_, ?_, ?_, ?_, ?_, ?_, ?_, ?_, ?_, ?_, ?_, ?_, ?_, ?_, ?_, ?_, ?_, ?_, ?_, ?_, ?_, ?_, trivial⟩
          · rintro ρ w1 hw hcst hfn hk
            have c0 := hw.cell (b := (w.heap.size + 1)) (o := 0) (v := .int .i64 n) (by first | (simp [*]; done) | (simp [*, go_sem]; done) | go_cell)
            have c1 := hw.cell (b := (w.heap.size + 1)) (o := 1) (v := .string p) (by first | (simp [*]; done) | (simp [*, go_sem]; done) | go_cell)
            have c2 := hw.cell (b := (w.heap.size + 1)) (o := 2) (v := .string cs) (by first | (simp [*]; done) | (simp [*, go_sem]; done) | go_cell)
            clear hw
            simp only [known, List.getD_cons_zero, List.getD_cons_succ, Nat.reduceAdd] at hk
            simp only [List.getD_cons_zero, List.getD_cons_succ, Nat.reduceAdd, flowAt]
            go_simp
            exact ⟨Ext.refl _, by first | rfl | trivial⟩
          · rintro ρ w1 hw hcst hfn hk
            clear hw
            simp only [known, List.getD_cons_zero, List.getD_cons_succ, Nat.reduceAdd] at hk
            simp only [List.getD_cons_zero, List.getD_cons_succ, Nat.reduceAdd, flowAt]
            go_simp
            exact ⟨Ext.refl _, by first | rfl | trivial⟩
          · rintro ρ w1 hw hcst hfn hk
            have c0 := hw.cell (b := w3.heap.size) (o := 0) (v := .int .i64 R) (by first | (simp [*]; done) | (simp [*, go_sem]; done) | go_cell)
            clear hw
            simp only [known, List.getD_cons_zero, List.getD_cons_succ, Nat.reduceAdd] at hk
            simp only [List.getD_cons_zero, List.getD_cons_succ, Nat.reduceAdd, flowAt]
            go_simp
            exact ⟨Ext.refl _, by first | rfl | trivial⟩
          · rintro ρ w1 hw hcst hfn hk
            clear hw
            simp only [known, List.getD_cons_zero, List.getD_cons_succ, Nat.reduceAdd] at hk
            simp only [List.getD_cons_zero, List.getD_cons_succ, Nat.reduceAdd, flowAt]
            go_simp
            exact ⟨Ext.refl _, by first | rfl | trivial⟩
          · rintro ρ w1 hw hcst hfn hk
            have c0 := hw.cell (b := w3.heap.size) (o := 1) (v := .int .i64 C) (by first | (simp [*]; done) | (simp [*, go_sem]; done) | go_cell)
            clear hw
            simp only [known, List.getD_cons_zero, List.getD_cons_succ, Nat.reduceAdd] at hk
            simp only [List.getD_cons_zero, List.getD_cons_succ, Nat.reduceAdd, flowAt]
            go_simp
            exact ⟨Ext.refl _, by first | rfl | trivial⟩
          · rintro ρ w1 hw hcst hfn hk
            simp only [known, List.getD_cons_zero, List.getD_cons_succ, Nat.reduceAdd] at hk
            simp only [List.getD_cons_zero, List.getD_cons_succ, Nat.reduceAdd, flowAt]
            go_simp
            exact flow_ret (HIl.out _)
          · rintro ρ w1 hw hcst hfn hk
            clear hw
            simp only [known, List.getD_cons_zero, List.getD_cons_succ, Nat.reduceAdd] at hk
            simp only [List.getD_cons_zero, List.getD_cons_succ, Nat.reduceAdd, flowAt]
            go_simp
            exact ⟨Ext.refl _, by first | rfl | trivial⟩
          · rintro ρ w1 hw hcst hfn hk
            clear hw
            simp only [known, List.getD_cons_zero, List.getD_cons_succ, Nat.reduceAdd] at hk
            simp only [List.getD_cons_zero, List.getD_cons_succ, Nat.reduceAdd, flowAt]
            go_simp
            exact ⟨Ext.refl _, by first | rfl | trivial⟩
          · rintro ρ w1 hw hcst hfn hk
            have c0 := hw.cell (b := (w.heap.size + 1)) (o := 0) (v := .int .i64 n) (by first | (simp [*]; done) | (simp [*, go_sem]; done) | go_cell)
            have c1 := hw.cell (b := (w.heap.size + 1)) (o := 1) (v := .string p) (by first | (simp [*]; done) | (simp [*, go_sem]; done) | go_cell)
            have c2 := hw.cell (b := (w.heap.size + 1)) (o := 2) (v := .string cs) (by first | (simp [*]; done) | (simp [*, go_sem]; done) | go_cell)
            clear hw
            simp only [known, List.getD_cons_zero, List.getD_cons_succ, Nat.reduceAdd] at hk
            simp only [List.getD_cons_zero, List.getD_cons_succ, Nat.reduceAdd, flowAt]
            rintro vg rfl
            refine ⟨fun hg => ?_, fun hg => ?_⟩ <;> simp at hg
            go_simp
            exact ⟨Ext.refl _, by first | rfl | trivial⟩
          · rintro ρ w1 hw hcst hfn hk
            have c0 := hw.cell (b := w.heap.size) (o := 0) (v := .int .i64 r) (by first | (simp [*]; done) | (simp [*, go_sem]; done) | go_cell)
            have c1 := hw.cell (b := w.heap.size) (o := 1) (v := .int .i64 c) (by first | (simp [*]; done) | (simp [*, go_sem]; done) | go_cell)
            have c2 := hw.cell (b := w.heap.size) (o := 2) (v := .bool d) (by first | (simp [*]; done) | (simp [*, go_sem]; done) | go_cell)
            have c3 := hw.cell (b := w.heap.size) (o := 3) (v := .string s) (by first | (simp [*]; done) | (simp [*, go_sem]; done) | go_cell)
            clear hw
            simp only [known, List.getD_cons_zero, List.getD_cons_succ, Nat.reduceAdd] at hk
            simp only [List.getD_cons_zero, List.getD_cons_succ, Nat.reduceAdd, flowAt]
            rintro vg rfl
            refine ⟨fun hg => ?_, fun hg => ?_⟩ <;> simp at hg
            go_simp
            exact ⟨Ext.refl _, by first | rfl | trivial⟩
          · rintro ρ w1 hw hcst hfn hk
            simp only [known, List.getD_cons_zero, List.getD_cons_succ, Nat.reduceAdd] at hk
            simp only [List.getD_cons_zero, List.getD_cons_succ, Nat.reduceAdd, flowAt]
            rintro vg rfl
            refine ⟨fun hg => ?_, fun hg => ?_⟩ <;> simp at hg
            go_simp
            exact flow_ret (HSb.out _)
          · rintro ρ w1 hw hcst hfn hk
            simp only [known, List.getD_cons_zero, List.getD_cons_succ, Nat.reduceAdd] at hk
            simp only [List.getD_cons_zero, List.getD_cons_succ, Nat.reduceAdd, flowAt]
            rintro vg rfl
            refine ⟨fun hg => ?_, fun hg => ?_⟩ <;> simp at hg
            go_simp
            exact flow_ret (HOb.out _)
          · rintro ρ w1 hw hcst hfn hk
            clear hw
            simp only [known, List.getD_cons_zero, List.getD_cons_succ, Nat.reduceAdd] at hk
            simp only [List.getD_cons_zero, List.getD_cons_succ, Nat.reduceAdd, flowAt]
            go_simp
            exact ⟨Ext.refl _, by first | rfl | trivial⟩
          · rintro ρ w1 hw hcst hfn hk
            clear hw
            simp only [known, List.getD_cons_zero, List.getD_cons_succ, Nat.reduceAdd] at hk
            simp only [List.getD_cons_zero, List.getD_cons_succ, Nat.reduceAdd, flowAt]
            go_simp
            exact ⟨Ext.refl _, by first | rfl | trivial⟩
          · rintro ρ w1 hw hcst hfn hk
            have c0 := hw.cell (b := (w.heap.size + 1)) (o := 0) (v := .int .i64 n) (by first | (simp [*]; done) | (simp [*, go_sem]; done) | go_cell)
            have c1 := hw.cell (b := (w.heap.size + 1)) (o := 1) (v := .string p) (by first | (simp [*]; done) | (simp [*, go_sem]; done) | go_cell)
            have c2 := hw.cell (b := (w.heap.size + 1)) (o := 2) (v := .string cs) (by first | (simp [*]; done) | (simp [*, go_sem]; done) | go_cell)
            clear hw
            simp only [known, List.getD_cons_zero, List.getD_cons_succ, Nat.reduceAdd] at hk
            simp only [List.getD_cons_zero, List.getD_cons_succ, Nat.reduceAdd, flowAt]
            rintro vg rfl
            refine ⟨fun hg => ?_, fun hg => ?_⟩ <;> simp at hg
            go_simp
            exact ⟨Ext.refl _, by first | rfl | trivial⟩
          · rintro ρ w1 hw hcst hfn hk
            have c0 := hw.cell (b := w.heap.size) (o := 0) (v := .int .i64 r) (by first | (simp [*]; done) | (simp [*, go_sem]; done) | go_cell)
            have c1 := hw.cell (b := w.heap.size) (o := 1) (v := .int .i64 c) (by first | (simp [*]; done) | (simp [*, go_sem]; done) | go_cell)
            have c2 := hw.cell (b := w.heap.size) (o := 2) (v := .bool d) (by first | (simp [*]; done) | (simp [*, go_sem]; done) | go_cell)
            have c3 := hw.cell (b := w.heap.size) (o := 3) (v := .string s) (by first | (simp [*]; done) | (simp [*, go_sem]; done) | go_cell)
            clear hw
            simp only [known, List.getD_cons_zero, List.getD_cons_succ, Nat.reduceAdd] at hk
            simp only [List.getD_cons_zero, List.getD_cons_succ, Nat.reduceAdd, flowAt]
            rintro vg rfl
            refine ⟨fun hg => ?_, fun hg => ?_⟩ <;> simp at hg
            go_simp
            exact ⟨Ext.refl _, by first | rfl | trivial⟩
          · rintro ρ w1 hw hcst hfn hk
            clear hw
            simp only [known, List.getD_cons_zero, List.getD_cons_succ, Nat.reduceAdd] at hk
            simp only [List.getD_cons_zero, List.getD_cons_succ, Nat.reduceAdd, flowAt]
            rintro vg rfl
            refine ⟨fun hg => ?_, fun hg => ?_⟩ <;> simp at hg
            go_simp
            exact ⟨Ext.refl _, by first | rfl | trivial⟩
          · rintro ρ w1 hw hcst hfn hk
            have c0 := hw.cell (b := w.heap.size) (o := 3) (v := .string s) (by first | (simp [*]; done) | (simp [*, go_sem]; done) | go_cell)
            clear hw
            simp only [known, List.getD_cons_zero, List.getD_cons_succ, Nat.reduceAdd] at hk
            simp only [List.getD_cons_zero, List.getD_cons_succ, Nat.reduceAdd, flowAt]
            rintro vg rfl
            refine ⟨fun hg => ?_, fun hg => ?_⟩ <;> simp at hg
            go_simp
            exact ⟨Ext.refl _, by first | rfl | trivial⟩
          · rintro ρ w1 hw hcst hfn hk
            clear hw
            simp only [known, List.getD_cons_zero, List.getD_cons_succ, Nat.reduceAdd] at hk
            simp only [List.getD_cons_zero, List.getD_cons_succ, Nat.reduceAdd, flowAt]
            rintro vg rfl
            refine ⟨fun hg => ?_, fun hg => ?_⟩ <;> simp at hg
            go_simp
            exact ⟨Ext.refl _, by first | rfl | trivial⟩
          · rintro ρ w1 hw hcst hfn hk
            simp only [known, List.getD_cons_zero, List.getD_cons_succ, Nat.reduceAdd] at hk
            simp only [List.getD_cons_zero, List.getD_cons_succ, Nat.reduceAdd, flowAt]
            rintro vg rfl
            refine ⟨fun hg => ?_, fun hg => ?_⟩ <;> simp at hg
            go_simp
            exact flow_ret (HSa.out _)
          · rintro ρ w1 hw hcst hfn hk
            simp only [known, List.getD_cons_zero, List.getD_cons_succ, Nat.reduceAdd] at hk
            simp only [List.getD_cons_zero, List.getD_cons_succ, Nat.reduceAdd, flowAt]
            rintro vg rfl
            refine ⟨fun hg => ?_, fun hg => ?_⟩ <;> simp at hg
            go_simp
            exact flow_ret (HOa.out _)
          · rintro ρ w1 hw hcst hfn hk
            clear hw
            simp only [known, List.getD_cons_zero, List.getD_cons_succ, Nat.reduceAdd] at hk
            simp only [List.getD_cons_zero, List.getD_cons_succ, Nat.reduceAdd, flowAt]
            go_simp
            exact ⟨Ext.refl _, by first | rfl | trivial⟩
        intro vs w1 hw hf
        simp only [flowFacts, Nat.reduceAdd] at hf
        obtain ⟨e0, e1, e2, e3, e4, e5, e6, e7, e8, e9, e10, e11, e12, e13, e14, e15, e16, e17, e18, e19, e20, e21, -⟩ := hf
        simp only [List.take_succ_cons, List.take_zero, List.drop_succ_cons, List.drop_zero, putAll, Act.put, Nat.reduceAdd, List.setIfInBounds_toArray, List.set_cons_zero, List.set_cons_succ, e0, e1, e2, e3, e4, e5, e6, e7, e8, e9, e10, e11, e12, e13, e14, e15, e16, e17, e18, e19, e20, e21]
        clear e0 e1 e2 e3 e4 e5 e6 e7 e8 e9 e10 e11 e12 e13 e14 e15 e16 e17 e18 e19 e20 e21
        replace hE := (hE.alloc _).drew.trans hw
        clear hw
        go_wp2_with fail
        go_returns
        exact ⟨ret_bool (by rw [H.out]; rfl), hE⟩
      case true.false.false =>
        refine wp_region_flow_at (C := Ext) 22 [fun v _ => v = .agg #[.int .i64 n, .string p, .string cs], fun v _ => v = .pointer (some ⟨w3.heap.size, 0, none⟩), fun v _ => v = .int .i64 R, fun v _ => v = .pointer (some ⟨w3.heap.size, 1, none⟩), fun v _ => v = .int .i64 C, fun v _ => v = .bool true, fun v _ => v = .bool false, fun v _ => v = .bool false, fun v _ => v = .agg #[.int .i64 n, .string p, .string cs], fun v _ => v = .agg #[.int .i64 r, .int .i64 c, .bool d, .string s], fun v _ => v = sqV (sqR r d (-1)) (sqC c d (-1)), fun v _ => v = .bool false, fun v _ => v = .bool false, fun v _ => v = .bool false, fun v _ => v = .agg #[.int .i64 n, .string p, .string cs], fun v _ => v = .agg #[.int .i64 r, .int .i64 c, .bool d, .string s], fun v _ => v = .pointer (some ⟨w.heap.size, 3, none⟩), fun v _ => v = .string s, fun v _ => v = .int .i64 (s).size, fun v _ => v = sqV (sqR r d (s.size : Int)) (sqC c d (s.size : Int)), fun v _ => v = .bool false, fun v _ => v = .bool false]
          [[(3, none)], [(5, none)], [(30, some 1)], [(5, none)], [(32, some 3)], [(29, some 0), (31, some 2), (33, some 4)], [(34, some 5)], [(35, some 6)], [(3, none)], [(2, none)], [(38, some 9)], [(37, some 8), (39, some 10)], [(36, some 7), (40, some 11)], [(41, some 12)], [(3, none)], [(2, none)], [(2, none)], [(45, some 16)], [(46, some 17)], [(44, some 15), (47, some 18)], [(43, some 14), (48, some 19)], [(42, some 13), (49, some 20)]] (by kernel_rfl) (by kernel_rfl) Ext.refl (fun _ _ _ => Ext.trans) ?_ ?_ ?_
        · intro F hF
          simp only [List.mem_cons, List.not_mem_nil, or_false] at hF
          rcases hF with rfl | rfl | rfl | rfl | rfl | rfl | rfl | rfl | rfl | rfl | rfl | rfl | rfl | rfl | rfl | rfl | rfl | rfl | rfl | rfl | rfl | rfl <;> exact fun _ _ _ h _ => h
        · refine ⟨?_, ?_, ?_, ?_, ?_, ?_, ?_, ?_, ?_, ?_, ?_, ?_, ?_, ?_, ?_, ?_, ?_, ?_, ?_, ?_, ?_, ?_, trivial⟩
          · rintro ρ w1 hw hcst hfn hk
            have c0 := hw.cell (b := (w.heap.size + 1)) (o := 0) (v := .int .i64 n) (by first | (simp [*]; done) | (simp [*, go_sem]; done) | go_cell)
            have c1 := hw.cell (b := (w.heap.size + 1)) (o := 1) (v := .string p) (by first | (simp [*]; done) | (simp [*, go_sem]; done) | go_cell)
            have c2 := hw.cell (b := (w.heap.size + 1)) (o := 2) (v := .string cs) (by first | (simp [*]; done) | (simp [*, go_sem]; done) | go_cell)
            clear hw
            simp only [known, List.getD_cons_zero, List.getD_cons_succ, Nat.reduceAdd] at hk
            simp only [List.getD_cons_zero, List.getD_cons_succ, Nat.reduceAdd, flowAt]
            go_simp
            exact ⟨Ext.refl _, by first | rfl | trivial⟩
          · rintro ρ w1 hw hcst hfn hk
            clear hw
            simp only [known, List.getD_cons_zero, List.getD_cons_succ, Nat.reduceAdd] at hk
            simp only [List.getD_cons_zero, List.getD_cons_succ, Nat.reduceAdd, flowAt]
            go_simp
            exact ⟨Ext.refl _, by first | rfl | trivial⟩
          · rintro ρ w1 hw hcst hfn hk
            have c0 := hw.cell (b := w3.heap.size) (o := 0) (v := .int .i64 R) (by first | (simp [*]; done) | (simp [*, go_sem]; done) | go_cell)
            clear hw
            simp only [known, List.getD_cons_zero, List.getD_cons_succ, Nat.reduceAdd] at hk
            simp only [List.getD_cons_zero, List.getD_cons_succ, Nat.reduceAdd, flowAt]
            go_simp
            exact ⟨Ext.refl _, by first | rfl | trivial⟩
          · rintro ρ w1 hw hcst hfn hk
            clear hw
            simp only [known, List.getD_cons_zero, List.getD_cons_succ, Nat.reduceAdd] at hk
            simp only [List.getD_cons_zero, List.getD_cons_succ, Nat.reduceAdd, flowAt]
            go_simp
            exact ⟨Ext.refl _, by first | rfl | trivial⟩
          · rintro ρ w1 hw hcst hfn hk
            have c0 := hw.cell (b := w3.heap.size) (o := 1) (v := .int .i64 C) (by first | (simp [*]; done) | (simp [*, go_sem]; done) | go_cell)
            clear hw
            simp only [known, List.getD_cons_zero, List.getD_cons_succ, Nat.reduceAdd] at hk
            simp only [List.getD_cons_zero, List.getD_cons_succ, Nat.reduceAdd, flowAt]
            go_simp
            exact ⟨Ext.refl _, by first | rfl | trivial⟩
          · rintro ρ w1 hw hcst hfn hk
            simp only [known, List.getD_cons_zero, List.getD_cons_succ, Nat.reduceAdd] at hk
            simp only [List.getD_cons_zero, List.getD_cons_succ, Nat.reduceAdd, flowAt]
            go_simp
            exact flow_ret (HIl.out _)
          · rintro ρ w1 hw hcst hfn hk
            clear hw
            simp only [known, List.getD_cons_zero, List.getD_cons_succ, Nat.reduceAdd] at hk
            simp only [List.getD_cons_zero, List.getD_cons_succ, Nat.reduceAdd, flowAt]
            go_simp
            exact ⟨Ext.refl _, by first | rfl | trivial⟩
          · rintro ρ w1 hw hcst hfn hk
            clear hw
            simp only [known, List.getD_cons_zero, List.getD_cons_succ, Nat.reduceAdd] at hk
            simp only [List.getD_cons_zero, List.getD_cons_succ, Nat.reduceAdd, flowAt]
            go_simp
            exact ⟨Ext.refl _, by first | rfl | trivial⟩
          · rintro ρ w1 hw hcst hfn hk
            have c0 := hw.cell (b := (w.heap.size + 1)) (o := 0) (v := .int .i64 n) (by first | (simp [*]; done) | (simp [*, go_sem]; done) | go_cell)
            have c1 := hw.cell (b := (w.heap.size + 1)) (o := 1) (v := .string p) (by first | (simp [*]; done) | (simp [*, go_sem]; done) | go_cell)
            have c2 := hw.cell (b := (w.heap.size + 1)) (o := 2) (v := .string cs) (by first | (simp [*]; done) | (simp [*, go_sem]; done) | go_cell)
            clear hw
            simp only [known, List.getD_cons_zero, List.getD_cons_succ, Nat.reduceAdd] at hk
            simp only [List.getD_cons_zero, List.getD_cons_succ, Nat.reduceAdd, flowAt]
            rintro vg rfl
            refine ⟨fun hg => ?_, fun hg => ?_⟩ <;> simp at hg
            go_simp
            exact ⟨Ext.refl _, by first | rfl | trivial⟩
          · rintro ρ w1 hw hcst hfn hk
            have c0 := hw.cell (b := w.heap.size) (o := 0) (v := .int .i64 r) (by first | (simp [*]; done) | (simp [*, go_sem]; done) | go_cell)
            have c1 := hw.cell (b := w.heap.size) (o := 1) (v := .int .i64 c) (by first | (simp [*]; done) | (simp [*, go_sem]; done) | go_cell)
            have c2 := hw.cell (b := w.heap.size) (o := 2) (v := .bool d) (by first | (simp [*]; done) | (simp [*, go_sem]; done) | go_cell)
            have c3 := hw.cell (b := w.heap.size) (o := 3) (v := .string s) (by first | (simp [*]; done) | (simp [*, go_sem]; done) | go_cell)
            clear hw
            simp only [known, List.getD_cons_zero, List.getD_cons_succ, Nat.reduceAdd] at hk
            simp only [List.getD_cons_zero, List.getD_cons_succ, Nat.reduceAdd, flowAt]
            rintro vg rfl
            refine ⟨fun hg => ?_, fun hg => ?_⟩ <;> simp at hg
            go_simp
            exact ⟨Ext.refl _, by first | rfl | trivial⟩
          · rintro ρ w1 hw hcst hfn hk
            simp only [known, List.getD_cons_zero, List.getD_cons_succ, Nat.reduceAdd] at hk
            simp only [List.getD_cons_zero, List.getD_cons_succ, Nat.reduceAdd, flowAt]
            rintro vg rfl
            refine ⟨fun hg => ?_, fun hg => ?_⟩ <;> simp at hg
            go_simp
            exact flow_ret (HSb.out _)
          · rintro ρ w1 hw hcst hfn hk
            simp only [known, List.getD_cons_zero, List.getD_cons_succ, Nat.reduceAdd] at hk
            simp only [List.getD_cons_zero, List.getD_cons_succ, Nat.reduceAdd, flowAt]
            rintro vg rfl
            refine ⟨fun hg => ?_, fun hg => ?_⟩ <;> simp at hg
            go_simp
            exact flow_ret (HOb.out _)
          · rintro ρ w1 hw hcst hfn hk
            clear hw
            simp only [known, List.getD_cons_zero, List.getD_cons_succ, Nat.reduceAdd] at hk
            simp only [List.getD_cons_zero, List.getD_cons_succ, Nat.reduceAdd, flowAt]
            go_simp
            exact ⟨Ext.refl _, by first | rfl | trivial⟩
          · rintro ρ w1 hw hcst hfn hk
            clear hw
            simp only [known, List.getD_cons_zero, List.getD_cons_succ, Nat.reduceAdd] at hk
            simp only [List.getD_cons_zero, List.getD_cons_succ, Nat.reduceAdd, flowAt]
            go_simp
            exact ⟨Ext.refl _, by first | rfl | trivial⟩
          · rintro ρ w1 hw hcst hfn hk
            have c0 := hw.cell (b := (w.heap.size + 1)) (o := 0) (v := .int .i64 n) (by first | (simp [*]; done) | (simp [*, go_sem]; done) | go_cell)
            have c1 := hw.cell (b := (w.heap.size + 1)) (o := 1) (v := .string p) (by first | (simp [*]; done) | (simp [*, go_sem]; done) | go_cell)
            have c2 := hw.cell (b := (w.heap.size + 1)) (o := 2) (v := .string cs) (by first | (simp [*]; done) | (simp [*, go_sem]; done) | go_cell)
            clear hw
            simp only [known, List.getD_cons_zero, List.getD_cons_succ, Nat.reduceAdd] at hk
            simp only [List.getD_cons_zero, List.getD_cons_succ, Nat.reduceAdd, flowAt]
            rintro vg rfl
            refine ⟨fun hg => ?_, fun hg => ?_⟩ <;> simp at hg
            go_simp
            exact ⟨Ext.refl _, by first | rfl | trivial⟩
          · rintro ρ w1 hw hcst hfn hk
            have c0 := hw.cell (b := w.heap.size) (o := 0) (v := .int .i64 r) (by first | (simp [*]; done) | (simp [*, go_sem]; done) | go_cell)
            have c1 := hw.cell (b := w.heap.size) (o := 1) (v := .int .i64 c) (by first | (simp [*]; done) | (simp [*, go_sem]; done) | go_cell)
            have c2 := hw.cell (b := w.heap.size) (o := 2) (v := .bool d) (by first | (simp [*]; done) | (simp [*, go_sem]; done) | go_cell)
            have c3 := hw.cell (b := w.heap.size) (o := 3) (v := .string s) (by first | (simp [*]; done) | (simp [*, go_sem]; done) | go_cell)
            clear hw
            simp only [known, List.getD_cons_zero, List.getD_cons_succ, Nat.reduceAdd] at hk
            simp only [List.getD_cons_zero, List.getD_cons_succ, Nat.reduceAdd, flowAt]
            rintro vg rfl
            refine ⟨fun hg => ?_, fun hg => ?_⟩ <;> simp at hg
            go_simp
            exact ⟨Ext.refl _, by first | rfl | trivial⟩
          · rintro ρ w1 hw hcst hfn hk
            clear hw
            simp only [known, List.getD_cons_zero, List.getD_cons_succ, Nat.reduceAdd] at hk
            simp only [List.getD_cons_zero, List.getD_cons_succ, Nat.reduceAdd, flowAt]
            rintro vg rfl
            refine ⟨fun hg => ?_, fun hg => ?_⟩ <;> simp at hg
            go_simp
            exact ⟨Ext.refl _, by first | rfl | trivial⟩
          · rintro ρ w1 hw hcst hfn hk
            have c0 := hw.cell (b := w.heap.size) (o := 3) (v := .string s) (by first | (simp [*]; done) | (simp [*, go_sem]; done) | go_cell)
            clear hw
            simp only [known, List.getD_cons_zero, List.getD_cons_succ, Nat.reduceAdd] at hk
            simp only [List.getD_cons_zero, List.getD_cons_succ, Nat.reduceAdd, flowAt]
            rintro vg rfl
            refine ⟨fun hg => ?_, fun hg => ?_⟩ <;> simp at hg
            go_simp
            exact ⟨Ext.refl _, by first | rfl | trivial⟩
          · rintro ρ w1 hw hcst hfn hk
            clear hw
            simp only [known, List.getD_cons_zero, List.getD_cons_succ, Nat.reduceAdd] at hk
            simp only [List.getD_cons_zero, List.getD_cons_succ, Nat.reduceAdd, flowAt]
            rintro vg rfl
            refine ⟨fun hg => ?_, fun hg => ?_⟩ <;> simp at hg
            go_simp
            exact ⟨Ext.refl _, by first | rfl | trivial⟩
          · rintro ρ w1 hw hcst hfn hk
            simp only [known, List.getD_cons_zero, List.getD_cons_succ, Nat.reduceAdd] at hk
            simp only [List.getD_cons_zero, List.getD_cons_succ, Nat.reduceAdd, flowAt]
            rintro vg rfl
            refine ⟨fun hg => ?_, fun hg => ?_⟩ <;> simp at hg
            go_simp
            exact flow_ret (HSa.out _)
          · rintro ρ w1 hw hcst hfn hk
            simp only [known, List.getD_cons_zero, List.getD_cons_succ, Nat.reduceAdd] at hk
            simp only [List.getD_cons_zero, List.getD_cons_succ, Nat.reduceAdd, flowAt]
            rintro vg rfl
            refine ⟨fun hg => ?_, fun hg => ?_⟩ <;> simp at hg
            go_simp
            exact flow_ret (HOa.out _)
          · rintro ρ w1 hw hcst hfn hk
            clear hw
            simp only [known, List.getD_cons_zero, List.getD_cons_succ, Nat.reduceAdd] at hk
            simp only [List.getD_cons_zero, List.getD_cons_succ, Nat.reduceAdd, flowAt]
            go_simp
            exact ⟨Ext.refl _, by first | rfl | trivial⟩
        intro vs w1 hw hf
        simp only [flowFacts, Nat.reduceAdd] at hf
        obtain ⟨e0, e1, e2, e3, e4, e5, e6, e7, e8, e9, e10, e11, e12, e13, e14, e15, e16, e17, e18, e19, e20, e21, -⟩ := hf
        simp only [List.take_succ_cons, List.take_zero, List.drop_succ_cons, List.drop_zero, putAll, Act.put, Nat.reduceAdd, List.setIfInBounds_toArray, List.set_cons_zero, List.set_cons_succ, e0, e1, e2, e3, e4, e5, e6, e7, e8, e9, e10, e11, e12, e13, e14, e15, e16, e17, e18, e19, e20, e21]
        clear e0 e1 e2 e3 e4 e5 e6 e7 e8 e9 e10 e11 e12 e13 e14 e15 e16 e17 e18 e19 e20 e21
        have hw' := ((Ext.refl w3).alloc (.cells #[.int .i64 R, .int .i64 C] 70)).drew.trans hw
        clear hw
        replace a0 := hw'.cell a0
        replace a1 := hw'.cell a1
        replace a2 := hw'.cell a2
        replace a3 := hw'.cell a3
        replace b0 := hw'.cell b0
        replace b1 := hw'.cell b1
        replace b2 := hw'.cell b2
        replace hE := hE.trans hw'
        clear hw' lt0 lt1 HSb HSa HOb HOa HIl
        obtain ⟨g, hg⟩ : ∃ g : Nat → Int, (fun i : Nat => plAt n cs r c d (i : Int)) = g := ⟨_, rfl⟩
        have HG : Hid (∀ i : Nat, plAt n cs r c d (i : Int) = g i) := hid (fun i => by rw [← hg])
        rw [hg] at H
        clear hg
        have HY := hid (@fitB_yes g s)
        have HN := hid (fun i => @fitB_no g s i)
        have HA := hid (anyF_succ g)
        have HFB : Hid (∀ x, freeB x = decide (x = 46)) := hid (fun x => rfl)
        have HBA := hid (bAt_eq s)
        go_wp2_with fail
        go_loopw [6, 7] (fun f i wr => ∃ k : Nat, k ≤ s.size ∧ i = .int .i64 k ∧ f = .bool (anyF g k) ∧ Hid (∀ j, j < k → (freeB (g j) || decide (g j = (bAt s j).toNat)) = true) ∧ Ext w1 wr) (fun _ i _ => s.size - (intOf i).toNat)
        case atStart => exact ⟨0, by omega, rfl, rfl, hid (fun j hj => by omega), Ext.refl _⟩
        case round =>
          obtain ⟨k, hk, rfl, rfl, hall, hx⟩ := hrel
          have hE1 := hE.trans hx
          by_cases hlt : k < s.size
          · replace a0 := hx.cell a0
            replace a1 := hx.cell a1
            replace a2 := hx.cell a2
            replace a3 := hx.cell a3
            replace b0 := hx.cell b0
            replace b1 := hx.cell b1
            replace b2 := hx.cell b2
            have HGk := HG.out k
            rw [plAt_sq] at HGk
            go_wp2_with fail
            refine (square_any r c d s (k : Int) _ (by omega) (by omega) (by omega)).mono ?_
            rintro e w2 ⟨rfl, hy⟩
            replace a0 := hy.cell a0
            replace a1 := hy.cell a1
            replace a2 := hy.cell a2
            replace a3 := hy.cell a3
            replace b0 := hy.cell b0
            replace b1 := hy.cell b1
            replace b2 := hy.cell b2
            obtain ⟨R1, hR1⟩ : ∃ R1, sqR r d (k : Int) = R1 := ⟨_, rfl⟩
            obtain ⟨C1, hC1⟩ : ∃ C1, sqC c d (k : Int) = C1 := ⟨_, rfl⟩
            rw [hR1, hC1] at HGk ⊢
            clear hR1 hC1
            have HCk := hid (fun w => cell_any n p cs R1 C1 w h1 h2 HC.out)
            rw [HGk] at HCk
            obtain ⟨x, hxg⟩ : ∃ x, g k = x := ⟨_, rfl⟩
            rw [hxg] at HCk
            have HX := hid hxg
            clear hxg HGk
            have lt0 := World.block_lt_of_cell? _ _ a0
            have lt1 := World.block_lt_of_cell? _ _ b0
            have hyE := hx.trans hy
            go_wp2_with fail
            refine (HCk.out _).mono ?_
            rintro e w4 ⟨rfl, hz⟩
            have hzE := hyE.trans (((Ext.refl w2).alloc (.cells #[.int .i64 R1, .int .i64 C1] 70)).trans hz)
            have hz1 := ((Ext.refl w2).alloc (.cells #[.int .i64 R1, .int .i64 C1] 70)).trans hz
            replace a0 := hz1.cell a0
            replace a1 := hz1.cell a1
            replace a2 := hz1.cell a2
            replace a3 := hz1.cell a3
            replace b0 := hz1.cell b0
            replace b1 := hz1.cell b1
            replace b2 := hz1.cell b2
            clear hy hz hz1 HCk
            by_cases h46 : x = 46
            · subst h46
              have HF : Hid (freeB (g k) = true) := hid (by rw [HX.out]; rfl)
              go_wp2_with fail
              go_roundw
              case rel => exact ⟨k + 1, by omega, by go_num, by rw [HA.out k, HF.out, Bool.or_true], hid (fun j hj => by
                by_cases hjk : j = k
                · subst hjk; rw [HF.out]; rfl
                · exact hall.out j (by omega)), hzE⟩
              case measure => simp [intOf]; omega
            · have HF : Hid (freeB (g k) = false) := hid (by rw [HFB.out, HX.out, decide_eq_false h46])
              have q46 : (x == 46) = false := by simpa using h46
              have HB := hid (HBA.out k hlt)
              clear h46
              obtain ⟨y, hy⟩ : ∃ y, s[k] = y := ⟨_, rfl⟩
              have HY1 := hid hy
              by_cases hne : x = (y.toNat : Int)
              · have HQ : Hid (g k = (bAt s k).toNat) := hid (by rw [← HB.out, HY1.out, HX.out, hne])
                subst hne
                go_wp2_with fail
                go_roundw
                case rel => exact ⟨k + 1, by omega, by go_num, by rw [HA.out k, HF.out, Bool.or_false], hid (fun j hj => by
                  by_cases hjk : j = k
                  · subst hjk; rw [decide_eq_true HQ.out, Bool.or_true]
                  · exact hall.out j (by omega)), hzE⟩
                case measure => simp [intOf]; omega
              · have HQ : Hid (g k ≠ (bAt s k).toNat) := hid (by rw [← HB.out, HY1.out, HX.out]; exact hne)
                have qne : (x != (y.toNat : Int)) = true := by simpa using hne
                clear hne
                go_wp2_with fail
                go_returns
                exact ⟨ret_bool (by rw [H.out, HN.out k hlt HF.out HQ.out]; rfl), hE.trans hzE⟩
          · obtain rfl : k = s.size := by omega
            replace a3 := hx.cell a3
            go_wp2_with fail
            go_returns
            exact ⟨ret_bool (by rw [H.out, HY.out (fun i hi => hall.out i hi)]; rfl), hE1⟩
end Go.Proofs.YtcgedkpbobgkhaaGreatDoor
