/- The scores of the letters of a play, by the program. Conditions stand at each. -/
import Derived.Test.YtcgedkpbobgkhaaGreatDoorCh13a
import Derived.Test.YtcgedkpbobgkhaaGreatDoorIterL
import Derived.Test.YtcgedkpbobgkhaaGreatDoorAppK
namespace Go.Proofs.YtcgedkpbobgkhaaGreatDoor
set_option linter.unusedVariables false
set_option linter.unusedSimpArgs false
open Go Go.RowKit
/-- The score of a play's letter. -/
def lsF (s : ByteArray) (vs : List Int) (n : Int) (p cs : ByteArray) (r c : Int) (d : Bool) (t : ByteArray) (i : Nat) : Int :=
  if plAt n cs r c d i = 46 then facI (plAt n p r c d i) * valL s vs (bAt t i) else valL s vs (bAt t i)
def lsL (f : Nat → Int) (m : Nat) : List Int := (List.range m).map f
theorem lsL_succ (f : Nat → Int) (m : Nat) : lsL f (m + 1) = lsL f m ++ [f m] := by simp [lsL, List.range_succ]
theorem lsL_length (f : Nat → Int) (m : Nat) : (lsL f m).length = m := by simp [lsL]
theorem intsV_app (l r : List Int) : intsV (l ++ r) = intsV l ++ intsV r := by simp [intsV]
/-- A list of whole numbers of the call's own comes back. -/
def RetIL (l : List Int) (w : World) (e : Ending) (w' : World) : Prop := ∃ a c, e = .returned (.slice a l.length c) ∧ OwnR w' w.heap.size a (intsV l) ∧ Ext w w'
set_option maxRecDepth 100000 in
set_option maxHeartbeats 4000000 in
theorem letterScores_any (ls : ByteArray) (ta tb : Option Addr) (tn tc td : Nat) (vs : List Int) (tk : Int) (n : Int) (p cs : ByteArray) (r c : Int) (d : Bool) (s : ByteArray) (w : World) (hs : ls.size ≤ 1048576) (hr : Rd w ta (intsV vs)) (hv : vs.length = ls.size) (hvs : ∀ i (h : i < vs.length), 0 ≤ vs[i] ∧ vs[i] ≤ 20)
    (h1 : 5 ≤ n) (h2 : n ≤ 15) (hp : (p.size : Int) = n * n) (hc : (cs.size : Int) = n * n) (hcell : allB cellB cs = true) (hin : inRC n r c = true) (hl : (if d then r else c) + (s.size : Int) ≤ n) (hm : allB letterB s = true) :
    Calls Tryz.prog 24 #[tileV ls ta tb vs.length tn tc td tk, boardV n p cs, playV r c d s] w (RetIL (lsL (lsF ls vs n p cs r c d s) s.size) w) := by
  obtain ⟨r1, r2, r3, r4⟩ := inRC_true hin
  have hs15 : s.size ≤ 15 := by cases d <;> simp at hl <;> omega
  have HC := hid hc
  have HP := hid hp
  have HA := hid (main_ascii hm)
  have HNZ : Hid (∀ i, i < s.size → plAt n cs r c d i ≠ 0) := hid (fun i hi => by
    rw [plAt_eq]
    exact sqAt_ne h1 h2 hc hcell (plAt_in hin hl i hi))
  have HIN : Hid (∀ i : Nat, i < s.size → inRC n (sqR r d i) (sqC c d i) = true) := hid (fun i hi => sq_in hin hl i hi)
  have HLS := hid (fun (x : UInt8) (z : Int) w' (h : Rd w' ta (intsV vs)) => letterScore_any ls ta tb tn tc td vs tk x z w' hs h hv hvs)
  obtain ⟨f, hf⟩ : ∃ f, lsF ls vs n p cs r c d s = f := ⟨_, rfl⟩
  have HF : Hid (∀ k : Nat, (if plAt n cs r c d k = 46 then facI (plAt n p r c d k) * valL ls vs (bAt s k) else valL ls vs (bAt s k)) = f k) := hid (fun k => by rw [← hf]; rfl)
  have HR := hid hr
  rw [hf]
  clear hf hr hv hvs hs hc hp hin hcell hm hl
  have HSu := hid (lsL_succ f)
  have HLn := hid (lsL_length f)
  go_enter Tryz.func24, Tryz.ntmps24
  go_wp2_with fail
  go_loopw [7] (fun v wr => ∃ (k cap : Nat) (a1 : Option Addr), k ≤ s.size ∧ v = .slice a1 k cap ∧ wr.heap[w.heap.size + 4]? = some (.stringIter s k) ∧ Hid (Own wr (w.heap.size + 3) 2 1 a1 k cap (intsV (lsL f k))) ∧ Ext (((w.alloc (.cells #[.string ls, .slice ta vs.length tc, .slice tb tn td, .int .i64 tk] 34)).alloc (.cells #[.int .i64 n, .string p, .string cs] 36)).alloc (.cells #[.int .i64 r, .int .i64 c, .bool d, .string s] 38)) wr) (fun _ wr => s.size - wr.iterPos (w.heap.size + 4))
  case atStart => exact ⟨0, 0, some ⟨w.heap.size + 3, 0, none⟩, by omega, rfl, iter_heap_at _ s _ (by first | (simp only [World.size_alloc]; done) | (simp only [World.size_alloc]; omega)), hid (Own.empty _ _ _ _ _), ((Ext.refl _).alloc _).alloc _⟩
  case round =>
    obtain ⟨k, cap1, a1, hk, rfl, hit, ho1, hx⟩ := hrel
    have hsz := hx.size
    simp only [World.size_alloc] at hsz
    by_cases hlt : k < s.size
    · have hnx : ∀ ty, (Instr.next (.pointer (some ⟨w.heap.size + 4, 0, none⟩)) true ty).run Tryz.prog wr = _ := fun ty => Go.Lib.run_next_ascii_at wr (w.heap.size + 4) s k ty hit hlt (HA.out k hlt)
      have hit2 := Go.Lib.iterAt_heap wr (w.heap.size + 4) s k (k + 1) hit
      have hx2 := iterAt_ext (s := s) (k' := k + 1) hx (show _ ≤ w.heap.size + 4 by simp only [World.size_alloc]; omega)
      have ho1 := hid (ho1.out.blocks (iterAt_cells (k' := k + 1) hit))
      have HM1 := hid (iterPos_of hit)
      have hlit := (Array.getElem?_eq_some_iff.1 hit).1
      have hsW : wr.heap.size = (wr.iterAt (w.heap.size + 4) s (k + 1)).heap.size := by simp [World.iterAt]
      obtain ⟨W, hW⟩ : ∃ W, wr.iterAt (w.heap.size + 4) s (k + 1) = W := ⟨_, rfl⟩
      rw [hW] at hnx hit2 hx2 ho1 hsW
      clear hW hx hit
      have a0 := hx2.cell (b := w.heap.size + 1) (o := 0) (v := .int .i64 n) (by go_cell)
      have a1' := hx2.cell (b := w.heap.size + 1) (o := 1) (v := .string p) (by go_cell)
      have a2' := hx2.cell (b := w.heap.size + 1) (o := 2) (v := .string cs) (by go_cell)
      have b0 := hx2.cell (b := w.heap.size + 2) (o := 0) (v := .int .i64 r) (by go_cell)
      have b1 := hx2.cell (b := w.heap.size + 2) (o := 1) (v := .int .i64 c) (by go_cell)
      have b2 := hx2.cell (b := w.heap.size + 2) (o := 2) (v := .bool d) (by go_cell)
      have b3 := hx2.cell (b := w.heap.size + 2) (o := 3) (v := .string s) (by go_cell)
      have q0 := hx2.cell (b := w.heap.size) (o := 0) (v := .string ls) (by go_cell)
      have q1 := hx2.cell (b := w.heap.size) (o := 1) (v := .slice ta vs.length tc) (by go_cell)
      have q2 := hx2.cell (b := w.heap.size) (o := 2) (v := .slice tb tn td) (by go_cell)
      have q3 := hx2.cell (b := w.heap.size) (o := 3) (v := .int .i64 tk) (by go_cell)
      have HSq := hid (fun w' => square_any r c d s (k : Int) w' (by omega) (by omega) (by omega))
      have HOn := hid (fun w' => on_any n p cs (sqR r d (k : Int)) (sqC c d (k : Int)) w' h1 h2 HC.out)
      have HPr := hid (fun w' => premium_any n p cs (sqR r d (k : Int)) (sqC c d (k : Int)) w' h1 h2 HP.out (HIN.out k hlt))
      rw [← plAt_sq] at HOn HPr
      have hnz := HNZ.out k hlt
      have HFk := hid (HF.out k)
      have HX0 := hid (bAt_eq s k hlt)
      obtain ⟨X, hX⟩ : ∃ X, bAt s k = X := ⟨_, rfl⟩
      rw [hX] at HFk HX0
      obtain ⟨x, hxg⟩ : ∃ x, plAt n cs r c d (k : Int) = x := ⟨_, rfl⟩
      rw [hxg] at HOn hnz HFk
      obtain ⟨z, hzg⟩ : ∃ z, plAt n p r c d (k : Int) = z := ⟨_, rfl⟩
      rw [hzg] at HPr HFk
      have HNX := hid hnz
      obtain ⟨R1, hR1⟩ : ∃ R1, sqR r d (k : Int) = R1 := ⟨_, rfl⟩
      obtain ⟨C1, hC1⟩ : ∃ C1, sqC c d (k : Int) = C1 := ⟨_, rfl⟩
      rw [hR1, hC1] at HSq HOn HPr
      have HR2 := hid (HR.out.ext ((((Ext.refl w).alloc _).alloc _).alloc _ |>.trans hx2))
      clear hxg hzg hnz hR1 hC1 hlit hX
      go_wp2_with fail
      refine (HSq.out _).mono ?_
      rintro e w2 ⟨rfl, hy⟩
      replace a0 := hy.cell a0
      replace a1' := hy.cell a1'
      replace a2' := hy.cell a2'
      replace q0 := hy.cell q0
      replace q1 := hy.cell q1
      replace q2 := hy.cell q2
      replace q3 := hy.cell q3
      replace b3 := hy.cell b3
      have lt0 := World.block_lt_of_cell? _ _ a0
      go_wp2_with fail
      refine (HOn.out _).mono ?_
      rintro e w3 ⟨rfl, hz⟩
      have t0 := hz.cell (b := w2.heap.size) (o := 0) (v := .int .i64 R1) (by simp)
      have t1 := hz.cell (b := w2.heap.size) (o := 1) (v := .int .i64 C1) (by simp)
      have hy3 := ((Ext.refl w2).alloc (.cells #[.int .i64 R1, .int .i64 C1] 70)).trans hz
      replace a0 := hy3.cell a0
      replace a1' := hy3.cell a1'
      replace a2' := hy3.cell a2'
      replace q0 := hy3.cell q0
      replace q1 := hy3.cell q1
      replace q2 := hy3.cell q2
      replace q3 := hy3.cell q3
      replace b3 := hy3.cell b3
      have hz2 := hy.trans hy3
      have hE3 := hx2.trans hz2
      have hit3 := hz2.iter hit2
      have ho1 := hid (ho1.out.ext hz2)
      have HR3 := hid (HR2.out.ext hz2)
      have hs3 := hz2.size
      clear hy hz hy3 hz2 b0 b1 b2 lt0 hit2 HSq HOn HR2
      have HG : Hid (∀ Z w', Ext w3 w' → (Z = (if x = 46 then z else 46)) → Calls Tryz.prog 43 #[tileV ls ta tb vs.length tn tc td tk, .int .u8 X.toNat, .int .u8 Z] w' (Ret (.int .i64 (f k)) w')) := hid (fun Z w' hx hZ => by
        have h := HLS.out X Z w' (HR3.out.ext hx)
        have e : facI Z * valL ls vs X = f k := by
          rw [← HFk.out, hZ]
          by_cases h46 : x = 46
          · rw [if_pos h46, if_pos h46]
          · rw [if_neg h46, if_neg h46]
            simp [facI]
        rw [e] at h
        exact h)
      obtain ⟨V, hV⟩ : ∃ V, f k = V := ⟨_, rfl⟩
      have HSk := hid (HSu.out k)
      rw [hV] at HG HSk
      clear hV HFk
      by_cases h46 : x = 46
      · subst h46
        have e46 : letB 46 = false := rfl
        rw [e46]
        clear e46
        go_wp2_with fail
        refine (HPr.out _).mono ?_
        rintro e w4 ⟨rfl, hz⟩
        replace q0 := hz.cell q0
        replace q1 := hz.cell q1
        replace q2 := hz.cell q2
        replace q3 := hz.cell q3
        replace b3 := hz.cell b3
        have HG4 := hid (fun w' (hx : Ext w4 w') => HG.out z w' (hz.trans hx) (by simp))
        replace hE3 := hE3.trans hz
        replace hit3 := hz.iter hit3
        replace ho1 := hid (ho1.out.ext hz)
        have hs4 := hz.size
        clear hz t0 t1 a0 a1' a2' HG HPr
        go_wp2_with fail
        refine wp_region_flow_at (C := Ext) 9 [fun v _ => v = .slice a1 k cap1, fun v _ => v = .agg #[.string ls, .slice ta vs.length tc, .slice tb tn td, .int .i64 tk], fun v _ => v = .pointer (some ⟨(w.heap.size + 2), 3, none⟩), fun v _ => v = .string s, fun v _ => v = .int .i64 (k : Int), fun v _ => v = .int .u8 (X.toNat : Int), fun v _ => v = .int .u8 z, fun v _ => v = .int .i64 V, fun v w' => ∃ g, v = .slice (some ⟨g, 0, none⟩) 1 1 ∧ w'.cell? ⟨g, 0, none⟩ = some (.int .i64 V)]
          [[(7, none)], [(3, none)], [(5, none)], [(33, some 2)], [(8, none)], [(34, some 3), (35, some 4)], [(10, none)], [(32, some 1), (36, some 5), (37, some 6)], [(38, some 7)]] (by kernel_rfl) (by kernel_rfl) Ext.refl (fun _ _ _ => Ext.trans) ?_ ?_ ?_
        · intro F hF
          simp only [List.mem_cons, List.not_mem_nil, or_false] at hF
          rcases hF with rfl | rfl | rfl | rfl | rfl | rfl | rfl | rfl | rfl
          · exact fun _ _ _ h _ => h
          · exact fun _ _ _ h _ => h
          · exact fun _ _ _ h _ => h
          · exact fun _ _ _ h _ => h
          · exact fun _ _ _ h _ => h
          · exact fun _ _ _ h _ => h
          · exact fun _ _ _ h _ => h
          · exact fun _ _ _ h _ => h
          · exact fun _ _ _ ⟨g, h1, h2⟩ k => ⟨g, h1, k.cell h2⟩
        · refine ⟨?_, ?_, ?_, ?_, ?_, ?_, ?_, ?_, ?_, trivial⟩
          · rintro ρ w1 hw hcst hfn hk
            clear hw
            simp only [known, List.getD_cons_zero, List.getD_cons_succ, Nat.reduceAdd] at hk
            simp only [List.getD_cons_zero, List.getD_cons_succ, Nat.reduceAdd, flowAt]
            go_simp
            exact ⟨Ext.refl _, by first | rfl | trivial⟩
          · rintro ρ w1 hw hcst hfn hk
            have c0 := hw.cell (b := w.heap.size) (o := 0) (v := .string ls) (by first | (simp [*]; done) | (simp [*, go_sem]; done) | go_cell)
            have c1 := hw.cell (b := w.heap.size) (o := 1) (v := .slice ta vs.length tc) (by first | (simp [*]; done) | (simp [*, go_sem]; done) | go_cell)
            have c2 := hw.cell (b := w.heap.size) (o := 2) (v := .slice tb tn td) (by first | (simp [*]; done) | (simp [*, go_sem]; done) | go_cell)
            have c3 := hw.cell (b := w.heap.size) (o := 3) (v := .int .i64 tk) (by first | (simp [*]; done) | (simp [*, go_sem]; done) | go_cell)
            clear hw
            simp only [known, List.getD_cons_zero, List.getD_cons_succ, Nat.reduceAdd] at hk
            simp only [List.getD_cons_zero, List.getD_cons_succ, Nat.reduceAdd, flowAt]
            go_simp
            exact ⟨Ext.refl _, by first | rfl | trivial⟩
          · rintro ρ w1 hw hcst hfn hk
            clear hw
            simp only [known, List.getD_cons_zero, List.getD_cons_succ, Nat.reduceAdd] at hk
            simp only [List.getD_cons_zero, List.getD_cons_succ, Nat.reduceAdd, flowAt]
            go_simp
            exact ⟨Ext.refl _, by first | rfl | trivial⟩
          · rintro ρ w1 hw hcst hfn hk
            have c0 := hw.cell (b := (w.heap.size + 2)) (o := 3) (v := .string s) (by first | (simp [*]; done) | (simp [*, go_sem]; done) | go_cell)
            clear hw
            simp only [known, List.getD_cons_zero, List.getD_cons_succ, Nat.reduceAdd] at hk
            simp only [List.getD_cons_zero, List.getD_cons_succ, Nat.reduceAdd, flowAt]
            go_simp
            exact ⟨Ext.refl _, by first | rfl | trivial⟩
          · rintro ρ w1 hw hcst hfn hk
            clear hw
            simp only [known, List.getD_cons_zero, List.getD_cons_succ, Nat.reduceAdd] at hk
            simp only [List.getD_cons_zero, List.getD_cons_succ, Nat.reduceAdd, flowAt]
            go_simp
            exact ⟨Ext.refl _, by first | rfl | trivial⟩
          · rintro ρ w1 hw hcst hfn hk
            simp only [known, List.getD_cons_zero, List.getD_cons_succ, Nat.reduceAdd] at hk
            simp only [List.getD_cons_zero, List.getD_cons_succ, Nat.reduceAdd, flowAt]
            go_simp
            exact ⟨Ext.refl _, by first | rfl | rw [HX0.out]⟩
          · rintro ρ w1 hw hcst hfn hk
            clear hw
            simp only [known, List.getD_cons_zero, List.getD_cons_succ, Nat.reduceAdd] at hk
            simp only [List.getD_cons_zero, List.getD_cons_succ, Nat.reduceAdd, flowAt]
            go_simp
            exact ⟨Ext.refl _, by first | rfl | trivial⟩
          · rintro ρ w1 hw hcst hfn hk
            simp only [known, List.getD_cons_zero, List.getD_cons_succ, Nat.reduceAdd] at hk
            simp only [List.getD_cons_zero, List.getD_cons_succ, Nat.reduceAdd, flowAt]
            go_simp
            exact flow_ret (HG4.out _ ((Ext.refl _).drew.trans hw))
          · rintro ρ w1 hw hcst hfn hk
            simp only [known, List.getD_cons_zero, List.getD_cons_succ, Nat.reduceAdd] at hk
            simp only [List.getD_cons_zero, List.getD_cons_succ, Nat.reduceAdd, flowAt]
            go_simp
            exact ⟨(Ext.refl _).alloc _, w1.heap.size, rfl, by simp⟩
        intro vs w1 hw hf
        simp only [flowFacts, Nat.reduceAdd] at hf
        obtain ⟨e0, e1, e2, e3, e4, e5, e6, e7, e8, -⟩ := hf
        simp only [List.take_succ_cons, List.take_zero, List.drop_succ_cons, List.drop_zero, putAll, Act.put, Nat.reduceAdd, List.setIfInBounds_toArray, List.set_cons_zero, List.set_cons_succ, e0, e1, e2, e3, e4, e5, e6, e7]
        clear e0 e1 e2 e3 e4 e5 e6 e7
        obtain ⟨g0, hg0, hgc⟩ := e8
        rw [hg0]
        have hx4 := ((Ext.refl _).drew.trans hw)
        have hown2 := ho1.out.ext hx4
        have hit4 := hx4.iter hit3
        have hs5 := hx4.size
        have hE4 := hE3.trans hx4
        clear hx4 hw q0 q1 q2 q3 b3 ho1 hit3 hE3
        have HRd : Rd _ (some ⟨g0, 0, none⟩) [.int .i64 V] := Rd.one hgc
        go_wp2_with (at_builtin; refine wpList_appendK rfl _ _ 22 rfl El_int64 rfl rfl [.int .i64 V] HRd rfl (by omega) (by simp [Value.oneCell']) hown2 (by omega) (by unfold maxLen; omega) (by omega) ?_; intro a3 c3 w6 hown3 hb3 hk3; have hit5 := hk3.iter hit4; have HO := hid hown3; have hE5 := hE4.thenBelow hb3 (by simp); clear hown3 hown2 hit4 hk3 hb3 hE4)
        refine ⟨⟨k + 1, c3, a3, by omega, rfl, hit5, hid (by rw [HSk.out, intsV_app]; exact HO.out), hE5⟩, ?_⟩
        rw [iterPos_of hit5, HM1.out]
        omega
      · have el : letB x = true := by unfold letB; simp [h46, HNX.out]
        rw [el]
        clear el
        have HG4 := hid (fun w' (hx : Ext w3 w') => HG.out 46 w' hx (if_neg h46).symm)
        clear t0 t1 a0 a1' a2' HG HPr h46
        go_wp2_with fail
        refine wp_region_flow_at (C := Ext) 9 [fun v _ => v = .slice a1 k cap1, fun v _ => v = .agg #[.string ls, .slice ta vs.length tc, .slice tb tn td, .int .i64 tk], fun v _ => v = .pointer (some ⟨(w.heap.size + 2), 3, none⟩), fun v _ => v = .string s, fun v _ => v = .int .i64 (k : Int), fun v _ => v = .int .u8 (X.toNat : Int), fun v _ => v = .int .u8 46, fun v _ => v = .int .i64 V, fun v w' => ∃ g, v = .slice (some ⟨g, 0, none⟩) 1 1 ∧ w'.cell? ⟨g, 0, none⟩ = some (.int .i64 V)]
          [[(7, none)], [(3, none)], [(5, none)], [(33, some 2)], [(8, none)], [(34, some 3), (35, some 4)], [(10, none)], [(32, some 1), (36, some 5), (37, some 6)], [(38, some 7)]] (by kernel_rfl) (by kernel_rfl) Ext.refl (fun _ _ _ => Ext.trans) ?_ ?_ ?_
        · intro F hF
          simp only [List.mem_cons, List.not_mem_nil, or_false] at hF
          rcases hF with rfl | rfl | rfl | rfl | rfl | rfl | rfl | rfl | rfl
          · exact fun _ _ _ h _ => h
          · exact fun _ _ _ h _ => h
          · exact fun _ _ _ h _ => h
          · exact fun _ _ _ h _ => h
          · exact fun _ _ _ h _ => h
          · exact fun _ _ _ h _ => h
          · exact fun _ _ _ h _ => h
          · exact fun _ _ _ h _ => h
          · exact fun _ _ _ ⟨g, h1, h2⟩ k => ⟨g, h1, k.cell h2⟩
        · refine ⟨?_, ?_, ?_, ?_, ?_, ?_, ?_, ?_, ?_, trivial⟩
          · rintro ρ w1 hw hcst hfn hk
            clear hw
            simp only [known, List.getD_cons_zero, List.getD_cons_succ, Nat.reduceAdd] at hk
            simp only [List.getD_cons_zero, List.getD_cons_succ, Nat.reduceAdd, flowAt]
            go_simp
            exact ⟨Ext.refl _, by first | rfl | trivial⟩
          · rintro ρ w1 hw hcst hfn hk
            have c0 := hw.cell (b := w.heap.size) (o := 0) (v := .string ls) (by first | (simp [*]; done) | (simp [*, go_sem]; done) | go_cell)
            have c1 := hw.cell (b := w.heap.size) (o := 1) (v := .slice ta vs.length tc) (by first | (simp [*]; done) | (simp [*, go_sem]; done) | go_cell)
            have c2 := hw.cell (b := w.heap.size) (o := 2) (v := .slice tb tn td) (by first | (simp [*]; done) | (simp [*, go_sem]; done) | go_cell)
            have c3 := hw.cell (b := w.heap.size) (o := 3) (v := .int .i64 tk) (by first | (simp [*]; done) | (simp [*, go_sem]; done) | go_cell)
            clear hw
            simp only [known, List.getD_cons_zero, List.getD_cons_succ, Nat.reduceAdd] at hk
            simp only [List.getD_cons_zero, List.getD_cons_succ, Nat.reduceAdd, flowAt]
            go_simp
            exact ⟨Ext.refl _, by first | rfl | trivial⟩
          · rintro ρ w1 hw hcst hfn hk
            clear hw
            simp only [known, List.getD_cons_zero, List.getD_cons_succ, Nat.reduceAdd] at hk
            simp only [List.getD_cons_zero, List.getD_cons_succ, Nat.reduceAdd, flowAt]
            go_simp
            exact ⟨Ext.refl _, by first | rfl | trivial⟩
          · rintro ρ w1 hw hcst hfn hk
            have c0 := hw.cell (b := (w.heap.size + 2)) (o := 3) (v := .string s) (by first | (simp [*]; done) | (simp [*, go_sem]; done) | go_cell)
            clear hw
            simp only [known, List.getD_cons_zero, List.getD_cons_succ, Nat.reduceAdd] at hk
            simp only [List.getD_cons_zero, List.getD_cons_succ, Nat.reduceAdd, flowAt]
            go_simp
            exact ⟨Ext.refl _, by first | rfl | trivial⟩
          · rintro ρ w1 hw hcst hfn hk
            clear hw
            simp only [known, List.getD_cons_zero, List.getD_cons_succ, Nat.reduceAdd] at hk
            simp only [List.getD_cons_zero, List.getD_cons_succ, Nat.reduceAdd, flowAt]
            go_simp
            exact ⟨Ext.refl _, by first | rfl | trivial⟩
          · rintro ρ w1 hw hcst hfn hk
            simp only [known, List.getD_cons_zero, List.getD_cons_succ, Nat.reduceAdd] at hk
            simp only [List.getD_cons_zero, List.getD_cons_succ, Nat.reduceAdd, flowAt]
            go_simp
            exact ⟨Ext.refl _, by first | rfl | rw [HX0.out]⟩
          · rintro ρ w1 hw hcst hfn hk
            clear hw
            simp only [known, List.getD_cons_zero, List.getD_cons_succ, Nat.reduceAdd] at hk
            simp only [List.getD_cons_zero, List.getD_cons_succ, Nat.reduceAdd, flowAt]
            go_simp
            exact ⟨Ext.refl _, by first | rfl | trivial⟩
          · rintro ρ w1 hw hcst hfn hk
            simp only [known, List.getD_cons_zero, List.getD_cons_succ, Nat.reduceAdd] at hk
            simp only [List.getD_cons_zero, List.getD_cons_succ, Nat.reduceAdd, flowAt]
            go_simp
            exact flow_ret (HG4.out _ ((Ext.refl _).drew.trans hw))
          · rintro ρ w1 hw hcst hfn hk
            simp only [known, List.getD_cons_zero, List.getD_cons_succ, Nat.reduceAdd] at hk
            simp only [List.getD_cons_zero, List.getD_cons_succ, Nat.reduceAdd, flowAt]
            go_simp
            exact ⟨(Ext.refl _).alloc _, w1.heap.size, rfl, by simp⟩
        intro vs w1 hw hf
        simp only [flowFacts, Nat.reduceAdd] at hf
        obtain ⟨e0, e1, e2, e3, e4, e5, e6, e7, e8, -⟩ := hf
        simp only [List.take_succ_cons, List.take_zero, List.drop_succ_cons, List.drop_zero, putAll, Act.put, Nat.reduceAdd, List.setIfInBounds_toArray, List.set_cons_zero, List.set_cons_succ, e0, e1, e2, e3, e4, e5, e6, e7]
        clear e0 e1 e2 e3 e4 e5 e6 e7
        obtain ⟨g0, hg0, hgc⟩ := e8
        rw [hg0]
        have hx4 := ((Ext.refl _).drew.trans hw)
        have hown2 := ho1.out.ext hx4
        have hit4 := hx4.iter hit3
        have hs5 := hx4.size
        have hE4 := hE3.trans hx4
        clear hx4 hw q0 q1 q2 q3 b3 ho1 hit3 hE3
        have HRd : Rd _ (some ⟨g0, 0, none⟩) [.int .i64 V] := Rd.one hgc
        go_wp2_with (at_builtin; refine wpList_appendK rfl _ _ 22 rfl El_int64 rfl rfl [.int .i64 V] HRd rfl (by omega) (by simp [Value.oneCell']) hown2 (by omega) (by unfold maxLen; omega) (by omega) ?_; intro a3 c3 w6 hown3 hb3 hk3; have hit5 := hk3.iter hit4; have HO := hid hown3; have hE5 := hE4.thenBelow hb3 (by simp); clear hown3 hown2 hit4 hk3 hb3 hE4)
        refine ⟨⟨k + 1, c3, a3, by omega, rfl, hit5, hid (by rw [HSk.out, intsV_app]; exact HO.out), hE5⟩, ?_⟩
        rw [iterPos_of hit5, HM1.out]
        omega
    · obtain rfl : k = s.size := by omega
      have hnx : ∀ ty, (Instr.next (.pointer (some ⟨w.heap.size + 4, 0, none⟩)) true ty).run Tryz.prog wr = _ := fun ty => Go.Lib.run_next_end_at wr (w.heap.size + 4) s s.size ty hit hlt
      have hE : Ext w wr := ((((Ext.refl w).alloc _).alloc _).alloc _).trans hx
      go_wp2_with fail
      go_returns
      exact ⟨a1, cap1, by rw [HLn.out]; rfl, ho1.out.ownR.mono (by omega), hE⟩
end Go.Proofs.YtcgedkpbobgkhaaGreatDoor
