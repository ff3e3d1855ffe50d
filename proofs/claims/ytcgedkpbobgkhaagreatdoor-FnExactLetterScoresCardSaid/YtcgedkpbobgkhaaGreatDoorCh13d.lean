/- LetterScores by the reference. Conditions stand at each. -/
import Derived.Test.YtcgedkpbobgkhaaGreatDoorCh13c
namespace Go.Proofs.YtcgedkpbobgkhaaGreatDoor
set_option linter.unusedVariables false
set_option linter.unusedSimpArgs false
open Go Go.RowKit
set_option maxRecDepth 100000 in
set_option maxHeartbeats 4000000 in
theorem l13Letters_any (ls : ByteArray) (ta tb : Option Addr) (tn tc td g q : Nat) (vs : List Int) (tk : Int) (n : Int) (p cs : ByteArray) (r c : Int) (s : ByteArray) (w : World) (hs : ls.size ≤ 1048576) (hT : TileAt w g ls ta tb vs.length tn tc td tk) (hr : Rd w ta (intsV vs)) (hv : vs.length = ls.size) (hvs : ∀ i (h : i < vs.length), 0 ≤ vs[i] ∧ vs[i] ≤ 20)
    (hB : BdAt w q 0 n p cs) (h1 : 5 ≤ n) (h2 : n ≤ 15) (hp : (p.size : Int) = n * n) (hc : (cs.size : Int) = n * n) (hin : inRC n r c = true) (hl : c + (s.size : Int) ≤ n) :
    Calls Tryz.prog 21 #[.pointer (some ⟨g, 0, none⟩), .pointer (some ⟨q, 0, none⟩), playV r c false s] w (RetIL (lsL (lsF ls vs n p cs r c false s) s.size) w) := by
  obtain ⟨r1, r2, r3, r4⟩ := inRC_true hin
  have hs15 : s.size ≤ 15 := by omega
  have HIN : Hid (∀ i : Nat, i < s.size → inRC n r (c + i) = true) := hid (fun i hi => sq_in (d := false) hin hl i hi)
  have HAt := hid (fun (i : Nat) w' (x : Ext w w') (hi : i < s.size) => l11At_any q 0 n p cs r (c + i) w' (hB.ext x) h1 h2 hc (HIN.out i hi))
  have HLe := hid (fun (i : Nat) (x : UInt8) w' (e : Ext w w') (hi : i < s.size) => l13Letter_any ls ta tb tn tc td g q vs tk n p cs r (c + i) x w' hs (hT.ext e) (hr.ext e) hv hvs (hB.ext e) h1 h2 hp (HIN.out i hi))
  have HVa := hid (fun (x : UInt8) w' (e : Ext w w') => l02Value_any ls ta tb tn tc td g vs tk x w' hs (hT.ext e) (hr.ext e) hv)
  obtain ⟨f, hf⟩ : ∃ f, lsF ls vs n p cs r c false s = f := ⟨_, rfl⟩
  have HF : Hid (∀ k : Nat, (if sqAt n cs r (c + (k : Int)) = 46 then facI (sqAt n p r (c + (k : Int))) * valL ls vs (bAt s k) else valL ls vs (bAt s k)) = f k) := hid (fun k => by rw [← hf]; rfl)
  rw [hf]
  clear hf hr hv hvs hs hc hp hin hl hB hT
  have HSu := hid (lsL_succ f)
  have HLn := hid (lsL_length f)
  go_enter Tryz.func21, Tryz.ntmps21
  go_wp2_with fail
  go_loopw [7, 8] (fun v i wr => ∃ (k cap : Nat) (a1 : Option Addr), k ≤ s.size ∧ v = .slice a1 k cap ∧ i = .int .i64 k ∧ Hid (Own wr (w.heap.size + 1) 2 1 a1 k cap (intsV (lsL f k))) ∧ Ext (w.alloc (.cells #[.int .i64 r, .int .i64 c, .bool false, .string s] 38)) wr) (fun _ i _ => s.size - (intOf i).toNat)
  case atStart => exact ⟨0, 0, some ⟨w.heap.size + 1, 0, none⟩, by omega, rfl, rfl, hid (Own.empty _ _ _ _ _), (Ext.refl _).alloc _⟩
  case round =>
    obtain ⟨k, cap1, a1, hk, rfl, rfl, ho1, hx⟩ := hrel
    have hsz := hx.size
    simp only [World.size_alloc] at hsz
    have hE : Ext w wr := ((Ext.refl w).alloc _).trans hx
    have b0 := hx.cell (b := w.heap.size) (o := 0) (v := .int .i64 r) (by simp)
    have b1 := hx.cell (b := w.heap.size) (o := 1) (v := .int .i64 c) (by simp)
    have b3 := hx.cell (b := w.heap.size) (o := 3) (v := .string s) (by simp)
    by_cases hlt : k < s.size
    · have HAk := hid (HAt.out k wr hE hlt)
      have HLk := hid (fun x w' (e : Ext wr w') => HLe.out k x w' (hE.trans e) hlt)
      have HVk := hid (fun x w' (e : Ext wr w') => HVa.out x w' (hE.trans e))
      have HFk := hid (HF.out k)
      have HX0 := hid (bAt_eq s k hlt)
      obtain ⟨X, hX⟩ : ∃ X, bAt s k = X := ⟨_, rfl⟩
      rw [hX] at HFk HX0
      obtain ⟨x, hxg⟩ : ∃ x, sqAt n cs r (c + (k : Int)) = x := ⟨_, rfl⟩
      obtain ⟨z, hzg⟩ : ∃ z, sqAt n p r (c + (k : Int)) = z := ⟨_, rfl⟩
      rw [hxg] at HAk HFk
      rw [hzg] at HLk HFk
      have HSk := hid (HSu.out k)
      obtain ⟨C1, hC1⟩ : ∃ C1, c + (k : Int) = C1 := ⟨_, rfl⟩
      have qw : IntKind.i64.wrap (c + (k : Int)) = C1 := by rw [hC1]; exact IntWalk.i64_in _ (by omega)
      have qw2 : IntKind.i64.wrap C1 = C1 := IntWalk.i64_in _ (by omega)
      rw [hC1] at HAk HLk
      clear hxg hzg hX
      go_wp2_with fail
      refine HAk.out.mono ?_
      rintro e w2 ⟨rfl, hD⟩
      have hy := hD.ext
      replace b0 := hy.cell b0
      replace b1 := hy.cell b1
      replace b3 := hy.cell b3
      have ho2 := hid (ho1.out.ext hy)
      have hxx := hx.trans hy
      have hs2 := hy.size
      have HY := hid hy
      clear hy hD HAk ho1 hx hE
      by_cases h46 : x = 46
      · subst h46
        obtain ⟨V, hV⟩ : ∃ V, f k = V := ⟨_, rfl⟩
        have HG4 := hid (fun w' (e : Ext w2 w') => HLk.out X w' (HY.out.trans e))
        rw [show facI z * valL ls vs X = V from by rw [← hV, ← HFk.out]; rfl] at HG4
        rw [hV] at HSk
        clear hV HFk HLk HVk HY
        go_wp2_with fail
        refine wp_region_flow_at (C := Ext) 15 [fun v _ => v = .slice a1 k cap1, fun v _ => v = .pointer (some ⟨g, 0, none⟩), fun v _ => v = .pointer (some ⟨q, 0, none⟩), fun v _ => v = .pointer (some ⟨w.heap.size, 0, none⟩), fun v _ => v = .int .i64 r, fun v _ => v = .pointer (some ⟨w.heap.size, 1, none⟩), fun v _ => v = .int .i64 c, fun v _ => v = .int .i64 (k : Int), fun v _ => v = .int .i64 C1, fun v _ => v = .pointer (some ⟨w.heap.size, 3, none⟩), fun v _ => v = .string s, fun v _ => v = .int .i64 (k : Int), fun v _ => v = .int .u8 (X.toNat : Int), fun v _ => v = .int .i64 V, fun v w' => ∃ g, v = .slice (some ⟨g, 0, none⟩) 1 1 ∧ w'.cell? ⟨g, 0, none⟩ = some (.int .i64 V)]
          [[(7, none)], [(0, none)], [(1, none)], [(5, none)], [(29, some 3)], [(5, none)], [(31, some 5)], [(8, none)], [(32, some 6), (33, some 7)], [(5, none)], [(35, some 9)], [(8, none)], [(36, some 10), (37, some 11)], [(27, some 1), (28, some 2), (30, some 4), (34, some 8), (38, some 12)], [(39, some 13)]] (by kernel_rfl) (by kernel_rfl) Ext.refl (fun _ _ _ => Ext.trans) ?_ ?_ ?_
        · intro F hF
          simp only [List.mem_cons, List.not_mem_nil, or_false] at hF
          rcases hF with rfl | rfl | rfl | rfl | rfl | rfl | rfl | rfl | rfl | rfl | rfl | rfl | rfl | rfl | rfl
          · exact fun _ _ _ h _ => h
          · exact fun _ _ _ h _ => h
          · exact fun _ _ _ h _ => h
          · exact fun _ _ _ h _ => h
          · exact fun _ _ _ h _ => h
          · exact fun _ _ _ h _ => h
          · exact fun _ _ _ h _ => h
          · exact fun _ _ _ h _ => h
          · exact fun _ _ _ h _ => h
          · exact fun _ _ _ h _ => h
          · exact fun _ _ _ h _ => h
          · exact fun _ _ _ h _ => h
          · exact fun _ _ _ h _ => h
          · exact fun _ _ _ h _ => h
          · exact fun _ _ _ ⟨g, h1, h2⟩ k => ⟨g, h1, k.cell h2⟩
        · refine ⟨?_, ?_, ?_, ?_, ?_, ?_, ?_, ?_, ?_, ?_, ?_, ?_, ?_, ?_, ?_, trivial⟩
          · rintro ρ w1 hw hcst hfn hk
            clear hw
            simp only [known, List.getD_cons_zero, List.getD_cons_succ, Nat.reduceAdd] at hk
            simp only [List.getD_cons_zero, List.getD_cons_succ, Nat.reduceAdd, flowAt]
            go_simp
            exact ⟨Ext.refl _, by first | rfl | trivial⟩
          · rintro ρ w1 hw hcst hfn hk
            clear hw
            simp only [known, List.getD_cons_zero, List.getD_cons_succ, Nat.reduceAdd] at hk
            simp only [List.getD_cons_zero, List.getD_cons_succ, Nat.reduceAdd, flowAt]
            go_simp
            exact ⟨Ext.refl _, by first | rfl | trivial⟩
          · rintro ρ w1 hw hcst hfn hk
            clear hw
            simp only [known, List.getD_cons_zero, List.getD_cons_succ, Nat.reduceAdd] at hk
            simp only [List.getD_cons_zero, List.getD_cons_succ, Nat.reduceAdd, flowAt]
            go_simp
            exact ⟨Ext.refl _, by first | rfl | trivial⟩
          · rintro ρ w1 hw hcst hfn hk
            clear hw
            simp only [known, List.getD_cons_zero, List.getD_cons_succ, Nat.reduceAdd] at hk
            simp only [List.getD_cons_zero, List.getD_cons_succ, Nat.reduceAdd, flowAt]
            go_simp
            exact ⟨Ext.refl _, by first | rfl | trivial⟩
          · rintro ρ w1 hw hcst hfn hk
            have c0 := hw.cell (b := w.heap.size) (o := 0) (v := .int .i64 r) (by first | (simp [*]; done) | (simp [*, go_sem]; done) | go_cell)
            clear hw
            simp only [known, List.getD_cons_zero, List.getD_cons_succ, Nat.reduceAdd] at hk
            simp only [List.getD_cons_zero, List.getD_cons_succ, Nat.reduceAdd, flowAt]
            go_simp
            exact ⟨Ext.refl _, by first | rfl | trivial⟩
          · rintro ρ w1 hw hcst hfn hk
            clear hw
            simp only [known, List.getD_cons_zero, List.getD_cons_succ, Nat.reduceAdd] at hk
            simp only [List.getD_cons_zero, List.getD_cons_succ, Nat.reduceAdd, flowAt]
            go_simp
            exact ⟨Ext.refl _, by first | rfl | trivial⟩
          · rintro ρ w1 hw hcst hfn hk
            have c0 := hw.cell (b := w.heap.size) (o := 1) (v := .int .i64 c) (by first | (simp [*]; done) | (simp [*, go_sem]; done) | go_cell)
            clear hw
            simp only [known, List.getD_cons_zero, List.getD_cons_succ, Nat.reduceAdd] at hk
            simp only [List.getD_cons_zero, List.getD_cons_succ, Nat.reduceAdd, flowAt]
            go_simp
            exact ⟨Ext.refl _, by first | rfl | trivial⟩
          · rintro ρ w1 hw hcst hfn hk
            clear hw
            simp only [known, List.getD_cons_zero, List.getD_cons_succ, Nat.reduceAdd] at hk
            simp only [List.getD_cons_zero, List.getD_cons_succ, Nat.reduceAdd, flowAt]
            go_simp
            exact ⟨Ext.refl _, by first | rfl | trivial⟩
          · rintro ρ w1 hw hcst hfn hk
            simp only [known, List.getD_cons_zero, List.getD_cons_succ, Nat.reduceAdd] at hk
            simp only [List.getD_cons_zero, List.getD_cons_succ, Nat.reduceAdd, flowAt]
            go_simp
            exact ⟨Ext.refl _, by first | rfl | rw [qw2]⟩
          · rintro ρ w1 hw hcst hfn hk
            clear hw
            simp only [known, List.getD_cons_zero, List.getD_cons_succ, Nat.reduceAdd] at hk
            simp only [List.getD_cons_zero, List.getD_cons_succ, Nat.reduceAdd, flowAt]
            go_simp
            exact ⟨Ext.refl _, by first | rfl | trivial⟩
          · rintro ρ w1 hw hcst hfn hk
            have c0 := hw.cell (b := w.heap.size) (o := 3) (v := .string s) (by first | (simp [*]; done) | (simp [*, go_sem]; done) | go_cell)
            clear hw
            simp only [known, List.getD_cons_zero, List.getD_cons_succ, Nat.reduceAdd] at hk
            simp only [List.getD_cons_zero, List.getD_cons_succ, Nat.reduceAdd, flowAt]
            go_simp
            exact ⟨Ext.refl _, by first | rfl | trivial⟩
          · rintro ρ w1 hw hcst hfn hk
            clear hw
            simp only [known, List.getD_cons_zero, List.getD_cons_succ, Nat.reduceAdd] at hk
            simp only [List.getD_cons_zero, List.getD_cons_succ, Nat.reduceAdd, flowAt]
            go_simp
            exact ⟨Ext.refl _, by first | rfl | trivial⟩
          · rintro ρ w1 hw hcst hfn hk
            simp only [known, List.getD_cons_zero, List.getD_cons_succ, Nat.reduceAdd] at hk
            simp only [List.getD_cons_zero, List.getD_cons_succ, Nat.reduceAdd, flowAt]
            go_simp
            exact ⟨Ext.refl _, by first | rfl | rw [HX0.out]⟩
          · rintro ρ w1 hw hcst hfn hk
            simp only [known, List.getD_cons_zero, List.getD_cons_succ, Nat.reduceAdd] at hk
            simp only [List.getD_cons_zero, List.getD_cons_succ, Nat.reduceAdd, flowAt]
            go_simp
            exact flow_dr (HG4.out _ ((Ext.refl _).drew.trans hw))
          · rintro ρ w1 hw hcst hfn hk
            simp only [known, List.getD_cons_zero, List.getD_cons_succ, Nat.reduceAdd] at hk
            simp only [List.getD_cons_zero, List.getD_cons_succ, Nat.reduceAdd, flowAt]
            go_simp
            exact ⟨(Ext.refl _).alloc _, w1.heap.size, rfl, by simp⟩
        intro vs w1 hw hf
        simp only [flowFacts, Nat.reduceAdd] at hf
        obtain ⟨e0, e1, e2, e3, e4, e5, e6, e7, e8, e9, e10, e11, e12, e13, e14, -⟩ := hf
        simp only [List.take_succ_cons, List.take_zero, List.drop_succ_cons, List.drop_zero, putAll, Act.put, Nat.reduceAdd, List.setIfInBounds_toArray, List.set_cons_zero, List.set_cons_succ, e0, e1, e2, e3, e4, e5, e6, e7, e8, e9, e10, e11, e12, e13]
        clear e0 e1 e2 e3 e4 e5 e6 e7 e8 e9 e10 e11 e12 e13
        obtain ⟨g0, hg0, hgc⟩ := e14
        rw [hg0]
        have hx4 := ((Ext.refl _).drew.trans hw)
        have hown2 := ho2.out.ext hx4
        have hs5 := hx4.size
        have hE4 := hxx.trans hx4
        clear hx4 hw b0 b1 b3 ho2 hxx
        have HRd : Rd _ (some ⟨g0, 0, none⟩) [.int .i64 V] := Rd.one hgc
        go_wp2_with (at_builtin; refine wpList_appendv rfl _ _ 22 rfl El_int64 rfl rfl [.int .i64 V] HRd rfl (by omega) (by simp [Value.oneCell']) hown2 (by omega) (by unfold maxLen; omega) (by omega) ?_; intro a3 c3 w6 hown3 hb3; have HO := hid hown3; have hE5 := hE4.thenBelow hb3 (by simp); clear hown3 hown2 hb3 hE4)
        go_roundw
        case rel => exact ⟨k + 1, c3, a3, by omega, by go_num, by go_num, hid (by rw [HSk.out, intsV_app]; exact HO.out), hE5⟩
        case measure => simp [intOf]; omega
      · obtain ⟨V, hV⟩ : ∃ V, f k = V := ⟨_, rfl⟩
        have HG4 := hid (fun w' (e : Ext w2 w') => HVk.out X w' (HY.out.trans e))
        rw [show valL ls vs X = V from by rw [← hV, ← HFk.out, if_neg h46]] at HG4
        rw [hV] at HSk
        have m46 : (x == 46) = false := by simpa using h46
        clear hV HFk HLk HVk HY h46
        have hsk := HX0.out
        go_wp2_with fail
        with_reducible refine (HG4.out _ (Ext.refl _)).mono ?_
        rintro e w3 ⟨rfl, rfl⟩
        have hown2 := ho2.out
        clear ho2 HG4
        go_wp2_with (at_builtin; refine wpList_push rfl _ _ 22 rfl El_int64 rfl [_] rfl rfl (by simp [Value.oneCell']) hown2 (by omega) (by unfold maxLen; omega) (by omega) ?_; intro a3 c3 w6 hown3 hb3; have HO := hid hown3; have hE5 := hxx.thenBelow hb3 (by simp); clear hown3 hown2 hb3 hxx)
        go_roundw
        case rel => exact ⟨k + 1, c3, a3, by omega, by go_num, by go_num, hid (by rw [HSk.out, intsV_app]; exact HO.out), hE5⟩
        case measure => simp [intOf]; omega
    · obtain rfl : k = s.size := by omega
      go_wp2_with fail
      go_returns
      exact ⟨a1, cap1, by rw [HLn.out]; rfl, ho1.out.ownR.mono (by omega), hE⟩
theorem lsF_flat (s : ByteArray) (vs : List Int) (n : Nat) (p cs : ByteArray) (r c : Int) (d : Bool) (t : ByteArray) (m : Nat) : lsL (lsF s vs n (flatS d n p) (flatS d n cs) (flatR d r c) (flatC d r c) false t) m = lsL (lsF s vs n p cs r c d t) m := by
  unfold lsL
  refine List.map_congr_left fun i _ => ?_
  have e : ∀ z : ByteArray, plAt n (flatS d n z) (flatR d r c) (flatC d r c) false i = plAt n z r c d i := fun z => by
    rw [← flat_at d n z r c i]
    rfl
  unfold lsF
  rw [e, e]
set_option maxHeartbeats 2000000 in
theorem sLetterScores_any (s : ByteArray) (a b : Option Addr) (ca cb : Nat) (vs cs : List Int) (k : Int) (n : Int) (p q : ByteArray) (r c : Int) (d : Bool) (t : ByteArray) (w : World) (hs : s.size ≤ 1048576) (l1 : vs.length ≤ 1048576) (l2 : cs.length ≤ 1048576) (h1 : Rd w a (intsV vs)) (h2 : Rd w b (intsV cs)) (hp : p.size ≤ 1048576) (hq : q.size ≤ 1048576) (ht : t.size ≤ 1048576) :
    Calls Tryz.prog 7 #[tileV s a b vs.length cs.length ca cb k, boardV n p q, playV r c d t] w (RetIC (lsR s vs cs k n p q r c d t) (lsC s vs cs k n p q r c d t) w) := by
  have HD1 : Hid (lsR s vs cs k n p q r c d t = if lsOk s vs cs k n p q r c d t then lsL (lsF s vs n p q r c d t) t.size else []) := hid rfl
  have HD2 : Hid (lsC s vs cs k n p q r c d t = if lsOk s vs cs k n p q r c d t then 0 else 1) := hid rfl
  have HV : Hid (lsOk s vs cs k n p q r c d t = (tilesB s vs cs k && okP n p q r c d t)) := hid rfl
  obtain ⟨R, hR⟩ : ∃ R, lsR s vs cs k n p q r c d t = R := ⟨_, rfl⟩
  obtain ⟨C, hC⟩ : ∃ C, lsC s vs cs k n p q r c d t = C := ⟨_, rfl⟩
  have HRR := hid hR
  rw [hR] at HD1 ⊢
  rw [hC] at HD2 ⊢
  clear hR hC
  have hE0 := (((Ext.refl w).alloc (.cells #[.string s, .slice a vs.length ca, .slice b cs.length cb, .int .i64 k] 34)).alloc (.cells #[.int .i64 n, .string p, .string q] 36)).alloc (.cells #[.int .i64 r, .int .i64 c, .bool d, .string t] 38)
  have HT0 : Hid (TileAt (((w.alloc (.cells #[.string s, .slice a vs.length ca, .slice b cs.length cb, .int .i64 k] 34)).alloc (.cells #[.int .i64 n, .string p, .string q] 36)).alloc (.cells #[.int .i64 r, .int .i64 c, .bool d, .string t] 38)) w.heap.size s a b vs.length cs.length ca cb k) := hid ⟨by go_cell, by go_cell, by go_cell, by go_cell⟩
  have HB0 : Hid (BdAt (((w.alloc (.cells #[.string s, .slice a vs.length ca, .slice b cs.length cb, .int .i64 k] 34)).alloc (.cells #[.int .i64 n, .string p, .string q] 36)).alloc (.cells #[.int .i64 r, .int .i64 c, .bool d, .string t] 38)) (w.heap.size + 1) 0 n p q) := hid ⟨by go_cell, by go_cell, by go_cell⟩
  have HP0 : Hid (PlAt (((w.alloc (.cells #[.string s, .slice a vs.length ca, .slice b cs.length cb, .int .i64 k] 34)).alloc (.cells #[.int .i64 n, .string p, .string q] 36)).alloc (.cells #[.int .i64 r, .int .i64 c, .bool d, .string t] 38)) (w.heap.size + 2) r c d t) := hid ⟨by go_cell, by go_cell, by go_cell, by go_cell⟩
  have HR1 := hid (h1.ext hE0)
  have HR2 := hid (h2.ext hE0)
  clear h1 h2
  go_enter Tryz.func7, Tryz.ntmps7
  go_wp2_with fail
  refine (l02Ok_any s a b ca cb w.heap.size vs cs k _ hs l1 l2 HR1.out HR2.out HT0.out).mono ?_
  rintro e w1 ⟨rfl, hD⟩
  have hx := hD.ext
  have hE := hE0.trans hx
  have HT1 := hid (HT0.out.ext hx)
  have HB1 := hid (HB0.out.ext hx)
  obtain ⟨d0, d1, d2, d3⟩ := HP0.out.ext hx
  replace HR1 := hid (HR1.out.ext hx)
  clear hx hD hE0 HT0 HB0 HP0 HR2
  cases hk1 : tilesB s vs cs k
  · have hk : lsOk s vs cs k n p q r c d t = false := by rw [HV.out, hk1]; rfl
    have HR : Hid (R = []) := hid (by rw [HD1.out, hk]; rfl)
    have HC : Hid (C = 1) := hid (by rw [HD2.out, hk]; rfl)
    clear hk1 hk HD1 HD2 HV
    go_wp2_with fail
    go_returns
    exact ⟨none, 0, by rw [HR.out, HC.out]; rfl, by rw [HR.out]; exact .inl rfl, hE⟩
  · have HO := hid (l12Ok_any (w.heap.size + 1) 0 n p q r c d t w1 HB1.out hp hq ht)
    cases hk2 : okP n p q r c d t
    · have hk : lsOk s vs cs k n p q r c d t = false := by rw [HV.out, hk2, Bool.and_false]
      have HR : Hid (R = []) := hid (by rw [HD1.out, hk]; rfl)
      have HC : Hid (C = 1) := hid (by rw [HD2.out, hk]; rfl)
      rw [hk2] at HO
      clear hk1 hk2 hk HD1 HD2 HV
      go_wp2_with fail
      refine HO.out.mono ?_
      rintro e w2 ⟨rfl, hx⟩
      replace hE := hE.trans hx
      clear hx
      go_wp2_with fail
      go_returns
      exact ⟨none, 0, by rw [HR.out, HC.out]; rfl, by rw [HR.out]; exact .inl rfl, hE⟩
    · have hk : lsOk s vs cs k n p q r c d t = true := by rw [HV.out, hk1, hk2]; rfl
      obtain ⟨e1, e2, e3⟩ := lsOk_true hk
      obtain ⟨o1, o2, o3, o4⟩ := okB_true e2
      obtain ⟨m0, m1, m2⟩ := playB_true e3
      obtain ⟨N, rfl⟩ := nat_of o1
      have HC : Hid (C = 0) := hid (by rw [HD2.out, hk]; rfl)
      have H3 : Hid (p.size = N * N) := hid (by rw [← Int.natCast_mul] at o3; omega)
      have H4 : Hid (q.size = N * N) := hid (by rw [← Int.natCast_mul] at o4; omega)
      have HFl := hid (lsF_flat s vs N p q r c d t t.size)
      have HR : Hid (R = lsL (lsF s vs N p q r c d t) t.size) := hid (by rw [HD1.out, hk]; rfl)
      obtain ⟨fin, flim⟩ : inRC N (flatR d r c) (flatC d r c) = true ∧ flatC d r c + t.size ≤ N := ⟨by rw [flat_in]; exact m1, by rw [flat_lim]; exact m2⟩
      have HFS := hid (flatS_size d N q H4.out)
      have HFP := hid (flatS_size d N p H3.out)
      have HVL := hid e1.vlen
      have HVS := hid e1.vals
      rw [hk2] at HO
      clear hk1 hk2 hk HD1 HD2 HV e1 e2 e3 o3 o4 m0 m1 m2
      go_wp2_with fail
      refine HO.out.mono ?_
      rintro e w2 ⟨rfl, hx⟩
      replace hE := hE.trans hx
      replace HT1 := hid (HT1.out.ext hx)
      replace HB1 := hid (HB1.out.ext hx)
      replace HR1 := hid (HR1.out.ext hx)
      replace d0 := hx.cell d0
      replace d1 := hx.cell d1
      replace d2 := hx.cell d2
      replace d3 := hx.cell d3
      clear hx HO
      go_wp2_with fail
      refine (l12Flat_any (w.heap.size + 1) 0 N p q r c d t _ HB1.out H3.out H4.out (by omega) (by omega)).mono ?_
      rintro e w3 ⟨he, hx⟩
      unfold flatV at he
      subst he
      obtain ⟨P2, hP2⟩ : ∃ P2, flatS d N p = P2 := ⟨_, rfl⟩
      obtain ⟨C2, hC2⟩ : ∃ C2, flatS d N q = C2 := ⟨_, rfl⟩
      obtain ⟨R1, hR1⟩ : ∃ R1, flatR d r c = R1 := ⟨_, rfl⟩
      obtain ⟨C1, hC1⟩ : ∃ C1, flatC d r c = C1 := ⟨_, rfl⟩
      rw [hP2, hC2, hR1, hC1] at HFl ⊢
      rw [hR1, hC1] at fin
      rw [hC1] at flim
      rw [hC2] at HFS
      rw [hP2] at HFP
      replace hE := hE.trans hx
      replace HT1 := hid (HT1.out.ext hx)
      replace HR1 := hid (HR1.out.ext hx)
      clear hP2 hC2 hR1 hC1 hx d0 d1 d2 d3 HB1
      have hx3 := ((Ext.refl w3).alloc (.cells #[.int .i64 N, .string P2, .string C2] 36)).alloc (.cells #[.int .i64 R1, .int .i64 C1, .bool false, .string t] 38)
      have HW3 : Hid (BdAt ((w3.alloc (.cells #[.int .i64 N, .string P2, .string C2] 36)).alloc (.cells #[.int .i64 R1, .int .i64 C1, .bool false, .string t] 38)) w3.heap.size 0 N P2 C2) := hid ⟨by go_cell, by go_cell, by go_cell⟩
      have HT3 := hid (HT1.out.ext hx3)
      have HR3 := hid (HR1.out.ext hx3)
      have hE3 := hE.trans hx3
      clear hx3 HT1 HR1 hE
      go_wp2_with fail
      refine (l13Letters_any s a b cs.length ca cb w.heap.size w3.heap.size vs k N P2 C2 R1 C1 t _ hs HT3.out HR3.out HVL.out HVS.out HW3.out o1 o2 (by rw [HFP.out, Int.natCast_mul]) (by rw [HFS.out, Int.natCast_mul]) fin flim).mono ?_
      rintro e w4 ⟨a', c', rfl, ho, hx⟩
      rw [HFl.out, ← HR.out] at ho ⊢
      have HO := hid ho
      have hE4 := hE3.trans hx
      have hsz := hE3.size
      clear hx ho
      go_wp2_with fail
      go_returns
      exact ⟨a', c', by rw [HC.out]; rfl, HO.out.mono hsz, hE4⟩
end Go.Proofs.YtcgedkpbobgkhaaGreatDoor
