/- MergeLexicons of the program. Conditions: at most 2^20 bytes and words in all. -/
import Derived.Test.YtflpiebiacainaaCh05i
import Derived.Test.YtflpiebiacainaaFlowT
namespace Go.Proofs.Ytflpiebiacainaa
set_option linter.unusedVariables false
set_option linter.unusedSimpArgs false
open Go Go.RowKit
def merC (l m : List ByteArray) : Int := if lexOk l then if lexOk m then makC (l ++ m) else 1 else 1
def merX (l m : List ByteArray) : List ByteArray := if lexOk l && lexOk m then makX (l ++ m) else []
theorem merX_le (l m : List ByteArray) (hl : l.length + m.length ≤ 1048576) : (merX l m).length ≤ 1048576 := by
  unfold merX
  split
  · exact makX_le _ (by simpa using hl)
  · simp
set_option maxHeartbeats 2000000 in
theorem MergeLexicons_any (a b : Option Addr) (c c' : Nat) (l m : List ByteArray) (w : World) (h : Rd w a (strsV l)) (h' : Rd w b (strsV m)) (hl : l.length + m.length ≤ 1048576) (hs : ∀ s ∈ l, s.size ≤ 1048576) (hs' : ∀ s ∈ m, s.size ≤ 1048576) :
    Calls Try.prog 20 #[lexV a l.length c, lexV b m.length c'] w (RetA (merX l m) (merC l m) w) := by
  have HRA : Hid (∀ w', Ext w w' → Rd w' a (strsV l)) := hid (fun w' k => h.ext k)
  have HRB : Hid (∀ w', Ext w w' → Rd w' b (strsV m)) := hid (fun w' k => h'.ext k)
  have HVA := hid (fun w' (k : Ext w w') => ValidLexicon_any a c l w' (h.ext k) (by omega) hs)
  have HVB := hid (fun w' (k : Ext w w') => ValidLexicon_any b c' m w' (h'.ext k) (by omega) hs')
  have HC : Hid (merC l m = if lexOk l then if lexOk m then makC (l ++ m) else 1 else 1) := hid rfl
  have HX : Hid (merX l m = if lexOk l && lexOk m then makX (l ++ m) else []) := hid rfl
  have HM := hid (fun a c w h => MakeLexicon_any a c (l ++ m) w h (by simpa using hl) (fun s hx => (List.mem_append.1 hx).elim (hs s) (hs' s)))
  have HLL : Hid ((l ++ m).length = l.length + m.length) := hid (by simp)
  have T1 : LkT (w.alloc (.cells #[.slice a l.length c] 26)) w.heap.size 26 (.slice a l.length c) := LkT.new _ _ _
  have T2 : LkT ((w.alloc (.cells #[.slice a l.length c] 26)).alloc (.cells #[.slice b m.length c'] 26)) (w.heap.size + 1) 26 (.slice b m.length c') := by
    have := LkT.new (w.alloc (.cells #[.slice a l.length c] 26)) 26 (.slice b m.length c')
    rwa [World.size_alloc] at this
  have L3 : LkT (((w.alloc (.cells #[.slice a l.length c] 26)).alloc (.cells #[.slice b m.length c'] 26)).alloc (.cells #[.slice none 0 0] 26)) (w.heap.size + 1 + 1) 26 (.slice none 0 0) := by
    have := LkT.new ((w.alloc (.cells #[.slice a l.length c] 26)).alloc (.cells #[.slice b m.length c'] 26)) 26 (.slice none 0 0)
    rwa [World.size_alloc, World.size_alloc] at this
  have L2 := T2.ext ((Ext.refl _).alloc (.cells #[.slice none 0 0] 26))
  have L1 := (T1.ext ((Ext.refl _).alloc (.cells #[.slice b m.length c'] 26))).ext ((Ext.refl _).alloc (.cells #[.slice none 0 0] 26))
  have HL1 := hid L1
  have HL2 := hid L2
  have HL3 := hid L3
  clear h h' T1 T2 L1 L2 L3
  cases hk : lexOk l
  · rw [hk] at HVA HC HX
    have HA : Hid (merX l m = []) := hid HX.out
    clear hk
    go_enter Try.func20, Try.ntmps20
    go_wp2_with fail
    refine (HVA.out _ ((((Ext.refl w).alloc _).alloc _).alloc _)).mono ?_
    rintro e w1 ⟨rfl, hE⟩
    have r0 := (HL3.out.ext hE).cell
    have rf : w1.frozen? ⟨w.heap.size + 1 + 1, 0, none⟩ = false := (HL3.out.ext hE).free 0
    have hE1 := ((((Ext.refl w).alloc _).alloc _).alloc _).trans hE
    clear hE
    go_wp2_with fail
    refine bodyPost_ret (v := .tuple #[lexV none 0 0, .int .i64 1]) (by simp [results, Try.results20, go_sem, r0, rf]) rfl ⟨none, 0, by rw [HA.out, HC.out]; rfl, by rw [HA.out]; exact .inl rfl, hE1.setCell (by show w.heap.size ≤ w.heap.size + 1 + 1; omega) _⟩
  cases hk2 : lexOk m
  · rw [hk] at HVA HC HX
    rw [hk2] at HVB HC HX
    have HA : Hid (merX l m = []) := hid HX.out
    clear hk hk2
    go_enter Try.func20, Try.ntmps20
    go_wp2_with fail
    refine (HVA.out _ ((((Ext.refl w).alloc _).alloc _).alloc _)).mono ?_
    rintro e w1 ⟨rfl, hE⟩
    have r0 := (HL3.out.ext hE).cell
    have b0 := (HL2.out.ext hE).cell
    have rf : w1.frozen? ⟨w.heap.size + 1 + 1, 0, none⟩ = false := (HL3.out.ext hE).free 0
    have hE1 := ((((Ext.refl w).alloc _).alloc _).alloc _).trans hE
    clear hE
    go_wp2_with fail
    refine (HVB.out _ hE1).mono ?_
    rintro e w2 ⟨rfl, hx⟩
    have rf2 : w2.frozen? ⟨w.heap.size + 1 + 1, 0, none⟩ = false := by rw [hx.cells.2 _ _ (World.block_lt_of_cell? _ _ r0)]; exact rf
    have r02 := hx.cell r0
    have hE2 := hE1.trans hx
    clear hx r0 b0 rf hE1
    go_wp2_with fail
    refine bodyPost_ret (v := .tuple #[lexV none 0 0, .int .i64 1]) (by simp [results, Try.results20, go_sem, r02, rf2]) rfl ⟨none, 0, by rw [HA.out, HC.out]; rfl, by rw [HA.out]; exact .inl rfl, hE2.setCell (by show w.heap.size ≤ w.heap.size + 1 + 1; omega) _⟩
  · rw [hk] at HVA HC HX
    rw [hk2] at HVB HC HX
    have HA : Hid (merX l m = makX (l ++ m)) := hid HX.out
    have HK : Hid (merC l m = makC (l ++ m)) := hid HC.out
    clear hk hk2
    rw [HLL.out] at HM
    obtain ⟨V, hV⟩ : ∃ V, makX (l ++ m) = V := ⟨_, rfl⟩
    obtain ⟨K, hK⟩ : ∃ K, makC (l ++ m) = K := ⟨_, rfl⟩
    rw [hV, hK] at HM
    rw [hV] at HA
    rw [hK] at HK
    clear hV hK
    go_enter Try.func20, Try.ntmps20
    go_wp2_with fail
    refine (HVA.out _ ((((Ext.refl w).alloc _).alloc _).alloc _)).mono ?_
    rintro e w1 ⟨rfl, hE⟩
    have r0 := (HL3.out.ext hE).cell
    have b0 := (HL2.out.ext hE).cell
    have a0 := (HL1.out.ext hE).cell
    have rf : w1.frozen? ⟨w.heap.size + 1 + 1, 0, none⟩ = false := (HL3.out.ext hE).free 0
    have hE1 := ((((Ext.refl w).alloc _).alloc _).alloc _).trans hE
    clear hE
    go_wp2_with fail
    refine (HVB.out _ hE1).mono ?_
    rintro e w2 ⟨rfl, hx⟩
    have rf2 : w2.frozen? ⟨w.heap.size + 1 + 1, 0, none⟩ = false := by rw [hx.cells.2 _ _ (World.block_lt_of_cell? _ _ r0)]; exact rf
    have r02 := hx.cell r0
    have a02 := hx.cell a0
    have b02 := hx.cell b0
    have hE2 := hE1.trans hx
    have hl2 := World.block_lt_of_cell? _ _ r02
    clear hx r0 b0 a0 rf hE1
    go_wp2_with fail
    have hD2 : Ext w w2.drew := hE2.drew
    refine wp_region_flag_at 9 5 (fun fl => [fun v _ => v = .pointer (some ⟨w.heap.size, 0, none⟩), fun v _ => v = .slice a l.length c, fun v w' => fl = false → ∃ a' c', v = .slice a' l.length c' ∧ Own w' w2.drew.heap.size 9 1 a' l.length c' (strsV l), fun v _ => v = .pointer (some ⟨(w.heap.size + 1), 0, none⟩), fun v _ => v = .slice b m.length c', fun v w' => fl = true ∧ ∃ a' c', v = .slice a' (l.length + m.length) c' ∧ Own w' w2.drew.heap.size 9 1 a' (l.length + m.length) c' (strsV l ++ strsV m), fun v w' => fl = true ∧ ∃ a' c', v = .tuple #[lexV a' V.length c', .int .i64 K] ∧ InR w2.drew.heap.size w'.heap.size w' a' (strsV V), fun v w' => fl = true ∧ ∃ a' c', v = lexV a' V.length c' ∧ InR w2.drew.heap.size w'.heap.size w' a' (strsV V), fun v _ => v = .int .i64 K])
      [[(2, none)], [(15, some 0)], [(16, some 1)], [(3, none)], [(18, some 3)], [(17, some 2), (19, some 4)], [(20, some 5)], [(21, some 6)], [(21, some 6)]] (by kernel_rfl) (by kernel_rfl) rfl (by omega) ?_ ?_ ?_ ?_
    · intro fl i hi
      obtain rfl | rfl | rfl | rfl | rfl | rfl | rfl | rfl | rfl : i = 0 ∨ i = 1 ∨ i = 2 ∨ i = 3 ∨ i = 4 ∨ i = 5 ∨ i = 6 ∨ i = 7 ∨ i = 8 := by omega
      · exact fun _ _ _ h _ => h
      · exact fun _ _ _ h _ => h
      · exact fun v x y h k hf => by obtain ⟨a', c', e1, o1⟩ := h hf; exact ⟨a', c', e1, o1.ext k⟩
      · exact fun _ _ _ h _ => h
      · exact fun _ _ _ h _ => h
      · exact fun v x y h k => by obtain ⟨hf, a', c', e1, o1⟩ := h; exact ⟨hf, a', c', e1, o1.ext k⟩
      · exact fun v x y h k => by obtain ⟨hf, a', c', e1, o1⟩ := h; exact ⟨hf, a', c', e1, (o1.up k.size).ext k⟩
      · exact fun v x y h k => by obtain ⟨hf, a', c', e1, o1⟩ := h; exact ⟨hf, a', c', e1, (o1.up k.size).ext k⟩
      · exact fun _ _ _ h _ => h
    · intro i hi hiM
      obtain rfl | rfl | rfl | rfl | rfl | rfl | rfl | rfl | rfl : i = 0 ∨ i = 1 ∨ i = 2 ∨ i = 3 ∨ i = 4 ∨ i = 5 ∨ i = 6 ∨ i = 7 ∨ i = 8 := by omega
      · exact fun _ _ _ _ h _ => h
      · exact fun _ _ _ _ h _ => h
      · exact fun v x y _ _ _ hf => by cases hf
      · exact fun _ _ _ _ h _ => h
      · exact fun _ _ _ _ h _ => h
      · exact absurd rfl hiM
      · exact fun v x y _ h _ => by cases h.1
      · exact fun v x y _ h _ => by cases h.1
      · exact fun _ _ _ _ h _ => h
    · refine ⟨?_, ?_, ?_, ?_, ?_, ?_, ?_, ?_, ?_, trivial⟩
      · rw [if_neg (by decide)]
        rintro fl ρ w1 hw hcst hfn hk
        clear hw
        simp only [known, List.getD_cons_zero, List.getD_cons_succ, Nat.reduceAdd] at hk
        simp only [List.getD_cons_zero, List.getD_cons_succ, Nat.reduceAdd, flowAt]
        go_simp
        exact ⟨Ext.refl _, by first | rfl | trivial⟩
      · rw [if_neg (by decide)]
        rintro fl ρ w1 hw hcst hfn hk
        have c0 := hw.cell (b := w.heap.size) (o := 0) (v := .slice a l.length c) (by first | (simp [*]; done) | (simp [*, go_sem]; done) | go_cell)
        clear hw
        simp only [known, List.getD_cons_zero, List.getD_cons_succ, Nat.reduceAdd] at hk
        simp only [List.getD_cons_zero, List.getD_cons_succ, Nat.reduceAdd, flowAt]
        go_simp
        exact ⟨Ext.refl _, by first | rfl | trivial⟩
      · rw [if_neg (by decide)]
        rintro fl ρ w1 hw hcst hfn hk
        simp only [known, List.getD_cons_zero, List.getD_cons_succ, Nat.reduceAdd] at hk
        simp only [List.getD_cons_zero, List.getD_cons_succ, Nat.reduceAdd, flowAt]
        go_simp
        (refine ⟨Ext.refl _, (Clone_any a c l w1 (HRA.out _ (hD2.trans hw)) (by omega)).mono ?_⟩; rintro e w' ⟨a', c', e1, o1, x1⟩; exact ⟨_, e1, x1, fun _ => ⟨a', c', rfl, o1.mono hw.size⟩⟩)
      · rw [if_neg (by decide)]
        rintro fl ρ w1 hw hcst hfn hk
        clear hw
        simp only [known, List.getD_cons_zero, List.getD_cons_succ, Nat.reduceAdd] at hk
        simp only [List.getD_cons_zero, List.getD_cons_succ, Nat.reduceAdd, flowAt]
        go_simp
        exact ⟨Ext.refl _, by first | rfl | trivial⟩
      · rw [if_neg (by decide)]
        rintro fl ρ w1 hw hcst hfn hk
        have c0 := hw.cell (b := (w.heap.size + 1)) (o := 0) (v := .slice b m.length c') (by first | (simp [*]; done) | (simp [*, go_sem]; done) | go_cell)
        clear hw
        simp only [known, List.getD_cons_zero, List.getD_cons_succ, Nat.reduceAdd] at hk
        simp only [List.getD_cons_zero, List.getD_cons_succ, Nat.reduceAdd, flowAt]
        go_simp
        exact ⟨Ext.refl _, by first | rfl | trivial⟩
      · rw [if_pos (by decide)]
        rintro ρ w1 hw hcst hfn hk
        simp only [known, List.getD_cons_zero, List.getD_cons_succ, Nat.reduceAdd] at hk
        simp only [List.getD_cons_zero, List.getD_cons_succ, Nat.reduceAdd]
        (obtain ⟨a', c', e1, o1⟩ := hk.1 (by trivial); exact invAt_append (.tmp 17) (.tmp 19) 22 rfl El_str e1 hk.2.1 (strsV m) (HRB.out _ (hD2.trans hw)) (by simp [strsV_length]) (fun u hu => strsV_one u hu) o1 hw.size (by unfold maxLen; omega) (by omega) (fun a' c' w' ho hb => ⟨hb, by trivial, a', c', rfl, ho⟩))
      · rw [if_neg (by decide)]
        rintro fl ρ w1 hw hcst hfn hk
        simp only [known, List.getD_cons_zero, List.getD_cons_succ, Nat.reduceAdd] at hk
        simp only [List.getD_cons_zero, List.getD_cons_succ, Nat.reduceAdd, flowAt]
        go_simp
        (obtain ⟨hf, a', c', e1, o1⟩ := hk.1; rw [e1]; refine ⟨Ext.refl _, (HM.out a' c' w1 (by rw [strsV_append]; exact o1.rd)).mono ?_⟩; rintro e w' ⟨a', c', e1, o1, x1⟩; first | exact ⟨_, e1, x1, hf, a', c', rfl, o1.down hw.size⟩ | exact ⟨_, e1, x1, a', c', rfl, o1.down hw.size⟩ | exact ⟨_, e1, x1, a', ⟨c', rfl⟩, o1.down hw.size⟩)
      · rw [if_neg (by decide)]
        rintro fl ρ w1 hw hcst hfn hk
        simp only [known, List.getD_cons_zero, List.getD_cons_succ, Nat.reduceAdd] at hk
        simp only [List.getD_cons_zero, List.getD_cons_succ, Nat.reduceAdd, flowAt]
        go_simp
        (obtain ⟨hf, a', c', e1, o1⟩ := hk.1; rw [e1]; first | exact ⟨Ext.refl _, hf, a', c', rfl, o1⟩ | exact ⟨Ext.refl _, a', c', rfl, o1⟩ | exact ⟨Ext.refl _, a', ⟨c', rfl⟩, o1⟩)
      · rw [if_neg (by decide)]
        rintro fl ρ w1 hw hcst hfn hk
        simp only [known, List.getD_cons_zero, List.getD_cons_succ, Nat.reduceAdd] at hk
        simp only [List.getD_cons_zero, List.getD_cons_succ, Nat.reduceAdd, flowAt]
        go_simp
        (obtain ⟨hf, a', c', e1, o1⟩ := hk.1; rw [e1]; exact ⟨Ext.refl _, rfl⟩)
    intro vs w1 hw hf
    simp only [flowFacts, Nat.reduceAdd] at hf
    obtain ⟨e0, e1, e2, e3, e4, e5, e6, e7, e8, -⟩ := hf
    simp only [List.take_succ_cons, List.take_zero, List.drop_succ_cons, List.drop_zero, putAll, Act.put, Nat.reduceAdd, List.setIfInBounds_toArray, List.set_cons_zero, List.set_cons_succ, e0, e1, e3, e4, e8]
    clear e0 e1 e3 e4 e8
    obtain ⟨-, a7, c7, e7', i7⟩ := e7
    rw [e7']
    have I7 := hid i7
    have hx := (Ext.refl w2).drew.trans hw
    have r03 := hx.cell r02
    have rf3 : w1.frozen? ⟨w.heap.size + 1 + 1, 0, none⟩ = false := by rw [hx.cells.2 _ _ hl2]; exact rf2
    have hE3 := hE2.trans hx
    clear hx hw e2 e5 e6 e7' i7 r02 a02 b02
    go_wp2_with fail
    refine bodyPost_ret (v := .tuple #[lexV a7 V.length c7, .int .i64 K]) (by simp [results, Try.results20, go_sem, r03, rf3]) rfl ⟨a7, c7, by rw [HA.out, HK.out], ?_, hE3.setCell (by show w.heap.size ≤ w.heap.size + 1 + 1; omega) _⟩
    rw [HA.out]
    have hz := hE2.size
    have hzd : w2.drew.heap.size = w2.heap.size := rfl
    rcases I7.out with h | ⟨g, he, h1, h2, hw⟩
    · exact .inl h
    · exact .inr ⟨g, he, by omega, by simpa [World.setCell] using h2, hw.other (by omega)⟩
end Go.Proofs.Ytflpiebiacainaa
