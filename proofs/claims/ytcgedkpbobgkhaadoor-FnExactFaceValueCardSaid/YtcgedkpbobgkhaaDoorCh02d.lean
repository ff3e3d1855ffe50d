/- What a score asks of its arguments; the value of all letters on a board, by both. Conditions stand at each. -/
import Derived.Test.YtcgedkpbobgkhaaDoorCh02c
import Derived.Test.YtcgedkpbobgkhaaDoorCh11r
namespace Go.Proofs.YtcgedkpbobgkhaaDoor
set_option linter.unusedVariables false
set_option linter.unusedSimpArgs false
open Go Go.RowKit
theorem indexFunc0 (fv : Value) (w : World) : Calls Tryd.prog 42 #[.slice none 0 0, fv] w (Same (.int .i64 (-1)) w) := by
  go_enter Tryd.func42, Tryd.ntmps42
  go_wp2_with fail
  go_loopw [8] (fun i wr => i = .int .i64 0 ∧ wr = w) (fun _ _ => 0)
  case atStart => exact ⟨rfl, rfl⟩
  case round =>
    obtain ⟨rfl, rfl⟩ := hrel
    go_wp2_with fail
    go_returns
    exact ⟨rfl, rfl⟩
theorem containsFunc0 (fv : Value) (w : World) : Calls Tryd.prog 29 #[.slice none 0 0, fv] w (Same (.bool false) w) := by
  go_enter Tryd.func29, Tryd.ntmps29
  go_wp2_with fail
  refine (indexFunc0 _ _).mono ?_
  rintro e w1 ⟨rfl, rfl⟩
  go_wp2_with fail
  go_returns
  exact ⟨rfl, rfl⟩
set_option maxHeartbeats 800000 in
theorem scorable0 (s : ByteArray) (a b : Option Addr) (c d : Nat) (vs cs : List Int) (k : Int) (n : Int) (p q : ByteArray) (w : World) (hs : s.size ≤ 1048576) (l1 : vs.length ≤ 1048576) (l2 : cs.length ≤ 1048576) (h1 : Rd w a (intsV vs)) (h2 : Rd w b (intsV cs)) (hp : p.size ≤ 1048576) (hq : q.size ≤ 1048576) :
    Calls Tryd.prog 17 #[tileV s a b vs.length cs.length c d k, boardV n p q, .slice none 0 0] w (Ret (.bool (tilesB s vs cs k && okB n p q)) w) := by
  have HT := hid (fun w' (x : Ext w w') => ValidTiles_any s a b c d vs cs k w' hs l1 l2 (h1.ext x) (h2.ext x))
  have HB := hid (fun w' => ValidBoard_any n p q w' hp hq)
  clear h1 h2
  cases ht : tilesB s vs cs k
  · rw [ht] at HT
    clear ht
    go_enter Tryd.func17, Tryd.ntmps17
    go_wp2_with fail
    have hE0 := ((Ext.refl w).alloc (.cells #[.string s, .slice a vs.length c, .slice b cs.length d, .int .i64 k] 31)).alloc (.cells #[.int .i64 n, .string p, .string q] 33)
    refine (HT.out _ hE0).mono ?_
    rintro e w1 ⟨rfl, hx⟩
    have hE := hE0.trans hx
    clear hx
    go_wp2_with fail
    go_returns
    exact ⟨rfl, hE⟩
  · rw [ht] at HT
    clear ht
    cases hb : okB n p q
    all_goals
      rw [hb] at HB
      clear hb
      go_enter Tryd.func17, Tryd.ntmps17
      go_wp2_with fail
      have hE0 := ((Ext.refl w).alloc (.cells #[.string s, .slice a vs.length c, .slice b cs.length d, .int .i64 k] 31)).alloc (.cells #[.int .i64 n, .string p, .string q] 33)
      refine (HT.out _ hE0).mono ?_
      rintro e w1 ⟨rfl, hx⟩
      have hE := hE0.trans hx
      have b0 := hx.cell (b := w.heap.size + 1) (o := 0) (v := .int .i64 n) (by go_cell)
      have b1 := hx.cell (b := w.heap.size + 1) (o := 1) (v := .string p) (by go_cell)
      have b2 := hx.cell (b := w.heap.size + 1) (o := 2) (v := .string q) (by go_cell)
      clear hx hE0
      go_wp2_with fail
      refine (HB.out _).mono ?_
      rintro e w2 ⟨rfl, hx⟩
      replace hE := hE.trans hx
      clear hx b0 b1 b2
      go_wp2_with fail
      first
        | (go_returns; exact ⟨rfl, hE⟩)
        | (refine (containsFunc0 _ _).mono ?_
           rintro e w3 ⟨rfl, rfl⟩
           go_wp2_with fail
           go_returns
           exact ⟨rfl, hE⟩)
/-- The value of all letters on a board. -/
noncomputable def faceV (s : ByteArray) (vs cs : List Int) (k : Int) (n : Int) (p q : ByteArray) : Value :=
  if tilesB s vs cs k then if okB n p q then .tuple #[.int .i64 (sumT s vs (noDot q) (noDot q).size), .int .i64 0] else .tuple #[.int .i64 0, .int .i64 1] else .tuple #[.int .i64 0, .int .i64 1]
theorem noDot_size (q : ByteArray) : (noDot q).size ≤ q.size := by
  have h := List.length_filter_le (· != (46 : UInt8)) q.data.toList
  have h2 : (noDot q).size = (q.data.toList.filter (· != 46)).length := by show (q.data.toList.filter (· != 46)).toArray.size = _; simp
  rw [h2]
  simpa using h
set_option maxHeartbeats 1600000 in
theorem FaceValue_any (s : ByteArray) (a b : Option Addr) (c d : Nat) (vs cs : List Int) (k : Int) (n : Int) (p q : ByteArray) (w : World) (hs : s.size ≤ 1048576) (l1 : vs.length ≤ 1048576) (l2 : cs.length ≤ 1048576) (h1 : Rd w a (intsV vs)) (h2 : Rd w b (intsV cs)) (hp : p.size ≤ 1048576) (hq : q.size ≤ 1048576) (hM : MaxAt w) :
    Calls Tryd.prog 9 #[tileV s a b vs.length cs.length c d k, boardV n p q] w (Ret (faceV s vs cs k n p q) w) := by
  have HSc := hid (fun w' (x : Ext w w') => scorable0 s a b c d vs cs k n p q w' hs l1 l2 (h1.ext x) (h2.ext x) hp hq)
  have HL := hid (fun w' (x : Ext w w') => lettersOn_any n p q w' hq (hM.ext x))
  have HV : Hid (tilesB s vs cs k = true → ∀ w', Ext w w' → Calls Tryd.prog 18 #[tileV s a b vs.length cs.length c d k, .string (noDot q)] w' (Ret (.int .i64 (sumT s vs (noDot q) (noDot q).size)) w')) :=
    hid (fun h w' x => lettersValue_any s (noDot q) a b cs.length c d vs k w' hs (Nat.le_trans (noDot_size q) hq) (h1.ext x) (tilesB_iff.1 h).vlen (fun i hi => (tilesB_iff.1 h).vals i hi))
  have HD : Hid (faceV s vs cs k n p q = if tilesB s vs cs k then if okB n p q then .tuple #[.int .i64 (sumT s vs (noDot q) (noDot q).size), .int .i64 0] else .tuple #[.int .i64 0, .int .i64 1] else .tuple #[.int .i64 0, .int .i64 1]) := hid rfl
  clear h1 h2 hM
  by_cases hok : (tilesB s vs cs k && okB n p q) = true
  · rw [hok] at HSc
    simp only [Bool.and_eq_true] at hok
    have HV' := hid (HV.out hok.1)
    have HD' : Hid (faceV s vs cs k n p q = .tuple #[.int .i64 (sumT s vs (noDot q) (noDot q).size), .int .i64 0]) := hid (by rw [HD.out, if_pos hok.1, if_pos hok.2])
    obtain ⟨z, hz⟩ : ∃ z, sumT s vs (noDot q) (noDot q).size = z := ⟨_, rfl⟩
    obtain ⟨t, ht⟩ : ∃ t, noDot q = t := ⟨_, rfl⟩
    rw [hz] at HV' HD'
    rw [ht] at HV' HL
    clear hok HV HD hz ht
    go_enter Tryd.func9, Tryd.ntmps9
    go_wp2_with fail
    have hE0 := ((Ext.refl w).alloc (.cells #[.string s, .slice a vs.length c, .slice b cs.length d, .int .i64 k] 31)).alloc (.cells #[.int .i64 n, .string p, .string q] 33)
    refine (HSc.out _ hE0).mono ?_
    rintro e w1 ⟨rfl, hx⟩
    have hE := hE0.trans hx
    have a0 := hx.cell (b := w.heap.size) (o := 0) (v := .string s) (by go_cell)
    have a1 := hx.cell (b := w.heap.size) (o := 1) (v := .slice a vs.length c) (by go_cell)
    have a2 := hx.cell (b := w.heap.size) (o := 2) (v := .slice b cs.length d) (by go_cell)
    have a3 := hx.cell (b := w.heap.size) (o := 3) (v := .int .i64 k) (by go_cell)
    have b0 := hx.cell (b := w.heap.size + 1) (o := 0) (v := .int .i64 n) (by go_cell)
    have b1 := hx.cell (b := w.heap.size + 1) (o := 1) (v := .string p) (by go_cell)
    have b2 := hx.cell (b := w.heap.size + 1) (o := 2) (v := .string q) (by go_cell)
    clear hx hE0
    go_wp2_with fail
    refine wp_region_flow_at (C := Ext) 4 [fun v _ => v = .agg #[.string s, .slice a vs.length c, .slice b cs.length d, .int .i64 k], fun v _ => v = .agg #[.int .i64 n, .string p, .string q], fun v _ => v = .string t, fun v _ => v = .int .i64 z]
      [[(2, none)], [(3, none)], [(11, some 1)], [(10, some 0), (12, some 2)]] (by kernel_rfl) (by kernel_rfl) Ext.refl (fun _ _ _ => Ext.trans) ?_ ?_ ?_
    · intro F hF
      simp only [List.mem_cons, List.not_mem_nil, or_false] at hF
      rcases hF with rfl | rfl | rfl | rfl <;> exact fun _ _ _ h _ => h
    · refine ⟨?_, ?_, ?_, ?_, trivial⟩
      · rintro ρ w1 hw hcst hfn hk
        have c0 := hw.cell (b := w.heap.size) (o := 0) (v := .string s) (by first | (simp [*]; done) | (simp [*, go_sem]; done) | go_cell)
        have c1 := hw.cell (b := w.heap.size) (o := 1) (v := .slice a vs.length c) (by first | (simp [*]; done) | (simp [*, go_sem]; done) | go_cell)
        have c2 := hw.cell (b := w.heap.size) (o := 2) (v := .slice b cs.length d) (by first | (simp [*]; done) | (simp [*, go_sem]; done) | go_cell)
        have c3 := hw.cell (b := w.heap.size) (o := 3) (v := .int .i64 k) (by first | (simp [*]; done) | (simp [*, go_sem]; done) | go_cell)
        clear hw
        simp only [known, List.getD_cons_zero, List.getD_cons_succ, Nat.reduceAdd] at hk
        simp only [List.getD_cons_zero, List.getD_cons_succ, Nat.reduceAdd, flowAt]
        go_simp
        exact ⟨Ext.refl _, rfl⟩
      · rintro ρ w1 hw hcst hfn hk
        have c0 := hw.cell (b := (w.heap.size+1)) (o := 0) (v := .int .i64 n) (by first | (simp [*]; done) | (simp [*, go_sem]; done) | go_cell)
        have c1 := hw.cell (b := (w.heap.size+1)) (o := 1) (v := .string p) (by first | (simp [*]; done) | (simp [*, go_sem]; done) | go_cell)
        have c2 := hw.cell (b := (w.heap.size+1)) (o := 2) (v := .string q) (by first | (simp [*]; done) | (simp [*, go_sem]; done) | go_cell)
        clear hw
        simp only [known, List.getD_cons_zero, List.getD_cons_succ, Nat.reduceAdd] at hk
        simp only [List.getD_cons_zero, List.getD_cons_succ, Nat.reduceAdd, flowAt]
        go_simp
        exact ⟨Ext.refl _, rfl⟩
      · rintro ρ w1 hw hcst hfn hk
        simp only [known, List.getD_cons_zero, List.getD_cons_succ, Nat.reduceAdd] at hk
        simp only [List.getD_cons_zero, List.getD_cons_succ, Nat.reduceAdd, flowAt]
        go_simp
        exact flow_ret (HL.out _ (hE.trans ((Ext.drew (Ext.refl _)).trans hw)))
      · rintro ρ w1 hw hcst hfn hk
        simp only [known, List.getD_cons_zero, List.getD_cons_succ, Nat.reduceAdd] at hk
        simp only [List.getD_cons_zero, List.getD_cons_succ, Nat.reduceAdd, flowAt]
        go_simp
        exact flow_ret (HV'.out _ (hE.trans ((Ext.drew (Ext.refl _)).trans hw)))
    intro vs w1 hw hf
    simp only [flowFacts, Nat.reduceAdd] at hf
    obtain ⟨e0, e1, e2, e3, -⟩ := hf
    simp only [List.take_succ_cons, List.take_zero, List.drop_succ_cons, List.drop_zero, putAll, Act.put, Nat.reduceAdd, List.setIfInBounds_toArray, List.set_cons_zero, List.set_cons_succ, e0, e1, e2, e3]
    clear e0 e1 e2 e3
    have hE' := hE.trans (Ext.drew (Ext.refl _) |>.trans hw)
    clear hw
    go_wp2_with fail
    go_returns
    exact ⟨by rw [HD'.out]; rfl, hE'⟩
  · have hok' : (tilesB s vs cs k && okB n p q) = false := by simpa using hok
    rw [hok'] at HSc
    have HD' : Hid (faceV s vs cs k n p q = .tuple #[.int .i64 0, .int .i64 1]) := hid (by
      rw [HD.out]
      cases h1 : tilesB s vs cs k
      · simp
      · cases h2 : okB n p q
        · simp
        · rw [h1, h2] at hok'; cases hok')
    clear hok hok' HV HD
    go_enter Tryd.func9, Tryd.ntmps9
    go_wp2_with fail
    have hE0 := ((Ext.refl w).alloc (.cells #[.string s, .slice a vs.length c, .slice b cs.length d, .int .i64 k] 31)).alloc (.cells #[.int .i64 n, .string p, .string q] 33)
    refine (HSc.out _ hE0).mono ?_
    rintro e w1 ⟨rfl, hx⟩
    have hE := hE0.trans hx
    clear hx hE0
    go_wp2_with fail
    go_returns
    exact ⟨by rw [HD'.out]; rfl, hE⟩
set_option maxHeartbeats 1600000 in
theorem sFaceValue_any (s : ByteArray) (a b : Option Addr) (c d : Nat) (vs cs : List Int) (k : Int) (n : Int) (p q : ByteArray) (w : World) (hs : s.size ≤ 1048576) (l1 : vs.length ≤ 1048576) (l2 : cs.length ≤ 1048576) (h1 : Rd w a (intsV vs)) (h2 : Rd w b (intsV cs)) (hp : p.size ≤ 1048576) (hq : q.size ≤ 1048576) :
    Calls Tryd.prog 6 #[tileV s a b vs.length cs.length c d k, boardV n p q] w (Ret (faceV s vs cs k n p q) w) := by
  have HO := hid (fun w' g (x : Ext w w') (h : TileAt w' g s a b vs.length cs.length c d k) => l02Ok_any s a b c d g vs cs k w' hs l1 l2 (h1.ext x) (h2.ext x) h)
  have HB := hid (fun w' g (h : BdAt w' g 0 n p q) => l11Ok_any g 0 n p q w' h hp hq)
  have HL := hid (fun w' g (h : BdAt w' g 0 n p q) => l11Letters_any g 0 n p q w' h hq)
  have HV : Hid (tilesB s vs cs k = true → ∀ w' g, Ext w w' → TileAt w' g s a b vs.length cs.length c d k → Calls Tryd.prog 14 #[.pointer (some ⟨g, 0, none⟩), .string (noDot q)] w' (Same (.int .i64 (sumT s vs (noDot q) (noDot q).size)) w')) :=
    hid (fun h w' g x hA => l02Sum_any s (noDot q) a b cs.length c d g vs k w' hs (Nat.le_trans (noDot_size q) hq) hA (h1.ext x) (tilesB_iff.1 h).vlen (fun i hi => (tilesB_iff.1 h).vals i hi))
  have HD : Hid (faceV s vs cs k n p q = if tilesB s vs cs k then if okB n p q then .tuple #[.int .i64 (sumT s vs (noDot q) (noDot q).size), .int .i64 0] else .tuple #[.int .i64 0, .int .i64 1] else .tuple #[.int .i64 0, .int .i64 1]) := hid rfl
  clear h1 h2
  have hE0 := ((Ext.refl w).alloc (.cells #[.string s, .slice a vs.length c, .slice b cs.length d, .int .i64 k] 31)).alloc (.cells #[.int .i64 n, .string p, .string q] 33)
  have hT0 : TileAt ((w.alloc (.cells #[.string s, .slice a vs.length c, .slice b cs.length d, .int .i64 k] 31)).alloc (.cells #[.int .i64 n, .string p, .string q] 33)) w.heap.size s a b vs.length cs.length c d k := ⟨by go_cell, by go_cell, by go_cell, by go_cell⟩
  have hB0 : BdAt ((w.alloc (.cells #[.string s, .slice a vs.length c, .slice b cs.length d, .int .i64 k] 31)).alloc (.cells #[.int .i64 n, .string p, .string q] 33)) (w.heap.size + 1) 0 n p q := ⟨by go_cell, by go_cell, by go_cell⟩
  have HE0 := hid hE0
  have HT0 := hid hT0
  have HB0 := hid hB0
  clear hE0 hT0 hB0
  cases ht : tilesB s vs cs k
  · rw [ht] at HO
    have HD' : Hid (faceV s vs cs k n p q = .tuple #[.int .i64 0, .int .i64 1]) := hid (by rw [HD.out, ht]; simp)
    clear ht HV HD
    go_enter Tryd.func6, Tryd.ntmps6
    go_wp2_with fail
    refine (HO.out _ _ HE0.out HT0.out).mono ?_
    rintro e w1 ⟨rfl, hD⟩
    have hE := HE0.out.trans hD.ext
    clear hD
    go_wp2_with fail
    go_returns
    exact ⟨by rw [HD'.out]; rfl, hE⟩
  · rw [ht] at HO
    have HV' := hid (HV.out ht)
    cases hb : okB n p q
    · rw [hb] at HB
      have HD' : Hid (faceV s vs cs k n p q = .tuple #[.int .i64 0, .int .i64 1]) := hid (by rw [HD.out, ht, hb]; simp)
      clear ht hb HV HD HV'
      go_enter Tryd.func6, Tryd.ntmps6
      go_wp2_with fail
      refine (HO.out _ _ HE0.out HT0.out).mono ?_
      rintro e w1 ⟨rfl, hD⟩
      have hE := HE0.out.trans hD.ext
      have hB1 := HB0.out.ext hD.ext
      have HB1 := hid hB1
      clear hD hB1
      go_wp2_with fail
      refine (HB.out _ _ HB1.out).mono ?_
      rintro e w2 ⟨rfl, hD⟩
      replace hE := hE.trans hD.ext
      clear hD
      go_wp2_with fail
      go_returns
      exact ⟨by rw [HD'.out]; rfl, hE⟩
    · rw [hb] at HB
      have HD' : Hid (faceV s vs cs k n p q = .tuple #[.int .i64 (sumT s vs (noDot q) (noDot q).size), .int .i64 0]) := hid (by rw [HD.out, ht, hb]; simp)
      obtain ⟨z, hz⟩ : ∃ z, sumT s vs (noDot q) (noDot q).size = z := ⟨_, rfl⟩
      obtain ⟨t, htt⟩ : ∃ t, noDot q = t := ⟨_, rfl⟩
      rw [hz] at HV' HD'
      rw [htt] at HV' HL
      clear ht hb HV HD hz htt
      go_enter Tryd.func6, Tryd.ntmps6
      go_wp2_with fail
      refine (HO.out _ _ HE0.out HT0.out).mono ?_
      rintro e w1 ⟨rfl, hD⟩
      have hE := HE0.out.trans hD.ext
      have HB1 := hid (HB0.out.ext hD.ext)
      have HT1 := hid (HT0.out.ext hD.ext)
      clear hD
      go_wp2_with fail
      refine (HB.out _ _ HB1.out).mono ?_
      rintro e w2 ⟨rfl, hD⟩
      replace hE := hE.trans hD.ext
      replace HB1 := hid (HB1.out.ext hD.ext)
      replace HT1 := hid (HT1.out.ext hD.ext)
      clear hD
      go_wp2_with fail
      refine (HL.out _ _ HB1.out).mono ?_
      rintro e w3 ⟨rfl, hx⟩
      replace hE := hE.trans hx
      replace HT1 := hid (HT1.out.ext hx)
      clear hx
      go_wp2_with fail
      refine (HV'.out _ _ hE HT1.out).mono ?_
      rintro e w4 ⟨rfl, rfl⟩
      go_wp2_with fail
      go_returns
      exact ⟨by rw [HD'.out]; rfl, hE⟩
end Go.Proofs.YtcgedkpbobgkhaaDoor
