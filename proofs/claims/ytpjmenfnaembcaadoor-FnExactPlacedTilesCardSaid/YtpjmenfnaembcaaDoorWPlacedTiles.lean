import Derived.Test.YtpjmenfnaembcaaDoorCh12r
import Derived.Test.YtpjmenfnaembcaaDoorLwE
import Derived.Test.YtpjmenfnaembcaaDoorRowL
namespace Go.Proofs.YtpjmenfnaembcaaDoor
set_option linter.unusedVariables false
set_option linter.unusedSimpArgs false
open Go Go.RowKit Go.ChangeShapes Go.WideShapes Go.ChangeAt
open Go.ChangeMaps (open_string shut_string)

set_option maxHeartbeats 2000000 in
theorem walk_FnExactPlacedTiles (n : Int) (p cs : ByteArray) (r c : Int) (d : Bool) (s : ByteArray) (w : World) (hn : (Lit.int .i64 n).wf = true) (hp : p.size ≤ maxLen) (hc : cs.size ≤ maxLen) (hr : (Lit.int .i64 r).wf = true) (hcc : (Lit.int .i64 c).wf = true) (hs : s.size ≤ maxLen) (hT : Tabs w) :
    Calls Tryd.prog 6 #[boardV n p cs, playV r c d s] w (Ret (.bool true) w) := by
  have HT : Hid (∀ w', Ext w w' → Tabs w') := hid (fun w' k => hT.ext k)
  clear hT hn hr hcc
  go_enter Tryd.func6, Tryd.ntmps6
  go_wp2_with fail
  refine (szBoard_any n p cs _ _ hp hc (by omega) (by omega)).mono ?_
  rintro e w1 ⟨rfl, hx⟩
  have hE := (((Ext.refl w).alloc _).alloc _).trans hx
  have a0 := hx.cell (b := w.heap.size) (o := 0) (v := .int .i64 n) (by simp)
  have a1 := hx.cell (b := w.heap.size) (o := 1) (v := .string p) (by simp)
  have a2 := hx.cell (b := w.heap.size) (o := 2) (v := .string cs) (by simp)
  have b0 := hx.cell (b := w.heap.size + 1) (o := 0) (v := .int .i64 r) (by simp)
  have b1 := hx.cell (b := w.heap.size + 1) (o := 1) (v := .int .i64 c) (by simp)
  have b2 := hx.cell (b := w.heap.size + 1) (o := 2) (v := .bool d) (by simp)
  have b3 := hx.cell (b := w.heap.size + 1) (o := 3) (v := .string s) (by simp)
  clear hx
  by_cases hn1 : szB 1048576 p cs < 0
  · go_wp2_with fail
    go_returns
    exact ⟨rfl, hE⟩
  · obtain ⟨q1, q2, q3, q4⟩ := szB_neg hn1 (by omega)
    go_wp2_with fail
    refine (szPlay_any r c d s _ _ hs q3 q4).mono ?_
    rintro e w2 ⟨rfl, hx⟩
    replace hE := hE.trans hx
    replace a0 := hx.cell a0
    replace a1 := hx.cell a1
    replace a2 := hx.cell a2
    replace b0 := hx.cell b0
    replace b1 := hx.cell b1
    replace b2 := hx.cell b2
    replace b3 := hx.cell b3
    clear hx
    by_cases hn2 : szP (szB 1048576 p cs) s < 0
    · go_wp2_with fail
      go_returns
      exact ⟨rfl, hE⟩
    · obtain ⟨q5, q6, q7⟩ := szP_neg hn2 q4
      obtain ⟨x, y, hV⟩ : ∃ x y, plV n p cs r c d s = .tuple #[.string x, .int .i64 y] := by
        unfold plV
        split <;> exact ⟨_, _, rfl⟩
      have HS := hid (fun w => sPlacedTiles_any n p cs r c d s w q1 q2 q5)
      have HI := hid (fun w (h : Tabs w) => PlacedTiles_any n p cs r c d s w q1 q2 q5 h)
      rw [hV] at HS HI
      clear hV
      go_wp2_with fail
      refine wp_region_flow_at (C := Ext) 10 [fun v _ => v = .agg #[.int .i64 n, .string p, .string cs], fun v _ => v = boardV n p cs, fun v _ => v = .agg #[.int .i64 r, .int .i64 c, .bool d, .string s], fun v _ => v = playV r c d s, fun v _ => v = .tuple #[.string x, .int .i64 y], fun v _ => v = .tuple #[.string x, .int .i64 y], fun v _ => v = .string x, fun v _ => v = .int .i64 y, fun v _ => v = .string x, fun v _ => v = .int .i64 y]
        [[(2, none)], [(21, some 0)], [(3, none)], [(23, some 2)], [(22, some 1), (24, some 3)], [(25, some 4)], [(20, some 5)], [(20, some 5)], [(26, some 6)], [(27, some 7)]] (by kernel_rfl) (by kernel_rfl) Ext.refl (fun _ _ _ => Ext.trans) ?_ ?_ ?_
      · intro F hF
        simp only [List.mem_cons, List.not_mem_nil, or_false] at hF
        rcases hF with rfl | rfl | rfl | rfl | rfl | rfl | rfl | rfl | rfl | rfl <;> exact fun _ _ _ h _ => h
      · refine ⟨?_, ?_, ?_, ?_, ?_, ?_, ?_, ?_, ?_, ?_, trivial⟩
        · rintro ρ w1 hw hcst hfn hk
          have c0 := hw.cell (b := w.heap.size) (o := 0) (v := .int .i64 n) (by first | (simp [*]; done) | (simp [*, go_sem]; done) | go_cell)
          have c1 := hw.cell (b := w.heap.size) (o := 1) (v := .string p) (by first | (simp [*]; done) | (simp [*, go_sem]; done) | go_cell)
          have c2 := hw.cell (b := w.heap.size) (o := 2) (v := .string cs) (by first | (simp [*]; done) | (simp [*, go_sem]; done) | go_cell)
          clear hw
          simp only [known, List.getD_cons_zero, List.getD_cons_succ, Nat.reduceAdd] at hk
          simp only [List.getD_cons_zero, List.getD_cons_succ, Nat.reduceAdd, flowAt]
          go_simp
          exact ⟨Ext.refl _, rfl⟩
        · rintro ρ w1 hw hcst hfn hk
          simp only [known, List.getD_cons_zero, List.getD_cons_succ, Nat.reduceAdd] at hk
          simp only [List.getD_cons_zero, List.getD_cons_succ, Nat.reduceAdd, flowAt]
          go_simp
          exact flow_ret (toBoard_any _ _ _ _)
        · rintro ρ w1 hw hcst hfn hk
          have c0 := hw.cell (b := (w.heap.size + 1)) (o := 0) (v := .int .i64 r) (by first | (simp [*]; done) | (simp [*, go_sem]; done) | go_cell)
          have c1 := hw.cell (b := (w.heap.size + 1)) (o := 1) (v := .int .i64 c) (by first | (simp [*]; done) | (simp [*, go_sem]; done) | go_cell)
          have c2 := hw.cell (b := (w.heap.size + 1)) (o := 2) (v := .bool d) (by first | (simp [*]; done) | (simp [*, go_sem]; done) | go_cell)
          have c3 := hw.cell (b := (w.heap.size + 1)) (o := 3) (v := .string s) (by first | (simp [*]; done) | (simp [*, go_sem]; done) | go_cell)
          clear hw
          simp only [known, List.getD_cons_zero, List.getD_cons_succ, Nat.reduceAdd] at hk
          simp only [List.getD_cons_zero, List.getD_cons_succ, Nat.reduceAdd, flowAt]
          go_simp
          exact ⟨Ext.refl _, rfl⟩
        · rintro ρ w1 hw hcst hfn hk
          simp only [known, List.getD_cons_zero, List.getD_cons_succ, Nat.reduceAdd] at hk
          simp only [List.getD_cons_zero, List.getD_cons_succ, Nat.reduceAdd, flowAt]
          go_simp
          exact flow_ret (toPlay_any _ _ _ _ _)
        · rintro ρ w1 hw hcst hfn hk
          simp only [known, List.getD_cons_zero, List.getD_cons_succ, Nat.reduceAdd] at hk
          simp only [List.getD_cons_zero, List.getD_cons_succ, Nat.reduceAdd, flowAt]
          go_simp
          exact flow_ret (HS.out _)
        · rintro ρ w1 hw hcst hfn hk
          clear hw
          simp only [known, List.getD_cons_zero, List.getD_cons_succ, Nat.reduceAdd] at hk
          simp only [List.getD_cons_zero, List.getD_cons_succ, Nat.reduceAdd, flowAt]
          go_simp
          exact ⟨Ext.refl _, rfl⟩
        · rintro ρ w1 hw hcst hfn hk
          clear hw
          simp only [known, List.getD_cons_zero, List.getD_cons_succ, Nat.reduceAdd] at hk
          simp only [List.getD_cons_zero, List.getD_cons_succ, Nat.reduceAdd, flowAt]
          go_simp
          exact ⟨Ext.refl _, rfl⟩
        · rintro ρ w1 hw hcst hfn hk
          clear hw
          simp only [known, List.getD_cons_zero, List.getD_cons_succ, Nat.reduceAdd] at hk
          simp only [List.getD_cons_zero, List.getD_cons_succ, Nat.reduceAdd, flowAt]
          go_simp
          exact ⟨Ext.refl _, rfl⟩
        · rintro ρ w1 hw hcst hfn hk
          clear hw
          simp only [known, List.getD_cons_zero, List.getD_cons_succ, Nat.reduceAdd] at hk
          simp only [List.getD_cons_zero, List.getD_cons_succ, Nat.reduceAdd, flowAt]
          go_simp
          exact ⟨Ext.refl _, rfl⟩
        · rintro ρ w1 hw hcst hfn hk
          clear hw
          simp only [known, List.getD_cons_zero, List.getD_cons_succ, Nat.reduceAdd] at hk
          simp only [List.getD_cons_zero, List.getD_cons_succ, Nat.reduceAdd, flowAt]
          go_simp
          exact ⟨Ext.refl _, rfl⟩
      intro vs w1 hw hf
      simp only [flowFacts, Nat.reduceAdd] at hf
      obtain ⟨e0, e1, e2, e3, e4, e5, e6, e7, e8, e9, -⟩ := hf
      simp only [List.take_succ_cons, List.take_zero, List.drop_succ_cons, List.drop_zero, putAll, Act.put, Nat.reduceAdd, List.setIfInBounds_toArray, List.set_cons_zero, List.set_cons_succ, e0, e1, e2, e3, e4, e5, e6, e7, e8, e9]
      clear e0 e1 e2 e3 e4 e5 e6 e7 e8 e9
      replace hE := hE.drew.trans hw
      have hx := (Ext.refl _).drew.trans hw
      replace a0 := hx.cell a0
      replace a1 := hx.cell a1
      replace a2 := hx.cell a2
      replace b0 := hx.cell b0
      replace b1 := hx.cell b1
      replace b2 := hx.cell b2
      replace b3 := hx.cell b3
      clear hx hw
      go_wp2_with fail
      refine wp_region_flow_at (C := Ext) 10 [fun v _ => v = .agg #[.int .i64 n, .string p, .string cs], fun v _ => v = boardV n p cs, fun v _ => v = .agg #[.int .i64 r, .int .i64 c, .bool d, .string s], fun v _ => v = playV r c d s, fun v _ => v = .tuple #[.string x, .int .i64 y], fun v _ => v = .tuple #[.string x, .int .i64 y], fun v _ => v = .string x, fun v _ => v = .int .i64 y, fun v _ => v = .string x, fun v _ => v = .int .i64 y]
        [[(2, none)], [(29, some 0)], [(3, none)], [(31, some 2)], [(30, some 1), (32, some 3)], [(33, some 4)], [(28, some 5)], [(28, some 5)], [(34, some 6)], [(35, some 7)]] (by kernel_rfl) (by kernel_rfl) Ext.refl (fun _ _ _ => Ext.trans) ?_ ?_ ?_
      · intro F hF
        simp only [List.mem_cons, List.not_mem_nil, or_false] at hF
        rcases hF with rfl | rfl | rfl | rfl | rfl | rfl | rfl | rfl | rfl | rfl <;> exact fun _ _ _ h _ => h
      · refine ⟨?_, ?_, ?_, ?_, ?_, ?_, ?_, ?_, ?_, ?_, trivial⟩
        · rintro ρ w1 hw hcst hfn hk
          have c0 := hw.cell (b := w.heap.size) (o := 0) (v := .int .i64 n) (by first | (simp [*]; done) | (simp [*, go_sem]; done) | go_cell)
          have c1 := hw.cell (b := w.heap.size) (o := 1) (v := .string p) (by first | (simp [*]; done) | (simp [*, go_sem]; done) | go_cell)
          have c2 := hw.cell (b := w.heap.size) (o := 2) (v := .string cs) (by first | (simp [*]; done) | (simp [*, go_sem]; done) | go_cell)
          clear hw
          simp only [known, List.getD_cons_zero, List.getD_cons_succ, Nat.reduceAdd] at hk
          simp only [List.getD_cons_zero, List.getD_cons_succ, Nat.reduceAdd, flowAt]
          go_simp
          exact ⟨Ext.refl _, rfl⟩
        · rintro ρ w1 hw hcst hfn hk
          simp only [known, List.getD_cons_zero, List.getD_cons_succ, Nat.reduceAdd] at hk
          simp only [List.getD_cons_zero, List.getD_cons_succ, Nat.reduceAdd, flowAt]
          go_simp
          exact flow_ret (toBoard_any _ _ _ _)
        · rintro ρ w1 hw hcst hfn hk
          have c0 := hw.cell (b := (w.heap.size + 1)) (o := 0) (v := .int .i64 r) (by first | (simp [*]; done) | (simp [*, go_sem]; done) | go_cell)
          have c1 := hw.cell (b := (w.heap.size + 1)) (o := 1) (v := .int .i64 c) (by first | (simp [*]; done) | (simp [*, go_sem]; done) | go_cell)
          have c2 := hw.cell (b := (w.heap.size + 1)) (o := 2) (v := .bool d) (by first | (simp [*]; done) | (simp [*, go_sem]; done) | go_cell)
          have c3 := hw.cell (b := (w.heap.size + 1)) (o := 3) (v := .string s) (by first | (simp [*]; done) | (simp [*, go_sem]; done) | go_cell)
          clear hw
          simp only [known, List.getD_cons_zero, List.getD_cons_succ, Nat.reduceAdd] at hk
          simp only [List.getD_cons_zero, List.getD_cons_succ, Nat.reduceAdd, flowAt]
          go_simp
          exact ⟨Ext.refl _, rfl⟩
        · rintro ρ w1 hw hcst hfn hk
          simp only [known, List.getD_cons_zero, List.getD_cons_succ, Nat.reduceAdd] at hk
          simp only [List.getD_cons_zero, List.getD_cons_succ, Nat.reduceAdd, flowAt]
          go_simp
          exact flow_ret (toPlay_any _ _ _ _ _)
        · rintro ρ w1 hw hcst hfn hk
          simp only [known, List.getD_cons_zero, List.getD_cons_succ, Nat.reduceAdd] at hk
          simp only [List.getD_cons_zero, List.getD_cons_succ, Nat.reduceAdd, flowAt]
          go_simp
          exact flow_ret (HI.out _ (HT.out _ (hE.drew.trans hw)))
        · rintro ρ w1 hw hcst hfn hk
          clear hw
          simp only [known, List.getD_cons_zero, List.getD_cons_succ, Nat.reduceAdd] at hk
          simp only [List.getD_cons_zero, List.getD_cons_succ, Nat.reduceAdd, flowAt]
          go_simp
          exact ⟨Ext.refl _, rfl⟩
        · rintro ρ w1 hw hcst hfn hk
          clear hw
          simp only [known, List.getD_cons_zero, List.getD_cons_succ, Nat.reduceAdd] at hk
          simp only [List.getD_cons_zero, List.getD_cons_succ, Nat.reduceAdd, flowAt]
          go_simp
          exact ⟨Ext.refl _, rfl⟩
        · rintro ρ w1 hw hcst hfn hk
          clear hw
          simp only [known, List.getD_cons_zero, List.getD_cons_succ, Nat.reduceAdd] at hk
          simp only [List.getD_cons_zero, List.getD_cons_succ, Nat.reduceAdd, flowAt]
          go_simp
          exact ⟨Ext.refl _, rfl⟩
        · rintro ρ w1 hw hcst hfn hk
          clear hw
          simp only [known, List.getD_cons_zero, List.getD_cons_succ, Nat.reduceAdd] at hk
          simp only [List.getD_cons_zero, List.getD_cons_succ, Nat.reduceAdd, flowAt]
          go_simp
          exact ⟨Ext.refl _, rfl⟩
        · rintro ρ w1 hw hcst hfn hk
          clear hw
          simp only [known, List.getD_cons_zero, List.getD_cons_succ, Nat.reduceAdd] at hk
          simp only [List.getD_cons_zero, List.getD_cons_succ, Nat.reduceAdd, flowAt]
          go_simp
          exact ⟨Ext.refl _, rfl⟩
      intro vs w1 hw hf
      simp only [flowFacts, Nat.reduceAdd] at hf
      obtain ⟨e0, e1, e2, e3, e4, e5, e6, e7, e8, e9, -⟩ := hf
      simp only [List.take_succ_cons, List.take_zero, List.drop_succ_cons, List.drop_zero, putAll, Act.put, Nat.reduceAdd, List.setIfInBounds_toArray, List.set_cons_zero, List.set_cons_succ, e0, e1, e2, e3, e4, e5, e6, e7, e8, e9]
      clear e0 e1 e2 e3 e4 e5 e6 e7 e8 e9
      replace hE := hE.drew.trans hw
      have hx := (Ext.refl _).drew.trans hw
      replace a0 := hx.cell a0
      replace a1 := hx.cell a1
      replace a2 := hx.cell a2
      replace b0 := hx.cell b0
      replace b1 := hx.cell b1
      replace b2 := hx.cell b2
      replace b3 := hx.cell b3
      clear hx hw
      go_wp2_with fail
      go_returns
      exact ⟨rfl, hE⟩

set_option maxRecDepth 100000 in
theorem lifted_FnExactPlacedTiles (os : Os) (started : os.Started) (H : Type) (enc : TypeId × Value → H) :
    ReturnsInHanded {} Tryd.checked os 6 .any (fun w args => (Rows.fnExactPlacedTilesSpec.pre enc Tryd.prog Tryd.f6 [] false w args ∧ laidMetH Tryd.prog Rows.fnExactPlacedTilesRow.laid w) ∧ sizedMet enc Tryd.prog Tryd.f6 (OpenSpec.ofChange Rows.fnExactPlacedTilesSpec) false w args)
      (Rows.fnExactPlacedTilesSpec.post enc Tryd.prog Tryd.f6 false true false false) := by
  refine returnsInHanded_of_change_and (C := Tryd.checked) (X := fun w _ => laidMetH Tryd.prog Rows.fnExactPlacedTilesRow.laid w) (fun _ _ _ hh h => h.of_heap hh) ownRow started (by kernel_rfl) Tryd.func6
    (ChangeSpec.witness_shaped (enc := enc) (C := Tryd.checked) (os := os) (X := fun w _ => laidMetH Tryd.prog Rows.fnExactPlacedTilesRow.laid w) false (World.laidAll Tryd.prog os Rows.fnExactPlacedTilesRow.laid) #[.agg #[.int .i64 0, .string ⟨#[]⟩, .string ⟨#[]⟩], .agg #[.int .i64 0, .int .i64 0, .bool false, .string ⟨#[]⟩]] 8 (World.laidAll_os _ _ _)
      (World.shaped_of_ZipB (by kernel_rfl) (by kernel_rfl)) (by kernel_rfl) (by kernel_rfl) (by kernel_rfl)
      (by rw [MakeChecks.laidMetH_plain _ _ _ (by kernel_rfl)]; exact laidMet_laidAll _ (by kernel_rfl) (by kernel_rfl))) ?_
  intro W base args ds gs before hval0 hW _ _ hL _
  have hval : ∀ (j : Nat) t v, Tryd.f6.params[j]? = some t → args[j]? = some v → Value.okWide Tryd.prog W .any base t v := hval0
  have hW' := hW
  obtain ⟨p, q, hA0, hV, rfl, hfz, hnd⟩ := hW
  have hA : DataW.TrodAll enc Tryd.prog W 0 (fun _ => true) true Tryd.f6.params.toList args.toList ds p := hA0
  rw [Tryd.params6] at hA hval
  obtain ⟨v0, vs0, d0, ds0, p0, q0, hargs, rfl, rfl, h0, r0⟩ := trodAll_cons hA
  obtain ⟨v1, vs1, d1, ds1, p1, q1, rfl, rfl, rfl, h1, r1⟩ := trodAll_cons r0
  obtain ⟨rfl, rfl, rfl⟩ := trodAll_nil r1
  obtain rfl : args = #[v0, v1] := by cases args; simp_all
  obtain ⟨rfl, rfl⟩ := trodVars_none hV
  have k0 := h0
  have lt0 : ∀ x ∈ p0, x.block < W.heap.size := by obtain ⟨m, hm⟩ := k0; exact DataW.trod_lt m _ _ _ hm
  have k1 := h1
  have lt1 : ∀ x ∈ p1, x.block < W.heap.size := by obtain ⟨m, hm⟩ := k1; exact DataW.trod_lt m _ _ _ hm
  obtain ⟨c0_0, c0_1, c0_2, y0_0, y0_1, y0_2, m0, rfl, rfl, rfl, hy0_0, hy0_1, hy0_2⟩ := Go.Joins.open_agg3 Tryd.underlying23 (by kernel_rfl) (by kernel_rfl) (hval 0 23 v0 rfl rfl) h0
  obtain ⟨a0_0, e_a0_0, _, w_a0_0⟩ := DataW.trod_int Tryd.underlying2 hy0_0
  simp only [List.cons.injEq, and_true] at e_a0_0
  subst e_a0_0
  obtain ⟨a0_1, e_a0_1, _, w_a0_1⟩ := DataW.trod_string Tryd.underlying9 hy0_1
  simp only [List.cons.injEq, and_true] at e_a0_1
  subst e_a0_1
  obtain ⟨a0_2, e_a0_2, _, w_a0_2⟩ := DataW.trod_string Tryd.underlying9 hy0_2
  simp only [List.cons.injEq, and_true] at e_a0_2
  subst e_a0_2
  obtain ⟨c1_0, c1_1, c1_2, c1_3, y1_0, y1_1, y1_2, y1_3, m1, rfl, rfl, rfl, hy1_0, hy1_1, hy1_2, hy1_3⟩ := Go.Joins.open_agg4 Tryd.underlying25 (by kernel_rfl) (by kernel_rfl) (hval 1 25 v1 rfl rfl) h1
  obtain ⟨a1_0, e_a1_0, _, w_a1_0⟩ := DataW.trod_int Tryd.underlying2 hy1_0
  simp only [List.cons.injEq, and_true] at e_a1_0
  subst e_a1_0
  obtain ⟨a1_1, e_a1_1, _, w_a1_1⟩ := DataW.trod_int Tryd.underlying2 hy1_1
  simp only [List.cons.injEq, and_true] at e_a1_1
  subst e_a1_1
  obtain ⟨a1_2, e_a1_2, _⟩ := DataW.trod_bool Tryd.underlying4 hy1_2
  simp only [List.cons.injEq, and_true] at e_a1_2
  subst e_a1_2
  obtain ⟨a1_3, e_a1_3, _, w_a1_3⟩ := DataW.trod_string Tryd.underlying9 hy1_3
  simp only [List.cons.injEq, and_true] at e_a1_3
  subst e_a1_3
  clear hA0 hval0
  rw [MakeChecks.laidMetH_plain _ _ _ (by kernel_rfl)] at hL
  refine (walk_FnExactPlacedTiles a0_0 a0_1 a0_2 a1_0 a1_1 a1_2 a1_3 W w_a0_0 w_a0_1 w_a0_2 w_a1_0 w_a1_1 w_a1_3 (tabs_of_laid hL)).mono fun e W' ⟨he, bel⟩ => ?_
  subst he
  exact ⟨_, rfl, _, _, _, [], _, [], hW', trodAll_mk1 (shut_bool Tryd.underlying4 _), (trodAll_cons_mk (Below.trod laidRow (by kernel_rfl) (of_decide_eq_true (by kernel_rfl)) k0 bel lt0) (trodAll_cons_mk (Below.trod laidRow (by kernel_rfl) (of_decide_eq_true (by kernel_rfl)) k1 bel lt1) trodAll_mk0)), rfl, bel.frame _, fun h => by cases h⟩

theorem over_FnExactPlacedTiles : Rows.fnExactPlacedTilesRow.holds Tryd.pinned (OpenSpec.ofChange Rows.fnExactPlacedTilesSpec) :=
  OpenClaim.holds_of_wide 6 Tryd.f6 rfl rfl rfl rfl rfl rfl rfl ⟨rfl, rfl, rfl, rfl, rfl⟩ rfl rfl rfl rfl rfl (by kernel_rfl) Tryd.func6 (by kernel_rfl)
    (of_decide_eq_true (by kernel_rfl)) (by unfold Func.isWrapper; first | (rw [if_pos (by decide +kernel)]; kernel_rfl) | (rw [if_neg (by decide +kernel)]; exact ⟨rfl, rfl⟩))
    (fun os started H enc _ => lifted_FnExactPlacedTiles os started H enc)

theorem said_FnExactPlacedTiles : Rows.FnExactPlacedTilesCardSaid :=
  Claim7.holds_tied_plain_at .later [] [.data, .pinned, .pinned] true (true, "d056029bbb3b74a7834362d5611b2636efbc1b978a00a14e84f3f4ca82f6c3e3") false over_FnExactPlacedTiles (fun _ h => by cases h) (by kernel_rfl) (fun _ h => by cases h) fnExactPlacedTiles_row_tie rfl ⟨rfl, rfl⟩ (by kernel_rfl) rfl
    (fun f fn hf hfn => by
      obtain rfl : f = 6 := Option.some.inj ((show Tryd.prog.funcNamed "loop.example/g00911/laws.FnExactPlacedTiles" = some 6 by kernel_rfl).symm.trans hf) |>.symm
      obtain rfl : fn = Tryd.f6 := (Option.some.inj (Tryd.func6.symm.trans hfn)).symm
      exact ⟨by kernel_rfl, fun j t ht => by
        rw [Tryd.params6] at ht
        have hm : t ∈ [23, 25] := by simpa using Array.mem_of_getElem? ht
        have hall : ([23, 25].all fun u => !Tryd.prog.wantsStandIn u) = true := by kernel_rfl
        exact (show Tryd.prog.wantsStandIn t = false by simpa using List.all_eq_true.1 hall t hm)⟩)
    (by kernel_rfl)
end Go.Proofs.YtpjmenfnaembcaaDoor
