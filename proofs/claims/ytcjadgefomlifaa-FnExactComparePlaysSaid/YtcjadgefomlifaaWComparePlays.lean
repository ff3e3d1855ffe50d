import Derived.Test.YtcjadgefomlifaaCh12a
namespace Go.Proofs.Ytcjadgefomlifaa
set_option linter.unusedVariables false
set_option linter.unusedSimpArgs false
open Go Go.RowKit Go.ChangeShapes Go.WideShapes Go.ChangeAt
open Go.ChangeMaps (open_string shut_string)

theorem walk_FnExactComparePlays (r c : Int) (d : Bool) (s : ByteArray) (r' c' : Int) (d' : Bool) (s' : ByteArray) (w : World) (_ : (Lit.int .i64 r).wf = true) (_ : (Lit.int .i64 c).wf = true) (hs : s.size ≤ maxLen) (_ : (Lit.int .i64 r').wf = true) (_ : (Lit.int .i64 c').wf = true) (hs' : s'.size ≤ maxLen) :
    Calls Try.prog 3 #[playV r c d s, playV r' c' d' s'] w (Ret (.bool true) w) := by
  go_enter Try.func3, Try.ntmps3
  go_wp2_with fail
  refine (szPlay_any r c d s _ _ hs (by omega) (by omega)).mono ?_
  rintro e w1 ⟨rfl, hx⟩
  have hE := (((Ext.refl w).alloc _).alloc _).trans hx
  have b0 := hx.cell (b := w.heap.size) (o := 0) (v := .int .i64 r) (by simp)
  have b1 := hx.cell (b := w.heap.size) (o := 1) (v := .int .i64 c) (by simp)
  have b2 := hx.cell (b := w.heap.size) (o := 2) (v := .bool d) (by simp)
  have b3 := hx.cell (b := w.heap.size) (o := 3) (v := .string s) (by simp)
  have c0 := hx.cell (b := w.heap.size + 1) (o := 0) (v := .int .i64 r') (by simp)
  have c1 := hx.cell (b := w.heap.size + 1) (o := 1) (v := .int .i64 c') (by simp)
  have c2 := hx.cell (b := w.heap.size + 1) (o := 2) (v := .bool d') (by simp)
  have c3 := hx.cell (b := w.heap.size + 1) (o := 3) (v := .string s') (by simp)
  clear hx
  by_cases hn : szP 1048576 s < 0
  · go_wp2_with fail
    go_returns
    exact ⟨rfl, hE⟩
  · obtain ⟨q1, q3, q4⟩ := szP_neg hn (by omega)
    have hlt_b0 := World.block_lt_of_cell? _ _ b0
    have hlt_c0 := World.block_lt_of_cell? _ _ c0
    go_wp2_with fail
    refine (szPlay_any r' c' d' s' _ _ hs' q3 q4).mono ?_
    rintro e w2 ⟨rfl, hx⟩
    replace b0 := hx.cell b0
    replace b1 := hx.cell b1
    replace b2 := hx.cell b2
    replace b3 := hx.cell b3
    replace c0 := hx.cell c0
    replace c1 := hx.cell c1
    replace c2 := hx.cell c2
    replace c3 := hx.cell c3
    replace hE := hE.trans hx
    clear hx
    clear hlt_b0 hlt_c0
    by_cases hn' : szP (szP 1048576 s) s' < 0
    · go_wp2_with fail
      go_returns
      exact ⟨rfl, hE⟩
    · go_wp2_with fail
      refine wp_region_flow_at (C := Ext) 5 [fun v _ => v = .agg #[.int .i64 r, .int .i64 c, .bool d, .string s], fun v _ => v = playV r c d s, fun v _ => v = .agg #[.int .i64 r', .int .i64 c', .bool d', .string s'], fun v _ => v = playV r' c' d' s', fun v _ => v = .int .i64 (cmpP r c d s r' c' d' s')]
        [[(2, none)], [(18, some 0)], [(3, none)], [(20, some 2)], [(19, some 1), (21, some 3)]] (by kernel_rfl) (by kernel_rfl) Ext.refl (fun _ _ _ => Ext.trans) ?_ ?_ ?_
      · intro F hF
        simp only [List.mem_cons, List.not_mem_nil, or_false] at hF
        rcases hF with rfl | rfl | rfl | rfl | rfl <;> exact fun _ _ _ h _ => h
      · refine ⟨?_, ?_, ?_, ?_, ?_, trivial⟩
        · rintro ρ w1 hw hcst hfn hk
          have c0 := hw.cell (b := w.heap.size) (o := 0) (v := .int .i64 r) (by first | (simp [*]; done) | (simp [*, go_sem]; done) | go_cell)
          have c1 := hw.cell (b := w.heap.size) (o := 1) (v := .int .i64 c) (by first | (simp [*]; done) | (simp [*, go_sem]; done) | go_cell)
          have c2 := hw.cell (b := w.heap.size) (o := 2) (v := .bool d) (by first | (simp [*]; done) | (simp [*, go_sem]; done) | go_cell)
          have c3 := hw.cell (b := w.heap.size) (o := 3) (v := .string s) (by first | (simp [*]; done) | (simp [*, go_sem]; done) | go_cell)
          clear hw
          simp only [known, List.getD_cons_zero, List.getD_cons_succ, Nat.reduceAdd] at hk
          simp only [List.getD_cons_zero, List.getD_cons_succ, Nat.reduceAdd, flowAt]
          go_simp
          exact ⟨Ext.refl _, rfl⟩
        · rintro ρ w1 hw hcst hfn hk
          simp only [known, List.getD_cons_zero, List.getD_cons_succ, Nat.reduceAdd] at hk
          simp only [List.getD_cons_zero, List.getD_cons_succ, Nat.reduceAdd, flowAt]
          go_simp
          exact flow_ret (toPlay_any _ _ _ _ _)
        · rintro ρ w1 hw hcst hfn hk
          have c0 := hw.cell (b := (w.heap.size + 1)) (o := 0) (v := .int .i64 r') (by first | (simp [*]; done) | (simp [*, go_sem]; done) | go_cell)
          have c1 := hw.cell (b := (w.heap.size + 1)) (o := 1) (v := .int .i64 c') (by first | (simp [*]; done) | (simp [*, go_sem]; done) | go_cell)
          have c2 := hw.cell (b := (w.heap.size + 1)) (o := 2) (v := .bool d') (by first | (simp [*]; done) | (simp [*, go_sem]; done) | go_cell)
          have c3 := hw.cell (b := (w.heap.size + 1)) (o := 3) (v := .string s') (by first | (simp [*]; done) | (simp [*, go_sem]; done) | go_cell)
          clear hw
          simp only [known, List.getD_cons_zero, List.getD_cons_succ, Nat.reduceAdd] at hk
          simp only [List.getD_cons_zero, List.getD_cons_succ, Nat.reduceAdd, flowAt]
          go_simp
          exact ⟨Ext.refl _, rfl⟩
        · rintro ρ w1 hw hcst hfn hk
          simp only [known, List.getD_cons_zero, List.getD_cons_succ, Nat.reduceAdd] at hk
          simp only [List.getD_cons_zero, List.getD_cons_succ, Nat.reduceAdd, flowAt]
          go_simp
          exact flow_ret (toPlay_any _ _ _ _ _)
        · rintro ρ w1 hw hcst hfn hk
          simp only [known, List.getD_cons_zero, List.getD_cons_succ, Nat.reduceAdd] at hk
          simp only [List.getD_cons_zero, List.getD_cons_succ, Nat.reduceAdd, flowAt]
          go_simp
          exact flow_ret (sComparePlays_any _ _ _ _ _ _ _ _ _)
      intro vs w1 hw hf
      simp only [flowFacts, Nat.reduceAdd] at hf
      obtain ⟨e0, e1, e2, e3, e4, -⟩ := hf
      simp only [List.take_succ_cons, List.take_zero, List.drop_succ_cons, List.drop_zero, putAll, Act.put, Nat.reduceAdd, List.setIfInBounds_toArray, List.set_cons_zero, List.set_cons_succ, e0, e1, e2, e3, e4]
      clear e0 e1 e2 e3 e4
      replace b0 := hw.cell (by simpa using b0)
      replace b1 := hw.cell (by simpa using b1)
      replace b2 := hw.cell (by simpa using b2)
      replace b3 := hw.cell (by simpa using b3)
      replace c0 := hw.cell (by simpa using c0)
      replace c1 := hw.cell (by simpa using c1)
      replace c2 := hw.cell (by simpa using c2)
      replace c3 := hw.cell (by simpa using c3)
      replace hE := hE.drew.trans hw
      clear hw
      go_wp2_with fail
      refine wp_region_flow_at (C := Ext) 5 [fun v _ => v = .agg #[.int .i64 r, .int .i64 c, .bool d, .string s], fun v _ => v = playV r c d s, fun v _ => v = .agg #[.int .i64 r', .int .i64 c', .bool d', .string s'], fun v _ => v = playV r' c' d' s', fun v _ => v = .int .i64 (cmpP r c d s r' c' d' s')]
        [[(2, none)], [(23, some 0)], [(3, none)], [(25, some 2)], [(24, some 1), (26, some 3)]] (by kernel_rfl) (by kernel_rfl) Ext.refl (fun _ _ _ => Ext.trans) ?_ ?_ ?_
      · intro F hF
        simp only [List.mem_cons, List.not_mem_nil, or_false] at hF
        rcases hF with rfl | rfl | rfl | rfl | rfl <;> exact fun _ _ _ h _ => h
      · refine ⟨?_, ?_, ?_, ?_, ?_, trivial⟩
        · rintro ρ w1 hw hcst hfn hk
          have c0 := hw.cell (b := w.heap.size) (o := 0) (v := .int .i64 r) (by first | (simp [*]; done) | (simp [*, go_sem]; done) | go_cell)
          have c1 := hw.cell (b := w.heap.size) (o := 1) (v := .int .i64 c) (by first | (simp [*]; done) | (simp [*, go_sem]; done) | go_cell)
          have c2 := hw.cell (b := w.heap.size) (o := 2) (v := .bool d) (by first | (simp [*]; done) | (simp [*, go_sem]; done) | go_cell)
          have c3 := hw.cell (b := w.heap.size) (o := 3) (v := .string s) (by first | (simp [*]; done) | (simp [*, go_sem]; done) | go_cell)
          clear hw
          simp only [known, List.getD_cons_zero, List.getD_cons_succ, Nat.reduceAdd] at hk
          simp only [List.getD_cons_zero, List.getD_cons_succ, Nat.reduceAdd, flowAt]
          go_simp
          exact ⟨Ext.refl _, rfl⟩
        · rintro ρ w1 hw hcst hfn hk
          simp only [known, List.getD_cons_zero, List.getD_cons_succ, Nat.reduceAdd] at hk
          simp only [List.getD_cons_zero, List.getD_cons_succ, Nat.reduceAdd, flowAt]
          go_simp
          exact flow_ret (toPlay_any _ _ _ _ _)
        · rintro ρ w1 hw hcst hfn hk
          have c0 := hw.cell (b := (w.heap.size + 1)) (o := 0) (v := .int .i64 r') (by first | (simp [*]; done) | (simp [*, go_sem]; done) | go_cell)
          have c1 := hw.cell (b := (w.heap.size + 1)) (o := 1) (v := .int .i64 c') (by first | (simp [*]; done) | (simp [*, go_sem]; done) | go_cell)
          have c2 := hw.cell (b := (w.heap.size + 1)) (o := 2) (v := .bool d') (by first | (simp [*]; done) | (simp [*, go_sem]; done) | go_cell)
          have c3 := hw.cell (b := (w.heap.size + 1)) (o := 3) (v := .string s') (by first | (simp [*]; done) | (simp [*, go_sem]; done) | go_cell)
          clear hw
          simp only [known, List.getD_cons_zero, List.getD_cons_succ, Nat.reduceAdd] at hk
          simp only [List.getD_cons_zero, List.getD_cons_succ, Nat.reduceAdd, flowAt]
          go_simp
          exact ⟨Ext.refl _, rfl⟩
        · rintro ρ w1 hw hcst hfn hk
          simp only [known, List.getD_cons_zero, List.getD_cons_succ, Nat.reduceAdd] at hk
          simp only [List.getD_cons_zero, List.getD_cons_succ, Nat.reduceAdd, flowAt]
          go_simp
          exact flow_ret (toPlay_any _ _ _ _ _)
        · rintro ρ w1 hw hcst hfn hk
          simp only [known, List.getD_cons_zero, List.getD_cons_succ, Nat.reduceAdd] at hk
          simp only [List.getD_cons_zero, List.getD_cons_succ, Nat.reduceAdd, flowAt]
          go_simp
          exact flow_ret (ComparePlays_any _ _ _ _ _ _ _ _ _)
      intro vs w1 hw hf
      simp only [flowFacts, Nat.reduceAdd] at hf
      obtain ⟨e0, e1, e2, e3, e4, -⟩ := hf
      simp only [List.take_succ_cons, List.take_zero, List.drop_succ_cons, List.drop_zero, putAll, Act.put, Nat.reduceAdd, List.setIfInBounds_toArray, List.set_cons_zero, List.set_cons_succ, e0, e1, e2, e3, e4]
      clear e0 e1 e2 e3 e4
      replace hE := hE.drew.trans hw
      clear hw
      go_wp2_with fail
      go_returns
      exact ⟨rfl, hE⟩

set_option maxRecDepth 100000 in
theorem lifted_FnExactComparePlays (os : Os) (started : os.Started) (H : Type) (enc : TypeId × Value → H) :
    ReturnsInHanded {} Try.checked os 3 .any (Rows.fnExactComparePlaysSpec.pre6 enc Try.prog Try.f3 Rows.fnExactComparePlaysRow.domain false) (Rows.fnExactComparePlaysSpec.post enc Try.prog Try.f3 false true false false) := by
  refine returnsInHanded_of_change (C := Try.checked) ownRow started (by kernel_rfl) Try.func3
    (ChangeSpec.witness6 (enc := enc) (C := Try.checked) false ⟨#[], #[.agg #[.int .i64 0, .int .i64 0, .bool false, .string ⟨#[]⟩], .agg #[.int .i64 0, .int .i64 0, .bool false, .string ⟨#[]⟩]], []⟩ 8 (by kernel_rfl) (by kernel_rfl) (by kernel_rfl) (by kernel_rfl)) ?_
  intro W base args ds gs before hval0 hW hcnd _
  have hval : ∀ (j : Nat) t v, Try.f3.params[j]? = some t → args[j]? = some v → Value.okWide Try.prog W .any base t v := hval0
  have hW' := hW
  obtain ⟨p, q, hA0, hV, rfl, hfz, hnd⟩ := hW
  have hA : DataW.TrodAll enc Try.prog W 0 (fun _ => true) true Try.f3.params.toList args.toList ds p := hA0
  rw [Try.params3] at hA hval
  obtain ⟨v0, vs0, d0, ds0, p0, q0, hargs, rfl, rfl, h0, r0⟩ := trodAll_cons hA
  obtain ⟨v1, vs1, d1, ds1, p1, q1, rfl, rfl, rfl, h1, r1⟩ := trodAll_cons r0
  obtain ⟨rfl, rfl, rfl⟩ := trodAll_nil r1
  obtain rfl : args = #[v0, v1] := by cases args; simp_all
  obtain ⟨rfl, rfl⟩ := trodVars_none hV
  have k0 := h0
  have lt0 : ∀ x ∈ p0, x.block < W.heap.size := by obtain ⟨m, hm⟩ := k0; exact DataW.trod_lt m _ _ _ hm
  have k1 := h1
  have lt1 : ∀ x ∈ p1, x.block < W.heap.size := by obtain ⟨m, hm⟩ := k1; exact DataW.trod_lt m _ _ _ hm
  obtain ⟨c0_0, c0_1, c0_2, c0_3, y0_0, y0_1, y0_2, y0_3, m0, rfl, rfl, rfl, hy0_0, hy0_1, hy0_2, hy0_3⟩ := Go.Joins.open_agg4 Try.underlying23 (by kernel_rfl) (by kernel_rfl) (hval 0 23 v0 rfl rfl) h0
  obtain ⟨a0_0, e_a0_0, _, w_a0_0⟩ := DataW.trod_int Try.underlying2 hy0_0
  simp only [List.cons.injEq, and_true] at e_a0_0
  subst e_a0_0
  obtain ⟨a0_1, e_a0_1, _, w_a0_1⟩ := DataW.trod_int Try.underlying2 hy0_1
  simp only [List.cons.injEq, and_true] at e_a0_1
  subst e_a0_1
  obtain ⟨a0_2, e_a0_2, _⟩ := DataW.trod_bool Try.underlying4 hy0_2
  simp only [List.cons.injEq, and_true] at e_a0_2
  subst e_a0_2
  obtain ⟨a0_3, e_a0_3, _, w_a0_3⟩ := DataW.trod_string Try.underlying9 hy0_3
  simp only [List.cons.injEq, and_true] at e_a0_3
  subst e_a0_3
  obtain ⟨c1_0, c1_1, c1_2, c1_3, y1_0, y1_1, y1_2, y1_3, m1, rfl, rfl, rfl, hy1_0, hy1_1, hy1_2, hy1_3⟩ := Go.Joins.open_agg4 Try.underlying23 (by kernel_rfl) (by kernel_rfl) (hval 1 23 v1 rfl rfl) h1
  obtain ⟨a1_0, e_a1_0, _, w_a1_0⟩ := DataW.trod_int Try.underlying2 hy1_0
  simp only [List.cons.injEq, and_true] at e_a1_0
  subst e_a1_0
  obtain ⟨a1_1, e_a1_1, _, w_a1_1⟩ := DataW.trod_int Try.underlying2 hy1_1
  simp only [List.cons.injEq, and_true] at e_a1_1
  subst e_a1_1
  obtain ⟨a1_2, e_a1_2, _⟩ := DataW.trod_bool Try.underlying4 hy1_2
  simp only [List.cons.injEq, and_true] at e_a1_2
  subst e_a1_2
  obtain ⟨a1_3, e_a1_3, _, w_a1_3⟩ := DataW.trod_string Try.underlying9 hy1_3
  simp only [List.cons.injEq, and_true] at e_a1_3
  subst e_a1_3
  clear hA0 hval0
  refine (walk_FnExactComparePlays a0_0 a0_1 a0_2 a0_3 a1_0 a1_1 a1_2 a1_3 W w_a0_0 w_a0_1 w_a0_3 w_a1_0 w_a1_1 w_a1_3).mono fun e W' ⟨he, bel⟩ => ?_
  subst he
  exact ⟨_, rfl, _, _, _, [], _, [], hW', trodAll_mk1 (shut_bool Try.underlying4 _), (trodAll_cons_mk (Below.trod laidRow (by kernel_rfl) (of_decide_eq_true (by kernel_rfl)) k0 bel lt0) (trodAll_cons_mk (Below.trod laidRow (by kernel_rfl) (of_decide_eq_true (by kernel_rfl)) k1 bel lt1) trodAll_mk0)), rfl, bel.frame _, fun h => by cases h⟩

theorem over_FnExactComparePlays : Rows.fnExactComparePlaysRow.holds Try.pinned (OpenSpec.ofChange Rows.fnExactComparePlaysSpec) :=
  OpenClaim.holds_of_wide 3 Try.f3 rfl rfl rfl rfl rfl rfl rfl ⟨rfl, rfl, rfl, rfl, rfl⟩ rfl rfl rfl rfl rfl (by kernel_rfl) Try.func3 (by kernel_rfl)
    (of_decide_eq_true (by kernel_rfl)) (by unfold Func.isWrapper; first | (rw [if_pos (by decide +kernel)]; kernel_rfl) | (rw [if_neg (by decide +kernel)]; exact ⟨rfl, rfl⟩))
    (fun os started H enc _ => lifted_FnExactComparePlays os started H enc)

theorem said_FnExactComparePlays : Rows.FnExactComparePlaysSaid := over_FnExactComparePlays
end Go.Proofs.Ytcjadgefomlifaa
