import Derived.Test.YtlolacjlconjkaaDoorCh14c
import Derived.Test.YtlolacjlconjkaaDoorLwE
import Derived.Test.YtlolacjlconjkaaDoorRowS
namespace Go.Proofs.YtlolacjlconjkaaDoor
set_option linter.unusedVariables false
set_option linter.unusedSimpArgs false
open Go Go.RowKit Go.ChangeShapes Go.WideShapes Go.ChangeAt
open Go.ChangeMaps (open_string shut_string)

theorem walk_FnExactRoomBefore (n : Int) (p c : ByteArray) (i j : Int) (w : World) (hn : (Lit.int .i64 n).wf = true) (hp : p.size ≤ maxLen) (hc : c.size ≤ maxLen) (hi : (Lit.int .i64 i).wf = true) (hj : (Lit.int .i64 j).wf = true) (hM : MaxAt w) :
    Calls Tryd.prog 5 #[boardV n p c, .int .i64 i, .int .i64 j] w (Ret (.bool true) w) := by
  have HM : Hid (∀ w', Ext w w' → MaxAt w') := hid (fun w' k => hM.ext k)
  obtain ⟨x, y, hV⟩ : ∃ x y, roomV n p c i j = .tuple #[.int .i64 x, .int .i64 y] := by unfold roomV; (repeat' split) <;> exact ⟨_, _, rfl⟩
  clear hM
  go_enter Tryd.func5, Tryd.ntmps5
  go_wp2_with fail
  refine (szBoard_any n p c _ _ hp hc (by omega) (by omega)).mono ?_
  rintro e w1 ⟨rfl, hx⟩
  have hE := ((Ext.refl w).alloc _).trans hx
  have b0 := hx.cell (b := w.heap.size) (o := 0) (v := .int .i64 n) (by simp)
  have b1 := hx.cell (b := w.heap.size) (o := 1) (v := .string p) (by simp)
  have b2 := hx.cell (b := w.heap.size) (o := 2) (v := .string c) (by simp)
  clear hx
  by_cases hs : szB 1048576 p c < 0
  · go_wp2_with fail
    go_returns
    exact ⟨rfl, hE⟩
  · obtain ⟨q1, q2, q3, q4⟩ := szB_neg hs (by omega)
    have HS := hid (fun w' => sRoomBefore_any n p c i j w' q1 q2)
    have HI := hid (fun w' (h : MaxAt w') => RoomBefore_any n p c i j w' q1 q2 h)
    rw [hV] at HS HI
    clear hV
    have hlt_b0 := World.block_lt_of_cell? _ _ b0
    go_wp2_with fail
    refine (toBoard_any _ _ _ _).mono ?_
    rintro e w2 ⟨rfl, hx⟩
    replace b0 := hx.cell b0
    replace b1 := hx.cell b1
    replace b2 := hx.cell b2
    replace hE := hE.trans hx
    clear hx
    clear hlt_b0
    have hlt_b0 := World.block_lt_of_cell? _ _ b0
    go_wp2_with fail
    refine (HS.out _).mono ?_
    rintro e w3 ⟨rfl, hx⟩
    replace b0 := hx.cell b0
    replace b1 := hx.cell b1
    replace b2 := hx.cell b2
    replace hE := hE.trans hx
    clear hx
    clear hlt_b0
    have hlt_b0 := World.block_lt_of_cell? _ _ b0
    go_wp2_with fail
    refine (toBoard_any _ _ _ _).mono ?_
    rintro e w4 ⟨rfl, hx⟩
    replace b0 := hx.cell b0
    replace b1 := hx.cell b1
    replace b2 := hx.cell b2
    replace hE := hE.trans hx
    clear hx
    clear hlt_b0
    have hlt_b0 := World.block_lt_of_cell? _ _ b0
    go_wp2_with fail
    refine (HI.out _ (HM.out _ hE)).mono ?_
    rintro e w5 ⟨rfl, hx⟩
    replace b0 := hx.cell b0
    replace b1 := hx.cell b1
    replace b2 := hx.cell b2
    replace hE := hE.trans hx
    clear hx
    clear hlt_b0
    go_wp2_with fail
    go_returns
    exact ⟨rfl, hE⟩

set_option maxRecDepth 100000 in
theorem lifted_FnExactRoomBefore (os : Os) (started : os.Started) (H : Type) (enc : TypeId × Value → H) :
    ReturnsInHanded {} Tryd.checked os 5 .any (fun w args => (Rows.fnExactRoomBeforeSpec.pre enc Tryd.prog Tryd.f5 [] false w args ∧ laidMetH Tryd.prog Rows.fnExactRoomBeforeRow.laid w) ∧ sizedMet enc Tryd.prog Tryd.f5 (OpenSpec.ofChange Rows.fnExactRoomBeforeSpec) false w args)
      (Rows.fnExactRoomBeforeSpec.post enc Tryd.prog Tryd.f5 false true false false) := by
  refine handed_shaped_and (C := Tryd.checked) (X := fun w _ => laidMetH Tryd.prog Rows.fnExactRoomBeforeRow.laid w) (fun _ _ _ hh h => h.of_heap hh) ownRow started (by kernel_rfl) Tryd.func5
    (ChangeSpec.witness_shaped (enc := enc) (C := Tryd.checked) (os := os) (X := fun w _ => laidMetH Tryd.prog Rows.fnExactRoomBeforeRow.laid w) false (World.laidAll Tryd.prog os Rows.fnExactRoomBeforeRow.laid) #[.agg #[.int .i64 0, .string ⟨#[]⟩, .string ⟨#[]⟩], .int .i64 0, .int .i64 0] 8 (World.laidAll_os _ _ _)
      (World.shaped_of_ZipB (by kernel_rfl) (by kernel_rfl)) (by kernel_rfl) (by kernel_rfl) (by kernel_rfl)
      (by rw [MakeChecks.laidMetH_plain _ _ _ (by kernel_rfl)]; exact laidMet_laidAll _ (by kernel_rfl) (by kernel_rfl))) ?_
  intro W base args ds gs before hval0 hW hSh hL
  have hval : ∀ (j : Nat) t v, Tryd.f5.params[j]? = some t → args[j]? = some v → Value.okWide Tryd.prog W .any base t v := hval0
  have hW' := hW
  obtain ⟨p, q, hA0, hV, rfl, hfz, hnd⟩ := hW
  have hA : DataW.TrodAll enc Tryd.prog W 0 (fun _ => true) true Tryd.f5.params.toList args.toList ds p := hA0
  rw [Tryd.params5] at hA hval
  obtain ⟨v0, vs0, d0, ds0, p0, q0, hargs, rfl, rfl, h0, r0⟩ := trodAll_cons hA
  obtain ⟨v1, vs1, d1, ds1, p1, q1, rfl, rfl, rfl, h1, r1⟩ := trodAll_cons r0
  obtain ⟨v2, vs2, d2, ds2, p2, q2, rfl, rfl, rfl, h2, r2⟩ := trodAll_cons r1
  obtain ⟨rfl, rfl, rfl⟩ := trodAll_nil r2
  obtain rfl : args = #[v0, v1, v2] := by cases args; simp_all
  obtain ⟨rfl, rfl⟩ := trodVars_none hV
  have k0 := h0
  have lt0 : ∀ x ∈ p0, x.block < W.heap.size := by obtain ⟨m, hm⟩ := k0; exact DataW.trod_lt m _ _ _ hm
  have k1 := h1
  have lt1 : ∀ x ∈ p1, x.block < W.heap.size := by obtain ⟨m, hm⟩ := k1; exact DataW.trod_lt m _ _ _ hm
  have k2 := h2
  have lt2 : ∀ x ∈ p2, x.block < W.heap.size := by obtain ⟨m, hm⟩ := k2; exact DataW.trod_lt m _ _ _ hm
  obtain ⟨c0_0, c0_1, c0_2, y0_0, y0_1, y0_2, m0, rfl, rfl, rfl, hy0_0, hy0_1, hy0_2⟩ := Go.Joins.open_agg3 Tryd.underlying23 (by kernel_rfl) (by kernel_rfl) (hval 0 23 v0 rfl rfl) h0
  obtain ⟨a0_0, e_a0_0, _, w_a0_0⟩ := DataW.trod_int Tryd.underlying2 hy0_0
  simp only [List.cons.injEq, and_true] at e_a0_0
  subst e_a0_0
  obtain ⟨a0_1, e_a0_1, _, w_a0_1⟩ := DataW.trod_string Tryd.underlying9 hy0_1
  simp only [List.cons.injEq, and_true] at e_a0_1
  subst e_a0_1
  obtain ⟨a0_2, e_a0_2, _, w_a0_2⟩ := DataW.trod_string Tryd.underlying9 hy0_2
  simp only [List.cons.injEq, and_true] at e_a0_2
  subst e_a0_2
  obtain ⟨a1, rfl, rfl, rfl, w_a1⟩ := open_int Tryd.underlying2 (hval 1 2 v1 rfl rfl) h1
  obtain ⟨a2, rfl, rfl, rfl, w_a2⟩ := open_int Tryd.underlying2 (hval 2 2 v2 rfl rfl) h2
  clear hA0 hval0
  refine (walk_FnExactRoomBefore a0_0 a0_1 a0_2 a1 a2 W w_a0_0 w_a0_1 w_a0_2 w_a1 w_a2 (maxAt_of hSh)).mono fun e W' ⟨he, bel⟩ => ?_
  subst he
  exact ⟨_, rfl, _, _, _, [], _, [], hW', trodAll_mk1 (shut_bool Tryd.underlying4 _), (trodAll_cons_mk (Below.trod laidRow (by kernel_rfl) (of_decide_eq_true (by kernel_rfl)) k0 bel lt0) (trodAll_cons_mk (Below.trod laidRow (by kernel_rfl) (of_decide_eq_true (by kernel_rfl)) k1 bel lt1) (trodAll_cons_mk (Below.trod laidRow (by kernel_rfl) (of_decide_eq_true (by kernel_rfl)) k2 bel lt2) trodAll_mk0))), rfl, bel.frame _, fun h => by cases h⟩

theorem over_FnExactRoomBefore : Rows.fnExactRoomBeforeRow.holds Tryd.pinned (OpenSpec.ofChange Rows.fnExactRoomBeforeSpec) :=
  OpenClaim.holds_of_wide 5 Tryd.f5 rfl rfl rfl rfl rfl rfl rfl ⟨rfl, rfl, rfl, rfl, rfl⟩ rfl rfl rfl rfl rfl (by kernel_rfl) Tryd.func5 (by kernel_rfl)
    (of_decide_eq_true (by kernel_rfl)) (by unfold Func.isWrapper; first | (rw [if_pos (by decide +kernel)]; kernel_rfl) | (rw [if_neg (by decide +kernel)]; exact ⟨rfl, rfl⟩))
    (fun os started H enc _ => lifted_FnExactRoomBefore os started H enc)

theorem said_FnExactRoomBefore : Rows.FnExactRoomBeforeCardSaid :=
  Claim7.holds_tied_plain_at .later [] [.data, .pinned] true (true, "95db9f2ecdf80bc64a3a3e74f25c16b8e1fe7e0b38ac20b52d89fb3bf56a5e3c") false over_FnExactRoomBefore (fun _ h => by cases h) (by kernel_rfl) (fun _ h => by cases h) fnExactRoomBefore_row_tie rfl ⟨rfl, rfl⟩ (by kernel_rfl) rfl
    (fun f fn hf hfn => by
      obtain rfl : f = 5 := Option.some.inj ((show Tryd.prog.funcNamed "loop.example/g00911/laws.FnExactRoomBefore" = some 5 by kernel_rfl).symm.trans hf) |>.symm
      obtain rfl : fn = Tryd.f5 := (Option.some.inj (Tryd.func5.symm.trans hfn)).symm
      exact ⟨by kernel_rfl, fun j t ht => by
        rw [Tryd.params5] at ht
        have hm : t ∈ [23, 2, 2] := by simpa using Array.mem_of_getElem? ht
        have hall : ([23, 2, 2].all fun u => !Tryd.prog.wantsStandIn u) = true := by kernel_rfl
        exact (show Tryd.prog.wantsStandIn t = false by simpa using List.all_eq_true.1 hall t hm)⟩)
    (by kernel_rfl)
end Go.Proofs.YtlolacjlconjkaaDoor
