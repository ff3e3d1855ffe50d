import Derived.Test.YtlolacjlconjkaaDoorCh14d
import Derived.Test.YtlolacjlconjkaaDoorLwE
import Derived.Test.YtlolacjlconjkaaDoorRowS
namespace Go.Proofs.YtlolacjlconjkaaDoor
set_option linter.unusedVariables false
set_option linter.unusedSimpArgs false
open Go Go.RowKit Go.ChangeShapes Go.WideShapes Go.ChangeAt
open Go.ChangeMaps (open_string shut_string)

theorem ancL_le (n : Int) (p c : ByteArray) : (ancL n p c).length ≤ 1048576 := by
  unfold ancL
  split
  · rename_i h
    obtain ⟨h1, h2, _, _⟩ := okB_true h
    have := ancTo_le n c n.toNat
    have h3 : n.toNat * n.toNat ≤ 15 * 15 := Nat.mul_le_mul (by omega) (by omega)
    omega
  · simp
set_option maxHeartbeats 4000000 in
theorem walk_FnExactAnchorsOf (n : Int) (p c : ByteArray) (w : World) (hn : (Lit.int .i64 n).wf = true) (hp : p.size ≤ maxLen) (hc : c.size ≤ maxLen) (hM : MaxAt w) :
    Calls Tryd.prog 8 #[boardV n p c] w (Ret (.bool true) w) := by
  have HM : Hid (∀ w', Ext w w' → MaxAt w') := hid (fun w' k => hM.ext k)
  have HB := hid (ancL_le n p c)
  have HLN := hid (prsV_length (ancL n p c))
  obtain ⟨L, hL⟩ : ∃ L, ancL n p c = L := ⟨_, rfl⟩
  obtain ⟨Y, hY⟩ : ∃ Y, ancE n p c = Y := ⟨_, rfl⟩
  have HLL := hid hL
  have HYY := hid hY
  rw [hL] at HB HLN
  clear hM hL hY
  have hLb : L.length ≤ 1048576 := HB.out
  go_enter Tryd.func8, Tryd.ntmps8
  go_wp2_with fail
  refine (szBoard_any n p c _ _ hp hc (by omega) (by omega)).mono ?_
  rintro e w1 ⟨rfl, hx⟩
  have hE := ((Ext.refl w).alloc _).trans hx
  have b0 := hx.cell (b := w.heap.size) (o := 0) (v := .int .i64 n) (by simp)
  have b1 := hx.cell (b := w.heap.size) (o := 1) (v := .string p) (by simp)
  have b2 := hx.cell (b := w.heap.size) (o := 2) (v := .string c) (by simp)
  clear hx
  by_cases hs : szB 1048576 p c < 0
  · go_wp2_with fail
    go_returns
    exact ⟨rfl, hE⟩
  · obtain ⟨q1, q2, q3, q4⟩ := szB_neg hs (by omega)
    have HS := hid (fun w' => sAnchorsOf_any n p c w' q1 q2)
    have HI := hid (fun w' (h : MaxAt w') => AnchorsOf_any n p c w' q1 q2 h)
    rw [HLL.out, HYY.out] at HS HI
    have hlb : w.heap.size < w1.heap.size := World.block_lt_of_cell? _ _ b0
    have hlt_b0 := World.block_lt_of_cell? _ _ b0
    go_wp2_with fail
    refine (toBoard_any _ _ _ _).mono ?_
    rintro e w2 ⟨rfl, hx⟩
    replace b0 := hx.cell b0
    replace b1 := hx.cell b1
    replace b2 := hx.cell b2
    replace hE := hE.trans hx
    clear hx
    clear hlt_b0
    have hs2 := hE.size
    obtain ⟨z2, hz2⟩ : ∃ z, w2.heap.size = z := ⟨_, rfl⟩
    go_wp2_with fail
    refine (HS.out _).mono ?_
    rintro e w3 ⟨a2, c2, rfl, ho, hx⟩
    have I2 := hid ho.inR
    rw [hz2] at I2 hs2
    obtain ⟨z3, hz3⟩ : ∃ z, w3.heap.size = z := ⟨_, rfl⟩
    rw [hz3] at I2
    replace b0 := hx.cell b0
    replace b1 := hx.cell b1
    replace b2 := hx.cell b2
    replace hE := hE.trans hx
    clear ho hx hz2
    go_wp2_with fail
    refine (toBoard_any n p c _).mono ?_
    rintro e w4 ⟨rfl, hx⟩
    have h34 := hx.size
    rw [hz3] at h34
    replace I2 := hid (I2.out.ext hx)
    replace b0 := hx.cell b0
    replace b1 := hx.cell b1
    replace b2 := hx.cell b2
    replace hE := hE.trans hx
    clear hx hz3
    obtain ⟨z4, hz4⟩ : ∃ z, w4.heap.size = z := ⟨_, rfl⟩
    rw [hz4] at h34
    go_wp2_with fail
    refine (HI.out _ (HM.out _ hE)).mono ?_
    rintro e w5 ⟨a4, c4, rfl, ho, hx⟩
    have I4 := hid ho.inR
    rw [hz4] at I4
    obtain ⟨z5, hz5⟩ : ∃ z, w5.heap.size = z := ⟨_, rfl⟩
    rw [hz5] at I4
    replace I2 := hid (I2.out.ext hx)
    have hs4 := hE.size
    rw [hz4] at hs4
    have hlb4 := World.block_lt_of_cell? _ _ b0
    simp only [hz4] at hlb4
    replace b0 := hx.cell b0
    replace b1 := hx.cell b1
    replace b2 := hx.cell b2
    replace hE := hE.trans hx
    clear ho hx hz4
    go_wp2_with fail
    refine (eqSquareS_prs a4 a2 c4 c2 L _ I4.out.rd I2.out.rd HB.out).mono ?_
    rintro e w6 ⟨rfl, hx⟩
    replace hE := hE.trans hx
    replace b0 := hx.cell b0
    replace b1 := hx.cell b1
    replace b2 := hx.cell b2
    replace I2 := hid (I2.out.ext hx)
    replace I4 := hid (I4.out.ext hx)
    clear hx hz5
    go_wp2_with fail
    refine (markSquareS_any z4 z5 a4 c4 L.length _ 1 _ I4.out HLN.out HB.out (by omega) (by omega)).mono ?_
    rintro e w7 ⟨rfl, hI4, hx⟩
    replace hE := hx.ext0 hE (by omega)
    replace b0 := hx.cell b0 (by omega)
    replace b1 := hx.cell b1 (by omega)
    replace b2 := hx.cell b2 (by omega)
    replace I2 := hid (hx.inR I2.out (by omega))
    replace I4 := hid hI4
    clear hx hI4
    have hq : ((1 + L.length * 2 : Nat) : Int) = 1 + (L.length : Int) * 2 := by omega
    go_wp2_with fail
    refine (heldSquareS_any a4 c4 L.length 1 _ I4.out.rd HB.out (by omega) (by omega)).mono ?_
    rintro e w8 ⟨rfl, hx⟩
    replace hE := hE.trans hx
    replace b0 := hx.cell b0
    replace b1 := hx.cell b1
    replace b2 := hx.cell b2
    replace I2 := hid (I2.out.ext hx)
    replace I4 := hid (I4.out.ext hx)
    clear hx
    go_wp2_with fail
    refine (toBoard_any n p c _).mono ?_
    rintro e w9 ⟨rfl, hx⟩
    replace hE := hE.trans hx
    replace I2 := hid (I2.out.ext hx)
    replace I4 := hid (I4.out.ext hx)
    clear hx b0 b1 b2
    go_wp2_with fail
    refine (HI.out _ (HM.out _ hE)).mono ?_
    rintro e w10 ⟨a7, c7, rfl, ho, hx⟩
    have I7 := hid ho.inR
    replace hE := hE.trans hx
    replace I2 := hid (I2.out.ext hx)
    replace I4 := hid (I4.out.ext hx)
    clear ho hx
    go_wp2_with fail
    refine (eqSquareS_prs a7 a2 c7 c2 L _ I7.out.rd I2.out.rd HB.out).mono ?_
    rintro e w11 ⟨rfl, hx⟩
    replace hE := hE.trans hx
    replace I4 := hid (I4.out.ext hx)
    clear hx
    go_wp2_with fail
    refine (heldSquareS_any a4 c4 L.length 1 _ I4.out.rd HB.out (by omega) (by omega)).mono ?_
    rintro e w12 ⟨rfl, hx⟩
    replace hE := hE.trans hx
    go_wp2_with fail
    go_returns
    exact ⟨rfl, hE⟩

set_option maxRecDepth 100000 in
theorem lifted_FnExactAnchorsOf (os : Os) (started : os.Started) (H : Type) (enc : TypeId × Value → H) :
    ReturnsInHanded {} Tryd.checked os 8 .any (fun w args => (Rows.fnExactAnchorsOfSpec.pre enc Tryd.prog Tryd.f8 [] false w args ∧ laidMetH Tryd.prog Rows.fnExactAnchorsOfRow.laid w) ∧ sizedMet enc Tryd.prog Tryd.f8 (OpenSpec.ofChange Rows.fnExactAnchorsOfSpec) false w args)
      (Rows.fnExactAnchorsOfSpec.post enc Tryd.prog Tryd.f8 false true false false) := by
  refine handed_shaped_and (C := Tryd.checked) (X := fun w _ => laidMetH Tryd.prog Rows.fnExactAnchorsOfRow.laid w) (fun _ _ _ hh h => h.of_heap hh) ownRow started (by kernel_rfl) Tryd.func8
    (ChangeSpec.witness_shaped (enc := enc) (C := Tryd.checked) (os := os) (X := fun w _ => laidMetH Tryd.prog Rows.fnExactAnchorsOfRow.laid w) false (World.laidAll Tryd.prog os Rows.fnExactAnchorsOfRow.laid) #[.agg #[.int .i64 0, .string ⟨#[]⟩, .string ⟨#[]⟩]] 8 (World.laidAll_os _ _ _)
      (World.shaped_of_ZipB (by kernel_rfl) (by kernel_rfl)) (by kernel_rfl) (by kernel_rfl) (by kernel_rfl)
      (by rw [MakeChecks.laidMetH_plain _ _ _ (by kernel_rfl)]; exact laidMet_laidAll _ (by kernel_rfl) (by kernel_rfl))) ?_
  intro W base args ds gs before hval0 hW hSh hL
  have hval : ∀ (j : Nat) t v, Tryd.f8.params[j]? = some t → args[j]? = some v → Value.okWide Tryd.prog W .any base t v := hval0
  have hW' := hW
  obtain ⟨p, q, hA0, hV, rfl, hfz, hnd⟩ := hW
  have hA : DataW.TrodAll enc Tryd.prog W 0 (fun _ => true) true Tryd.f8.params.toList args.toList ds p := hA0
  rw [Tryd.params8] at hA hval
  obtain ⟨v0, vs0, d0, ds0, p0, q0, hargs, rfl, rfl, h0, r0⟩ := trodAll_cons hA
  obtain ⟨rfl, rfl, rfl⟩ := trodAll_nil r0
  obtain rfl : args = #[v0] := by cases args; simp_all
  obtain ⟨rfl, rfl⟩ := trodVars_none hV
  have k0 := h0
  have lt0 : ∀ x ∈ p0, x.block < W.heap.size := by obtain ⟨m, hm⟩ := k0; exact DataW.trod_lt m _ _ _ hm
  obtain ⟨c0_0, c0_1, c0_2, y0_0, y0_1, y0_2, m0, rfl, rfl, rfl, hy0_0, hy0_1, hy0_2⟩ := Go.Joins.open_agg3 Tryd.underlying23 (by kernel_rfl) (by kernel_rfl) (hval 0 23 v0 rfl rfl) h0
  obtain ⟨a0_0, e_a0_0, _, w_a0_0⟩ := DataW.trod_int Tryd.underlying2 hy0_0
  simp only [List.cons.injEq, and_true] at e_a0_0
  subst e_a0_0
  obtain ⟨a0_1, e_a0_1, _, w_a0_1⟩ := DataW.trod_string Tryd.underlying9 hy0_1
  simp only [List.cons.injEq, and_true] at e_a0_1
  subst e_a0_1
  obtain ⟨a0_2, e_a0_2, _, w_a0_2⟩ := DataW.trod_string Tryd.underlying9 hy0_2
  simp only [List.cons.injEq, and_true] at e_a0_2
  subst e_a0_2
  clear hA0 hval0
  refine (walk_FnExactAnchorsOf a0_0 a0_1 a0_2 W w_a0_0 w_a0_1 w_a0_2 (maxAt_of hSh)).mono fun e W' ⟨he, bel⟩ => ?_
  subst he
  exact ⟨_, rfl, _, _, _, [], _, [], hW', trodAll_mk1 (shut_bool Tryd.underlying4 _), (trodAll_cons_mk (Below.trod laidRow (by kernel_rfl) (of_decide_eq_true (by kernel_rfl)) k0 bel lt0) trodAll_mk0), rfl, bel.frame _, fun h => by cases h⟩

theorem over_FnExactAnchorsOf : Rows.fnExactAnchorsOfRow.holds Tryd.pinned (OpenSpec.ofChange Rows.fnExactAnchorsOfSpec) :=
  OpenClaim.holds_of_wide 8 Tryd.f8 rfl rfl rfl rfl rfl rfl rfl ⟨rfl, rfl, rfl, rfl, rfl⟩ rfl rfl rfl rfl rfl (by kernel_rfl) Tryd.func8 (by kernel_rfl)
    (of_decide_eq_true (by kernel_rfl)) (by unfold Func.isWrapper; first | (rw [if_pos (by decide +kernel)]; kernel_rfl) | (rw [if_neg (by decide +kernel)]; exact ⟨rfl, rfl⟩))
    (fun os started H enc _ => lifted_FnExactAnchorsOf os started H enc)

theorem said_FnExactAnchorsOf : Rows.FnExactAnchorsOfCardSaid :=
  Claim7.holds_tied_plain_at .later [] [.data, .pinned] true (true, "95db9f2ecdf80bc64a3a3e74f25c16b8e1fe7e0b38ac20b52d89fb3bf56a5e3c") false over_FnExactAnchorsOf (fun _ h => by cases h) (by kernel_rfl) (fun _ h => by cases h) fnExactAnchorsOf_row_tie rfl ⟨rfl, rfl⟩ (by kernel_rfl) rfl
    (fun f fn hf hfn => by
      obtain rfl : f = 8 := Option.some.inj ((show Tryd.prog.funcNamed "loop.example/g00911/laws.FnExactAnchorsOf" = some 8 by kernel_rfl).symm.trans hf) |>.symm
      obtain rfl : fn = Tryd.f8 := (Option.some.inj (Tryd.func8.symm.trans hfn)).symm
      exact ⟨by kernel_rfl, fun j t ht => by
        rw [Tryd.params8] at ht
        have hm : t ∈ [23] := by simpa using Array.mem_of_getElem? ht
        have hall : ([23].all fun u => !Tryd.prog.wantsStandIn u) = true := by kernel_rfl
        exact (show Tryd.prog.wantsStandIn t = false by simpa using List.all_eq_true.1 hall t hm)⟩)
    (by kernel_rfl)
end Go.Proofs.YtlolacjlconjkaaDoor
