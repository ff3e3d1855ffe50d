import Derived.Test.YtmohfdfjlgekaaaDoorCh11v
import Derived.Test.YtmohfdfjlgekaaaDoorMark
import Derived.Test.YtmohfdfjlgekaaaDoorLwE
import Derived.Test.YtmohfdfjlgekaaaDoorRowS
namespace Go.Proofs.YtmohfdfjlgekaaaDoor
set_option linter.unusedVariables false
set_option linter.unusedSimpArgs false
open Go Go.RowKit Go.ChangeShapes Go.WideShapes Go.ChangeAt
open Go.ChangeMaps (open_string shut_string)

set_option maxHeartbeats 2000000 in
theorem walk_FnExactWordsOn (n : Int) (p c : ByteArray) (w : World) (hn : (Lit.int .i64 n).wf = true) (hp : p.size ≤ maxLen) (hc : c.size ≤ maxLen) (hM : MaxAt w) :
    Calls Tryd.prog 3 #[boardV n p c] w (Ret (.bool true) w) := by
  have HM : Hid (∀ w', Ext w w' → MaxAt w') := hid (fun w' k => hM.ext k)
  clear hM
  go_enter Tryd.func3, Tryd.ntmps3
  go_wp2_with fail
  refine (szBoard_any n p c _ _ hp hc (by omega) (by omega)).mono ?_
  rintro e w1 ⟨rfl, hx⟩
  have hE := ((Ext.refl w).alloc _).trans hx
  have b0 := hx.cell (b := w.heap.size) (o := 0) (v := .int .i64 n) (by simp)
  have b1 := hx.cell (b := w.heap.size) (o := 1) (v := .string p) (by simp)
  have b2 := hx.cell (b := w.heap.size) (o := 2) (v := .string c) (by simp)
  clear hx
  by_cases hs : szB 1048576 p c < 0
  · go_wp2_with fail
    go_returns
    exact ⟨rfl, hE⟩
  · obtain ⟨q1, q2, q3, q4⟩ := szB_neg hs (by omega)
    have hbz : w.heap.size < w1.heap.size := World.block_lt_of_cell? _ _ b0
    obtain ⟨V, hV⟩ : ∃ V, wonL n p c = V := ⟨_, rfl⟩
    obtain ⟨K, hK⟩ : ∃ K, wonC n p c = K := ⟨_, rfl⟩
    have HB : Hid (V.length ≤ 1048576) := hid (by rw [← hV]; exact Nat.le_trans (wonL_le n p c) (by omega))
    have HS := hid (fun w' => sWordsOn_any n p c w' q1 q2)
    have HI := hid (fun w' (h : MaxAt w') => WordsOn_any n p c w' q1 q2 h)
    rw [hV, hK] at HS HI
    clear hV hK
    go_wp2_with fail
    refine (toBoard_any _ _ _ _).mono ?_
    rintro e z1 ⟨rfl, hx⟩
    replace b0 := hx.cell b0
    replace b1 := hx.cell b1
    replace b2 := hx.cell b2
    replace hE := hE.trans hx
    clear hx
    go_wp2_with fail
    refine (HS.out _).mono ?_
    rintro e w3 ⟨a2, c2, rfl, ho2, hx⟩
    replace b0 := hx.cell b0
    replace b1 := hx.cell b1
    replace b2 := hx.cell b2
    replace hE := hE.trans hx
    have hz2 := hx.size
    have I2 := hid ho2.inR
    clear hx ho2
    go_wp2_with fail
    refine (toBoard_any _ _ _ _).mono ?_
    rintro e w4 ⟨rfl, hx⟩
    replace b0 := hx.cell b0
    replace b1 := hx.cell b1
    replace b2 := hx.cell b2
    have hz3 := hx.size
    replace hE := hE.trans hx
    replace I2 := hid (I2.out.ext hx)
    clear hx
    have hlt3 := World.block_lt_of_cell? _ _ b0
    go_wp2_with fail
    refine (HI.out _ (HM.out _ hE)).mono ?_
    rintro e w5 ⟨a4, c4, rfl, ho4, hx⟩
    replace b0 := hx.cell b0
    replace b1 := hx.cell b1
    replace b2 := hx.cell b2
    have hz4 := hx.size
    have I4 := hid ho4.inR
    replace hE := hE.trans hx
    replace I2 := hid (I2.out.ext hx)
    clear hx ho4
    go_wp2_with fail
    refine (eqStringS_self a4 a2 c4 c2 V _ I4.out.rd I2.out.rd HB.out).mono ?_
    rintro e w6 ⟨rfl, hD⟩
    replace hx := hD.ext
    replace b0 := hx.cell b0
    replace b1 := hx.cell b1
    replace b2 := hx.cell b2
    replace hE := hE.trans hx
    have hz5 := hx.size
    replace I2 := hid (I2.out.ext hx)
    replace I4 := hid (I4.out.ext hx)
    clear hx hD
    go_wp2_with fail
    refine (markS_any _ _ a4 c4 V 1 _ I4.out HB.out (by omega) (by omega)).mono ?_
    rintro e w10 ⟨rfl, hr4, hx⟩
    replace b0 := hx.cell b0 (by omega)
    replace b1 := hx.cell b1 (by omega)
    replace b2 := hx.cell b2 (by omega)
    replace hE := hx.ext0 hE (by omega)
    have hz9 := hx.size
    replace I2 := hid (hx.inR I2.out (by omega))
    replace I4 := hid hr4
    clear hx hr4
    have hq : ((1 + V.length : Nat) : Int) = 1 + (V.length : Int) := by omega
    go_wp2_with fail
    refine (heldStringS_any a4 c4 V.length 1 _ I4.out.rd HB.out (by omega) (by omega)).mono ?_
    rintro e z2 ⟨rfl, hx⟩
    replace b0 := hx.cell b0
    replace b1 := hx.cell b1
    replace b2 := hx.cell b2
    replace I2 := hid (I2.out.ext hx)
    replace I4 := hid (I4.out.ext hx)
    replace hE := hE.trans hx
    clear hx
    go_wp2_with fail
    refine (toBoard_any _ _ _ _).mono ?_
    rintro e z3 ⟨rfl, hx⟩
    replace b0 := hx.cell b0
    replace b1 := hx.cell b1
    replace b2 := hx.cell b2
    replace I2 := hid (I2.out.ext hx)
    replace I4 := hid (I4.out.ext hx)
    replace hE := hE.trans hx
    clear hx
    go_wp2_with fail
    refine (HI.out _ (HM.out _ hE)).mono ?_
    rintro e w13 ⟨a7, c7, rfl, ho7, hx⟩
    replace hE := hE.trans hx
    replace I2 := hid (I2.out.ext hx)
    replace I4 := hid (I4.out.ext hx)
    have R7 := hid ho7.rd
    clear hx ho7 b0 b1 b2
    go_wp2_with fail
    refine (eqStringS_self a7 a2 c7 c2 V _ R7.out I2.out.rd HB.out).mono ?_
    rintro e w14 ⟨rfl, hD⟩
    replace hx := hD.ext
    replace hE := hE.trans hx
    replace I4 := hid (I4.out.ext hx)
    clear hx hD
    go_wp2_with fail
    refine (heldStringS_any a4 c4 V.length 1 _ I4.out.rd HB.out (by omega) (by omega)).mono ?_
    rintro e w15 ⟨rfl, hx⟩
    replace hE := hE.trans hx
    clear hx
    go_wp2_with fail
    go_returns
    exact ⟨rfl, hE⟩

set_option maxRecDepth 100000 in
theorem lifted_FnExactWordsOn (os : Os) (started : os.Started) (H : Type) (enc : TypeId × Value → H) :
    ReturnsInHanded {} Tryd.checked os 3 .any (fun w args => (Rows.fnExactWordsOnSpec.pre enc Tryd.prog Tryd.f3 [] false w args ∧ laidMetH Tryd.prog Rows.fnExactWordsOnRow.laid w) ∧ sizedMet enc Tryd.prog Tryd.f3 (OpenSpec.ofChange Rows.fnExactWordsOnSpec) false w args)
      (Rows.fnExactWordsOnSpec.post enc Tryd.prog Tryd.f3 false true false false) := by
  refine handed_shaped_and (C := Tryd.checked) (X := fun w _ => laidMetH Tryd.prog Rows.fnExactWordsOnRow.laid w) (fun _ _ _ hh h => h.of_heap hh) ownRow started (by kernel_rfl) Tryd.func3
    (ChangeSpec.witness_shaped (enc := enc) (C := Tryd.checked) (os := os) (X := fun w _ => laidMetH Tryd.prog Rows.fnExactWordsOnRow.laid w) false (World.laidAll Tryd.prog os Rows.fnExactWordsOnRow.laid) #[.agg #[.int .i64 0, .string ⟨#[]⟩, .string ⟨#[]⟩]] 8 (World.laidAll_os _ _ _)
      (World.shaped_of_ZipB (by kernel_rfl) (by kernel_rfl)) (by kernel_rfl) (by kernel_rfl) (by kernel_rfl)
      (by rw [MakeChecks.laidMetH_plain _ _ _ (by kernel_rfl)]; exact laidMet_laidAll _ (by kernel_rfl) (by kernel_rfl))) ?_
  intro W base args ds gs before hval0 hW hSh hL
  have hval : ∀ (j : Nat) t v, Tryd.f3.params[j]? = some t → args[j]? = some v → Value.okWide Tryd.prog W .any base t v := hval0
  have hW' := hW
  obtain ⟨p, q, hA0, hV, rfl, hfz, hnd⟩ := hW
  have hA : DataW.TrodAll enc Tryd.prog W 0 (fun _ => true) true Tryd.f3.params.toList args.toList ds p := hA0
  rw [Tryd.params3] at hA hval
  obtain ⟨v0, vs0, d0, ds0, p0, q0, hargs, rfl, rfl, h0, r0⟩ := trodAll_cons hA
  obtain ⟨rfl, rfl, rfl⟩ := trodAll_nil r0
  obtain rfl : args = #[v0] := by cases args; simp_all
  obtain ⟨rfl, rfl⟩ := trodVars_none hV
  have k0 := h0
  have lt0 : ∀ x ∈ p0, x.block < W.heap.size := by obtain ⟨m, hm⟩ := k0; exact DataW.trod_lt m _ _ _ hm
  obtain ⟨c0_0, c0_1, c0_2, y0_0, y0_1, y0_2, m0, rfl, rfl, rfl, hy0_0, hy0_1, hy0_2⟩ := Go.Joins.open_agg3 Tryd.underlying23 (by kernel_rfl) (by kernel_rfl) (hval 0 23 v0 rfl rfl) h0
  obtain ⟨a0_0, e_a0_0, _, w_a0_0⟩ := DataW.trod_int Tryd.underlying2 hy0_0
  simp only [List.cons.injEq, and_true] at e_a0_0
  subst e_a0_0
  obtain ⟨a0_1, e_a0_1, _, w_a0_1⟩ := DataW.trod_string Tryd.underlying9 hy0_1
  simp only [List.cons.injEq, and_true] at e_a0_1
  subst e_a0_1
  obtain ⟨a0_2, e_a0_2, _, w_a0_2⟩ := DataW.trod_string Tryd.underlying9 hy0_2
  simp only [List.cons.injEq, and_true] at e_a0_2
  subst e_a0_2
  clear hA0 hval0
  refine (walk_FnExactWordsOn a0_0 a0_1 a0_2 W w_a0_0 w_a0_1 w_a0_2 (maxAt_of hSh)).mono fun e W' ⟨he, bel⟩ => ?_
  subst he
  exact ⟨_, rfl, _, _, _, [], _, [], hW', trodAll_mk1 (shut_bool Tryd.underlying4 _), (trodAll_cons_mk (Below.trod laidRow (by kernel_rfl) (of_decide_eq_true (by kernel_rfl)) k0 bel lt0) trodAll_mk0), rfl, bel.frame _, fun h => by cases h⟩

theorem over_FnExactWordsOn : Rows.fnExactWordsOnRow.holds Tryd.pinned (OpenSpec.ofChange Rows.fnExactWordsOnSpec) :=
  OpenClaim.holds_of_wide 3 Tryd.f3 rfl rfl rfl rfl rfl rfl rfl ⟨rfl, rfl, rfl, rfl, rfl⟩ rfl rfl rfl rfl rfl (by kernel_rfl) Tryd.func3 (by kernel_rfl)
    (of_decide_eq_true (by kernel_rfl)) (by unfold Func.isWrapper; first | (rw [if_pos (by decide +kernel)]; kernel_rfl) | (rw [if_neg (by decide +kernel)]; exact ⟨rfl, rfl⟩))
    (fun os started H enc _ => lifted_FnExactWordsOn os started H enc)

theorem said_FnExactWordsOn : Rows.FnExactWordsOnCardSaid :=
  Claim7.holds_tied_plain_at .later [] [.data, .pinned, .pinned] true (true, "5de6082f339b9abebf3b08155ba0a1c94d8d67a0783375df1619e3725e5d14d6") false over_FnExactWordsOn (fun _ h => by cases h) (by kernel_rfl) (fun _ h => by cases h) fnExactWordsOn_row_tie rfl ⟨rfl, rfl⟩ (by kernel_rfl) rfl
    (fun f fn hf hfn => by
      obtain rfl : f = 3 := Option.some.inj ((show Tryd.prog.funcNamed "loop.example/g00911/laws.FnExactWordsOn" = some 3 by kernel_rfl).symm.trans hf) |>.symm
      obtain rfl : fn = Tryd.f3 := (Option.some.inj (Tryd.func3.symm.trans hfn)).symm
      exact ⟨by kernel_rfl, fun j t ht => by
        rw [Tryd.params3] at ht
        have hm : t ∈ [23] := by simpa using Array.mem_of_getElem? ht
        have hall : ([23].all fun u => !Tryd.prog.wantsStandIn u) = true := by kernel_rfl
        exact (show Tryd.prog.wantsStandIn t = false by simpa using List.all_eq_true.1 hall t hm)⟩)
    (by kernel_rfl)
end Go.Proofs.YtmohfdfjlgekaaaDoor
