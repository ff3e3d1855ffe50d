/- FnExactPlayText: whatever it is given, it says yes. -/
import Derived.Test.YtdecakimhjieeaaDoorCh12s
import Derived.Test.YtdecakimhjieeaaDoorLwE
import Derived.Test.YtdecakimhjieeaaDoorRowT
namespace Go.Proofs.YtdecakimhjieeaaDoor
set_option linter.unusedVariables false
set_option linter.unusedSimpArgs false
open Go Go.RowKit Go.ChangeShapes Go.WideShapes Go.ChangeAt Go.Lib
open Go.ChangeMaps (open_string shut_string)

theorem walk_FnExactPlayText (r c : Int) (d : Bool) (s : ByteArray) (w : World) (hr : (Lit.int .i64 r).wf = true) (hc : (Lit.int .i64 c).wf = true) (hs : s.size ≤ maxLen) (hT : Tabs w) :
    Calls Tryd.prog 5 #[playV r c d s] w (Ret (.bool true) w) := by
  have HT := hid (fun w' (x : Ext w w') => hT.ext x)
  obtain ⟨x, hV⟩ : ∃ x, playT r c d s = x := ⟨_, rfl⟩
  have HV := hid hV
  clear hV hT
  go_enter Tryd.func5, Tryd.ntmps5
  go_wp2_with fail
  refine (szPlay_any r c d s _ _ hs (by omega) (by omega)).mono ?_
  rintro e w1 ⟨rfl, hx⟩
  have hE := ((Ext.refl w).alloc _).trans hx
  have b0 := hx.cell (b := w.heap.size) (o := 0) (v := .int .i64 r) (by simp)
  have b1 := hx.cell (b := w.heap.size) (o := 1) (v := .int .i64 c) (by simp)
  have b2 := hx.cell (b := w.heap.size) (o := 2) (v := .bool d) (by simp)
  have b3 := hx.cell (b := w.heap.size) (o := 3) (v := .string s) (by simp)
  clear hx
  by_cases hz : szP 1048576 s < 0
  · go_wp2_with fail
    go_returns
    exact ⟨rfl, hE⟩
  · obtain ⟨q1, q2, q3⟩ := szP_neg hz (by omega)
    have HS := hid (fun w' => sPlayText_any r c d s w' q1)
    have HI := hid (fun w' h => PlayText_any r c d s w' q1 h)
    rw [HV.out] at HS HI
    clear HV
    have hlt_b0 := World.block_lt_of_cell? _ _ b0
    go_wp2_with fail
    refine (toPlay_any _ _ _ _ _).mono ?_
    rintro e w2 ⟨rfl, hx⟩
    replace b0 := hx.cell b0
    replace b1 := hx.cell b1
    replace b2 := hx.cell b2
    replace b3 := hx.cell b3
    replace hE := hE.trans hx
    clear hx
    clear hlt_b0
    have hlt_b0 := World.block_lt_of_cell? _ _ b0
    go_wp2_with fail
    refine (HS.out _).mono ?_
    rintro e w3 ⟨rfl, hx⟩
    replace b0 := hx.cell b0
    replace b1 := hx.cell b1
    replace b2 := hx.cell b2
    replace b3 := hx.cell b3
    replace hE := hE.trans hx
    clear hx
    clear hlt_b0
    have hlt_b0 := World.block_lt_of_cell? _ _ b0
    go_wp2_with fail
    refine (toPlay_any _ _ _ _ _).mono ?_
    rintro e w4 ⟨rfl, hx⟩
    replace b0 := hx.cell b0
    replace b1 := hx.cell b1
    replace b2 := hx.cell b2
    replace b3 := hx.cell b3
    replace hE := hE.trans hx
    clear hx
    clear hlt_b0
    have hlt_b0 := World.block_lt_of_cell? _ _ b0
    go_wp2_with fail
    refine (HI.out _ (HT.out _ hE)).mono ?_
    rintro e w5 ⟨rfl, hx⟩
    replace b0 := hx.cell b0
    replace b1 := hx.cell b1
    replace b2 := hx.cell b2
    replace b3 := hx.cell b3
    replace hE := hE.trans hx
    clear hx
    clear hlt_b0
    go_wp2_with fail
    go_returns
    exact ⟨rfl, hE⟩

set_option maxRecDepth 100000 in
theorem lifted_FnExactPlayText (os : Os) (started : os.Started) (H : Type) (enc : TypeId × Value → H) :
    ReturnsInHanded {} Tryd.checked os 5 .any (fun w args => (Rows.fnExactPlayTextSpec.pre enc Tryd.prog Tryd.f5 [] false w args ∧ laidMetH Tryd.prog Rows.fnExactPlayTextRow.laid w) ∧ sizedMet enc Tryd.prog Tryd.f5 (OpenSpec.ofChange Rows.fnExactPlayTextSpec) false w args)
      (Rows.fnExactPlayTextSpec.post enc Tryd.prog Tryd.f5 false true false false) := by
  refine returnsInHanded_of_change_and (C := Tryd.checked) (X := fun w _ => laidMetH Tryd.prog Rows.fnExactPlayTextRow.laid w) (fun _ _ _ hh h => h.of_heap hh) ownRow started (by kernel_rfl) Tryd.func5
    (ChangeSpec.witness_shaped (enc := enc) (C := Tryd.checked) (os := os) (X := fun w _ => laidMetH Tryd.prog Rows.fnExactPlayTextRow.laid w) false (World.laidAll Tryd.prog os Rows.fnExactPlayTextRow.laid) #[.agg #[.int .i64 0, .int .i64 0, .bool false, .string ⟨#[]⟩]] 8 (World.laidAll_os _ _ _)
      (World.shaped_of_ZipB (by kernel_rfl) (by kernel_rfl)) (by kernel_rfl) (by kernel_rfl) (by kernel_rfl)
      (by rw [MakeChecks.laidMetH_plain _ _ _ (by kernel_rfl)]; exact laidMet_laidAll _ (by kernel_rfl) (by kernel_rfl))) ?_
  intro W base args ds gs before hval0 hW _ _ hL _
  have hval : ∀ (j : Nat) t v, Tryd.f5.params[j]? = some t → args[j]? = some v → Value.okWide Tryd.prog W .any base t v := hval0
  have hW' := hW
  obtain ⟨p, q, hA0, hV, rfl, hfz, hnd⟩ := hW
  have hA : DataW.TrodAll enc Tryd.prog W 0 (fun _ => true) true Tryd.f5.params.toList args.toList ds p := hA0
  rw [Tryd.params5] at hA hval
  obtain ⟨v0, vs0, d0, ds0, p0, q0, hargs, rfl, rfl, h0, r0⟩ := trodAll_cons hA
  obtain ⟨rfl, rfl, rfl⟩ := trodAll_nil r0
  obtain rfl : args = #[v0] := by cases args; simp_all
  obtain ⟨rfl, rfl⟩ := trodVars_none hV
  have k0 := h0
  have lt0 : ∀ x ∈ p0, x.block < W.heap.size := by obtain ⟨m, hm⟩ := k0; exact DataW.trod_lt m _ _ _ hm
  obtain ⟨c0_0, c0_1, c0_2, c0_3, y0_0, y0_1, y0_2, y0_3, m0, rfl, rfl, rfl, hy0_0, hy0_1, hy0_2, hy0_3⟩ := Go.Joins.open_agg4 Tryd.underlying34 (by kernel_rfl) (by kernel_rfl) (hval 0 34 v0 rfl rfl) h0
  obtain ⟨a0_0, e_a0_0, _, w_a0_0⟩ := DataW.trod_int Tryd.underlying2 hy0_0
  simp only [List.cons.injEq, and_true] at e_a0_0
  subst e_a0_0
  obtain ⟨a0_1, e_a0_1, _, w_a0_1⟩ := DataW.trod_int Tryd.underlying2 hy0_1
  simp only [List.cons.injEq, and_true] at e_a0_1
  subst e_a0_1
  obtain ⟨a0_2, e_a0_2, _⟩ := DataW.trod_bool Tryd.underlying4 hy0_2
  simp only [List.cons.injEq, and_true] at e_a0_2
  subst e_a0_2
  obtain ⟨a0_3, e_a0_3, _, w_a0_3⟩ := DataW.trod_string Tryd.underlying9 hy0_3
  simp only [List.cons.injEq, and_true] at e_a0_3
  subst e_a0_3
  clear hA0 hval0
  rw [MakeChecks.laidMetH_plain _ _ _ (by kernel_rfl)] at hL
  refine (walk_FnExactPlayText a0_0 a0_1 a0_2 a0_3 W w_a0_0 w_a0_1 w_a0_3 (tabs_of hL (by first | exact .head _ | exact .tail _ (.head _) | exact .tail _ (.tail _ (.head _)) | exact .tail _ (.tail _ (.tail _ (.head _))) | exact .tail _ (.tail _ (.tail _ (.tail _ (.head _)))) | exact .tail _ (.tail _ (.tail _ (.tail _ (.tail _ (.head _))))) | exact .tail _ (.tail _ (.tail _ (.tail _ (.tail _ (.tail _ (.head _)))))) | exact .tail _ (.tail _ (.tail _ (.tail _ (.tail _ (.tail _ (.tail _ (.head _))))))) | exact .tail _ (.tail _ (.tail _ (.tail _ (.tail _ (.tail _ (.tail _ (.tail _ (.head _))))))))) (by first | exact .head _ | exact .tail _ (.head _) | exact .tail _ (.tail _ (.head _)) | exact .tail _ (.tail _ (.tail _ (.head _))) | exact .tail _ (.tail _ (.tail _ (.tail _ (.head _)))) | exact .tail _ (.tail _ (.tail _ (.tail _ (.tail _ (.head _))))) | exact .tail _ (.tail _ (.tail _ (.tail _ (.tail _ (.tail _ (.head _)))))) | exact .tail _ (.tail _ (.tail _ (.tail _ (.tail _ (.tail _ (.tail _ (.head _))))))) | exact .tail _ (.tail _ (.tail _ (.tail _ (.tail _ (.tail _ (.tail _ (.tail _ (.head _))))))))) (by first | exact .head _ | exact .tail _ (.head _) | exact .tail _ (.tail _ (.head _)) | exact .tail _ (.tail _ (.tail _ (.head _))) | exact .tail _ (.tail _ (.tail _ (.tail _ (.head _)))) | exact .tail _ (.tail _ (.tail _ (.tail _ (.tail _ (.head _))))) | exact .tail _ (.tail _ (.tail _ (.tail _ (.tail _ (.tail _ (.head _)))))) | exact .tail _ (.tail _ (.tail _ (.tail _ (.tail _ (.tail _ (.tail _ (.head _))))))) | exact .tail _ (.tail _ (.tail _ (.tail _ (.tail _ (.tail _ (.tail _ (.tail _ (.head _))))))))))).mono fun e W' ⟨he, bel⟩ => ?_
  subst he
  exact ⟨_, rfl, _, _, _, [], _, [], hW', trodAll_mk1 (shut_bool Tryd.underlying4 _), (trodAll_cons_mk (Below.trod laidRow (by kernel_rfl) (of_decide_eq_true (by kernel_rfl)) k0 bel lt0) trodAll_mk0), rfl, bel.frame _, fun h => by cases h⟩

theorem over_FnExactPlayText : Rows.fnExactPlayTextRow.holds Tryd.pinned (OpenSpec.ofChange Rows.fnExactPlayTextSpec) :=
  OpenClaim.holds_of_wide 5 Tryd.f5 rfl rfl rfl rfl rfl rfl rfl ⟨rfl, rfl, rfl, rfl, rfl⟩ rfl rfl rfl rfl rfl (by kernel_rfl) Tryd.func5 (by kernel_rfl)
    (of_decide_eq_true (by kernel_rfl)) (by unfold Func.isWrapper; first | (rw [if_pos (by decide +kernel)]; kernel_rfl) | (rw [if_neg (by decide +kernel)]; exact ⟨rfl, rfl⟩))
    (fun os started H enc _ => lifted_FnExactPlayText os started H enc)

theorem said_FnExactPlayText : Rows.FnExactPlayTextCardSaid :=
  Claim7.holds_tied_plain_at .later [] [.data, .data, .data, .data, .pinned, .pinned] true (true, "ce7a12549d1d8ddb5c7adcc3294065b1399697da1522717694f1a315c1036089") true over_FnExactPlayText (fun _ h => by cases h) (by kernel_rfl) (fun _ h => by cases h) fnExactPlayText_row_tie rfl ⟨rfl, rfl⟩ (by kernel_rfl) rfl
    (fun f fn hf hfn => by
      obtain rfl : f = 5 := Option.some.inj ((show Tryd.prog.funcNamed "loop.example/g00911/laws.FnExactPlayText" = some 5 by kernel_rfl).symm.trans hf) |>.symm
      obtain rfl : fn = Tryd.f5 := (Option.some.inj (Tryd.func5.symm.trans hfn)).symm
      exact ⟨by kernel_rfl, fun j t ht => by
        rw [Tryd.params5] at ht
        have hm : t ∈ [34] := by simpa using Array.mem_of_getElem? ht
        have hall : ([34].all fun u => !Tryd.prog.wantsStandIn u) = true := by kernel_rfl
        exact (show Tryd.prog.wantsStandIn t = false by simpa using List.all_eq_true.1 hall t hm)⟩)
    (by kernel_rfl)
end Go.Proofs.YtdecakimhjieeaaDoor
