import Derived.Test.YtjmiheapcbnhhaaLwE
namespace Go.Proofs.Ytjmiheapcbnhhaa
set_option linter.unusedVariables false
set_option linter.unusedSimpArgs false
open Go Go.RowKit Go.ChangeShapes Go.WideShapes Go.ChangeAt
open Go.ChangeMaps (open_string shut_string)

theorem walk_FnExactTransposePlay (r c : Int) (d : Bool) (s : ByteArray) (w : World) (hr : (Lit.int .i64 r).wf = true) (hc : (Lit.int .i64 c).wf = true) (hs : s.size ≤ maxLen) :
    Calls Try.prog 4 #[playV r c d s] w (Ret (.bool true) w) := by
  go_enter Try.func4, Try.ntmps4
  go_wp2_with fail
  refine (szPlay_any r c d s _ _ hs (by omega) (by omega)).mono ?_
  rintro e w1 ⟨rfl, hx⟩
  have hE := ((Ext.refl w).alloc _).trans hx
  have b0 := hx.cell (b := w.heap.size) (o := 0) (v := .int .i64 r) (by simp)
  have b1 := hx.cell (b := w.heap.size) (o := 1) (v := .int .i64 c) (by simp)
  have b2 := hx.cell (b := w.heap.size) (o := 2) (v := .bool d) (by simp)
  have b3 := hx.cell (b := w.heap.size) (o := 3) (v := .string s) (by simp)
  clear hx
  by_cases hn : szP 1048576 s < 0
  · go_wp2_with fail
    go_returns
    exact ⟨rfl, hE⟩
  · skip
    have hlt_b0 := World.block_lt_of_cell? _ _ b0
    go_wp2_with fail
    refine (toPlay_any _ _ _ _ _).mono ?_
    rintro e w2 ⟨rfl, hx⟩
    replace b0 := hx.cell b0
    replace b1 := hx.cell b1
    replace b2 := hx.cell b2
    replace b3 := hx.cell b3
    replace hE := hE.trans hx
    clear hx
    clear hlt_b0
    have hlt_b0 := World.block_lt_of_cell? _ _ b0
    go_wp2_with fail
    refine (sTransposePlay_any _ _ _ _ _).mono ?_
    rintro e w3 ⟨rfl, hx⟩
    replace b0 := hx.cell b0
    replace b1 := hx.cell b1
    replace b2 := hx.cell b2
    replace b3 := hx.cell b3
    replace hE := hE.trans hx
    clear hx
    clear hlt_b0
    have hlt_b0 := World.block_lt_of_cell? _ _ b0
    go_wp2_with fail
    refine (toPlay_any _ _ _ _ _).mono ?_
    rintro e w4 ⟨rfl, hx⟩
    have x0 := hx.cell (b := w3.heap.size) (o := 0) (v := .int .i64 c) (by simp)
    have x1 := hx.cell (b := w3.heap.size) (o := 1) (v := .int .i64 r) (by simp)
    have x2 := hx.cell (b := w3.heap.size) (o := 2) (v := .bool (!d)) (by simp)
    have x3 := hx.cell (b := w3.heap.size) (o := 3) (v := .string s) (by simp)
    replace hx := ((Ext.refl w3).alloc _).trans hx
    replace b0 := hx.cell b0
    replace b1 := hx.cell b1
    replace b2 := hx.cell b2
    replace b3 := hx.cell b3
    replace hE := hE.trans hx
    clear hx
    clear hlt_b0
    have hlt_b0 := World.block_lt_of_cell? _ _ b0
    have hlt_x0 := World.block_lt_of_cell? _ _ x0
    go_wp2_with fail
    refine (TransposePlay_any _ _ _ _ _).mono ?_
    rintro e w5 ⟨rfl, hx⟩
    replace b0 := hx.cell b0
    replace b1 := hx.cell b1
    replace b2 := hx.cell b2
    replace b3 := hx.cell b3
    replace x0 := hx.cell x0
    replace x1 := hx.cell x1
    replace x2 := hx.cell x2
    replace x3 := hx.cell x3
    replace hE := hE.trans hx
    clear hx
    clear hlt_b0 hlt_x0
    have hlt_b0 := World.block_lt_of_cell? _ _ b0
    have hlt_x0 := World.block_lt_of_cell? _ _ x0
    go_wp2_with fail
    refine (eqPlay_self _ _ _ _ _).mono ?_
    rintro e w6 ⟨rfl, hx⟩
    have z0 := hx.cell (b := w5.heap.size) (o := 0) (v := .int .i64 c) (by simp)
    have z1 := hx.cell (b := w5.heap.size) (o := 1) (v := .int .i64 r) (by simp)
    have z2 := hx.cell (b := w5.heap.size) (o := 2) (v := .bool (!d)) (by simp)
    have z3 := hx.cell (b := w5.heap.size) (o := 3) (v := .string s) (by simp)
    replace hx := ((Ext.refl w5).alloc _).trans hx
    replace b0 := hx.cell b0
    replace b1 := hx.cell b1
    replace b2 := hx.cell b2
    replace b3 := hx.cell b3
    replace x0 := hx.cell x0
    replace x1 := hx.cell x1
    replace x2 := hx.cell x2
    replace x3 := hx.cell x3
    replace hE := hE.trans hx
    clear hx
    clear hlt_b0 hlt_x0
    go_wp2_with fail
    go_returns
    exact ⟨rfl, hE⟩

set_option maxRecDepth 100000 in
theorem lifted_FnExactTransposePlay (os : Os) (started : os.Started) (H : Type) (enc : TypeId × Value → H) :
    ReturnsInHanded {} Try.checked os 4 .any (Rows.fnExactTransposePlaySpec.pre6 enc Try.prog Try.f4 Rows.fnExactTransposePlayRow.domain false) (Rows.fnExactTransposePlaySpec.post enc Try.prog Try.f4 false true false false) := by
  refine returnsInHanded_of_change (C := Try.checked) ownRow started (by kernel_rfl) Try.func4
    (ChangeSpec.witness6 (enc := enc) (C := Try.checked) false ⟨#[], #[.agg #[.int .i64 0, .int .i64 0, .bool false, .string ⟨#[]⟩]], []⟩ 8 (by kernel_rfl) (by kernel_rfl) (by kernel_rfl) (by kernel_rfl)) ?_
  intro W base args ds gs before hval0 hW hcnd _
  have hval : ∀ (j : Nat) t v, Try.f4.params[j]? = some t → args[j]? = some v → Value.okWide Try.prog W .any base t v := hval0
  have hW' := hW
  obtain ⟨p, q, hA0, hV, rfl, hfz, hnd⟩ := hW
  have hA : DataW.TrodAll enc Try.prog W 0 (fun _ => true) true Try.f4.params.toList args.toList ds p := hA0
  rw [Try.params4] at hA hval
  obtain ⟨v0, vs0, d0, ds0, p0, q0, hargs, rfl, rfl, h0, r0⟩ := trodAll_cons hA
  obtain ⟨rfl, rfl, rfl⟩ := trodAll_nil r0
  obtain rfl : args = #[v0] := by cases args; simp_all
  obtain ⟨rfl, rfl⟩ := trodVars_none hV
  have k0 := h0
  have lt0 : ∀ x ∈ p0, x.block < W.heap.size := by obtain ⟨m, hm⟩ := k0; exact DataW.trod_lt m _ _ _ hm
  obtain ⟨c0_0, c0_1, c0_2, c0_3, y0_0, y0_1, y0_2, y0_3, m0, rfl, rfl, rfl, hy0_0, hy0_1, hy0_2, hy0_3⟩ := Go.Joins.open_agg4 Try.underlying30 (by kernel_rfl) (by kernel_rfl) (hval 0 30 v0 rfl rfl) h0
  obtain ⟨a0_0, e_a0_0, _, w_a0_0⟩ := DataW.trod_int Try.underlying2 hy0_0
  simp only [List.cons.injEq, and_true] at e_a0_0
  subst e_a0_0
  obtain ⟨a0_1, e_a0_1, _, w_a0_1⟩ := DataW.trod_int Try.underlying2 hy0_1
  simp only [List.cons.injEq, and_true] at e_a0_1
  subst e_a0_1
  obtain ⟨a0_2, e_a0_2, _⟩ := DataW.trod_bool Try.underlying4 hy0_2
  simp only [List.cons.injEq, and_true] at e_a0_2
  subst e_a0_2
  obtain ⟨a0_3, e_a0_3, _, w_a0_3⟩ := DataW.trod_string Try.underlying9 hy0_3
  simp only [List.cons.injEq, and_true] at e_a0_3
  subst e_a0_3
  clear hA0 hval0
  refine (walk_FnExactTransposePlay a0_0 a0_1 a0_2 a0_3 W w_a0_0 w_a0_1 w_a0_3).mono fun e W' ⟨he, bel⟩ => ?_
  subst he
  exact ⟨_, rfl, _, _, _, [], _, [], hW', trodAll_mk1 (shut_bool Try.underlying4 _), (trodAll_cons_mk (Below.trod laidRow (by kernel_rfl) (of_decide_eq_true (by kernel_rfl)) k0 bel lt0) trodAll_mk0), rfl, bel.frame _, fun h => by cases h⟩

theorem over_FnExactTransposePlay : Rows.fnExactTransposePlayRow.holds Try.pinned (OpenSpec.ofChange Rows.fnExactTransposePlaySpec) :=
  OpenClaim.holds_of_wide 4 Try.f4 rfl rfl rfl rfl rfl rfl rfl ⟨rfl, rfl, rfl, rfl, rfl⟩ rfl rfl rfl rfl rfl (by kernel_rfl) Try.func4 (by kernel_rfl)
    (of_decide_eq_true (by kernel_rfl)) (by unfold Func.isWrapper; first | (rw [if_pos (by decide +kernel)]; kernel_rfl) | (rw [if_neg (by decide +kernel)]; exact ⟨rfl, rfl⟩))
    (fun os started H enc _ => lifted_FnExactTransposePlay os started H enc)

theorem said_FnExactTransposePlay : Rows.FnExactTransposePlaySaid := over_FnExactTransposePlay
end Go.Proofs.Ytjmiheapcbnhhaa
