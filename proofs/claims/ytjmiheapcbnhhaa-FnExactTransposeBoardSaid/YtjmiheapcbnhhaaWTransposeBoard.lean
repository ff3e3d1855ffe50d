import Derived.Test.YtjmiheapcbnhhaaLwE
namespace Go.Proofs.Ytjmiheapcbnhhaa
set_option linter.unusedVariables false
set_option linter.unusedSimpArgs false
open Go Go.RowKit Go.ChangeShapes Go.WideShapes Go.ChangeAt
open Go.ChangeMaps (open_string shut_string)

theorem walk_FnExactTransposeBoard (n : Int) (p c : ByteArray) (w : World) (hn : (Lit.int .i64 n).wf = true) (hp : p.size ≤ maxLen) (hc : c.size ≤ maxLen) :
    Calls Try.prog 8 #[boardV n p c] w (Ret (.bool true) w) := by
  obtain ⟨x', y, z, u, hv⟩ : ∃ x' y z u, transV n p c = .tuple #[boardV x' y z, .int .i64 u] := by unfold transV; (repeat' split) <;> exact ⟨_, _, _, _, rfl⟩
  go_enter Try.func8, Try.ntmps8
  go_wp2_with fail
  refine (szBoard_any n p c _ _ hp hc (by omega) (by omega)).mono ?_
  rintro e w1 ⟨rfl, hx⟩
  have hE := ((Ext.refl w).alloc _).trans hx
  have b0 := hx.cell (b := w.heap.size) (o := 0) (v := .int .i64 n) (by simp)
  have b1 := hx.cell (b := w.heap.size) (o := 1) (v := .string p) (by simp)
  have b2 := hx.cell (b := w.heap.size) (o := 2) (v := .string c) (by simp)
  clear hx
  by_cases hs : szB 1048576 p c < 0
  · go_wp2_with fail
    go_returns
    exact ⟨rfl, hE⟩
  · obtain ⟨q1, q2, q3, q4⟩ := szB_neg hs (by omega)
    have hlt_b0 := World.block_lt_of_cell? _ _ b0
    go_wp2_with fail
    refine (toBoard_any _ _ _ _).mono ?_
    rintro e w2 ⟨rfl, hx⟩
    replace b0 := hx.cell b0
    replace b1 := hx.cell b1
    replace b2 := hx.cell b2
    replace hE := hE.trans hx
    clear hx
    clear hlt_b0
    have HS := hid (sTransposeBoard_any n p c)
    rw [hv] at HS
    have HI := hid (TransposeBoard_any n p c)
    rw [hv] at HI
    clear hv
    have hlt_b0 := World.block_lt_of_cell? _ _ b0
    go_wp2_with fail
    refine (HS.out _ q1 q2).mono ?_
    rintro e w3 ⟨rfl, hx⟩
    replace b0 := hx.cell b0
    replace b1 := hx.cell b1
    replace b2 := hx.cell b2
    replace hE := hE.trans hx
    clear hx
    clear hlt_b0
    have hlt_b0 := World.block_lt_of_cell? _ _ b0
    go_wp2_with fail
    refine (toBoard_any _ _ _ _).mono ?_
    rintro e w4 ⟨rfl, hx⟩
    have x0 := hx.cell (b := w3.heap.size) (o := 0) (v := .int .i64 x') (by simp)
    have x1 := hx.cell (b := w3.heap.size) (o := 1) (v := .string y) (by simp)
    have x2 := hx.cell (b := w3.heap.size) (o := 2) (v := .string z) (by simp)
    replace hx := ((Ext.refl w3).alloc _).trans hx
    replace b0 := hx.cell b0
    replace b1 := hx.cell b1
    replace b2 := hx.cell b2
    replace hE := hE.trans hx
    clear hx
    clear hlt_b0
    have hlt_b0 := World.block_lt_of_cell? _ _ b0
    have hlt_x0 := World.block_lt_of_cell? _ _ x0
    go_wp2_with fail
    refine (HI.out _ q1 q2).mono ?_
    rintro e w5 ⟨rfl, hx⟩
    replace b0 := hx.cell b0
    replace b1 := hx.cell b1
    replace b2 := hx.cell b2
    replace x0 := hx.cell x0
    replace x1 := hx.cell x1
    replace x2 := hx.cell x2
    replace hE := hE.trans hx
    clear hx
    clear hlt_b0 hlt_x0
    have hlt_b0 := World.block_lt_of_cell? _ _ b0
    have hlt_x0 := World.block_lt_of_cell? _ _ x0
    go_wp2_with fail
    refine (eqBoard_self _ _ _ _).mono ?_
    rintro e w6 ⟨rfl, hx⟩
    have z0 := hx.cell (b := w5.heap.size) (o := 0) (v := .int .i64 x') (by simp)
    have z1 := hx.cell (b := w5.heap.size) (o := 1) (v := .string y) (by simp)
    have z2 := hx.cell (b := w5.heap.size) (o := 2) (v := .string z) (by simp)
    replace hx := ((Ext.refl w5).alloc _).trans hx
    replace b0 := hx.cell b0
    replace b1 := hx.cell b1
    replace b2 := hx.cell b2
    replace x0 := hx.cell x0
    replace x1 := hx.cell x1
    replace x2 := hx.cell x2
    replace hE := hE.trans hx
    clear hx
    clear hlt_b0 hlt_x0
    go_wp2_with fail
    go_returns
    exact ⟨rfl, hE⟩

set_option maxRecDepth 100000 in
theorem lifted_FnExactTransposeBoard (os : Os) (started : os.Started) (H : Type) (enc : TypeId × Value → H) :
    ReturnsInHanded {} Try.checked os 8 .any (Rows.fnExactTransposeBoardSpec.pre6 enc Try.prog Try.f8 Rows.fnExactTransposeBoardRow.domain false) (Rows.fnExactTransposeBoardSpec.post enc Try.prog Try.f8 false true false false) := by
  refine returnsInHanded_of_change (C := Try.checked) ownRow started (by kernel_rfl) Try.func8
    (ChangeSpec.witness6 (enc := enc) (C := Try.checked) false ⟨#[], #[.agg #[.int .i64 0, .string ⟨#[]⟩, .string ⟨#[]⟩]], []⟩ 8 (by kernel_rfl) (by kernel_rfl) (by kernel_rfl) (by kernel_rfl)) ?_
  intro W base args ds gs before hval0 hW hcnd _
  have hval : ∀ (j : Nat) t v, Try.f8.params[j]? = some t → args[j]? = some v → Value.okWide Try.prog W .any base t v := hval0
  have hW' := hW
  obtain ⟨p, q, hA0, hV, rfl, hfz, hnd⟩ := hW
  have hA : DataW.TrodAll enc Try.prog W 0 (fun _ => true) true Try.f8.params.toList args.toList ds p := hA0
  rw [Try.params8] at hA hval
  obtain ⟨v0, vs0, d0, ds0, p0, q0, hargs, rfl, rfl, h0, r0⟩ := trodAll_cons hA
  obtain ⟨rfl, rfl, rfl⟩ := trodAll_nil r0
  obtain rfl : args = #[v0] := by cases args; simp_all
  obtain ⟨rfl, rfl⟩ := trodVars_none hV
  have k0 := h0
  have lt0 : ∀ x ∈ p0, x.block < W.heap.size := by obtain ⟨m, hm⟩ := k0; exact DataW.trod_lt m _ _ _ hm
  obtain ⟨c0_0, c0_1, c0_2, y0_0, y0_1, y0_2, m0, rfl, rfl, rfl, hy0_0, hy0_1, hy0_2⟩ := Go.Joins.open_agg3 Try.underlying23 (by kernel_rfl) (by kernel_rfl) (hval 0 23 v0 rfl rfl) h0
  obtain ⟨a0_0, e_a0_0, _, w_a0_0⟩ := DataW.trod_int Try.underlying2 hy0_0
  simp only [List.cons.injEq, and_true] at e_a0_0
  subst e_a0_0
  obtain ⟨a0_1, e_a0_1, _, w_a0_1⟩ := DataW.trod_string Try.underlying9 hy0_1
  simp only [List.cons.injEq, and_true] at e_a0_1
  subst e_a0_1
  obtain ⟨a0_2, e_a0_2, _, w_a0_2⟩ := DataW.trod_string Try.underlying9 hy0_2
  simp only [List.cons.injEq, and_true] at e_a0_2
  subst e_a0_2
  clear hA0 hval0
  refine (walk_FnExactTransposeBoard a0_0 a0_1 a0_2 W w_a0_0 w_a0_1 w_a0_2).mono fun e W' ⟨he, bel⟩ => ?_
  subst he
  exact ⟨_, rfl, _, _, _, [], _, [], hW', trodAll_mk1 (shut_bool Try.underlying4 _), (trodAll_cons_mk (Below.trod laidRow (by kernel_rfl) (of_decide_eq_true (by kernel_rfl)) k0 bel lt0) trodAll_mk0), rfl, bel.frame _, fun h => by cases h⟩

theorem over_FnExactTransposeBoard : Rows.fnExactTransposeBoardRow.holds Try.pinned (OpenSpec.ofChange Rows.fnExactTransposeBoardSpec) :=
  OpenClaim.holds_of_wide 8 Try.f8 rfl rfl rfl rfl rfl rfl rfl ⟨rfl, rfl, rfl, rfl, rfl⟩ rfl rfl rfl rfl rfl (by kernel_rfl) Try.func8 (by kernel_rfl)
    (of_decide_eq_true (by kernel_rfl)) (by unfold Func.isWrapper; first | (rw [if_pos (by decide +kernel)]; kernel_rfl) | (rw [if_neg (by decide +kernel)]; exact ⟨rfl, rfl⟩))
    (fun os started H enc _ => lifted_FnExactTransposeBoard os started H enc)

theorem said_FnExactTransposeBoard : Rows.FnExactTransposeBoardSaid := over_FnExactTransposeBoard
end Go.Proofs.Ytjmiheapcbnhhaa
