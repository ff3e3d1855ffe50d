import Derived.Test.YtjmiheapcbnhhaaLwB
import Derived.Test.YtjmiheapcbnhhaaRow
namespace Go.Proofs.Ytjmiheapcbnhhaa
set_option linter.unusedVariables false
set_option linter.unusedSimpArgs false
open Go Go.RowKit Go.ChangeShapes Go.WideShapes Go.ChangeAt
open Go.ChangeMaps (open_string shut_string)

theorem szB_neg {L : Int} {p c : ByteArray} (h : ¬ szB L p c < 0) (hL : L ≤ 1048576) : p.size ≤ 1048576 ∧ c.size ≤ 1048576 ∧ 0 ≤ szB L p c ∧ szB L p c ≤ 1048576 := by
  unfold szB at *
  split at h
  · omega
  · split at h
    · omega
    · rw [if_neg ‹_›, if_neg ‹_›]; omega

theorem walk_FnExactValidBoard (n : Int) (p c : ByteArray) (w : World) (hn : (Lit.int .i64 n).wf = true) (hp : p.size ≤ maxLen) (hc : c.size ≤ maxLen) :
    Calls Try.prog 5 #[boardV n p c] w (Ret (.bool true) w) := by
  go_enter Try.func5, Try.ntmps5
  go_wp2_with fail
  refine (szBoard_any n p c _ _ hp hc (by omega) (by omega)).mono ?_
  rintro e w1 ⟨rfl, hx⟩
  have hE := ((Ext.refl w).alloc _).trans hx
  have b0 := hx.cell (b := w.heap.size) (o := 0) (v := .int .i64 n) (by simp)
  have b1 := hx.cell (b := w.heap.size) (o := 1) (v := .string p) (by simp)
  have b2 := hx.cell (b := w.heap.size) (o := 2) (v := .string c) (by simp)
  clear hx
  by_cases hs : szB 1048576 p c < 0
  · go_wp2_with fail
    go_returns
    exact ⟨rfl, hE⟩
  · obtain ⟨q1, q2, q3, q4⟩ := szB_neg hs (by omega)
    go_wp2_with fail
    refine (toBoard_any _ _ _ _).mono ?_
    rintro e w2 ⟨rfl, hx⟩
    replace b0 := hx.cell b0
    replace b1 := hx.cell b1
    replace b2 := hx.cell b2
    replace hE := hE.trans hx
    clear hx
    go_wp2_with fail
    refine (sValidBoard_any _ _ _ _ q1 q2).mono ?_
    rintro e w2 ⟨rfl, hx⟩
    replace b0 := hx.cell b0
    replace b1 := hx.cell b1
    replace b2 := hx.cell b2
    replace hE := hE.trans hx
    clear hx
    go_wp2_with fail
    refine (toBoard_any _ _ _ _).mono ?_
    rintro e w2 ⟨rfl, hx⟩
    replace hE := hE.trans hx
    clear hx
    go_wp2_with fail
    refine (ValidBoard_any _ _ _ _ q1 q2).mono ?_
    rintro e w2 ⟨rfl, hx⟩
    replace hE := hE.trans hx
    clear hx
    cases hok : okB n p c <;> (go_wp2_with fail; go_returns; exact ⟨rfl, hE⟩)

set_option maxRecDepth 100000 in
theorem lifted_FnExactValidBoard (os : Os) (started : os.Started) (H : Type) (enc : TypeId × Value → H) :
    ReturnsInHanded {} Try.checked os 5 .any (Rows.fnExactValidBoardSpec.pre6 enc Try.prog Try.f5 Rows.fnExactValidBoardRow.domain false) (Rows.fnExactValidBoardSpec.post enc Try.prog Try.f5 false true false false) := by
  refine returnsInHanded_of_change (C := Try.checked) ownRow started (by kernel_rfl) Try.func5
    (ChangeSpec.witness6 (enc := enc) (C := Try.checked) false ⟨#[], #[.agg #[.int .i64 0, .string ⟨#[]⟩, .string ⟨#[]⟩]], []⟩ 8 (by kernel_rfl) (by kernel_rfl) (by kernel_rfl) (by kernel_rfl)) ?_
  intro W base args ds gs before hval0 hW hcnd _
  have hval : ∀ (j : Nat) t v, Try.f5.params[j]? = some t → args[j]? = some v → Value.okWide Try.prog W .any base t v := hval0
  have hW' := hW
  obtain ⟨p, q, hA0, hV, rfl, hfz, hnd⟩ := hW
  have hA : DataW.TrodAll enc Try.prog W 0 (fun _ => true) true Try.f5.params.toList args.toList ds p := hA0
  rw [Try.params5] at hA hval
  obtain ⟨v0, vs0, d0, ds0, p0, q0, hargs, rfl, rfl, h0, r0⟩ := trodAll_cons hA
  obtain ⟨rfl, rfl, rfl⟩ := trodAll_nil r0
  obtain rfl : args = #[v0] := by cases args; simp_all
  obtain ⟨rfl, rfl⟩ := trodVars_none hV
  have k0 := h0
  have lt0 : ∀ x ∈ p0, x.block < W.heap.size := by obtain ⟨m, hm⟩ := k0; exact DataW.trod_lt m _ _ _ hm
  obtain ⟨c0_0, c0_1, c0_2, y0_0, y0_1, y0_2, m0, rfl, rfl, rfl, hy0_0, hy0_1, hy0_2⟩ := Go.Joins.open_agg3 Try.underlying23 (by kernel_rfl) (by kernel_rfl) (hval 0 23 v0 rfl rfl) h0
  obtain ⟨a0_0, e_a0_0, _, w_a0_0⟩ := DataW.trod_int Try.underlying2 hy0_0
  simp only [List.cons.injEq, and_true] at e_a0_0
  subst e_a0_0
  obtain ⟨a0_1, e_a0_1, _, w_a0_1⟩ := DataW.trod_string Try.underlying9 hy0_1
  simp only [List.cons.injEq, and_true] at e_a0_1
  subst e_a0_1
  obtain ⟨a0_2, e_a0_2, _, w_a0_2⟩ := DataW.trod_string Try.underlying9 hy0_2
  simp only [List.cons.injEq, and_true] at e_a0_2
  subst e_a0_2
  clear hA0 hval0
  refine (walk_FnExactValidBoard a0_0 a0_1 a0_2 W w_a0_0 w_a0_1 w_a0_2).mono fun e W' ⟨he, bel⟩ => ?_
  subst he
  exact ⟨_, rfl, _, _, _, [], _, [], hW', trodAll_mk1 (shut_bool Try.underlying4 _), (trodAll_cons_mk (Below.trod laidRow (by kernel_rfl) (of_decide_eq_true (by kernel_rfl)) k0 bel lt0) trodAll_mk0), rfl, bel.frame _, fun h => by cases h⟩

theorem over_FnExactValidBoard : Rows.fnExactValidBoardRow.holds Try.pinned (OpenSpec.ofChange Rows.fnExactValidBoardSpec) :=
  OpenClaim.holds_of_wide 5 Try.f5 rfl rfl rfl rfl rfl rfl rfl ⟨rfl, rfl, rfl, rfl, rfl⟩ rfl rfl rfl rfl rfl (by kernel_rfl) Try.func5 (by kernel_rfl)
    (of_decide_eq_true (by kernel_rfl)) (by unfold Func.isWrapper; first | (rw [if_pos (by decide +kernel)]; kernel_rfl) | (rw [if_neg (by decide +kernel)]; exact ⟨rfl, rfl⟩))
    (fun os started H enc _ => lifted_FnExactValidBoard os started H enc)

theorem said_FnExactValidBoard : Rows.FnExactValidBoardSaid := over_FnExactValidBoard
end Go.Proofs.Ytjmiheapcbnhhaa
