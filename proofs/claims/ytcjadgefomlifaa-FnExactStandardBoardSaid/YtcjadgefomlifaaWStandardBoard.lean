import Derived.Test.YtcjadgefomlifaaLwE
import Derived.Test.YtcjadgefomlifaaCh11k
namespace Go.Proofs.Ytcjadgefomlifaa
set_option linter.unusedVariables false
set_option linter.unusedSimpArgs false
open Go Go.RowKit Go.ChangeShapes Go.WideShapes Go.ChangeAt
open Go.ChangeMaps (open_string shut_string)

theorem walk_FnExactStandardBoard (n : Int) (w : World) (hn : (Lit.int .i64 n).wf = true) :
    Calls Try.prog 5 #[.int .i64 n] w (Ret (.bool true) w) := by
  obtain ⟨x', y, z, u, hv⟩ : ∃ x' y z u, standardV n = .tuple #[boardV x' y z, .int .i64 u] := by unfold standardV; split <;> exact ⟨_, _, _, _, rfl⟩
  have HS := hid (sStandardBoard_any n)
  rw [hv] at HS
  have HI := hid (StandardBoard_any n)
  rw [hv] at HI
  clear hv
  have hE := Ext.refl w
  go_enter Try.func5, Try.ntmps5
  go_wp2_with fail
  refine (HS.out _).mono ?_
  rintro e w1 ⟨rfl, hx⟩
  replace hE := hE.trans hx
  clear hx
  go_wp2_with fail
  refine (HI.out _).mono ?_
  rintro e w2 ⟨rfl, hx⟩
  have x0 := hx.cell (b := w1.heap.size) (o := 0) (v := .int .i64 x') (by simp)
  have x1 := hx.cell (b := w1.heap.size) (o := 1) (v := .string y) (by simp)
  have x2 := hx.cell (b := w1.heap.size) (o := 2) (v := .string z) (by simp)
  replace hx := ((Ext.refl w1).alloc _).trans hx
  replace hE := hE.trans hx
  clear hx
  have hlt_x0 := World.block_lt_of_cell? _ _ x0
  go_wp2_with fail
  refine (eqBoard_self _ _ _ _).mono ?_
  rintro e w3 ⟨rfl, hx⟩
  have z0 := hx.cell (b := w2.heap.size) (o := 0) (v := .int .i64 x') (by simp)
  have z1 := hx.cell (b := w2.heap.size) (o := 1) (v := .string y) (by simp)
  have z2 := hx.cell (b := w2.heap.size) (o := 2) (v := .string z) (by simp)
  replace hx := ((Ext.refl w2).alloc _).trans hx
  replace x0 := hx.cell x0
  replace x1 := hx.cell x1
  replace x2 := hx.cell x2
  replace hE := hE.trans hx
  clear hx
  clear hlt_x0
  go_wp2_with fail
  go_returns
  exact ⟨rfl, hE⟩

set_option maxRecDepth 100000 in
theorem lifted_FnExactStandardBoard (os : Os) (started : os.Started) (H : Type) (enc : TypeId × Value → H) :
    ReturnsInHanded {} Try.checked os 5 .any (Rows.fnExactStandardBoardSpec.pre6 enc Try.prog Try.f5 Rows.fnExactStandardBoardRow.domain false) (Rows.fnExactStandardBoardSpec.post enc Try.prog Try.f5 false true false false) := by
  refine returnsInHanded_of_change (C := Try.checked) ownRow started (by kernel_rfl) Try.func5
    (ChangeSpec.witness6 (enc := enc) (C := Try.checked) false ⟨#[], #[.int .i64 0], []⟩ 8 (by kernel_rfl) (by kernel_rfl) (by kernel_rfl) (by kernel_rfl)) ?_
  intro W base args ds gs before hval0 hW hcnd _
  have hval : ∀ (j : Nat) t v, Try.f5.params[j]? = some t → args[j]? = some v → Value.okWide Try.prog W .any base t v := hval0
  have hW' := hW
  obtain ⟨p, q, hA0, hV, rfl, hfz, hnd⟩ := hW
  have hA : DataW.TrodAll enc Try.prog W 0 (fun _ => true) true Try.f5.params.toList args.toList ds p := hA0
  rw [Try.params5] at hA hval
  obtain ⟨v0, vs0, d0, ds0, p0, q0, hargs, rfl, rfl, h0, r0⟩ := trodAll_cons hA
  obtain ⟨rfl, rfl, rfl⟩ := trodAll_nil r0
  obtain rfl : args = #[v0] := by cases args; simp_all
  obtain ⟨rfl, rfl⟩ := trodVars_none hV
  have k0 := h0
  have lt0 : ∀ x ∈ p0, x.block < W.heap.size := by obtain ⟨m, hm⟩ := k0; exact DataW.trod_lt m _ _ _ hm
  obtain ⟨a0, rfl, rfl, rfl, w_a0⟩ := open_int Try.underlying2 (hval 0 2 v0 rfl rfl) h0
  clear hA0 hval0
  refine (walk_FnExactStandardBoard a0 W w_a0).mono fun e W' ⟨he, bel⟩ => ?_
  subst he
  exact ⟨_, rfl, _, _, _, [], _, [], hW', trodAll_mk1 (shut_bool Try.underlying4 _), (trodAll_cons_mk (Below.trod laidRow (by kernel_rfl) (of_decide_eq_true (by kernel_rfl)) k0 bel lt0) trodAll_mk0), rfl, bel.frame _, fun h => by cases h⟩

theorem over_FnExactStandardBoard : Rows.fnExactStandardBoardRow.holds Try.pinned (OpenSpec.ofChange Rows.fnExactStandardBoardSpec) :=
  OpenClaim.holds_of_wide 5 Try.f5 rfl rfl rfl rfl rfl rfl rfl ⟨rfl, rfl, rfl, rfl, rfl⟩ rfl rfl rfl rfl rfl (by kernel_rfl) Try.func5 (by kernel_rfl)
    (of_decide_eq_true (by kernel_rfl)) (by unfold Func.isWrapper; first | (rw [if_pos (by decide +kernel)]; kernel_rfl) | (rw [if_neg (by decide +kernel)]; exact ⟨rfl, rfl⟩))
    (fun os started H enc _ => lifted_FnExactStandardBoard os started H enc)

theorem said_FnExactStandardBoard : Rows.FnExactStandardBoardSaid := over_FnExactStandardBoard
end Go.Proofs.Ytcjadgefomlifaa
