/- FormsOf: for every argument the program's answer is the reference's, in memory of its own. No condition. -/
import Derived.Test.YtlnccdbmchjhlaaCh09f
import Derived.Test.YtlnccdbmchjhlaaMark
import Derived.Test.YtlnccdbmchjhlaaRow
namespace Go.Proofs.Ytlnccdbmchjhlaa
set_option linter.unusedVariables false
set_option linter.unusedSimpArgs false
open Go Go.RowKit Go.ChangeShapes Go.WideShapes Go.ChangeAt
open Go.ChangeMaps (open_string shut_string)

set_option maxHeartbeats 2000000 in
theorem walk_FnExactFormsOf (p : ByteArray) (w : World) (hp' : p.size ≤ maxLen) :
    Calls Try.prog 3 #[.string p] w (Ret (.bool true) w) := by
  by_cases hp : p.size ≤ 1048576
  case neg =>
    unfold maxLen at hp'
    go_enter Try.func3, Try.ntmps3
    go_wp2_with fail
    go_returns
    exact ⟨rfl, Ext.refl w⟩
  case pos =>
  obtain ⟨V, hV⟩ : ∃ V, fosL p = V := ⟨_, rfl⟩
  obtain ⟨K, hK⟩ : ∃ K, fosC p = K := ⟨_, rfl⟩
  have HB : Hid (V.length ≤ 1048576) := hid (by
    rw [← hV]; unfold fosL
    split
    · rw [formL_length]; exact hp
    · simp)
  have HS := hid (fun w => sFormsOf_any p w hp)
  have HI := hid (fun w => FormsOf_any p w hp)
  rw [hV, hK] at HS HI
  clear hV hK hp'
  go_enter Try.func3, Try.ntmps3
  go_wp2_with fail
  refine (HS.out _).mono ?_
  rintro e w3 ⟨a2, c2, rfl, ho2, hE⟩
  have hz2 := hE.size
  have I2 := hid ho2.inR
  clear ho2
  go_wp2_with fail
  refine (HI.out _).mono ?_
  rintro e w5 ⟨a4, c4, rfl, ho4, hx⟩
  have hz4 := hx.size
  have I4 := hid ho4.inR
  replace hE := hE.trans hx
  replace I2 := hid (I2.out.ext hx)
  clear hx ho4
  go_wp2_with fail
  refine (eqStringS_self a4 a2 c4 c2 V _ I4.out.rd I2.out.rd HB.out).mono ?_
  rintro e w6 ⟨rfl, hD⟩
  replace hx := hD.ext
  replace hE := hE.trans hx
  have hz5 := hx.size
  replace I2 := hid (I2.out.ext hx)
  replace I4 := hid (I4.out.ext hx)
  clear hx hD
  go_wp2_with fail
  refine (markS_any _ _ a4 c4 V 1 _ I4.out HB.out (by omega) (by omega)).mono ?_
  rintro e w10 ⟨rfl, hr4, hx⟩
  replace hE := hx.ext0 hE (by omega)
  have hz9 := hx.size
  replace I2 := hid (hx.inR I2.out (by omega))
  replace I4 := hid hr4
  clear hx hr4
  have hq : ((1 + V.length : Nat) : Int) = 1 + (V.length : Int) := by omega
  go_wp2_with fail
  refine (heldStringS_any a4 c4 V.length 1 _ I4.out.rd HB.out (by omega) (by omega)).mono ?_
  rintro e w11 ⟨rfl, hx⟩
  replace hE := hE.trans hx
  replace I2 := hid (I2.out.ext hx)
  replace I4 := hid (I4.out.ext hx)
  clear hx
  go_wp2_with fail
  refine (HI.out _).mono ?_
  rintro e w13 ⟨a7, c7, rfl, ho7, hx⟩
  replace hE := hE.trans hx
  replace I2 := hid (I2.out.ext hx)
  replace I4 := hid (I4.out.ext hx)
  have R7 := hid ho7.rd
  clear hx ho7
  go_wp2_with fail
  refine (eqStringS_self a7 a2 c7 c2 V _ R7.out I2.out.rd HB.out).mono ?_
  rintro e w14 ⟨rfl, hD⟩
  replace hx := hD.ext
  replace hE := hE.trans hx
  replace I4 := hid (I4.out.ext hx)
  clear hx hD
  go_wp2_with fail
  refine (heldStringS_any a4 c4 V.length 1 _ I4.out.rd HB.out (by omega) (by omega)).mono ?_
  rintro e w15 ⟨rfl, hx⟩
  replace hE := hE.trans hx
  clear hx
  go_wp2_with fail
  go_returns
  exact ⟨rfl, hE⟩

set_option maxRecDepth 100000 in
theorem lifted_FnExactFormsOf (os : Os) (started : os.Started) (H : Type) (enc : TypeId × Value → H) :
    ReturnsInHanded {} Try.checked os 3 .any (Rows.fnExactFormsOfSpec.pre6 enc Try.prog Try.f3 Rows.fnExactFormsOfRow.domain false) (Rows.fnExactFormsOfSpec.post enc Try.prog Try.f3 false true false false) := by
  refine returnsInHanded_of_change (C := Try.checked) ownRow started (by kernel_rfl) Try.func3
    (ChangeSpec.witness6 (enc := enc) (C := Try.checked) false ⟨#[], #[.string ⟨#[]⟩], []⟩ 8 (by kernel_rfl) (by kernel_rfl) (by kernel_rfl) (by kernel_rfl)) ?_
  intro W base args ds gs before hval0 hW hcnd _
  have hval : ∀ (j : Nat) t v, Try.f3.params[j]? = some t → args[j]? = some v → Value.okWide Try.prog W .any base t v := hval0
  have hW' := hW
  obtain ⟨p, q, hA0, hV, rfl, hfz, hnd⟩ := hW
  have hA : DataW.TrodAll enc Try.prog W 0 (fun _ => true) true Try.f3.params.toList args.toList ds p := hA0
  rw [Try.params3] at hA hval
  obtain ⟨v0, vs0, d0, ds0, p0, q0, hargs, rfl, rfl, h0, r0⟩ := trodAll_cons hA
  obtain ⟨rfl, rfl, rfl⟩ := trodAll_nil r0
  obtain rfl : args = #[v0] := by cases args; simp_all
  obtain ⟨rfl, rfl⟩ := trodVars_none hV
  have k0 := h0
  have lt0 : ∀ x ∈ p0, x.block < W.heap.size := by obtain ⟨m, hm⟩ := k0; exact DataW.trod_lt m _ _ _ hm
  obtain ⟨a0, rfl, rfl, rfl, w_a0⟩ := open_string Try.underlying9 (hval 0 9 v0 rfl rfl) h0
  clear hA0 hval0
  refine (walk_FnExactFormsOf a0 W w_a0).mono fun e W' ⟨he, bel⟩ => ?_
  subst he
  exact ⟨_, rfl, _, _, _, [], _, [], hW', trodAll_mk1 (shut_bool Try.underlying4 _), (trodAll_cons_mk (Below.trod laidRow (by kernel_rfl) (of_decide_eq_true (by kernel_rfl)) k0 bel lt0) trodAll_mk0), rfl, bel.frame _, fun h => by cases h⟩

theorem over_FnExactFormsOf : Rows.fnExactFormsOfRow.holds Try.pinned (OpenSpec.ofChange Rows.fnExactFormsOfSpec) :=
  OpenClaim.holds_of_wide 3 Try.f3 rfl rfl rfl rfl rfl rfl rfl ⟨rfl, rfl, rfl, rfl, rfl⟩ rfl rfl rfl rfl rfl (by kernel_rfl) Try.func3 (by kernel_rfl)
    (of_decide_eq_true (by kernel_rfl)) (by unfold Func.isWrapper; first | (rw [if_pos (by decide +kernel)]; kernel_rfl) | (rw [if_neg (by decide +kernel)]; exact ⟨rfl, rfl⟩))
    (fun os started H enc _ => lifted_FnExactFormsOf os started H enc)

theorem said_FnExactFormsOf : Rows.FnExactFormsOfSaid := over_FnExactFormsOf
end Go.Proofs.Ytlnccdbmchjhlaa
