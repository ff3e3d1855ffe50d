import Derived.Test.YtflpiebiacainaaCh05j
import Derived.Test.YtflpiebiacainaaLexC
import Derived.Test.YtflpiebiacainaaRowW
namespace Go.Proofs.Ytflpiebiacainaa
set_option linter.unusedVariables false
set_option linter.unusedSimpArgs false
open Go Go.RowKit Go.ChangeShapes Go.WideShapes Go.ChangeAt
open Go.ChangeMaps (open_string shut_string)

set_option maxHeartbeats 2000000 in
theorem walk_FnExactMakeLexicon (a : Option Addr) (c : Nat) (l : List ByteArray) (w : World) (hr : Rd w a (strsV l)) (hl' : l.length ≤ maxLen) (hs' : ∀ s ∈ l, s.size ≤ maxLen) :
    Calls Try.prog 4 #[.slice a l.length c] w (Ret (.bool true) w) := by
  have HRD : Hid (∀ w', Ext w w' → Rd w' a (strsV l)) := hid (fun w' k => hr.ext k)
  go_enter Try.func4, Try.ntmps4
  go_wp2_with fail
  refine (szStringS_any a c l _ _ (HRD.out _ (Ext.refl w)) hl' hs' (by omega) (by omega)).mono ?_
  rintro e wa ⟨rfl, hx⟩
  have hE : Ext w wa := by rw [hx]; exact Ext.refl _
  clear hx hr hl' hs'
  by_cases hn : szL 1048576 l < 0
  · go_wp2_with fail
    go_returns
    exact ⟨rfl, hE⟩
  · obtain ⟨z1, z2⟩ := szL_ok (by omega) hn
    have hl : l.length ≤ 1048576 := by omega
    have hs : ∀ s ∈ l, s.size ≤ 1048576 := fun s h => by have := sumL_mem h; omega
    obtain ⟨V, hV⟩ : ∃ V, makX l = V := ⟨_, rfl⟩
    obtain ⟨K, hK⟩ : ∃ K, makC l = K := ⟨_, rfl⟩
    have HB : Hid (V.length ≤ 1048576) := hid (by rw [← hV]; exact makX_le l hl)
    have HS := hid (fun a c w h => sMakeLexicon_any a c l w h (by omega) hs)
    have HI := hid (fun a c w h => MakeLexicon_any a c l w h hl hs)
    rw [hV, hK] at HS HI
    clear hV hK z1 z2
    go_wp2_with fail
    refine (toStringS_any a c l _ (HRD.out _ hE) hl).mono ?_
    rintro e w2 ⟨a1, c1, rfl, ho1, hx⟩
    replace hE := hE.trans hx
    clear hx
    have R1 := hid ho1.rd
    clear ho1
    rw [strsV_length]
    go_wp2_with fail
    refine (HS.out _ _ _ R1.out).mono ?_
    rintro e w3 ⟨a2, c2, rfl, I2', hx⟩
    have I2 := hid I2'
    replace hE := hE.trans hx
    clear hx I2' R1
    have hw3 := hE.size
    -- the box of the reference's answer, and the copy
    go_wp2_with fail
    refine (toStringS_any a c l _ (HRD.out _ (hE.trans ((Ext.refl w3).alloc _))) hl).mono ?_
    rintro e w4 ⟨a3, c3, rfl, ho3, hx⟩
    have x4 := hx.cell (b := w3.heap.size) (o := 0) (v := .slice a2 V.length c2) (by simp)
    have I3 := hid ho3.inR
    have hz3 := hx.size
    simp only [World.size_alloc] at hz3
    rw [World.size_alloc] at I3
    replace hx := ((Ext.refl w3).alloc _).trans hx
    replace hE := hE.trans hx
    replace I2 := hid (I2.out.ext hx)
    clear hx ho3
    rw [strsV_length]
    -- the program
    go_wp2_with fail
    refine (HI.out _ _ _ I3.out.rd).mono ?_
    rintro e w5 ⟨a4, c4, rfl, I4', hx⟩
    have hz4 := hx.size
    have I4 := hid I4'
    replace x4 := hx.cell x4
    replace hE := hE.trans hx
    replace I2 := hid (I2.out.ext hx)
    replace I3 := hid (I3.out.ext hx)
    clear hx I4'
    have hl4 := World.block_lt_of_cell? _ _ x4
    go_wp2_with fail
    refine (eqLexicon_self a4 a2 c4 c2 V _ (I4.out.ext ((Ext.refl w5).alloc (.cells #[.slice a4 V.length c4] 26))).rd (I2.out.ext ((Ext.refl w5).alloc (.cells #[.slice a4 V.length c4] 26))).rd HB.out).mono ?_
    rintro e w6 ⟨rfl, hx⟩
    have x7 := hx.cell (b := w5.heap.size) (o := 0) (v := .slice a4 V.length c4) (by simp)
    have hz5 := hx.size
    simp only [World.size_alloc] at hz5
    replace hx := ((Ext.refl w5).alloc _).trans hx
    replace x4 := hx.cell x4
    replace hE := hE.trans hx
    replace I2 := hid (I2.out.ext hx)
    replace I3 := hid (I3.out.ext hx)
    replace I4 := hid (I4.out.ext hx)
    clear hx
    go_wp2_with fail
    refine (toStringS_any a c l _ (HRD.out _ hE) hl).mono ?_
    rintro e w7 ⟨a5, c5, rfl, ho5, hx⟩
    replace hE := hE.trans hx
    replace x4 := hx.cell x4
    replace x7 := hx.cell x7
    have hz6 := hx.size
    replace I2 := hid (I2.out.ext hx)
    replace I3 := hid (I3.out.ext hx)
    replace I4 := hid (I4.out.ext hx)
    have R5 := hid ho5.rd
    clear hx ho5
    rw [strsV_length]
    go_wp2_with fail
    refine (eqStringS_self a3 a5 c3 c5 l _ I3.out.rd R5.out hl).mono ?_
    rintro e w8 ⟨rfl, hx'⟩
    have hx := hx'.ext
    replace hE := hE.trans hx
    replace x4 := hx.cell x4
    replace x7 := hx.cell x7
    have hz7 := hx.size
    replace I2 := hid (I2.out.ext hx)
    replace I3 := hid (I3.out.ext hx)
    replace I4 := hid (I4.out.ext hx)
    clear hx hx' R5
    go_wp2_with fail
    refine (markS_any _ _ a3 c3 l 1 _ I3.out hl (by omega) (by omega)).mono ?_
    rintro e w9 ⟨rfl, hr3, hx⟩
    replace x4 := hx.cell x4 (by omega)
    replace x7 := hx.cell x7 (by omega)
    replace hE := hx.ext0 hE (by omega)
    have hz8 := hx.size
    replace I2 := hid (hx.inR I2.out (by omega))
    replace I4 := hid (hx.inR I4.out (by omega))
    clear hx hr3 I3
    go_wp2_with fail
    refine (eqLexicon_self a4 a2 c4 c2 V _ I4.out.rd I2.out.rd HB.out).mono ?_
    rintro e w10 ⟨rfl, hx⟩
    replace x4 := hx.cell x4
    replace x7 := hx.cell x7
    replace hE := hE.trans hx
    have hz9 := hx.size
    replace I2 := hid (I2.out.ext hx)
    replace I4 := hid (I4.out.ext hx)
    clear hx
    go_wp2_with fail
    refine (markX_any _ _ a4 c4 V 1 _ I4.out HB.out (by omega) (by omega)).mono ?_
    rintro e w11 ⟨rfl, hr4, hx⟩
    replace x4 := hx.cell x4 (by omega)
    replace x7 := hx.cell x7 (by omega)
    replace hE := hx.ext0 hE (by omega)
    have hza := hx.size
    replace I2 := hid (hx.inR I2.out (by omega))
    replace I4 := hid hr4
    clear hx hr4
    have hq : ((1 + V.length : Nat) : Int) = 1 + (V.length : Int) := by omega
    go_wp2_with fail
    refine (heldX_any a4 c4 V.length 1 _ I4.out.rd HB.out (by omega) (by omega)).mono ?_
    rintro e w12 ⟨rfl, hx⟩
    replace x4 := hx.cell x4
    replace x7 := hx.cell x7
    replace hE := hE.trans hx
    replace I2 := hid (I2.out.ext hx)
    replace I4 := hid (I4.out.ext hx)
    clear hx
    go_wp2_with fail
    refine (toStringS_any a c l _ (HRD.out _ hE) hl).mono ?_
    rintro e w13 ⟨a6, c6, rfl, ho6, hx⟩
    replace hE := hE.trans hx
    replace x4 := hx.cell x4
    replace x7 := hx.cell x7
    replace I2 := hid (I2.out.ext hx)
    replace I4 := hid (I4.out.ext hx)
    have R6 := hid ho6.rd
    clear hx ho6
    rw [strsV_length]
    go_wp2_with fail
    refine (HI.out _ _ _ R6.out).mono ?_
    rintro e w14 ⟨a7, c7, rfl, I7, hx⟩
    replace hE := hE.trans hx
    replace x4 := hx.cell x4
    replace x7 := hx.cell x7
    replace I2 := hid (I2.out.ext hx)
    replace I4 := hid (I4.out.ext hx)
    have R7 := hid I7.rd
    clear hx I7
    have hm6 := World.block_lt_of_cell? _ _ x4
    have hm9 := World.block_lt_of_cell? _ _ x7
    go_wp2_with fail
    refine (eqLexicon_self a7 a2 c7 c2 V _ (R7.out.ext ((Ext.refl w14).alloc (.cells #[.slice a7 V.length c7] 26))) (I2.out.ext ((Ext.refl w14).alloc (.cells #[.slice a7 V.length c7] 26))).rd HB.out).mono ?_
    rintro e w15 ⟨rfl, hx⟩
    replace hx := ((Ext.refl w14).alloc _).trans hx
    replace hE := hE.trans hx
    replace x7 := hx.cell x7
    replace I4 := hid (I4.out.ext hx)
    clear hx
    go_wp2_with fail
    refine (heldX_any a4 c4 V.length 1 _ I4.out.rd HB.out (by omega) (by omega)).mono ?_
    rintro e w16 ⟨rfl, hx⟩
    replace hE := hE.trans hx
    clear hx
    go_wp2_with fail
    go_returns
    exact ⟨rfl, hE⟩

set_option maxRecDepth 100000 in
theorem lifted_FnExactMakeLexicon (os : Os) (started : os.Started) (H : Type) (enc : TypeId × Value → H) :
    ReturnsInHanded {} Try.checked os 4 .any (Rows.fnExactMakeLexiconSpec.pre6 enc Try.prog Try.f4 Rows.fnExactMakeLexiconRow.domain false) (Rows.fnExactMakeLexiconSpec.post enc Try.prog Try.f4 false true false false) := by
  refine returnsInHanded_of_change (C := Try.checked) ownRow started (by kernel_rfl) Try.func4
    (ChangeSpec.witness6 (enc := enc) (C := Try.checked) false ⟨#[], #[.slice none 0 0], []⟩ 8 (by kernel_rfl) (by kernel_rfl) (by kernel_rfl) (by kernel_rfl)) ?_
  intro W base args ds gs before hval0 hW hcnd _
  have hval : ∀ (j : Nat) t v, Try.f4.params[j]? = some t → args[j]? = some v → Value.okWide Try.prog W .any base t v := hval0
  have hW' := hW
  obtain ⟨p, q, hA0, hV, rfl, hfz, hnd⟩ := hW
  have hA : DataW.TrodAll enc Try.prog W 0 (fun _ => true) true Try.f4.params.toList args.toList ds p := hA0
  rw [Try.params4] at hA hval
  obtain ⟨v0, vs0, d0, ds0, p0, q0, hargs, rfl, rfl, h0, r0⟩ := trodAll_cons hA
  obtain ⟨rfl, rfl, rfl⟩ := trodAll_nil r0
  obtain rfl : args = #[v0] := by cases args; simp_all
  obtain ⟨rfl, rfl⟩ := trodVars_none hV
  have k0 := h0
  have lt0 : ∀ x ∈ p0, x.block < W.heap.size := by obtain ⟨m, hm⟩ := k0; exact DataW.trod_lt m _ _ _ hm
  obtain ⟨a0_a, a0_c, a0_l, rfl, r_a0, n_a0, z_a0⟩ := open_words Try.underlying22 Try.underlying9 (by kernel_rfl) (hval 0 22 v0 rfl rfl) h0
  clear hA0 hval0
  refine (walk_FnExactMakeLexicon a0_a a0_c a0_l W r_a0 n_a0 z_a0).mono fun e W' ⟨he, bel⟩ => ?_
  subst he
  exact ⟨_, rfl, _, _, _, [], _, [], hW', trodAll_mk1 (shut_bool Try.underlying4 _), (trodAll_cons_mk (Below.trod laidRow (by kernel_rfl) (of_decide_eq_true (by kernel_rfl)) k0 bel lt0) trodAll_mk0), rfl, bel.frame _, fun h => by cases h⟩

theorem over_FnExactMakeLexicon : Rows.fnExactMakeLexiconRow.holds Try.pinned (OpenSpec.ofChange Rows.fnExactMakeLexiconSpec) :=
  OpenClaim.holds_of_wide 4 Try.f4 rfl rfl rfl rfl rfl rfl rfl ⟨rfl, rfl, rfl, rfl, rfl⟩ rfl rfl rfl rfl rfl (by kernel_rfl) Try.func4 (by kernel_rfl)
    (of_decide_eq_true (by kernel_rfl)) (by unfold Func.isWrapper; first | (rw [if_pos (by decide +kernel)]; kernel_rfl) | (rw [if_neg (by decide +kernel)]; exact ⟨rfl, rfl⟩))
    (fun os started H enc _ => lifted_FnExactMakeLexicon os started H enc)

theorem said_FnExactMakeLexicon : Rows.FnExactMakeLexiconSaid := over_FnExactMakeLexicon
end Go.Proofs.Ytflpiebiacainaa
