import Derived.Test.YtflpiebiacainaaCh05g
import Derived.Test.YtflpiebiacainaaLexC
import Derived.Test.YtflpiebiacainaaRow2
namespace Go.Proofs.Ytflpiebiacainaa
set_option linter.unusedVariables false
set_option linter.unusedSimpArgs false
open Go Go.RowKit Go.ChangeShapes Go.WideShapes Go.ChangeAt
open Go.ChangeMaps (open_string shut_string)

set_option maxHeartbeats 2000000 in
theorem walk_FnExactAddWord (a : Option Addr) (c : Nat) (l : List ByteArray) (p : ByteArray) (w : World) (hr : Rd w a (strsV l)) (hl' : l.length ≤ maxLen) (hs' : ∀ s ∈ l, s.size ≤ maxLen) (hp' : p.size ≤ maxLen) :
    Calls Try.prog 3 #[lexV a l.length c, .string p] w (Ret (.bool true) w) := by
  have HRD : Hid (∀ w', Ext w w' → Rd w' a (strsV l)) := hid (fun w' k => hr.ext k)
  by_cases hp : p.size ≤ 1048576
  case neg =>
    unfold maxLen at hp'
    go_enter Try.func3, Try.ntmps3
    go_wp2_with fail
    go_returns
    exact ⟨rfl, (Ext.refl w).alloc _⟩
  case pos =>
  go_enter Try.func3, Try.ntmps3
  go_wp2_with fail
  refine (szLexicon_any a c l _ _ (HRD.out _ ((Ext.refl w).alloc _)) hl' hs' (by omega) (by omega)).mono ?_
  rintro e wa ⟨rfl, hx⟩
  have hE := ((Ext.refl w).alloc _).trans hx
  have b0 := hx.cell (b := w.heap.size) (o := 0) (v := .slice a l.length c) (by simp)
  clear hx hr hl' hs' hp'
  by_cases hn : szX 1048576 l < 0
  · go_wp2_with fail
    go_returns
    exact ⟨rfl, hE⟩
  · obtain ⟨z1, z2⟩ := szX_ok (by omega) hn
    have hl : l.length ≤ 1048576 := by omega
    have hs : ∀ s ∈ l, s.size ≤ 1048576 := fun s h => by have := sumL_mem h; omega
    obtain ⟨V, hV⟩ : ∃ V, addL l p = V := ⟨_, rfl⟩
    obtain ⟨K, hK⟩ : ∃ K, addC l p = K := ⟨_, rfl⟩
    have HB : Hid (V.length ≤ 1048576) := hid (by rw [← hV]; exact addL_le l p hl)
    have HS := hid (fun a w h => sAddWord_any a l.length l p w h hl hs hp (Nat.le_refl _))
    have HI := hid (fun a c w h => AddWord_any a c l p w h hl hs hp)
    rw [hV, hK] at HS HI
    clear hV hK
    go_wp2_with fail
    refine (toLexicon_cap a c l _ (HRD.out _ hE) hl).mono ?_
    rintro e w2 ⟨a1, rfl, ho1, hx⟩
    replace b0 := hx.cell b0
    replace hE := hE.trans hx
    clear hx
    have R1 := hid ho1.rd
    clear ho1
    go_wp2_with fail
    refine (HS.out _ _ R1.out).mono ?_
    rintro e w3 ⟨a2, c2, rfl, I2', hx⟩
    have I2 := hid I2'
    replace b0 := hx.cell b0
    have hA := World.block_lt_of_cell? _ _ b0
    replace hE := hE.trans hx
    clear hx I2' R1
    -- the box of the reference's answer, and the copy
    go_wp2_with fail
    refine (toLexicon_any a c l _ (HRD.out _ (hE.trans ((Ext.refl w3).alloc _))) hl).mono ?_
    rintro e w4 ⟨a3, c3, rfl, ho3, hx⟩
    have x6 := hx.cell (b := w3.heap.size) (o := 0) (v := .slice a2 V.length c2) (by simp)
    have I3 := hid ho3.inR
    have hz3 := hx.size
    simp only [World.size_alloc] at hz3
    rw [World.size_alloc] at I3
    have hlb := World.block_lt_of_cell? _ _ b0
    replace hx := ((Ext.refl w3).alloc _).trans hx
    replace b0 := hx.cell b0
    replace hE := hE.trans hx
    replace I2 := hid (I2.out.ext hx)
    clear hx ho3
    -- the program
    go_wp2_with fail
    refine (HI.out _ _ _ ((I3.out.ext ((Ext.refl w4).alloc (.cells #[.slice a3 l.length c3] 26))).rd)).mono ?_
    rintro e w5 ⟨a4, c4, rfl, I4', hx⟩
    have x8 := hx.cell (b := w4.heap.size) (o := 0) (v := .slice a3 l.length c3) (by simp)
    have hz4 := hx.size
    simp only [World.size_alloc] at hz4
    rw [World.size_alloc] at I4'
    have I4 := hid I4'
    have hl6 := World.block_lt_of_cell? _ _ x6
    replace hx := ((Ext.refl w4).alloc _).trans hx
    replace b0 := hx.cell b0
    replace x6 := hx.cell x6
    replace hE := hE.trans hx
    replace I2 := hid (I2.out.ext hx)
    replace I3 := hid (I3.out.ext hx)
    clear hx I4'
    have hl8 := World.block_lt_of_cell? _ _ x8
    have hl6b := World.block_lt_of_cell? _ _ x6
    have hlb2 := World.block_lt_of_cell? _ _ b0
    go_wp2_with fail
    refine (eqLexicon_self a4 a2 c4 c2 V _ (I4.out.ext ((Ext.refl w5).alloc (.cells #[.slice a4 V.length c4] 26))).rd (I2.out.ext ((Ext.refl w5).alloc (.cells #[.slice a4 V.length c4] 26))).rd HB.out).mono ?_
    rintro e w6 ⟨rfl, hx⟩
    have x9 := hx.cell (b := w5.heap.size) (o := 0) (v := .slice a4 V.length c4) (by simp)
    have hz5 := hx.size
    simp only [World.size_alloc] at hz5
    replace hx := ((Ext.refl w5).alloc _).trans hx
    replace b0 := hx.cell b0
    replace x6 := hx.cell x6
    replace x8 := hx.cell x8
    replace hE := hE.trans hx
    replace I2 := hid (I2.out.ext hx)
    replace I3 := hid (I3.out.ext hx)
    replace I4 := hid (I4.out.ext hx)
    clear hx
    go_wp2_with fail
    refine wp_region_flow_at (C := Ext) 4 [fun v _ => v = .agg #[.slice a3 l.length c3], fun v _ => v = .agg #[.slice a l.length c], fun v w' => LexIs l v w', fun v _ => v = .bool true]
      [[(8, none)], [(2, none)], [(49, some 1)], [(48, some 0), (50, some 2)]] (by kernel_rfl) (by kernel_rfl) Ext.refl (fun _ _ _ => Ext.trans) ?_ ?_ ?_
    · intro F hF
      simp only [List.mem_cons, List.not_mem_nil, or_false] at hF
      rcases hF with rfl | rfl | rfl | rfl
      · exact fun _ _ _ h _ => h
      · exact fun _ _ _ h _ => h
      · exact fun _ _ _ h k => h.ext k
      · exact fun _ _ _ h _ => h
    · refine ⟨?_, ?_, ?_, ?_, trivial⟩
      · rintro ρ w1 hw hcst hfn hk
        have c0 := hw.cell (b := w4.heap.size) (o := 0) (v := .slice a3 l.length c3) (by first | (simp [*]; done) | (simp [*, go_sem]; done) | go_cell)
        clear hw
        simp only [known, List.getD_cons_zero, List.getD_cons_succ, Nat.reduceAdd] at hk
        simp only [List.getD_cons_zero, List.getD_cons_succ, Nat.reduceAdd, flowAt]
        go_simp
        exact ⟨Ext.refl _, by first | rfl | trivial⟩
      · rintro ρ w1 hw hcst hfn hk
        have c0 := hw.cell (b := w.heap.size) (o := 0) (v := .slice a l.length c) (by first | (simp [*]; done) | (simp [*, go_sem]; done) | go_cell)
        clear hw
        simp only [known, List.getD_cons_zero, List.getD_cons_succ, Nat.reduceAdd] at hk
        simp only [List.getD_cons_zero, List.getD_cons_succ, Nat.reduceAdd, flowAt]
        go_simp
        exact ⟨Ext.refl _, by first | rfl | trivial⟩
      · rintro ρ w1 hw hcst hfn hk
        simp only [known, List.getD_cons_zero, List.getD_cons_succ, Nat.reduceAdd] at hk
        simp only [List.getD_cons_zero, List.getD_cons_succ, Nat.reduceAdd, flowAt]
        go_simp
        exact flow_lex (toLexicon_any a c l _ (HRD.out _ (hE.trans ((Ext.refl _).drew.trans hw))) hl)
      · rintro ρ w1 hw hcst hfn hk
        simp only [known, List.getD_cons_zero, List.getD_cons_succ, Nat.reduceAdd] at hk
        simp only [List.getD_cons_zero, List.getD_cons_succ, Nat.reduceAdd, flowAt]
        go_simp
        (obtain ⟨a5, c5, e5, r5⟩ := hk.2.1; rw [e5]; exact flow_ret (eqLexicon_self a3 a5 c3 c5 l _ (I3.out.ext ((Ext.refl _).drew.trans hw)).rd r5 hl))
    intro vs w1 hw hf
    simp only [flowFacts, Nat.reduceAdd] at hf
    obtain ⟨e0, e1, e2, e3, -⟩ := hf
    simp only [List.take_succ_cons, List.take_zero, List.drop_succ_cons, List.drop_zero, putAll, Act.put, Nat.reduceAdd, List.setIfInBounds_toArray, List.set_cons_zero, List.set_cons_succ, e0, e1, e2, e3]
    clear e0 e1 e2 e3
    replace hx := (Ext.refl _).drew.trans hw
    clear hw
    replace b0 := hx.cell b0
    replace x6 := hx.cell x6
    replace x8 := hx.cell x8
    replace x9 := hx.cell x9
    replace hE := hE.trans hx
    have hz6 := hx.size
    replace I2 := hid (I2.out.ext hx)
    replace I3 := hid (I3.out.ext hx)
    replace I4 := hid (I4.out.ext hx)
    clear hx
    go_wp2_with fail
    refine (markX_any _ _ a3 c3 l 1 _ I3.out hl (by omega) (by omega)).mono ?_
    rintro e w8 ⟨rfl, hr3, hx⟩
    replace b0 := hx.cell b0 (by omega)
    replace x6 := hx.cell x6 (by omega)
    replace x9 := hx.cell x9 (by omega)
    replace hE := hx.ext0 hE (by omega)
    have hz7 := hx.size
    replace I2 := hid (hx.inR I2.out (by omega))
    replace I4 := hid (hx.inR I4.out (by omega))
    clear hx hr3 x8 I3
    go_wp2_with fail
    refine (eqLexicon_self a4 a2 c4 c2 V _ I4.out.rd I2.out.rd HB.out).mono ?_
    rintro e w9 ⟨rfl, hx⟩
    replace b0 := hx.cell b0
    replace x6 := hx.cell x6
    replace x9 := hx.cell x9
    replace hE := hE.trans hx
    have hz8 := hx.size
    replace I2 := hid (I2.out.ext hx)
    replace I4 := hid (I4.out.ext hx)
    clear hx
    go_wp2_with fail
    refine (markX_any _ _ a4 c4 V 1 _ I4.out HB.out (by omega) (by omega)).mono ?_
    rintro e w10 ⟨rfl, hr4, hx⟩
    replace b0 := hx.cell b0 (by omega)
    replace x6 := hx.cell x6 (by omega)
    replace x9 := hx.cell x9 (by omega)
    replace hE := hx.ext0 hE (by omega)
    have hz9 := hx.size
    replace I2 := hid (hx.inR I2.out (by omega))
    replace I4 := hid hr4
    clear hx hr4
    have hq : ((1 + V.length : Nat) : Int) = 1 + (V.length : Int) := by omega
    go_wp2_with fail
    refine (heldX_any a4 c4 V.length 1 _ I4.out.rd HB.out (by omega) (by omega)).mono ?_
    rintro e w11 ⟨rfl, hx⟩
    replace b0 := hx.cell b0
    replace x6 := hx.cell x6
    replace x9 := hx.cell x9
    replace hE := hE.trans hx
    replace I2 := hid (I2.out.ext hx)
    replace I4 := hid (I4.out.ext hx)
    clear hx
    go_wp2_with fail
    refine (toLexicon_any a c l _ (HRD.out _ hE) hl).mono ?_
    rintro e w12 ⟨a6, c6, rfl, ho6, hx⟩
    replace hE := hE.trans hx
    replace x6 := hx.cell x6
    replace x9 := hx.cell x9
    replace I2 := hid (I2.out.ext hx)
    replace I4 := hid (I4.out.ext hx)
    have R6 := hid ho6.rd
    clear hx ho6 b0
    go_wp2_with fail
    refine (HI.out _ _ _ R6.out).mono ?_
    rintro e w13 ⟨a7, c7, rfl, I7, hx⟩
    replace hE := hE.trans hx
    replace x6 := hx.cell x6
    replace x9 := hx.cell x9
    replace I2 := hid (I2.out.ext hx)
    replace I4 := hid (I4.out.ext hx)
    have R7 := hid I7.rd
    clear hx I7
    have hm6 := World.block_lt_of_cell? _ _ x6
    have hm9 := World.block_lt_of_cell? _ _ x9
    go_wp2_with fail
    refine (eqLexicon_self a7 a2 c7 c2 V _ (R7.out.ext ((Ext.refl w13).alloc (.cells #[.slice a7 V.length c7] 26))) (I2.out.ext ((Ext.refl w13).alloc (.cells #[.slice a7 V.length c7] 26))).rd HB.out).mono ?_
    rintro e w14 ⟨rfl, hx⟩
    replace hx := ((Ext.refl w13).alloc _).trans hx
    replace hE := hE.trans hx
    replace x9 := hx.cell x9
    replace I4 := hid (I4.out.ext hx)
    clear hx
    go_wp2_with fail
    refine (heldX_any a4 c4 V.length 1 _ I4.out.rd HB.out (by omega) (by omega)).mono ?_
    rintro e w15 ⟨rfl, hx⟩
    replace hE := hE.trans hx
    clear hx
    go_wp2_with fail
    go_returns
    exact ⟨rfl, hE⟩

set_option maxRecDepth 100000 in
theorem lifted_FnExactAddWord (os : Os) (started : os.Started) (H : Type) (enc : TypeId × Value → H) :
    ReturnsInHanded {} Try.checked os 3 .any (Rows.fnExactAddWordSpec.pre6 enc Try.prog Try.f3 Rows.fnExactAddWordRow.domain false) (Rows.fnExactAddWordSpec.post enc Try.prog Try.f3 false true false false) := by
  refine returnsInHanded_of_change (C := Try.checked) ownRow started (by kernel_rfl) Try.func3
    (ChangeSpec.witness6 (enc := enc) (C := Try.checked) false ⟨#[], #[.agg #[.slice none 0 0], .string ⟨#[]⟩], []⟩ 8 (by kernel_rfl) (by kernel_rfl) (by kernel_rfl) (by kernel_rfl)) ?_
  intro W base args ds gs before hval0 hW hcnd _
  have hval : ∀ (j : Nat) t v, Try.f3.params[j]? = some t → args[j]? = some v → Value.okWide Try.prog W .any base t v := hval0
  have hW' := hW
  obtain ⟨p, q, hA0, hV, rfl, hfz, hnd⟩ := hW
  have hA : DataW.TrodAll enc Try.prog W 0 (fun _ => true) true Try.f3.params.toList args.toList ds p := hA0
  rw [Try.params3] at hA hval
  obtain ⟨v0, vs0, d0, ds0, p0, q0, hargs, rfl, rfl, h0, r0⟩ := trodAll_cons hA
  obtain ⟨v1, vs1, d1, ds1, p1, q1, rfl, rfl, rfl, h1, r1⟩ := trodAll_cons r0
  obtain ⟨rfl, rfl, rfl⟩ := trodAll_nil r1
  obtain rfl : args = #[v0, v1] := by cases args; simp_all
  obtain ⟨rfl, rfl⟩ := trodVars_none hV
  have k0 := h0
  have lt0 : ∀ x ∈ p0, x.block < W.heap.size := by obtain ⟨m, hm⟩ := k0; exact DataW.trod_lt m _ _ _ hm
  have k1 := h1
  have lt1 : ∀ x ∈ p1, x.block < W.heap.size := by obtain ⟨m, hm⟩ := k1; exact DataW.trod_lt m _ _ _ hm
  obtain ⟨a0_a, a0_c, a0_l, rfl, r_a0, n_a0, z_a0⟩ := open_lex Try.underlying24 (by kernel_rfl) (by kernel_rfl) Try.underlying22 Try.underlying9 (by kernel_rfl) (hval 0 24 v0 rfl rfl) h0
  obtain ⟨a1, rfl, rfl, rfl, w_a1⟩ := open_string Try.underlying9 (hval 1 9 v1 rfl rfl) h1
  clear hA0 hval0
  refine (walk_FnExactAddWord a0_a a0_c a0_l a1 W r_a0 n_a0 z_a0 w_a1).mono fun e W' ⟨he, bel⟩ => ?_
  subst he
  exact ⟨_, rfl, _, _, _, [], _, [], hW', trodAll_mk1 (shut_bool Try.underlying4 _), (trodAll_cons_mk (Below.trod laidRow (by kernel_rfl) (of_decide_eq_true (by kernel_rfl)) k0 bel lt0) (trodAll_cons_mk (Below.trod laidRow (by kernel_rfl) (of_decide_eq_true (by kernel_rfl)) k1 bel lt1) trodAll_mk0)), rfl, bel.frame _, fun h => by cases h⟩

theorem over_FnExactAddWord : Rows.fnExactAddWordRow.holds Try.pinned (OpenSpec.ofChange Rows.fnExactAddWordSpec) :=
  OpenClaim.holds_of_wide 3 Try.f3 rfl rfl rfl rfl rfl rfl rfl ⟨rfl, rfl, rfl, rfl, rfl⟩ rfl rfl rfl rfl rfl (by kernel_rfl) Try.func3 (by kernel_rfl)
    (of_decide_eq_true (by kernel_rfl)) (by unfold Func.isWrapper; first | (rw [if_pos (by decide +kernel)]; kernel_rfl) | (rw [if_neg (by decide +kernel)]; exact ⟨rfl, rfl⟩))
    (fun os started H enc _ => lifted_FnExactAddWord os started H enc)

theorem said_FnExactAddWord : Rows.FnExactAddWordSaid := over_FnExactAddWord
end Go.Proofs.Ytflpiebiacainaa
