import Derived.Test.YtaigabenlccdaaaCh10t
import Derived.Test.YtaigabenlccdaaaCh10u
import Derived.Test.YtaigabenlccdaaaMark
import Derived.Test.YtaigabenlccdaaaRow2
namespace Go.Proofs.Ytaigabenlccdaaa
set_option linter.unusedVariables false
set_option linter.unusedSimpArgs false
open Go Go.RowKit Go.ChangeShapes Go.WideShapes Go.ChangeAt
open Go.ChangeMaps (open_string shut_string)

set_option maxHeartbeats 2000000 in
theorem walk_FnExactLadderBetween (a : Option Addr) (c : Nat) (l : List ByteArray) (p q : ByteArray) (w : World) (hr : Rd w a (strsV l)) (hl' : l.length ≤ maxLen) (hs' : ∀ s ∈ l, s.size ≤ maxLen) (hp' : p.size ≤ maxLen) (hq' : q.size ≤ maxLen) :
    Calls Try.prog 3 #[lexV a l.length c, .string p, .string q] w (Ret (.bool true) w) := by
  have HRD : Hid (∀ w', Ext w w' → Rd w' a (strsV l)) := hid (fun w' k => hr.ext k)
  by_cases hp : p.size ≤ 1048576
  case neg =>
    unfold maxLen at hp'
    go_enter Try.func3, Try.ntmps3
    go_wp2_with fail
    go_returns
    exact ⟨rfl, (Ext.refl w).alloc _⟩
  case pos =>
  by_cases hq : q.size ≤ 1048576
  case neg =>
    unfold maxLen at hq'
    go_enter Try.func3, Try.ntmps3
    go_wp2_with fail
    go_returns
    exact ⟨rfl, (Ext.refl w).alloc _⟩
  case pos =>
  go_enter Try.func3, Try.ntmps3
  go_wp2_with fail
  refine (szLexicon_any a c l _ _ (HRD.out _ ((Ext.refl w).alloc _)) hl' hs' (by omega) (by omega)).mono ?_
  rintro e w1 ⟨rfl, hx⟩
  have hE := ((Ext.refl w).alloc _).trans hx
  have b0 := hx.cell (b := w.heap.size) (o := 0) (v := .slice a l.length c) (by simp)
  clear hx hr hl' hs' hp' hq'
  by_cases hn : szX 1048576 l < 0
  · go_wp2_with fail
    go_returns
    exact ⟨rfl, hE⟩
  · obtain ⟨z1, z2⟩ := szX_ok (by omega) hn
    have hl : l.length ≤ 1048576 := by omega
    have hs : ∀ s ∈ l, s.size ≤ 1048576 := fun s h => by have := sumL_mem h; omega
    have hn1 : ¬ szX 1048576 l < 0 := hn
    obtain ⟨V, hV⟩ : ∃ V, ladL l p q = V := ⟨_, rfl⟩
    obtain ⟨K, hK⟩ : ∃ K, ladC l p q = K := ⟨_, rfl⟩
    have HV := hid hV
    have HB : Hid (V.length ≤ 1048576) := hid (by rw [← hV]; exact ladL_le l p q)
    have HS := hid (fun a c w h => sLadderBetween_any a c l p q w h hl hs hp hq)
    have HI := hid (fun a c w h => LadderBetween_any a c l p q w h hl hs hp hq)
    rw [hV, hK] at HS HI
    clear hV hK
    -- the first call of the reference
    go_wp2_with fail
    refine (toLexicon_any a c l _ (HRD.out _ hE) hl).mono ?_
    rintro e w2 ⟨a1, c1, rfl, ho1, hx⟩
    replace b0 := hx.cell b0
    replace hE := hE.trans hx
    clear hx
    have R1 := hid ho1.rd
    clear ho1
    have hA := World.block_lt_of_cell? _ _ b0
    go_wp2_with fail
    refine (HS.out _ _ _ R1.out).mono ?_
    rintro e w3 ⟨a2, c2, rfl, ho2, hx⟩
    replace b0 := hx.cell b0
    replace hE := hE.trans hx
    have hz2 := hx.size
    have I2 := hid ho2.inR
    clear hx ho2 R1
    -- x0
    go_wp2_with fail
    refine (toLexicon_any a c l _ (HRD.out _ hE) hl).mono ?_
    rintro e w4 ⟨a3, c3, rfl, ho3, hx⟩
    replace b0 := hx.cell b0
    replace hE := hE.trans hx
    have hz3 := hx.size
    replace I2 := hid (I2.out.ext hx)
    have I3 := hid ho3.inR
    have hlt := World.block_lt_of_cell? _ _ b0
    clear hx ho3
    -- the program
    go_wp2_with fail
    refine (HI.out _ _ _ ((I3.out.ext ((Ext.refl w4).alloc (.cells #[.slice a3 l.length c3] 28))).rd)).mono ?_
    rintro e w5 ⟨a4, c4, rfl, ho4, hx⟩
    have x0 := hx.cell (b := w4.heap.size) (o := 0) (v := .slice a3 l.length c3) (by simp)
    have hz4 := hx.size
    simp only [World.size_alloc] at hz4
    have I4 := hid ho4.inR
    rw [World.size_alloc] at I4
    replace hx := ((Ext.refl w4).alloc _).trans hx
    replace b0 := hx.cell b0
    replace hE := hE.trans hx
    replace I2 := hid (I2.out.ext hx)
    replace I3 := hid (I3.out.ext hx)
    clear hx ho4
    go_wp2_with fail
    refine (eqStringS_self a4 a2 c4 c2 V _ I4.out.rd I2.out.rd HB.out).mono ?_
    rintro e w6 ⟨rfl, hD⟩
    replace hx := hD.ext
    replace b0 := hx.cell b0
    replace x0 := hx.cell x0
    replace hE := hE.trans hx
    have hz5 := hx.size
    replace I2 := hid (I2.out.ext hx)
    replace I3 := hid (I3.out.ext hx)
    replace I4 := hid (I4.out.ext hx)
    clear hx hD
    go_wp2_with fail
    refine wp_region_flow_at (C := Ext) 4 [fun v _ => v = .agg #[.slice a3 l.length c3], fun v _ => v = .agg #[.slice a l.length c], fun v w' => LexIs l v w', fun v _ => v = .bool true]
      [[(10, none)], [(3, none)], [(56, some 1)], [(55, some 0), (57, some 2)]] (by kernel_rfl) (by kernel_rfl) Ext.refl (fun _ _ _ => Ext.trans) ?_ ?_ ?_
    · intro F hF
      simp only [List.mem_cons, List.not_mem_nil, or_false] at hF
      rcases hF with rfl | rfl | rfl | rfl
      · exact fun _ _ _ h _ => h
      · exact fun _ _ _ h _ => h
      · exact fun _ _ _ h k => h.ext k
      · exact fun _ _ _ h _ => h
    · refine ⟨?_, ?_, ?_, ?_, trivial⟩
      · rintro ρ w1 hw hcst hfn hk
        have c0 := hw.cell (b := w4.heap.size) (o := 0) (v := .slice a3 l.length c3) (by first | (simp [*]; done) | (simp [*, go_sem]; done) | go_cell)
        clear hw
        simp only [known, List.getD_cons_zero, List.getD_cons_succ, Nat.reduceAdd] at hk
        simp only [List.getD_cons_zero, List.getD_cons_succ, Nat.reduceAdd, flowAt]
        go_simp
        exact ⟨Ext.refl _, by first | rfl | trivial⟩
      · rintro ρ w1 hw hcst hfn hk
        have c0 := hw.cell (b := w.heap.size) (o := 0) (v := .slice a l.length c) (by first | (simp [*]; done) | (simp [*, go_sem]; done) | go_cell)
        clear hw
        simp only [known, List.getD_cons_zero, List.getD_cons_succ, Nat.reduceAdd] at hk
        simp only [List.getD_cons_zero, List.getD_cons_succ, Nat.reduceAdd, flowAt]
        go_simp
        exact ⟨Ext.refl _, by first | rfl | trivial⟩
      · rintro ρ w1 hw hcst hfn hk
        simp only [known, List.getD_cons_zero, List.getD_cons_succ, Nat.reduceAdd] at hk
        simp only [List.getD_cons_zero, List.getD_cons_succ, Nat.reduceAdd, flowAt]
        go_simp
        exact flow_lex (toLexicon_any a c l _ (HRD.out _ (hE.trans ((Ext.refl _).drew.trans hw))) hl)
      · rintro ρ w1 hw hcst hfn hk
        simp only [known, List.getD_cons_zero, List.getD_cons_succ, Nat.reduceAdd] at hk
        simp only [List.getD_cons_zero, List.getD_cons_succ, Nat.reduceAdd, flowAt]
        go_simp
        (obtain ⟨a5, c5, e5, r5⟩ := hk.2.1; rw [e5]; exact flow_ret (eqLexicon_self a3 a5 c3 c5 l _ (I3.out.ext ((Ext.refl _).drew.trans hw)).rd r5 hl))
    intro vs w1 hw hf
    simp only [flowFacts, Nat.reduceAdd] at hf
    obtain ⟨e0, e1, e2, e3, -⟩ := hf
    simp only [List.take_succ_cons, List.take_zero, List.drop_succ_cons, List.drop_zero, putAll, Act.put, Nat.reduceAdd, List.setIfInBounds_toArray, List.set_cons_zero, List.set_cons_succ, e0, e1, e2, e3]
    clear e0 e1 e2 e3
    replace hx := (Ext.refl _).drew.trans hw
    clear hw
    replace b0 := hx.cell b0
    replace x0 := hx.cell x0
    replace hE := hE.trans hx
    have hz6 := hx.size
    replace I2 := hid (I2.out.ext hx)
    replace I3 := hid (I3.out.ext hx)
    replace I4 := hid (I4.out.ext hx)
    clear hx
    go_wp2_with fail
    refine (markX_any _ _ a3 c3 l 1 _ I3.out hl (by omega) (by omega)).mono ?_
    rintro e w8 ⟨rfl, hr3, hx⟩
    replace b0 := hx.cell b0 (by omega)
    replace hE := hx.ext0 hE (by omega)
    have hz7 := hx.size
    replace I2 := hid (hx.inR I2.out (by omega))
    replace I4 := hid (hx.inR I4.out (by omega))
    clear hx hr3 x0 I3
    go_wp2_with fail
    refine (eqStringS_self a4 a2 c4 c2 V _ I4.out.rd I2.out.rd HB.out).mono ?_
    rintro e w9 ⟨rfl, hD⟩
    replace hx := hD.ext
    replace b0 := hx.cell b0
    replace hE := hE.trans hx
    have hz8 := hx.size
    replace I2 := hid (I2.out.ext hx)
    replace I4 := hid (I4.out.ext hx)
    clear hx hD
    go_wp2_with fail
    refine (markS_any _ _ a4 c4 V 1 _ I4.out HB.out (by omega) (by omega)).mono ?_
    rintro e w10 ⟨rfl, hr4, hx⟩
    replace b0 := hx.cell b0 (by omega)
    replace hE := hx.ext0 hE (by omega)
    have hz9 := hx.size
    replace I2 := hid (hx.inR I2.out (by omega))
    replace I4 := hid hr4
    clear hx hr4
    have hq9 : ((1 + V.length : Nat) : Int) = 1 + (V.length : Int) := by omega
    go_wp2_with fail
    refine (heldStringS_any a4 c4 V.length 1 _ I4.out.rd HB.out (by omega) (by omega)).mono ?_
    rintro e w11 ⟨rfl, hx⟩
    replace b0 := hx.cell b0
    replace hE := hE.trans hx
    replace I2 := hid (I2.out.ext hx)
    replace I4 := hid (I4.out.ext hx)
    clear hx
    go_wp2_with fail
    refine (toLexicon_any a c l _ (HRD.out _ hE) hl).mono ?_
    rintro e w12 ⟨a6, c6, rfl, ho6, hx⟩
    replace hE := hE.trans hx
    replace I2 := hid (I2.out.ext hx)
    replace I4 := hid (I4.out.ext hx)
    have R6 := hid ho6.rd
    clear hx ho6
    go_wp2_with fail
    refine (HI.out _ _ _ R6.out).mono ?_
    rintro e w13 ⟨a7, c7, rfl, ho7, hx⟩
    replace hE := hE.trans hx
    replace I2 := hid (I2.out.ext hx)
    replace I4 := hid (I4.out.ext hx)
    have R7 := hid ho7.rd
    clear hx ho7
    go_wp2_with fail
    refine (eqStringS_self a7 a2 c7 c2 V _ R7.out I2.out.rd HB.out).mono ?_
    rintro e w14 ⟨rfl, hD⟩
    replace hx := hD.ext
    replace hE := hE.trans hx
    replace I4 := hid (I4.out.ext hx)
    clear hx hD
    go_wp2_with fail
    refine (heldStringS_any a4 c4 V.length 1 _ I4.out.rd HB.out (by omega) (by omega)).mono ?_
    rintro e w15 ⟨rfl, hx⟩
    replace hE := hE.trans hx
    clear hx
    go_wp2_with fail
    go_returns
    exact ⟨rfl, hE⟩

set_option maxRecDepth 100000 in
theorem lifted_FnExactLadderBetween (os : Os) (started : os.Started) (H : Type) (enc : TypeId × Value → H) :
    ReturnsInHanded {} Try.checked os 3 .any (Rows.fnExactLadderBetweenSpec.pre6 enc Try.prog Try.f3 Rows.fnExactLadderBetweenRow.domain false) (Rows.fnExactLadderBetweenSpec.post enc Try.prog Try.f3 false true false false) := by
  refine returnsInHanded_of_change (C := Try.checked) ownRow started (by kernel_rfl) Try.func3
    (ChangeSpec.witness6 (enc := enc) (C := Try.checked) false ⟨#[], #[.agg #[.slice none 0 0], .string ⟨#[]⟩, .string ⟨#[]⟩], []⟩ 8 (by kernel_rfl) (by kernel_rfl) (by kernel_rfl) (by kernel_rfl)) ?_
  intro W base args ds gs before hval0 hW hcnd _
  have hval : ∀ (j : Nat) t v, Try.f3.params[j]? = some t → args[j]? = some v → Value.okWide Try.prog W .any base t v := hval0
  have hW' := hW
  obtain ⟨p, q, hA0, hV, rfl, hfz, hnd⟩ := hW
  have hA : DataW.TrodAll enc Try.prog W 0 (fun _ => true) true Try.f3.params.toList args.toList ds p := hA0
  rw [Try.params3] at hA hval
  obtain ⟨v0, vs0, d0, ds0, p0, q0, hargs, rfl, rfl, h0, r0⟩ := trodAll_cons hA
  obtain ⟨v1, vs1, d1, ds1, p1, q1, rfl, rfl, rfl, h1, r1⟩ := trodAll_cons r0
  obtain ⟨v2, vs2, d2, ds2, p2, q2, rfl, rfl, rfl, h2, r2⟩ := trodAll_cons r1
  obtain ⟨rfl, rfl, rfl⟩ := trodAll_nil r2
  obtain rfl : args = #[v0, v1, v2] := by cases args; simp_all
  obtain ⟨rfl, rfl⟩ := trodVars_none hV
  have k0 := h0
  have lt0 : ∀ x ∈ p0, x.block < W.heap.size := by obtain ⟨m, hm⟩ := k0; exact DataW.trod_lt m _ _ _ hm
  have k1 := h1
  have lt1 : ∀ x ∈ p1, x.block < W.heap.size := by obtain ⟨m, hm⟩ := k1; exact DataW.trod_lt m _ _ _ hm
  have k2 := h2
  have lt2 : ∀ x ∈ p2, x.block < W.heap.size := by obtain ⟨m, hm⟩ := k2; exact DataW.trod_lt m _ _ _ hm
  obtain ⟨a0_a, a0_c, a0_l, rfl, r_a0, n_a0, z_a0⟩ := open_lex Try.underlying24 (by kernel_rfl) (by kernel_rfl) Try.underlying22 Try.underlying9 (by kernel_rfl) (hval 0 24 v0 rfl rfl) h0
  obtain ⟨a1, rfl, rfl, rfl, w_a1⟩ := open_string Try.underlying9 (hval 1 9 v1 rfl rfl) h1
  obtain ⟨a2, rfl, rfl, rfl, w_a2⟩ := open_string Try.underlying9 (hval 2 9 v2 rfl rfl) h2
  clear hA0 hval0
  refine (walk_FnExactLadderBetween a0_a a0_c a0_l a1 a2 W r_a0 n_a0 z_a0 w_a1 w_a2).mono fun e W' ⟨he, bel⟩ => ?_
  subst he
  exact ⟨_, rfl, _, _, _, [], _, [], hW', trodAll_mk1 (shut_bool Try.underlying4 _), (trodAll_cons_mk (Below.trod laidRow (by kernel_rfl) (of_decide_eq_true (by kernel_rfl)) k0 bel lt0) (trodAll_cons_mk (Below.trod laidRow (by kernel_rfl) (of_decide_eq_true (by kernel_rfl)) k1 bel lt1) (trodAll_cons_mk (Below.trod laidRow (by kernel_rfl) (of_decide_eq_true (by kernel_rfl)) k2 bel lt2) trodAll_mk0))), rfl, bel.frame _, fun h => by cases h⟩

theorem over_FnExactLadderBetween : Rows.fnExactLadderBetweenRow.holds Try.pinned (OpenSpec.ofChange Rows.fnExactLadderBetweenSpec) :=
  OpenClaim.holds_of_wide 3 Try.f3 rfl rfl rfl rfl rfl rfl rfl ⟨rfl, rfl, rfl, rfl, rfl⟩ rfl rfl rfl rfl rfl (by kernel_rfl) Try.func3 (by kernel_rfl)
    (of_decide_eq_true (by kernel_rfl)) (by unfold Func.isWrapper; first | (rw [if_pos (by decide +kernel)]; kernel_rfl) | (rw [if_neg (by decide +kernel)]; exact ⟨rfl, rfl⟩))
    (fun os started H enc _ => lifted_FnExactLadderBetween os started H enc)

theorem said_FnExactLadderBetween : Rows.FnExactLadderBetweenSaid := over_FnExactLadderBetween
end Go.Proofs.Ytaigabenlccdaaa
