import Derived.Test.YtfnobjejjjpkoaaCh10r
import Derived.Test.YtfnobjejjjpkoaaMark
import Derived.Test.YtfnobjejjjpkoaaRow2
namespace Go.Proofs.Ytfnobjejjjpkoaa
set_option linter.unusedVariables false
set_option linter.unusedSimpArgs false
open Go Go.RowKit Go.ChangeShapes Go.WideShapes Go.ChangeAt
open Go.ChangeMaps (open_string shut_string)

set_option maxHeartbeats 1000000 in
theorem walk_FnExactCompletionsOf (a : Option Addr) (c : Nat) (l : List ByteArray) (p : ByteArray) (w : World) (hr : Rd w a (strsV l)) (hl' : l.length ≤ maxLen) (hs' : ∀ s ∈ l, s.size ≤ maxLen) (hp' : p.size ≤ maxLen) :
    Calls Try.prog 3 #[lexV a l.length c, .string p] w (Ret (.bool true) w) := by
  have HRD : Hid (∀ w', Ext w w' → Rd w' a (strsV l)) := hid (fun w' k => hr.ext k)
  by_cases hp : p.size ≤ 1048576
  case neg =>
    unfold maxLen at hp'
    go_enter Try.func3, Try.ntmps3
    go_wp2_with fail
    go_returns
    exact ⟨rfl, (Ext.refl w).alloc _⟩
  case pos =>
  go_enter Try.func3, Try.ntmps3
  go_wp2_with fail
  refine (szLexicon_any a c l _ _ (HRD.out _ ((Ext.refl w).alloc _)) hl' hs' (by omega) (by omega)).mono ?_
  rintro e w1 ⟨rfl, hx⟩
  have hE := ((Ext.refl w).alloc _).trans hx
  have b0 := hx.cell (b := w.heap.size) (o := 0) (v := .slice a l.length c) (by simp)
  clear hx hr hl' hs' hp'
  by_cases hn : szX 1048576 l < 0
  · go_wp2_with fail
    go_returns
    exact ⟨rfl, hE⟩
  · obtain ⟨z1, z2⟩ := szX_ok (by omega) hn
    have hl : l.length ≤ 1048576 := by omega
    have hs : ∀ s ∈ l, s.size ≤ 1048576 := fun s h => by have := sumL_mem h; omega
    have hn1 : ¬ szX 1048576 l < 0 := hn
    obtain ⟨V, hV⟩ : ∃ V : ByteArray, comX l p = V := ⟨_, rfl⟩
    obtain ⟨K, hK⟩ : ∃ K : Int, comC l p = K := ⟨_, rfl⟩
    have HS := hid (fun a c w h => sCompletionsOf_any a c l p w h hl hs hp)
    have HI := hid (fun a c w h => CompletionsOf_any a c l p w h hl hs hp)
    rw [hV, hK] at HS HI
    clear hV hK
    -- the reference
    go_wp2_with fail
    refine (toLexicon_any a c l _ (HRD.out _ hE) hl).mono ?_
    rintro e w2 ⟨a1, c1, rfl, ho1, hx⟩
    replace b0 := hx.cell b0
    replace hE := hE.trans hx
    clear hx
    have R1 := hid ho1.rd
    clear ho1
    have hA := World.block_lt_of_cell? _ _ b0
    go_wp2_with fail
    refine (HS.out _ _ _ R1.out).mono ?_
    rintro e w3 ⟨rfl, hx⟩
    replace b0 := hx.cell b0
    replace hE := hE.trans hx
    clear hx R1
    -- x0
    go_wp2_with fail
    refine (toLexicon_any a c l _ (HRD.out _ hE) hl).mono ?_
    rintro e w4 ⟨a3, c3, rfl, ho3, hx⟩
    replace b0 := hx.cell b0
    replace hE := hE.trans hx
    have I3 := hid ho3.rd
    have hlt := World.block_lt_of_cell? _ _ b0
    clear hx ho3
    -- the program
    go_wp2_with fail
    refine (HI.out _ _ _ (I3.out.ext ((Ext.refl w4).alloc (.cells #[.slice a3 l.length c3] 28)))).mono ?_
    rintro e w5 ⟨rfl, hx⟩
    have x0 := hx.cell (b := w4.heap.size) (o := 0) (v := .slice a3 l.length c3) (by simp)
    replace hx := ((Ext.refl w4).alloc _).trans hx
    replace b0 := hx.cell b0
    replace hE := hE.trans hx
    replace I3 := hid (I3.out.ext hx)
    clear hx
    go_wp2_with fail
    refine wp_region_flow_at (C := Ext) 4 [fun v _ => v = .agg #[.slice a3 l.length c3], fun v _ => v = .agg #[.slice a l.length c], fun v w' => LexIs l v w', fun v _ => v = .bool true]
      [[(8, none)], [(2, none)], [(43, some 1)], [(42, some 0), (44, some 2)]] (by kernel_rfl) (by kernel_rfl) Ext.refl (fun _ _ _ => Ext.trans) ?_ ?_ ?_
    · intro F hF
      simp only [List.mem_cons, List.not_mem_nil, or_false] at hF
      rcases hF with rfl | rfl | rfl | rfl
      · exact fun _ _ _ h _ => h
      · exact fun _ _ _ h _ => h
      · exact fun _ _ _ h k => h.ext k
      · exact fun _ _ _ h _ => h
    · refine ⟨?_, ?_, ?_, ?_, trivial⟩
      · rintro ρ w1 hw hcst hfn hk
        have c0 := hw.cell (b := w4.heap.size) (o := 0) (v := .slice a3 l.length c3) (by first | (simp [*]; done) | (simp [*, go_sem]; done) | go_cell)
        clear hw
        simp only [known, List.getD_cons_zero, List.getD_cons_succ, Nat.reduceAdd] at hk
        simp only [List.getD_cons_zero, List.getD_cons_succ, Nat.reduceAdd, flowAt]
        go_simp
        exact ⟨Ext.refl _, by first | rfl | trivial⟩
      · rintro ρ w1 hw hcst hfn hk
        have c0 := hw.cell (b := w.heap.size) (o := 0) (v := .slice a l.length c) (by first | (simp [*]; done) | (simp [*, go_sem]; done) | go_cell)
        clear hw
        simp only [known, List.getD_cons_zero, List.getD_cons_succ, Nat.reduceAdd] at hk
        simp only [List.getD_cons_zero, List.getD_cons_succ, Nat.reduceAdd, flowAt]
        go_simp
        exact ⟨Ext.refl _, by first | rfl | trivial⟩
      · rintro ρ w1 hw hcst hfn hk
        simp only [known, List.getD_cons_zero, List.getD_cons_succ, Nat.reduceAdd] at hk
        simp only [List.getD_cons_zero, List.getD_cons_succ, Nat.reduceAdd, flowAt]
        go_simp
        exact flow_lex (toLexicon_any a c l _ (HRD.out _ (hE.trans ((Ext.refl _).drew.trans hw))) hl)
      · rintro ρ w1 hw hcst hfn hk
        simp only [known, List.getD_cons_zero, List.getD_cons_succ, Nat.reduceAdd] at hk
        simp only [List.getD_cons_zero, List.getD_cons_succ, Nat.reduceAdd, flowAt]
        go_simp
        (obtain ⟨a5, c5, e5, r5⟩ := hk.2.1; rw [e5]; exact flow_ret (eqLexicon_self a3 a5 c3 c5 l _ (I3.out.ext ((Ext.refl _).drew.trans hw)) r5 hl))
    intro vs w1 hw hf
    simp only [flowFacts, Nat.reduceAdd] at hf
    obtain ⟨e0, e1, e2, e3, -⟩ := hf
    simp only [List.take_succ_cons, List.take_zero, List.drop_succ_cons, List.drop_zero, putAll, Act.put, Nat.reduceAdd, List.setIfInBounds_toArray, List.set_cons_zero, List.set_cons_succ, e0, e1, e2, e3]
    clear e0 e1 e2 e3
    replace hx := (Ext.refl _).drew.trans hw
    clear hw
    replace hE := hE.trans hx
    clear hx b0 x0
    go_wp2_with fail
    go_returns
    exact ⟨rfl, hE⟩

set_option maxRecDepth 100000 in
theorem lifted_FnExactCompletionsOf (os : Os) (started : os.Started) (H : Type) (enc : TypeId × Value → H) :
    ReturnsInHanded {} Try.checked os 3 .any (Rows.fnExactCompletionsOfSpec.pre6 enc Try.prog Try.f3 Rows.fnExactCompletionsOfRow.domain false) (Rows.fnExactCompletionsOfSpec.post enc Try.prog Try.f3 false true false false) := by
  refine returnsInHanded_of_change (C := Try.checked) ownRow started (by kernel_rfl) Try.func3
    (ChangeSpec.witness6 (enc := enc) (C := Try.checked) false ⟨#[], #[.agg #[.slice none 0 0], .string ⟨#[]⟩], []⟩ 8 (by kernel_rfl) (by kernel_rfl) (by kernel_rfl) (by kernel_rfl)) ?_
  intro W base args ds gs before hval0 hW hcnd _
  have hval : ∀ (j : Nat) t v, Try.f3.params[j]? = some t → args[j]? = some v → Value.okWide Try.prog W .any base t v := hval0
  have hW' := hW
  obtain ⟨p, q, hA0, hV, rfl, hfz, hnd⟩ := hW
  have hA : DataW.TrodAll enc Try.prog W 0 (fun _ => true) true Try.f3.params.toList args.toList ds p := hA0
  rw [Try.params3] at hA hval
  obtain ⟨v0, vs0, d0, ds0, p0, q0, hargs, rfl, rfl, h0, r0⟩ := trodAll_cons hA
  obtain ⟨v1, vs1, d1, ds1, p1, q1, rfl, rfl, rfl, h1, r1⟩ := trodAll_cons r0
  obtain ⟨rfl, rfl, rfl⟩ := trodAll_nil r1
  obtain rfl : args = #[v0, v1] := by cases args; simp_all
  obtain ⟨rfl, rfl⟩ := trodVars_none hV
  have k0 := h0
  have lt0 : ∀ x ∈ p0, x.block < W.heap.size := by obtain ⟨m, hm⟩ := k0; exact DataW.trod_lt m _ _ _ hm
  have k1 := h1
  have lt1 : ∀ x ∈ p1, x.block < W.heap.size := by obtain ⟨m, hm⟩ := k1; exact DataW.trod_lt m _ _ _ hm
  obtain ⟨a0_a, a0_c, a0_l, rfl, r_a0, n_a0, z_a0⟩ := open_lex Try.underlying24 (by kernel_rfl) (by kernel_rfl) Try.underlying22 Try.underlying9 (by kernel_rfl) (hval 0 24 v0 rfl rfl) h0
  obtain ⟨a1, rfl, rfl, rfl, w_a1⟩ := open_string Try.underlying9 (hval 1 9 v1 rfl rfl) h1
  clear hA0 hval0
  refine (walk_FnExactCompletionsOf a0_a a0_c a0_l a1 W r_a0 n_a0 z_a0 w_a1).mono fun e W' ⟨he, bel⟩ => ?_
  subst he
  exact ⟨_, rfl, _, _, _, [], _, [], hW', trodAll_mk1 (shut_bool Try.underlying4 _), (trodAll_cons_mk (Below.trod laidRow (by kernel_rfl) (of_decide_eq_true (by kernel_rfl)) k0 bel lt0) (trodAll_cons_mk (Below.trod laidRow (by kernel_rfl) (of_decide_eq_true (by kernel_rfl)) k1 bel lt1) trodAll_mk0)), rfl, bel.frame _, fun h => by cases h⟩

theorem over_FnExactCompletionsOf : Rows.fnExactCompletionsOfRow.holds Try.pinned (OpenSpec.ofChange Rows.fnExactCompletionsOfSpec) :=
  OpenClaim.holds_of_wide 3 Try.f3 rfl rfl rfl rfl rfl rfl rfl ⟨rfl, rfl, rfl, rfl, rfl⟩ rfl rfl rfl rfl rfl (by kernel_rfl) Try.func3 (by kernel_rfl)
    (of_decide_eq_true (by kernel_rfl)) (by unfold Func.isWrapper; first | (rw [if_pos (by decide +kernel)]; kernel_rfl) | (rw [if_neg (by decide +kernel)]; exact ⟨rfl, rfl⟩))
    (fun os started H enc _ => lifted_FnExactCompletionsOf os started H enc)

theorem said_FnExactCompletionsOf : Rows.FnExactCompletionsOfSaid := over_FnExactCompletionsOf
end Go.Proofs.Ytfnobjejjjpkoaa
