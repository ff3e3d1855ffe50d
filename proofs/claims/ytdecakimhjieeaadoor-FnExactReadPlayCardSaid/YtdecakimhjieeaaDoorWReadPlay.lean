/- FnExactReadPlay: whatever it is given, it says yes. -/
import Derived.Test.YtdecakimhjieeaaDoorCh12v
import Derived.Test.YtdecakimhjieeaaDoorLwE
import Derived.Test.YtdecakimhjieeaaDoorRowN
import Derived.Test.YtdecakimhjieeaaDoorRowT
namespace Go.Proofs.YtdecakimhjieeaaDoor
set_option linter.unusedVariables false
set_option linter.unusedSimpArgs false
open Go Go.RowKit Go.ChangeShapes Go.WideShapes Go.ChangeAt Go.Lib
open Go.ChangeMaps (open_string shut_string)

set_option maxHeartbeats 1000000 in
theorem walk_FnExactReadPlay (s : ByteArray) (w : World) (hp' : s.size ≤ maxLen) (hN : NumF w) (hT : Tabs w) :
    Calls Tryd.prog 6 #[.string s] w (Ret (.bool true) w) := by
  by_cases hs : s.size ≤ 1048576
  case neg =>
    unfold maxLen at hp'
    go_enter Tryd.func6, Tryd.ntmps6
    go_wp2_with fail
    go_returns
    exact ⟨rfl, Ext.refl w⟩
  case pos =>
  obtain ⟨r, c, d, p, b, hv⟩ := readP_cases s
  have HTB := hid (fun w' (k : Ext w w') => hT.ext k)
  have HN := hid (fun w' (k : Ext w w') => hN.ext k)
  have HS := hid (fun w' => sReadPlay_any s w' hs)
  have HI := hid (fun w' h h2 => ReadPlay_any s w' hs h h2)
  rw [hv] at HS HI
  clear hv hN hT hp'
  go_enter Tryd.func6, Tryd.ntmps6
  go_wp2_with fail
  refine (HS.out _).mono ?_
  rintro e w1 ⟨rfl, hx⟩
  have hE := hx
  clear hx
  go_wp2_with fail
  refine (HI.out _ (HN.out _ (hE.alloc _)) (HTB.out _ (hE.alloc _))).mono ?_
  rintro e w2 ⟨rfl, hx⟩
  have x0 := hx.cell (b := w1.heap.size) (o := 0) (v := .int .i64 r) (by simp)
  have x1 := hx.cell (b := w1.heap.size) (o := 1) (v := .int .i64 c) (by simp)
  have x2 := hx.cell (b := w1.heap.size) (o := 2) (v := .bool d) (by simp)
  have x3 := hx.cell (b := w1.heap.size) (o := 3) (v := .string p) (by simp)
  replace hE := (hE.alloc _).trans hx
  have hlt := World.block_lt_of_cell? _ _ x0
  clear hx
  go_wp2_with fail
  refine (eqPlay_self _ _ _ _ _).mono ?_
  rintro e w3 ⟨rfl, hx⟩
  replace hE := (hE.alloc _).trans hx
  clear hx
  cases b
  · go_wp2_with fail
    go_returns
    exact ⟨rfl, hE⟩
  · go_wp2_with fail
    go_returns
    exact ⟨rfl, hE⟩

set_option maxRecDepth 100000 in
theorem lifted_FnExactReadPlay (os : Os) (started : os.Started) (H : Type) (enc : TypeId × Value → H) :
    ReturnsInHanded {} Tryd.checked os 6 .any (fun w args => (Rows.fnExactReadPlaySpec.pre enc Tryd.prog Tryd.f6 [] false w args ∧ laidMetH Tryd.prog Rows.fnExactReadPlayRow.laid w) ∧ sizedMet enc Tryd.prog Tryd.f6 (OpenSpec.ofChange Rows.fnExactReadPlaySpec) false w args)
      (Rows.fnExactReadPlaySpec.post enc Tryd.prog Tryd.f6 false true false false) := by
  refine handed_shaped_and (C := Tryd.checked) (X := fun w _ => laidMetH Tryd.prog Rows.fnExactReadPlayRow.laid w) (fun _ _ _ hh h => h.of_heap hh) ownRow started (by kernel_rfl) Tryd.func6
    (ChangeSpec.witness_shaped (enc := enc) (C := Tryd.checked) (os := os) (X := fun w _ => laidMetH Tryd.prog Rows.fnExactReadPlayRow.laid w) false (World.laidAll Tryd.prog os Rows.fnExactReadPlayRow.laid) #[.string ⟨#[]⟩] 8 (World.laidAll_os _ _ _)
      (World.shaped_of_ZipB (by kernel_rfl) (by kernel_rfl)) (by kernel_rfl) (by kernel_rfl) (by kernel_rfl)
      (by rw [MakeChecks.laidMetH_plain _ _ _ (by kernel_rfl)]; exact laidMet_laidAll _ (by kernel_rfl) (by kernel_rfl))) ?_
  intro W base args ds gs before hval0 hW hSh hL
  have hval : ∀ (j : Nat) t v, Tryd.f6.params[j]? = some t → args[j]? = some v → Value.okWide Tryd.prog W .any base t v := hval0
  have hW' := hW
  obtain ⟨p, q, hA0, hV, rfl, hfz, hnd⟩ := hW
  have hA : DataW.TrodAll enc Tryd.prog W 0 (fun _ => true) true Tryd.f6.params.toList args.toList ds p := hA0
  rw [Tryd.params6] at hA hval
  obtain ⟨v0, vs0, d0, ds0, p0, q0, hargs, rfl, rfl, h0, r0⟩ := trodAll_cons hA
  obtain ⟨rfl, rfl, rfl⟩ := trodAll_nil r0
  obtain rfl : args = #[v0] := by cases args; simp_all
  obtain ⟨rfl, rfl⟩ := trodVars_none hV
  have k0 := h0
  have lt0 : ∀ x ∈ p0, x.block < W.heap.size := by obtain ⟨m, hm⟩ := k0; exact DataW.trod_lt m _ _ _ hm
  obtain ⟨a0, rfl, rfl, rfl, w_a0⟩ := open_string Tryd.underlying9 (hval 0 9 v0 rfl rfl) h0
  clear hA0 hval0
  rw [MakeChecks.laidMetH_plain _ _ _ (by kernel_rfl)] at hL
  refine (walk_FnExactReadPlay a0 W w_a0 (num_of hSh hL) (tabs_of hL (by first | exact .head _ | exact .tail _ (.head _) | exact .tail _ (.tail _ (.head _)) | exact .tail _ (.tail _ (.tail _ (.head _))) | exact .tail _ (.tail _ (.tail _ (.tail _ (.head _)))) | exact .tail _ (.tail _ (.tail _ (.tail _ (.tail _ (.head _))))) | exact .tail _ (.tail _ (.tail _ (.tail _ (.tail _ (.tail _ (.head _)))))) | exact .tail _ (.tail _ (.tail _ (.tail _ (.tail _ (.tail _ (.tail _ (.head _))))))) | exact .tail _ (.tail _ (.tail _ (.tail _ (.tail _ (.tail _ (.tail _ (.tail _ (.head _))))))))) (by first | exact .head _ | exact .tail _ (.head _) | exact .tail _ (.tail _ (.head _)) | exact .tail _ (.tail _ (.tail _ (.head _))) | exact .tail _ (.tail _ (.tail _ (.tail _ (.head _)))) | exact .tail _ (.tail _ (.tail _ (.tail _ (.tail _ (.head _))))) | exact .tail _ (.tail _ (.tail _ (.tail _ (.tail _ (.tail _ (.head _)))))) | exact .tail _ (.tail _ (.tail _ (.tail _ (.tail _ (.tail _ (.tail _ (.head _))))))) | exact .tail _ (.tail _ (.tail _ (.tail _ (.tail _ (.tail _ (.tail _ (.tail _ (.head _))))))))) (by first | exact .head _ | exact .tail _ (.head _) | exact .tail _ (.tail _ (.head _)) | exact .tail _ (.tail _ (.tail _ (.head _))) | exact .tail _ (.tail _ (.tail _ (.tail _ (.head _)))) | exact .tail _ (.tail _ (.tail _ (.tail _ (.tail _ (.head _))))) | exact .tail _ (.tail _ (.tail _ (.tail _ (.tail _ (.tail _ (.head _)))))) | exact .tail _ (.tail _ (.tail _ (.tail _ (.tail _ (.tail _ (.tail _ (.head _))))))) | exact .tail _ (.tail _ (.tail _ (.tail _ (.tail _ (.tail _ (.tail _ (.tail _ (.head _))))))))))).mono fun e W' ⟨he, bel⟩ => ?_
  subst he
  exact ⟨_, rfl, _, _, _, [], _, [], hW', trodAll_mk1 (shut_bool Tryd.underlying4 _), (trodAll_cons_mk (Below.trod laidRow (by kernel_rfl) (of_decide_eq_true (by kernel_rfl)) k0 bel lt0) trodAll_mk0), rfl, bel.frame _, fun h => by cases h⟩

theorem over_FnExactReadPlay : Rows.fnExactReadPlayRow.holds Tryd.pinned (OpenSpec.ofChange Rows.fnExactReadPlaySpec) :=
  OpenClaim.holds_of_wide 6 Tryd.f6 rfl rfl rfl rfl rfl rfl rfl ⟨rfl, rfl, rfl, rfl, rfl⟩ rfl rfl rfl rfl rfl (by kernel_rfl) Tryd.func6 (by kernel_rfl)
    (of_decide_eq_true (by kernel_rfl)) (by unfold Func.isWrapper; first | (rw [if_pos (by decide +kernel)]; kernel_rfl) | (rw [if_neg (by decide +kernel)]; exact ⟨rfl, rfl⟩))
    (fun os started H enc _ => lifted_FnExactReadPlay os started H enc)

theorem said_FnExactReadPlay : Rows.FnExactReadPlayCardSaid :=
  Claim7.holds_tied_plain_at .later [] [.data, .data, .data, .data, .sentinel, .sentinel, .pinned, .pinned] true (true, "ce7a12549d1d8ddb5c7adcc3294065b1399697da1522717694f1a315c1036089") true over_FnExactReadPlay (fun _ h => by cases h) (by kernel_rfl) (fun _ h => by cases h) fnExactReadPlay_row_tie rfl ⟨rfl, rfl⟩ (by kernel_rfl) rfl
    (fun f fn hf hfn => by
      obtain rfl : f = 6 := Option.some.inj ((show Tryd.prog.funcNamed "loop.example/g00911/laws.FnExactReadPlay" = some 6 by kernel_rfl).symm.trans hf) |>.symm
      obtain rfl : fn = Tryd.f6 := (Option.some.inj (Tryd.func6.symm.trans hfn)).symm
      exact ⟨by kernel_rfl, fun j t ht => by
        rw [Tryd.params6] at ht
        have hm : t ∈ [9] := by simpa using Array.mem_of_getElem? ht
        have hall : ([9].all fun u => !Tryd.prog.wantsStandIn u) = true := by kernel_rfl
        exact (show Tryd.prog.wantsStandIn t = false by simpa using List.all_eq_true.1 hall t hm)⟩)
    (by kernel_rfl)
end Go.Proofs.YtdecakimhjieeaaDoor
