/- SameDawg: for every two automata the program's answer is the reference's. No condition. -/
import Derived.Test.YtlnccdbmchjhlaaDg6
import Derived.Test.YtlnccdbmchjhlaaRow5
namespace Go.Proofs.Ytlnccdbmchjhlaa
set_option linter.unusedVariables false
set_option linter.unusedSimpArgs false
open Go Go.RowKit Go.ChangeShapes Go.WideShapes Go.ChangeAt
open Go.ChangeMaps (open_string shut_string)
/-- An automaton with these nodes. -/
def DgIs (l : List Nd) (v : Value) (w : World) : Prop := ∃ a c L, ndsOf L = l ∧ v = dawgV a L.length c ∧ DgRd w a L
theorem DgIs.ext {l : List Nd} {v : Value} {w w' : World} (h : DgIs l v w) (k : Ext w w') : DgIs l v w' := by
  obtain ⟨a, c, L, h0, h1, h2⟩ := h
  exact ⟨a, c, L, h0, h1, h2.ext k⟩
theorem flow_dg {P : Program} {f : FuncId} {args : Array Value} {w : World} {l : List Nd} (h : Calls P f args w (RetDg l w)) : flowUpon P Ext w (fun v w' => DgIs l v w') (.ok (.enter f args) w) :=
  ⟨Ext.refl w, h.mono fun _ _ ⟨a, c, L, h0, he, ho, hn, hx⟩ => ⟨_, he, hx, a, c, L, h0, rfl, ho.dg hn⟩⟩
theorem sh_of {L : List NdP} {l : List Nd} (h : ndsOf L = l) (hs : ∀ d ∈ l, d.nx.length ≤ 1048576) : NdSh L := fun p hp => hs p.nd (by rw [← h]; exact List.mem_map_of_mem hp)

set_option maxHeartbeats 2000000 in
theorem walk_FnExactSameDawg (a : Option Addr) (c : Nat) (l : List NdP) (b : Option Addr) (d : Nat) (m : List NdP) (w : World) (hr : DgRd w a l) (hl' : l.length ≤ maxLen) (hs' : ∀ p ∈ l, p.nd.lt.size ≤ maxLen ∧ p.nd.nx.length ≤ maxLen) (hq : DgRd w b m) (hm' : m.length ≤ maxLen) (ht' : ∀ p ∈ m, p.nd.lt.size ≤ maxLen ∧ p.nd.nx.length ≤ maxLen) :
    Calls Try.prog 4 #[dawgV a l.length c, dawgV b m.length d] w (Ret (.bool true) w) := by
  have HRD : Hid (∀ w', Ext w w' → DgRd w' a l) := hid (fun w' k => hr.ext k)
  have HQD : Hid (∀ w', Ext w w' → DgRd w' b m) := hid (fun w' k => hq.ext k)
  have HZ1 := hid (fun w' (k : Ext w w') => szDawg_any a c l 1048576 w' (hr.ext k).1 hl' hs' (by omega) (by omega))
  go_enter Try.func4, Try.ntmps4
  go_wp2_with fail
  refine (HZ1.out _ (((Ext.refl w).alloc _).alloc _)).mono ?_
  rintro e w1 ⟨rfl, hx⟩
  have hE := (((Ext.refl w).alloc (.cells #[.slice a l.length c] 30)).alloc (.cells #[.slice b m.length d] 30)).trans hx
  have b0 := hx.cell (b := w.heap.size) (o := 0) (v := .slice a l.length c) (by go_cell)
  have b1 := hx.cell (b := w.heap.size + 1) (o := 0) (v := .slice b m.length d) (by go_cell)
  have hs1 := hx.size
  simp only [World.size_alloc] at hs1
  clear hx hr hq HZ1
  by_cases hn : szDg 1048576 (ndsOf l) < 0
  · go_wp2_with fail
    go_returns
    exact ⟨rfl, hE⟩
  · obtain ⟨z1, z2, z3, z4⟩ := szDg_ok (by omega) hn
    rw [ndsOf_length] at z1
    have hl : l.length ≤ 1048576 := by omega
    have HS1 : Hid (∀ d ∈ ndsOf l, d.nx.length ≤ 1048576) := hid (fun d hd => by have := z2 d hd; omega)
    obtain ⟨z, hz⟩ : ∃ z, szDg 1048576 (ndsOf l) = z := ⟨_, rfl⟩
    rw [hz] at z3 z4 hn ⊢
    have HZ2 := hid (fun w' (k : Ext w w') => szDawg_any b d m z w' (HQD.out w' k).1 hm' ht' z3 z4)
    clear z1 z2 hz hs' ht' hl' hm'
    go_wp2_with fail
    refine (HZ2.out _ hE).mono ?_
    rintro e w2 ⟨rfl, hx⟩
    replace hE := hE.trans hx
    replace b0 := hx.cell b0
    replace b1 := hx.cell b1
    replace hs1 := Nat.le_trans hs1 hx.size
    clear hx HZ2
    by_cases hn2 : szDg z (ndsOf m) < 0
    · go_wp2_with fail
      go_returns
      exact ⟨rfl, hE⟩
    · obtain ⟨y1, y2, y3, y4⟩ := szDg_ok z3 hn2
      rw [ndsOf_length] at y1
      have hm : m.length ≤ 1048576 := by omega
      have HS2 : Hid (∀ d ∈ ndsOf m, d.nx.length ≤ 1048576) := hid (fun d hd => by have := y2 d hd; omega)
      have hn3 : ¬ szDg z (ndsOf m) < 0 := hn2
      obtain ⟨V, hV⟩ : ∃ V, eqDg l m = V := ⟨_, rfl⟩
      have HB1 := hid (sh_of (L := l) rfl HS1.out)
      have HB2 := hid (sh_of (L := m) rfl HS2.out)
      have HLN1 : Hid (∀ L, ndsOf L = ndsOf l → L.length ≤ 1048576) := hid (fun L h => by rw [← ndsOf_length, h, ndsOf_length]; exact hl)
      have HLN2 : Hid (∀ L, ndsOf L = ndsOf m → L.length ≤ 1048576) := hid (fun L h => by rw [← ndsOf_length, h, ndsOf_length]; exact hm)
      have HSD : Hid (∀ a c b d L M w, ndsOf L = ndsOf l → ndsOf M = ndsOf m → DgRd w a L → DgRd w b M → Calls Try.prog 11 #[dawgV a L.length c, dawgV b M.length d] w (Ret (.bool V) w)) := hid (fun a c b d L M w h1 h2 r1 r2 => by
        rw [← hV, ← eqDg_congr h1 h2]
        exact sSameDawg_any a b c d L M w r1 r2 (HLN1.out L h1) (HLN2.out M h2) (sh_of h1 HS1.out) (sh_of h2 HS2.out))
      have HID : Hid (∀ a c b d L M w, ndsOf L = ndsOf l → ndsOf M = ndsOf m → DgRd w a L → DgRd w b M → Calls Try.prog 13 #[dawgV a L.length c, dawgV b M.length d] w (Ret (.bool V) w)) := hid (fun a c b d L M w h1 h2 r1 r2 => by
        rw [← hV, ← eqDg_congr h1 h2]
        exact SameDawg_any a b c d L M w r1 r2 (HLN1.out L h1) (HLN2.out M h2) (sh_of h1 HS1.out) (sh_of h2 HS2.out))
      clear hV y1 y2 y3 y4
      go_wp2_with fail
      refine wp_region_flow_at (C := Ext) 6 [fun v _ => v = .agg #[.slice a l.length c], fun v w' => DgIs (ndsOf l) v w', fun v _ => v = .agg #[.slice b m.length d], fun v w' => DgIs (ndsOf m) v w', fun v _ => v = .bool V, fun v _ => v = .bool V]
        [[(2, none)], [(20, some 0)], [(3, none)], [(22, some 2)], [(21, some 1), (23, some 3)], [(24, some 4)]] (by kernel_rfl) (by kernel_rfl) Ext.refl (fun _ _ _ => Ext.trans) ?_ ?_ ?_
      · intro F hF
        simp only [List.mem_cons, List.not_mem_nil, or_false] at hF
        rcases hF with rfl | rfl | rfl | rfl | rfl | rfl
        · exact fun _ _ _ h _ => h
        · exact fun _ _ _ h k => h.ext k
        · exact fun _ _ _ h _ => h
        · exact fun _ _ _ h k => h.ext k
        · exact fun _ _ _ h _ => h
        · exact fun _ _ _ h _ => h
      · refine ⟨?_, ?_, ?_, ?_, ?_, ?_, trivial⟩
        · rintro ρ w1 hw hcst hfn hk
          have c0 := hw.cell (b := w.heap.size) (o := 0) (v := .slice a l.length c) (by first | (simp [*]; done) | (simp [*, go_sem]; done) | go_cell)
          clear hw
          simp only [known, List.getD_cons_zero, List.getD_cons_succ, Nat.reduceAdd] at hk
          simp only [List.getD_cons_zero, List.getD_cons_succ, Nat.reduceAdd, flowAt]
          go_simp
          exact ⟨Ext.refl _, by first | rfl | trivial⟩
        · rintro ρ w1 hw hcst hfn hk
          simp only [known, List.getD_cons_zero, List.getD_cons_succ, Nat.reduceAdd] at hk
          simp only [List.getD_cons_zero, List.getD_cons_succ, Nat.reduceAdd, flowAt]
          go_simp
          exact flow_dg (toDawg_any a c l _ (HRD.out _ (hE.trans ((Ext.refl _).drew.trans hw))) hl HB1.out)
        · rintro ρ w1 hw hcst hfn hk
          have c0 := hw.cell (b := (w.heap.size + 1)) (o := 0) (v := .slice b m.length d) (by first | (simp [*]; done) | (simp [*, go_sem]; done) | go_cell)
          clear hw
          simp only [known, List.getD_cons_zero, List.getD_cons_succ, Nat.reduceAdd] at hk
          simp only [List.getD_cons_zero, List.getD_cons_succ, Nat.reduceAdd, flowAt]
          go_simp
          exact ⟨Ext.refl _, by first | rfl | trivial⟩
        · rintro ρ w1 hw hcst hfn hk
          simp only [known, List.getD_cons_zero, List.getD_cons_succ, Nat.reduceAdd] at hk
          simp only [List.getD_cons_zero, List.getD_cons_succ, Nat.reduceAdd, flowAt]
          go_simp
          exact flow_dg (toDawg_any b d m _ (HQD.out _ (hE.trans ((Ext.refl _).drew.trans hw))) hm HB2.out)
        · rintro ρ w1 hw hcst hfn hk
          simp only [known, List.getD_cons_zero, List.getD_cons_succ, Nat.reduceAdd] at hk
          simp only [List.getD_cons_zero, List.getD_cons_succ, Nat.reduceAdd, flowAt]
          go_simp
          (obtain ⟨a5, c5, L5, h5, e5, r5⟩ := hk.1; obtain ⟨a6, c6, L6, h6, e6, r6⟩ := hk.2.1; rw [e5, e6]; exact flow_ret (HSD.out _ _ _ _ _ _ _ h5 h6 r5 r6))
        · rintro ρ w1 hw hcst hfn hk
          clear hw
          simp only [known, List.getD_cons_zero, List.getD_cons_succ, Nat.reduceAdd] at hk
          simp only [List.getD_cons_zero, List.getD_cons_succ, Nat.reduceAdd, flowAt]
          go_simp
          exact ⟨Ext.refl _, by first | rfl | trivial⟩
      intro vs w1 hw hf
      simp only [flowFacts, Nat.reduceAdd] at hf
      obtain ⟨e0, e1, e2, e3, e4, e5, -⟩ := hf
      simp only [List.take_succ_cons, List.take_zero, List.drop_succ_cons, List.drop_zero, putAll, Act.put, Nat.reduceAdd, List.setIfInBounds_toArray, List.set_cons_zero, List.set_cons_succ, e0, e1, e2, e3, e4, e5]
      clear e0 e1 e2 e3 e4 e5
      have hx := (Ext.refl _).drew.trans hw
      clear hw
      replace hE := hE.trans hx
      replace b0 := hx.cell b0
      replace b1 := hx.cell b1
      replace hs1 := Nat.le_trans hs1 hx.size
      clear hx
      go_wp2_with fail
      refine (toDawg_any a c l _ (HRD.out _ hE) hl HB1.out).mono ?_
      rintro e w4 ⟨a3, c3, L3, hL3, rfl, ho3, hn3', hx⟩
      replace hE := hE.trans hx
      replace b0 := hx.cell b0
      replace b1 := hx.cell b1
      replace hs1 := Nat.le_trans hs1 hx.size
      have I3 := hid (ho3.dg hn3')
      have HL3 := hid hL3
      clear hx ho3 hn3' hL3
      have g1 := ((Ext.refl w4).alloc (.cells #[.slice a3 L3.length c3] 35)).cell b1
      go_wp2_with fail
      refine (toDawg_any b d m _ (HQD.out _ (hE.alloc _)) hm HB2.out).mono ?_
      rintro e w5 ⟨a4, c4, L4, hL4, rfl, ho4, hn4', hx⟩
      have x0 := hx.cell (b := w4.heap.size) (o := 0) (v := .slice a3 L3.length c3) (by simp)
      have hsx := hx.size
      rw [World.size_alloc] at hsx
      replace hx := ((Ext.refl w4).alloc (.cells #[.slice a3 L3.length c3] 35)).trans hx
      replace hE := hE.trans hx
      replace b0 := hx.cell b0
      replace b1 := hx.cell b1
      replace I3 := hid (I3.out.ext hx)
      have I4 := hid (ho4.dg hn4')
      have HL4 := hid hL4
      clear hx ho4 hn4' hL4 g1
      have k0 := ((Ext.refl w5).alloc (.cells #[.slice a4 L4.length c4] 35)).cell x0
      have HA5 := hid ((Ext.refl w5).alloc (.cells #[.slice a4 L4.length c4] 35))
      go_wp2_with fail
      refine (HID.out _ _ _ _ _ _ _ HL3.out HL4.out (I3.out.ext HA5.out) (I4.out.ext HA5.out)).mono ?_
      rintro e w6 ⟨rfl, hx⟩
      have x1 := hx.cell (b := w5.heap.size) (o := 0) (v := .slice a4 L4.length c4) (by simp)
      replace hx := HA5.out.trans hx
      replace hE := hE.trans hx
      replace b0 := hx.cell b0
      replace b1 := hx.cell b1
      replace x0 := hx.cell x0
      replace I3 := hid (I3.out.ext hx)
      replace I4 := hid (I4.out.ext hx)
      clear hx HA5 k0
      go_wp2_with fail
      refine wp_region_flow_at (C := Ext) 4 [fun v _ => v = .agg #[.slice a3 L3.length c3], fun v _ => v = .agg #[.slice a l.length c], fun v w' => DgIs (ndsOf l) v w', fun v _ => v = .bool true]
        [[(7, none)], [(2, none)], [(36, some 1)], [(35, some 0), (37, some 2)]] (by kernel_rfl) (by kernel_rfl) Ext.refl (fun _ _ _ => Ext.trans) ?_ ?_ ?_
      · intro F hF
        simp only [List.mem_cons, List.not_mem_nil, or_false] at hF
        rcases hF with rfl | rfl | rfl | rfl
        · exact fun _ _ _ h _ => h
        · exact fun _ _ _ h _ => h
        · exact fun _ _ _ h k => h.ext k
        · exact fun _ _ _ h _ => h
      · refine ⟨?_, ?_, ?_, ?_, trivial⟩
        · rintro ρ w1 hw hcst hfn hk
          have c0 := hw.cell (b := w4.heap.size) (o := 0) (v := .slice a3 L3.length c3) (by first | (simp [*]; done) | (simp [*, go_sem]; done) | go_cell)
          clear hw
          simp only [known, List.getD_cons_zero, List.getD_cons_succ, Nat.reduceAdd] at hk
          simp only [List.getD_cons_zero, List.getD_cons_succ, Nat.reduceAdd, flowAt]
          go_simp
          exact ⟨Ext.refl _, by first | rfl | trivial⟩
        · rintro ρ w1 hw hcst hfn hk
          have c0 := hw.cell (b := w.heap.size) (o := 0) (v := .slice a l.length c) (by first | (simp [*]; done) | (simp [*, go_sem]; done) | go_cell)
          clear hw
          simp only [known, List.getD_cons_zero, List.getD_cons_succ, Nat.reduceAdd] at hk
          simp only [List.getD_cons_zero, List.getD_cons_succ, Nat.reduceAdd, flowAt]
          go_simp
          exact ⟨Ext.refl _, by first | rfl | trivial⟩
        · rintro ρ w1 hw hcst hfn hk
          simp only [known, List.getD_cons_zero, List.getD_cons_succ, Nat.reduceAdd] at hk
          simp only [List.getD_cons_zero, List.getD_cons_succ, Nat.reduceAdd, flowAt]
          go_simp
          exact flow_dg (toDawg_any a c l _ (HRD.out _ (hE.trans ((Ext.refl _).drew.trans hw))) hl HB1.out)
        · rintro ρ w1 hw hcst hfn hk
          simp only [known, List.getD_cons_zero, List.getD_cons_succ, Nat.reduceAdd] at hk
          simp only [List.getD_cons_zero, List.getD_cons_succ, Nat.reduceAdd, flowAt]
          go_simp
          (obtain ⟨a5, c5, L5, h5, e5, r5⟩ := hk.2.1; rw [e5]; exact flow_ret (eqDawg_same a3 a5 c3 c5 L3 L5 _ (I3.out.ext ((Ext.refl _).drew.trans hw)) r5 (by rw [h5]; exact HL3.out) (HLN1.out _ HL3.out) (sh_of HL3.out HS1.out)))
      intro vs w1 hw hf
      simp only [flowFacts, Nat.reduceAdd] at hf
      obtain ⟨e0, e1, e2, e3, -⟩ := hf
      simp only [List.take_succ_cons, List.take_zero, List.drop_succ_cons, List.drop_zero, putAll, Act.put, Nat.reduceAdd, List.setIfInBounds_toArray, List.set_cons_zero, List.set_cons_succ, e0, e1, e2, e3]
      clear e0 e1 e2 e3
      have hx := (Ext.refl _).drew.trans hw
      clear hw
      replace hE := hE.trans hx
      replace b0 := hx.cell b0
      replace b1 := hx.cell b1
      replace x0 := hx.cell x0
      replace x1 := hx.cell x1
      replace I3 := hid (I3.out.ext hx)
      replace I4 := hid (I4.out.ext hx)
      clear hx
      go_wp2_with fail
      refine wp_region_flow_at (C := Ext) 4 [fun v _ => v = .agg #[.slice a4 L4.length c4], fun v _ => v = .agg #[.slice b m.length d], fun v w' => DgIs (ndsOf m) v w', fun v _ => v = .bool true]
        [[(8, none)], [(3, none)], [(41, some 1)], [(40, some 0), (42, some 2)]] (by kernel_rfl) (by kernel_rfl) Ext.refl (fun _ _ _ => Ext.trans) ?_ ?_ ?_
      · intro F hF
        simp only [List.mem_cons, List.not_mem_nil, or_false] at hF
        rcases hF with rfl | rfl | rfl | rfl
        · exact fun _ _ _ h _ => h
        · exact fun _ _ _ h _ => h
        · exact fun _ _ _ h k => h.ext k
        · exact fun _ _ _ h _ => h
      · refine ⟨?_, ?_, ?_, ?_, trivial⟩
        · rintro ρ w1 hw hcst hfn hk
          have c0 := hw.cell (b := w5.heap.size) (o := 0) (v := .slice a4 L4.length c4) (by first | (simp [*]; done) | (simp [*, go_sem]; done) | go_cell)
          clear hw
          simp only [known, List.getD_cons_zero, List.getD_cons_succ, Nat.reduceAdd] at hk
          simp only [List.getD_cons_zero, List.getD_cons_succ, Nat.reduceAdd, flowAt]
          go_simp
          exact ⟨Ext.refl _, by first | rfl | trivial⟩
        · rintro ρ w1 hw hcst hfn hk
          have c0 := hw.cell (b := (w.heap.size + 1)) (o := 0) (v := .slice b m.length d) (by first | (simp [*]; done) | (simp [*, go_sem]; done) | go_cell)
          clear hw
          simp only [known, List.getD_cons_zero, List.getD_cons_succ, Nat.reduceAdd] at hk
          simp only [List.getD_cons_zero, List.getD_cons_succ, Nat.reduceAdd, flowAt]
          go_simp
          exact ⟨Ext.refl _, by first | rfl | trivial⟩
        · rintro ρ w1 hw hcst hfn hk
          simp only [known, List.getD_cons_zero, List.getD_cons_succ, Nat.reduceAdd] at hk
          simp only [List.getD_cons_zero, List.getD_cons_succ, Nat.reduceAdd, flowAt]
          go_simp
          exact flow_dg (toDawg_any b d m _ (HQD.out _ (hE.trans ((Ext.refl _).drew.trans hw))) hm HB2.out)
        · rintro ρ w1 hw hcst hfn hk
          simp only [known, List.getD_cons_zero, List.getD_cons_succ, Nat.reduceAdd] at hk
          simp only [List.getD_cons_zero, List.getD_cons_succ, Nat.reduceAdd, flowAt]
          go_simp
          (obtain ⟨a5, c5, L5, h5, e5, r5⟩ := hk.2.1; rw [e5]; exact flow_ret (eqDawg_same a4 a5 c4 c5 L4 L5 _ (I4.out.ext ((Ext.refl _).drew.trans hw)) r5 (by rw [h5]; exact HL4.out) (HLN2.out _ HL4.out) (sh_of HL4.out HS2.out)))
      intro vs w1 hw hf
      simp only [flowFacts, Nat.reduceAdd] at hf
      obtain ⟨e0, e1, e2, e3, -⟩ := hf
      simp only [List.take_succ_cons, List.take_zero, List.drop_succ_cons, List.drop_zero, putAll, Act.put, Nat.reduceAdd, List.setIfInBounds_toArray, List.set_cons_zero, List.set_cons_succ, e0, e1, e2, e3]
      clear e0 e1 e2 e3
      have hx := (Ext.refl _).drew.trans hw
      clear hw
      replace hE := hE.trans hx
      clear hx
      go_wp2_with fail
      go_returns
      exact ⟨rfl, hE⟩

set_option maxRecDepth 100000 in
theorem lifted_FnExactSameDawg (os : Os) (started : os.Started) (H : Type) (enc : TypeId × Value → H) :
    ReturnsInHanded {} Try.checked os 4 .any (Rows.fnExactSameDawgSpec.pre6 enc Try.prog Try.f4 Rows.fnExactSameDawgRow.domain false) (Rows.fnExactSameDawgSpec.post enc Try.prog Try.f4 false true false false) := by
  refine returnsInHanded_of_change (C := Try.checked) ownRow started (by kernel_rfl) Try.func4
    (ChangeSpec.witness6 (enc := enc) (C := Try.checked) false ⟨#[], #[.agg #[.slice none 0 0], .agg #[.slice none 0 0]], []⟩ 8 (by kernel_rfl) (by kernel_rfl) (by kernel_rfl) (by kernel_rfl)) ?_
  intro W base args ds gs before hval0 hW hcnd _
  have hval : ∀ (j : Nat) t v, Try.f4.params[j]? = some t → args[j]? = some v → Value.okWide Try.prog W .any base t v := hval0
  have hW' := hW
  obtain ⟨p, q, hA0, hV, rfl, hfz, hnd⟩ := hW
  have hA : DataW.TrodAll enc Try.prog W 0 (fun _ => true) true Try.f4.params.toList args.toList ds p := hA0
  rw [Try.params4] at hA hval
  obtain ⟨v0, vs0, d0, ds0, p0, q0, hargs, rfl, rfl, h0, r0⟩ := trodAll_cons hA
  obtain ⟨v1, vs1, d1, ds1, p1, q1, rfl, rfl, rfl, h1, r1⟩ := trodAll_cons r0
  obtain ⟨rfl, rfl, rfl⟩ := trodAll_nil r1
  obtain rfl : args = #[v0, v1] := by cases args; simp_all
  obtain ⟨rfl, rfl⟩ := trodVars_none hV
  have k0 := h0
  have lt0 : ∀ x ∈ p0, x.block < W.heap.size := by obtain ⟨m, hm⟩ := k0; exact DataW.trod_lt m _ _ _ hm
  have k1 := h1
  have lt1 : ∀ x ∈ p1, x.block < W.heap.size := by obtain ⟨m, hm⟩ := k1; exact DataW.trod_lt m _ _ _ hm
  obtain ⟨a0_a, a0_c, a0_l, rfl, r_a0, n_a0, z_a0⟩ := open_dawg Try.underlying30 (by kernel_rfl) (by kernel_rfl) Try.underlying28 Try.underlying60 (by kernel_rfl) (by kernel_rfl) Try.underlying4 Try.underlying9 Try.underlying49 Try.underlying2 (by kernel_rfl) (hval 0 30 v0 rfl rfl) h0
  obtain ⟨a1_a, a1_c, a1_l, rfl, r_a1, n_a1, z_a1⟩ := open_dawg Try.underlying30 (by kernel_rfl) (by kernel_rfl) Try.underlying28 Try.underlying60 (by kernel_rfl) (by kernel_rfl) Try.underlying4 Try.underlying9 Try.underlying49 Try.underlying2 (by kernel_rfl) (hval 1 30 v1 rfl rfl) h1
  clear hA0 hval0
  refine (walk_FnExactSameDawg a0_a a0_c a0_l a1_a a1_c a1_l W r_a0 n_a0 z_a0 r_a1 n_a1 z_a1).mono fun e W' ⟨he, bel⟩ => ?_
  subst he
  exact ⟨_, rfl, _, _, _, [], _, [], hW', trodAll_mk1 (shut_bool Try.underlying4 _), (trodAll_cons_mk (Below.trod laidRow (by kernel_rfl) (of_decide_eq_true (by kernel_rfl)) k0 bel lt0) (trodAll_cons_mk (Below.trod laidRow (by kernel_rfl) (of_decide_eq_true (by kernel_rfl)) k1 bel lt1) trodAll_mk0)), rfl, bel.frame _, fun h => by cases h⟩

theorem over_FnExactSameDawg : Rows.fnExactSameDawgRow.holds Try.pinned (OpenSpec.ofChange Rows.fnExactSameDawgSpec) :=
  OpenClaim.holds_of_wide 4 Try.f4 rfl rfl rfl rfl rfl rfl rfl ⟨rfl, rfl, rfl, rfl, rfl⟩ rfl rfl rfl rfl rfl (by kernel_rfl) Try.func4 (by kernel_rfl)
    (of_decide_eq_true (by kernel_rfl)) (by unfold Func.isWrapper; first | (rw [if_pos (by decide +kernel)]; kernel_rfl) | (rw [if_neg (by decide +kernel)]; exact ⟨rfl, rfl⟩))
    (fun os started H enc _ => lifted_FnExactSameDawg os started H enc)

theorem said_FnExactSameDawg : Rows.FnExactSameDawgSaid := over_FnExactSameDawg
end Go.Proofs.Ytlnccdbmchjhlaa
