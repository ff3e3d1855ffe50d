/- An automaton found valid. Conditions: the renumbered nodes of what was built from at most 3000 strings of at most 13 bytes. -/
import Derived.Test.YtabljchbchjjcaaGreatDoorCh06o
import Derived.Test.YtabljchbchjjcaaGreatDoorCh06b
namespace Go.Proofs.YtabljchbchjjcaaGreatDoor
set_option linter.unusedVariables false
set_option linter.unusedSimpArgs false
open Go Go.RowKit
theorem up_len {l : List UInt8} (h : l.Pairwise (· < ·)) : l.length ≤ 256 := by
  have h1 : (l.map UInt8.toNat).Nodup := by
    unfold List.Nodup
    rw [List.pairwise_map]
    refine h.imp fun {a b} hab e => ?_
    rw [UInt8.lt_iff_toNat_lt] at hab
    omega
  have := nodup_len h1 (N := 256) (fun x hx => by
    obtain ⟨u, -, rfl⟩ := List.mem_map.1 hx
    exact u.toNat_lt)
  rwa [List.length_map] at this
theorem NdGood.key {M : List Nd} (h : NdGood M) {n : Nd} (hn : n ∈ M) : KeyOk n ∧ n.nx.length ≤ 4000 := by
  obtain ⟨g1, g2, g3, g4⟩ := h n hn
  refine ⟨⟨g1, fun j hj => (g4 j hj).1, fun u hu e => ?_⟩, ?_⟩
  · have := g3 u hu
    subst e
    simp [fB] at this
  · have := up_len g2
    rw [toL_len'] at this
    omega
theorem run_mk1 {P : Program} {t e : TypeId} {z : Value} {bytes : Nat} (E : El P t e z 1 bytes) (hz : z.cells = #[z]) (n : Nat) (b2 : bytes * n ≤ 281474976710656) (b3 : n ≤ maxLen) (w : World) :
    (Instr.makeSlice t (.int .i64 (n : Int)) (.int .i64 (n : Int))).run P w = .ok (.slice (some ⟨w.heap.size, 0, none⟩) n n) (w.alloc (.cells (List.replicate n z).toArray e)) := by
  obtain ⟨i, hi, hzz, hs, hb⟩ := E.info
  have h := run_make w t e i z E.under hi hzz .i64 .i64 (n : Int) (n : Int) (by omega) (Int.le_refl _) (by rw [hb]; omega) (by unfold maxLen at b3; omega)
  rw [h]
  simp only [Int.toNat_natCast, hs, Nat.mul_one, hz]
  congr 3
  exact Array.toList_inj.1 (by rw [toList_madeCells_one])
theorem wr_bx {w : World} {b : Nat} {t : TypeId} {vs : List Value} (h : Bx w b t vs) : Wr w b vs := ⟨h.lt, fun j u hj => h.cell hj, fun j _ => h.free j⟩
theorem bx_ne {w : World} {b d : Nat} {t u : TypeId} {vs us : List Value} (h : Bx w b t vs) (k : Bx w d u us) (hn : t ≠ u) : b ≠ d := fun e => by
  subst e
  unfold Bx at h k
  rw [h] at k
  simp only [Option.some.injEq, Obj.cells.injEq] at k
  exact hn k.2.1
theorem strK7 : Maps.Keyed Tryz.prog 9 := Maps.string_keyed Tryz.underlying9
theorem El_bools : El Tryz.prog 94 4 (.bool false) 1 1 := by
  obtain ⟨i, h1, h2, h3, h4⟩ := info_parts (show (Tryz.prog.info? 4).map (fun i => (i.zero, i.size, i.bytes)) = some (some (.bool false), 1, 1) by kernel_rfl)
  exact ⟨Tryz.underlying94, ⟨i, h1, h2, h3, h4⟩, rfl, by decide⟩
theorem El_intz : El Tryz.prog 95 3 (.int .i64 0) 1 8 := by
  obtain ⟨i, h1, h2, h3, h4⟩ := info_parts (show (Tryz.prog.info? 3).map (fun i => (i.zero, i.size, i.bytes)) = some (some (.int .i64 0), 1, 8) by kernel_rfl)
  exact ⟨Tryz.underlying95, ⟨i, h1, h2, h3, h4⟩, rfl, by decide⟩
set_option maxRecDepth 100000 in
set_option maxHeartbeats 8000000 in
theorem ValidDawg_good (aD : Option Addr) (cD : Nat) (LD : List NdP) (N : List Nd) (O : List Nat) (r : Nat) (w : World) (h : DgRd w aD LD) (hN : Dn N) (hNe : NeOk N) (hNn : N.Nodup) (hr : r < N.length) (hO : O = dfs N N.length [] r) (hM : ndsOf LD = numM N O) (hg : NdGood (numM N O)) (hl : N.length ≤ 200000) (hl2 : O.length ≤ 3000)
    (hnl : ∀ z, z < N.length → (ndG N z).nx.length ≤ 100000) (hfin : (ndG N r).fin = false) (hc : cntN N r ≤ 3000) (hlg : lgsN N r ≤ 13) (hT : TabF w) :
    Calls Tryz.prog 33 #[dawgV aD LD.length cD] w (Ret (.bool true) w) := by
  obtain ⟨f1, f2, f3, f4⟩ := dfs_ok hN N.length [] r hr hr List.nodup_nil (by simp)
  rw [← hO] at f1 f2 f3 f4
  have hcl : ∀ z ∈ O, ∀ j ∈ nxs N z, j ∈ O := fun z hz => f4 z hz (by simp)
  have hop : 0 < O.length := List.length_pos_of_mem f3
  have hi0 : O.idxOf r = 0 := by
    have hp : [r] <+: O := by
      have h1 := (ordI_ok hN hr (f := N.length) (by omega) (by simp : r ∉ []) List.nodup_nil (by simp) (nxs N r).length).2.2.2.2
      obtain ⟨n, hn⟩ : ∃ n, N.length = n + 1 := ⟨N.length - 1, by omega⟩
      have h2 := (ordI_ok hN hr (f := n) (by omega) (by simp : r ∉ []) List.nodup_nil (by simp) (nxs N r).length).2.2.2.2
      rw [ordI_all (by simp), ← hn, ← hO] at h2
      exact h2
    rw [idxOf_pre hp (by simp)]
    simp
  have hLD : LD.length = O.length := by rw [← ndsOf_length LD, hM, numM_len]
  have hsh : NdSh LD := fun p hp => by
    have := (hg.key (n := p.nd) (by rw [← hM]; exact List.mem_map_of_mem hp)).2
    omega
  have HNO := hid (fun w' (k : Ext w w') => nodesOk_good aD cD LD w' ⟨h.1.ext k, fun p hp => (h.2 p hp).ext k⟩ (by rw [hM]; exact hg) (by omega) (by omega) hsh)
  have HV := hid (fun xb gO gS gL cO cS cL => ivisit_any xb gO gS gL cO cS cL aD cD LD N O hN hNe f1 f2 hcl hM hl hnl N.length)
  obtain ⟨bN, oN, rfl, hcl0⟩ := h.1.nds (by omega)
  have hbN := World.block_lt_of_cell? _ _ (hcl0 0 (by omega)).1
  have hf0 : (ndAt LD 0).nd.fin = false := by
    have h1 := ndG_nd LD 0
    have h2 := numM_at (N := N) f3
    rw [hi0] at h2
    rw [← h1, hM, h2]
    exact hfin
  have HR : Hid (∀ w', Ext w w' → DgRd w' (some ⟨bN, oN, none⟩) LD) := hid (fun w' k => ⟨h.1.ext k, fun p hp => (h.2 p hp).ext k⟩)
  have HT := hid (fun w' (k : Ext w w') => hT.ext k)
  have HX0 : Hid (∀ w', Ext w w' → w'.cell? ⟨bN, oN, none⟩ = some (.bool false)) := hid (fun w' k => by
    have := k.cell (hcl0 0 (by omega)).1
    rw [hf0] at this
    simpa using this)
  have HND : Hid ((ndsOf LD).Nodup) := hid (by rw [hM]; exact numM_nodup hN hNn f2 hcl f1)
  have HI0 := hid hi0
  have HLD := hid hLD
  have F1 := hid f1
  have F2 := hid f2
  have F3 := hid f3
  have HOO := hid hO
  have hol : LD.length ≤ 3000 := by omega
  have hop2 : 0 < LD.length := by omega
  have HG := hid hg
  have HM := hid hM
  have HCL := hid hcl
  replace hbN : bN < w.heap.size := hbN
  clear hcl0 h hT hi0 hLD f1 f2 f3 f4 hO hop hg hM hsh hcl hf0 hN hNe hNn
  go_enter Tryz.func33, Tryz.ntmps33
  go_wp2_with fail
  refine (HNO.out _ ((Ext.refl w).alloc _)).mono ?_
  rintro e wS ⟨rfl, hx⟩
  have hE := ((Ext.refl w).alloc _).trans hx
  have b0 := hx.cell (b := w.heap.size) (o := 0) (v := .slice (some ⟨bN, oN, none⟩) LD.length cD) (by go_cell)
  have x0 := HX0.out _ hE
  have hz1 := hx.size
  simp only [World.size_alloc] at hz1
  have hpos : (0 : Int) < (LD.length : Int) := by omega
  clear hx HNO
  go_wp2_with fail
  refine wp_region_flow_at (C := Ext) 9 [fun v _ => v = .agg #[.slice (some ⟨bN, oN, none⟩) LD.length cD], fun v _ => v = .int .i64 (LD.length : Int), fun v w' => ∃ g, v = .slice (some ⟨g, 0, none⟩) LD.length LD.length ∧ Bx w' g 4 (List.replicate LD.length (.bool false)) ∧ wS.heap.size ≤ g, fun v _ => v = .int .i64 (LD.length : Int), fun v w' => ∃ g, v = .slice (some ⟨g, 0, none⟩) LD.length LD.length ∧ Bx w' g 2 (List.replicate LD.length (.int .i64 0)) ∧ wS.heap.size ≤ g, fun v _ => v = .int .i64 (LD.length : Int), fun v w' => ∃ g, v = .slice (some ⟨g, 0, none⟩) LD.length LD.length ∧ Bx w' g 3 (List.replicate LD.length (.int .i64 0)) ∧ wS.heap.size ≤ g, fun v w' => ∃ gO gS gL, v = .agg #[.slice (some ⟨bN, oN, none⟩) LD.length cD, .int .i64 0, .slice (some ⟨gO, 0, none⟩) LD.length LD.length, .slice (some ⟨gS, 0, none⟩) LD.length LD.length, .slice (some ⟨gL, 0, none⟩) LD.length LD.length] ∧ (Bx w' gO 4 (List.replicate LD.length (.bool false)) ∧ wS.heap.size ≤ gO) ∧ (Bx w' gS 2 (List.replicate LD.length (.int .i64 0)) ∧ wS.heap.size ≤ gS) ∧ (Bx w' gL 3 (List.replicate LD.length (.int .i64 0)) ∧ wS.heap.size ≤ gL), fun v w' => ∃ xb gO gS gL, v = .pointer (some ⟨xb, 0, none⟩) ∧ Bx w' xb 97 [.slice (some ⟨bN, oN, none⟩) LD.length cD, .int .i64 0, .slice (some ⟨gO, 0, none⟩) LD.length LD.length, .slice (some ⟨gS, 0, none⟩) LD.length LD.length, .slice (some ⟨gL, 0, none⟩) LD.length LD.length] ∧ wS.heap.size ≤ xb ∧ (Bx w' gO 4 (List.replicate LD.length (.bool false)) ∧ wS.heap.size ≤ gO) ∧ (Bx w' gS 2 (List.replicate LD.length (.int .i64 0)) ∧ wS.heap.size ≤ gS) ∧ (Bx w' gL 3 (List.replicate LD.length (.int .i64 0)) ∧ wS.heap.size ≤ gL)]
    [[(1, none)], [(3, none)], [(23, some 1)], [(3, none)], [(25, some 3)], [(3, none)], [(27, some 5)], [(22, some 0), (24, some 2), (26, some 4), (28, some 6)], [(29, some 7)]] (by kernel_rfl) (by kernel_rfl) Ext.refl (fun _ _ _ => Ext.trans) ?_ ?_ ?_
  · intro F hF
    simp only [List.mem_cons, List.not_mem_nil, or_false] at hF
    rcases hF with rfl | rfl | rfl | rfl | rfl | rfl | rfl | rfl | rfl
    · exact fun _ _ _ h _ => h
    · exact fun _ _ _ h _ => h
    · exact fun v x y h k => by obtain ⟨g, e1, e2, e3⟩ := h; exact ⟨g, e1, e2.ext k, e3⟩
    · exact fun _ _ _ h _ => h
    · exact fun v x y h k => by obtain ⟨g, e1, e2, e3⟩ := h; exact ⟨g, e1, e2.ext k, e3⟩
    · exact fun _ _ _ h _ => h
    · exact fun v x y h k => by obtain ⟨g, e1, e2, e3⟩ := h; exact ⟨g, e1, e2.ext k, e3⟩
    · exact fun v x y h k => by obtain ⟨gO, gS, gL, e1, e2, e3, e4⟩ := h; exact ⟨gO, gS, gL, e1, ⟨e2.1.ext k, e2.2⟩, ⟨e3.1.ext k, e3.2⟩, ⟨e4.1.ext k, e4.2⟩⟩
    · exact fun v x y h k => by obtain ⟨xb, gO, gS, gL, e1, e0, e9, e2, e3, e4⟩ := h; exact ⟨xb, gO, gS, gL, e1, e0.ext k, e9, ⟨e2.1.ext k, e2.2⟩, ⟨e3.1.ext k, e3.2⟩, ⟨e4.1.ext k, e4.2⟩⟩
  · refine ⟨?_, ?_, ?_, ?_, ?_, ?_, ?_, ?_, ?_, trivial⟩
    · rintro ρ w1 hw hcst hfn hk
      have c0 := hw.cell (b := w.heap.size) (o := 0) (v := .slice (some ⟨bN, oN, none⟩) LD.length cD) (by first | (simp [*]; done) | (simp [*, go_sem]; done) | go_cell)
      clear hw
      simp only [known, List.getD_cons_zero, List.getD_cons_succ, Nat.reduceAdd] at hk
      simp only [List.getD_cons_zero, List.getD_cons_succ, Nat.reduceAdd, flowAt]
      go_simp
      exact ⟨Ext.refl _, by first | rfl | trivial⟩
    · rintro ρ w1 hw hcst hfn hk
      clear hw
      simp only [known, List.getD_cons_zero, List.getD_cons_succ, Nat.reduceAdd] at hk
      simp only [List.getD_cons_zero, List.getD_cons_succ, Nat.reduceAdd, flowAt]
      go_simp
      exact ⟨Ext.refl _, by first | rfl | trivial⟩
    · rintro ρ w1 hw hcst hfn hk
      simp only [known, List.getD_cons_zero, List.getD_cons_succ, Nat.reduceAdd] at hk
      simp only [List.getD_cons_zero, List.getD_cons_succ, Nat.reduceAdd, flowAt]
      go_simp
      (rw [run_mk1 El_bools rfl LD.length (by omega) (by unfold maxLen; omega)]; exact ⟨(Ext.refl _).alloc _, w1.heap.size, rfl, Bx.new w1 _ _, hw.size⟩)
    · rintro ρ w1 hw hcst hfn hk
      clear hw
      simp only [known, List.getD_cons_zero, List.getD_cons_succ, Nat.reduceAdd] at hk
      simp only [List.getD_cons_zero, List.getD_cons_succ, Nat.reduceAdd, flowAt]
      go_simp
      exact ⟨Ext.refl _, by first | rfl | trivial⟩
    · rintro ρ w1 hw hcst hfn hk
      simp only [known, List.getD_cons_zero, List.getD_cons_succ, Nat.reduceAdd] at hk
      simp only [List.getD_cons_zero, List.getD_cons_succ, Nat.reduceAdd, flowAt]
      go_simp
      (rw [run_mk1 El_int64 rfl LD.length (by omega) (by unfold maxLen; omega)]; exact ⟨(Ext.refl _).alloc _, w1.heap.size, rfl, Bx.new w1 _ _, hw.size⟩)
    · rintro ρ w1 hw hcst hfn hk
      clear hw
      simp only [known, List.getD_cons_zero, List.getD_cons_succ, Nat.reduceAdd] at hk
      simp only [List.getD_cons_zero, List.getD_cons_succ, Nat.reduceAdd, flowAt]
      go_simp
      exact ⟨Ext.refl _, by first | rfl | trivial⟩
    · rintro ρ w1 hw hcst hfn hk
      simp only [known, List.getD_cons_zero, List.getD_cons_succ, Nat.reduceAdd] at hk
      simp only [List.getD_cons_zero, List.getD_cons_succ, Nat.reduceAdd, flowAt]
      go_simp
      (rw [run_mk1 El_intz rfl LD.length (by omega) (by unfold maxLen; omega)]; exact ⟨(Ext.refl _).alloc _, w1.heap.size, rfl, Bx.new w1 _ _, hw.size⟩)
    · rintro ρ w1 hw hcst hfn hk
      simp only [known, List.getD_cons_zero, List.getD_cons_succ, Nat.reduceAdd] at hk
      simp only [List.getD_cons_zero, List.getD_cons_succ, Nat.reduceAdd, flowAt]
      go_simp
      (obtain ⟨h22, ⟨gO, eO, rO⟩, ⟨gS, eS, rS⟩, ⟨gL, eL, rL⟩, -⟩ := hk; simp [eO, eS, eL, go_sem, Value.cells, Result.andThen]; exact ⟨Ext.refl _, gO, gS, gL, rfl, rO, rS, rL⟩)
    · rintro ρ w1 hw hcst hfn hk
      simp only [known, List.getD_cons_zero, List.getD_cons_succ, Nat.reduceAdd] at hk
      simp only [List.getD_cons_zero, List.getD_cons_succ, Nat.reduceAdd, flowAt]
      go_simp
      (obtain ⟨⟨gO, gS, gL, e1, e2, e3, e4⟩, -⟩ := hk; simp [e1, go_sem, Value.cells, Result.andThen]; exact ⟨(Ext.refl _).alloc _, w1.heap.size, rfl, gO, gS, gL, Bx.new w1 _ _, hw.size, ⟨e2.1.ext ((Ext.refl _).alloc _), e2.2⟩, ⟨e3.1.ext ((Ext.refl _).alloc _), e3.2⟩, ⟨e4.1.ext ((Ext.refl _).alloc _), e4.2⟩⟩)
  intro vs w1 hw hf
  simp only [flowFacts, Nat.reduceAdd] at hf
  obtain ⟨e0, e1, e2, e3, e4, e5, e6, e7, e8, -⟩ := hf
  simp only [List.take_succ_cons, List.take_zero, List.drop_succ_cons, List.drop_zero, putAll, Act.put, Nat.reduceAdd, List.setIfInBounds_toArray, List.set_cons_zero, List.set_cons_succ, e0, e1, e2, e3, e4, e5, e6, e7]
  clear e0 e1 e2 e3 e4 e5 e6 e7
  obtain ⟨xb, gO, gS, gL, hv8, bX, zX, ⟨bO, zO⟩, ⟨bS, zS⟩, ⟨bL, zL⟩⟩ := e8
  rw [hv8]
  have hx2 := (Ext.refl _).drew.trans hw
  have HE2 := hid (hE.trans hx2)
  have n1 := bx_ne bX bO (by decide)
  have n2 := bx_ne bX bS (by decide)
  have n3 := bx_ne bX bL (by decide)
  have n4 := bx_ne bO bS (by decide)
  have n5 := bx_ne bO bL (by decide)
  have n6 := bx_ne bS bL (by decide)
  rw [HLD.out] at bO bS bL
  have HIN : InS w1 xb gO gS gL LD.length LD.length LD.length (some ⟨bN, oN, none⟩) cD LD.length O 0 (fun _ => false) (fun _ => 0) (fun _ => 0) :=
    ⟨by rw [← HLD.out]; exact bX, by rw [List.map_const']; exact wr_bx bO, by rw [List.map_const']; exact wr_bx bS, by rw [List.map_const']; exact wr_bx bL, ⟨n1, n2, n3, n4, n5, n6⟩⟩
  have hzw : w.heap.size ≤ wS.heap.size := by omega
  have hki : ¬ Ki xb gO gS gL w.heap.size := by rintro (h | h | h | h) <;> omega
  have HEK : Hid (∀ w', Ch (Ki xb gO gS gL) w1 w' → Ext w w') := hid (fun w' k => ((Ch.of_ext (Ki xb gO gS gL) HE2.out).trans k).ext (fun b hb h => by rcases h with h | h | h | h <;> omega))
  have hcall := HV.out xb gO gS gL LD.length LD.length LD.length r [] (fun _ => false) (fun _ => 0) (fun _ => 0) w1 hr F3.out (by simp) List.nodup_nil (by simp) (by rw [← HOO.out]; exact List.prefix_refl _) HIN (fun z h => by simp at h) (fun z h => by simp at h) (fun z _ _ => ⟨rfl, rfl, rfl⟩) (fun w' k => HR.out w' (HEK.out w' k))
  rw [HI0.out, show ((0 : Nat) : Int) = 0 from rfl] at hcall
  have HCALL := hid hcall
  have b1 := hx2.cell b0
  have hz2 := hx2.size
  clear hcall HIN bX bO bS bL n1 n2 n3 n4 n5 n6 hw hx2 hv8 hE x0 b0 zO zS zL zX
  go_wp2_with fail
  with_reducible refine HCALL.out.mono ?_
  rintro e w3 ⟨rfl, sv, lv, k1, -, k3, -, k5⟩
  rw [← HOO.out] at k1 k3
  have hk3 := k3 r F3.out (by simp)
  have m1 := k1.bx.cell (i := 1) rfl
  have m3 := k1.bx.cell (i := 3) rfl
  have m4 := k1.bx.cell (i := 4) rfl
  obtain ⟨s0, -⟩ := k1.atS F3.out
  obtain ⟨l0, -⟩ := k1.atL F3.out
  rw [HI0.out, hk3.1] at s0
  rw [HI0.out, hk3.2] at l0
  rw [← HLD.out] at m1 m3 m4
  have HE3 := hid (HEK.out _ k5)
  have hz3 := k5.size
  have hb0 : w3.cell? ⟨w.heap.size, 0, none⟩ = some (.slice (some ⟨bN, oN, none⟩) LD.length cD) := k5.cell b1 hki
  have hlt0 := World.block_lt_of_cell? _ _ hb0
  obtain ⟨C, hC⟩ : ∃ C, cntN N r = C := ⟨_, rfl⟩
  obtain ⟨G, hG⟩ : ∃ G, lgsN N r = G := ⟨_, rfl⟩
  rw [hC] at s0 hc
  rw [hG] at l0 hlg
  have hci : ¬ (3000 : Int) < (C : Int) := by omega
  have hgi : ¬ (13 : Int) < (G : Int) := by omega
  have hmm := @run_makeMap Tryz.prog
  clear k1 k3 k5 hk3 hC hG b1 HCALL HV
  go_wp2_with fail
  have hown0 := World.ownsMap_made w3 Tryz.prog 9 (plainElem (H := Unit) Tryz.prog 4)
  have HOWN0 := hid hown0
  have hx4 : Ext w3 (w3.alloc (.map #[] 0)) := (Ext.refl _).alloc _
  have hb4 := hx4.cell hb0
  have hE4 := HE3.out.trans hx4
  have hs4 : w3.heap.size < (w3.alloc (.map #[] 0)).heap.size := by simp
  clear hown0 hx4 hmm
  go_loopw [64] (fun v64 wr => ∃ (k nM : Nat) (D : DataW Unit), v64 = .int .i64 (k : Int) ∧ k ≤ LD.length ∧ nM ≤ k ∧ Hid (wr.ownsMap Tryz.prog 9 (plainElem (H := Unit) Tryz.prog 4) w3.heap.size nM D) ∧ Hid (RMap D ((ndsOf LD).take k)) ∧ Ext w wr ∧ wr.cell? ⟨w.heap.size, 0, none⟩ = some (.slice (some ⟨bN, oN, none⟩) LD.length cD) ∧ w3.heap.size < wr.heap.size) (fun v64 _ => LD.length - (intOf v64).toNat)
  case atStart => exact ⟨0, 0, _, rfl, by omega, by omega, HOWN0, hid (by rw [List.take_zero]; exact RMap.nil), hE4, hb4, hs4⟩
  case round =>
    clear HOWN0 hb4 hE4 hs4 s0 l0 m1 m3 m4 hb0
    obtain ⟨k, nM, D, rfl, hk, hnM, HOW, HRM, hx, hbx, hms⟩ := hrel
    by_cases hkl : k < LD.length
    · obtain ⟨b9, o9, e9, hcl⟩ := (HR.out _ hx).1.nds (by omega)
      simp only [Option.some.injEq, Addr.mk.injEq, and_true] at e9
      obtain ⟨rfl, rfl⟩ := e9
      obtain ⟨x0, x1, x2⟩ := hcl k hkl
      have hm := ndAt_mem LD k hkl
      have hgk := ndG_nd LD k
      obtain ⟨p0, hp0⟩ : ∃ p, ndAt LD k = p := ⟨_, rfl⟩
      rw [hp0] at x0 x1 x2 hm hgk
      obtain ⟨⟨fin, lt, nx⟩, pa, pc⟩ := p0
      have hmn : (⟨fin, lt, nx⟩ : Nd) ∈ numM N O := by rw [← HM.out]; exact List.mem_map_of_mem (f := (·.nd)) hm
      obtain ⟨hkey, hkl4⟩ := HG.out.key hmn
      have hpos4 := (HG.out _ hmn).2.2.2
      simp only at x0 x1 x2 hkl4 hpos4 hgk
      have hj : ∀ j ∈ nx, j < 1000000 := fun j hj => by
        have := (hpos4 j hj).2
        rw [numM_len, ← HLD.out] at this
        omega
      have hkN : k < (ndsOf LD).length := by rw [ndsOf_length]; exact hkl
      have hat : (ndsOf LD)[k] = ⟨fin, lt, nx⟩ := by rw [ndG_eq hkN]; exact hgk
      have hni : (⟨fin, lt, nx⟩ : Nd) ∉ (ndsOf LD).take k := fun hmem => by
        obtain ⟨j, hjl, hje⟩ := List.getElem_of_mem hmem
        rw [List.length_take] at hjl
        rw [List.getElem_take] at hje
        have := (List.getElem_inj HND.out).1 (hje.trans hat.symm)
        omega
      have htk : (ndsOf LD).take (k + 1) = (ndsOf LD).take k ++ [⟨fin, lt, nx⟩] := by rw [List.take_succ_eq_append_getElem hkN, hat]
      have HAT := hid (HRM.out.2 _ hkey hni)
      have HPUT := hid (HRM.out.put hkey)
      have HTK := hid htk
      have HKO : Hid (∀ w', Ext w w' → Calls Tryz.prog 54 #[ndV fin lt pa nx.length pc] w' (Ret (.string (keyV ⟨fin, lt, nx⟩)) w')) := hid (fun w' q => keyOf_any ⟨fin, lt, nx⟩ pa pc w' ((HR.out w' q).2 _ hm) hkey hkl4 hj (HT.out w' q))
      have hvs := keyV_size (n := ⟨fin, lt, nx⟩) hkl4 hkey hj
      obtain ⟨V, hV⟩ : ∃ V, keyV ⟨fin, lt, nx⟩ = V := ⟨_, rfl⟩
      rw [hV] at HAT HPUT HKO hvs
      have hkv := WideMaps.keyOf_string_mk (P := Tryz.prog) (s := V) Tryz.underlying9 (by unfold maxLen; omega)
      obtain ⟨q, hq⟩ : ∃ q, oN + k * 3 = q := ⟨_, rfl⟩
      rw [hq] at x0 x1 x2
      obtain ⟨mp, hmp⟩ : ∃ m, w3.heap.size = m := ⟨_, rfl⟩
      have HOWN : Hid (∀ w', Ext wr w' → w'.ownsMap Tryz.prog 9 (plainElem (H := Unit) Tryz.prog 4) w3.heap.size nM D) := hid (fun w' q => (Ch.of_ext (fun _ => False) q).map HOW.out (by simp))
      clear hcl hp0 hm hgk hmn hkey hpos4 hj hat hni htk hV hkN hmp HOW HRM
      have hxa : Ext wr (wr.alloc (.cells #[.bool fin, .string lt, .slice pa nx.length pc] 92)) := (Ext.refl _).alloc _
      go_wp2_with fail
      refine (HKO.out _ (hx.trans hxa)).mono ?_
      rintro e w5 ⟨rfl, hx5⟩
      have hE5 := hx.trans (hxa.trans hx5)
      have hb5 := (hxa.trans hx5).cell hbx
      have hz5 := (hxa.trans hx5).size
      have HO5 := hid (HOWN.out _ (hxa.trans hx5))
      clear hx5 hxa x0 x1 x2
      go_wp2_with (first
        | (at_lookup; refine wpList_lookup_own_bool _ rfl _ _ 99 rfl 9 4 strK7 Tryz.underlying99 Tryz.underlying4 (Tryz.zeroValue4 _) w3.heap.size nM D rfl HO5.out _ _ rfl hkv false HAT.out ?_)
        | (at_mapUpdate; refine wpList_mapUpdate_own _ rfl _ _ _ 99 rfl 9 4 strK7 Tryz.underlying99 (plainElem (H := Unit) Tryz.prog 4) w3.heap.size nM D rfl HO5.out (by unfold maxLen; omega) _ _ _ rfl rfl hkv _ [] (plainElem_bool Tryz.underlying4 true) ?_; intro w7 hown7 hgrow7; have HO7 := hid hown7; have HG7 := hid ((Ch.grown hgrow7).mono (J := fun b => b = w3.heap.size) (fun b _ q => by simpa using q.symm)); clear hown7 hgrow7))
      have hz7 := HG7.out.size
      have hb7 := HG7.out.cell hb5 (by omega)
      have hE7 : Ext w w7 := (((Ch.of_ext (fun b => b = w3.heap.size) hE5).trans HG7.out)).ext (fun b hb e => by omega)
      go_roundw
      case rel => exact ⟨k + 1, nM + 1, _, by go_num, by omega, by omega, HO7, hid (by rw [HTK.out]; exact HPUT.out), hE7, hb7, by omega⟩
      case measure => simp [intOf]; omega
    · obtain rfl : k = LD.length := by omega
      go_wp2_with fail
      go_returns
      exact ⟨rfl, hx⟩
end Go.Proofs.YtabljchbchjjcaaGreatDoor
