/- IsJoined by the program. Conditions: at most 2^20 bytes; the variable of bytealg holds an int. -/
import Derived.Test.YtmohfdfjlgekaaaGreatDoorCh15e
import Derived.Shelf.GgClosure.StringsRunes
import Derived.Laws.EntriesVeiled
namespace Go.Proofs.YtmohfdfjlgekaaaGreatDoor
set_option linter.unusedVariables false
set_option linter.unusedSimpArgs false
open Go Go.RowKit
theorem notDot_gives (w : World) : PredAtRunes Tryz.prog 44 #[] (fun x => x != 46) w := by
  intro W x hx hb
  unfold FnGives
  change Calls Tryz.prog 44 #[.int .i32 (x : Int)] W _
  go_enter Tryz.func44, Tryz.ntmps44
  go_wp2_with fail
  go_returns
  refine ⟨ret_bool ?_, 0, rfl⟩
  rw [Bool.eq_iff_iff]
  simp only [bne_iff_ne, ne_eq]
  omega
theorem indexDot_any (cs : ByteArray) (w : World) (ha : allB cellB cs = true) (hb : blankS cs = false) : Calls Tryz.prog 43 #[.string cs, .func (.func 44) #[] #[]] w (Ret (.int .i64 (firstI cs : Int)) w) := by
  refine (Tryz.strings_IndexFunc_runes 44 #[] (enters_of Tryz.func44 (by kernel_rfl) rfl) _ cs w (notDot_gives w)).mono ?_
  rintro e w' ⟨he, hx⟩
  rw [idxFunc_first ha hb] at he
  exact ⟨he, hx⟩
theorem fresh_jn (w : World) (n : Int) (b N : Nat) (h2 : n ≤ 15) :
    Jn (((w.alloc (.cells Tryz.zeroCells58 58)).alloc (.cells #[.int .i64 0] 3)).alloc (.cells #[visV b w.heap.size (w.heap.size + 1) (w.heap.size + 1 + 1)] 59)) w.heap.size (w.heap.size + 1) (w.heap.size + 1 + 1) (visV b w.heap.size (w.heap.size + 1) (w.heap.size + 1 + 1)) n N (fun _ => false) := by
  have hz : Tryz.zeroCells58 = Array.replicate 225 (.bool false) := by kernel_rfl
  rw [hz]
  refine ⟨⟨by simp; omega, fun r c hr => ?_⟩, ?_, ?_, ?_⟩
  · obtain ⟨i0, i1, i2, i3⟩ := inRC_true hr
    have hlt : mixN 15 r c < 225 := by unfold mixN; omega
    have e : (((w.alloc (.cells (Array.replicate 225 (.bool false)) 58)).alloc (.cells #[.int .i64 0] 3)).alloc (.cells #[visV b w.heap.size (w.heap.size + 1) (w.heap.size + 1 + 1)] 59)).cell? ⟨w.heap.size, mixN 15 r c, none⟩ = (w.alloc (.cells (Array.replicate 225 (.bool false)) 58)).cell? ⟨w.heap.size, mixN 15 r c, none⟩ := by
      exact Below.cell ((((Ext.refl _).alloc _).alloc _)) (p := ⟨w.heap.size, mixN 15 r c, none⟩) (by simp)
    refine ⟨?_, by go_cell⟩
    rw [e]
    simp [hlt]
  · rw [cnt_none]; go_cell
  · go_cell
  · go_cell
set_option maxHeartbeats 4000000 in
theorem IsJoined_any (n : Int) (p cs : ByteArray) (w : World) (hp : p.size ≤ 1048576) (hc : cs.size ≤ 1048576) (hM : MaxAt w) : Calls Tryz.prog 12 #[boardV n p cs] w (Ret (.bool (joinB n p cs)) w) := by
  have H : Hid (joinB n p cs = (okB n p cs && (blankS cs || joinS n cs))) := hid rfl
  have HM := hid (fun w' (h : Ext w w') => hM.ext h)
  have HV := hid (fun w' => ValidBoard_any n p cs w' hp hc)
  clear hM
  cases hk : okB n p cs
  · rw [hk] at HV H
    clear hk
    go_enter Tryz.func12, Tryz.ntmps12
    go_wp2_with fail
    refine (HV.out _).mono ?_
    rintro e w1 ⟨rfl, hx⟩
    go_wp2_with fail
    go_returns
    exact ⟨ret_bool (by rw [H.out]; rfl), ((Ext.refl w).alloc _).trans hx⟩
  · rw [hk] at HV
    obtain ⟨h1, h2, h3, h4, h5⟩ := okB_all hk
    have HK := hid hk
    have hsq := sq_le h1 h2
    have hcs : cs.size ≤ 225 := by omega
    have HC := hid h4
    have HA := hid h5
    have n0 : n ≠ 0 := by omega
    have HBK := hid (fun w' (h : MaxAt w') => blank_any n p cs w' hc h)
    have HLO := hid (fun w' (h : MaxAt w') => lettersOn_any n p cs w' hc h)
    have HCN : Hid (decide (cnt cs.size (visJ n cs) = (noDot cs).size) = joinS n cs) := hid (joinS_cnt n cs)
    obtain ⟨X, hX⟩ : ∃ X, noDot cs = X := ⟨_, rfl⟩
    rw [hX] at HLO HCN
    clear hX hk h3 h4 h5 hp hc hsq
    go_enter Tryz.func12, Tryz.ntmps12
    go_wp2_with fail
    refine (HV.out _).mono ?_
    rintro e wa ⟨rfl, hx⟩
    have hE := ((Ext.refl w).alloc _).trans hx
    have b0 := hx.cell (b := w.heap.size) (o := 0) (v := .int .i64 n) (by simp)
    have b1 := hx.cell (b := w.heap.size) (o := 1) (v := .string p) (by simp)
    have b2 := hx.cell (b := w.heap.size) (o := 2) (v := .string cs) (by simp)
    clear hx
    go_wp2_with fail
    refine (HBK.out _ (HM.out _ hE)).mono ?_
    rintro e w2 ⟨rfl, hx⟩
    have hE2 := hE.trans hx
    replace b0 := hx.cell b0
    replace b1 := hx.cell b1
    replace b2 := hx.cell b2
    clear hx
    cases hbl : blankS cs
    · have HBL := hid hbl
      clear hbl
      have lt0 := World.block_lt_of_cell? _ _ b0
      have cc2 : (((w2.alloc (.cells Tryz.zeroCells58 58)).alloc (.cells #[.int .i64 0] 3)).alloc (.cells #[visV w.heap.size w2.heap.size (w2.heap.size + 1) (w2.heap.size + 1 + 1)] 59)).cell? ⟨w.heap.size, 2, none⟩ = some (.string cs) := ((((Ext.refl w2).alloc _).alloc _).alloc _).cell b2
      unfold visV at cc2
      go_wp2_with fail
      refine (indexDot_any cs _ HA.out HBL.out).mono ?_
      rintro e w3 ⟨rfl, hx3⟩
      have HJ : Jn w3 w2.heap.size (w2.heap.size + 1) (w2.heap.size + 1 + 1) (visV w.heap.size w2.heap.size (w2.heap.size + 1) (w2.heap.size + 1 + 1)) n cs.size (fun _ => false) := (fresh_jn _ _ _ _ h2).ext hx3
      have hE3 : Ext w2 w3 := ((((Ext.refl w2).alloc _).alloc _).alloc _).trans hx3
      have HB2 : Hid (BdAt w2 w.heap.size 0 n p cs) := hid ⟨b0, b1, b2⟩
      clear hx3
      obtain ⟨vb, hv⟩ : ∃ v, w2.heap.size + 1 + 1 = v := ⟨_, rfl⟩
      obtain ⟨h, hh⟩ : ∃ h, w2.heap.size + 1 = h := ⟨_, rfl⟩
      obtain ⟨g, hg⟩ : ∃ g, w2.heap.size = g := ⟨_, rfl⟩
      rw [hv, hh, hg] at HJ ⊢
      replace b0 := hE3.cell b0
      replace b1 := hE3.cell b1
      replace b2 := hE3.cell b2
      have hfn := HJ.fn
      obtain ⟨f1, f2, f3⟩ := first_some HBL.out
      obtain ⟨K, hK⟩ : ∃ K, firstI cs = K := ⟨_, rfl⟩
      have HKK := hid hK
      rw [hK] at f1 ⊢
      have hKn : (K : Int) < n * n := by have := HC.out; omega
      obtain ⟨g0, g1, g2, g3, g4⟩ := mix_div h1 h2 hKn
      obtain ⟨qr, hqr⟩ : ∃ x, (K : Int).tdiv n = x := ⟨_, rfl⟩
      obtain ⟨qc, hqc⟩ : ∃ x, (K : Int).tmod n = x := ⟨_, rfl⟩
      have HQR := hid hqr
      have HQC := hid hqc
      rw [hqr] at g0 g1
      rw [hqc] at g2 g3
      have wr1 : IntKind.i64.wrap ((K : Int) / n) = qr := by rw [← Int.tdiv_eq_ediv_of_nonneg (by omega), hqr]; exact IntWalk.i64_in _ (by omega)
      have HJ' := hid HJ
      clear hqr g4 HJ hKn hK f2 f3 lt0 cc2
      go_wp2_with fail
      refine wp_region_flow_at (C := Ext) 9 [fun v _ => v = visV w.heap.size g h vb, fun v _ => v = .int .i64 (K : Int), fun v _ => v = .pointer (some ⟨w.heap.size, 0, none⟩), fun v _ => v = .int .i64 n, fun v _ => v = .int .i64 qr, fun v _ => v = .int .i64 (K : Int), fun v _ => v = .pointer (some ⟨w.heap.size, 0, none⟩), fun v _ => v = .int .i64 n, fun v _ => v = .int .i64 qc]
        [[(5, none)], [(6, none)], [(1, none)], [(18, some 2)], [(17, some 1), (19, some 3)], [(6, none)], [(1, none)], [(22, some 6)], [(21, some 5), (23, some 7)]] (by kernel_rfl) (by kernel_rfl) Ext.refl (fun _ _ _ => Ext.trans) ?_ ?_ ?_
      · intro F hF
        simp only [List.mem_cons, List.not_mem_nil, or_false] at hF
        rcases hF with rfl | rfl | rfl | rfl | rfl | rfl | rfl | rfl | rfl <;> exact fun _ _ _ h _ => h
      · refine ⟨?_, ?_, ?_, ?_, ?_, ?_, ?_, ?_, ?_, trivial⟩
        · rintro ρ w1 hw hcst hfn hk
          have c0 := hw.cell (b := vb) (o := 0) (v := visV w.heap.size g h vb) (by first | (simp [*]; done) | (simp [*, go_sem]; done) | go_cell)
          clear hw
          simp only [known, List.getD_cons_zero, List.getD_cons_succ, Nat.reduceAdd] at hk
          simp only [List.getD_cons_zero, List.getD_cons_succ, Nat.reduceAdd, flowAt]
          go_simp
          exact ⟨Ext.refl _, by first | rfl | trivial⟩
        · rintro ρ w1 hw hcst hfn hk
          clear hw
          simp only [known, List.getD_cons_zero, List.getD_cons_succ, Nat.reduceAdd] at hk
          simp only [List.getD_cons_zero, List.getD_cons_succ, Nat.reduceAdd, flowAt]
          go_simp
          exact ⟨Ext.refl _, by first | rfl | trivial⟩
        · rintro ρ w1 hw hcst hfn hk
          clear hw
          simp only [known, List.getD_cons_zero, List.getD_cons_succ, Nat.reduceAdd] at hk
          simp only [List.getD_cons_zero, List.getD_cons_succ, Nat.reduceAdd, flowAt]
          go_simp
          exact ⟨Ext.refl _, by first | rfl | trivial⟩
        · rintro ρ w1 hw hcst hfn hk
          have c0 := hw.cell (b := w.heap.size) (o := 0) (v := .int .i64 n) (by first | (simp [*]; done) | (simp [*, go_sem]; done) | go_cell)
          clear hw
          simp only [known, List.getD_cons_zero, List.getD_cons_succ, Nat.reduceAdd] at hk
          simp only [List.getD_cons_zero, List.getD_cons_succ, Nat.reduceAdd, flowAt]
          go_simp
          exact ⟨Ext.refl _, by first | rfl | trivial⟩
        · rintro ρ w1 hw hcst hfn hk
          clear hw
          simp only [known, List.getD_cons_zero, List.getD_cons_succ, Nat.reduceAdd] at hk
          simp only [List.getD_cons_zero, List.getD_cons_succ, Nat.reduceAdd, flowAt]
          go_simp
          exact ⟨Ext.refl _, by first | rfl | trivial⟩
        · rintro ρ w1 hw hcst hfn hk
          clear hw
          simp only [known, List.getD_cons_zero, List.getD_cons_succ, Nat.reduceAdd] at hk
          simp only [List.getD_cons_zero, List.getD_cons_succ, Nat.reduceAdd, flowAt]
          go_simp
          exact ⟨Ext.refl _, by first | rfl | trivial⟩
        · rintro ρ w1 hw hcst hfn hk
          clear hw
          simp only [known, List.getD_cons_zero, List.getD_cons_succ, Nat.reduceAdd] at hk
          simp only [List.getD_cons_zero, List.getD_cons_succ, Nat.reduceAdd, flowAt]
          go_simp
          exact ⟨Ext.refl _, by first | rfl | trivial⟩
        · rintro ρ w1 hw hcst hfn hk
          have c0 := hw.cell (b := w.heap.size) (o := 0) (v := .int .i64 n) (by first | (simp [*]; done) | (simp [*, go_sem]; done) | go_cell)
          clear hw
          simp only [known, List.getD_cons_zero, List.getD_cons_succ, Nat.reduceAdd] at hk
          simp only [List.getD_cons_zero, List.getD_cons_succ, Nat.reduceAdd, flowAt]
          go_simp
          exact ⟨Ext.refl _, by first | rfl | trivial⟩
        · rintro ρ w1 hw hcst hfn hk
          clear hw
          simp only [known, List.getD_cons_zero, List.getD_cons_succ, Nat.reduceAdd] at hk
          simp only [List.getD_cons_zero, List.getD_cons_succ, Nat.reduceAdd, flowAt]
          go_simp
          exact ⟨Ext.refl _, by first | rfl | trivial⟩
      intro vs w1 hw hf
      simp only [flowFacts, Nat.reduceAdd] at hf
      obtain ⟨e0, e1, e2, e3, e4, e5, e6, e7, e8, -⟩ := hf
      simp only [List.take_succ_cons, List.take_zero, List.drop_succ_cons, List.drop_zero, putAll, Act.put, Nat.reduceAdd, List.setIfInBounds_toArray, List.set_cons_zero, List.set_cons_succ, e0, e1, e2, e3, e4, e5, e6, e7, e8]
      clear e0 e1 e2 e3 e4 e5 e6 e7 e8
      have hE8 : Ext w3 w1 := ((Ext.refl w3).drew).trans hw
      clear hw b0 b1 b2 hfn
      have gh : g ≠ h := by omega
      have gv : g ≠ vb := by omega
      have hvb : h ≠ vb := by omega
      have HVI := hid (visit_any w.heap.size g h vb cs.size n p cs w2 HB2.out h1 h2 HC.out HA.out HC.out (by omega) (by omega) gh gv hvb cs.size (fun _ => false) qr qc w1 (hE3.trans hE8) (HJ'.out.ext hE8) (by omega) (by omega) (by omega) (by omega) (by omega))
      have hvis : visJ n cs = vis n (letF n cs) cs.size (fun _ => false) qr qc := by unfold visJ; rw [HKK.out, HQR.out, HQC.out]
      rw [← hvis] at HVI
      obtain ⟨Z, hZ⟩ : ∃ Z, visJ n cs = Z := ⟨_, rfl⟩
      rw [hZ] at HVI HCN
      clear hvis hZ wr1 hqc hv hh hg HKK HQR HQC
      go_wp2_with fail
      with_reducible refine Calls.mono HVI.out ?_
      rintro e w5 ⟨rfl, hE5, hJ5⟩
      obtain ⟨b0, b1, b2⟩ := HB2.out.ext hE5
      have hnum := hJ5.num
      have hX5 := hE2.trans hE5
      clear hE5 hJ5 hE8 hE3 HVI
      obtain ⟨zc, hzc⟩ : ∃ z, cnt cs.size Z = z := ⟨_, rfl⟩
      rw [hzc] at hnum HCN
      clear hzc
      go_wp2_with fail
      refine wp_region_flow_at (C := Ext) 5 [fun v _ => v = .int .i64 (zc : Int), fun v _ => v = .agg #[.int .i64 n, .string p, .string cs], fun v _ => v = .string X, fun v _ => v = .int .i64 (X).size, fun v _ => v = .bool (((zc : Int) == (X).size))]
        [[(4, none)], [(1, none)], [(27, some 1)], [(28, some 2)], [(26, some 0), (29, some 3)]] (by kernel_rfl) (by kernel_rfl) Ext.refl (fun _ _ _ => Ext.trans) ?_ ?_ ?_
      · intro F hF
        simp only [List.mem_cons, List.not_mem_nil, or_false] at hF
        rcases hF with rfl | rfl | rfl | rfl | rfl <;> exact fun _ _ _ h _ => h
      · refine ⟨?_, ?_, ?_, ?_, ?_, trivial⟩
        · rintro ρ w1 hw hcst hfn hk
          have c0 := hw.cell (b := h) (o := 0) (v := .int .i64 (zc : Int)) (by first | (simp [*]; done) | (simp [*, go_sem]; done) | go_cell)
          clear hw
          simp only [known, List.getD_cons_zero, List.getD_cons_succ, Nat.reduceAdd] at hk
          simp only [List.getD_cons_zero, List.getD_cons_succ, Nat.reduceAdd, flowAt]
          go_simp
          exact ⟨Ext.refl _, by first | rfl | trivial⟩
        · rintro ρ w1 hw hcst hfn hk
          have c0 := hw.cell (b := w.heap.size) (o := 0) (v := .int .i64 n) (by first | (simp [*]; done) | (simp [*, go_sem]; done) | go_cell)
          have c1 := hw.cell (b := w.heap.size) (o := 1) (v := .string p) (by first | (simp [*]; done) | (simp [*, go_sem]; done) | go_cell)
          have c2 := hw.cell (b := w.heap.size) (o := 2) (v := .string cs) (by first | (simp [*]; done) | (simp [*, go_sem]; done) | go_cell)
          clear hw
          simp only [known, List.getD_cons_zero, List.getD_cons_succ, Nat.reduceAdd] at hk
          simp only [List.getD_cons_zero, List.getD_cons_succ, Nat.reduceAdd, flowAt]
          go_simp
          exact ⟨Ext.refl _, by first | rfl | trivial⟩
        · rintro ρ w1 hw hcst hfn hk
          simp only [known, List.getD_cons_zero, List.getD_cons_succ, Nat.reduceAdd] at hk
          simp only [List.getD_cons_zero, List.getD_cons_succ, Nat.reduceAdd, flowAt]
          go_simp
          exact flow_ret (HLO.out _ (HM.out _ (hX5.drew.trans hw)))
        · rintro ρ w1 hw hcst hfn hk
          clear hw
          simp only [known, List.getD_cons_zero, List.getD_cons_succ, Nat.reduceAdd] at hk
          simp only [List.getD_cons_zero, List.getD_cons_succ, Nat.reduceAdd, flowAt]
          go_simp
          exact ⟨Ext.refl _, by first | rfl | trivial⟩
        · rintro ρ w1 hw hcst hfn hk
          clear hw
          simp only [known, List.getD_cons_zero, List.getD_cons_succ, Nat.reduceAdd] at hk
          simp only [List.getD_cons_zero, List.getD_cons_succ, Nat.reduceAdd, flowAt]
          go_simp
          exact ⟨Ext.refl _, by first | rfl | trivial⟩
      intro vs w1 hw hf
      simp only [flowFacts, Nat.reduceAdd] at hf
      obtain ⟨e0, e1, e2, e3, e4, -⟩ := hf
      simp only [List.take_succ_cons, List.take_zero, List.drop_succ_cons, List.drop_zero, putAll, Act.put, Nat.reduceAdd, List.setIfInBounds_toArray, List.set_cons_zero, List.set_cons_succ, e0, e1, e2, e3, e4]
      clear e0 e1 e2 e3 e4
      have hX6 := hX5.drew.trans hw
      clear hw
      go_wp2_with fail
      go_returns
      refine ⟨ret_bool ?_, hX6⟩
      rw [H.out, HK.out, HBL.out, ← HCN.out, Bool.eq_iff_iff]
      simp
      omega
    · rw [hbl] at H
      clear hbl
      go_wp2_with fail
      go_returns
      exact ⟨ret_bool (by rw [H.out, HK.out]; rfl), hE2⟩
end Go.Proofs.YtmohfdfjlgekaaaGreatDoor
