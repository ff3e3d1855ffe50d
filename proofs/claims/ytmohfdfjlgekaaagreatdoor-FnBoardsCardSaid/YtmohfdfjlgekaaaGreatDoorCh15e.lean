/- IsJoined by the reference. Conditions: at most 2^20 bytes. -/
import Derived.Test.YtmohfdfjlgekaaaGreatDoorMg9
namespace Go.Proofs.YtmohfdfjlgekaaaGreatDoor
set_option linter.unusedVariables false
set_option linter.unusedSimpArgs false
open Go Go.RowKit
theorem El_bool : El Tryz.prog 63 4 (.bool false) 1 1 := by
  obtain ⟨i, h1, h2, h3, h4⟩ := info_parts (show (Tryz.prog.info? 4).map (fun i => (i.zero, i.size, i.bytes)) = some (some (.bool false), 1, 1) by kernel_rfl)
  exact ⟨Tryz.underlying63, ⟨i, h1, h2, h3, h4⟩, rfl, by decide⟩
def noJ : Nat → Bool := fun _ => false
theorem joinS_of {n : Int} {cs : ByteArray} (h : ∀ j, j < cs.size → litB cs j = true → visJ n cs j = true) : joinS n cs = true := by
  unfold joinS
  rw [List.all_eq_true]
  intro i hi
  cases hl : litB cs i
  · rfl
  · rw [h i (by simpa using hi) hl]; rfl
theorem joinS_no {n : Int} {cs : ByteArray} {j : Nat} (h : j < cs.size) (h1 : litB cs j = true) (h2 : visJ n cs j = false) : joinS n cs = false := by
  apply Bool.eq_false_iff.2
  intro hall
  unfold joinS at hall
  rw [List.all_eq_true] at hall
  have := hall j (by simpa using h)
  rw [h1, h2] at this
  cases this
theorem mix_of {n : Int} {k : Nat} (h1 : 5 ≤ n) (h2 : n ≤ 15) (hk : (k : Int) < n * n) : ∃ r c, inRC n r c = true ∧ mixN n r c = k := by
  obtain ⟨a0, a1, a2, a3, a4⟩ := mix_div h1 h2 hk
  exact ⟨_, _, by simp only [inRC, inB, Bool.and_eq_true, decide_eq_true_eq]; omega, a4⟩
theorem Bs.at' {w : World} {g : Nat} {n : Int} {S : Nat → Bool} (h : Bs w g n n S) (h1 : 5 ≤ n) (h2 : n ≤ 15) {k : Nat} (hk : (k : Int) < n * n) : w.cell? ⟨g, k, none⟩ = some (.bool (S k)) := by
  obtain ⟨r, c, hr, e⟩ := mix_of h1 h2 hk
  have := (h.2 r c hr).1
  rw [e] at this
  exact this
set_option maxHeartbeats 4000000 in
theorem sIsJoined_any (n : Int) (p cs : ByteArray) (w : World) (hp : p.size ≤ 1048576) (hc : cs.size ≤ 1048576) : Calls Tryz.prog 13 #[boardV n p cs] w (Ret (.bool (joinB n p cs)) w) := by
  have H : Hid (joinB n p cs = (okB n p cs && (blankS cs || joinS n cs))) := hid rfl
  have HBD : Hid (BdAt (w.alloc (.cells #[.int .i64 n, .string p, .string cs] 25)) w.heap.size 0 n p cs) := hid ⟨by simp, by simp, by simp⟩
  have HO := hid (l11Ok_any w.heap.size 0 n p cs _ HBD.out hp hc)
  cases hk : okB n p cs
  · rw [hk] at HO H
    clear hk
    go_enter Tryz.func13, Tryz.ntmps13
    go_wp2_with fail
    refine HO.out.mono ?_
    rintro e w1 ⟨rfl, hx⟩
    have hx2 := Dr.ext hx
    go_wp2_with fail
    go_returns
    exact ⟨ret_bool (by rw [H.out]; rfl), ((Ext.refl w).alloc _).trans hx2⟩
  · rw [hk] at HO
    obtain ⟨h1, h2, h3, h4, h5⟩ := okB_all hk
    have HK := hid hk
    have hsq := sq_le h1 h2
    have hcs : cs.size ≤ 225 := by omega
    have HC := hid h4
    have HA := hid h5
    have HLT : Hid (∀ k : Nat, k < cs.size → (k : Int) < n * n) := hid (fun k hk => by omega)
    have HMD := hid (fun k : Nat => mix_div (n := n) (k := k) h1 h2)
    have HR := hid (fun (w' : World) (k : Ext (w.alloc (.cells #[.int .i64 n, .string p, .string cs] 25)) w') g hg => l11Reach_any w.heap.size 0 g cs.size n p cs w' (HBD.out.ext k) h1 h2 h4 h5 h4 hg cs.size (fun _ => false))
    have n0 : n ≠ 0 := by omega
    have HAT : Hid (∀ k (h : k < cs.size), (cs[k] : UInt8) = bAt cs k) := hid (fun k h => bAt_eq cs k h)
    clear hk h3 h4 h5 hp hc hsq
    go_enter Tryz.func13, Tryz.ntmps13
    go_wp2_with fail
    refine HO.out.mono ?_
    rintro e w0q ⟨rfl, hx⟩
    have hx2 := Dr.ext hx
    obtain ⟨B0, B1, B2⟩ := HBD.out.ext hx2
    go_wp2_with (refine wpList_make1 rfl _ _ 63 rfl El_bool rfl cs.size rfl rfl rfl rfl (by omega) (by unfold maxLen; omega) ?_; intro wm hwr _ hxm)
    have HW := hid hwr
    have HXM := hid hxm
    have HX1 := hid hx2
    have HSZ : Hid ((w.alloc (.cells #[.int .i64 n, .string p, .string cs] 25)).heap.size ≤ w0q.heap.size) := hid hx2.size
    obtain ⟨C0, C1, C2⟩ := (HBD.out.ext hx2).ext hxm
    clear hwr hxm hx hx2 B0 B1 B2
    cases hbl : blankS cs
    · obtain ⟨f1, f2, f3⟩ := first_some hbl
      have HBL := hid hbl
      obtain ⟨K, hK⟩ : ∃ K, firstI cs = K := ⟨_, rfl⟩
      have HKK := hid hK
      rw [hK] at f1 f2 f3
      have F2 := hid f2
      have F3 := hid f3
      clear hbl f2 f3 hK
      go_loopw [4] (fun i wr => ∃ k : Nat, k ≤ K ∧ i = .int .i64 (k : Int) ∧ wr = wm) (fun i _ => cs.size - (intOf i).toNat)
      case atStart => exact ⟨0, by omega, rfl, rfl⟩
      case round =>
        obtain ⟨k, hk, rfl, rfl⟩ := hrel
        have hlt : k < cs.size := by omega
        obtain ⟨u, hu⟩ : ∃ u, cs[k] = u := ⟨_, rfl⟩
        have hub : u.toNat < 256 := u.toNat_lt
        by_cases hkK : k = K
        · subst hkK
          have h46 : ((u.toNat : Int) != 46) = true := by
            have := F2.out
            simp only [litB, ← HAT.out k hlt, hu, bne_iff_ne, ne_eq] at this ⊢
            intro e
            exact this (UInt8.toNat_inj.1 (by show u.toNat = 46; omega))
          obtain ⟨g0, g1, g2, g3, g4⟩ := HMD.out k (HLT.out k hlt)
          obtain ⟨qr, hqr⟩ : ∃ x, (k : Int).tdiv n = x := ⟨_, rfl⟩
          obtain ⟨qc, hqc⟩ : ∃ x, (k : Int).tmod n = x := ⟨_, rfl⟩
          have HQR := hid hqr
          have HQC := hid hqc
          rw [hqr] at g0 g1
          rw [hqc] at g2 g3
          have wr1 : IntKind.i64.wrap ((k : Int) / n) = qr := by rw [← Int.tdiv_eq_ediv_of_nonneg (by omega), hqr]; exact IntWalk.i64_in _ (by omega)
          clear hqr g4
          go_wp2_with fail
          refine wp_region_flow_at (C := Ext) 9 [fun v _ => v = .slice (some ⟨w0q.heap.size, 0, none⟩) cs.size cs.size, fun v _ => v = .int .i64 (k : Int), fun v _ => v = .pointer (some ⟨w.heap.size, 0, none⟩), fun v _ => v = .int .i64 n, fun v _ => v = .int .i64 qr, fun v _ => v = .int .i64 (k : Int), fun v _ => v = .pointer (some ⟨w.heap.size, 0, none⟩), fun v _ => v = .int .i64 n, fun v _ => v = .int .i64 qc]
            [[(3, none)], [(4, none)], [(1, none)], [(26, some 2)], [(25, some 1), (27, some 3)], [(4, none)], [(1, none)], [(30, some 6)], [(29, some 5), (31, some 7)]] (by kernel_rfl) (by kernel_rfl) Ext.refl (fun _ _ _ => Ext.trans) ?_ ?_ ?_
          · intro F hF
            simp only [List.mem_cons, List.not_mem_nil, or_false] at hF
            rcases hF with rfl | rfl | rfl | rfl | rfl | rfl | rfl | rfl | rfl <;> exact fun _ _ _ h _ => h
          · refine ⟨?_, ?_, ?_, ?_, ?_, ?_, ?_, ?_, ?_, trivial⟩
            · rintro ρ w1 hw hcst hfn hk
              clear hw
              simp only [known, List.getD_cons_zero, List.getD_cons_succ, Nat.reduceAdd] at hk
              simp only [List.getD_cons_zero, List.getD_cons_succ, Nat.reduceAdd, flowAt]
              go_simp
              exact ⟨Ext.refl _, by first | rfl | trivial⟩
            · rintro ρ w1 hw hcst hfn hk
              clear hw
              simp only [known, List.getD_cons_zero, List.getD_cons_succ, Nat.reduceAdd] at hk
              simp only [List.getD_cons_zero, List.getD_cons_succ, Nat.reduceAdd, flowAt]
              go_simp
              exact ⟨Ext.refl _, by first | rfl | trivial⟩
            · rintro ρ w1 hw hcst hfn hk
              clear hw
              simp only [known, List.getD_cons_zero, List.getD_cons_succ, Nat.reduceAdd] at hk
              simp only [List.getD_cons_zero, List.getD_cons_succ, Nat.reduceAdd, flowAt]
              go_simp
              exact ⟨Ext.refl _, by first | rfl | trivial⟩
            · rintro ρ w1 hw hcst hfn hk
              have c0 := hw.cell (b := w.heap.size) (o := 0) (v := .int .i64 n) (by first | (simp [*]; done) | (simp [*, go_sem]; done) | go_cell)
              clear hw
              simp only [known, List.getD_cons_zero, List.getD_cons_succ, Nat.reduceAdd] at hk
              simp only [List.getD_cons_zero, List.getD_cons_succ, Nat.reduceAdd, flowAt]
              go_simp
              exact ⟨Ext.refl _, by first | rfl | trivial⟩
            · rintro ρ w1 hw hcst hfn hk
              clear hw
              simp only [known, List.getD_cons_zero, List.getD_cons_succ, Nat.reduceAdd] at hk
              simp only [List.getD_cons_zero, List.getD_cons_succ, Nat.reduceAdd, flowAt]
              go_simp
              exact ⟨Ext.refl _, by first | rfl | trivial⟩
            · rintro ρ w1 hw hcst hfn hk
              clear hw
              simp only [known, List.getD_cons_zero, List.getD_cons_succ, Nat.reduceAdd] at hk
              simp only [List.getD_cons_zero, List.getD_cons_succ, Nat.reduceAdd, flowAt]
              go_simp
              exact ⟨Ext.refl _, by first | rfl | trivial⟩
            · rintro ρ w1 hw hcst hfn hk
              clear hw
              simp only [known, List.getD_cons_zero, List.getD_cons_succ, Nat.reduceAdd] at hk
              simp only [List.getD_cons_zero, List.getD_cons_succ, Nat.reduceAdd, flowAt]
              go_simp
              exact ⟨Ext.refl _, by first | rfl | trivial⟩
            · rintro ρ w1 hw hcst hfn hk
              have c0 := hw.cell (b := w.heap.size) (o := 0) (v := .int .i64 n) (by first | (simp [*]; done) | (simp [*, go_sem]; done) | go_cell)
              clear hw
              simp only [known, List.getD_cons_zero, List.getD_cons_succ, Nat.reduceAdd] at hk
              simp only [List.getD_cons_zero, List.getD_cons_succ, Nat.reduceAdd, flowAt]
              go_simp
              exact ⟨Ext.refl _, by first | rfl | trivial⟩
            · rintro ρ w1 hw hcst hfn hk
              clear hw
              simp only [known, List.getD_cons_zero, List.getD_cons_succ, Nat.reduceAdd] at hk
              simp only [List.getD_cons_zero, List.getD_cons_succ, Nat.reduceAdd, flowAt]
              go_simp
              exact ⟨Ext.refl _, by first | rfl | trivial⟩
          intro vs w1 hw hf
          simp only [flowFacts, Nat.reduceAdd] at hf
          obtain ⟨e0, e1, e2, e3, e4, e5, e6, e7, e8, -⟩ := hf
          simp only [List.take_succ_cons, List.take_zero, List.drop_succ_cons, List.drop_zero, putAll, Act.put, Nat.reduceAdd, List.setIfInBounds_toArray, List.set_cons_zero, List.set_cons_succ, e0, e1, e2, e3, e4, e5, e6, e7, e8]
          clear e0 e1 e2 e3 e4 e5 e6 e7 e8
          have hE8 : Ext wr w1 := ((Ext.refl wr).drew).trans hw
          clear hw
          go_wp2_with fail
          with_reducible refine Calls.mono (HR.out _ HX1.out _ (Nat.le_refl _) qr qc _ (HXM.out.trans hE8) ((HW.out.bs h1 h2 HC.out).ext hE8) (by omega) (by omega) (by omega) (by omega) (by omega)) ?_
          rintro e w5 ⟨rfl, hx5, hS5⟩
          have HS5 : Hid (Bs w5 w0q.heap.size n n (visJ n cs)) := hid (by
            have e : visJ n cs = vis n (letF n cs) cs.size (fun _ => false) qr qc := by unfold visJ; rw [HKK.out, HQR.out, HQC.out]
            rw [e]; exact hS5)
          obtain ⟨D0, D1, D2⟩ := (HBD.out.ext HX1.out).ext hx5
          have HX5 := hid hx5
          clear hx5 hS5 hE8
          go_wp2_with fail
          go_loop [5] (fun i => ∃ k : Nat, k ≤ cs.size ∧ i = .int .i64 (k : Int) ∧ Hid (∀ j, j < k → litB cs j = true → visJ n cs j = true)) (fun i => cs.size - (intOf i).toNat)
          case atStart => exact ⟨0, Nat.zero_le _, by first | rfl | simp, hid (fun j h => by omega)⟩
          case round =>
            obtain ⟨k2, hk2, rfl, hall⟩ := hrel
            by_cases hlt2 : k2 < cs.size
            · obtain ⟨u2, hu2⟩ : ∃ x, cs[k2] = x := ⟨_, rfl⟩
              have hub2 : u2.toNat < 256 := u2.toNat_lt
              have hcell := HS5.out.at' h1 h2 (HLT.out k2 hlt2)
              obtain ⟨sv, hsv⟩ : ∃ x, visJ n cs k2 = x := ⟨_, rfl⟩
              rw [hsv] at hcell
              have HSV := hid hsv
              clear hsv
              by_cases h462 : u2 = 46
              · have hl : litB cs k2 = false := by simp [litB, ← HAT.out k2 hlt2, hu2, h462]
                have HL := hid hl
                clear hl
                subst h462
                go_wp2_with fail
                go_round
                case rel => exact ⟨k2 + 1, by omega, by go_num, hid (fun j hj hq => by
                  by_cases e : j = k2
                  · subst e; rw [HL.out] at hq; cases hq
                  · exact hall.out j (by omega) hq)⟩
                case measure => simp [intOf]; omega
              · have hq2 : ((u2.toNat : Int) != 46) = true := by
                  simp only [bne_iff_ne, ne_eq]
                  intro e
                  exact h462 (UInt8.toNat_inj.1 (by show u2.toNat = 46; omega))
                have hl : litB cs k2 = true := by simp [litB, ← HAT.out k2 hlt2, hu2, h462]
                have HL := hid hl
                clear hl h462
                cases sv
                · go_wp2_with fail
                  go_returns
                  exact ⟨ret_bool (by rw [H.out, HK.out, HBL.out, joinS_no hlt2 HL.out HSV.out]; rfl), ((Ext.refl w).alloc _).trans (HX1.out.trans HX5.out)⟩
                · go_wp2_with fail
                  go_round
                  case rel => exact ⟨k2 + 1, by omega, by go_num, hid (fun j hj hq => by
                    by_cases e : j = k2
                    · subst e; exact HSV.out
                    · exact hall.out j (by omega) hq)⟩
                  case measure => simp [intOf]; omega
            · go_wp2_with fail
              go_returns
              exact ⟨ret_bool (by rw [H.out, HK.out, HBL.out, joinS_of (fun j hj => hall.out j (by omega))]; rfl), ((Ext.refl w).alloc _).trans (HX1.out.trans HX5.out)⟩
        · have h46 : u = 46 := by
            have := F3.out k (by omega)
            simpa [litB, ← HAT.out k hlt, hu] using this
          subst h46
          go_wp2_with fail
          go_roundw
          case rel => exact ⟨k + 1, by omega, by go_num, by first | rfl | trivial⟩
          case measure => simp [intOf]; omega
    · have HBL := hid hbl
      have HNO : Hid (∀ i, i < cs.size → litB cs i = false) := hid (blank_none hbl)
      clear hbl
      go_loop [4] (fun i => ∃ k : Nat, k ≤ cs.size ∧ i = .int .i64 (k : Int)) (fun i => cs.size - (intOf i).toNat)
      case atStart => exact ⟨0, Nat.zero_le _, by first | rfl | trivial | simp⟩
      case round =>
        obtain ⟨k, hk, rfl⟩ := hrel
        by_cases hlt : k < cs.size
        · obtain ⟨u, hu⟩ : ∃ u, cs[k] = u := ⟨_, rfl⟩
          have h46 : u = 46 := by
            have := HNO.out k hlt
            simpa [litB, ← HAT.out k hlt, hu] using this
          subst h46
          go_wp2_with fail
          go_round
          case rel => exact ⟨k + 1, by omega, by go_num⟩
          case measure => simp [intOf]; omega
        · go_wp2_with fail
          go_loop [5] (fun i => ∃ k : Nat, k ≤ cs.size ∧ i = .int .i64 (k : Int) ∧ Hid (∀ j, j < k → litB cs j = true → noJ j = true)) (fun i => cs.size - (intOf i).toNat)
          case atStart => exact ⟨0, Nat.zero_le _, by first | rfl | simp, hid (fun j h => by omega)⟩
          case round =>
            obtain ⟨k2, hk2, rfl, hall⟩ := hrel
            by_cases hlt2 : k2 < cs.size
            · obtain ⟨u2, hu2⟩ : ∃ x, cs[k2] = x := ⟨_, rfl⟩
              have hub2 : u2.toNat < 256 := u2.toNat_lt
              have hcell := (show Bs wm w0q.heap.size n n noJ from HW.out.bs h1 h2 HC.out).at' h1 h2 (HLT.out k2 hlt2)
              obtain ⟨sv, hsv⟩ : ∃ x, noJ k2 = x := ⟨_, rfl⟩
              rw [hsv] at hcell
              have HSV := hid hsv
              clear hsv
              by_cases h462 : u2 = 46
              · have hl : litB cs k2 = false := by simp [litB, ← HAT.out k2 hlt2, hu2, h462]
                have HL := hid hl
                clear hl
                subst h462
                go_wp2_with fail
                go_round
                case rel => exact ⟨k2 + 1, by omega, by go_num, hid (fun j hj hq => by
                  by_cases e : j = k2
                  · subst e; rw [HL.out] at hq; cases hq
                  · exact hall.out j (by omega) hq)⟩
                case measure => simp [intOf]; omega
              · have hq2 : ((u2.toNat : Int) != 46) = true := by
                  simp only [bne_iff_ne, ne_eq]
                  intro e
                  exact h462 (UInt8.toNat_inj.1 (by show u2.toNat = 46; omega))
                have hl : litB cs k2 = true := by simp [litB, ← HAT.out k2 hlt2, hu2, h462]
                have HL := hid hl
                clear hl h462
                cases sv
                · go_wp2_with fail
                  go_returns
                  exact ⟨ret_bool (by have := HNO.out k2 hlt2; rw [HL.out] at this; cases this), ((Ext.refl w).alloc _).trans (HX1.out.trans HXM.out)⟩
                · go_wp2_with fail
                  go_round
                  case rel => exact ⟨k2 + 1, by omega, by go_num, hid (fun j hj hq => by
                    by_cases e : j = k2
                    · subst e; exact HSV.out
                    · exact hall.out j (by omega) hq)⟩
                  case measure => simp [intOf]; omega
            · go_wp2_with fail
              go_returns
              exact ⟨ret_bool (by rw [H.out, HK.out, HBL.out]; rfl), ((Ext.refl w).alloc _).trans (HX1.out.trans HXM.out)⟩

end Go.Proofs.YtmohfdfjlgekaaaGreatDoor
