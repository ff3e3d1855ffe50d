/- The laws' own dice: a number below n. Conditions: at most 2^20 bytes, at most 2^40 throws so far. -/
import Derived.Test.YtmohfdfjlgekaaaDoorSrc
namespace Go.Proofs.YtmohfdfjlgekaaaDoor
set_option linter.unusedVariables false
set_option linter.unusedSimpArgs false
open Go Go.RowKit
theorem and24 (x : Int) : 0 ≤ bits .and .u64 (IntKind.u64.wrap x / 8589934592) 16777215 ∧ bits .and .u64 (IntKind.u64.wrap x / 8589934592) 16777215 ≤ 16777215 := by
  have h0 : 0 ≤ IntKind.u64.wrap x ∧ IntKind.u64.wrap x < 18446744073709551616 := by
    simp only [IntKind.wrap, IntKind.bits, IntKind.signed]
    simp
    omega
  have h := bits_mask .u64 63 (by decide) (fun n h₀ h₁ => by rw [IntKind.wrap_u64]; omega) 24 (by decide) (IntKind.u64.wrap x / 8589934592) (by omega) (by omega)
  have e : ((2 : Int) ^ 24 - 1) = 16777215 := by decide
  have e2 : ((2 : Int) ^ 24) = 16777216 := by decide
  rw [e, e2] at h
  rw [h]
  omega
theorem wand24 (x : Int) : 0 ≤ wrap64 (bits .and .u64 (IntKind.u64.wrap x / 8589934592) 16777215) ∧ wrap64 (bits .and .u64 (IntKind.u64.wrap x / 8589934592) 16777215) ≤ 16777215 := by
  have := and24 x
  unfold wrap64
  omega
theorem Src.set2 {w : World} {g k : Nat} (h : Src w g k) (z : Int) : Exc g w (w.setCell ⟨g, 2, none⟩ (.int .u64 z)) ∧ Src (w.setCell ⟨g, 2, none⟩ (.int .u64 z)) g k := by
  have e : Exc g w (w.setCell ⟨g, 2, none⟩ (.int .u64 z)) := (Exc.refl g w).setCell 2 _
  obtain ⟨a', n, c, l, t', z', h0, h1, h2, h3, h4, h5, h6, h7, h8⟩ := h
  refine ⟨e, a', n, c, l, t', z, ?_, h1, h2, ?_, h4, ?_, h6, World.cell?_setCell_same _ _ _ h7, fun j => by simpa using h8 j⟩
  · rw [World.cell?_setCell_other _ _ _ _ (by simp)]; exact h0
  · intro j u hj
    obtain ⟨b', o, ha, hcc⟩ := h3 j u hj
    exact ⟨b', o, ha, e.cell hcc (Nat.ne_of_lt (h4 (by
      have := (List.getElem?_eq_some_iff.1 hj).1
      rw [bytesV_length] at this
      omega) _ ha))⟩
  · rw [World.cell?_setCell_other _ _ _ _ (by simp)]; exact h5
theorem Src.set1 {w : World} {g k m : Nat} (h : Src w g k) (t : Nat) (ht : t ≤ m) : Exc g w (w.setCell ⟨g, 1, none⟩ (.int .i64 (t : Int))) ∧ Src (w.setCell ⟨g, 1, none⟩ (.int .i64 (t : Int))) g m := by
  have e : Exc g w (w.setCell ⟨g, 1, none⟩ (.int .i64 (t : Int))) := (Exc.refl g w).setCell 1 _
  obtain ⟨a', n, c, l, t', z', h0, h1, h2, h3, h4, h5, h6, h7, h8⟩ := h
  refine ⟨e, a', n, c, l, t, z', ?_, h1, h2, ?_, h4, World.cell?_setCell_same _ _ _ h5, ht, ?_, fun j => by simpa using h8 j⟩
  · rw [World.cell?_setCell_other _ _ _ _ (by simp)]; exact h0
  · intro j u hj
    obtain ⟨b', o, ha, hcc⟩ := h3 j u hj
    exact ⟨b', o, ha, e.cell hcc (Nat.ne_of_lt (h4 (by
      have := (List.getElem?_eq_some_iff.1 hj).1
      rw [bytesV_length] at this
      omega) _ ha))⟩
  · rw [World.cell?_setCell_other _ _ _ _ (by simp)]; exact h7
set_option maxHeartbeats 2000000 in
theorem below_any (g k : Nat) (n : Int) (w : World) (h : Src w g k) (hk : k ≤ 1099511627000) (hn : 1 ≤ n) :
    Calls Tryd.prog 19 #[.pointer (some ⟨g, 0, none⟩), .int .i64 n] w (Drew g k 1 (fun v _ => ∃ x : Int, 0 ≤ x ∧ x < n ∧ v = .int .i64 x) w) := by
  have hS := h
  obtain ⟨a, m, c, l, t, z, h0, h1, h2, h3, h4, h5, h6, h7, h8⟩ := h
  have f0 := h8 0
  have f1 := h8 1
  have f2 := h8 2
  have hn0 : n ≠ 0 := by omega
  have hn2 : 0 < n := by omega
  by_cases hlt : t < m
  · obtain ⟨b, o, rfl, hc⟩ := h3.at (by rw [bytesV_length]; omega)
    obtain ⟨x, hx⟩ : ∃ x : UInt8, l[t]? = some x := ⟨l[t]'(by omega), List.getElem?_eq_getElem _⟩
    have hx1 := hc t (.int .u8 x.toNat) (by rw [bytesV_get, hx]; rfl)
    have hxb : x.toNat < 256 := x.toNat_lt
    have hne : b ≠ g := Nat.ne_of_lt (h4 (by omega) _ rfl)
    have HS := hid hS
    clear h1 h3 h4 h8 hc hx hS
    go_enter Tryd.func19, Tryd.ntmps19
    go_wp2_with fail
    obtain ⟨q0, q1⟩ := wand24 (IntKind.u64.wrap (z * 6364136223846793005) + 1442695040888963407)
    obtain ⟨X, hX⟩ : ∃ X, wrap64 (bits .and .u64 (IntKind.u64.wrap (IntKind.u64.wrap (z * 6364136223846793005) + 1442695040888963407) / 8589934592) 16777215) = X := ⟨_, rfl⟩
    rw [hX] at q0 q1 ⊢
    clear hX
    go_quiet (fail)
    go_wp2_with fail
    go_quiet (fail)
    go_wp2_with fail
    go_returns
    obtain ⟨y0, y1⟩ : 0 ≤ (X + (x.toNat : Int)) % n ∧ (X + (x.toNat : Int)) % n < n := ⟨Int.emod_nonneg _ (by omega), Int.emod_lt_of_pos _ (by omega)⟩
    refine ⟨_, rfl, ⟨_, y0, y1, rfl⟩, ?_⟩
    have A1 := HS.out.set2 (IntKind.u64.wrap (IntKind.u64.wrap (z * 6364136223846793005) + 1442695040888963407))
    exact ⟨(A1.1.ext ((Ext.refl _).drewN _)).trans (Src.set1 (A1.2.ext ((Ext.refl _).drewN _)) (t + 1) (m := k + 1) (by omega)).1, (Src.set1 (A1.2.ext ((Ext.refl _).drewN _)) (t + 1) (m := k + 1) (by omega)).2⟩
  · have HS := hid hS
    clear h1 h3 h4 h8 hS
    have hn1 : ¬ ((t : Int) < (m : Int)) := by omega
    go_enter Tryd.func19, Tryd.ntmps19
    go_wp2_with fail
    obtain ⟨q0, q1⟩ := wand24 (IntKind.u64.wrap (z * 6364136223846793005) + 1442695040888963407)
    obtain ⟨X, hX⟩ : ∃ X, wrap64 (bits .and .u64 (IntKind.u64.wrap (IntKind.u64.wrap (z * 6364136223846793005) + 1442695040888963407) / 8589934592) 16777215) = X := ⟨_, rfl⟩
    rw [hX] at q0 q1 ⊢
    clear hX
    go_quiet (fail)
    go_wp2_with fail
    go_returns
    obtain ⟨y0, y1⟩ : 0 ≤ X % n ∧ X % n < n := ⟨Int.emod_nonneg _ (by omega), Int.emod_lt_of_pos _ (by omega)⟩
    refine ⟨_, rfl, ⟨_, y0, y1, rfl⟩, ?_⟩
    have A1 := HS.out.set2 (IntKind.u64.wrap (IntKind.u64.wrap (z * 6364136223846793005) + 1442695040888963407))
    exact ⟨A1.1.ext ((Ext.refl _).drewN _), (A1.2.ext ((Ext.refl _).drewN _)).up (by omega)⟩
set_option maxHeartbeats 2000000 in
theorem f6roll_any (a : Option Addr) (c : Nat) (l : List UInt8) (s : Int) (w : World) (hr : Rd w a (bytesV l)) (hl : l.length ≤ 1048576) :
    Calls Tryd.prog 18 #[.slice a l.length c, .int .u64 s] w (fun e w' => ∃ g, e = .returned (.pointer (some ⟨g, 0, none⟩)) ∧ w.heap.size ≤ g ∧ Ext w w' ∧ Src w' g 0) := by
  have HR := hid hr
  have HA : Hid (0 < l.length → ∀ x, a = some x → x.block < w.heap.size) := hid (fun h x e => by
    obtain ⟨b, o, e2, hc⟩ := hr.at (by rw [bytesV_length]; exact h)
    rw [e] at e2
    cases e2
    obtain ⟨u, hu⟩ : ∃ u, (bytesV l)[0]? = some u := ⟨_, List.getElem?_eq_getElem (by rw [bytesV_length]; exact h)⟩
    exact World.block_lt_of_cell? _ _ (hc 0 u hu))
  clear hr
  go_enter Tryd.func18, Tryd.ntmps18
  go_wp2_with fail
  have H0 : Hid (∀ z : Int, Ext w (w.alloc (.cells #[.slice a l.length c, .int .i64 0, .int .u64 z] 62)) ∧ Src (w.alloc (.cells #[.slice a l.length c, .int .i64 0, .int .u64 z] 62)) w.heap.size 0) := hid (fun z =>
    ⟨(Ext.refl w).alloc _, a, l.length, c, l, 0, z, by simp, rfl, hl, HR.out.ext ((Ext.refl w).alloc _), HA.out, by simp, Nat.le_refl _, by simp, fun j => by simp⟩)
  go_loopw [6] (fun i wr => ∃ k : Nat, k ≤ l.length ∧ i = .int .i64 k ∧ Hid (Ext w wr ∧ Src wr w.heap.size 0)) (fun i _ => l.length - (intOf i).toNat)
  case atStart => exact ⟨0, by omega, rfl, hid (H0.out _)⟩
  case round =>
    obtain ⟨k, hk, rfl, HK⟩ := hrel
    by_cases hlt : k < l.length
    · obtain ⟨b, o, rfl, hc⟩ := (HR.out.ext HK.out.1).at (by rw [bytesV_length]; omega)
      obtain ⟨x, hx⟩ : ∃ x : UInt8, l[k]? = some x := ⟨l[k], List.getElem?_eq_getElem _⟩
      have hx1 := hc k (.int .u8 x.toNat) (by rw [bytesV_get, hx]; rfl)
      have hxb : x.toNat < 256 := x.toNat_lt
      obtain ⟨p1, hp1⟩ : ∃ p1, o + k = p1 := ⟨_, rfl⟩
      rw [hp1] at hx1
      obtain ⟨a2, n2, c2, l2, t2, z, h0, -, -, -, -, h5, -, h7, h8⟩ := HK.out.2
      have f2 := h8 2
      clear hc hx h8 h0 h5
      go_wp2_with fail
      refine wp_region_flow_at (C := Ext) 15 [fun v _ => v = .pointer (some ⟨w.heap.size, 0, none⟩), fun v _ => v = .pointer (some ⟨w.heap.size, 0, none⟩), fun v _ => v = .pointer (some ⟨w.heap.size, 0, none⟩), fun v _ => v = .pointer (some ⟨w.heap.size, 2, none⟩), fun v _ => v = .int .u64 z, fun v _ => ∃ z : Int, v = .int .u64 z, fun v _ => v = .slice (some ⟨b, o, none⟩) l.length c, fun v _ => v = .int .i64 k, fun v _ => v = .pointer (some ⟨b, p1, none⟩), fun v _ => v = .int .u8 x.toNat, fun v _ => ∃ z : Int, v = .int .u64 z, fun v _ => ∃ z : Int, v = .int .u64 z, fun v _ => ∃ z : Int, v = .int .u64 z, fun v _ => v = .pointer (some ⟨w.heap.size, 0, none⟩), fun v _ => v = .pointer (some ⟨w.heap.size, 2, none⟩)]
        [[(5, none)], [(5, none)], [(23, some 1)], [(24, some 2)], [(25, some 3)], [(26, some 4)], [(0, none)], [(6, none)], [(28, some 6), (29, some 7)], [(30, some 8)], [(31, some 9)], [(27, some 5), (32, some 10)], [(33, some 11)], [(22, some 0)], [(35, some 13)]] (by kernel_rfl) (by kernel_rfl) Ext.refl (fun _ _ _ => Ext.trans) ?_ ?_ ?_
      · intro F hF
        simp only [List.mem_cons, List.not_mem_nil, or_false] at hF
        rcases hF with rfl | rfl | rfl | rfl | rfl | rfl | rfl | rfl | rfl | rfl | rfl | rfl | rfl | rfl | rfl <;> exact fun _ _ _ h _ => h
      · refine ⟨?_, ?_, ?_, ?_, ?_, ?_, ?_, ?_, ?_, ?_, ?_, ?_, ?_, ?_, ?_, trivial⟩
        · rintro ρ w1 hw hcst hfn hk
          clear hw
          simp only [known, List.getD_cons_zero, List.getD_cons_succ, Nat.reduceAdd] at hk
          simp only [List.getD_cons_zero, List.getD_cons_succ, Nat.reduceAdd, flowAt]
          go_simp
          exact ⟨Ext.refl _, rfl⟩
        · rintro ρ w1 hw hcst hfn hk
          clear hw
          simp only [known, List.getD_cons_zero, List.getD_cons_succ, Nat.reduceAdd] at hk
          simp only [List.getD_cons_zero, List.getD_cons_succ, Nat.reduceAdd, flowAt]
          go_simp
          exact ⟨Ext.refl _, rfl⟩
        · rintro ρ w1 hw hcst hfn hk
          clear hw
          simp only [known, List.getD_cons_zero, List.getD_cons_succ, Nat.reduceAdd] at hk
          simp only [List.getD_cons_zero, List.getD_cons_succ, Nat.reduceAdd, flowAt]
          go_simp
          exact ⟨Ext.refl _, rfl⟩
        · rintro ρ w1 hw hcst hfn hk
          clear hw
          simp only [known, List.getD_cons_zero, List.getD_cons_succ, Nat.reduceAdd] at hk
          simp only [List.getD_cons_zero, List.getD_cons_succ, Nat.reduceAdd, flowAt]
          go_simp
          exact ⟨Ext.refl _, rfl⟩
        · rintro ρ w1 hw hcst hfn hk
          have c0 := hw.cell (b := w.heap.size) (o := 2) (v := .int .u64 z) (by first | (simp [*]; done) | (simp [*, go_sem]; done) | go_cell)
          clear hw
          simp only [known, List.getD_cons_zero, List.getD_cons_succ, Nat.reduceAdd] at hk
          simp only [List.getD_cons_zero, List.getD_cons_succ, Nat.reduceAdd, flowAt]
          go_simp
          exact ⟨Ext.refl _, rfl⟩
        · rintro ρ w1 hw hcst hfn hk
          simp only [known, List.getD_cons_zero, List.getD_cons_succ, Nat.reduceAdd] at hk
          simp only [List.getD_cons_zero, List.getD_cons_succ, Nat.reduceAdd, flowAt]
          go_simp
          exact ⟨Ext.refl _, _, rfl⟩
        · rintro ρ w1 hw hcst hfn hk
          clear hw
          simp only [known, List.getD_cons_zero, List.getD_cons_succ, Nat.reduceAdd] at hk
          simp only [List.getD_cons_zero, List.getD_cons_succ, Nat.reduceAdd, flowAt]
          go_simp
          exact ⟨Ext.refl _, rfl⟩
        · rintro ρ w1 hw hcst hfn hk
          clear hw
          simp only [known, List.getD_cons_zero, List.getD_cons_succ, Nat.reduceAdd] at hk
          simp only [List.getD_cons_zero, List.getD_cons_succ, Nat.reduceAdd, flowAt]
          go_simp
          exact ⟨Ext.refl _, rfl⟩
        · rintro ρ w1 hw hcst hfn hk
          clear hw
          simp only [known, List.getD_cons_zero, List.getD_cons_succ, Nat.reduceAdd] at hk
          simp only [List.getD_cons_zero, List.getD_cons_succ, Nat.reduceAdd, flowAt]
          go_simp
          exact ⟨Ext.refl _, rfl⟩
        · rintro ρ w1 hw hcst hfn hk
          have c0 := hw.cell (b := b) (o := p1) (v := .int .u8 x.toNat) (by first | (simp [*]; done) | (simp [*, go_sem]; done) | go_cell)
          clear hw
          simp only [known, List.getD_cons_zero, List.getD_cons_succ, Nat.reduceAdd] at hk
          simp only [List.getD_cons_zero, List.getD_cons_succ, Nat.reduceAdd, flowAt]
          go_simp
          exact ⟨Ext.refl _, rfl⟩
        · rintro ρ w1 hw hcst hfn hk
          simp only [known, List.getD_cons_zero, List.getD_cons_succ, Nat.reduceAdd] at hk
          simp only [List.getD_cons_zero, List.getD_cons_succ, Nat.reduceAdd, flowAt]
          go_simp
          exact ⟨Ext.refl _, _, rfl⟩
        · rintro ρ w1 hw hcst hfn hk
          simp only [known, List.getD_cons_zero, List.getD_cons_succ, Nat.reduceAdd] at hk
          simp only [List.getD_cons_zero, List.getD_cons_succ, Nat.reduceAdd, flowAt]
          go_simp
          (obtain ⟨⟨y1, e1⟩, ⟨y2, e2⟩, -⟩ := hk; rw [e1, e2]; go_simp; exact ⟨Ext.refl _, _, rfl⟩)
        · rintro ρ w1 hw hcst hfn hk
          simp only [known, List.getD_cons_zero, List.getD_cons_succ, Nat.reduceAdd] at hk
          simp only [List.getD_cons_zero, List.getD_cons_succ, Nat.reduceAdd, flowAt]
          go_simp
          (obtain ⟨⟨y1, e1⟩, -⟩ := hk; rw [e1]; go_simp; exact ⟨Ext.refl _, _, rfl⟩)
        · rintro ρ w1 hw hcst hfn hk
          clear hw
          simp only [known, List.getD_cons_zero, List.getD_cons_succ, Nat.reduceAdd] at hk
          simp only [List.getD_cons_zero, List.getD_cons_succ, Nat.reduceAdd, flowAt]
          go_simp
          exact ⟨Ext.refl _, rfl⟩
        · rintro ρ w1 hw hcst hfn hk
          clear hw
          simp only [known, List.getD_cons_zero, List.getD_cons_succ, Nat.reduceAdd] at hk
          simp only [List.getD_cons_zero, List.getD_cons_succ, Nat.reduceAdd, flowAt]
          go_simp
          exact ⟨Ext.refl _, rfl⟩
      intro vs w1 hw hf
      simp only [flowFacts, Nat.reduceAdd] at hf
      obtain ⟨e0, e1, e2, e3, e4, e5, e6, e7, e8, e9, e10, e11, e12, e13, e14, -⟩ := hf
      simp only [List.take_succ_cons, List.take_zero, List.drop_succ_cons, List.drop_zero, putAll, Act.put, Nat.reduceAdd, List.setIfInBounds_toArray, List.set_cons_zero, List.set_cons_succ, e0, e1, e2, e3, e4, e5, e6, e7, e8, e9, e10, e11, e13, e14]
      clear e0 e1 e2 e3 e4 e5 e6 e7 e8 e9 e10 e11 e13 e14
      obtain ⟨y, e12⟩ := e12
      rw [e12]
      have hx := (Ext.refl _).drew.trans hw
      have HK2 := hid (show Ext w w1 ∧ Src w1 w.heap.size 0 from ⟨HK.out.1.trans hx, HK.out.2.ext hx⟩)
      replace h7 := hx.cell h7
      have g2 : w1.frozen? ⟨w.heap.size, 2, none⟩ = false := by
        rw [hx.cells.2 _ _ HK.out.2.lt]
        exact f2
      clear hx hw e12 f2
      go_wp2_with fail
      go_roundw
      case rel => exact ⟨k + 1, by omega, by go_num, hid ⟨HK2.out.1.setCell (Nat.le_refl _) _, (HK2.out.2.set2 y).2⟩⟩
      case measure => simp [intOf]; omega
    · go_wp2_with fail
      go_returns
      exact ⟨_, rfl, Nat.le_refl _, HK.out.1, HK.out.2⟩
end Go.Proofs.YtmohfdfjlgekaaaDoor
