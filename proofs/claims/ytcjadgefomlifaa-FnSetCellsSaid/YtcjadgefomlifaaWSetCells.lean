/- FnSetCells: whatever it is given, it says yes. -/
import Derived.Test.YtcjadgefomlifaaCh11p
import Derived.Test.YtcjadgefomlifaaSetL
import Derived.Test.YtcjadgefomlifaaLwE
import Derived.Test.YtcjadgefomlifaaRow3
namespace Go.Proofs.Ytcjadgefomlifaa
set_option linter.unusedVariables false
set_option linter.unusedSimpArgs false
open Go Go.RowKit Go.ChangeShapes Go.WideShapes Go.ChangeAt
open Go.ChangeMaps (open_string shut_string)
theorem f6big_any (a : Option Addr) (c : Nat) (l : List UInt8) (w : World) (hl : l.length ≤ maxLen) : Calls Try.prog 16 #[.slice a l.length c] w (Same (.bool (decide (4096 < l.length))) w) := by
  obtain ⟨m, hm⟩ : ∃ m, l.length = m := ⟨_, rfl⟩
  rw [hm] at hl ⊢
  unfold maxLen at hl
  clear hm
  by_cases h : 4096 < m
  · have h2 : (4096 : Int) < (m : Int) := by omega
    go_enter Try.func16, Try.ntmps16
    go_wp2_with fail
    go_returns
    exact ⟨ret_bool (by simp [h]), rfl⟩
  · have h2 : ¬ (4096 : Int) < (m : Int) := by omega
    go_enter Try.func16, Try.ntmps16
    go_wp2_with fail
    go_returns
    exact ⟨ret_bool (by simp [h]), rfl⟩
theorem setCell_cases (n : Int) (p c : ByteArray) (i j x : Int) : ∃ (m : Int) (q d : ByteArray) (u : Int), setCellV n p c i j x = .tuple #[.agg #[.int .i64 m, .string q, .string d], .int .i64 u] ∧ (u = 0 → okB n p c = true ∧ inRC n i j = true ∧ cellB x = true ∧ m = n ∧ q = p ∧ d = setS c (i * n + j).toNat x) := by
  unfold setCellV
  split
  · split
    · split
      · exact ⟨_, _, _, _, rfl, fun _ => ⟨‹_›, ‹_›, ‹_›, rfl, rfl, rfl⟩⟩
      · exact ⟨_, _, _, _, rfl, fun h => by simp at h⟩
    · exact ⟨_, _, _, _, rfl, fun h => by simp at h⟩
  · exact ⟨_, _, _, _, rfl, fun h => by simp at h⟩
set_option maxRecDepth 100000 in
set_option maxHeartbeats 4000000 in
theorem walk_FnSetCells (a : Option Addr) (cc : Nat) (l : List UInt8) (w : World) (hr : Rd w a (bytesV l)) (hl : l.length ≤ maxLen) :
    Calls Try.prog 6 #[.slice a l.length cc] w (Ret (.bool true) w) := by
  have HR := hid hr
  have HF := hid (f6big_any a cc l w hl)
  clear hr
  by_cases hbig : 4096 < l.length
  · rw [show decide (4096 < l.length) = true by simpa using hbig] at HF
    clear hbig
    go_enter Try.func6, Try.ntmps6
    go_wp2_with fail
    refine HF.out.mono ?_
    rintro e w' ⟨rfl, rfl⟩
    go_wp2_with fail
    go_returns
    exact ⟨rfl, Ext.refl _⟩
  · rw [show decide (4096 < l.length) = false by simpa using hbig] at HF
    have HD := hid (DrawSetCell_any a cc l w HR.out (by omega))
    clear hbig
    go_enter Try.func6, Try.ntmps6
    go_wp2_with fail
    refine HF.out.mono ?_
    rintro e w' ⟨rfl, rfl⟩
    go_wp2_with fail
    refine HD.out.mono ?_
    rintro e w1 ⟨n, p, c, i, j, x, n0, n1, hp, hc, i0, i1, j0, j1, x0, x1, rfl, hx⟩
    obtain ⟨m, q, d, u, hv, hu⟩ := setCell_cases n p c i j x
    have HI := hid (fun w' => SetCell_any n p c i j x w' (by omega) (by omega) x0 x1)
    have HS := hid (fun w' => sSetCell_any n p c i j x w' (by omega) (by omega) x0 x1)
    have HSB := hid (fun C h0 h1 h2 w' => SetCell_any n p (setS c (i * n + j).toNat x) i j C w' (by omega) h2 h0 h1)
    have HC := hid (fun r k w' => CellAt_any n p c r k w' (by omega) (by omega))
    have HCs := hid (sCellAt_any n p c i j · (by omega) (by omega))
    have HP := hid (PremiumAt_any n p c i j · (by omega) (by omega))
    have HPs := hid (sPremiumAt_any n p c i j · (by omega) (by omega))
    have HB := hid (fun (h : u = 0) => setCell_back (hu h).1 (hu h).2.1 (hu h).2.2.1 x0 x1)
    rw [hv] at HI HS
    have HU := hid hu
    obtain ⟨C0, hC0⟩ : ∃ C0, cellAtR n p c i j = C0 := ⟨_, rfl⟩
    obtain ⟨P0, hP0⟩ : ∃ P0, premAtR n p c i j = P0 := ⟨_, rfl⟩
    have HC1 := hid (HC.out i j)
    rw [hC0] at HCs HC1
    rw [hP0] at HP HPs
    have HC0 := hid hC0
    have hE := hx
    clear hu hv hx hC0 hP0
    obtain ⟨B, hB⟩ : ∃ B, w1.heap.size = B := ⟨_, rfl⟩
    have hx1 : Ext w1 (w1.alloc (.cells #[.int .i64 n, .string p, .string c] 30)) := (Ext.refl w1).alloc _
    have b0 : (w1.alloc (.cells #[.int .i64 n, .string p, .string c] 30)).cell? ⟨B, 0, none⟩ = some (.int .i64 n) := by subst hB; simp
    have b1 : (w1.alloc (.cells #[.int .i64 n, .string p, .string c] 30)).cell? ⟨B, 1, none⟩ = some (.string p) := by subst hB; simp
    have b2 : (w1.alloc (.cells #[.int .i64 n, .string p, .string c] 30)).cell? ⟨B, 2, none⟩ = some (.string c) := by subst hB; simp
    replace hE := hE.trans hx1
    clear hx1
    go_wp2_with fail
    refine (HI.out _).mono ?_
    rintro e w2 ⟨rfl, hx⟩
    replace b0 := hx.cell b0
    replace b1 := hx.cell b1
    replace b2 := hx.cell b2
    replace hE := hE.trans hx
    clear hx hB
    obtain ⟨G, hG⟩ : ∃ G, w2.heap.size = G := ⟨_, rfl⟩
    have hx1 : Ext w2 (w2.alloc (.cells #[.int .i64 m, .string q, .string d] 30)) := (Ext.refl w2).alloc _
    have g0 : (w2.alloc (.cells #[.int .i64 m, .string q, .string d] 30)).cell? ⟨G, 0, none⟩ = some (.int .i64 m) := by subst hG; simp
    have g1 : (w2.alloc (.cells #[.int .i64 m, .string q, .string d] 30)).cell? ⟨G, 1, none⟩ = some (.string q) := by subst hG; simp
    have g2 : (w2.alloc (.cells #[.int .i64 m, .string q, .string d] 30)).cell? ⟨G, 2, none⟩ = some (.string d) := by subst hG; simp
    have hBl := World.block_lt_of_cell? _ _ b0
    replace b0 := hx1.cell b0
    replace b1 := hx1.cell b1
    replace b2 := hx1.cell b2
    replace hE := hE.trans hx1
    clear hx1
    go_wp2_with fail
    refine (HS.out _).mono ?_
    rintro e w3 ⟨rfl, hx⟩
    replace b0 := hx.cell b0
    replace b1 := hx.cell b1
    replace b2 := hx.cell b2
    replace g0 := hx.cell g0
    replace g1 := hx.cell g1
    replace g2 := hx.cell g2
    replace hE := hE.trans hx
    clear hx hG hBl
    obtain ⟨K, hK⟩ : ∃ K, w3.heap.size = K := ⟨_, rfl⟩
    have hx1 : Ext w3 (w3.alloc (.cells #[.int .i64 m, .string q, .string d] 30)) := (Ext.refl w3).alloc _
    have k0 : (w3.alloc (.cells #[.int .i64 m, .string q, .string d] 30)).cell? ⟨K, 0, none⟩ = some (.int .i64 m) := by subst hK; simp
    have k1 : (w3.alloc (.cells #[.int .i64 m, .string q, .string d] 30)).cell? ⟨K, 1, none⟩ = some (.string q) := by subst hK; simp
    have k2 : (w3.alloc (.cells #[.int .i64 m, .string q, .string d] 30)).cell? ⟨K, 2, none⟩ = some (.string d) := by subst hK; simp
    replace b0 := hx1.cell b0
    replace b1 := hx1.cell b1
    replace b2 := hx1.cell b2
    replace g0 := hx1.cell g0
    replace g1 := hx1.cell g1
    replace g2 := hx1.cell g2
    replace hE := hE.trans hx1
    clear hx1
    go_wp2_with fail
    refine (HC1.out _).mono ?_
    rintro e w4 ⟨rfl, hx⟩
    replace b0 := hx.cell b0
    replace b1 := hx.cell b1
    replace b2 := hx.cell b2
    replace g0 := hx.cell g0
    replace g1 := hx.cell g1
    replace g2 := hx.cell g2
    replace k0 := hx.cell k0
    replace k1 := hx.cell k1
    replace k2 := hx.cell k2
    replace hE := hE.trans hx
    clear hx hK
    go_wp2_with fail
    refine wp_region_flow_at (C := Ext) 27 [fun v _ => v = .int .i64 u, fun v _ => v = .int .i64 u, fun v _ => v = .bool false, fun v _ => v = .bool false, fun v _ => v = .agg #[.int .i64 m, .string q, .string d], fun v _ => v = .agg #[.int .i64 m, .string q, .string d], fun v _ => v = .bool false, fun v _ => v = .bool false, fun v _ => v = .bool false, fun v _ => v = .int .u8 C0, fun v _ => v = .agg #[.int .i64 n, .string p, .string c], fun v _ => v = .int .i64 i, fun v _ => v = .int .i64 j, fun v _ => v = .int .u8 C0, fun v _ => v = .bool false, fun v _ => v = .bool false, fun v _ => v = .bool false, fun v _ => v = .agg #[.int .i64 n, .string p, .string c], fun v _ => v = .int .i64 i, fun v _ => v = .int .i64 j, fun v _ => v = .int .u8 P0, fun v _ => v = .agg #[.int .i64 n, .string p, .string c], fun v _ => v = .int .i64 i, fun v _ => v = .int .i64 j, fun v _ => v = .int .u8 P0, fun v _ => v = .bool false, fun v _ => v = .bool false]
      [[(8, none)], [(10, none)], [(47, some 0), (48, some 1)], [(49, some 2)], [(7, none)], [(9, none)], [(51, some 4), (52, some 5)], [(50, some 3), (53, some 6)], [(54, some 7)], [(11, none)], [(3, none)], [(4, none)], [(5, none)], [(57, some 10), (58, some 11), (59, some 12)], [(56, some 9), (60, some 13)], [(55, some 8), (61, some 14)], [(62, some 15)], [(3, none)], [(4, none)], [(5, none)], [(64, some 17), (65, some 18), (66, some 19)], [(3, none)], [(4, none)], [(5, none)], [(68, some 21), (69, some 22), (70, some 23)], [(67, some 20), (71, some 24)], [(63, some 16), (72, some 25)]] (by kernel_rfl) (by kernel_rfl) Ext.refl (fun _ _ _ => Ext.trans) ?_ ?_ ?_
    · intro F hF
      simp only [List.mem_cons, List.not_mem_nil, or_false] at hF
      rcases hF with rfl | rfl | rfl | rfl | rfl | rfl | rfl | rfl | rfl | rfl | rfl | rfl | rfl | rfl | rfl | rfl | rfl | rfl | rfl | rfl | rfl | rfl | rfl | rfl | rfl | rfl | rfl <;> exact fun _ _ _ h _ => h
    · refine ⟨?_, ?_, ?_, ?_, ?_, ?_, ?_, ?_, ?_, ?_, ?_, ?_, ?_, ?_, ?_, ?_, ?_, ?_, ?_, ?_, ?_, ?_, ?_, ?_, ?_, ?_, ?_, trivial⟩
      · rintro ρ w1 hw hcst hfn hk
        clear hw
        simp only [known, List.getD_cons_zero, List.getD_cons_succ, Nat.reduceAdd] at hk
        simp only [List.getD_cons_zero, List.getD_cons_succ, Nat.reduceAdd, flowAt]
        go_simp
        exact ⟨Ext.refl _, rfl⟩
      · rintro ρ w1 hw hcst hfn hk
        clear hw
        simp only [known, List.getD_cons_zero, List.getD_cons_succ, Nat.reduceAdd] at hk
        simp only [List.getD_cons_zero, List.getD_cons_succ, Nat.reduceAdd, flowAt]
        go_simp
        exact ⟨Ext.refl _, rfl⟩
      · rintro ρ w1 hw hcst hfn hk
        simp only [known, List.getD_cons_zero, List.getD_cons_succ, Nat.reduceAdd] at hk
        simp only [List.getD_cons_zero, List.getD_cons_succ, Nat.reduceAdd, flowAt]
        go_simp
        exact ⟨Ext.refl _, by simp⟩
      · rintro ρ w1 hw hcst hfn hk
        clear hw
        simp only [known, List.getD_cons_zero, List.getD_cons_succ, Nat.reduceAdd] at hk
        simp only [List.getD_cons_zero, List.getD_cons_succ, Nat.reduceAdd, flowAt]
        go_simp
        exact ⟨Ext.refl _, rfl⟩
      · rintro ρ w1 hw hcst hfn hk
        have c0 := hw.cell (b := G) (o := 0) (v := .int .i64 m) (by first | (simp [*]; done) | (simp [*, go_sem]; done) | go_cell)
        have c1 := hw.cell (b := G) (o := 1) (v := .string q) (by first | (simp [*]; done) | (simp [*, go_sem]; done) | go_cell)
        have c2 := hw.cell (b := G) (o := 2) (v := .string d) (by first | (simp [*]; done) | (simp [*, go_sem]; done) | go_cell)
        clear hw
        simp only [known, List.getD_cons_zero, List.getD_cons_succ, Nat.reduceAdd] at hk
        simp only [List.getD_cons_zero, List.getD_cons_succ, Nat.reduceAdd, flowAt]
        rintro vg rfl
        refine ⟨fun hg => ?_, fun hg => ?_⟩ <;> simp at hg
        go_simp
        exact ⟨Ext.refl _, rfl⟩
      · rintro ρ w1 hw hcst hfn hk
        have c0 := hw.cell (b := K) (o := 0) (v := .int .i64 m) (by first | (simp [*]; done) | (simp [*, go_sem]; done) | go_cell)
        have c1 := hw.cell (b := K) (o := 1) (v := .string q) (by first | (simp [*]; done) | (simp [*, go_sem]; done) | go_cell)
        have c2 := hw.cell (b := K) (o := 2) (v := .string d) (by first | (simp [*]; done) | (simp [*, go_sem]; done) | go_cell)
        clear hw
        simp only [known, List.getD_cons_zero, List.getD_cons_succ, Nat.reduceAdd] at hk
        simp only [List.getD_cons_zero, List.getD_cons_succ, Nat.reduceAdd, flowAt]
        rintro vg rfl
        refine ⟨fun hg => ?_, fun hg => ?_⟩ <;> simp at hg
        go_simp
        exact ⟨Ext.refl _, rfl⟩
      · rintro ρ w1 hw hcst hfn hk
        simp only [known, List.getD_cons_zero, List.getD_cons_succ, Nat.reduceAdd] at hk
        simp only [List.getD_cons_zero, List.getD_cons_succ, Nat.reduceAdd, flowAt]
        rintro vg rfl
        refine ⟨fun hg => ?_, fun hg => ?_⟩ <;> simp at hg
        go_simp
        exact ⟨Ext.refl _, by simp⟩
      · rintro ρ w1 hw hcst hfn hk
        clear hw
        simp only [known, List.getD_cons_zero, List.getD_cons_succ, Nat.reduceAdd] at hk
        simp only [List.getD_cons_zero, List.getD_cons_succ, Nat.reduceAdd, flowAt]
        go_simp
        exact ⟨Ext.refl _, rfl⟩
      · rintro ρ w1 hw hcst hfn hk
        clear hw
        simp only [known, List.getD_cons_zero, List.getD_cons_succ, Nat.reduceAdd] at hk
        simp only [List.getD_cons_zero, List.getD_cons_succ, Nat.reduceAdd, flowAt]
        go_simp
        exact ⟨Ext.refl _, rfl⟩
      · rintro ρ w1 hw hcst hfn hk
        clear hw
        simp only [known, List.getD_cons_zero, List.getD_cons_succ, Nat.reduceAdd] at hk
        simp only [List.getD_cons_zero, List.getD_cons_succ, Nat.reduceAdd, flowAt]
        rintro vg rfl
        refine ⟨fun hg => ?_, fun hg => ?_⟩ <;> simp at hg
        go_simp
        exact ⟨Ext.refl _, rfl⟩
      · rintro ρ w1 hw hcst hfn hk
        have c0 := hw.cell (b := B) (o := 0) (v := .int .i64 n) (by first | (simp [*]; done) | (simp [*, go_sem]; done) | go_cell)
        have c1 := hw.cell (b := B) (o := 1) (v := .string p) (by first | (simp [*]; done) | (simp [*, go_sem]; done) | go_cell)
        have c2 := hw.cell (b := B) (o := 2) (v := .string c) (by first | (simp [*]; done) | (simp [*, go_sem]; done) | go_cell)
        clear hw
        simp only [known, List.getD_cons_zero, List.getD_cons_succ, Nat.reduceAdd] at hk
        simp only [List.getD_cons_zero, List.getD_cons_succ, Nat.reduceAdd, flowAt]
        rintro vg rfl
        refine ⟨fun hg => ?_, fun hg => ?_⟩ <;> simp at hg
        go_simp
        exact ⟨Ext.refl _, rfl⟩
      · rintro ρ w1 hw hcst hfn hk
        clear hw
        simp only [known, List.getD_cons_zero, List.getD_cons_succ, Nat.reduceAdd] at hk
        simp only [List.getD_cons_zero, List.getD_cons_succ, Nat.reduceAdd, flowAt]
        rintro vg rfl
        refine ⟨fun hg => ?_, fun hg => ?_⟩ <;> simp at hg
        go_simp
        exact ⟨Ext.refl _, rfl⟩
      · rintro ρ w1 hw hcst hfn hk
        clear hw
        simp only [known, List.getD_cons_zero, List.getD_cons_succ, Nat.reduceAdd] at hk
        simp only [List.getD_cons_zero, List.getD_cons_succ, Nat.reduceAdd, flowAt]
        rintro vg rfl
        refine ⟨fun hg => ?_, fun hg => ?_⟩ <;> simp at hg
        go_simp
        exact ⟨Ext.refl _, rfl⟩
      · rintro ρ w1 hw hcst hfn hk
        simp only [known, List.getD_cons_zero, List.getD_cons_succ, Nat.reduceAdd] at hk
        simp only [List.getD_cons_zero, List.getD_cons_succ, Nat.reduceAdd, flowAt]
        rintro vg rfl
        refine ⟨fun hg => ?_, fun hg => ?_⟩ <;> simp at hg
        go_simp
        exact flow_ret (HCs.out _)
      · rintro ρ w1 hw hcst hfn hk
        simp only [known, List.getD_cons_zero, List.getD_cons_succ, Nat.reduceAdd] at hk
        simp only [List.getD_cons_zero, List.getD_cons_succ, Nat.reduceAdd, flowAt]
        rintro vg rfl
        refine ⟨fun hg => ?_, fun hg => ?_⟩ <;> simp at hg
        go_simp
        exact ⟨Ext.refl _, by simp⟩
      · rintro ρ w1 hw hcst hfn hk
        clear hw
        simp only [known, List.getD_cons_zero, List.getD_cons_succ, Nat.reduceAdd] at hk
        simp only [List.getD_cons_zero, List.getD_cons_succ, Nat.reduceAdd, flowAt]
        go_simp
        exact ⟨Ext.refl _, rfl⟩
      · rintro ρ w1 hw hcst hfn hk
        clear hw
        simp only [known, List.getD_cons_zero, List.getD_cons_succ, Nat.reduceAdd] at hk
        simp only [List.getD_cons_zero, List.getD_cons_succ, Nat.reduceAdd, flowAt]
        go_simp
        exact ⟨Ext.refl _, rfl⟩
      · rintro ρ w1 hw hcst hfn hk
        have c0 := hw.cell (b := B) (o := 0) (v := .int .i64 n) (by first | (simp [*]; done) | (simp [*, go_sem]; done) | go_cell)
        have c1 := hw.cell (b := B) (o := 1) (v := .string p) (by first | (simp [*]; done) | (simp [*, go_sem]; done) | go_cell)
        have c2 := hw.cell (b := B) (o := 2) (v := .string c) (by first | (simp [*]; done) | (simp [*, go_sem]; done) | go_cell)
        clear hw
        simp only [known, List.getD_cons_zero, List.getD_cons_succ, Nat.reduceAdd] at hk
        simp only [List.getD_cons_zero, List.getD_cons_succ, Nat.reduceAdd, flowAt]
        rintro vg rfl
        refine ⟨fun hg => ?_, fun hg => ?_⟩ <;> simp at hg
        go_simp
        exact ⟨Ext.refl _, rfl⟩
      · rintro ρ w1 hw hcst hfn hk
        clear hw
        simp only [known, List.getD_cons_zero, List.getD_cons_succ, Nat.reduceAdd] at hk
        simp only [List.getD_cons_zero, List.getD_cons_succ, Nat.reduceAdd, flowAt]
        rintro vg rfl
        refine ⟨fun hg => ?_, fun hg => ?_⟩ <;> simp at hg
        go_simp
        exact ⟨Ext.refl _, rfl⟩
      · rintro ρ w1 hw hcst hfn hk
        clear hw
        simp only [known, List.getD_cons_zero, List.getD_cons_succ, Nat.reduceAdd] at hk
        simp only [List.getD_cons_zero, List.getD_cons_succ, Nat.reduceAdd, flowAt]
        rintro vg rfl
        refine ⟨fun hg => ?_, fun hg => ?_⟩ <;> simp at hg
        go_simp
        exact ⟨Ext.refl _, rfl⟩
      · rintro ρ w1 hw hcst hfn hk
        simp only [known, List.getD_cons_zero, List.getD_cons_succ, Nat.reduceAdd] at hk
        simp only [List.getD_cons_zero, List.getD_cons_succ, Nat.reduceAdd, flowAt]
        rintro vg rfl
        refine ⟨fun hg => ?_, fun hg => ?_⟩ <;> simp at hg
        go_simp
        exact flow_ret (HP.out _)
      · rintro ρ w1 hw hcst hfn hk
        have c0 := hw.cell (b := B) (o := 0) (v := .int .i64 n) (by first | (simp [*]; done) | (simp [*, go_sem]; done) | go_cell)
        have c1 := hw.cell (b := B) (o := 1) (v := .string p) (by first | (simp [*]; done) | (simp [*, go_sem]; done) | go_cell)
        have c2 := hw.cell (b := B) (o := 2) (v := .string c) (by first | (simp [*]; done) | (simp [*, go_sem]; done) | go_cell)
        clear hw
        simp only [known, List.getD_cons_zero, List.getD_cons_succ, Nat.reduceAdd] at hk
        simp only [List.getD_cons_zero, List.getD_cons_succ, Nat.reduceAdd, flowAt]
        rintro vg rfl
        refine ⟨fun hg => ?_, fun hg => ?_⟩ <;> simp at hg
        go_simp
        exact ⟨Ext.refl _, rfl⟩
      · rintro ρ w1 hw hcst hfn hk
        clear hw
        simp only [known, List.getD_cons_zero, List.getD_cons_succ, Nat.reduceAdd] at hk
        simp only [List.getD_cons_zero, List.getD_cons_succ, Nat.reduceAdd, flowAt]
        rintro vg rfl
        refine ⟨fun hg => ?_, fun hg => ?_⟩ <;> simp at hg
        go_simp
        exact ⟨Ext.refl _, rfl⟩
      · rintro ρ w1 hw hcst hfn hk
        clear hw
        simp only [known, List.getD_cons_zero, List.getD_cons_succ, Nat.reduceAdd] at hk
        simp only [List.getD_cons_zero, List.getD_cons_succ, Nat.reduceAdd, flowAt]
        rintro vg rfl
        refine ⟨fun hg => ?_, fun hg => ?_⟩ <;> simp at hg
        go_simp
        exact ⟨Ext.refl _, rfl⟩
      · rintro ρ w1 hw hcst hfn hk
        simp only [known, List.getD_cons_zero, List.getD_cons_succ, Nat.reduceAdd] at hk
        simp only [List.getD_cons_zero, List.getD_cons_succ, Nat.reduceAdd, flowAt]
        rintro vg rfl
        refine ⟨fun hg => ?_, fun hg => ?_⟩ <;> simp at hg
        go_simp
        exact flow_ret (HPs.out _)
      · rintro ρ w1 hw hcst hfn hk
        simp only [known, List.getD_cons_zero, List.getD_cons_succ, Nat.reduceAdd] at hk
        simp only [List.getD_cons_zero, List.getD_cons_succ, Nat.reduceAdd, flowAt]
        rintro vg rfl
        refine ⟨fun hg => ?_, fun hg => ?_⟩ <;> simp at hg
        go_simp
        exact ⟨Ext.refl _, by simp⟩
      · rintro ρ w1 hw hcst hfn hk
        clear hw
        simp only [known, List.getD_cons_zero, List.getD_cons_succ, Nat.reduceAdd] at hk
        simp only [List.getD_cons_zero, List.getD_cons_succ, Nat.reduceAdd, flowAt]
        go_simp
        exact ⟨Ext.refl _, rfl⟩
    intro vs w1 hw hf
    simp only [flowFacts, Nat.reduceAdd] at hf
    obtain ⟨e0, e1, e2, e3, e4, e5, e6, e7, e8, e9, e10, e11, e12, e13, e14, e15, e16, e17, e18, e19, e20, e21, e22, e23, e24, e25, e26, -⟩ := hf
    simp only [List.take_succ_cons, List.take_zero, List.drop_succ_cons, List.drop_zero, putAll, Act.put, Nat.reduceAdd, List.setIfInBounds_toArray, List.set_cons_zero, List.set_cons_succ, e0, e1, e2, e3, e4, e5, e6, e7, e8, e9, e10, e11, e12, e13, e14, e15, e16, e17, e18, e19, e20, e21, e22, e23, e24, e25, e26]
    clear e0 e1 e2 e3 e4 e5 e6 e7 e8 e9 e10 e11 e12 e13 e14 e15 e16 e17 e18 e19 e20 e21 e22 e23 e24 e25 e26
    have hx := (Ext.refl _).drew.trans hw
    replace b0 := hx.cell b0
    replace b1 := hx.cell b1
    replace b2 := hx.cell b2
    replace g0 := hx.cell g0
    replace g1 := hx.cell g1
    replace g2 := hx.cell g2
    replace hE := hE.trans hx
    clear hx hw k0 k1 k2
    by_cases hu : u = 0
    · obtain ⟨hok, hin, hcb, hm, hq, hd⟩ := HU.out hu
      subst hu
      have hm' := hm.symm
      subst hm'
      have hq' := hq.symm
      subst hq'
      obtain ⟨hn5, hn15, hps, hcs⟩ := okB_true hok
      have hokd : okB n p d = true := by rw [hd]; exact okB_setS hok hin hcb x0 x1
      have HSD : Hid (∀ r k, inRC n r k = true → cellAtR n p d r k = if r = i ∧ k = j then x else cellAtR n p c r k) := hid (fun r k hrk => by
        unfold cellAtR
        rw [if_pos hokd, if_pos hok, hd]
        exact sqAt_setS hn5 hn15 hcs hin hrk x0 x1)
      have hC : C0 = sqAt n c i j := by rw [← HC0.out]; unfold cellAtR; rw [if_pos hok]
      have hCb : 0 ≤ C0 ∧ C0 < 256 := by
        rw [hC, sqAt_bAt hin]
        have := (bAt c (i * n + j).toNat).toNat_lt
        omega
      have hds : d.size ≤ 1048576 := by rw [hd, setS_len]; omega
      have HS2 := hid (fun w' => SetCell_any n p d i j C0 w' (by omega) hds hCb.1 hCb.2)
      rw [show setCellV n p d i j C0 = .tuple #[.agg #[.int .i64 n, .string p, .string c], .int .i64 0] by rw [hd, hC]; exact setCell_back hok hin hcb x0 x1] at HS2
      have HCd := hid (fun r k w' => CellAt_any n p d r k w' (by omega) hds)
      clear hok hin hcb hm hq hd hps hcs hokd hC hCb hds HI HS HSB HCs HP HPs HB HU HC1 HC0
      go_wp2_with fail
      refine (HS2.out _).mono ?_
      rintro e w6 ⟨rfl, hx⟩
      replace b0 := hx.cell b0
      replace b1 := hx.cell b1
      replace b2 := hx.cell b2
      replace g0 := hx.cell g0
      replace g1 := hx.cell g1
      replace g2 := hx.cell g2
      replace hE := hE.trans hx
      clear hx
      obtain ⟨M, hM⟩ : ∃ M, w6.heap.size = M := ⟨_, rfl⟩
      have hx : Ext w6 (w6.alloc (.cells #[.int .i64 n, .string p, .string c] 30)) := (Ext.refl w6).alloc _
      have m0 : (w6.alloc (.cells #[.int .i64 n, .string p, .string c] 30)).cell? ⟨M, 0, none⟩ = some (.int .i64 n) := by subst hM; simp
      have m1 : (w6.alloc (.cells #[.int .i64 n, .string p, .string c] 30)).cell? ⟨M, 1, none⟩ = some (.string p) := by subst hM; simp
      have m2 : (w6.alloc (.cells #[.int .i64 n, .string p, .string c] 30)).cell? ⟨M, 2, none⟩ = some (.string c) := by subst hM; simp
      replace b0 := hx.cell b0
      replace b1 := hx.cell b1
      replace b2 := hx.cell b2
      replace g0 := hx.cell g0
      replace g1 := hx.cell g1
      replace g2 := hx.cell g2
      replace hE := hE.trans hx
      clear hx
      obtain ⟨W0, hW0⟩ : ∃ W, w6.alloc (.cells #[.int .i64 n, .string p, .string c] 30) = W := ⟨_, rfl⟩
      have HCE : Hid (∀ w', Ext W0 w' → w'.cell? ⟨B, 0, none⟩ = some (.int .i64 n) ∧ w'.cell? ⟨B, 1, none⟩ = some (.string p) ∧ w'.cell? ⟨B, 2, none⟩ = some (.string c) ∧ w'.cell? ⟨G, 0, none⟩ = some (.int .i64 n) ∧ w'.cell? ⟨G, 1, none⟩ = some (.string p) ∧ w'.cell? ⟨G, 2, none⟩ = some (.string d) ∧ w'.cell? ⟨M, 0, none⟩ = some (.int .i64 n) ∧ w'.cell? ⟨M, 1, none⟩ = some (.string p) ∧ w'.cell? ⟨M, 2, none⟩ = some (.string c)) := hid (fun w' h => by
        rw [hW0] at b0 b1 b2 g0 g1 g2 m0 m1 m2
        exact ⟨h.cell b0, h.cell b1, h.cell b2, h.cell g0, h.cell g1, h.cell g2, h.cell m0, h.cell m1, h.cell m2⟩)
      have HE0 : Hid (Ext w W0) := hid (by rw [← hW0]; exact hE)
      clear b0 b1 b2 g0 g1 g2 m0 m1 m2 hE
      go_wp2_with fail
      clear hW0 hM
      go_loopw [14] (fun v wr => ∃ r : Nat, (r : Int) ≤ n ∧ v = .int .i64 (r : Int) ∧ Ext W0 wr) (fun v _ => (n - intOf v).toNat)
      case atStart => exact ⟨0, by omega, rfl, Ext.refl _⟩
      case round =>
        obtain ⟨r, hr, rfl, hx⟩ := hrel
        obtain ⟨b0, b1, b2, -, -, -, m0, m1, m2⟩ := HCE.out _ hx
        by_cases hlt : (r : Int) < n
        · clear m0 m1 m2
          go_wp2_with fail
          go_loopw [15] (fun v wr => ∃ k : Nat, (k : Int) ≤ n ∧ v = .int .i64 (k : Int) ∧ Ext W0 wr) (fun v _ => (n - intOf v).toNat)
          case atStart => exact ⟨0, by omega, rfl, hx⟩
          case round =>
            obtain ⟨k, hk, rfl, hx1⟩ := hrel
            clear b0 b1 b2
            obtain ⟨b0, b1, b2, g0, g1, g2, -⟩ := HCE.out _ hx1
            by_cases hlk : (k : Int) < n
            · have hin2 : inRC n r k = true := by simp [inRC, inB]; omega
              have HV := HSD.out r k hin2
              obtain ⟨O, hO⟩ : ∃ O, cellAtR n p c r k = O := ⟨_, rfl⟩
              have HCk := hid (HC.out (r : Int) (k : Int))
              have HDk := hid (HCd.out (r : Int) (k : Int))
              rw [hO] at HCk HV
              by_cases hek : (r : Int) = i ∧ (k : Int) = j
              · rw [if_pos hek] at HV
                rw [HV] at HDk
                obtain ⟨e1, e2⟩ := hek
                have e3 : ((r : Int) == i) = true := by simpa using e1
                have e4 : ((k : Int) == j) = true := by simpa using e2
                have e5 : ((r : Int) != i) = false := by simpa using e1
                have e6 : ((k : Int) != j) = false := by simpa using e2
                clear hO HV hin2 e1 e2
                go_wp2_with fail
                refine (HCk.out _).mono ?_
                rintro e w7 ⟨rfl, hx2⟩
                have hx3 := hx1.trans hx2
                clear hx2 b0 b1 b2 g0 g1 g2
                obtain ⟨b0, b1, b2, g0, g1, g2, -⟩ := HCE.out _ hx3
                go_wp2_with fail
                refine (HDk.out _).mono ?_
                rintro e w8 ⟨rfl, hx2⟩
                have hx4 := hx3.trans hx2
                clear hx2 b0 b1 b2 g0 g1 g2
                go_wp2_with fail
                go_roundw
                case rel => exact ⟨k + 1, by omega, by go_num, hx4⟩
                case measure => simp [intOf]; omega
              · rw [if_neg hek] at HV
                rw [HV] at HDk
                clear hO HV hin2
                by_cases hei : (r : Int) = i
                · have hej : ¬ (k : Int) = j := fun h => hek ⟨hei, h⟩
                  have e3 : ((r : Int) == i) = true := by simpa using hei
                  have e4 : ((k : Int) == j) = false := by simpa using hej
                  have e5 : ((r : Int) != i) = false := by simpa using hei
                  have e6 : ((k : Int) != j) = true := by simpa using hej
                  clear hei hej hek
                  go_wp2_with fail
                  refine (HCk.out _).mono ?_
                  rintro e w7 ⟨rfl, hx2⟩
                  have hx3 := hx1.trans hx2
                  clear hx2 b0 b1 b2 g0 g1 g2
                  obtain ⟨b0, b1, b2, g0, g1, g2, -⟩ := HCE.out _ hx3
                  go_wp2_with fail
                  refine (HDk.out _).mono ?_
                  rintro e w8 ⟨rfl, hx2⟩
                  have hx4 := hx3.trans hx2
                  clear hx2 b0 b1 b2 g0 g1 g2
                  go_wp2_with fail
                  go_roundw
                  case rel => exact ⟨k + 1, by omega, by go_num, hx4⟩
                  case measure => simp [intOf]; omega
                · have e3 : ((r : Int) == i) = false := by simpa using hei
                  have e5 : ((r : Int) != i) = true := by simpa using hei
                  clear hei hek
                  go_wp2_with fail
                  refine (HCk.out _).mono ?_
                  rintro e w7 ⟨rfl, hx2⟩
                  have hx3 := hx1.trans hx2
                  clear hx2 b0 b1 b2 g0 g1 g2
                  obtain ⟨b0, b1, b2, g0, g1, g2, -⟩ := HCE.out _ hx3
                  go_wp2_with fail
                  refine (HDk.out _).mono ?_
                  rintro e w8 ⟨rfl, hx2⟩
                  have hx4 := hx3.trans hx2
                  clear hx2 b0 b1 b2 g0 g1 g2
                  go_wp2_with fail
                  go_roundw
                  case rel => exact ⟨k + 1, by omega, by go_num, hx4⟩
                  case measure => simp [intOf]; omega
            · go_wp2_with fail
              go_roundw
              case rel => exact ⟨r + 1, by omega, by go_num, hx1⟩
              case measure => simp [intOf]; omega
        · go_wp2_with fail
          go_returns
          exact ⟨rfl, HE0.out.trans hx⟩
    · have hu2 : (u != 0) = true := by simpa using hu
      clear hu
      go_wp2_with fail
      go_returns
      exact ⟨rfl, hE⟩

set_option maxRecDepth 100000 in
theorem lifted_FnSetCells (os : Os) (started : os.Started) (H : Type) (enc : TypeId × Value → H) :
    ReturnsInHanded {} Try.checked os 6 .any (Rows.fnSetCellsSpec.pre6 enc Try.prog Try.f6 Rows.fnSetCellsRow.domain false) (Rows.fnSetCellsSpec.post enc Try.prog Try.f6 false true false false) := by
  refine returnsInHanded_of_change (C := Try.checked) ownRow started (by kernel_rfl) Try.func6
    (ChangeSpec.witness6 (enc := enc) (C := Try.checked) false ⟨#[], #[.slice none 0 0], []⟩ 8 (by kernel_rfl) (by kernel_rfl) (by kernel_rfl) (by kernel_rfl)) ?_
  intro W base args ds gs before hval0 hW hcnd _
  have hval : ∀ (j : Nat) t v, Try.f6.params[j]? = some t → args[j]? = some v → Value.okWide Try.prog W .any base t v := hval0
  have hW' := hW
  obtain ⟨p, q, hA0, hV, rfl, hfz, hnd⟩ := hW
  have hA : DataW.TrodAll enc Try.prog W 0 (fun _ => true) true Try.f6.params.toList args.toList ds p := hA0
  rw [Try.params6] at hA hval
  obtain ⟨v0, vs0, d0, ds0, p0, q0, hargs, rfl, rfl, h0, r0⟩ := trodAll_cons hA
  obtain ⟨rfl, rfl, rfl⟩ := trodAll_nil r0
  obtain rfl : args = #[v0] := by cases args; simp_all
  obtain ⟨rfl, rfl⟩ := trodVars_none hV
  have k0 := h0
  have lt0 : ∀ x ∈ p0, x.block < W.heap.size := by obtain ⟨m, hm⟩ := k0; exact DataW.trod_lt m _ _ _ hm
  obtain ⟨a0_a, a0_c, a0_l, rfl, r_a0, n_a0⟩ := open_code Try.underlying35 Try.underlying5 (by kernel_rfl) (hval 0 35 v0 rfl rfl) h0
  clear hA0 hval0
  refine (walk_FnSetCells a0_a a0_c a0_l W r_a0 n_a0).mono fun e W' ⟨he, bel⟩ => ?_
  subst he
  exact ⟨_, rfl, _, _, _, [], _, [], hW', trodAll_mk1 (shut_bool Try.underlying4 _), (trodAll_cons_mk (Below.trod laidRow (by kernel_rfl) (of_decide_eq_true (by kernel_rfl)) k0 bel lt0) trodAll_mk0), rfl, bel.frame _, fun h => by cases h⟩

theorem over_FnSetCells : Rows.fnSetCellsRow.holds Try.pinned (OpenSpec.ofChange Rows.fnSetCellsSpec) :=
  OpenClaim.holds_of_wide 6 Try.f6 rfl rfl rfl rfl rfl rfl rfl ⟨rfl, rfl, rfl, rfl, rfl⟩ rfl rfl rfl rfl rfl (by kernel_rfl) Try.func6 (by kernel_rfl)
    (of_decide_eq_true (by kernel_rfl)) (by unfold Func.isWrapper; first | (rw [if_pos (by decide +kernel)]; kernel_rfl) | (rw [if_neg (by decide +kernel)]; exact ⟨rfl, rfl⟩))
    (fun os started H enc _ => lifted_FnSetCells os started H enc)

theorem said_FnSetCells : Rows.FnSetCellsSaid := over_FnSetCells
end Go.Proofs.Ytcjadgefomlifaa
