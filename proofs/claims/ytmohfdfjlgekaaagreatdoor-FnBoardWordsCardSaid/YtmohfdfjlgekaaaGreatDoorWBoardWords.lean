/- FnBoardWords: whatever it is given, it says yes. No condition. -/
import Derived.Test.YtmohfdfjlgekaaaGreatDoorJtL
import Derived.Test.YtmohfdfjlgekaaaGreatDoorDrawB
import Derived.Test.YtmohfdfjlgekaaaGreatDoorF6
import Derived.Test.YtmohfdfjlgekaaaGreatDoorCh15e
import Derived.Test.YtmohfdfjlgekaaaGreatDoorCh15f
import Derived.Test.YtmohfdfjlgekaaaGreatDoorMg6
import Derived.Test.YtmohfdfjlgekaaaGreatDoorMg9
namespace Go.Proofs.YtmohfdfjlgekaaaGreatDoor
set_option linter.unusedVariables false
set_option linter.unusedSimpArgs false
open Go Go.RowKit Go.ChangeShapes Go.WideShapes Go.ChangeAt
open Go.ChangeMaps (open_string shut_string)
theorem blank_dots {c : ByteArray} (h : blankS c = true) : ∀ j, j < c.size → bAt c j = 46 := by
  intro j hj
  have := blank_none h j hj
  unfold litB at this
  simpa using this
theorem blank_noDot {c : ByteArray} (h : blankS c = true) : noDot c = ⟨#[]⟩ := by
  rw [blankS_eq, List.isEmpty_iff] at h
  unfold noDot
  rw [h]
theorem blank_tiles {n : Int} {p c : ByteArray} (h : okB n p c = true) (hb : blankS c = true) : tilesV n p c = .tuple #[.string ⟨#[]⟩, .int .i64 0] := by
  unfold tilesV
  rw [h, blank_noDot hb]
  have e : pileS ⟨#[]⟩ = ⟨#[]⟩ := by simp [pileS, tilesL, sortU]
  rw [e]
  rfl
theorem blank_words {m : Nat} {p c : ByteArray} (h : okB m p c = true) (hb : blankS c = true) : wonL m p c = [] := by
  obtain ⟨h1, h2, h3, h4⟩ := okB_true h
  have hc2 : c.size = m * m := by have : ((m * m : Nat) : Int) = (m : Int) * m := by push_cast; rfl
                                  omega
  rw [wonL_ok h, wordsN_dots hc2 (blank_dots hb), wordsN_dots (turnS_size m c) (blank_dots (by rw [blank_turn hc2]; exact hb))]
  rfl
/-- What FnBoardWords needs of a valid board. -/
theorem bw_facts {n : Int} {p c : ByteArray} (h : okB n p c = true) : okB n (turnS n.toNat p) (turnS n.toNat c) = true ∧
    (wonL n (turnS n.toNat p) (turnS n.toNat c)).length = (wonL n p c).length ∧ (∀ s ∈ wonL n p c, s ∈ wonL n (turnS n.toNat p) (turnS n.toNat c)) ∧ (∀ s ∈ wonL n (turnS n.toNat p) (turnS n.toNat c), s ∈ wonL n p c) ∧
    (blankS c = true → wonL n p c = [] ∧ joinB n p c = true ∧ tilesV n p c = .tuple #[.string ⟨#[]⟩, .int .i64 0]) := by
  obtain ⟨m, rfl⟩ := nat_of (okB_true h).1
  rw [Int.toNat_natCast]
  refine ⟨okB_turn h, ?_, ?_, ?_, fun hb => ⟨blank_words h hb, ?_, blank_tiles h hb⟩⟩
  · rw [wonL_turn h, wonL_ok h, List.length_append, List.length_append]
    omega
  · intro s hs
    rw [wonL_ok h] at hs
    rw [wonL_turn h]
    simp only [List.mem_append] at hs ⊢
    exact hs.symm
  · intro s hs
    rw [wonL_turn h] at hs
    rw [wonL_ok h]
    simp only [List.mem_append] at hs ⊢
    exact hs.symm
  · unfold joinB
    rw [h, hb]
    rfl
set_option maxRecDepth 100000 in
set_option maxHeartbeats 8000000 in
theorem walk_FnBoardWords (a : Option Addr) (cc : Nat) (l : List UInt8) (w : World) (hr : Rd w a (bytesV l)) (hl : l.length ≤ maxLen) (hM : MaxAt w) :
    Calls Tryz.prog 3 #[.slice a l.length cc] w (Ret (.bool true) w) := by
  have HR := hid hr
  have HM : Hid (∀ w', Ext w w' → MaxAt w') := hid (fun w' k => hM.ext k)
  have HF := hid (f6big_any a cc l w hl)
  clear hr hM
  by_cases hbig : 4096 < l.length
  · rw [show decide (4096 < l.length) = true by simpa using hbig] at HF
    clear hbig
    go_enter Tryz.func3, Tryz.ntmps3
    go_wp2_with fail
    refine HF.out.mono ?_
    rintro e w' ⟨rfl, rfl⟩
    go_wp2_with fail
    go_returns
    exact ⟨rfl, Ext.refl _⟩
  rw [show decide (4096 < l.length) = false by simpa using hbig] at HF
  have HD := hid (DrawWordsOn_any a cc l w HR.out (by omega))
  clear hbig HR
  go_enter Tryz.func3, Tryz.ntmps3
  go_wp2_with fail
  refine HF.out.mono ?_
  rintro e w' ⟨rfl, rfl⟩
  go_wp2_with fail
  refine HD.out.mono ?_
  rintro e z0 ⟨n, p, c, n0, n1, hp, hc, rfl, hx⟩
  have hE := hx
  clear hx HF HD
  obtain ⟨V, hV⟩ : ∃ V, wonL n p c = V := ⟨_, rfl⟩
  obtain ⟨K, hK⟩ : ∃ K, wonC n p c = K := ⟨_, rfl⟩
  obtain ⟨J, hJ⟩ : ∃ J, joinB n p c = J := ⟨_, rfl⟩
  obtain ⟨B, hB⟩ : ∃ B, (okB n p c && blankS c) = B := ⟨_, rfl⟩
  obtain ⟨x, y, hT⟩ : ∃ x y, tilesV n p c = .tuple #[.string x, .int .i64 y] := by unfold tilesV; (repeat' split) <;> exact ⟨_, _, rfl⟩
  have HVL : Hid (V.length ≤ 1048576) := hid (by rw [← hV]; exact Nat.le_trans (wonL_le n p c) (by omega))
  have HVV := hid hV
  have HKK := hid hK
  have HJJ := hid hJ
  have HBB := hid hB
  have HTT := hid hT
  have HS := hid (fun w' => sWordsOn_any n p c w' (by omega) (by omega))
  have HI := hid (fun w' (h : MaxAt w') => WordsOn_any n p c w' (by omega) (by omega) h)
  have HTi := hid (fun w' (h : MaxAt w') => TilesOn_any n p c w' (by omega) (by omega) h)
  have HTs := hid (fun w' => sTilesOn_any n p c w' (by omega) (by omega))
  have HJi := hid (fun w' (h : MaxAt w') => IsJoined_any n p c w' (by omega) (by omega) h)
  have HJs := hid (fun w' => sIsJoined_any n p c w' (by omega) (by omega))
  have HBi := hid (fun w' (h : MaxAt w') => IsBlank_any n p c w' (by omega) (by omega) h)
  have HBs := hid (fun w' => sIsBlank_any n p c w' (by omega) (by omega))
  have HXT := hid (fun w' => TransposeBoard_any n p c w' (by omega) (by omega))
  rw [hV, hK] at HS HI
  rw [hT] at HTi HTs
  rw [hJ] at HJi HJs
  rw [hB] at HBi HBs
  have HP2 : Hid (c.size ≤ 1000 ∧ p.size ≤ 1000) := hid ⟨hc, hp⟩
  clear hV hK hJ hB hT hp hc
  have hx := (Ext.refl z0).alloc (.cells #[.int .i64 n, .string p, .string c] 25)
  replace hE := hE.trans hx
  clear hx
  have b0 : (z0.alloc (.cells #[.int .i64 n, .string p, .string c] 25)).cell? ⟨z0.heap.size, 0, none⟩ = some (.int .i64 n) := by simp
  have b1 : (z0.alloc (.cells #[.int .i64 n, .string p, .string c] 25)).cell? ⟨z0.heap.size, 1, none⟩ = some (.string p) := by simp
  have b2 : (z0.alloc (.cells #[.int .i64 n, .string p, .string c] 25)).cell? ⟨z0.heap.size, 2, none⟩ = some (.string c) := by simp
  go_wp2_with fail
  refine (HI.out _ (HM.out _ hE)).mono ?_
  rintro e z2 ⟨a2, c2, rfl, ho2, hx⟩
  replace b0 := hx.cell b0
  replace b1 := hx.cell b1
  replace b2 := hx.cell b2
  replace hE := hE.trans hx
  have R2 := hid ho2.rd
  clear hx ho2
  go_wp2_with fail
  refine (HS.out _).mono ?_
  rintro e z3 ⟨a4, c4, rfl, ho4, hx⟩
  replace b0 := hx.cell b0
  replace b1 := hx.cell b1
  replace b2 := hx.cell b2
  replace hE := hE.trans hx
  replace R2 := hid (R2.out.ext hx)
  have R4 := hid ho4.rd
  clear hx ho4
  go_wp2_with fail
  refine (HTi.out _ (HM.out _ hE)).mono ?_
  rintro e z1 ⟨rfl, hx⟩
  replace b0 := hx.cell b0
  replace b1 := hx.cell b1
  replace b2 := hx.cell b2
  replace R2 := hid (R2.out.ext hx)
  replace R4 := hid (R4.out.ext hx)
  replace hE := hE.trans hx
  clear hx
  go_wp2_with fail
  refine (HTs.out _).mono ?_
  rintro e z2 ⟨rfl, hx⟩
  replace b0 := hx.cell b0
  replace b1 := hx.cell b1
  replace b2 := hx.cell b2
  replace R2 := hid (R2.out.ext hx)
  replace R4 := hid (R4.out.ext hx)
  replace hE := hE.trans hx
  clear hx
  obtain ⟨G, hG⟩ : ∃ G, z0.heap.size = G := ⟨_, rfl⟩
  rw [hG] at b0 b1 b2
  simp only [hG]
  have HGG := hid hG
  clear hG
  go_wp2_with fail
  refine wp_region_flow_at (C := Ext) 33 [fun v _ => v = .int .i64 K, fun v _ => v = .int .i64 K, fun v _ => v = .bool false, fun v _ => v = .bool false, fun v _ => v = .slice a2 V.length c2, fun v _ => v = .slice a4 V.length c4, fun v _ => v = .bool true, fun v _ => v = .bool false, fun v _ => v = .bool false, fun v _ => v = .bool false, fun v _ => v = .int .i64 y, fun v _ => v = .int .i64 y, fun v _ => v = .bool false, fun v _ => v = .bool false, fun v _ => v = .bool false, fun v _ => v = .string x, fun v _ => v = .string x, fun v _ => v = .bool false, fun v _ => v = .bool false, fun v _ => v = .bool false, fun v _ => v = .agg #[.int .i64 n, .string p, .string c], fun v _ => v = .bool J, fun v _ => v = .agg #[.int .i64 n, .string p, .string c], fun v _ => v = .bool J, fun v _ => v = .bool false, fun v _ => v = .bool false, fun v _ => v = .bool false, fun v _ => v = .agg #[.int .i64 n, .string p, .string c], fun v _ => v = .bool B, fun v _ => v = .agg #[.int .i64 n, .string p, .string c], fun v _ => v = .bool B, fun v _ => v = .bool false, fun v _ => v = .bool false]
    [[(5, none)], [(7, none)], [(41, some 0), (42, some 1)], [(43, some 2)], [(4, none)], [(6, none)], [(45, some 4), (46, some 5)], [(47, some 6)], [(44, some 3), (48, some 7)], [(49, some 8)], [(9, none)], [(11, none)], [(51, some 10), (52, some 11)], [(50, some 9), (53, some 12)], [(54, some 13)], [(8, none)], [(10, none)], [(56, some 15), (57, some 16)], [(55, some 14), (58, some 17)], [(59, some 18)], [(3, none)], [(61, some 20)], [(3, none)], [(63, some 22)], [(62, some 21), (64, some 23)], [(60, some 19), (65, some 24)], [(66, some 25)], [(3, none)], [(68, some 27)], [(3, none)], [(70, some 29)], [(69, some 28), (71, some 30)], [(67, some 26), (72, some 31)]] (by kernel_rfl) (by kernel_rfl) Ext.refl (fun _ _ _ => Ext.trans) ?_ ?_ ?_
  · intro F hF
    simp only [List.mem_cons, List.not_mem_nil, or_false] at hF
    rcases hF with rfl | rfl | rfl | rfl | rfl | rfl | rfl | rfl | rfl | rfl | rfl | rfl | rfl | rfl | rfl | rfl | rfl | rfl | rfl | rfl | rfl | rfl | rfl | rfl | rfl | rfl | rfl | rfl | rfl | rfl | rfl | rfl | rfl <;> exact fun _ _ _ h _ => h
  · refine ⟨?_, ?_, ?_, ?_, ?_, ?_, ?_, ?_, ?_, ?_, ?_, ?_, ?_, ?_, ?_, ?_, ?_, ?_, ?_, ?_, ?_, ?_, ?_, ?_, ?_, ?_, ?_, ?_, ?_, ?_, ?_, ?_, ?_, trivial⟩
    · rintro ρ w1 hw hcst hfn hk
      clear hw
      simp only [known, List.getD_cons_zero, List.getD_cons_succ, Nat.reduceAdd] at hk
      simp only [List.getD_cons_zero, List.getD_cons_succ, Nat.reduceAdd, flowAt]
      go_simp
      exact ⟨Ext.refl _, by first | rfl | trivial⟩
    · rintro ρ w1 hw hcst hfn hk
      clear hw
      simp only [known, List.getD_cons_zero, List.getD_cons_succ, Nat.reduceAdd] at hk
      simp only [List.getD_cons_zero, List.getD_cons_succ, Nat.reduceAdd, flowAt]
      go_simp
      exact ⟨Ext.refl _, by first | rfl | trivial⟩
    · rintro ρ w1 hw hcst hfn hk
      clear hw
      simp only [known, List.getD_cons_zero, List.getD_cons_succ, Nat.reduceAdd] at hk
      simp only [List.getD_cons_zero, List.getD_cons_succ, Nat.reduceAdd, flowAt]
      go_simp
      exact ⟨Ext.refl _, by first | rfl | trivial⟩
    · rintro ρ w1 hw hcst hfn hk
      clear hw
      simp only [known, List.getD_cons_zero, List.getD_cons_succ, Nat.reduceAdd] at hk
      simp only [List.getD_cons_zero, List.getD_cons_succ, Nat.reduceAdd, flowAt]
      go_simp
      exact ⟨Ext.refl _, by first | rfl | trivial⟩
    · rintro ρ w1 hw hcst hfn hk
      clear hw
      simp only [known, List.getD_cons_zero, List.getD_cons_succ, Nat.reduceAdd] at hk
      simp only [List.getD_cons_zero, List.getD_cons_succ, Nat.reduceAdd, flowAt]
      rintro vg rfl
      refine ⟨fun hg => ?_, fun hg => ?_⟩ <;> simp at hg
      go_simp
      exact ⟨Ext.refl _, by first | rfl | trivial⟩
    · rintro ρ w1 hw hcst hfn hk
      clear hw
      simp only [known, List.getD_cons_zero, List.getD_cons_succ, Nat.reduceAdd] at hk
      simp only [List.getD_cons_zero, List.getD_cons_succ, Nat.reduceAdd, flowAt]
      rintro vg rfl
      refine ⟨fun hg => ?_, fun hg => ?_⟩ <;> simp at hg
      go_simp
      exact ⟨Ext.refl _, by first | rfl | trivial⟩
    · rintro ρ w1 hw hcst hfn hk
      simp only [known, List.getD_cons_zero, List.getD_cons_succ, Nat.reduceAdd] at hk
      simp only [List.getD_cons_zero, List.getD_cons_succ, Nat.reduceAdd, flowAt]
      rintro vg rfl
      refine ⟨fun hg => ?_, fun hg => ?_⟩ <;> simp at hg
      go_simp
      exact flow_ret (f6same_self a2 a4 c2 c4 V _ (R2.out.ext ((Ext.refl _).drew.trans hw)) (R4.out.ext ((Ext.refl _).drew.trans hw)) HVL.out)
    · rintro ρ w1 hw hcst hfn hk
      clear hw
      simp only [known, List.getD_cons_zero, List.getD_cons_succ, Nat.reduceAdd] at hk
      simp only [List.getD_cons_zero, List.getD_cons_succ, Nat.reduceAdd, flowAt]
      rintro vg rfl
      refine ⟨fun hg => ?_, fun hg => ?_⟩ <;> simp at hg
      go_simp
      exact ⟨Ext.refl _, by first | rfl | trivial⟩
    · rintro ρ w1 hw hcst hfn hk
      clear hw
      simp only [known, List.getD_cons_zero, List.getD_cons_succ, Nat.reduceAdd] at hk
      simp only [List.getD_cons_zero, List.getD_cons_succ, Nat.reduceAdd, flowAt]
      go_simp
      exact ⟨Ext.refl _, by first | rfl | trivial⟩
    · rintro ρ w1 hw hcst hfn hk
      clear hw
      simp only [known, List.getD_cons_zero, List.getD_cons_succ, Nat.reduceAdd] at hk
      simp only [List.getD_cons_zero, List.getD_cons_succ, Nat.reduceAdd, flowAt]
      go_simp
      exact ⟨Ext.refl _, by first | rfl | trivial⟩
    · rintro ρ w1 hw hcst hfn hk
      clear hw
      simp only [known, List.getD_cons_zero, List.getD_cons_succ, Nat.reduceAdd] at hk
      simp only [List.getD_cons_zero, List.getD_cons_succ, Nat.reduceAdd, flowAt]
      rintro vg rfl
      refine ⟨fun hg => ?_, fun hg => ?_⟩ <;> simp at hg
      go_simp
      exact ⟨Ext.refl _, by first | rfl | trivial⟩
    · rintro ρ w1 hw hcst hfn hk
      clear hw
      simp only [known, List.getD_cons_zero, List.getD_cons_succ, Nat.reduceAdd] at hk
      simp only [List.getD_cons_zero, List.getD_cons_succ, Nat.reduceAdd, flowAt]
      rintro vg rfl
      refine ⟨fun hg => ?_, fun hg => ?_⟩ <;> simp at hg
      go_simp
      exact ⟨Ext.refl _, by first | rfl | trivial⟩
    · rintro ρ w1 hw hcst hfn hk
      clear hw
      simp only [known, List.getD_cons_zero, List.getD_cons_succ, Nat.reduceAdd] at hk
      simp only [List.getD_cons_zero, List.getD_cons_succ, Nat.reduceAdd, flowAt]
      rintro vg rfl
      refine ⟨fun hg => ?_, fun hg => ?_⟩ <;> simp at hg
      go_simp
      exact ⟨Ext.refl _, by first | rfl | trivial⟩
    · rintro ρ w1 hw hcst hfn hk
      clear hw
      simp only [known, List.getD_cons_zero, List.getD_cons_succ, Nat.reduceAdd] at hk
      simp only [List.getD_cons_zero, List.getD_cons_succ, Nat.reduceAdd, flowAt]
      go_simp
      exact ⟨Ext.refl _, by first | rfl | trivial⟩
    · rintro ρ w1 hw hcst hfn hk
      clear hw
      simp only [known, List.getD_cons_zero, List.getD_cons_succ, Nat.reduceAdd] at hk
      simp only [List.getD_cons_zero, List.getD_cons_succ, Nat.reduceAdd, flowAt]
      go_simp
      exact ⟨Ext.refl _, by first | rfl | trivial⟩
    · rintro ρ w1 hw hcst hfn hk
      clear hw
      simp only [known, List.getD_cons_zero, List.getD_cons_succ, Nat.reduceAdd] at hk
      simp only [List.getD_cons_zero, List.getD_cons_succ, Nat.reduceAdd, flowAt]
      rintro vg rfl
      refine ⟨fun hg => ?_, fun hg => ?_⟩ <;> simp at hg
      go_simp
      exact ⟨Ext.refl _, by first | rfl | trivial⟩
    · rintro ρ w1 hw hcst hfn hk
      clear hw
      simp only [known, List.getD_cons_zero, List.getD_cons_succ, Nat.reduceAdd] at hk
      simp only [List.getD_cons_zero, List.getD_cons_succ, Nat.reduceAdd, flowAt]
      rintro vg rfl
      refine ⟨fun hg => ?_, fun hg => ?_⟩ <;> simp at hg
      go_simp
      exact ⟨Ext.refl _, by first | rfl | trivial⟩
    · rintro ρ w1 hw hcst hfn hk
      clear hw
      simp only [known, List.getD_cons_zero, List.getD_cons_succ, Nat.reduceAdd] at hk
      simp only [List.getD_cons_zero, List.getD_cons_succ, Nat.reduceAdd, flowAt]
      rintro vg rfl
      refine ⟨fun hg => ?_, fun hg => ?_⟩ <;> simp at hg
      go_simp
      exact ⟨Ext.refl _, by first | rfl | trivial⟩
    · rintro ρ w1 hw hcst hfn hk
      clear hw
      simp only [known, List.getD_cons_zero, List.getD_cons_succ, Nat.reduceAdd] at hk
      simp only [List.getD_cons_zero, List.getD_cons_succ, Nat.reduceAdd, flowAt]
      go_simp
      exact ⟨Ext.refl _, by first | rfl | trivial⟩
    · rintro ρ w1 hw hcst hfn hk
      clear hw
      simp only [known, List.getD_cons_zero, List.getD_cons_succ, Nat.reduceAdd] at hk
      simp only [List.getD_cons_zero, List.getD_cons_succ, Nat.reduceAdd, flowAt]
      go_simp
      exact ⟨Ext.refl _, by first | rfl | trivial⟩
    · rintro ρ w1 hw hcst hfn hk
      have c0 := hw.cell (b := G) (o := 0) (v := .int .i64 n) (by first | (simp [*]; done) | (simp [*, go_sem]; done) | go_cell)
      have c1 := hw.cell (b := G) (o := 1) (v := .string p) (by first | (simp [*]; done) | (simp [*, go_sem]; done) | go_cell)
      have c2 := hw.cell (b := G) (o := 2) (v := .string c) (by first | (simp [*]; done) | (simp [*, go_sem]; done) | go_cell)
      clear hw
      simp only [known, List.getD_cons_zero, List.getD_cons_succ, Nat.reduceAdd] at hk
      simp only [List.getD_cons_zero, List.getD_cons_succ, Nat.reduceAdd, flowAt]
      rintro vg rfl
      refine ⟨fun hg => ?_, fun hg => ?_⟩ <;> simp at hg
      go_simp
      exact ⟨Ext.refl _, by first | rfl | trivial⟩
    · rintro ρ w1 hw hcst hfn hk
      simp only [known, List.getD_cons_zero, List.getD_cons_succ, Nat.reduceAdd] at hk
      simp only [List.getD_cons_zero, List.getD_cons_succ, Nat.reduceAdd, flowAt]
      rintro vg rfl
      refine ⟨fun hg => ?_, fun hg => ?_⟩ <;> simp at hg
      go_simp
      exact flow_ret (HJi.out _ (HM.out _ (hE.trans ((Ext.refl _).drew.trans hw))))
    · rintro ρ w1 hw hcst hfn hk
      have c0 := hw.cell (b := G) (o := 0) (v := .int .i64 n) (by first | (simp [*]; done) | (simp [*, go_sem]; done) | go_cell)
      have c1 := hw.cell (b := G) (o := 1) (v := .string p) (by first | (simp [*]; done) | (simp [*, go_sem]; done) | go_cell)
      have c2 := hw.cell (b := G) (o := 2) (v := .string c) (by first | (simp [*]; done) | (simp [*, go_sem]; done) | go_cell)
      clear hw
      simp only [known, List.getD_cons_zero, List.getD_cons_succ, Nat.reduceAdd] at hk
      simp only [List.getD_cons_zero, List.getD_cons_succ, Nat.reduceAdd, flowAt]
      rintro vg rfl
      refine ⟨fun hg => ?_, fun hg => ?_⟩ <;> simp at hg
      go_simp
      exact ⟨Ext.refl _, by first | rfl | trivial⟩
    · rintro ρ w1 hw hcst hfn hk
      simp only [known, List.getD_cons_zero, List.getD_cons_succ, Nat.reduceAdd] at hk
      simp only [List.getD_cons_zero, List.getD_cons_succ, Nat.reduceAdd, flowAt]
      rintro vg rfl
      refine ⟨fun hg => ?_, fun hg => ?_⟩ <;> simp at hg
      go_simp
      exact flow_ret (HJs.out _)
    · rintro ρ w1 hw hcst hfn hk
      clear hw
      simp only [known, List.getD_cons_zero, List.getD_cons_succ, Nat.reduceAdd] at hk
      simp only [List.getD_cons_zero, List.getD_cons_succ, Nat.reduceAdd, flowAt]
      rintro vg rfl
      refine ⟨fun hg => ?_, fun hg => ?_⟩ <;> simp at hg
      go_simp
      exact ⟨Ext.refl _, by first | rfl | trivial⟩
    · rintro ρ w1 hw hcst hfn hk
      clear hw
      simp only [known, List.getD_cons_zero, List.getD_cons_succ, Nat.reduceAdd] at hk
      simp only [List.getD_cons_zero, List.getD_cons_succ, Nat.reduceAdd, flowAt]
      go_simp
      exact ⟨Ext.refl _, by first | rfl | trivial⟩
    · rintro ρ w1 hw hcst hfn hk
      clear hw
      simp only [known, List.getD_cons_zero, List.getD_cons_succ, Nat.reduceAdd] at hk
      simp only [List.getD_cons_zero, List.getD_cons_succ, Nat.reduceAdd, flowAt]
      go_simp
      exact ⟨Ext.refl _, by first | rfl | trivial⟩
    · rintro ρ w1 hw hcst hfn hk
      have c0 := hw.cell (b := G) (o := 0) (v := .int .i64 n) (by first | (simp [*]; done) | (simp [*, go_sem]; done) | go_cell)
      have c1 := hw.cell (b := G) (o := 1) (v := .string p) (by first | (simp [*]; done) | (simp [*, go_sem]; done) | go_cell)
      have c2 := hw.cell (b := G) (o := 2) (v := .string c) (by first | (simp [*]; done) | (simp [*, go_sem]; done) | go_cell)
      clear hw
      simp only [known, List.getD_cons_zero, List.getD_cons_succ, Nat.reduceAdd] at hk
      simp only [List.getD_cons_zero, List.getD_cons_succ, Nat.reduceAdd, flowAt]
      rintro vg rfl
      refine ⟨fun hg => ?_, fun hg => ?_⟩ <;> simp at hg
      go_simp
      exact ⟨Ext.refl _, by first | rfl | trivial⟩
    · rintro ρ w1 hw hcst hfn hk
      simp only [known, List.getD_cons_zero, List.getD_cons_succ, Nat.reduceAdd] at hk
      simp only [List.getD_cons_zero, List.getD_cons_succ, Nat.reduceAdd, flowAt]
      rintro vg rfl
      refine ⟨fun hg => ?_, fun hg => ?_⟩ <;> simp at hg
      go_simp
      exact flow_ret (HBi.out _ (HM.out _ (hE.trans ((Ext.refl _).drew.trans hw))))
    · rintro ρ w1 hw hcst hfn hk
      have c0 := hw.cell (b := G) (o := 0) (v := .int .i64 n) (by first | (simp [*]; done) | (simp [*, go_sem]; done) | go_cell)
      have c1 := hw.cell (b := G) (o := 1) (v := .string p) (by first | (simp [*]; done) | (simp [*, go_sem]; done) | go_cell)
      have c2 := hw.cell (b := G) (o := 2) (v := .string c) (by first | (simp [*]; done) | (simp [*, go_sem]; done) | go_cell)
      clear hw
      simp only [known, List.getD_cons_zero, List.getD_cons_succ, Nat.reduceAdd] at hk
      simp only [List.getD_cons_zero, List.getD_cons_succ, Nat.reduceAdd, flowAt]
      rintro vg rfl
      refine ⟨fun hg => ?_, fun hg => ?_⟩ <;> simp at hg
      go_simp
      exact ⟨Ext.refl _, by first | rfl | trivial⟩
    · rintro ρ w1 hw hcst hfn hk
      simp only [known, List.getD_cons_zero, List.getD_cons_succ, Nat.reduceAdd] at hk
      simp only [List.getD_cons_zero, List.getD_cons_succ, Nat.reduceAdd, flowAt]
      rintro vg rfl
      refine ⟨fun hg => ?_, fun hg => ?_⟩ <;> simp at hg
      go_simp
      exact flow_ret (HBs.out _)
    · rintro ρ w1 hw hcst hfn hk
      clear hw
      simp only [known, List.getD_cons_zero, List.getD_cons_succ, Nat.reduceAdd] at hk
      simp only [List.getD_cons_zero, List.getD_cons_succ, Nat.reduceAdd, flowAt]
      rintro vg rfl
      refine ⟨fun hg => ?_, fun hg => ?_⟩ <;> simp at hg
      go_simp
      exact ⟨Ext.refl _, by first | rfl | trivial⟩
    · rintro ρ w1 hw hcst hfn hk
      clear hw
      simp only [known, List.getD_cons_zero, List.getD_cons_succ, Nat.reduceAdd] at hk
      simp only [List.getD_cons_zero, List.getD_cons_succ, Nat.reduceAdd, flowAt]
      go_simp
      exact ⟨Ext.refl _, by first | rfl | trivial⟩
  intro vs w1 hw hf
  simp only [flowFacts, Nat.reduceAdd] at hf
  obtain ⟨e0, e1, e2, e3, e4, e5, e6, e7, e8, e9, e10, e11, e12, e13, e14, e15, e16, e17, e18, e19, e20, e21, e22, e23, e24, e25, e26, e27, e28, e29, e30, e31, e32, -⟩ := hf
  simp only [List.take_succ_cons, List.take_zero, List.drop_succ_cons, List.drop_zero, putAll, Act.put, Nat.reduceAdd, List.setIfInBounds_toArray, List.set_cons_zero, List.set_cons_succ, e0, e1, e2, e3, e4, e5, e6, e7, e8, e9, e10, e11, e12, e13, e14, e15, e16, e17, e18, e19, e20, e21, e22, e23, e24, e25, e26, e27, e28, e29, e30, e31, e32]
  clear e0 e1 e2 e3 e4 e5 e6 e7 e8 e9 e10 e11 e12 e13 e14 e15 e16 e17 e18 e19 e20 e21 e22 e23 e24 e25 e26 e27 e28 e29 e30 e31 e32
  have hx := (Ext.refl _).drew.trans hw
  replace b0 := hx.cell b0
  replace b1 := hx.cell b1
  replace b2 := hx.cell b2
  replace hE := hE.trans hx
  replace R2 := hid (R2.out.ext hx)
  clear hx hw R4 HS HTs HTi HJs HBs
  cases hok : okB n p c
  · have hK : K = 1 := by rw [← HKK.out]; unfold wonC; rw [hok]; rfl
    subst hK
    clear hok
    go_wp2_with fail
    go_returns
    exact ⟨rfl, hE⟩
  obtain ⟨k1, k2, k3, k4, k5⟩ := bw_facts hok
  have hK : K = 0 := by rw [← HKK.out]; unfold wonC; rw [hok]; rfl
  subst hK
  have HBL : Hid (B = true → V = [] ∧ J = true ∧ x = ⟨#[]⟩) := hid (by
    intro h
    rw [← HBB.out, hok] at h
    obtain ⟨e1, e2, e3⟩ := k5 (by simpa using h)
    rw [HVV.out] at e1
    rw [HJJ.out] at e2
    rw [HTT.out] at e3
    simp at e3
    exact ⟨e1, e2, e3.1⟩)
  have HTV : Hid (transV n p c = .tuple #[boardV n (turnS n.toNat p) (turnS n.toNat c), .int .i64 0]) := hid (by unfold transV; rw [hok]; rfl)
  rw [HTV.out] at HXT
  obtain ⟨p2, hp2⟩ : ∃ z, turnS n.toNat p = z := ⟨_, rfl⟩
  obtain ⟨c2', hc2⟩ : ∃ z, turnS n.toNat c = z := ⟨_, rfl⟩
  have hz : p2.size ≤ 1048576 ∧ c2'.size ≤ 1048576 := by
    have hm : n.toNat * n.toNat ≤ 15 * 15 := Nat.mul_le_mul (by have := (okB_true hok).2.1; omega) (by have := (okB_true hok).2.1; omega)
    rw [← hp2, ← hc2, turnS_size, turnS_size]
    omega
  rw [hp2, hc2] at HXT k1 k2 k3 k4
  have HI2 := hid (fun w' (h : MaxAt w') => WordsOn_any n p2 c2' w' hz.1 hz.2 h)
  obtain ⟨V2, hV2⟩ : ∃ V, wonL n p2 c2' = V := ⟨_, rfl⟩
  have hK2 : wonC n p2 c2' = 0 := by unfold wonC; rw [k1]; rfl
  rw [hV2, hK2] at HI2
  rw [hV2, HVV.out] at k2 k3 k4
  have HL2 := hid k2
  have HY1 := hid (fun s (h : s ∈ V) => inL_iff.2 (k3 s h))
  have HY2 := hid (fun s (h : s ∈ V2) => inL_iff.2 (k4 s h))
  clear hV2 hK2 hz hp2 hc2 k1 k2 k3 k4 k5 hok HTV HBB HTT HJJ HKK HVV HI
  go_wp2_with fail
  refine (HXT.out _).mono ?_
  rintro e z3 ⟨rfl, hx⟩
  replace b0 := hx.cell b0
  replace b1 := hx.cell b1
  replace b2 := hx.cell b2
  replace R2 := hid (R2.out.ext hx)
  replace hE := hE.trans hx
  clear hx
  have hx := (Ext.refl z3).alloc (.cells #[.int .i64 n, .string p2, .string c2'] 25)
  replace b0 := hx.cell b0
  replace b1 := hx.cell b1
  replace b2 := hx.cell b2
  replace R2 := hid (R2.out.ext hx)
  replace hE := hE.trans hx
  clear hx
  go_wp2_with fail
  refine (HI2.out _ (HM.out _ hE)).mono ?_
  rintro e z4 ⟨a5, c5, rfl, ho5, hx⟩
  replace b0 := hx.cell b0
  replace b1 := hx.cell b1
  replace b2 := hx.cell b2
  replace hE := hE.trans hx
  replace R2 := hid (R2.out.ext hx)
  have R5 := hid ho5.rd
  have HH1 := hid (fun w' (s : ByteArray) (h : Rd w' a5 (strsV V2)) => f6has_any a5 c5 V2 s w' h (by rw [HL2.out]; exact HVL.out))
  have HH2 := hid (fun w' (s : ByteArray) (h : Rd w' a2 (strsV V)) => f6has_any a2 c2 V s w' h HVL.out)
  have HL3 := hid HL2.out
  rw [HL2.out] at HH1
  rw [HL2.out]
  clear hx ho5 HI2 HXT
  have HK0 := hid (show Ext w z4 ∧ Rd z4 a2 (strsV V) ∧ Rd z4 a5 (strsV V2) ∧ z4.cell? ⟨G, 0, none⟩ = some (.int .i64 n) ∧ z4.cell? ⟨G, 1, none⟩ = some (.string p) ∧ z4.cell? ⟨G, 2, none⟩ = some (.string c) from ⟨hE, R2.out, R5.out, b0, b1, b2⟩)
  clear hE R2 R5 b0 b1 b2
  go_wp2_with fail
  go_loopw [16] (fun i wr => ∃ k : Nat, k ≤ V.length ∧ i = .int .i64 k ∧ Hid (Ext w wr ∧ Rd wr a2 (strsV V) ∧ Rd wr a5 (strsV V2) ∧ wr.cell? ⟨G, 0, none⟩ = some (.int .i64 n) ∧ wr.cell? ⟨G, 1, none⟩ = some (.string p) ∧ wr.cell? ⟨G, 2, none⟩ = some (.string c))) (fun i _ => V.length - (intOf i).toNat)
  case atStart => exact ⟨0, by omega, rfl, HK0⟩
  case round =>
    clear HK0
    obtain ⟨k, hk, rfl, HK⟩ := hrel
    obtain ⟨hE, hr2, hr5, b0, b1, b2⟩ := HK.out
    have R2 := hid hr2
    have R5 := hid hr5
    clear HK hr2 hr5
    by_cases hlt : k < V.length
    · have hk20 : k < 1048576 := by have := HVL.out; omega
      obtain ⟨g2, o2, rfl, hc2⟩ := R2.out.word (by omega)
      obtain ⟨g5, o5, rfl, hc5⟩ := R5.out.word (by rw [HL3.out]; omega)
      have d2 := hc2 k hlt
      have d5 := hc5 k (by rw [HL3.out]; exact hlt)
      have hy1 := HY1.out _ (wAt_mem V k hlt)
      have hy2 := HY2.out _ (wAt_mem V2 k (by rw [HL3.out]; exact hlt))
      obtain ⟨s2, hs2⟩ : ∃ s, wAt V k = s := ⟨_, rfl⟩
      obtain ⟨s5, hs5⟩ : ∃ s, wAt V2 k = s := ⟨_, rfl⟩
      rw [hs2] at d2 hy1
      rw [hs5] at d5 hy2
      obtain ⟨q2, hq2⟩ : ∃ q, o2 + k = q := ⟨_, rfl⟩
      obtain ⟨q5, hq5⟩ : ∃ q, o5 + k = q := ⟨_, rfl⟩
      rw [hq2] at d2
      rw [hq5] at d5
      have HA := hid (fun w' (h : Rd w' (some ⟨g5, o5, none⟩) (strsV V2)) => HH1.out w' s2 h)
      have HB2 := hid (fun w' (h : Rd w' (some ⟨g2, o2, none⟩) (strsV V)) => HH2.out w' s5 h)
      rw [hy1] at HA
      rw [hy2] at HB2
      clear hc2 hc5 hs2 hs5 hy1 hy2 HH1 HH2
      go_wp2_with fail
      refine (HA.out _ R5.out).mono ?_
      rintro e y1 ⟨rfl, hx⟩
      replace b0 := hx.cell b0
      replace b1 := hx.cell b1
      replace b2 := hx.cell b2
      replace d2 := hx.cell d2
      replace d5 := hx.cell d5
      replace hE := hE.trans hx
      replace R2 := hid (R2.out.ext hx)
      replace R5 := hid (R5.out.ext hx)
      clear hx HA
      go_wp2_with fail
      refine (HB2.out _ R2.out).mono ?_
      rintro e y2 ⟨rfl, hx⟩
      replace b0 := hx.cell b0
      replace b1 := hx.cell b1
      replace b2 := hx.cell b2
      replace hE := hE.trans hx
      replace R2 := hid (R2.out.ext hx)
      replace R5 := hid (R5.out.ext hx)
      clear hx HB2 d2 d5
      go_wp2_with fail
      go_roundw
      case rel => exact ⟨k + 1, by omega, by go_num, hid ⟨hE, R2.out, R5.out, b0, b1, b2⟩⟩
      case measure => simp [intOf]; omega
    · clear HH1 HH2
      cases B
      · go_wp2_with fail
        refine (HBi.out _ (HM.out _ hE)).mono ?_
        rintro e y1 ⟨rfl, hx⟩
        replace hE := hE.trans hx
        clear hx
        go_wp2_with fail
        go_returns
        exact ⟨rfl, hE⟩
      · obtain ⟨rfl, rfl, rfl⟩ := HBL.out rfl
        go_wp2_with fail
        refine (HBi.out _ (HM.out _ hE)).mono ?_
        rintro e y1 ⟨rfl, hx⟩
        replace b0 := hx.cell b0
        replace b1 := hx.cell b1
        replace b2 := hx.cell b2
        replace hE := hE.trans hx
        clear hx
        go_wp2_with fail
        refine (HJi.out _ (HM.out _ hE)).mono ?_
        rintro e y2 ⟨rfl, hx⟩
        replace hE := hE.trans hx
        clear hx b0 b1 b2
        go_wp2_with fail
        go_returns
        exact ⟨rfl, hE⟩
set_option maxRecDepth 100000 in
theorem lifted_FnBoardWords (os : Os) (started : os.Started) (H : Type) (enc : TypeId × Value → H) :
    ReturnsInHanded {} Tryz.checked os 3 .any (fun w args => (Rows.fnBoardWordsSpec.pre enc Tryz.prog Tryz.f3 [] false w args ∧ laidMetH Tryz.prog Rows.fnBoardWordsRow.laid w) ∧ sizedMet enc Tryz.prog Tryz.f3 (OpenSpec.ofChange Rows.fnBoardWordsSpec) false w args)
      (Rows.fnBoardWordsSpec.post enc Tryz.prog Tryz.f3 false true false false) := by
  refine handed_shaped_and (C := Tryz.checked) (X := fun w _ => laidMetH Tryz.prog Rows.fnBoardWordsRow.laid w) (fun _ _ _ hh h => h.of_heap hh) ownRow started (by kernel_rfl) Tryz.func3
    (ChangeSpec.witness_shaped (enc := enc) (C := Tryz.checked) (os := os) (X := fun w _ => laidMetH Tryz.prog Rows.fnBoardWordsRow.laid w) false (World.laidAll Tryz.prog os Rows.fnBoardWordsRow.laid) #[.slice none 0 0] 8 (World.laidAll_os _ _ _)
      (World.shaped_of_ZipB (by kernel_rfl) (by kernel_rfl)) (by kernel_rfl) (by kernel_rfl) (by kernel_rfl)
      (by rw [MakeChecks.laidMetH_plain _ _ _ (by kernel_rfl)]; exact laidMet_laidAll _ (by kernel_rfl) (by kernel_rfl))) ?_
  intro W base args ds gs before hval0 hW hSh hL
  have hval : ∀ (j : Nat) t v, Tryz.f3.params[j]? = some t → args[j]? = some v → Value.okWide Tryz.prog W .any base t v := hval0
  have hW' := hW
  obtain ⟨p, q, hA0, hV, rfl, hfz, hnd⟩ := hW
  have hA : DataW.TrodAll enc Tryz.prog W 0 (fun _ => true) true Tryz.f3.params.toList args.toList ds p := hA0
  rw [Tryz.params3] at hA hval
  obtain ⟨v0, vs0, d0, ds0, p0, q0, hargs, rfl, rfl, h0, r0⟩ := trodAll_cons hA
  obtain ⟨rfl, rfl, rfl⟩ := trodAll_nil r0
  obtain rfl : args = #[v0] := by cases args; simp_all
  obtain ⟨rfl, rfl⟩ := trodVars_none hV
  have k0 := h0
  have lt0 : ∀ x ∈ p0, x.block < W.heap.size := by obtain ⟨m, hm⟩ := k0; exact DataW.trod_lt m _ _ _ hm
  obtain ⟨a0_a, a0_c, a0_l, rfl, r_a0, n_a0⟩ := open_code Tryz.underlying22 Tryz.underlying5 (by kernel_rfl) (hval 0 22 v0 rfl rfl) h0
  clear hA0 hval0
  refine (walk_FnBoardWords a0_a a0_c a0_l W r_a0 n_a0 (maxAt_of hSh)).mono fun e W' ⟨he, bel⟩ => ?_
  subst he
  exact ⟨_, rfl, _, _, _, [], _, [], hW', trodAll_mk1 (shut_bool Tryz.underlying4 _), (trodAll_cons_mk (Below.trod laidRow (by kernel_rfl) (of_decide_eq_true (by kernel_rfl)) k0 bel lt0) trodAll_mk0), rfl, bel.frame _, fun h => by cases h⟩

theorem over_FnBoardWords : Rows.fnBoardWordsRow.holds Tryz.pinned (OpenSpec.ofChange Rows.fnBoardWordsSpec) :=
  OpenClaim.holds_of_wide 3 Tryz.f3 rfl rfl rfl rfl rfl rfl rfl ⟨rfl, rfl, rfl, rfl, rfl⟩ rfl rfl rfl rfl rfl (by kernel_rfl) Tryz.func3 (by kernel_rfl)
    (of_decide_eq_true (by kernel_rfl)) (by unfold Func.isWrapper; first | (rw [if_pos (by decide +kernel)]; kernel_rfl) | (rw [if_neg (by decide +kernel)]; exact ⟨rfl, rfl⟩))
    (fun os started H enc _ => lifted_FnBoardWords os started H enc)

theorem said_FnBoardWords : Rows.FnBoardWordsCardSaid :=
  Claim7.holds_tied_plain_at .later [] [.data, .pinned, .pinned] true (true, "dad3f83df428dde746009a651750a75cb42e412d3a29bdf62991fac97e4a4147") true over_FnBoardWords (fun _ h => by cases h) (by kernel_rfl) (fun _ h => by cases h) fnBoardWords_row_tie rfl ⟨rfl, rfl⟩ (by kernel_rfl) rfl
    (fun f fn hf hfn => by
      obtain rfl : f = 3 := Option.some.inj ((show Tryz.prog.funcNamed "loop.example/g00911/laws.FnBoardWords" = some 3 by kernel_rfl).symm.trans hf) |>.symm
      obtain rfl : fn = Tryz.f3 := (Option.some.inj (Tryz.func3.symm.trans hfn)).symm
      exact ⟨by kernel_rfl, fun j t ht => by
        rw [Tryz.params3] at ht
        have hm : t ∈ [22] := by simpa using Array.mem_of_getElem? ht
        have hall : ([22].all fun u => !Tryz.prog.wantsStandIn u) = true := by kernel_rfl
        exact (show Tryz.prog.wantsStandIn t = false by simpa using List.all_eq_true.1 hall t hm)⟩)
    (by kernel_rfl)
end Go.Proofs.YtmohfdfjlgekaaaGreatDoor
