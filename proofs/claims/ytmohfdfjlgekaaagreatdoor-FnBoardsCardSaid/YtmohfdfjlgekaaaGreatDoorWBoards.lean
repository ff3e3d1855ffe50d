/- FnBoards: whatever it is given, it says yes. No condition. -/
import Derived.Test.YtmohfdfjlgekaaaGreatDoorJtL
import Derived.Test.YtmohfdfjlgekaaaGreatDoorDrawC
import Derived.Test.YtmohfdfjlgekaaaGreatDoorMg14
import Derived.Test.YtmohfdfjlgekaaaGreatDoorCh15e
import Derived.Test.YtmohfdfjlgekaaaGreatDoorCh15f
import Derived.Test.YtmohfdfjlgekaaaGreatDoorCh11y
import Derived.Test.YtmohfdfjlgekaaaGreatDoorCh11z
import Derived.Test.YtmohfdfjlgekaaaGreatDoorMg10
import Derived.Test.YtmohfdfjlgekaaaGreatDoorMg16
namespace Go.Proofs.YtmohfdfjlgekaaaGreatDoor
set_option linter.unusedVariables false
set_option linter.unusedSimpArgs false
open Go Go.RowKit Go.ChangeShapes Go.WideShapes Go.ChangeAt
open Go.ChangeMaps (open_string shut_string)
theorem textV_size (n : Int) (p c : ByteArray) : (textV n p c).size ≤ 1000 := by
  unfold textV
  split
  · rename_i h
    obtain ⟨h1, h2, -⟩ := okB_true h
    exact text_size (by omega) (by omega)
  · exact Nat.zero_le _
theorem textB_ne (m : Nat) (p c : ByteArray) : textB m p c ≠ ⟨#[]⟩ := by
  intro h
  have : (textB m p c).data.toList = [] := by rw [h]
  have e : (textB m p c).data.toList = (linesL m p c).flatMap nl := by
    show ((linesL m p c).flatMap nl).toArray.toList = _
    simp
  rw [e] at this
  simp [linesL, nl] at this
/-- What is read from a board's text. -/
theorem read_text {n : Int} {p c : ByteArray} (h : okB n p c = true) : readV (textV n p c) = .tuple #[boardV n p c, .bool true] ∧ textV n p c ≠ ⟨#[]⟩ := by
  obtain ⟨m, rfl⟩ := nat_of (okB_true h).1
  have e : textV m p c = textB m p c := by unfold textV; rw [h]; rfl
  rw [e]
  exact ⟨readV_yes h rfl, textB_ne m p c⟩
theorem read_none {n : Int} {p c : ByteArray} (h : okB n p c = false) : readV (textV n p c) = .tuple #[boardV 0 ⟨#[]⟩ ⟨#[]⟩, .bool false] ∧ textV n p c = ⟨#[]⟩ := by
  have e : textV n p c = ⟨#[]⟩ := by unfold textV; rw [h]; rfl
  rw [e]
  exact ⟨readV_no fun m p c _ h2 => textB_ne m p c h2, rfl⟩
theorem readV_form (s : ByteArray) : ∃ (n : Int) (p c : ByteArray) (b : Bool), readV s = .tuple #[boardV n p c, .bool b] := by
  rcases readV_cases s with ⟨m, p, c, _, _, h⟩ | ⟨_, h⟩
  · exact ⟨m, p, c, true, h⟩
  · exact ⟨0, ⟨#[]⟩, ⟨#[]⟩, false, h⟩
/-- What FnBoards needs of a valid board. -/
theorem bd_facts {n : Int} {p c : ByteArray} (h : okB n p c = true) : okB n (turnS n.toNat p) (turnS n.toNat c) = true ∧ turnS n.toNat (turnS n.toNat p) = p ∧ turnS n.toNat (turnS n.toNat c) = c ∧
    joinB n (turnS n.toNat p) (turnS n.toNat c) = joinB n p c ∧ blankS (turnS n.toNat c) = blankS c ∧ tilesV n (turnS n.toNat p) (turnS n.toNat c) = tilesV n p c := by
  obtain ⟨h1, h2, h3, h4⟩ := okB_true h
  obtain ⟨m, rfl⟩ := nat_of h1
  have e : ((m * m : Nat) : Int) = (m : Int) * m := by push_cast; rfl
  rw [Int.toNat_natCast]
  exact ⟨okB_turn h, turn_turnW m p (by omega), turn_turnW m c (by omega), join_turn h, blank_turn (by omega), tiles_turn h⟩
set_option maxRecDepth 100000 in
set_option maxHeartbeats 16000000 in
theorem walk_FnBoards (a : Option Addr) (cc : Nat) (l : List UInt8) (w : World) (hr : Rd w a (bytesV l)) (hl : l.length ≤ maxLen) (hN : NumF w) :
    Calls Tryz.prog 4 #[.slice a l.length cc] w (Ret (.bool true) w) := by
  have HR : Hid (∀ w', Ext w w' → Rd w' a (bytesV l)) := hid (fun w' k => hr.ext k)
  have HN : Hid (∀ w', Ext w w' → NumF w') := hid (fun w' k => hN.ext k)
  have HF := hid (f6big_any a cc l w hl)
  clear hr hN
  by_cases hbig : 4096 < l.length
  · rw [show decide (4096 < l.length) = true by simpa using hbig] at HF
    clear hbig
    go_enter Tryz.func4, Tryz.ntmps4
    go_wp2_with fail
    refine HF.out.mono ?_
    rintro e w' ⟨rfl, rfl⟩
    go_wp2_with fail
    go_returns
    exact ⟨rfl, Ext.refl _⟩
  rw [show decide (4096 < l.length) = false by simpa using hbig] at HF
  have HD := hid (DrawTransposeBoard_any a cc l w (HR.out _ (Ext.refl _)) (by omega))
  have HD2 := hid (fun w' (x : Ext w w') => DrawReadBoard_any a cc l w' (HR.out _ x) (by omega))
  clear hbig HR
  go_enter Tryz.func4, Tryz.ntmps4
  go_wp2_with fail
  refine HF.out.mono ?_
  rintro e w' ⟨rfl, rfl⟩
  go_wp2_with fail
  refine HD.out.mono ?_
  rintro e z0 ⟨n, p, c, n0, n1, hp, hc, rfl, hx⟩
  have hE := hx
  clear hx HF HD
  have HXT := hid (fun w' => TransposeBoard_any n p c w' (by omega) (by omega))
  have HXS := hid (fun w' => sTransposeBoard_any n p c w' (by omega) (by omega))
  have HTx := hid (fun w' => BoardText_any n p c w' (by omega) (by omega))
  have HTs := hid (fun w' => sBoardText_any n p c w' (by omega) (by omega))
  have HVd := hid (fun w' => ValidBoard_any n p c w' (by omega) (by omega))
  obtain ⟨T, hT⟩ : ∃ T, textV n p c = T := ⟨_, rfl⟩
  have hTz : T.size ≤ 1000 := by rw [← hT]; exact textV_size n p c
  have HRb := hid (fun w' (h : NumF w') => ReadBoard_any T w' (by omega) h)
  have HRI := hid (fun (s : ByteArray) (hs : s.size ≤ 2200) w' (h : NumF w') => ReadBoard_any s w' (by omega) h)
  have HRS := hid (fun (s : ByteArray) (hs : s.size ≤ 2200) w' => sReadBoard_any s w' (by omega))
  have HP2 : Hid (c.size ≤ 1000 ∧ p.size ≤ 1000) := hid ⟨hc, hp⟩
  have HTT := hid hT
  rw [hT] at HTx HTs
  clear hp hc hTz
  have hx := (Ext.refl z0).alloc (.cells #[.int .i64 n, .string p, .string c] 25)
  replace hE := hE.trans hx
  clear hx
  have b0 : (z0.alloc (.cells #[.int .i64 n, .string p, .string c] 25)).cell? ⟨z0.heap.size, 0, none⟩ = some (.int .i64 n) := by simp
  have b1 : (z0.alloc (.cells #[.int .i64 n, .string p, .string c] 25)).cell? ⟨z0.heap.size, 1, none⟩ = some (.string p) := by simp
  have b2 : (z0.alloc (.cells #[.int .i64 n, .string p, .string c] 25)).cell? ⟨z0.heap.size, 2, none⟩ = some (.string c) := by simp
  cases hok : okB n p c
  · have HTV : Hid (transV n p c = .tuple #[boardV 0 noS noS, .int .i64 1]) := hid (by unfold transV; rw [hok]; rfl)
    obtain ⟨t1, t2⟩ := read_none hok
    rw [hT] at t1 t2
    rw [HTV.out] at HXT HXS
    rw [t1] at HRb
    rw [hok] at HVd
    subst t2
    clear hok HTV t1 HTT hT
    go_wp2_with fail
    refine (HXT.out _).mono ?_
    rintro e z1 ⟨rfl, hx⟩
    replace b0 := hx.cell b0
    replace b1 := hx.cell b1
    replace b2 := hx.cell b2
    replace hE := hE.trans hx
    clear hx
    have hl_b0 := World.block_lt_of_cell? _ _ b0
    have hx := (Ext.refl z1).alloc (.cells #[.int .i64 0, .string noS, .string noS] 25)
    replace b0 := hx.cell b0
    replace b1 := hx.cell b1
    replace b2 := hx.cell b2
    replace hE := hE.trans hx
    clear hx
    have x0 : (z1.alloc (.cells #[.int .i64 0, .string noS, .string noS] 25)).cell? ⟨z1.heap.size, 0, none⟩ = some (.int .i64 0) := by simp
    have x1 : (z1.alloc (.cells #[.int .i64 0, .string noS, .string noS] 25)).cell? ⟨z1.heap.size, 1, none⟩ = some (.string noS) := by simp
    have x2 : (z1.alloc (.cells #[.int .i64 0, .string noS, .string noS] 25)).cell? ⟨z1.heap.size, 2, none⟩ = some (.string noS) := by simp
    clear hl_b0
    go_wp2_with fail
    refine (HXS.out _).mono ?_
    rintro e z2 ⟨rfl, hx⟩
    replace b0 := hx.cell b0
    replace b1 := hx.cell b1
    replace b2 := hx.cell b2
    replace x0 := hx.cell x0
    replace x1 := hx.cell x1
    replace x2 := hx.cell x2
    replace hE := hE.trans hx
    clear hx
    have hl_b0 := World.block_lt_of_cell? _ _ b0
    have hl_x0 := World.block_lt_of_cell? _ _ x0
    have hx := (Ext.refl z2).alloc (.cells #[.int .i64 0, .string noS, .string noS] 25)
    replace b0 := hx.cell b0
    replace b1 := hx.cell b1
    replace b2 := hx.cell b2
    replace x0 := hx.cell x0
    replace x1 := hx.cell x1
    replace x2 := hx.cell x2
    replace hE := hE.trans hx
    clear hx
    have y0 : (z2.alloc (.cells #[.int .i64 0, .string noS, .string noS] 25)).cell? ⟨z2.heap.size, 0, none⟩ = some (.int .i64 0) := by simp
    have y1 : (z2.alloc (.cells #[.int .i64 0, .string noS, .string noS] 25)).cell? ⟨z2.heap.size, 1, none⟩ = some (.string noS) := by simp
    have y2 : (z2.alloc (.cells #[.int .i64 0, .string noS, .string noS] 25)).cell? ⟨z2.heap.size, 2, none⟩ = some (.string noS) := by simp
    clear hl_b0
    clear hl_x0
    go_wp2_with fail
    refine (HTx.out _).mono ?_
    rintro e z3 ⟨rfl, hx⟩
    replace b0 := hx.cell b0
    replace b1 := hx.cell b1
    replace b2 := hx.cell b2
    replace x0 := hx.cell x0
    replace x1 := hx.cell x1
    replace x2 := hx.cell x2
    replace y0 := hx.cell y0
    replace y1 := hx.cell y1
    replace y2 := hx.cell y2
    replace hE := hE.trans hx
    clear hx
    go_wp2_with fail
    refine (HRb.out _ (HN.out _ hE)).mono ?_
    rintro e z4 ⟨rfl, hx⟩
    replace b0 := hx.cell b0
    replace b1 := hx.cell b1
    replace b2 := hx.cell b2
    replace x0 := hx.cell x0
    replace x1 := hx.cell x1
    replace x2 := hx.cell x2
    replace y0 := hx.cell y0
    replace y1 := hx.cell y1
    replace y2 := hx.cell y2
    replace hE := hE.trans hx
    clear hx
    have hl_b0 := World.block_lt_of_cell? _ _ b0
    have hl_x0 := World.block_lt_of_cell? _ _ x0
    have hl_y0 := World.block_lt_of_cell? _ _ y0
    have hx := (Ext.refl z4).alloc (.cells #[.int .i64 0, .string noS, .string noS] 25)
    replace b0 := hx.cell b0
    replace b1 := hx.cell b1
    replace b2 := hx.cell b2
    replace x0 := hx.cell x0
    replace x1 := hx.cell x1
    replace x2 := hx.cell x2
    replace y0 := hx.cell y0
    replace y1 := hx.cell y1
    replace y2 := hx.cell y2
    replace hE := hE.trans hx
    clear hx
    have r0 : (z4.alloc (.cells #[.int .i64 0, .string noS, .string noS] 25)).cell? ⟨z4.heap.size, 0, none⟩ = some (.int .i64 0) := by simp
    have r1 : (z4.alloc (.cells #[.int .i64 0, .string noS, .string noS] 25)).cell? ⟨z4.heap.size, 1, none⟩ = some (.string noS) := by simp
    have r2 : (z4.alloc (.cells #[.int .i64 0, .string noS, .string noS] 25)).cell? ⟨z4.heap.size, 2, none⟩ = some (.string noS) := by simp
    clear hl_b0
    clear hl_x0
    clear hl_y0
    go_wp2_with fail
    refine (HD2.out _ hE).mono ?_
    rintro e zd ⟨u, hu, rfl, hx⟩
    replace b0 := hx.cell b0
    replace b1 := hx.cell b1
    replace b2 := hx.cell b2
    replace x0 := hx.cell x0
    replace x1 := hx.cell x1
    replace x2 := hx.cell x2
    replace y0 := hx.cell y0
    replace y1 := hx.cell y1
    replace y2 := hx.cell y2
    replace r0 := hx.cell r0
    replace r1 := hx.cell r1
    replace r2 := hx.cell r2
    replace hE := hE.trans hx
    clear hx
    obtain ⟨n3, p3, c3, b3, hv3⟩ := readV_form u
    have HI3 := hid (HRI.out u hu)
    have HS3 := hid (HRS.out u hu)
    rw [hv3] at HI3 HS3
    clear hv3 hu HRI HRS
    go_wp2_with fail
    refine (HI3.out _ (HN.out _ hE)).mono ?_
    rintro e z5 ⟨rfl, hx⟩
    replace b0 := hx.cell b0
    replace b1 := hx.cell b1
    replace b2 := hx.cell b2
    replace x0 := hx.cell x0
    replace x1 := hx.cell x1
    replace x2 := hx.cell x2
    replace y0 := hx.cell y0
    replace y1 := hx.cell y1
    replace y2 := hx.cell y2
    replace r0 := hx.cell r0
    replace r1 := hx.cell r1
    replace r2 := hx.cell r2
    replace hE := hE.trans hx
    clear hx
    have hl_b0 := World.block_lt_of_cell? _ _ b0
    have hl_x0 := World.block_lt_of_cell? _ _ x0
    have hl_y0 := World.block_lt_of_cell? _ _ y0
    have hl_r0 := World.block_lt_of_cell? _ _ r0
    have hx := (Ext.refl z5).alloc (.cells #[.int .i64 n3, .string p3, .string c3] 25)
    replace b0 := hx.cell b0
    replace b1 := hx.cell b1
    replace b2 := hx.cell b2
    replace x0 := hx.cell x0
    replace x1 := hx.cell x1
    replace x2 := hx.cell x2
    replace y0 := hx.cell y0
    replace y1 := hx.cell y1
    replace y2 := hx.cell y2
    replace r0 := hx.cell r0
    replace r1 := hx.cell r1
    replace r2 := hx.cell r2
    replace hE := hE.trans hx
    clear hx
    have f0 : (z5.alloc (.cells #[.int .i64 n3, .string p3, .string c3] 25)).cell? ⟨z5.heap.size, 0, none⟩ = some (.int .i64 n3) := by simp
    have f1 : (z5.alloc (.cells #[.int .i64 n3, .string p3, .string c3] 25)).cell? ⟨z5.heap.size, 1, none⟩ = some (.string p3) := by simp
    have f2 : (z5.alloc (.cells #[.int .i64 n3, .string p3, .string c3] 25)).cell? ⟨z5.heap.size, 2, none⟩ = some (.string c3) := by simp
    clear hl_b0
    clear hl_x0
    clear hl_y0
    clear hl_r0
    go_wp2_with fail
    refine (HS3.out _).mono ?_
    rintro e z6 ⟨rfl, hx⟩
    replace b0 := hx.cell b0
    replace b1 := hx.cell b1
    replace b2 := hx.cell b2
    replace x0 := hx.cell x0
    replace x1 := hx.cell x1
    replace x2 := hx.cell x2
    replace y0 := hx.cell y0
    replace y1 := hx.cell y1
    replace y2 := hx.cell y2
    replace r0 := hx.cell r0
    replace r1 := hx.cell r1
    replace r2 := hx.cell r2
    replace f0 := hx.cell f0
    replace f1 := hx.cell f1
    replace f2 := hx.cell f2
    replace hE := hE.trans hx
    clear hx
    have hl_b0 := World.block_lt_of_cell? _ _ b0
    have hl_x0 := World.block_lt_of_cell? _ _ x0
    have hl_y0 := World.block_lt_of_cell? _ _ y0
    have hl_r0 := World.block_lt_of_cell? _ _ r0
    have hl_f0 := World.block_lt_of_cell? _ _ f0
    have hx := (Ext.refl z6).alloc (.cells #[.int .i64 n3, .string p3, .string c3] 25)
    replace b0 := hx.cell b0
    replace b1 := hx.cell b1
    replace b2 := hx.cell b2
    replace x0 := hx.cell x0
    replace x1 := hx.cell x1
    replace x2 := hx.cell x2
    replace y0 := hx.cell y0
    replace y1 := hx.cell y1
    replace y2 := hx.cell y2
    replace r0 := hx.cell r0
    replace r1 := hx.cell r1
    replace r2 := hx.cell r2
    replace f0 := hx.cell f0
    replace f1 := hx.cell f1
    replace f2 := hx.cell f2
    replace hE := hE.trans hx
    clear hx
    have g0 : (z6.alloc (.cells #[.int .i64 n3, .string p3, .string c3] 25)).cell? ⟨z6.heap.size, 0, none⟩ = some (.int .i64 n3) := by simp
    have g1 : (z6.alloc (.cells #[.int .i64 n3, .string p3, .string c3] 25)).cell? ⟨z6.heap.size, 1, none⟩ = some (.string p3) := by simp
    have g2 : (z6.alloc (.cells #[.int .i64 n3, .string p3, .string c3] 25)).cell? ⟨z6.heap.size, 2, none⟩ = some (.string c3) := by simp
    clear hl_b0
    clear hl_x0
    clear hl_y0
    clear hl_r0
    clear hl_f0
    clear HI3 HS3 HXS HRb HTx HD2
    go_wp2_with fail
    refine (HTs.out _).mono ?_
    rintro e z7 ⟨rfl, hx⟩
    replace b0 := hx.cell b0
    replace b1 := hx.cell b1
    replace b2 := hx.cell b2
    replace x0 := hx.cell x0
    replace x1 := hx.cell x1
    replace x2 := hx.cell x2
    replace y0 := hx.cell y0
    replace y1 := hx.cell y1
    replace y2 := hx.cell y2
    replace r0 := hx.cell r0
    replace r1 := hx.cell r1
    replace r2 := hx.cell r2
    replace f0 := hx.cell f0
    replace f1 := hx.cell f1
    replace f2 := hx.cell f2
    replace g0 := hx.cell g0
    replace g1 := hx.cell g1
    replace g2 := hx.cell g2
    replace hE := hE.trans hx
    clear hx
    go_wp2_with fail
    refine (HVd.out _).mono ?_
    rintro e z8 ⟨rfl, hx⟩
    replace b0 := hx.cell b0
    replace b1 := hx.cell b1
    replace b2 := hx.cell b2
    replace x0 := hx.cell x0
    replace x1 := hx.cell x1
    replace x2 := hx.cell x2
    replace y0 := hx.cell y0
    replace y1 := hx.cell y1
    replace y2 := hx.cell y2
    replace r0 := hx.cell r0
    replace r1 := hx.cell r1
    replace r2 := hx.cell r2
    replace f0 := hx.cell f0
    replace f1 := hx.cell f1
    replace f2 := hx.cell f2
    replace g0 := hx.cell g0
    replace g1 := hx.cell g1
    replace g2 := hx.cell g2
    replace hE := hE.trans hx
    clear hx
    go_wp2_with fail
    go_returns
    exact ⟨rfl, hE⟩
  · obtain ⟨k1, k2, k3, k4, k5, k6⟩ := bd_facts hok
    obtain ⟨t1, t2⟩ := read_text hok
    have HTV : Hid (transV n p c = .tuple #[boardV n (turnS n.toNat p) (turnS n.toNat c), .int .i64 0]) := hid (by unfold transV; rw [hok]; rfl)
    have HLV : Hid (∀ k : Int, 0 ≤ k → k < n → ∃ s, lineV n p c k true = .tuple #[.string s, .int .i64 0] ∧ lineV n (turnS n.toNat p) (turnS n.toNat c) k false = .tuple #[.string s, .int .i64 0]) := hid (fun k h0 h1 => by
      have hin : inB k 0 (n - 1) = true := by simp only [inB, decide_eq_true_eq]; omega
      unfold lineV
      rw [hok, k1, hin]
      exact ⟨_, rfl, rfl⟩)
    have hz : (turnS n.toNat p).size ≤ 1048576 ∧ (turnS n.toNat c).size ≤ 1048576 := by
      have hm : n.toNat * n.toNat ≤ 15 * 15 := Nat.mul_le_mul (by have := (okB_true hok).2.1; omega) (by have := (okB_true hok).2.1; omega)
      rw [turnS_size, turnS_size]
      omega
    have hn5 := (okB_true hok).1
    have hn15 := (okB_true hok).2.1
    rw [hT] at t1 t2
    have hte : T.toList.isEmpty = false := by
      cases hq : T.toList.isEmpty
      · rfl
      · exfalso
        refine t2 (ByteArray.ext (Array.toList_inj.1 ?_))
        rw [List.isEmpty_iff, ByteArray.toList_eq] at hq
        exact hq
    have HTV2 : Hid (transV n (turnS n.toNat p) (turnS n.toNat c) = .tuple #[boardV n p c, .int .i64 0]) := hid (by unfold transV; rw [k1, k2, k3]; rfl)
    obtain ⟨tx, ty, hTi⟩ : ∃ x y, tilesV n p c = .tuple #[.string x, .int .i64 y] := by unfold tilesV; (repeat' split) <;> exact ⟨_, _, rfl⟩
    have HMx : Hid (∀ w', Ext w w' → MaxAt w') := hid (fun w' k => (HN.out w' k).1)
    have HJ1 := hid (fun w' (h : MaxAt w') => IsJoined_any n p c w' (by have := HP2.out; omega) (by have := HP2.out; omega) h)
    have HJ2 := hid (fun w' (h : MaxAt w') => IsJoined_any n (turnS n.toNat p) (turnS n.toNat c) w' hz.1 hz.2 h)
    have HB1 := hid (fun w' (h : MaxAt w') => IsBlank_any n p c w' (by have := HP2.out; omega) (by have := HP2.out; omega) h)
    have HB2 := hid (fun w' (h : MaxAt w') => IsBlank_any n (turnS n.toNat p) (turnS n.toNat c) w' hz.1 hz.2 h)
    have HT1 := hid (fun w' (h : MaxAt w') => TilesOn_any n p c w' (by have := HP2.out; omega) (by have := HP2.out; omega) h)
    have HT2 := hid (fun w' (h : MaxAt w') => TilesOn_any n (turnS n.toNat p) (turnS n.toNat c) w' hz.1 hz.2 h)
    have HL1 := hid (fun k w' => LineOf_any n p c k true w' (by have := HP2.out; omega) (by have := HP2.out; omega))
    have HL2 := hid (fun k w' => LineOf_any n (turnS n.toNat p) (turnS n.toNat c) k false w' hz.1 hz.2)
    have HXX := hid (fun w' => TransposeBoard_any n (turnS n.toNat p) (turnS n.toNat c) w' hz.1 hz.2)
    rw [HTV.out] at HXT HXS
    rw [HTV2.out] at HXX
    rw [t1] at HRb
    rw [hok] at HVd HB1
    rw [k1] at HB2
    rw [k4] at HJ2
    rw [k5] at HB2
    rw [k6] at HT2
    rw [hTi] at HT1 HT2
    obtain ⟨J, hJ⟩ : ∃ J, joinB n p c = J := ⟨_, rfl⟩
    obtain ⟨B, hB⟩ : ∃ B, (true && blankS c) = B := ⟨_, rfl⟩
    obtain ⟨p2, hp2⟩ : ∃ z, turnS n.toNat p = z := ⟨_, rfl⟩
    obtain ⟨c2, hc2⟩ : ∃ z, turnS n.toNat c = z := ⟨_, rfl⟩
    rw [hJ] at HJ1 HJ2
    rw [hB] at HB1 HB2
    rw [hp2, hc2] at HXT HXS HXX HJ2 HB2 HT2 HL2 HLV
    clear hok HTV HTV2 HTT hT t1 t2 k1 k2 k3 k4 k5 k6 hz hTi hJ hB hp2 hc2
    go_wp2_with fail
    refine (HXT.out _).mono ?_
    rintro e z9 ⟨rfl, hx⟩
    replace b0 := hx.cell b0
    replace b1 := hx.cell b1
    replace b2 := hx.cell b2
    replace hE := hE.trans hx
    clear hx
    have hl_b0 := World.block_lt_of_cell? _ _ b0
    have hx := (Ext.refl z9).alloc (.cells #[.int .i64 n, .string p2, .string c2] 25)
    replace b0 := hx.cell b0
    replace b1 := hx.cell b1
    replace b2 := hx.cell b2
    replace hE := hE.trans hx
    clear hx
    have x0 : (z9.alloc (.cells #[.int .i64 n, .string p2, .string c2] 25)).cell? ⟨z9.heap.size, 0, none⟩ = some (.int .i64 n) := by simp
    have x1 : (z9.alloc (.cells #[.int .i64 n, .string p2, .string c2] 25)).cell? ⟨z9.heap.size, 1, none⟩ = some (.string p2) := by simp
    have x2 : (z9.alloc (.cells #[.int .i64 n, .string p2, .string c2] 25)).cell? ⟨z9.heap.size, 2, none⟩ = some (.string c2) := by simp
    clear hl_b0
    go_wp2_with fail
    refine (HXS.out _).mono ?_
    rintro e z10 ⟨rfl, hx⟩
    replace b0 := hx.cell b0
    replace b1 := hx.cell b1
    replace b2 := hx.cell b2
    replace x0 := hx.cell x0
    replace x1 := hx.cell x1
    replace x2 := hx.cell x2
    replace hE := hE.trans hx
    clear hx
    have hl_b0 := World.block_lt_of_cell? _ _ b0
    have hl_x0 := World.block_lt_of_cell? _ _ x0
    have hx := (Ext.refl z10).alloc (.cells #[.int .i64 n, .string p2, .string c2] 25)
    replace b0 := hx.cell b0
    replace b1 := hx.cell b1
    replace b2 := hx.cell b2
    replace x0 := hx.cell x0
    replace x1 := hx.cell x1
    replace x2 := hx.cell x2
    replace hE := hE.trans hx
    clear hx
    have y0 : (z10.alloc (.cells #[.int .i64 n, .string p2, .string c2] 25)).cell? ⟨z10.heap.size, 0, none⟩ = some (.int .i64 n) := by simp
    have y1 : (z10.alloc (.cells #[.int .i64 n, .string p2, .string c2] 25)).cell? ⟨z10.heap.size, 1, none⟩ = some (.string p2) := by simp
    have y2 : (z10.alloc (.cells #[.int .i64 n, .string p2, .string c2] 25)).cell? ⟨z10.heap.size, 2, none⟩ = some (.string c2) := by simp
    clear hl_b0
    clear hl_x0
    go_wp2_with fail
    refine (HTx.out _).mono ?_
    rintro e z11 ⟨rfl, hx⟩
    replace b0 := hx.cell b0
    replace b1 := hx.cell b1
    replace b2 := hx.cell b2
    replace x0 := hx.cell x0
    replace x1 := hx.cell x1
    replace x2 := hx.cell x2
    replace y0 := hx.cell y0
    replace y1 := hx.cell y1
    replace y2 := hx.cell y2
    replace hE := hE.trans hx
    clear hx
    go_wp2_with fail
    refine (HRb.out _ (HN.out _ hE)).mono ?_
    rintro e z12 ⟨rfl, hx⟩
    replace b0 := hx.cell b0
    replace b1 := hx.cell b1
    replace b2 := hx.cell b2
    replace x0 := hx.cell x0
    replace x1 := hx.cell x1
    replace x2 := hx.cell x2
    replace y0 := hx.cell y0
    replace y1 := hx.cell y1
    replace y2 := hx.cell y2
    replace hE := hE.trans hx
    clear hx
    have hl_b0 := World.block_lt_of_cell? _ _ b0
    have hl_x0 := World.block_lt_of_cell? _ _ x0
    have hl_y0 := World.block_lt_of_cell? _ _ y0
    have hx := (Ext.refl z12).alloc (.cells #[.int .i64 n, .string p, .string c] 25)
    replace b0 := hx.cell b0
    replace b1 := hx.cell b1
    replace b2 := hx.cell b2
    replace x0 := hx.cell x0
    replace x1 := hx.cell x1
    replace x2 := hx.cell x2
    replace y0 := hx.cell y0
    replace y1 := hx.cell y1
    replace y2 := hx.cell y2
    replace hE := hE.trans hx
    clear hx
    have r0 : (z12.alloc (.cells #[.int .i64 n, .string p, .string c] 25)).cell? ⟨z12.heap.size, 0, none⟩ = some (.int .i64 n) := by simp
    have r1 : (z12.alloc (.cells #[.int .i64 n, .string p, .string c] 25)).cell? ⟨z12.heap.size, 1, none⟩ = some (.string p) := by simp
    have r2 : (z12.alloc (.cells #[.int .i64 n, .string p, .string c] 25)).cell? ⟨z12.heap.size, 2, none⟩ = some (.string c) := by simp
    clear hl_b0
    clear hl_x0
    clear hl_y0
    go_wp2_with fail
    refine (HD2.out _ hE).mono ?_
    rintro e zd ⟨u, hu, rfl, hx⟩
    replace b0 := hx.cell b0
    replace b1 := hx.cell b1
    replace b2 := hx.cell b2
    replace x0 := hx.cell x0
    replace x1 := hx.cell x1
    replace x2 := hx.cell x2
    replace y0 := hx.cell y0
    replace y1 := hx.cell y1
    replace y2 := hx.cell y2
    replace r0 := hx.cell r0
    replace r1 := hx.cell r1
    replace r2 := hx.cell r2
    replace hE := hE.trans hx
    clear hx
    obtain ⟨n3, p3, c3, b3, hv3⟩ := readV_form u
    have HI3 := hid (HRI.out u hu)
    have HS3 := hid (HRS.out u hu)
    rw [hv3] at HI3 HS3
    clear hv3 hu HRI HRS
    go_wp2_with fail
    refine (HI3.out _ (HN.out _ hE)).mono ?_
    rintro e z13 ⟨rfl, hx⟩
    replace b0 := hx.cell b0
    replace b1 := hx.cell b1
    replace b2 := hx.cell b2
    replace x0 := hx.cell x0
    replace x1 := hx.cell x1
    replace x2 := hx.cell x2
    replace y0 := hx.cell y0
    replace y1 := hx.cell y1
    replace y2 := hx.cell y2
    replace r0 := hx.cell r0
    replace r1 := hx.cell r1
    replace r2 := hx.cell r2
    replace hE := hE.trans hx
    clear hx
    have hl_b0 := World.block_lt_of_cell? _ _ b0
    have hl_x0 := World.block_lt_of_cell? _ _ x0
    have hl_y0 := World.block_lt_of_cell? _ _ y0
    have hl_r0 := World.block_lt_of_cell? _ _ r0
    have hx := (Ext.refl z13).alloc (.cells #[.int .i64 n3, .string p3, .string c3] 25)
    replace b0 := hx.cell b0
    replace b1 := hx.cell b1
    replace b2 := hx.cell b2
    replace x0 := hx.cell x0
    replace x1 := hx.cell x1
    replace x2 := hx.cell x2
    replace y0 := hx.cell y0
    replace y1 := hx.cell y1
    replace y2 := hx.cell y2
    replace r0 := hx.cell r0
    replace r1 := hx.cell r1
    replace r2 := hx.cell r2
    replace hE := hE.trans hx
    clear hx
    have f0 : (z13.alloc (.cells #[.int .i64 n3, .string p3, .string c3] 25)).cell? ⟨z13.heap.size, 0, none⟩ = some (.int .i64 n3) := by simp
    have f1 : (z13.alloc (.cells #[.int .i64 n3, .string p3, .string c3] 25)).cell? ⟨z13.heap.size, 1, none⟩ = some (.string p3) := by simp
    have f2 : (z13.alloc (.cells #[.int .i64 n3, .string p3, .string c3] 25)).cell? ⟨z13.heap.size, 2, none⟩ = some (.string c3) := by simp
    clear hl_b0
    clear hl_x0
    clear hl_y0
    clear hl_r0
    go_wp2_with fail
    refine (HS3.out _).mono ?_
    rintro e z14 ⟨rfl, hx⟩
    replace b0 := hx.cell b0
    replace b1 := hx.cell b1
    replace b2 := hx.cell b2
    replace x0 := hx.cell x0
    replace x1 := hx.cell x1
    replace x2 := hx.cell x2
    replace y0 := hx.cell y0
    replace y1 := hx.cell y1
    replace y2 := hx.cell y2
    replace r0 := hx.cell r0
    replace r1 := hx.cell r1
    replace r2 := hx.cell r2
    replace f0 := hx.cell f0
    replace f1 := hx.cell f1
    replace f2 := hx.cell f2
    replace hE := hE.trans hx
    clear hx
    have hl_b0 := World.block_lt_of_cell? _ _ b0
    have hl_x0 := World.block_lt_of_cell? _ _ x0
    have hl_y0 := World.block_lt_of_cell? _ _ y0
    have hl_r0 := World.block_lt_of_cell? _ _ r0
    have hl_f0 := World.block_lt_of_cell? _ _ f0
    have hx := (Ext.refl z14).alloc (.cells #[.int .i64 n3, .string p3, .string c3] 25)
    replace b0 := hx.cell b0
    replace b1 := hx.cell b1
    replace b2 := hx.cell b2
    replace x0 := hx.cell x0
    replace x1 := hx.cell x1
    replace x2 := hx.cell x2
    replace y0 := hx.cell y0
    replace y1 := hx.cell y1
    replace y2 := hx.cell y2
    replace r0 := hx.cell r0
    replace r1 := hx.cell r1
    replace r2 := hx.cell r2
    replace f0 := hx.cell f0
    replace f1 := hx.cell f1
    replace f2 := hx.cell f2
    replace hE := hE.trans hx
    clear hx
    have g0 : (z14.alloc (.cells #[.int .i64 n3, .string p3, .string c3] 25)).cell? ⟨z14.heap.size, 0, none⟩ = some (.int .i64 n3) := by simp
    have g1 : (z14.alloc (.cells #[.int .i64 n3, .string p3, .string c3] 25)).cell? ⟨z14.heap.size, 1, none⟩ = some (.string p3) := by simp
    have g2 : (z14.alloc (.cells #[.int .i64 n3, .string p3, .string c3] 25)).cell? ⟨z14.heap.size, 2, none⟩ = some (.string c3) := by simp
    clear hl_b0
    clear hl_x0
    clear hl_y0
    clear hl_r0
    clear hl_f0
    clear HI3 HS3 HXS HRb HTx HD2
    go_wp2_with fail
    refine (HTs.out _).mono ?_
    rintro e z15 ⟨rfl, hx⟩
    replace b0 := hx.cell b0
    replace b1 := hx.cell b1
    replace b2 := hx.cell b2
    replace x0 := hx.cell x0
    replace x1 := hx.cell x1
    replace x2 := hx.cell x2
    replace y0 := hx.cell y0
    replace y1 := hx.cell y1
    replace y2 := hx.cell y2
    replace r0 := hx.cell r0
    replace r1 := hx.cell r1
    replace r2 := hx.cell r2
    replace f0 := hx.cell f0
    replace f1 := hx.cell f1
    replace f2 := hx.cell f2
    replace g0 := hx.cell g0
    replace g1 := hx.cell g1
    replace g2 := hx.cell g2
    replace hE := hE.trans hx
    clear hx
    go_wp2_with fail
    refine (HVd.out _).mono ?_
    rintro e z16 ⟨rfl, hx⟩
    replace b0 := hx.cell b0
    replace b1 := hx.cell b1
    replace b2 := hx.cell b2
    replace x0 := hx.cell x0
    replace x1 := hx.cell x1
    replace x2 := hx.cell x2
    replace y0 := hx.cell y0
    replace y1 := hx.cell y1
    replace y2 := hx.cell y2
    replace r0 := hx.cell r0
    replace r1 := hx.cell r1
    replace r2 := hx.cell r2
    replace f0 := hx.cell f0
    replace f1 := hx.cell f1
    replace f2 := hx.cell f2
    replace g0 := hx.cell g0
    replace g1 := hx.cell g1
    replace g2 := hx.cell g2
    replace hE := hE.trans hx
    clear hx
    clear g0 g1 g2 f0 f1 f2 r0 r1 r2 y0 y1 y2 HTs HVd
    go_wp2_with fail
    refine (HXX.out _).mono ?_
    rintro e z17 ⟨rfl, hx⟩
    replace b0 := hx.cell b0
    replace b1 := hx.cell b1
    replace b2 := hx.cell b2
    replace x0 := hx.cell x0
    replace x1 := hx.cell x1
    replace x2 := hx.cell x2
    replace hE := hE.trans hx
    clear hx
    have hl_b0 := World.block_lt_of_cell? _ _ b0
    have hl_x0 := World.block_lt_of_cell? _ _ x0
    have hx := (Ext.refl z17).alloc (.cells #[.int .i64 n, .string p, .string c] 25)
    replace b0 := hx.cell b0
    replace b1 := hx.cell b1
    replace b2 := hx.cell b2
    replace x0 := hx.cell x0
    replace x1 := hx.cell x1
    replace x2 := hx.cell x2
    replace hE := hE.trans hx
    clear hx
    have k0 : (z17.alloc (.cells #[.int .i64 n, .string p, .string c] 25)).cell? ⟨z17.heap.size, 0, none⟩ = some (.int .i64 n) := by simp
    have k1 : (z17.alloc (.cells #[.int .i64 n, .string p, .string c] 25)).cell? ⟨z17.heap.size, 1, none⟩ = some (.string p) := by simp
    have k2 : (z17.alloc (.cells #[.int .i64 n, .string p, .string c] 25)).cell? ⟨z17.heap.size, 2, none⟩ = some (.string c) := by simp
    clear hl_b0
    clear hl_x0
    obtain ⟨G0, hG0⟩ : ∃ G, z0.heap.size = G := ⟨_, rfl⟩
    obtain ⟨G1, hG1⟩ : ∃ G, z9.heap.size = G := ⟨_, rfl⟩
    obtain ⟨G2, hG2⟩ : ∃ G, z17.heap.size = G := ⟨_, rfl⟩
    obtain ⟨zz, hzz⟩ : ∃ zz, z17.alloc (.cells #[.int .i64 n, .string p, .string c] 25) = zz := ⟨_, rfl⟩
    rw [hzz] at hE b0 b1 b2 x0 x1 x2 k0 k1 k2
    rw [hG0] at b0 b1 b2
    rw [hG1] at x0 x1 x2
    rw [hG2] at k0 k1 k2
    go_wp2_with first | (rw [hzz]; clear hzz)
    try simp only [hG0, hG1, hG2]
    clear hG0 hG1 hG2
    refine wp_region_flow_at (C := Ext) 21 [fun v _ => v = .int .i64 0, fun v _ => v = .bool false, fun v _ => v = .bool false, fun v _ => v = .agg #[.int .i64 n, .string p, .string c], fun v _ => v = .agg #[.int .i64 n, .string p, .string c], fun v _ => v = .bool false, fun v _ => v = .bool false, fun v _ => v = .bool false, fun v _ => v = .agg #[.int .i64 n, .string p, .string c], fun v _ => v = .bool J, fun v _ => v = .agg #[.int .i64 n, .string p2, .string c2], fun v _ => v = .bool J, fun v _ => v = .bool false, fun v _ => v = .bool false, fun v _ => v = .bool false, fun v _ => v = .agg #[.int .i64 n, .string p, .string c], fun v _ => v = .bool B, fun v _ => v = .agg #[.int .i64 n, .string p2, .string c2], fun v _ => v = .bool B, fun v _ => v = .bool false, fun v _ => v = .bool false]
      [[(17, none)], [(112, some 0)], [(113, some 1)], [(16, none)], [(3, none)], [(115, some 3), (116, some 4)], [(114, some 2), (117, some 5)], [(118, some 6)], [(3, none)], [(120, some 8)], [(4, none)], [(122, some 10)], [(121, some 9), (123, some 11)], [(119, some 7), (124, some 12)], [(125, some 13)], [(3, none)], [(127, some 15)], [(4, none)], [(129, some 17)], [(128, some 16), (130, some 18)], [(126, some 14), (131, some 19)]] (by kernel_rfl) (by kernel_rfl) Ext.refl (fun _ _ _ => Ext.trans) ?_ ?_ ?_
    · intro F hF
      simp only [List.mem_cons, List.not_mem_nil, or_false] at hF
      rcases hF with rfl | rfl | rfl | rfl | rfl | rfl | rfl | rfl | rfl | rfl | rfl | rfl | rfl | rfl | rfl | rfl | rfl | rfl | rfl | rfl | rfl <;> exact fun _ _ _ h _ => h
    · refine ⟨?_, ?_, ?_, ?_, ?_, ?_, ?_, ?_, ?_, ?_, ?_, ?_, ?_, ?_, ?_, ?_, ?_, ?_, ?_, ?_, ?_, trivial⟩
      · rintro ρ w1 hw hcst hfn hk
        clear hw
        simp only [known, List.getD_cons_zero, List.getD_cons_succ, Nat.reduceAdd] at hk
        simp only [List.getD_cons_zero, List.getD_cons_succ, Nat.reduceAdd, flowAt]
        go_simp
        exact ⟨Ext.refl _, by first | rfl | trivial⟩
      · rintro ρ w1 hw hcst hfn hk
        clear hw
        simp only [known, List.getD_cons_zero, List.getD_cons_succ, Nat.reduceAdd] at hk
        simp only [List.getD_cons_zero, List.getD_cons_succ, Nat.reduceAdd, flowAt]
        go_simp
        exact ⟨Ext.refl _, by first | rfl | trivial⟩
      · rintro ρ w1 hw hcst hfn hk
        clear hw
        simp only [known, List.getD_cons_zero, List.getD_cons_succ, Nat.reduceAdd] at hk
        simp only [List.getD_cons_zero, List.getD_cons_succ, Nat.reduceAdd, flowAt]
        go_simp
        exact ⟨Ext.refl _, by first | rfl | trivial⟩
      · rintro ρ w1 hw hcst hfn hk
        have c0 := hw.cell (b := G2) (o := 0) (v := .int .i64 n) (by first | (simp [*]; done) | (simp [*, go_sem]; done) | go_cell)
        have c1 := hw.cell (b := G2) (o := 1) (v := .string p) (by first | (simp [*]; done) | (simp [*, go_sem]; done) | go_cell)
        have c2 := hw.cell (b := G2) (o := 2) (v := .string c) (by first | (simp [*]; done) | (simp [*, go_sem]; done) | go_cell)
        clear hw
        simp only [known, List.getD_cons_zero, List.getD_cons_succ, Nat.reduceAdd] at hk
        simp only [List.getD_cons_zero, List.getD_cons_succ, Nat.reduceAdd, flowAt]
        rintro vg rfl
        refine ⟨fun hg => ?_, fun hg => ?_⟩ <;> simp at hg
        go_simp
        exact ⟨Ext.refl _, by first | rfl | trivial⟩
      · rintro ρ w1 hw hcst hfn hk
        have c0 := hw.cell (b := G0) (o := 0) (v := .int .i64 n) (by first | (simp [*]; done) | (simp [*, go_sem]; done) | go_cell)
        have c1 := hw.cell (b := G0) (o := 1) (v := .string p) (by first | (simp [*]; done) | (simp [*, go_sem]; done) | go_cell)
        have c2 := hw.cell (b := G0) (o := 2) (v := .string c) (by first | (simp [*]; done) | (simp [*, go_sem]; done) | go_cell)
        clear hw
        simp only [known, List.getD_cons_zero, List.getD_cons_succ, Nat.reduceAdd] at hk
        simp only [List.getD_cons_zero, List.getD_cons_succ, Nat.reduceAdd, flowAt]
        rintro vg rfl
        refine ⟨fun hg => ?_, fun hg => ?_⟩ <;> simp at hg
        go_simp
        exact ⟨Ext.refl _, by first | rfl | trivial⟩
      · rintro ρ w1 hw hcst hfn hk
        clear hw
        simp only [known, List.getD_cons_zero, List.getD_cons_succ, Nat.reduceAdd] at hk
        simp only [List.getD_cons_zero, List.getD_cons_succ, Nat.reduceAdd, flowAt]
        rintro vg rfl
        refine ⟨fun hg => ?_, fun hg => ?_⟩ <;> simp at hg
        go_simp
        exact ⟨Ext.refl _, by first | rfl | trivial⟩
      · rintro ρ w1 hw hcst hfn hk
        clear hw
        simp only [known, List.getD_cons_zero, List.getD_cons_succ, Nat.reduceAdd] at hk
        simp only [List.getD_cons_zero, List.getD_cons_succ, Nat.reduceAdd, flowAt]
        go_simp
        exact ⟨Ext.refl _, by first | rfl | trivial⟩
      · rintro ρ w1 hw hcst hfn hk
        clear hw
        simp only [known, List.getD_cons_zero, List.getD_cons_succ, Nat.reduceAdd] at hk
        simp only [List.getD_cons_zero, List.getD_cons_succ, Nat.reduceAdd, flowAt]
        go_simp
        exact ⟨Ext.refl _, by first | rfl | trivial⟩
      · rintro ρ w1 hw hcst hfn hk
        have c0 := hw.cell (b := G0) (o := 0) (v := .int .i64 n) (by first | (simp [*]; done) | (simp [*, go_sem]; done) | go_cell)
        have c1 := hw.cell (b := G0) (o := 1) (v := .string p) (by first | (simp [*]; done) | (simp [*, go_sem]; done) | go_cell)
        have c2 := hw.cell (b := G0) (o := 2) (v := .string c) (by first | (simp [*]; done) | (simp [*, go_sem]; done) | go_cell)
        clear hw
        simp only [known, List.getD_cons_zero, List.getD_cons_succ, Nat.reduceAdd] at hk
        simp only [List.getD_cons_zero, List.getD_cons_succ, Nat.reduceAdd, flowAt]
        rintro vg rfl
        refine ⟨fun hg => ?_, fun hg => ?_⟩ <;> simp at hg
        go_simp
        exact ⟨Ext.refl _, by first | rfl | trivial⟩
      · rintro ρ w1 hw hcst hfn hk
        simp only [known, List.getD_cons_zero, List.getD_cons_succ, Nat.reduceAdd] at hk
        simp only [List.getD_cons_zero, List.getD_cons_succ, Nat.reduceAdd, flowAt]
        rintro vg rfl
        refine ⟨fun hg => ?_, fun hg => ?_⟩ <;> simp at hg
        go_simp
        exact flow_ret (HJ1.out _ (HMx.out _ (hE.trans ((Ext.refl _).drew.trans hw))))
      · rintro ρ w1 hw hcst hfn hk
        have c0 := hw.cell (b := G1) (o := 0) (v := .int .i64 n) (by first | (simp [*]; done) | (simp [*, go_sem]; done) | go_cell)
        have c1 := hw.cell (b := G1) (o := 1) (v := .string p2) (by first | (simp [*]; done) | (simp [*, go_sem]; done) | go_cell)
        have c2 := hw.cell (b := G1) (o := 2) (v := .string c2) (by first | (simp [*]; done) | (simp [*, go_sem]; done) | go_cell)
        clear hw
        simp only [known, List.getD_cons_zero, List.getD_cons_succ, Nat.reduceAdd] at hk
        simp only [List.getD_cons_zero, List.getD_cons_succ, Nat.reduceAdd, flowAt]
        rintro vg rfl
        refine ⟨fun hg => ?_, fun hg => ?_⟩ <;> simp at hg
        go_simp
        exact ⟨Ext.refl _, by first | rfl | trivial⟩
      · rintro ρ w1 hw hcst hfn hk
        simp only [known, List.getD_cons_zero, List.getD_cons_succ, Nat.reduceAdd] at hk
        simp only [List.getD_cons_zero, List.getD_cons_succ, Nat.reduceAdd, flowAt]
        rintro vg rfl
        refine ⟨fun hg => ?_, fun hg => ?_⟩ <;> simp at hg
        go_simp
        exact flow_ret (HJ2.out _ (HMx.out _ (hE.trans ((Ext.refl _).drew.trans hw))))
      · rintro ρ w1 hw hcst hfn hk
        clear hw
        simp only [known, List.getD_cons_zero, List.getD_cons_succ, Nat.reduceAdd] at hk
        simp only [List.getD_cons_zero, List.getD_cons_succ, Nat.reduceAdd, flowAt]
        rintro vg rfl
        refine ⟨fun hg => ?_, fun hg => ?_⟩ <;> simp at hg
        go_simp
        exact ⟨Ext.refl _, by first | rfl | trivial⟩
      · rintro ρ w1 hw hcst hfn hk
        clear hw
        simp only [known, List.getD_cons_zero, List.getD_cons_succ, Nat.reduceAdd] at hk
        simp only [List.getD_cons_zero, List.getD_cons_succ, Nat.reduceAdd, flowAt]
        go_simp
        exact ⟨Ext.refl _, by first | rfl | trivial⟩
      · rintro ρ w1 hw hcst hfn hk
        clear hw
        simp only [known, List.getD_cons_zero, List.getD_cons_succ, Nat.reduceAdd] at hk
        simp only [List.getD_cons_zero, List.getD_cons_succ, Nat.reduceAdd, flowAt]
        go_simp
        exact ⟨Ext.refl _, by first | rfl | trivial⟩
      · rintro ρ w1 hw hcst hfn hk
        have c0 := hw.cell (b := G0) (o := 0) (v := .int .i64 n) (by first | (simp [*]; done) | (simp [*, go_sem]; done) | go_cell)
        have c1 := hw.cell (b := G0) (o := 1) (v := .string p) (by first | (simp [*]; done) | (simp [*, go_sem]; done) | go_cell)
        have c2 := hw.cell (b := G0) (o := 2) (v := .string c) (by first | (simp [*]; done) | (simp [*, go_sem]; done) | go_cell)
        clear hw
        simp only [known, List.getD_cons_zero, List.getD_cons_succ, Nat.reduceAdd] at hk
        simp only [List.getD_cons_zero, List.getD_cons_succ, Nat.reduceAdd, flowAt]
        rintro vg rfl
        refine ⟨fun hg => ?_, fun hg => ?_⟩ <;> simp at hg
        go_simp
        exact ⟨Ext.refl _, by first | rfl | trivial⟩
      · rintro ρ w1 hw hcst hfn hk
        simp only [known, List.getD_cons_zero, List.getD_cons_succ, Nat.reduceAdd] at hk
        simp only [List.getD_cons_zero, List.getD_cons_succ, Nat.reduceAdd, flowAt]
        rintro vg rfl
        refine ⟨fun hg => ?_, fun hg => ?_⟩ <;> simp at hg
        go_simp
        exact flow_ret (HB1.out _ (HMx.out _ (hE.trans ((Ext.refl _).drew.trans hw))))
      · rintro ρ w1 hw hcst hfn hk
        have c0 := hw.cell (b := G1) (o := 0) (v := .int .i64 n) (by first | (simp [*]; done) | (simp [*, go_sem]; done) | go_cell)
        have c1 := hw.cell (b := G1) (o := 1) (v := .string p2) (by first | (simp [*]; done) | (simp [*, go_sem]; done) | go_cell)
        have c2 := hw.cell (b := G1) (o := 2) (v := .string c2) (by first | (simp [*]; done) | (simp [*, go_sem]; done) | go_cell)
        clear hw
        simp only [known, List.getD_cons_zero, List.getD_cons_succ, Nat.reduceAdd] at hk
        simp only [List.getD_cons_zero, List.getD_cons_succ, Nat.reduceAdd, flowAt]
        rintro vg rfl
        refine ⟨fun hg => ?_, fun hg => ?_⟩ <;> simp at hg
        go_simp
        exact ⟨Ext.refl _, by first | rfl | trivial⟩
      · rintro ρ w1 hw hcst hfn hk
        simp only [known, List.getD_cons_zero, List.getD_cons_succ, Nat.reduceAdd] at hk
        simp only [List.getD_cons_zero, List.getD_cons_succ, Nat.reduceAdd, flowAt]
        rintro vg rfl
        refine ⟨fun hg => ?_, fun hg => ?_⟩ <;> simp at hg
        go_simp
        exact flow_ret (HB2.out _ (HMx.out _ (hE.trans ((Ext.refl _).drew.trans hw))))
      · rintro ρ w1 hw hcst hfn hk
        clear hw
        simp only [known, List.getD_cons_zero, List.getD_cons_succ, Nat.reduceAdd] at hk
        simp only [List.getD_cons_zero, List.getD_cons_succ, Nat.reduceAdd, flowAt]
        rintro vg rfl
        refine ⟨fun hg => ?_, fun hg => ?_⟩ <;> simp at hg
        go_simp
        exact ⟨Ext.refl _, by first | rfl | trivial⟩
      · rintro ρ w1 hw hcst hfn hk
        clear hw
        simp only [known, List.getD_cons_zero, List.getD_cons_succ, Nat.reduceAdd] at hk
        simp only [List.getD_cons_zero, List.getD_cons_succ, Nat.reduceAdd, flowAt]
        go_simp
        exact ⟨Ext.refl _, by first | rfl | trivial⟩
    intro vs w1 hw hf
    simp only [flowFacts, Nat.reduceAdd] at hf
    obtain ⟨e0, e1, e2, e3, e4, e5, e6, e7, e8, e9, e10, e11, e12, e13, e14, e15, e16, e17, e18, e19, e20, -⟩ := hf
    simp only [List.take_succ_cons, List.take_zero, List.drop_succ_cons, List.drop_zero, putAll, Act.put, Nat.reduceAdd, List.setIfInBounds_toArray, List.set_cons_zero, List.set_cons_succ, e0, e1, e2, e3, e4, e5, e6, e7, e8, e9, e10, e11, e12, e13, e14, e15, e16, e17, e18, e19, e20]
    clear e0 e1 e2 e3 e4 e5 e6 e7 e8 e9 e10 e11 e12 e13 e14 e15 e16 e17 e18 e19 e20
    have hx := (Ext.refl _).drew.trans hw
    replace b0 := hx.cell b0
    replace b1 := hx.cell b1
    replace b2 := hx.cell b2
    replace x0 := hx.cell x0
    replace x1 := hx.cell x1
    replace x2 := hx.cell x2
    replace hE := hE.trans hx
    clear hx hw k0 k1 k2
    have HK0 := hid (show Ext w w1 ∧ (w1.cell? ⟨G0, 0, none⟩ = some (.int .i64 n) ∧ w1.cell? ⟨G0, 1, none⟩ = some (.string p) ∧ w1.cell? ⟨G0, 2, none⟩ = some (.string c)) ∧ (w1.cell? ⟨G1, 0, none⟩ = some (.int .i64 n) ∧ w1.cell? ⟨G1, 1, none⟩ = some (.string p2) ∧ w1.cell? ⟨G1, 2, none⟩ = some (.string c2)) from ⟨hE, ⟨b0, b1, b2⟩, x0, x1, x2⟩)
    clear hE b0 b1 b2 x0 x1 x2 HJ1 HJ2 HB1 HB2
    go_wp2_with fail
    go_loopw [18] (fun i wr => ∃ k : Nat, (k : Int) ≤ n ∧ i = .int .i64 k ∧ Hid (Ext w wr ∧ (wr.cell? ⟨G0, 0, none⟩ = some (.int .i64 n) ∧ wr.cell? ⟨G0, 1, none⟩ = some (.string p) ∧ wr.cell? ⟨G0, 2, none⟩ = some (.string c)) ∧ (wr.cell? ⟨G1, 0, none⟩ = some (.int .i64 n) ∧ wr.cell? ⟨G1, 1, none⟩ = some (.string p2) ∧ wr.cell? ⟨G1, 2, none⟩ = some (.string c2)))) (fun i _ => n.toNat - (intOf i).toNat)
    case atStart => exact ⟨0, by omega, rfl, HK0⟩
    case round =>
      clear HK0
      obtain ⟨k, hk, rfl, HK⟩ := hrel
      obtain ⟨hE, ⟨b0, b1, b2⟩, x0, x1, x2⟩ := HK.out
      clear HK
      by_cases hlt : (k : Int) < n
      · obtain ⟨s, e1, e2⟩ := HLV.out k (by omega) hlt
        have HA := hid (HL1.out k)
        have HB := hid (HL2.out k)
        rw [e1] at HA
        rw [e2] at HB
        clear e1 e2
        go_wp2_with fail
        refine (HA.out _).mono ?_
        rintro e z18 ⟨rfl, hx⟩
        replace b0 := hx.cell b0
        replace b1 := hx.cell b1
        replace b2 := hx.cell b2
        replace x0 := hx.cell x0
        replace x1 := hx.cell x1
        replace x2 := hx.cell x2
        replace hE := hE.trans hx
        clear hx
        go_wp2_with fail
        refine (HB.out _).mono ?_
        rintro e z19 ⟨rfl, hx⟩
        replace b0 := hx.cell b0
        replace b1 := hx.cell b1
        replace b2 := hx.cell b2
        replace x0 := hx.cell x0
        replace x1 := hx.cell x1
        replace x2 := hx.cell x2
        replace hE := hE.trans hx
        clear hx
        clear HA HB
        go_wp2_with fail
        go_roundw
        case rel => exact ⟨k + 1, by omega, by go_num, hid ⟨hE, ⟨b0, b1, b2⟩, x0, x1, x2⟩⟩
        case measure => simp [intOf]; omega
      · --
        go_wp2_with fail
        refine (HT1.out _ (HMx.out _ hE)).mono ?_
        rintro e z20 ⟨rfl, hx⟩
        replace b0 := hx.cell b0
        replace b1 := hx.cell b1
        replace b2 := hx.cell b2
        replace x0 := hx.cell x0
        replace x1 := hx.cell x1
        replace x2 := hx.cell x2
        replace hE := hE.trans hx
        clear hx
        go_wp2_with fail
        refine (HT2.out _ (HMx.out _ hE)).mono ?_
        rintro e z21 ⟨rfl, hx⟩
        replace b0 := hx.cell b0
        replace b1 := hx.cell b1
        replace b2 := hx.cell b2
        replace x0 := hx.cell x0
        replace x1 := hx.cell x1
        replace x2 := hx.cell x2
        replace hE := hE.trans hx
        clear hx
        go_wp2_with fail
        go_returns
        exact ⟨rfl, hE⟩
set_option maxRecDepth 100000 in
theorem lifted_FnBoards (os : Os) (started : os.Started) (H : Type) (enc : TypeId × Value → H) :
    ReturnsInHanded {} Tryz.checked os 4 .any (fun w args => (Rows.fnBoardsSpec.pre enc Tryz.prog Tryz.f4 [] false w args ∧ laidMetH Tryz.prog Rows.fnBoardsRow.laid w) ∧ sizedMet enc Tryz.prog Tryz.f4 (OpenSpec.ofChange Rows.fnBoardsSpec) false w args)
      (Rows.fnBoardsSpec.post enc Tryz.prog Tryz.f4 false true false false) := by
  refine handed_shaped_and (C := Tryz.checked) (X := fun w _ => laidMetH Tryz.prog Rows.fnBoardsRow.laid w) (fun _ _ _ hh h => h.of_heap hh) ownRow started (by kernel_rfl) Tryz.func4
    (ChangeSpec.witness_shaped (enc := enc) (C := Tryz.checked) (os := os) (X := fun w _ => laidMetH Tryz.prog Rows.fnBoardsRow.laid w) false (World.laidAll Tryz.prog os Rows.fnBoardsRow.laid) #[.slice none 0 0] 8 (World.laidAll_os _ _ _)
      (World.shaped_of_ZipB (by kernel_rfl) (by kernel_rfl)) (by kernel_rfl) (by kernel_rfl) (by kernel_rfl)
      (by rw [MakeChecks.laidMetH_plain _ _ _ (by kernel_rfl)]; exact laidMet_laidAll _ (by kernel_rfl) (by kernel_rfl))) ?_
  intro W base args ds gs before hval0 hW hSh hL
  have hval : ∀ (j : Nat) t v, Tryz.f4.params[j]? = some t → args[j]? = some v → Value.okWide Tryz.prog W .any base t v := hval0
  have hW' := hW
  obtain ⟨p, q, hA0, hV, rfl, hfz, hnd⟩ := hW
  have hA : DataW.TrodAll enc Tryz.prog W 0 (fun _ => true) true Tryz.f4.params.toList args.toList ds p := hA0
  rw [Tryz.params4] at hA hval
  obtain ⟨v0, vs0, d0, ds0, p0, q0, hargs, rfl, rfl, h0, r0⟩ := trodAll_cons hA
  obtain ⟨rfl, rfl, rfl⟩ := trodAll_nil r0
  obtain rfl : args = #[v0] := by cases args; simp_all
  obtain ⟨rfl, rfl⟩ := trodVars_none hV
  have k0 := h0
  have lt0 : ∀ x ∈ p0, x.block < W.heap.size := by obtain ⟨m, hm⟩ := k0; exact DataW.trod_lt m _ _ _ hm
  obtain ⟨a0_a, a0_c, a0_l, rfl, r_a0, n_a0⟩ := open_code Tryz.underlying22 Tryz.underlying5 (by kernel_rfl) (hval 0 22 v0 rfl rfl) h0
  clear hA0 hval0
  rw [MakeChecks.laidMetH_plain _ _ _ (by kernel_rfl)] at hL
  refine (walk_FnBoards a0_a a0_c a0_l W r_a0 n_a0 (num_of hSh hL)).mono fun e W' ⟨he, bel⟩ => ?_
  subst he
  exact ⟨_, rfl, _, _, _, [], _, [], hW', trodAll_mk1 (shut_bool Tryz.underlying4 _), (trodAll_cons_mk (Below.trod laidRow (by kernel_rfl) (of_decide_eq_true (by kernel_rfl)) k0 bel lt0) trodAll_mk0), rfl, bel.frame _, fun h => by cases h⟩

theorem over_FnBoards : Rows.fnBoardsRow.holds Tryz.pinned (OpenSpec.ofChange Rows.fnBoardsSpec) :=
  OpenClaim.holds_of_wide 4 Tryz.f4 rfl rfl rfl rfl rfl rfl rfl ⟨rfl, rfl, rfl, rfl, rfl⟩ rfl rfl rfl rfl rfl (by kernel_rfl) Tryz.func4 (by kernel_rfl)
    (of_decide_eq_true (by kernel_rfl)) (by unfold Func.isWrapper; first | (rw [if_pos (by decide +kernel)]; kernel_rfl) | (rw [if_neg (by decide +kernel)]; exact ⟨rfl, rfl⟩))
    (fun os started H enc _ => lifted_FnBoards os started H enc)

theorem said_FnBoards : Rows.FnBoardsCardSaid :=
  Claim7.holds_tied_plain_at .later [] [.data, .data, .data, .data, .sentinel, .sentinel, .pinned] true (true, "dad3f83df428dde746009a651750a75cb42e412d3a29bdf62991fac97e4a4147") true over_FnBoards (fun _ h => by cases h) (by kernel_rfl) (fun _ h => by cases h) fnBoards_row_tie rfl ⟨rfl, rfl⟩ (by kernel_rfl) rfl
    (fun f fn hf hfn => by
      obtain rfl : f = 4 := Option.some.inj ((show Tryz.prog.funcNamed "loop.example/g00911/laws.FnBoards" = some 4 by kernel_rfl).symm.trans hf) |>.symm
      obtain rfl : fn = Tryz.f4 := (Option.some.inj (Tryz.func4.symm.trans hfn)).symm
      exact ⟨by kernel_rfl, fun j t ht => by
        rw [Tryz.params4] at ht
        have hm : t ∈ [22] := by simpa using Array.mem_of_getElem? ht
        have hall : ([22].all fun u => !Tryz.prog.wantsStandIn u) = true := by kernel_rfl
        exact (show Tryz.prog.wantsStandIn t = false by simpa using List.all_eq_true.1 hall t hm)⟩)
    (by kernel_rfl)
end Go.Proofs.YtmohfdfjlgekaaaGreatDoor
