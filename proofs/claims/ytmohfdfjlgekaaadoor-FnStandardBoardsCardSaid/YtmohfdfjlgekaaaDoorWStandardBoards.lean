/- FnStandardBoards: whatever it is given, it says yes. -/
import Derived.Test.YtmohfdfjlgekaaaDoorStdL
import Derived.Test.YtmohfdfjlgekaaaDoorDice
import Derived.Test.YtmohfdfjlgekaaaDoorF6
import Derived.Test.YtmohfdfjlgekaaaDoorCh11r
import Derived.Test.YtmohfdfjlgekaaaDoorLwE
import Derived.Test.YtmohfdfjlgekaaaDoorRowS
import Derived.Test.YtmohfdfjlgekaaaDoorRow3
namespace Go.Proofs.YtmohfdfjlgekaaaDoor
set_option linter.unusedVariables false
set_option linter.unusedSimpArgs false
open Go Go.RowKit Go.ChangeShapes Go.WideShapes Go.ChangeAt
open Go.ChangeMaps (open_string shut_string)
/-- A drawn size. -/
def RetZ (w : World) (e : Ending) (w' : World) : Prop := ∃ n : Int, e = .returned (.int .i64 n) ∧ 4 ≤ n ∧ n ≤ 16 ∧ Ext w w'
theorem Ext.exc {g : Nat} {w0 w w' : World} (h0 : Ext w0 w) (h : Exc g w w') (hg : w0.heap.size ≤ g) : Ext w0 w' := h0.thenBelow (h.below hg h0.size) (Nat.le_refl _)
theorem l11DrawSize_any (g k : Nat) (w : World) (h : Src w g k) (hk : k ≤ 1099511620000) :
    Calls Tryd.prog 32 #[.pointer (some ⟨g, 0, none⟩)] w (Drew g k 2 (fun v _ => ∃ n : Int, 4 ≤ n ∧ n ≤ 16 ∧ v = .int .i64 n) w) := by
  have HS := hid h
  clear h
  go_enter Tryd.func32, Tryd.ntmps32
  go_wp2_with fail
  refine (pick_any g k 13 _ HS.out (by omega)).mono ?_
  rintro e w1 ⟨v, rfl, ⟨x, hx0, hx1, rfl⟩, hE1, hS1⟩
  have HE := hid hE1
  have HT := hid hS1
  clear hE1 hS1
  go_wp2_with fail
  go_returns
  exact ⟨_, rfl, ⟨4 + x, by omega, by omega, rfl⟩, HE.out, HT.out⟩
theorem DrawStandardBoard_any (a : Option Addr) (c : Nat) (l : List UInt8) (w : World) (hr : Rd w a (bytesV l)) (hl : l.length ≤ 1048576) :
    Calls Tryd.prog 13 #[.slice a l.length c] w (RetZ w) := by
  have HR := hid hr
  clear hr
  go_enter Tryd.func13, Tryd.ntmps13
  go_wp2_with fail
  refine (l00From_any a c l _ HR.out hl).mono ?_
  rintro e w1 ⟨rfl, hx, hS⟩
  have HX := hid hx
  have HS := hid hS
  clear hx hS
  go_wp2_with fail
  refine (l11DrawSize_any w.heap.size 0 _ HS.out (by omega)).mono ?_
  rintro e w2 ⟨v, rfl, ⟨n, hn0, hn1, rfl⟩, hE2, hS2⟩
  have HX2 := hid (show Ext w w2 from HX.out.thenBelow (hE2.below (Nat.le_refl _) HX.out.size) (Nat.le_refl _))
  clear hE2 hS2 HX HS
  go_wp2_with fail
  go_returns
  exact ⟨n, rfl, hn0, hn1, HX2.out⟩
theorem blank_free (k : Nat) : blankS (freeS k) = true := by
  rw [blankS_eq]
  show ((List.replicate k (46 : UInt8)).toArray.toList.filter (· != 46)).isEmpty = true
  simp
theorem std_cases (n : Int) : (∃ S E : ByteArray, 5 ≤ n ∧ n ≤ 15 ∧ standardV n = .tuple #[.agg #[.int .i64 n, .string S, .string E], .int .i64 0] ∧ emptyV n = .tuple #[.agg #[.int .i64 n, .string E, .string E], .int .i64 0] ∧ S = stdS n.toNat ∧ E = freeS (n * n).toNat) ∨
    (standardV n = .tuple #[.agg #[.int .i64 0, .string ⟨#[]⟩, .string ⟨#[]⟩], .int .i64 2] ∧ emptyV n = .tuple #[.agg #[.int .i64 0, .string ⟨#[]⟩, .string ⟨#[]⟩], .int .i64 2]) := by
  unfold standardV emptyV
  by_cases h : inB n 5 15 = true
  · rw [if_pos h, if_pos h]
    have := inB_true h
    exact .inl ⟨_, _, this.1, this.2, rfl, rfl, rfl, rfl⟩
  · rw [if_neg h, if_neg h]
    exact .inr ⟨rfl, rfl⟩
set_option maxRecDepth 100000 in
set_option maxHeartbeats 8000000 in
theorem walk_FnStandardBoards (a : Option Addr) (cc : Nat) (l : List UInt8) (w : World) (hr : Rd w a (bytesV l)) (hl : l.length ≤ maxLen) (hM : MaxAt w) :
    Calls Tryd.prog 4 #[.slice a l.length cc] w (Ret (.bool true) w) := by
  have HR : Hid (∀ w', Ext w w' → Rd w' a (bytesV l)) := hid (fun w' k => hr.ext k)
  have HM : Hid (∀ w', Ext w w' → MaxAt w') := hid (fun w' k => hM.ext k)
  have HF := hid (f6big_any a cc l w hl)
  clear hr hM
  by_cases hbig : 4096 < l.length
  · rw [show decide (4096 < l.length) = true by simpa using hbig] at HF
    clear hbig
    go_enter Tryd.func4, Tryd.ntmps4
    go_wp2_with fail
    refine HF.out.mono ?_
    rintro e w' ⟨rfl, rfl⟩
    go_wp2_with fail
    go_returns
    exact ⟨rfl, Ext.refl _⟩
  rw [show decide (4096 < l.length) = false by simpa using hbig] at HF
  have HD := hid (DrawStandardBoard_any a cc l w (HR.out _ (Ext.refl _)) (by omega))
  have HRo := hid (fun w' (x : Ext w w') => f6roll_any a cc l 1101 w' (HR.out _ x) (by omega))
  clear hbig HR
  go_enter Tryd.func4, Tryd.ntmps4
  go_wp2_with fail
  refine HF.out.mono ?_
  rintro e w' ⟨rfl, rfl⟩
  go_wp2_with fail
  refine HD.out.mono ?_
  rintro e w1 ⟨n, rfl, hn0, hn1, hx⟩
  have hE := hx
  have HS1 := hid (StandardBoard_any n)
  have HS2 := hid (sStandardBoard_any n)
  have HE1 := hid (EmptyBoard_any n)
  have HE2 := hid (sEmptyBoard_any n)
  clear hx HD HF
  rcases std_cases n with ⟨S, E, h5, h15, hv, he, hSS, hEE⟩ | ⟨hv, he⟩
  rotate_left
  · rw [hv] at HS1 HS2
    rw [he] at HE1 HE2
    clear hv he
    go_wp2_with fail
    refine (HS1.out _).mono ?_
    rintro e z1 ⟨rfl, hx⟩
    replace hE := hE.trans hx
    clear hx
    have hx := (Ext.refl z1).alloc (.cells #[.int .i64 0, .string ⟨#[]⟩, .string ⟨#[]⟩] 28)
    replace hE := hE.trans hx
    clear hx
    have p0 : (z1.alloc (.cells #[.int .i64 0, .string ⟨#[]⟩, .string ⟨#[]⟩] 28)).cell? ⟨z1.heap.size, 0, none⟩ = some (.int .i64 0) := by simp
    have p1 : (z1.alloc (.cells #[.int .i64 0, .string ⟨#[]⟩, .string ⟨#[]⟩] 28)).cell? ⟨z1.heap.size, 1, none⟩ = some (.string ⟨#[]⟩) := by simp
    have p2 : (z1.alloc (.cells #[.int .i64 0, .string ⟨#[]⟩, .string ⟨#[]⟩] 28)).cell? ⟨z1.heap.size, 2, none⟩ = some (.string ⟨#[]⟩) := by simp
    go_wp2_with fail
    refine (HS2.out _).mono ?_
    rintro e z2 ⟨rfl, hx⟩
    replace p0 := hx.cell p0
    replace p1 := hx.cell p1
    replace p2 := hx.cell p2
    replace hE := hE.trans hx
    clear hx
    have hl_p0 := World.block_lt_of_cell? _ _ p0
    have hx := (Ext.refl z2).alloc (.cells #[.int .i64 0, .string ⟨#[]⟩, .string ⟨#[]⟩] 28)
    replace p0 := hx.cell p0
    replace p1 := hx.cell p1
    replace p2 := hx.cell p2
    replace hE := hE.trans hx
    clear hx
    have q0 : (z2.alloc (.cells #[.int .i64 0, .string ⟨#[]⟩, .string ⟨#[]⟩] 28)).cell? ⟨z2.heap.size, 0, none⟩ = some (.int .i64 0) := by simp
    have q1 : (z2.alloc (.cells #[.int .i64 0, .string ⟨#[]⟩, .string ⟨#[]⟩] 28)).cell? ⟨z2.heap.size, 1, none⟩ = some (.string ⟨#[]⟩) := by simp
    have q2 : (z2.alloc (.cells #[.int .i64 0, .string ⟨#[]⟩, .string ⟨#[]⟩] 28)).cell? ⟨z2.heap.size, 2, none⟩ = some (.string ⟨#[]⟩) := by simp
    clear hl_p0
    go_wp2_with fail
    refine (HE1.out _).mono ?_
    rintro e z3 ⟨rfl, hx⟩
    replace p0 := hx.cell p0
    replace p1 := hx.cell p1
    replace p2 := hx.cell p2
    replace q0 := hx.cell q0
    replace q1 := hx.cell q1
    replace q2 := hx.cell q2
    replace hE := hE.trans hx
    clear hx
    have hl_p0 := World.block_lt_of_cell? _ _ p0
    have hl_q0 := World.block_lt_of_cell? _ _ q0
    have hx := (Ext.refl z3).alloc (.cells #[.int .i64 0, .string ⟨#[]⟩, .string ⟨#[]⟩] 28)
    replace p0 := hx.cell p0
    replace p1 := hx.cell p1
    replace p2 := hx.cell p2
    replace q0 := hx.cell q0
    replace q1 := hx.cell q1
    replace q2 := hx.cell q2
    replace hE := hE.trans hx
    clear hx
    have r0 : (z3.alloc (.cells #[.int .i64 0, .string ⟨#[]⟩, .string ⟨#[]⟩] 28)).cell? ⟨z3.heap.size, 0, none⟩ = some (.int .i64 0) := by simp
    have r1 : (z3.alloc (.cells #[.int .i64 0, .string ⟨#[]⟩, .string ⟨#[]⟩] 28)).cell? ⟨z3.heap.size, 1, none⟩ = some (.string ⟨#[]⟩) := by simp
    have r2 : (z3.alloc (.cells #[.int .i64 0, .string ⟨#[]⟩, .string ⟨#[]⟩] 28)).cell? ⟨z3.heap.size, 2, none⟩ = some (.string ⟨#[]⟩) := by simp
    clear hl_p0
    clear hl_q0
    go_wp2_with fail
    refine (HE2.out _).mono ?_
    rintro e z4 ⟨rfl, hx⟩
    replace p0 := hx.cell p0
    replace p1 := hx.cell p1
    replace p2 := hx.cell p2
    replace q0 := hx.cell q0
    replace q1 := hx.cell q1
    replace q2 := hx.cell q2
    replace r0 := hx.cell r0
    replace r1 := hx.cell r1
    replace r2 := hx.cell r2
    replace hE := hE.trans hx
    clear hx
    have hl_p0 := World.block_lt_of_cell? _ _ p0
    have hl_q0 := World.block_lt_of_cell? _ _ q0
    have hl_r0 := World.block_lt_of_cell? _ _ r0
    have hx := (Ext.refl z4).alloc (.cells #[.int .i64 0, .string ⟨#[]⟩, .string ⟨#[]⟩] 28)
    replace p0 := hx.cell p0
    replace p1 := hx.cell p1
    replace p2 := hx.cell p2
    replace q0 := hx.cell q0
    replace q1 := hx.cell q1
    replace q2 := hx.cell q2
    replace r0 := hx.cell r0
    replace r1 := hx.cell r1
    replace r2 := hx.cell r2
    replace hE := hE.trans hx
    clear hx
    have s0 : (z4.alloc (.cells #[.int .i64 0, .string ⟨#[]⟩, .string ⟨#[]⟩] 28)).cell? ⟨z4.heap.size, 0, none⟩ = some (.int .i64 0) := by simp
    have s1 : (z4.alloc (.cells #[.int .i64 0, .string ⟨#[]⟩, .string ⟨#[]⟩] 28)).cell? ⟨z4.heap.size, 1, none⟩ = some (.string ⟨#[]⟩) := by simp
    have s2 : (z4.alloc (.cells #[.int .i64 0, .string ⟨#[]⟩, .string ⟨#[]⟩] 28)).cell? ⟨z4.heap.size, 2, none⟩ = some (.string ⟨#[]⟩) := by simp
    clear hl_p0
    clear hl_q0
    clear hl_r0
    go_wp2_with fail
    go_returns
    exact ⟨rfl, hE⟩
  rw [hv] at HS1 HS2
  rw [he] at HE1 HE2
  have HSS := hid hSS
  have HEE := hid hEE
  clear hv he hSS hEE
  go_wp2_with fail
  refine (HS1.out _).mono ?_
  rintro e z5 ⟨rfl, hx⟩
  replace hE := hE.trans hx
  clear hx
  have hx := (Ext.refl z5).alloc (.cells #[.int .i64 n, .string S, .string E] 28)
  replace hE := hE.trans hx
  clear hx
  have p0 : (z5.alloc (.cells #[.int .i64 n, .string S, .string E] 28)).cell? ⟨z5.heap.size, 0, none⟩ = some (.int .i64 n) := by simp
  have p1 : (z5.alloc (.cells #[.int .i64 n, .string S, .string E] 28)).cell? ⟨z5.heap.size, 1, none⟩ = some (.string S) := by simp
  have p2 : (z5.alloc (.cells #[.int .i64 n, .string S, .string E] 28)).cell? ⟨z5.heap.size, 2, none⟩ = some (.string E) := by simp
  go_wp2_with fail
  refine (HS2.out _).mono ?_
  rintro e z6 ⟨rfl, hx⟩
  replace p0 := hx.cell p0
  replace p1 := hx.cell p1
  replace p2 := hx.cell p2
  replace hE := hE.trans hx
  clear hx
  have hl_p0 := World.block_lt_of_cell? _ _ p0
  have hx := (Ext.refl z6).alloc (.cells #[.int .i64 n, .string S, .string E] 28)
  replace p0 := hx.cell p0
  replace p1 := hx.cell p1
  replace p2 := hx.cell p2
  replace hE := hE.trans hx
  clear hx
  have q0 : (z6.alloc (.cells #[.int .i64 n, .string S, .string E] 28)).cell? ⟨z6.heap.size, 0, none⟩ = some (.int .i64 n) := by simp
  have q1 : (z6.alloc (.cells #[.int .i64 n, .string S, .string E] 28)).cell? ⟨z6.heap.size, 1, none⟩ = some (.string S) := by simp
  have q2 : (z6.alloc (.cells #[.int .i64 n, .string S, .string E] 28)).cell? ⟨z6.heap.size, 2, none⟩ = some (.string E) := by simp
  clear hl_p0
  go_wp2_with fail
  refine (HE1.out _).mono ?_
  rintro e z7 ⟨rfl, hx⟩
  replace p0 := hx.cell p0
  replace p1 := hx.cell p1
  replace p2 := hx.cell p2
  replace q0 := hx.cell q0
  replace q1 := hx.cell q1
  replace q2 := hx.cell q2
  replace hE := hE.trans hx
  clear hx
  have hl_p0 := World.block_lt_of_cell? _ _ p0
  have hl_q0 := World.block_lt_of_cell? _ _ q0
  have hx := (Ext.refl z7).alloc (.cells #[.int .i64 n, .string E, .string E] 28)
  replace p0 := hx.cell p0
  replace p1 := hx.cell p1
  replace p2 := hx.cell p2
  replace q0 := hx.cell q0
  replace q1 := hx.cell q1
  replace q2 := hx.cell q2
  replace hE := hE.trans hx
  clear hx
  have r0 : (z7.alloc (.cells #[.int .i64 n, .string E, .string E] 28)).cell? ⟨z7.heap.size, 0, none⟩ = some (.int .i64 n) := by simp
  have r1 : (z7.alloc (.cells #[.int .i64 n, .string E, .string E] 28)).cell? ⟨z7.heap.size, 1, none⟩ = some (.string E) := by simp
  have r2 : (z7.alloc (.cells #[.int .i64 n, .string E, .string E] 28)).cell? ⟨z7.heap.size, 2, none⟩ = some (.string E) := by simp
  clear hl_p0
  clear hl_q0
  go_wp2_with fail
  refine (HE2.out _).mono ?_
  rintro e z8 ⟨rfl, hx⟩
  replace p0 := hx.cell p0
  replace p1 := hx.cell p1
  replace p2 := hx.cell p2
  replace q0 := hx.cell q0
  replace q1 := hx.cell q1
  replace q2 := hx.cell q2
  replace r0 := hx.cell r0
  replace r1 := hx.cell r1
  replace r2 := hx.cell r2
  replace hE := hE.trans hx
  clear hx
  have hl_p0 := World.block_lt_of_cell? _ _ p0
  have hl_q0 := World.block_lt_of_cell? _ _ q0
  have hl_r0 := World.block_lt_of_cell? _ _ r0
  have hx := (Ext.refl z8).alloc (.cells #[.int .i64 n, .string E, .string E] 28)
  replace p0 := hx.cell p0
  replace p1 := hx.cell p1
  replace p2 := hx.cell p2
  replace q0 := hx.cell q0
  replace q1 := hx.cell q1
  replace q2 := hx.cell q2
  replace r0 := hx.cell r0
  replace r1 := hx.cell r1
  replace r2 := hx.cell r2
  replace hE := hE.trans hx
  clear hx
  have s0 : (z8.alloc (.cells #[.int .i64 n, .string E, .string E] 28)).cell? ⟨z8.heap.size, 0, none⟩ = some (.int .i64 n) := by simp
  have s1 : (z8.alloc (.cells #[.int .i64 n, .string E, .string E] 28)).cell? ⟨z8.heap.size, 1, none⟩ = some (.string E) := by simp
  have s2 : (z8.alloc (.cells #[.int .i64 n, .string E, .string E] 28)).cell? ⟨z8.heap.size, 2, none⟩ = some (.string E) := by simp
  clear hl_p0
  clear hl_q0
  clear hl_r0
  clear HS1 HS2 HE1 HE2
  go_wp2_with fail
  clear q0 q1 q2 s0 s1 s2
  have hS225 : S.size ≤ 1048576 ∧ E.size ≤ 1048576 := by
    have h := okB_true (okB_std n h5 h15)
    obtain ⟨_, _, h3, h4⟩ := h
    rw [← HSS.out] at h3
    rw [← HEE.out] at h4
    have : n * n ≤ 15 * 15 := Int.mul_le_mul (by omega) (by omega) (by omega) (by omega)
    omega
  obtain ⟨hSz, hEz⟩ := hS225
  have HPm := hid (fun r c w' => PremiumAt_any n S E r c w' hSz hEz)
  have HCl := hid (fun r c w' => CellAt_any n S E r c w' hSz hEz)
  have HB1 : Hid (∀ w', MaxAt w' → Calls Tryd.prog 22 #[boardV n S E] w' (Ret (.bool true) w')) := hid (fun w' hM => by
    have := IsBlank_any n S E w' hSz hEz hM
    rw [HSS.out, HEE.out, okB_std n h5 h15, blank_free] at this
    rw [HSS.out, HEE.out]
    exact this)
  have HB2 : Hid (∀ w', MaxAt w' → Calls Tryd.prog 22 #[boardV n E E] w' (Ret (.bool true) w')) := hid (fun w' hM => by
    have := IsBlank_any n E E w' hEz hEz hM
    rw [HEE.out, okB_free n h5 h15, blank_free] at this
    rw [HEE.out]
    exact this)
  have HSD : Hid (∀ r c, inRC n r c = true → premAtR n S E c r = premAtR n S E r c ∧ premAtR n S E (n - 1 - r) c = premAtR n S E r c ∧ premAtR n S E r (n - 1 - c) = premAtR n S E r c ∧ cellAtR n S E r c = 46) := hid (fun r c h => by rw [HSS.out, HEE.out]; exact std_sides n r c h5 h15 h)
  have HCo : Hid (premAtR n S E 0 0 = 116) := hid (by rw [HSS.out, HEE.out]; exact std_corner n h5 h15)
  have HP0 := hid (HPm.out 0 0)
  rw [HCo.out] at HP0
  obtain ⟨B1, hB1⟩ : ∃ B, z5.heap.size = B := ⟨_, rfl⟩
  obtain ⟨B3, hB3⟩ : ∃ B, z7.heap.size = B := ⟨_, rfl⟩
  rw [hB1] at p0 p1 p2
  rw [hB3] at r0 r1 r2
  have HB := hid (And.intro hB1 hB3)
  clear hB1 hB3 HSS HEE HCo
  refine (HRo.out _ hE).mono ?_
  rintro e z9 ⟨g, rfl, hg, hx, hS⟩
  have hl1 := World.block_lt_of_cell? _ _ p0
  have hl3 := World.block_lt_of_cell? _ _ r0
  simp only [] at hl1 hl3
  have hg1 : B1 < g := by omega
  have hg3 : B3 < g := by omega
  have hwg : w.heap.size ≤ g := Nat.le_trans hE.size hg
  simp only [HB.out.1, HB.out.2]
  have HK0 := hid (show Ext w z9 ∧ Src z9 g 0 ∧ (z9.cell? ⟨B1, 0, none⟩ = some (.int .i64 n) ∧ z9.cell? ⟨B1, 1, none⟩ = some (.string S) ∧ z9.cell? ⟨B1, 2, none⟩ = some (.string E)) ∧ (z9.cell? ⟨B3, 0, none⟩ = some (.int .i64 n) ∧ z9.cell? ⟨B3, 1, none⟩ = some (.string E) ∧ z9.cell? ⟨B3, 2, none⟩ = some (.string E)) from
    ⟨hE.trans hx, hS, ⟨hx.cell p0, hx.cell p1, hx.cell p2⟩, ⟨hx.cell r0, hx.cell r1, hx.cell r2⟩⟩)
  clear hx hS hE p0 p1 p2 r0 r1 r2 HRo HB hg hl1 hl3
  go_wp2_with fail
  go_loopw [13] (fun i wr => ∃ k : Nat, k ≤ 10 ∧ i = .int .i64 k ∧ Hid (Ext w wr ∧ Src wr g (2 * k) ∧ (wr.cell? ⟨B1, 0, none⟩ = some (.int .i64 n) ∧ wr.cell? ⟨B1, 1, none⟩ = some (.string S) ∧ wr.cell? ⟨B1, 2, none⟩ = some (.string E)) ∧ (wr.cell? ⟨B3, 0, none⟩ = some (.int .i64 n) ∧ wr.cell? ⟨B3, 1, none⟩ = some (.string E) ∧ wr.cell? ⟨B3, 2, none⟩ = some (.string E)))) (fun i _ => 10 - (intOf i).toNat)
  case atStart => exact ⟨0, by omega, rfl, HK0⟩
  case round =>
    clear HK0
    obtain ⟨k, hk, rfl, HK⟩ := hrel
    obtain ⟨hE, hS, ⟨p0, p1, p2⟩, r0, r1, r2⟩ := HK.out
    have HS := hid hS
    clear hS HK
    by_cases hlt : k < 10
    · go_wp2_with fail
      refine (below_any g _ n _ HS.out (by omega) (by omega)).mono ?_
      rintro e y1 ⟨v, rfl, ⟨r, hr0, hr1, rfl⟩, hX, hS⟩
      have HS1 := hid hS
      replace hE := hE.exc hX hwg
      replace p0 := hX.cell p0 (by omega)
      replace p1 := hX.cell p1 (by omega)
      replace p2 := hX.cell p2 (by omega)
      replace r0 := hX.cell r0 (by omega)
      replace r1 := hX.cell r1 (by omega)
      replace r2 := hX.cell r2 (by omega)
      clear hX hS HS
      go_wp2_with fail
      refine (below_any g _ n _ HS1.out (by omega) (by omega)).mono ?_
      rintro e y2 ⟨v, rfl, ⟨c, hc0, hc1, rfl⟩, hX, hS⟩
      have HS := hid hS
      replace hE := hE.exc hX hwg
      replace p0 := hX.cell p0 (by omega)
      replace p1 := hX.cell p1 (by omega)
      replace p2 := hX.cell p2 (by omega)
      replace r0 := hX.cell r0 (by omega)
      replace r1 := hX.cell r1 (by omega)
      replace r2 := hX.cell r2 (by omega)
      clear hX hS HS1
      have hin : inRC n r c = true := by simp [inRC, inB]; omega
      obtain ⟨s1, s2, s3, s4⟩ := HSD.out r c hin
      have HA := hid (HPm.out r c)
      have HBb := hid (HPm.out c r)
      have HCc := hid (HPm.out (n - 1 - r) c)
      have HDd := hid (HPm.out r (n - 1 - c))
      have HEe := hid (HCl.out r c)
      rw [s1] at HBb
      rw [s2] at HCc
      rw [s3] at HDd
      rw [s4] at HEe
      obtain ⟨P, hP⟩ : ∃ P, premAtR n S E r c = P := ⟨_, rfl⟩
      rw [hP] at HA HBb HCc HDd
      clear s1 s2 s3 s4 hin hP
      go_wp2_with fail
      refine (HA.out _).mono ?_
      rintro e z9 ⟨rfl, hx⟩
      replace p0 := hx.cell p0
      replace p1 := hx.cell p1
      replace p2 := hx.cell p2
      replace r0 := hx.cell r0
      replace r1 := hx.cell r1
      replace r2 := hx.cell r2
      replace HS := hid (HS.out.ext hx)
      replace hE := hE.trans hx
      clear hx
      go_wp2_with fail
      refine (HBb.out _).mono ?_
      rintro e z10 ⟨rfl, hx⟩
      replace p0 := hx.cell p0
      replace p1 := hx.cell p1
      replace p2 := hx.cell p2
      replace r0 := hx.cell r0
      replace r1 := hx.cell r1
      replace r2 := hx.cell r2
      replace HS := hid (HS.out.ext hx)
      replace hE := hE.trans hx
      clear hx
      go_wp2_with fail
      refine (HCc.out _).mono ?_
      rintro e z11 ⟨rfl, hx⟩
      replace p0 := hx.cell p0
      replace p1 := hx.cell p1
      replace p2 := hx.cell p2
      replace r0 := hx.cell r0
      replace r1 := hx.cell r1
      replace r2 := hx.cell r2
      replace HS := hid (HS.out.ext hx)
      replace hE := hE.trans hx
      clear hx
      go_wp2_with fail
      refine (HDd.out _).mono ?_
      rintro e z12 ⟨rfl, hx⟩
      replace p0 := hx.cell p0
      replace p1 := hx.cell p1
      replace p2 := hx.cell p2
      replace r0 := hx.cell r0
      replace r1 := hx.cell r1
      replace r2 := hx.cell r2
      replace HS := hid (HS.out.ext hx)
      replace hE := hE.trans hx
      clear hx
      go_wp2_with fail
      refine (HEe.out _).mono ?_
      rintro e z13 ⟨rfl, hx⟩
      replace p0 := hx.cell p0
      replace p1 := hx.cell p1
      replace p2 := hx.cell p2
      replace r0 := hx.cell r0
      replace r1 := hx.cell r1
      replace r2 := hx.cell r2
      replace HS := hid (HS.out.ext hx)
      replace hE := hE.trans hx
      clear hx
      clear HA HBb HCc HDd HEe
      go_wp2_with fail
      go_roundw
      case rel => exact ⟨k + 1, by omega, by go_num, hid ⟨hE, HS.out.up (by omega), ⟨p0, p1, p2⟩, r0, r1, r2⟩⟩
      case measure => simp [intOf]; omega
    · --
      clear HS
      go_wp2_with fail
      refine (HB1.out _ (HM.out _ hE)).mono ?_
      rintro e z14 ⟨rfl, hx⟩
      replace p0 := hx.cell p0
      replace p1 := hx.cell p1
      replace p2 := hx.cell p2
      replace r0 := hx.cell r0
      replace r1 := hx.cell r1
      replace r2 := hx.cell r2
      replace hE := hE.trans hx
      clear hx
      go_wp2_with fail
      refine (HB2.out _ (HM.out _ hE)).mono ?_
      rintro e z15 ⟨rfl, hx⟩
      replace p0 := hx.cell p0
      replace p1 := hx.cell p1
      replace p2 := hx.cell p2
      replace r0 := hx.cell r0
      replace r1 := hx.cell r1
      replace r2 := hx.cell r2
      replace hE := hE.trans hx
      clear hx
      go_wp2_with fail
      refine (HP0.out _).mono ?_
      rintro e z16 ⟨rfl, hx⟩
      replace p0 := hx.cell p0
      replace p1 := hx.cell p1
      replace p2 := hx.cell p2
      replace r0 := hx.cell r0
      replace r1 := hx.cell r1
      replace r2 := hx.cell r2
      replace hE := hE.trans hx
      clear hx
      go_wp2_with fail
      go_returns
      exact ⟨rfl, hE⟩
set_option maxRecDepth 100000 in
theorem lifted_FnStandardBoards (os : Os) (started : os.Started) (H : Type) (enc : TypeId × Value → H) :
    ReturnsInHanded {} Tryd.checked os 4 .any (fun w args => (Rows.fnStandardBoardsSpec.pre enc Tryd.prog Tryd.f4 [] false w args ∧ laidMetH Tryd.prog Rows.fnStandardBoardsRow.laid w) ∧ sizedMet enc Tryd.prog Tryd.f4 (OpenSpec.ofChange Rows.fnStandardBoardsSpec) false w args)
      (Rows.fnStandardBoardsSpec.post enc Tryd.prog Tryd.f4 false true false false) := by
  refine handed_shaped_and (C := Tryd.checked) (X := fun w _ => laidMetH Tryd.prog Rows.fnStandardBoardsRow.laid w) (fun _ _ _ hh h => h.of_heap hh) ownRow started (by kernel_rfl) Tryd.func4
    (ChangeSpec.witness_shaped (enc := enc) (C := Tryd.checked) (os := os) (X := fun w _ => laidMetH Tryd.prog Rows.fnStandardBoardsRow.laid w) false (World.laidAll Tryd.prog os Rows.fnStandardBoardsRow.laid) #[.slice none 0 0] 8 (World.laidAll_os _ _ _)
      (World.shaped_of_ZipB (by kernel_rfl) (by kernel_rfl)) (by kernel_rfl) (by kernel_rfl) (by kernel_rfl)
      (by rw [MakeChecks.laidMetH_plain _ _ _ (by kernel_rfl)]; exact laidMet_laidAll _ (by kernel_rfl) (by kernel_rfl))) ?_
  intro W base args ds gs before hval0 hW hSh hL
  have hval : ∀ (j : Nat) t v, Tryd.f4.params[j]? = some t → args[j]? = some v → Value.okWide Tryd.prog W .any base t v := hval0
  have hW' := hW
  obtain ⟨p, q, hA0, hV, rfl, hfz, hnd⟩ := hW
  have hA : DataW.TrodAll enc Tryd.prog W 0 (fun _ => true) true Tryd.f4.params.toList args.toList ds p := hA0
  rw [Tryd.params4] at hA hval
  obtain ⟨v0, vs0, d0, ds0, p0, q0, hargs, rfl, rfl, h0, r0⟩ := trodAll_cons hA
  obtain ⟨rfl, rfl, rfl⟩ := trodAll_nil r0
  obtain rfl : args = #[v0] := by cases args; simp_all
  obtain ⟨rfl, rfl⟩ := trodVars_none hV
  have k0 := h0
  have lt0 : ∀ x ∈ p0, x.block < W.heap.size := by obtain ⟨m, hm⟩ := k0; exact DataW.trod_lt m _ _ _ hm
  obtain ⟨a0_a, a0_c, a0_l, rfl, r_a0, n_a0⟩ := open_code Tryd.underlying33 Tryd.underlying5 (by kernel_rfl) (hval 0 33 v0 rfl rfl) h0
  clear hA0 hval0
  refine (walk_FnStandardBoards a0_a a0_c a0_l W r_a0 n_a0 (maxAt_of hSh)).mono fun e W' ⟨he, bel⟩ => ?_
  subst he
  exact ⟨_, rfl, _, _, _, [], _, [], hW', trodAll_mk1 (shut_bool Tryd.underlying4 _), (trodAll_cons_mk (Below.trod laidRow (by kernel_rfl) (of_decide_eq_true (by kernel_rfl)) k0 bel lt0) trodAll_mk0), rfl, bel.frame _, fun h => by cases h⟩

theorem over_FnStandardBoards : Rows.fnStandardBoardsRow.holds Tryd.pinned (OpenSpec.ofChange Rows.fnStandardBoardsSpec) :=
  OpenClaim.holds_of_wide 4 Tryd.f4 rfl rfl rfl rfl rfl rfl rfl ⟨rfl, rfl, rfl, rfl, rfl⟩ rfl rfl rfl rfl rfl (by kernel_rfl) Tryd.func4 (by kernel_rfl)
    (of_decide_eq_true (by kernel_rfl)) (by unfold Func.isWrapper; first | (rw [if_pos (by decide +kernel)]; kernel_rfl) | (rw [if_neg (by decide +kernel)]; exact ⟨rfl, rfl⟩))
    (fun os started H enc _ => lifted_FnStandardBoards os started H enc)

theorem said_FnStandardBoards : Rows.FnStandardBoardsCardSaid :=
  Claim7.holds_tied_plain_at .later [] [.data, .pinned] true (true, "5de6082f339b9abebf3b08155ba0a1c94d8d67a0783375df1619e3725e5d14d6") false over_FnStandardBoards (fun _ h => by cases h) (by kernel_rfl) (fun _ h => by cases h) fnStandardBoards_row_tie rfl ⟨rfl, rfl⟩ (by kernel_rfl) rfl
    (fun f fn hf hfn => by
      obtain rfl : f = 4 := Option.some.inj ((show Tryd.prog.funcNamed "loop.example/g00911/laws.FnStandardBoards" = some 4 by kernel_rfl).symm.trans hf) |>.symm
      obtain rfl : fn = Tryd.f4 := (Option.some.inj (Tryd.func4.symm.trans hfn)).symm
      exact ⟨by kernel_rfl, fun j t ht => by
        rw [Tryd.params4] at ht
        have hm : t ∈ [33] := by simpa using Array.mem_of_getElem? ht
        have hall : ([33].all fun u => !Tryd.prog.wantsStandIn u) = true := by kernel_rfl
        exact (show Tryd.prog.wantsStandIn t = false by simpa using List.all_eq_true.1 hall t hm)⟩)
    (by kernel_rfl)
end Go.Proofs.YtmohfdfjlgekaaaDoor
