/- LetterScores by the program. Conditions stand at each. -/
import Derived.Test.YtcgedkpbobgkhaaGreatDoorCh13b
namespace Go.Proofs.YtcgedkpbobgkhaaGreatDoor
set_option linter.unusedVariables false
set_option linter.unusedSimpArgs false
open Go Go.RowKit
/-- A play lies in block g. -/
structure PlAt (w : World) (g : Nat) (r c : Int) (d : Bool) (s : ByteArray) : Prop where
  c0 : w.cell? ⟨g, 0, none⟩ = some (.int .i64 r)
  c1 : w.cell? ⟨g, 1, none⟩ = some (.int .i64 c)
  c2 : w.cell? ⟨g, 2, none⟩ = some (.bool d)
  c3 : w.cell? ⟨g, 3, none⟩ = some (.string s)
theorem PlAt.ext {w w' : World} {g : Nat} {r c : Int} {d : Bool} {s : ByteArray} (h : PlAt w g r c d s) (x : Ext w w') : PlAt w' g r c d s := ⟨x.cell h.c0, x.cell h.c1, x.cell h.c2, x.cell h.c3⟩
set_option maxHeartbeats 800000 in
theorem scorP_any (B : Nat) (n : Int) (p q : ByteArray) (r c : Int) (d : Bool) (s : ByteArray) (w : World) (hB : BdAt w B 0 n p q) (hs : s.size ≤ 1048576) (hT : Tabs w) (h1 : 5 ≤ n) (h2 : n ≤ 15) (hc : (q.size : Int) = n * n) :
    Calls Tryz.prog 38 #[playV r c d s, .pointer (some ⟨B, 0, none⟩)] w (Ret (.bool (!playB n q r c d s)) w) := by
  have hx0 := (Ext.refl w).alloc (.cells #[.int .i64 r, .int .i64 c, .bool d, .string s] 38)
  have HV := hid (validOn_any r c d s n p q _ hs (hT.ext hx0) h1 h2 hc)
  obtain ⟨b0, b1, b2⟩ := hB
  have lt0 := World.block_lt_of_cell? _ _ b0
  obtain ⟨V, hV⟩ : ∃ V, playB n q r c d s = V := ⟨_, rfl⟩
  rw [hV] at HV ⊢
  clear hT hc hV hs
  go_enter Tryz.func38, Tryz.ntmps38
  go_wp2_with fail
  refine HV.out.mono ?_
  rintro e w1 ⟨rfl, hx⟩
  have HX := hid (hx0.trans hx)
  clear hx hx0 b0 b1 b2 lt0 HV
  cases V
  · go_wp2_with fail
    go_returns
    exact ⟨rfl, HX.out⟩
  · go_wp2_with fail
    go_returns
    exact ⟨rfl, HX.out⟩
set_option maxHeartbeats 800000 in
theorem indexFunc1 (B g cap : Nat) (n : Int) (p q : ByteArray) (r c : Int) (d : Bool) (s : ByteArray) (w : World) (hB : BdAt w B 0 n p q) (hP : PlAt w g r c d s) (hs : s.size ≤ 1048576) (hT : Tabs w) (h1 : 5 ≤ n) (h2 : n ≤ 15) (hc : (q.size : Int) = n * n) :
    Calls Tryz.prog 59 #[.slice (some ⟨g, 0, none⟩) 1 cap, .func (.func 38) #[] #[.pointer (some ⟨B, 0, none⟩)]] w (Ret (.int .i64 (if playB n q r c d s then -1 else 0)) w) := by
  have HC := hid (fun w' (x : Ext w w') => scorP_any B n p q r c d s w' (hB.ext x) hs (hT.ext x) h1 h2 hc)
  have HP := hid (fun w' (x : Ext w w') => hP.ext x)
  obtain ⟨V, hV⟩ : ∃ V, playB n q r c d s = V := ⟨_, rfl⟩
  rw [hV] at HC ⊢
  obtain ⟨I, hI⟩ : ∃ I : Int, (if V = true then -1 else 0) = I := ⟨_, rfl⟩
  rw [hI]
  have HI := hid hI
  clear hT hc hV hs hB hP hI
  go_enter Tryz.func59, Tryz.ntmps59
  go_wp2_with fail
  go_loopw [8] (fun i wr => ∃ j : Nat, j ≤ 1 ∧ i = .int .i64 j ∧ Hid (1 ≤ j → V = true) ∧ Ext w wr) (fun i _ => 1 - (intOf i).toNat)
  case atStart => exact ⟨0, by omega, rfl, hid (fun h => by omega), Ext.refl _⟩
  case round =>
    obtain ⟨j, hj, rfl, hV1, hx⟩ := hrel
    by_cases hlt : j < 1
    · obtain rfl : j = 0 := by omega
      obtain ⟨c0, c1, c2, c3⟩ := HP.out _ hx
      go_wp2_with fail
      refine (HC.out _ hx).mono ?_
      rintro e w1 ⟨rfl, hx1⟩
      cases V
      · have HJ : Hid (I = 0) := hid (by rw [← HI.out]; rfl)
        clear HI
        go_wp2_with fail
        go_returns
        exact ⟨by rw [HJ.out]; rfl, hx.trans hx1⟩
      · go_wp2_with fail
        go_roundw
        case rel => exact ⟨1, by omega, by go_num, hid (fun _ => by trivial), hx.trans hx1⟩
        case measure => simp [intOf]
    · obtain rfl : j = 1 := by omega
      obtain rfl := hV1.out (by omega)
      have HJ : Hid (I = -1) := hid (by rw [← HI.out]; rfl)
      clear HI
      go_wp2_with fail
      go_returns
      exact ⟨by rw [HJ.out]; rfl, hx⟩
theorem containsFunc1 (B g cap : Nat) (n : Int) (p q : ByteArray) (r c : Int) (d : Bool) (s : ByteArray) (w : World) (hB : BdAt w B 0 n p q) (hP : PlAt w g r c d s) (hs : s.size ≤ 1048576) (hT : Tabs w) (h1 : 5 ≤ n) (h2 : n ≤ 15) (hc : (q.size : Int) = n * n) :
    Calls Tryz.prog 37 #[.slice (some ⟨g, 0, none⟩) 1 cap, .func (.func 38) #[] #[.pointer (some ⟨B, 0, none⟩)]] w (Ret (.bool (!playB n q r c d s)) w) := by
  have HI := hid (indexFunc1 B g cap n p q r c d s w hB hP hs hT h1 h2 hc)
  obtain ⟨V, hV⟩ : ∃ V, playB n q r c d s = V := ⟨_, rfl⟩
  rw [hV] at HI ⊢
  obtain ⟨I, hI⟩ : ∃ I : Int, (if V = true then -1 else 0) = I := ⟨_, rfl⟩
  rw [hI] at HI
  clear hT hc hV hs hB hP
  go_enter Tryz.func37, Tryz.ntmps37
  go_wp2_with fail
  refine HI.out.mono ?_
  rintro e w1 ⟨rfl, hx⟩
  cases V
  · obtain rfl : I = 0 := hI.symm
    go_wp2_with fail
    go_returns
    exact ⟨rfl, hx⟩
  · obtain rfl : I = -1 := hI.symm
    go_wp2_with fail
    go_returns
    exact ⟨rfl, hx⟩
set_option maxHeartbeats 1600000 in
theorem scorable1 (s : ByteArray) (a b : Option Addr) (ca cb : Nat) (vs cs : List Int) (k : Int) (n : Int) (p q : ByteArray) (g cap : Nat) (r c : Int) (d : Bool) (t : ByteArray) (w : World) (hs : s.size ≤ 1048576) (l1 : vs.length ≤ 1048576) (l2 : cs.length ≤ 1048576) (h1 : Rd w a (intsV vs)) (h2 : Rd w b (intsV cs)) (hp : p.size ≤ 1048576) (hq : q.size ≤ 1048576) (ht : t.size ≤ 1048576) (hP : PlAt w g r c d t) (hT : Tabs w) :
    Calls Tryz.prog 23 #[tileV s a b vs.length cs.length ca cb k, boardV n p q, .slice (some ⟨g, 0, none⟩) 1 cap] w (Ret (.bool (tilesB s vs cs k && okP n p q r c d t)) w) := by
  have HT := hid (fun w' (x : Ext w w') => ValidTiles_any s a b ca cb vs cs k w' hs l1 l2 (h1.ext x) (h2.ext x))
  have HB := hid (fun w' => ValidBoard_any n p q w' hp hq)
  have HO : Hid (okP n p q r c d t = (okB n p q && playB n q r c d t)) := hid rfl
  have HPL := hid (fun w' (x : Ext w w') => hP.ext x)
  have HTB := hid (fun w' (x : Ext w w') => hT.ext x)
  clear h1 h2 hP hT
  cases ht : tilesB s vs cs k
  · rw [ht] at HT
    clear ht
    go_enter Tryz.func23, Tryz.ntmps23
    go_wp2_with fail
    have hE0 := ((Ext.refl w).alloc (.cells #[.string s, .slice a vs.length ca, .slice b cs.length cb, .int .i64 k] 34)).alloc (.cells #[.int .i64 n, .string p, .string q] 36)
    refine (HT.out _ hE0).mono ?_
    rintro e w1 ⟨rfl, hx⟩
    have hE := hE0.trans hx
    clear hx
    go_wp2_with fail
    go_returns
    exact ⟨rfl, hE⟩
  · rw [ht] at HT
    clear ht
    have hE0 := ((Ext.refl w).alloc (.cells #[.string s, .slice a vs.length ca, .slice b cs.length cb, .int .i64 k] 34)).alloc (.cells #[.int .i64 n, .string p, .string q] 36)
    cases hb : okB n p q
    · rw [hb] at HB
      have HR : Hid (okP n p q r c d t = false) := hid (by rw [HO.out, hb]; rfl)
      clear hb
      go_enter Tryz.func23, Tryz.ntmps23
      go_wp2_with fail
      refine (HT.out _ hE0).mono ?_
      rintro e w1 ⟨rfl, hx⟩
      have hE := hE0.trans hx
      have b0 := hx.cell (b := w.heap.size + 1) (o := 0) (v := .int .i64 n) (by go_cell)
      have b1 := hx.cell (b := w.heap.size + 1) (o := 1) (v := .string p) (by go_cell)
      have b2 := hx.cell (b := w.heap.size + 1) (o := 2) (v := .string q) (by go_cell)
      clear hx hE0
      go_wp2_with fail
      refine (HB.out _).mono ?_
      rintro e w2 ⟨rfl, hx⟩
      replace hE := hE.trans hx
      clear hx b0 b1 b2
      go_wp2_with fail
      go_returns
      exact ⟨by rw [HR.out]; rfl, hE⟩
    · rw [hb] at HB
      obtain ⟨o1, o2, o3, o4⟩ := okB_true hb
      have HR : Hid (okP n p q r c d t = playB n q r c d t) := hid (by rw [HO.out, hb]; rfl)
      have HCF := hid (fun B w' (x : BdAt w' B 0 n p q) (y : PlAt w' g r c d t) (z : Tabs w') => containsFunc1 B g cap n p q r c d t w' x y ‹_› z o1 o2 o4)
      obtain ⟨V, hV⟩ : ∃ V, playB n q r c d t = V := ⟨_, rfl⟩
      rw [hV] at HR HCF
      clear hb o3 o4 hV
      go_enter Tryz.func23, Tryz.ntmps23
      go_wp2_with fail
      refine (HT.out _ hE0).mono ?_
      rintro e w1 ⟨rfl, hx⟩
      have hE := hE0.trans hx
      have b0 := hx.cell (b := w.heap.size + 1) (o := 0) (v := .int .i64 n) (by go_cell)
      have b1 := hx.cell (b := w.heap.size + 1) (o := 1) (v := .string p) (by go_cell)
      have b2 := hx.cell (b := w.heap.size + 1) (o := 2) (v := .string q) (by go_cell)
      clear hx hE0
      go_wp2_with fail
      refine (HB.out _).mono ?_
      rintro e w2 ⟨rfl, hx⟩
      replace hE := hE.trans hx
      have HBD : Hid (BdAt w2 (w.heap.size + 1) 0 n p q) := hid ⟨hx.cell b0, hx.cell b1, hx.cell b2⟩
      clear hx b0 b1 b2
      go_wp2_with fail
      refine (HCF.out _ _ HBD.out (HPL.out _ hE) (HTB.out _ hE)).mono ?_
      rintro e w3 ⟨rfl, hx⟩
      replace hE := hE.trans hx
      clear hx HBD
      cases V
      · go_wp2_with fail
        go_returns
        exact ⟨by rw [HR.out]; rfl, hE⟩
      · go_wp2_with fail
        go_returns
        exact ⟨by rw [HR.out]; rfl, hE⟩
noncomputable def lsOk (s : ByteArray) (vs cs : List Int) (k n : Int) (p q : ByteArray) (r c : Int) (d : Bool) (t : ByteArray) : Bool := tilesB s vs cs k && okP n p q r c d t
noncomputable def lsR (s : ByteArray) (vs cs : List Int) (k n : Int) (p q : ByteArray) (r c : Int) (d : Bool) (t : ByteArray) : List Int := if lsOk s vs cs k n p q r c d t then lsL (lsF s vs n p q r c d t) t.size else []
noncomputable def lsC (s : ByteArray) (vs cs : List Int) (k n : Int) (p q : ByteArray) (r c : Int) (d : Bool) (t : ByteArray) : Int := if lsOk s vs cs k n p q r c d t then 0 else 1
theorem lsR_le {s : ByteArray} {vs cs : List Int} {k n : Int} {p q : ByteArray} {r c : Int} {d : Bool} {t : ByteArray} : (lsR s vs cs k n p q r c d t).length ≤ t.size := by
  unfold lsR
  split
  · rw [lsL_length]; exact Nat.le_refl _
  · simp
/-- A list of whole numbers of the call's own, and a code. -/
def RetIC (l : List Int) (k : Int) (w : World) (e : Ending) (w' : World) : Prop := ∃ a c, e = .returned (.tuple #[.slice a l.length c, .int .i64 k]) ∧ OwnR w' w.heap.size a (intsV l) ∧ Ext w w'
theorem lsOk_true {s : ByteArray} {vs cs : List Int} {k n : Int} {p q : ByteArray} {r c : Int} {d : Bool} {t : ByteArray} (h : lsOk s vs cs k n p q r c d t = true) :
    TilesOk s vs cs k ∧ okB n p q = true ∧ playB n q r c d t = true := by
  unfold lsOk okP at h
  simp only [Bool.and_eq_true] at h
  exact ⟨tilesB_iff.1 h.1, h.2.1, h.2.2⟩
set_option maxHeartbeats 1600000 in
theorem LetterScores_any (s : ByteArray) (a b : Option Addr) (ca cb : Nat) (vs cs : List Int) (k : Int) (n : Int) (p q : ByteArray) (r c : Int) (d : Bool) (t : ByteArray) (w : World) (hs : s.size ≤ 1048576) (l1 : vs.length ≤ 1048576) (l2 : cs.length ≤ 1048576) (h1 : Rd w a (intsV vs)) (h2 : Rd w b (intsV cs)) (hp : p.size ≤ 1048576) (hq : q.size ≤ 1048576) (ht : t.size ≤ 1048576) (hT : Tabs w) :
    Calls Tryz.prog 11 #[tileV s a b vs.length cs.length ca cb k, boardV n p q, playV r c d t] w (RetIC (lsR s vs cs k n p q r c d t) (lsC s vs cs k n p q r c d t) w) := by
  have HS := hid (fun g cap w' (x : Ext w w') (y : PlAt w' g r c d t) => scorable1 s a b ca cb vs cs k n p q g cap r c d t w' hs l1 l2 (h1.ext x) (h2.ext x) hp hq ht y (hT.ext x))
  have HL : Hid (lsOk s vs cs k n p q r c d t = true → ∀ w', Ext w w' → Calls Tryz.prog 24 #[tileV s a b vs.length cs.length ca cb k, boardV n p q, playV r c d t] w' (RetIL (lsL (lsF s vs n p q r c d t) t.size) w')) := hid (fun h w' x => by
    obtain ⟨e1, e2, e3⟩ := lsOk_true h
    obtain ⟨o1, o2, o3, o4⟩ := okB_true e2
    obtain ⟨m0, m1, m2⟩ := playB_true e3
    exact letterScores_any s a b cs.length ca cb vs k n p q r c d t w' hs (h1.ext x) e1.vlen e1.vals o1 o2 o3 o4 (okB_parts e2).2 m1 m2 (mainB_true m0).2.2)
  have HD1 : Hid (lsR s vs cs k n p q r c d t = if lsOk s vs cs k n p q r c d t then lsL (lsF s vs n p q r c d t) t.size else []) := hid rfl
  have HD2 : Hid (lsC s vs cs k n p q r c d t = if lsOk s vs cs k n p q r c d t then 0 else 1) := hid rfl
  have HV : Hid ((tilesB s vs cs k && okP n p q r c d t) = lsOk s vs cs k n p q r c d t) := hid rfl
  rw [HV.out] at HS
  obtain ⟨L, hL⟩ : ∃ L, lsL (lsF s vs n p q r c d t) t.size = L := ⟨_, rfl⟩
  obtain ⟨R, hR⟩ : ∃ R, lsR s vs cs k n p q r c d t = R := ⟨_, rfl⟩
  obtain ⟨C, hC⟩ : ∃ C, lsC s vs cs k n p q r c d t = C := ⟨_, rfl⟩
  rw [hL] at HL HD1
  rw [hR] at HD1 ⊢
  rw [hC] at HD2 ⊢
  clear h1 h2 hT hL hR hC HV
  have hE0 := (((Ext.refl w).alloc (.cells #[.string s, .slice a vs.length ca, .slice b cs.length cb, .int .i64 k] 34)).alloc (.cells #[.int .i64 n, .string p, .string q] 36)).alloc (.cells #[.int .i64 r, .int .i64 c, .bool d, .string t] 38)
  have a0 : (((w.alloc (.cells #[.string s, .slice a vs.length ca, .slice b cs.length cb, .int .i64 k] 34)).alloc (.cells #[.int .i64 n, .string p, .string q] 36)).alloc (.cells #[.int .i64 r, .int .i64 c, .bool d, .string t] 38)).cell? ⟨w.heap.size, 0, none⟩ = some (.string s) := by go_cell
  have a1 : (((w.alloc (.cells #[.string s, .slice a vs.length ca, .slice b cs.length cb, .int .i64 k] 34)).alloc (.cells #[.int .i64 n, .string p, .string q] 36)).alloc (.cells #[.int .i64 r, .int .i64 c, .bool d, .string t] 38)).cell? ⟨w.heap.size, 1, none⟩ = some (.slice a vs.length ca) := by go_cell
  have a2 : (((w.alloc (.cells #[.string s, .slice a vs.length ca, .slice b cs.length cb, .int .i64 k] 34)).alloc (.cells #[.int .i64 n, .string p, .string q] 36)).alloc (.cells #[.int .i64 r, .int .i64 c, .bool d, .string t] 38)).cell? ⟨w.heap.size, 2, none⟩ = some (.slice b cs.length cb) := by go_cell
  have a3 : (((w.alloc (.cells #[.string s, .slice a vs.length ca, .slice b cs.length cb, .int .i64 k] 34)).alloc (.cells #[.int .i64 n, .string p, .string q] 36)).alloc (.cells #[.int .i64 r, .int .i64 c, .bool d, .string t] 38)).cell? ⟨w.heap.size, 3, none⟩ = some (.int .i64 k) := by go_cell
  have b0 : (((w.alloc (.cells #[.string s, .slice a vs.length ca, .slice b cs.length cb, .int .i64 k] 34)).alloc (.cells #[.int .i64 n, .string p, .string q] 36)).alloc (.cells #[.int .i64 r, .int .i64 c, .bool d, .string t] 38)).cell? ⟨w.heap.size + 1, 0, none⟩ = some (.int .i64 n) := by go_cell
  have b1 : (((w.alloc (.cells #[.string s, .slice a vs.length ca, .slice b cs.length cb, .int .i64 k] 34)).alloc (.cells #[.int .i64 n, .string p, .string q] 36)).alloc (.cells #[.int .i64 r, .int .i64 c, .bool d, .string t] 38)).cell? ⟨w.heap.size + 1, 1, none⟩ = some (.string p) := by go_cell
  have b2 : (((w.alloc (.cells #[.string s, .slice a vs.length ca, .slice b cs.length cb, .int .i64 k] 34)).alloc (.cells #[.int .i64 n, .string p, .string q] 36)).alloc (.cells #[.int .i64 r, .int .i64 c, .bool d, .string t] 38)).cell? ⟨w.heap.size + 1, 2, none⟩ = some (.string q) := by go_cell
  have d0 : (((w.alloc (.cells #[.string s, .slice a vs.length ca, .slice b cs.length cb, .int .i64 k] 34)).alloc (.cells #[.int .i64 n, .string p, .string q] 36)).alloc (.cells #[.int .i64 r, .int .i64 c, .bool d, .string t] 38)).cell? ⟨w.heap.size + 2, 0, none⟩ = some (.int .i64 r) := by go_cell
  have d1 : (((w.alloc (.cells #[.string s, .slice a vs.length ca, .slice b cs.length cb, .int .i64 k] 34)).alloc (.cells #[.int .i64 n, .string p, .string q] 36)).alloc (.cells #[.int .i64 r, .int .i64 c, .bool d, .string t] 38)).cell? ⟨w.heap.size + 2, 1, none⟩ = some (.int .i64 c) := by go_cell
  have d2 : (((w.alloc (.cells #[.string s, .slice a vs.length ca, .slice b cs.length cb, .int .i64 k] 34)).alloc (.cells #[.int .i64 n, .string p, .string q] 36)).alloc (.cells #[.int .i64 r, .int .i64 c, .bool d, .string t] 38)).cell? ⟨w.heap.size + 2, 2, none⟩ = some (.bool d) := by go_cell
  have d3 : (((w.alloc (.cells #[.string s, .slice a vs.length ca, .slice b cs.length cb, .int .i64 k] 34)).alloc (.cells #[.int .i64 n, .string p, .string q] 36)).alloc (.cells #[.int .i64 r, .int .i64 c, .bool d, .string t] 38)).cell? ⟨w.heap.size + 2, 3, none⟩ = some (.string t) := by go_cell
  obtain ⟨w0, hw0⟩ : ∃ w0, ((w.alloc (.cells #[.string s, .slice a vs.length ca, .slice b cs.length cb, .int .i64 k] 34)).alloc (.cells #[.int .i64 n, .string p, .string q] 36)).alloc (.cells #[.int .i64 r, .int .i64 c, .bool d, .string t] 38) = w0 := ⟨_, rfl⟩
  rw [hw0] at a0 a1 a2 a3 b0 b1 b2 d0 d1 d2 d3
  have hx1 := (Ext.refl w0).alloc (.cells #[.int .i64 r, .int .i64 c, .bool d, .string t] 38)
  have HPL : Hid (PlAt (w0.alloc (.cells #[.int .i64 r, .int .i64 c, .bool d, .string t] 38)) w0.heap.size r c d t) := hid ⟨by simp, by simp, by simp, by simp⟩
  rw [hw0] at hE0
  have hE1 := hE0.trans hx1
  cases hk : lsOk s vs cs k n p q r c d t
  · rw [hk] at HS HD1 HD2
    have HR : Hid (R = []) := hid HD1.out
    have HC : Hid (C = 1) := hid HD2.out
    clear hk HL HD1 HD2
    go_enter Tryz.func11, Tryz.ntmps11
    go_wp2_with first | (rw [hw0]; clear hw0)
    refine (HS.out _ _ _ hE1 HPL.out).mono ?_
    rintro e w1 ⟨rfl, hx⟩
    have hE := hE1.trans hx
    clear hx
    go_wp2_with fail
    go_returns
    exact ⟨none, 0, by rw [HR.out, HC.out]; rfl, by rw [HR.out]; exact .inl rfl, hE⟩
  · rw [hk] at HS HD1 HD2
    have HR : Hid (R = L) := hid HD1.out
    have HC : Hid (C = 0) := hid HD2.out
    have HL2 := hid (HL.out hk)
    clear hk HL HD1 HD2
    go_enter Tryz.func11, Tryz.ntmps11
    go_wp2_with first | (rw [hw0]; clear hw0)
    refine (HS.out _ _ _ hE1 HPL.out).mono ?_
    rintro e w1 ⟨rfl, hx⟩
    have hx2 := hx1.trans hx
    have hE := hE1.trans hx
    replace a0 := hx2.cell a0
    replace a1 := hx2.cell a1
    replace a2 := hx2.cell a2
    replace a3 := hx2.cell a3
    replace b0 := hx2.cell b0
    replace b1 := hx2.cell b1
    replace b2 := hx2.cell b2
    replace d0 := hx2.cell d0
    replace d1 := hx2.cell d1
    replace d2 := hx2.cell d2
    replace d3 := hx2.cell d3
    clear hx hx1 hx2 hE1 HPL
    go_wp2_with fail
    refine (HL2.out _ hE).mono ?_
    rintro e w2 ⟨a', c', rfl, ho, hx⟩
    have HO := hid ho
    have hE2 := hE.trans hx
    clear hx ho
    go_wp2_with fail
    go_returns
    exact ⟨a', c', by rw [HR.out, HC.out]; rfl, by rw [HR.out]; exact HO.out.mono hE.size, hE2⟩
end Go.Proofs.YtcgedkpbobgkhaaGreatDoor
