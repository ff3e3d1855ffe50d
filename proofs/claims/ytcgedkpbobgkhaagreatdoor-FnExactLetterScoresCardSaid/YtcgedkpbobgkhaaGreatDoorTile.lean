/- Tile sets in memory: what the laws' own functions on them compute. Conditions: at most 2^20 elements. -/
import Derived.Test.YtcgedkpbobgkhaaGreatDoorInts
namespace Go.Proofs.YtcgedkpbobgkhaaGreatDoor
set_option linter.unusedVariables false
set_option linter.unusedSimpArgs false
open Go Go.RowKit
/-- A tile set: its letters, and where its two lists lie. -/
abbrev tileV (s : ByteArray) (a b : Option Addr) (m n c d : Nat) (k : Int) : Value := .agg #[.string s, .slice a m c, .slice b n d, .int .i64 k]
def szT (L : Int) (s : ByteArray) (vs cs : List Int) : Int :=
  if L < s.size then -1 else if L - s.size < vs.length then -1 else if L - s.size - vs.length < cs.length then -1 else L - s.size - vs.length - cs.length
theorem szT_ok {L : Int} {s : ByteArray} {vs cs : List Int} (h : ¬ szT L s vs cs < 0) : (s.size : Int) + vs.length + cs.length ≤ L ∧ szT L s vs cs = L - s.size - vs.length - cs.length := by
  unfold szT at *
  split at h
  · omega
  · split at h
    · omega
    · split at h
      · omega
      · rename_i h1 h2 h3
        rw [if_neg h1, if_neg h2, if_neg h3]
        omega
set_option maxHeartbeats 800000 in
theorem szTileSet_any (s : ByteArray) (a b : Option Addr) (c d : Nat) (vs cs : List Int) (k : Int) (L : Int) (w : World) (hs : s.size ≤ maxLen) (h1 : vs.length ≤ maxLen) (h2 : cs.length ≤ maxLen) (hL0 : 0 ≤ L) (hL1 : L ≤ 1048576) :
    Calls Tryz.prog 4 #[tileV s a b vs.length cs.length c d k, .int .i64 L] w (Ret (.int .i64 (szT L s vs cs)) w) := by
  unfold maxLen at hs
  have HV := hid (fun (l : Int) (w' : World) (i0 : 0 ≤ l) (i1 : l ≤ 1048576) => szInt64S_any a c vs l w' h1 i0 i1)
  have HC := hid (fun (l : Int) (w' : World) (i0 : 0 ≤ l) (i1 : l ≤ 1048576) => szInt64S_any b d cs l w' h2 i0 i1)
  clear h1 h2
  by_cases q1 : L < s.size
  · have h2 : L - s.size < 0 := by omega
    have HN : Hid (szT L s vs cs = -1) := hid (if_pos q1)
    go_enter Tryz.func4, Tryz.ntmps4
    go_wp2_with fail
    go_returns
    exact ⟨ret_int HN.out.symm, (Ext.refl w).alloc _⟩
  · have h2 : ¬ L - s.size < 0 := by omega
    by_cases q2 : L - s.size < vs.length
    · have HS : Hid (szN (L - s.size) vs = -1) := hid (if_pos q2)
      have HN : Hid (szT L s vs cs = -1) := hid (by unfold szT; rw [if_neg q1, if_pos q2])
      go_enter Tryz.func4, Tryz.ntmps4
      go_wp2_with fail
      refine (HV.out _ _ (by omega) (by omega)).mono ?_
      rintro e w1 ⟨rfl, rfl⟩
      rw [HS.out]
      go_wp2_with fail
      go_returns
      exact ⟨ret_int HN.out.symm, (Ext.refl w).alloc _⟩
    · have HS : Hid (szN (L - s.size) vs = L - s.size - vs.length) := hid (if_neg q2)
      have h3 : ¬ L - s.size - vs.length < 0 := by omega
      by_cases q3 : L - s.size - vs.length < cs.length
      · have HT : Hid (szN (L - s.size - vs.length) cs = -1) := hid (if_pos q3)
        have HN : Hid (szT L s vs cs = -1) := hid (by unfold szT; rw [if_neg q1, if_neg q2, if_pos q3])
        go_enter Tryz.func4, Tryz.ntmps4
        go_wp2_with fail
        refine (HV.out _ _ (by omega) (by omega)).mono ?_
        rintro e w1 ⟨rfl, rfl⟩
        rw [HS.out]
        go_wp2_with fail
        refine (HC.out _ _ (by omega) (by omega)).mono ?_
        rintro e w1 ⟨rfl, rfl⟩
        rw [HT.out]
        go_wp2_with fail
        go_returns
        exact ⟨ret_int HN.out.symm, (Ext.refl w).alloc _⟩
      · have h4 : ¬ L - s.size - vs.length - cs.length < 0 := by omega
        have HT : Hid (szN (L - s.size - vs.length) cs = L - s.size - vs.length - cs.length) := hid (if_neg q3)
        have HN : Hid (szT L s vs cs = L - s.size - vs.length - cs.length) := hid (by unfold szT; rw [if_neg q1, if_neg q2, if_neg q3])
        go_enter Tryz.func4, Tryz.ntmps4
        go_wp2_with fail
        refine (HV.out _ _ (by omega) (by omega)).mono ?_
        rintro e w1 ⟨rfl, rfl⟩
        rw [HS.out]
        go_wp2_with fail
        refine (HC.out _ _ (by omega) (by omega)).mono ?_
        rintro e w1 ⟨rfl, rfl⟩
        rw [HT.out]
        go_wp2_with fail
        go_returns
        exact ⟨ret_int HN.out.symm, (Ext.refl w).alloc _⟩
/-- A tile set comes back, whose lists are the call's own. -/
def RetT (s : ByteArray) (vs cs : List Int) (k : Int) (w : World) (e : Ending) (w' : World) : Prop :=
  ∃ a b c d, e = .returned (tileV s a b vs.length cs.length c d k) ∧ OwnR w' w.heap.size a (intsV vs) ∧ OwnR w' w.heap.size b (intsV cs) ∧ Ext w w'
theorem OwnR.off {w : World} {B : Nat} {a : Option Addr} {xs : List Value} (h : OwnR w B a xs) {b o : Nat} (hb : b < B) (u : Value) : OwnR (w.setCell ⟨b, o, none⟩ u) B a xs := by
  rcases h with rfl | ⟨g, rfl, hg, h⟩
  · exact .inl rfl
  · have hne : b ≠ g := by omega
    exact .inr ⟨g, rfl, hg, ⟨by simpa [World.setCell] using h.1, fun j v hj => by rw [World.cell?_setCell_other _ _ _ _ (by intro e; exact hne (congrArg Addr.block e))]; exact h.2.1 j v hj, fun j hj => by simpa using h.2.2 j hj⟩⟩
set_option maxHeartbeats 1600000 in
theorem toTileSet_any (s : ByteArray) (a b : Option Addr) (c d : Nat) (vs cs : List Int) (k : Int) (w : World) (h1 : Rd w a (intsV vs)) (h2 : Rd w b (intsV cs)) (l1 : vs.length ≤ 1048576) (l2 : cs.length ≤ 1048576) :
    Calls Tryz.prog 8 #[tileV s a b vs.length cs.length c d k] w (RetT s vs cs k w) := by
  have H1 : Hid (∀ w', Ext w w' → Rd w' a (intsV vs)) := hid (fun w' k => h1.ext k)
  have H2 : Hid (∀ w', Ext w w' → Rd w' b (intsV cs)) := hid (fun w' k => h2.ext k)
  clear h1 h2
  go_enter Tryz.func8, Tryz.ntmps8
  go_wp2_with fail
  have hE0 : Ext w _ := (((Ext.refl w).alloc (.cells #[.string s, .slice a vs.length c, .slice b cs.length d, .int .i64 k] 24)).alloc (.cells #[.string ⟨#[]⟩, .slice none 0 0, .slice none 0 0, .int .i64 0] 34)).alloc (.cells #[.string s, .slice none 0 0, .slice none 0 0, .int .i64 0] 34)
  refine (toInt64S_any a c vs _ (H1.out _ hE0) l1).mono ?_
  rintro e w1 ⟨a', c', rfl, hown, hx⟩
  rw [intsV_length]
  have hE1 := hE0.trans hx
  have p0 := hx.cell (b := w.heap.size) (o := 0) (v := .string s) (by go_cell)
  have p1 := hx.cell (b := w.heap.size) (o := 1) (v := .slice a vs.length c) (by go_cell)
  have p2 := hx.cell (b := w.heap.size) (o := 2) (v := .slice b cs.length d) (by go_cell)
  have p3 := hx.cell (b := w.heap.size) (o := 3) (v := .int .i64 k) (by go_cell)
  have r0 := hx.cell (b := w.heap.size + 1) (o := 0) (v := .string ⟨#[]⟩) (by go_cell)
  have r1 := hx.cell (b := w.heap.size + 1) (o := 1) (v := .slice none 0 0) (by go_cell)
  have r2 := hx.cell (b := w.heap.size + 1) (o := 2) (v := .slice none 0 0) (by go_cell)
  have r3 := hx.cell (b := w.heap.size + 1) (o := 3) (v := .int .i64 0) (by go_cell)
  have t0 := hx.cell (b := w.heap.size + 2) (o := 0) (v := .string s) (by go_cell)
  have t1 := hx.cell (b := w.heap.size + 2) (o := 1) (v := .slice none 0 0) (by go_cell)
  have t2 := hx.cell (b := w.heap.size + 2) (o := 2) (v := .slice none 0 0) (by go_cell)
  have t3 := hx.cell (b := w.heap.size + 2) (o := 3) (v := .int .i64 0) (by go_cell)
  have rf : ∀ j, w1.frozen? ⟨w.heap.size + 1, j, none⟩ = false := fun j => by rw [hx.cells.2 _ _ (by simp only [World.size_alloc]; omega)]; go_cell
  have rg : ∀ j, w1.frozen? ⟨w.heap.size + 2, j, none⟩ = false := fun j => by rw [hx.cells.2 _ _ (by simp only [World.size_alloc]; omega)]; go_cell
  have hs := hx.size
  have hsz : w.heap.size + 3 ≤ w1.heap.size := by simpa only [World.size_alloc] using hs
  have HO := hid hown
  clear hx hown hs hE0
  go_wp2_with fail
  obtain ⟨W, hW⟩ : ∃ W, w1.setCell ⟨w.heap.size + 1 + 1, 1, none⟩ (.slice a' vs.length c') = W := ⟨_, rfl⟩
  have hE2 : Ext w W := by rw [← hW]; exact hE1.setCell (by show w.heap.size ≤ w.heap.size + 1 + 1; omega) _
  have hO2 : OwnR W (w.heap.size + 3) a' (intsV vs) := by
    rw [← hW]
    exact OwnR.off (by simpa only [World.size_alloc] using HO.out) (by omega) _
  have hsW : W.heap.size = w1.heap.size := by rw [← hW]; simp [World.setCell]
  have oth : ∀ b o v, b ≠ w.heap.size + 1 + 1 ∨ o ≠ 1 → w1.cell? ⟨b, o, none⟩ = some v → W.cell? ⟨b, o, none⟩ = some v := by
    intro b o v hb h
    rw [← hW, World.cell?_setCell_other _ _ _ _ (by intro e; simp only [Addr.mk.injEq] at e; omega)]
    exact h
  have x3 := oth _ _ _ (by omega) p3
  have y0 := oth _ _ _ (by omega) r0
  have y1 := oth _ _ _ (by omega) r1
  have y2 := oth _ _ _ (by omega) r2
  have y3 := oth _ _ _ (by omega) r3
  have z0 := oth _ _ _ (by omega) t0
  have z1 : W.cell? ⟨w.heap.size + 2, 1, none⟩ = some (.slice a' vs.length c') := by rw [← hW]; exact World.cell?_setCell_same _ _ _ t1
  have z2 := oth _ _ _ (by omega) t2
  have z3 := oth _ _ _ (by omega) t3
  have wf : ∀ j, W.frozen? ⟨w.heap.size + 1, j, none⟩ = false := fun j => by rw [← hW]; simpa using rf j
  have wg : ∀ j, W.frozen? ⟨w.heap.size + 2, j, none⟩ = false := fun j => by rw [← hW]; simpa using rg j
  rw [hW]
  clear oth hW p0 p1 p2 p3 r0 r1 r2 r3 t0 t1 t2 t3 rf rg HO hE1
  refine (toInt64S_any b d cs _ (H2.out _ hE2) l2).mono ?_
  rintro e w2 ⟨b', d', rfl, hown, hx⟩
  rw [intsV_length]
  have hE3 := hE2.trans hx
  have g3 := hx.cell x3
  have r0 := hx.cell y0
  have r1 := hx.cell y1
  have r2 := hx.cell y2
  have r3 := hx.cell y3
  have t0 := hx.cell z0
  have t1 := hx.cell z1
  have t2 := hx.cell z2
  have t3 := hx.cell z3
  have rf : ∀ j, w2.frozen? ⟨w.heap.size + 1, j, none⟩ = false := fun j => by rw [hx.cells.2 _ _ (by omega)]; exact wf j
  have rg : ∀ j, w2.frozen? ⟨w.heap.size + 2, j, none⟩ = false := fun j => by rw [hx.cells.2 _ _ (by omega)]; exact wg j
  have hs := hx.size
  have HA := hid (hO2.ext hx)
  have HB := hid (hown.mono (B' := w.heap.size + 3) (by omega))
  clear hown hx hO2 hE2 x3 y0 y1 y2 y3 z0 z1 z2 z3 wf wg
  go_wp2_with fail
  have hE4 : Ext w ((((((w2.setCell ⟨w.heap.size + 1 + 1, 2, none⟩ (.slice b' cs.length d')).setCell ⟨w.heap.size + 1 + 1, 3, none⟩ (.int .i64 k)).setCell ⟨w.heap.size + 1, 0, none⟩ (.string s)).setCell ⟨w.heap.size + 1, 1, none⟩ (.slice a' vs.length c')).setCell ⟨w.heap.size + 1, 2, none⟩ (.slice b' cs.length d')).setCell ⟨w.heap.size + 1, 3, none⟩ (.int .i64 k)) :=
    (((((hE3.setCell (by show w.heap.size ≤ w.heap.size + 1 + 1; omega) _).setCell (by show w.heap.size ≤ w.heap.size + 1 + 1; omega) _).setCell (by show w.heap.size ≤ w.heap.size + 1; omega) _).setCell (by show w.heap.size ≤ w.heap.size + 1; omega) _).setCell (by show w.heap.size ≤ w.heap.size + 1; omega) _).setCell (by show w.heap.size ≤ w.heap.size + 1; omega) _
  have fin : ∀ a xs, OwnR w2 (w.heap.size + 3) a xs → OwnR ((((((w2.setCell ⟨w.heap.size + 1 + 1, 2, none⟩ (.slice b' cs.length d')).setCell ⟨w.heap.size + 1 + 1, 3, none⟩ (.int .i64 k)).setCell ⟨w.heap.size + 1, 0, none⟩ (.string s)).setCell ⟨w.heap.size + 1, 1, none⟩ (.slice a' vs.length c')).setCell ⟨w.heap.size + 1, 2, none⟩ (.slice b' cs.length d')).setCell ⟨w.heap.size + 1, 3, none⟩ (.int .i64 k)) w.heap.size a xs := fun a xs h =>
    ((((((h.off (by omega) _).off (by omega) _).off (by omega) _).off (by omega) _).off (by omega) _).off (by omega) _).mono (by omega)
  exact bodyPost_ret (v := tileV s a' b' vs.length cs.length c' d' k) (by simp [results, Tryz.results8, go_sem, r0, r1, r2, r3, rf, rg]) rfl ⟨a', b', c', d', rfl, fin _ _ HA.out, fin _ _ HB.out, hE4⟩
set_option maxHeartbeats 800000 in
theorem eqTileSet_self (s : ByteArray) (a b a' b' : Option Addr) (c d c' d' : Nat) (vs cs : List Int) (k : Int) (w : World) (h1 : Rd w a (intsV vs)) (h2 : Rd w b (intsV cs)) (h1' : Rd w a' (intsV vs)) (h2' : Rd w b' (intsV cs)) (l1 : vs.length ≤ 1048576) (l2 : cs.length ≤ 1048576) :
    Calls Tryz.prog 13 #[tileV s a b vs.length cs.length c d k, tileV s a' b' vs.length cs.length c' d' k] w (Ret (.bool true) w) := by
  have H1 : Hid (∀ w', Ext w w' → Rd w' a (intsV vs) ∧ Rd w' a' (intsV vs)) := hid (fun w' k => ⟨h1.ext k, h1'.ext k⟩)
  have H2 : Hid (∀ w', Ext w w' → Rd w' b (intsV cs) ∧ Rd w' b' (intsV cs)) := hid (fun w' k => ⟨h2.ext k, h2'.ext k⟩)
  clear h1 h2 h1' h2'
  go_enter Tryz.func13, Tryz.ntmps13
  go_wp2_with fail
  have hE : Ext w _ := ((Ext.refl w).alloc (.cells #[.string s, .slice a vs.length c, .slice b cs.length d, .int .i64 k] 34)).alloc (.cells #[.string s, .slice a' vs.length c', .slice b' cs.length d', .int .i64 k] 34)
  refine (eqInt64S_self a a' c c' vs _ (H1.out _ hE).1 (H1.out _ hE).2 l1).mono ?_
  rintro e w1 ⟨rfl, hD⟩
  obtain ⟨m1, rfl⟩ := hD
  go_wp2_with fail
  have hE2 := hE.drewN m1
  refine (eqInt64S_self b b' d d' cs _ (H2.out _ hE2).1 (H2.out _ hE2).2 l2).mono ?_
  rintro e w1 ⟨rfl, hD⟩
  obtain ⟨m2, rfl⟩ := hD
  go_wp2_with fail
  go_returns
  exact ⟨rfl, hE.drewN (m1 + m2)⟩
end Go.Proofs.YtcgedkpbobgkhaaGreatDoor
