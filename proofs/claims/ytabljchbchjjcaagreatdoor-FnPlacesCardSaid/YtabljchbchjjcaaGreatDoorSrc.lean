/- The source of choices from which the laws draw: each choice moves it on; what is drawn lies within its bounds. Conditions: at most 2^40 choices so far. -/
import Derived.Test.YtabljchbchjjcaaGreatDoorMg1
import Derived.Test.YtabljchbchjjcaaGreatDoorFlowI
namespace Go.Proofs.YtabljchbchjjcaaGreatDoor
set_option linter.unusedVariables false
set_option linter.unusedSimpArgs false
open Go Go.RowKit
/-- A source at block g of which at most k bytes have been asked. -/
def Src (w : World) (g k : Nat) : Prop := ∃ (a : Option Addr) (n c : Nat) (l : List UInt8) (t : Nat) (z : Int), w.cell? ⟨g, 0, none⟩ = some (.slice a n c) ∧ n = l.length ∧ n ≤ 1048576 ∧ Rd w a (bytesV l) ∧ (0 < n → ∀ x, a = some x → x.block < g) ∧ w.cell? ⟨g, 1, none⟩ = some (.int .i64 (t : Int)) ∧ t ≤ k ∧ w.cell? ⟨g, 2, none⟩ = some (.int .u64 z) ∧ ∀ j, w.frozen? ⟨g, j, none⟩ = false
theorem Src.lt {w : World} {g k : Nat} (h : Src w g k) : g < w.heap.size := by
  obtain ⟨a, n, c, l, t, z, h0, _⟩ := h
  exact World.block_lt_of_cell? _ _ h0
theorem Src.ext {w w' : World} {g k : Nat} (h : Src w g k) (e : Ext w w') : Src w' g k := by
  have hl := h.lt
  obtain ⟨a, n, c, l, t, z, h0, h1, h2, h3, h4, h5, h6, h7, h8⟩ := h
  exact ⟨a, n, c, l, t, z, e.cell h0, h1, h2, h3.ext e, h4, e.cell h5, h6, e.cell h7, fun j => by rw [e.cells.2 _ _ hl]; exact h8 j⟩
theorem Src.up {w : World} {g k m : Nat} (h : Src w g k) (e : k ≤ m) : Src w g m := by
  obtain ⟨a, n, c, l, t, z, h0, h1, h2, h3, h4, h5, h6, h7, h8⟩ := h
  exact ⟨a, n, c, l, t, z, h0, h1, h2, h3, h4, h5, Nat.le_trans h6 e, h7, h8⟩
/-- A younger block may change. -/
theorem Src.exc {w w' : World} {g k b : Nat} (h : Src w g k) (e : Exc b w w') (hb : g < b) : Src w' g k := by
  have hl := h.lt
  obtain ⟨a, n, c, l, t, z, h0, h1, h2, h3, h4, h5, h6, h7, h8⟩ := h
  refine ⟨a, n, c, l, t, z, e.cell h0 (by omega), h1, h2, ?_, h4, e.cell h5 (by omega), h6, e.cell h7 (by omega), fun j => by rw [e.frozen j hl (by omega)]; exact h8 j⟩
  intro j u hj
  obtain ⟨b', o, ha, hcc⟩ := h3 j u hj
  have hn0 : 0 < n := by
    have := (List.getElem?_eq_some_iff.1 hj).1
    rw [bytesV_length] at this
    omega
  have := h4 hn0 _ ha
  simp only [] at this
  exact ⟨b', o, ha, e.cell hcc (by omega)⟩
/-- What a drawing function does: its value is one of those that F allows; of what there was the source alone has changed, by at most m bytes asked. -/
def Drew (g k m : Nat) (F : Value → World → Prop) (w : World) (e : Ending) (w' : World) : Prop := ∃ v, e = .returned v ∧ F v w' ∧ Exc g w w' ∧ Src w' g (k + m)
theorem Exc.trans {g : Nat} {x y z : World} (h : Exc g x y) (k : Exc g y z) : Exc g x z :=
  ⟨k.os.trans h.os, k.tape.trans h.tape, k.output.trans h.output, Nat.le_trans h.size k.size, fun q hq hg => (k.block q (Nat.lt_of_lt_of_le hq h.size) hg).trans (h.block q hq hg)⟩
theorem Exc.of_ext (g : Nat) {w w' : World} (h : Ext w w') : Exc g w w' := (Exc.refl g w).ext h
theorem Src.set {w : World} {g k : Nat} (h : Src w g k) (a b t m : Nat) (z : Int) (ht : t ≤ m) :
    Exc g w ((((w.drewN a).setCell ⟨g, 1, none⟩ (.int .i64 (t : Int))).setCell ⟨g, 2, none⟩ (.int .u64 z)).drewN b) ∧ Src ((((w.drewN a).setCell ⟨g, 1, none⟩ (.int .i64 (t : Int))).setCell ⟨g, 2, none⟩ (.int .u64 z)).drewN b) g m := by
  have e : Exc g w ((((w.drewN a).setCell ⟨g, 1, none⟩ (.int .i64 (t : Int))).setCell ⟨g, 2, none⟩ (.int .u64 z)).drewN b) :=
    ((((Exc.refl g w).ext ((Ext.refl _).drewN a)).setCell 1 _).setCell 2 _).ext ((Ext.refl _).drewN b)
  obtain ⟨a', n, c, l, t', z', h0, h1, h2, h3, h4, h5, h6, h7, h8⟩ := h
  have x : Ext w (w.drewN a) := (Ext.refl w).drewN a
  refine ⟨e, a', n, c, l, t, z, ?_, h1, h2, ?_, h4, ?_, ht, ?_, fun j => by simpa using h8 j⟩
  · refine ((Ext.refl _).drewN b).cell ?_
    rw [World.cell?_setCell_other _ _ _ _ (by simp), World.cell?_setCell_other _ _ _ _ (by simp)]
    exact x.cell h0
  · intro j u hj
    obtain ⟨b', o, ha, hcc⟩ := h3 j u hj
    exact ⟨b', o, ha, e.cell hcc (Nat.ne_of_lt (h4 (by
      have := (List.getElem?_eq_some_iff.1 hj).1
      rw [bytesV_length] at this
      omega) _ ha))⟩
  · refine ((Ext.refl _).drewN b).cell ?_
    rw [World.cell?_setCell_other _ _ _ _ (by simp)]
    exact World.cell?_setCell_same _ _ _ (x.cell h5)
  · refine ((Ext.refl _).drewN b).cell ?_
    exact World.cell?_setCell_same _ _ _ (u := .int .u64 z') (by rw [World.cell?_setCell_other _ _ _ _ (by simp)]; exact x.cell h7)
theorem and255 (x : Int) : 0 ≤ wrap64 (bits .and .u64 (IntKind.u64.wrap x / 1099511627776) 255) ∧ wrap64 (bits .and .u64 (IntKind.u64.wrap x / 1099511627776) 255) ≤ 255 := by
  have h0 : 0 ≤ IntKind.u64.wrap x ∧ IntKind.u64.wrap x < 18446744073709551616 := by
    simp only [IntKind.wrap, IntKind.bits, IntKind.signed]
    simp
    omega
  have h := bits_mask .u64 63 (by decide) (fun n h₀ h₁ => by rw [IntKind.wrap_u64]; omega) 8 (by decide) (IntKind.u64.wrap x / 1099511627776) (by omega) (by omega)
  have e : ((2 : Int) ^ 8 - 1) = 255 := by decide
  have e2 : ((2 : Int) ^ 8) = 256 := by decide
  rw [e, e2] at h
  rw [h]
  unfold wrap64
  omega
set_option maxHeartbeats 1000000 in
theorem next_any (g k : Nat) (w : World) (h : Src w g k) (hk : k ≤ 1099511627776) :
    Calls Tryz.prog 47 #[.pointer (some ⟨g, 0, none⟩)] w (Drew g k 1 (fun v _ => ∃ x : Int, 0 ≤ x ∧ x ≤ 255 ∧ v = .int .i64 x) w) := by
  have hS := h
  obtain ⟨a, n, c, l, t, z, h0, h1, h2, h3, h4, h5, h6, h7, h8⟩ := h
  have f0 := h8 0
  have f1 := h8 1
  have f2 := h8 2
  by_cases hlt : t < n
  · obtain ⟨b, o, rfl, hc⟩ := h3.at (by rw [bytesV_length]; omega)
    obtain ⟨x, hx⟩ : ∃ x : UInt8, l[t]? = some x := ⟨l[t]'(by omega), List.getElem?_eq_getElem _⟩
    have hx1 := hc t (.int .u8 x.toNat) (by rw [bytesV_get, hx]; rfl)
    have hxb : x.toNat < 256 := x.toNat_lt
    have hne : b ≠ g := Nat.ne_of_lt (h4 (by omega) _ rfl)
    have HS := hid hS
    have H1 := hid h1
    clear h1 h3 h4 h8 hc hx hS
    go_enter Tryz.func47, Tryz.ntmps47
    go_wp2_with fail
    go_quiet (fail)
    go_wp2_with fail
    go_quiet (fail)
    go_wp2_with fail
    go_quiet (fail)
    go_wp2_with fail
    go_returns
    have hq := HS.out.set 0 0 (t + 1) (k + 1) 0 (by omega)
    refine ⟨_, rfl, ⟨_, by omega, by omega, rfl⟩, ?_⟩
    exact HS.out.set _ _ (t + 1) (k + 1) _ (by omega)
  · have HS := hid hS
    clear h1 h3 h4 h8 hS
    have hn1 : ¬ ((t : Int) + 1 ≤ (n : Int)) := by omega
    go_enter Tryz.func47, Tryz.ntmps47
    go_wp2_with fail
    go_quiet (fail)
    go_wp2_with fail
    go_quiet (fail)
    go_wp2_with fail
    go_returns
    refine ⟨_, rfl, ⟨_, (and255 _).1, (and255 _).2, rfl⟩, ?_⟩
    exact HS.out.set _ _ (t + 1) (k + 1) _ (by omega)
/-- A number that pick may give. -/
def Pk (n : Int) (v : Value) : Prop := ∃ x : Int, 0 ≤ x ∧ (x < n ∨ x = 0) ∧ v = .int .i64 x
set_option maxHeartbeats 1000000 in
theorem pick_any (g k : Nat) (n : Int) (w : World) (h : Src w g k) (hk : k ≤ 1099511627000) :
    Calls Tryz.prog 27 #[.pointer (some ⟨g, 0, none⟩), .int .i64 n] w (Drew g k 2 (fun v _ => Pk n v) w) := by
  have HS := hid h
  clear h
  by_cases h1 : n ≤ 1
  · go_enter Tryz.func27, Tryz.ntmps27
    go_wp2_with fail
    go_returns
    exact ⟨_, rfl, ⟨0, by omega, .inr rfl, rfl⟩, Exc.refl _ _, HS.out.up (by omega)⟩
  · by_cases h2 : n ≤ 200
    · go_enter Tryz.func27, Tryz.ntmps27
      go_wp2_with fail
      refine (next_any g k _ HS.out (by omega)).mono ?_
      rintro e w1 ⟨v, rfl, ⟨x, hx0, hx1, rfl⟩, hE1, hS1⟩
      have HE := hid hE1
      have HT := hid hS1
      clear hE1 hS1
      have hm0 : 0 ≤ x % n := Int.emod_nonneg _ (by omega)
      have hm1 : x % n < n := Int.emod_lt_of_pos _ (by omega)
      go_wp2_with fail
      go_returns
      exact ⟨_, rfl, ⟨x % n, hm0, .inl hm1, rfl⟩, HE.out, HT.out.up (by omega)⟩
    · go_enter Tryz.func27, Tryz.ntmps27
      go_wp2_with fail
      refine (next_any g k _ HS.out (by omega)).mono ?_
      rintro e w1 ⟨v, rfl, ⟨x, hx0, hx1, rfl⟩, hE1, hS1⟩
      have HE := hid hE1
      have HT := hid hS1
      clear hE1 hS1
      go_wp2_with fail
      refine (next_any g (k + 1) _ HT.out (by omega)).mono ?_
      rintro e w2 ⟨v, rfl, ⟨y, hy0, hy1, rfl⟩, hE2, hS2⟩
      have HE2 := hid hE2
      have HT2 := hid hS2
      clear hE2 hS2
      have hm0 : 0 ≤ (x * 256 + y) % n := Int.emod_nonneg _ (by omega)
      have hm1 : (x * 256 + y) % n < n := Int.emod_lt_of_pos _ (by omega)
      go_wp2_with fail
      go_returns
      exact ⟨_, rfl, ⟨(x * 256 + y) % n, hm0, .inl hm1, rfl⟩, HE.out.trans HE2.out, HT2.out.up (by omega)⟩
theorem text_any (g k : Nat) (a : Option Addr) (c : Nat) (l : List ByteArray) (w : World) (h : Src w g k) (hk : k ≤ 1099511627000) (hr : Rd w a (l.map Value.string)) (hl : 0 < l.length) (hl2 : l.length ≤ 1048576) (ha : ∀ x, a = some x → x.block ≠ g) :
    Calls Tryz.prog 20 #[.pointer (some ⟨g, 0, none⟩), .slice a l.length c] w (Drew g k 2 (fun v _ => ∃ x ∈ l, v = .string x) w) := by
  obtain ⟨b, o, rfl, hc⟩ := hr.at (by simpa using hl)
  have hne := ha _ rfl
  simp only [] at hne
  clear ha
  have HC := hid hc
  have HS := hid h
  clear hc hr h
  go_enter Tryz.func20, Tryz.ntmps20
  go_wp2_with fail
  refine (pick_any g k _ _ HS.out hk).mono ?_
  rintro e w1 ⟨v, rfl, ⟨x, hx0, hx1, rfl⟩, hE1, hS1⟩
  obtain ⟨j, rfl⟩ : ∃ j : Nat, x = (j : Int) := ⟨x.toNat, by omega⟩
  have hj : j < l.length := by omega
  obtain ⟨y, hy⟩ : ∃ y, l[j]? = some y := ⟨l[j], List.getElem?_eq_getElem hj⟩
  have hcell := hE1.cell (HC.out j (.string y) (by rw [List.getElem?_map, hy]; rfl)) hne
  have HY := hid (List.mem_of_getElem? hy)
  have HE := hid hE1
  have HT := hid hS1
  clear hE1 hS1 hy
  go_wp2_with fail
  go_returns
  exact ⟨_, rfl, ⟨y, HY.out, rfl⟩, HE.out, HT.out⟩
theorem l00From_any (a : Option Addr) (c : Nat) (l : List UInt8) (w : World) (hr : Rd w a (bytesV l)) (hl : l.length ≤ 1048576) :
    Calls Tryz.prog 16 #[.slice a l.length c] w (fun e w' => e = .returned (.pointer (some ⟨w.heap.size, 0, none⟩)) ∧ Ext w w' ∧ Src w' w.heap.size 0) := by
  have HR := hid hr
  have HA : Hid (0 < l.length → ∀ x, a = some x → x.block < w.heap.size) := hid (fun h x e => by
    obtain ⟨b, o, e2, hc⟩ := hr.at (by rw [bytesV_length]; exact h)
    rw [e] at e2
    cases e2
    obtain ⟨u, hu⟩ : ∃ u, (bytesV l)[0]? = some u := ⟨_, List.getElem?_eq_getElem (by rw [bytesV_length]; exact h)⟩
    exact World.block_lt_of_cell? _ _ (hc 0 u hu))
  clear hr
  go_enter Tryz.func16, Tryz.ntmps16
  go_wp2_with fail
  go_returns
  have hx : Ext w (w.alloc (.cells #[.slice a l.length c, .int .i64 0, .int .u64 0] 68)) := (Ext.refl w).alloc _
  exact ⟨rfl, hx, a, l.length, c, l, 0, 0, by simp, rfl, hl, HR.out.ext hx, HA.out, by simp, Nat.le_refl _, by simp, fun j => by simp⟩
/-- A draw as the one operation of a region that changes what was there. -/
theorem inv_drew {P : Program} {f : FuncId} {args : Array Value} {g k m K : Nat} {F F' : Value → World → Prop} {w : World} (h : Calls P f args w (Drew g k m F w)) (hK : k + m ≤ K) (hF : ∀ v w', F v w' → F' v w') :
    invUpon P (fun v w' => (Exc g w w' ∧ Src w' g K) ∧ F' v w') (.ok (.enter f args) w) :=
  inv_calls (h.mono fun _ _ ⟨v, he, hf, hx, hs⟩ => ⟨v, he, ⟨hx, hs.up hK⟩, hF _ _ hf⟩)
theorem inv_text {g k K h n c : Nat} {l : List ByteArray} {w : World} (hs : Src w g k) (hk : k ≤ 1099511627000) (hK : k + 2 ≤ K) (hgh : g < h) (hn : n = l.length) (h0 : 0 < n) (h1 : n ≤ 100) (hall : l.all (fun s => decide (s.size ≤ 100)) = true) (hrd : Rd w (some ⟨h, 0, none⟩) (l.map Value.string)) :
    invUpon Tryz.prog (fun v w' => (Exc g w w' ∧ Src w' g K) ∧ ∃ y : ByteArray, y.size ≤ 100 ∧ v = .string y) (.ok (.enter 20 #[.pointer (some ⟨g, 0, none⟩), .slice (some ⟨h, 0, none⟩) n c]) w) := by
  subst hn
  exact inv_drew (text_any g k (some ⟨h, 0, none⟩) c l w hs hk hrd h0 (by omega) (fun y e => by cases e; exact Nat.ne_of_gt hgh)) hK (fun v w' ⟨y, hy, e⟩ => ⟨y, by have := List.all_eq_true.1 hall y hy; simpa using this, e⟩)
end Go.Proofs.YtabljchbchjjcaaGreatDoor
