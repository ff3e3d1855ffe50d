/- Several texts in one: Ch11p, DrawB. Conditions: see each. -/
import Derived.Test.YtmohfdfjlgekaaaGreatDoorCh11o
section
namespace Go.Proofs.YtmohfdfjlgekaaaGreatDoor
set_option linter.unusedVariables false
set_option linter.unusedSimpArgs false
open Go Go.RowKit
def DrP (v : Value) : Prop := ∃ r c : Int, -2000 ≤ r ∧ r ≤ 2000 ∧ -2000 ≤ c ∧ c ≤ 2000 ∧ v = .tuple #[.int .i64 r, .int .i64 c]
theorem pk_le {n x : Int} (h0 : 0 ≤ x) (h : x < n ∨ x = 0) (hn : n ≤ 1000) : 0 ≤ x ∧ x ≤ 1000 := by omega
theorem inv_text1 {g k K h n c : Nat} {l : List ByteArray} {w : World} (hs : Src w g k) (hk : k ≤ 1099511627000) (hK : k + 2 ≤ K) (hgh : g < h) (hn : n = l.length) (h0 : 0 < n) (h1 : n ≤ 100) (hall : l.all (fun s => decide (1 ≤ s.size)) = true) (hrd : Rd w (some ⟨h, 0, none⟩) (l.map Value.string)) :
    invUpon Tryz.prog (fun v w' => (Exc g w w' ∧ Src w' g K) ∧ ∃ y : ByteArray, 1 ≤ y.size ∧ v = .string y) (.ok (.enter 65 #[.pointer (some ⟨g, 0, none⟩), .slice (some ⟨h, 0, none⟩) n c]) w) := by
  subst hn
  exact inv_drew (text_any g k (some ⟨h, 0, none⟩) c l w hs hk hrd h0 (by omega) (fun y e => by cases e; exact Nat.ne_of_gt hgh)) hK (fun v w' ⟨y, hy, e⟩ => ⟨y, by have := List.all_eq_true.1 hall y hy; simpa using this, e⟩)
theorem invUpon_mono {P : Program} {K K' : Value → World → Prop} {f : FuncId} {args : Array Value} {w : World} (h : invUpon P K (.ok (.enter f args) w)) (hk : ∀ v w', K v w' → K' v w') : invUpon P K' (.ok (.enter f args) w) :=
  inv_calls (h.mono fun _ _ ⟨v, he, hq⟩ => ⟨v, he, hk _ _ hq⟩)
/-- A board, a square and a cell that are drawn. -/
def DrSet (w : World) (e : Ending) (w' : World) : Prop := ∃ (n : Int) (p c : ByteArray) (r k z : Int), -1000 ≤ n ∧ n ≤ 1000 ∧ p.size ≤ 1000 ∧ c.size ≤ 1000 ∧ -2000 ≤ r ∧ r ≤ 2000 ∧ -2000 ≤ k ∧ k ≤ 2000 ∧ 0 ≤ z ∧ z < 256 ∧ e = .returned (.tuple #[boardV n p c, .int .i64 r, .int .i64 k, .int .u8 z]) ∧ Ext w w'
theorem Ext.toExt' {g : Nat} {w0 w w' : World} (h0 : Ext w0 w) (h : Exc g w w') (hg : w0.heap.size ≤ g) : Ext w0 w' :=
  (Exb.of_exc (lo := g) (hi := g + 1) h (Nat.le_refl _) (by omega)).ext0 h0 hg
def SetF (g : Nat) (n r k : Int) (P C : ByteArray) (i : Nat) (v : Value) (w : World) : Prop :=
  match i with
  | 0 => v = .agg #[.int .i64 n, .string P, .string C]
  | 1 => v = .int .i64 r
  | 2 => v = .int .i64 k
  | 3 => v = .pointer (some ⟨g, 0, none⟩)
  | 4 => ∃ h, v = .slice (some ⟨h, 0, none⟩) 7 7 ∧ g < h ∧ Rd w (some ⟨h, 0, none⟩) (([⟨#[97]⟩, ⟨#[122]⟩, ⟨#[65]⟩, ⟨#[46]⟩, ⟨#[63]⟩, ⟨#[49]⟩, ⟨#[113]⟩] : List ByteArray).map Value.string)
  | 5 => ∃ y : ByteArray, 1 ≤ y.size ∧ v = .string y
  | 6 => ∃ z : Int, 0 ≤ z ∧ z < 256 ∧ v = .int .u8 z
  | 8 => v = .int .i64 r
  | 9 => v = .int .i64 k
  | _ => True
def SetW (g B R K : Nat) (n : Int) (P C : ByteArray) (w0 : World) (d : Nat → Bool) (w : World) : Prop :=
  Ext w0 w ∧ Bk w B n P C ∧ (d 5 = false → Src w g K) ∧ (if d 7 = true then Bk w R n P C else Bk w R 0 ⟨#[]⟩ ⟨#[]⟩)
theorem SetF.ext {g : Nat} {n r k : Int} {P C : ByteArray} {i : Nat} {v : Value} {w w' : World} (h : SetF g n r k P C i v w) (e : Ext w w') : SetF g n r k P C i v w' := by
  unfold SetF at *
  split at h <;> try exact h
  obtain ⟨h, h1, h2, h3⟩ := h
  exact ⟨h, h1, h2, h3.ext e⟩
theorem SetF.exc {g b : Nat} {n r k : Int} {P C : ByteArray} {i : Nat} {v : Value} {w w' : World} (h : SetF g n r k P C i v w) (e : Exc b w w') (hb : b ≤ g) : SetF g n r k P C i v w' := by
  unfold SetF at *
  split at h <;> try exact h
  obtain ⟨h, h1, h2, h3⟩ := h
  exact ⟨h, h1, h2, e.rd h3 (by omega)⟩
theorem SetW.ext {g B R K : Nat} {n : Int} {P C : ByteArray} {w0 w w' : World} {d : Nat → Bool} (h : SetW g B R K n P C w0 d w) (e : Ext w w') (i : Nat) (h5 : i ≠ 5) (h7 : i ≠ 7) : SetW g B R K n P C w0 (updB d i) w' := by
  obtain ⟨a, b, c, q⟩ := h
  refine ⟨a.trans e, b.ext e, fun x => (c (by simpa [updB, Ne.symm h5] using x)).ext e, ?_⟩
  have e7 : updB d i 7 = d 7 := by simp [updB, Ne.symm h7]
  rw [e7]
  by_cases h : d 7 = true
  · rw [if_pos h] at q ⊢
    exact q.ext e
  · rw [if_neg h] at q ⊢
    exact q.ext e
theorem SetW.draw {g B R K : Nat} {n : Int} {P C : ByteArray} {w0 w w' : World} {d : Nat → Bool} (h : SetW g B R K n P C w0 d w) (e : Exc g w w') (hB : B ≠ g) (hR : R ≠ g) (h0 : w0.heap.size ≤ g) : SetW g B R K n P C w0 (updB d 5) w' := by
  obtain ⟨a, b, c, q⟩ := h
  refine ⟨a.toExt' e h0, b.exc e hB, fun x => by simp [updB] at x, ?_⟩
  have e7 : updB d 5 7 = d 7 := by simp [updB]
  rw [e7]
  by_cases h : d 7 = true
  · rw [if_pos h] at q ⊢
    exact q.exc e hR
  · rw [if_neg h] at q ⊢
    exact q.exc e hR
theorem SetW.put {g B R K : Nat} {n : Int} {P C : ByteArray} {w0 w : World} {d : Nat → Bool} (h : SetW g B R K n P C w0 d w) (h5 : d 5 = true) (hB : B ≠ R) (h0 : w0.heap.size ≤ R) : SetW g B R K n P C w0 (updB d 7) (put3 w R n P C) := by
  obtain ⟨a, b, c, q⟩ := h
  refine ⟨a.toExt' (exc_put3 w R n P C) h0, b.exc (exc_put3 w R n P C) hB, fun x => by simp [updB, h5] at x, ?_⟩
  rw [if_pos (by simp [updB])]
  split at q
  · exact q.put n P C
  · exact q.put n P C
end Go.Proofs.YtmohfdfjlgekaaaGreatDoor
end
section
namespace Go.Proofs.YtmohfdfjlgekaaaGreatDoor
set_option linter.unusedVariables false
set_option linter.unusedSimpArgs false
open Go Go.RowKit
/-- A board that is drawn. -/
def DrBd (w : World) (e : Ending) (w' : World) : Prop := ∃ (n : Int) (p c : ByteArray), -1000 ≤ n ∧ n ≤ 1000 ∧ p.size ≤ 1000 ∧ c.size ≤ 1000 ∧ e = .returned (boardV n p c) ∧ Ext w w'
set_option maxHeartbeats 1000000 in
theorem DrawWordsOn_any (a : Option Addr) (c : Nat) (l : List UInt8) (w : World) (hr : Rd w a (bytesV l)) (hl : l.length ≤ 1048576) :
    Calls Tryz.prog 6 #[.slice a l.length c] w (DrBd w) := by
  have HR := hid hr
  have hx0 : Ext w (w.alloc (.cells #[.int .i64 0, .string ⟨#[]⟩, .string ⟨#[]⟩] 25)) := (Ext.refl w).alloc _
  clear hr
  go_enter Tryz.func6, Tryz.ntmps6
  go_wp2_with fail
  refine (l00From_any a c l _ (HR.out.ext hx0) hl).mono ?_
  rintro e w1 ⟨rfl, hx1, hs1⟩
  have BR1 := hid ((Bk.new w 25).ext hx1)
  have HX1 := hid (hx0.trans hx1)
  obtain ⟨g, hg⟩ : ∃ g, (w.alloc (.cells #[.int .i64 0, .string ⟨#[]⟩, .string ⟨#[]⟩] 25)).heap.size = g := ⟨_, rfl⟩
  have hgw : g = w.heap.size + 1 := by rw [← hg]; simp
  rw [hg] at hs1
  rw [hg]
  have HS1 := hid hs1
  have hgR : w.heap.size < g := by omega
  clear hs1 hx0 hx1 hg hgw
  go_wp2_with fail
  refine (l11Bent_any g 0 _ HS1.out (by omega)).mono ?_
  rintro e w2 ⟨v, rfl, ⟨n, P, C, n0, n1, hp, hc, rfl⟩, hE1, hS1⟩
  have HX2 := hid ((HX1.out.toExt' hE1 (by omega)).toExt' (exc_put3 _ w.heap.size n P C) (Nat.le_refl _))
  obtain ⟨⟨r0, r1, r2⟩, rf⟩ := BR1.out.exc hE1 (by omega)
  have rf0 := rf 0
  have rf1 := rf 1
  have rf2 := rf 2
  clear hE1 hS1 rf BR1 HX1 HS1
  go_wp2_with fail
  refine bodyPost_ret (v := boardV n P C) (by simp [results, Tryz.results6, go_sem, r0, r1, r2, rf0, rf1, rf2, boardV]) rfl ⟨n, P, C, n0, n1, hp, hc, rfl, HX2.out⟩
set_option maxHeartbeats 1000000 in
theorem DrawTransposeBoard_any (a : Option Addr) (c : Nat) (l : List UInt8) (w : World) (hr : Rd w a (bytesV l)) (hl : l.length ≤ 1048576) :
    Calls Tryz.prog 18 #[.slice a l.length c] w (DrBd w) := by
  have HR := hid hr
  have hx0 : Ext w (w.alloc (.cells #[.int .i64 0, .string ⟨#[]⟩, .string ⟨#[]⟩] 25)) := (Ext.refl w).alloc _
  clear hr
  go_enter Tryz.func18, Tryz.ntmps18
  go_wp2_with fail
  refine (l00From_any a c l _ (HR.out.ext hx0) hl).mono ?_
  rintro e w1 ⟨rfl, hx1, hs1⟩
  have BR1 := hid ((Bk.new w 25).ext hx1)
  have HX1 := hid (hx0.trans hx1)
  obtain ⟨g, hg⟩ : ∃ g, (w.alloc (.cells #[.int .i64 0, .string ⟨#[]⟩, .string ⟨#[]⟩] 25)).heap.size = g := ⟨_, rfl⟩
  have hgw : g = w.heap.size + 1 := by rw [← hg]; simp
  rw [hg] at hs1
  rw [hg]
  have HS1 := hid hs1
  have hgR : w.heap.size < g := by omega
  clear hs1 hx0 hx1 hg hgw
  go_wp2_with fail
  refine (l11Bent_any g 0 _ HS1.out (by omega)).mono ?_
  rintro e w2 ⟨v, rfl, ⟨n, P, C, n0, n1, hp, hc, rfl⟩, hE1, hS1⟩
  have HX2 := hid ((HX1.out.toExt' hE1 (by omega)).toExt' (exc_put3 _ w.heap.size n P C) (Nat.le_refl _))
  obtain ⟨⟨r0, r1, r2⟩, rf⟩ := BR1.out.exc hE1 (by omega)
  have rf0 := rf 0
  have rf1 := rf 1
  have rf2 := rf 2
  clear hE1 hS1 rf BR1 HX1 HS1
  go_wp2_with fail
  refine bodyPost_ret (v := boardV n P C) (by simp [results, Tryz.results18, go_sem, r0, r1, r2, rf0, rf1, rf2, boardV]) rfl ⟨n, P, C, n0, n1, hp, hc, rfl, HX2.out⟩
end Go.Proofs.YtmohfdfjlgekaaaGreatDoor
end
