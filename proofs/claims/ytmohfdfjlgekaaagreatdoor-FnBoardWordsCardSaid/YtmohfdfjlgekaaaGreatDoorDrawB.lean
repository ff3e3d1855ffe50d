/- What FnBoardWords and FnBoards draw. Conditions: at most 2^20 bytes to draw from. -/
import Derived.Test.YtmohfdfjlgekaaaGreatDoorCh11p
namespace Go.Proofs.YtmohfdfjlgekaaaGreatDoor
set_option linter.unusedVariables false
set_option linter.unusedSimpArgs false
open Go Go.RowKit
/-- A board that is drawn. -/
def DrBd (w : World) (e : Ending) (w' : World) : Prop := ∃ (n : Int) (p c : ByteArray), -1000 ≤ n ∧ n ≤ 1000 ∧ p.size ≤ 1000 ∧ c.size ≤ 1000 ∧ e = .returned (boardV n p c) ∧ Ext w w'
set_option maxHeartbeats 1000000 in
theorem DrawWordsOn_any (a : Option Addr) (c : Nat) (l : List UInt8) (w : World) (hr : Rd w a (bytesV l)) (hl : l.length ≤ 1048576) :
    Calls Tryz.prog 6 #[.slice a l.length c] w (DrBd w) := by
  have HR := hid hr
  have hx0 : Ext w (w.alloc (.cells #[.int .i64 0, .string ⟨#[]⟩, .string ⟨#[]⟩] 25)) := (Ext.refl w).alloc _
  clear hr
  go_enter Tryz.func6, Tryz.ntmps6
  go_wp2_with fail
  refine (l00From_any a c l _ (HR.out.ext hx0) hl).mono ?_
  rintro e w1 ⟨rfl, hx1, hs1⟩
  have BR1 := hid ((Bk.new w 25).ext hx1)
  have HX1 := hid (hx0.trans hx1)
  obtain ⟨g, hg⟩ : ∃ g, (w.alloc (.cells #[.int .i64 0, .string ⟨#[]⟩, .string ⟨#[]⟩] 25)).heap.size = g := ⟨_, rfl⟩
  have hgw : g = w.heap.size + 1 := by rw [← hg]; simp
  rw [hg] at hs1
  rw [hg]
  have HS1 := hid hs1
  have hgR : w.heap.size < g := by omega
  clear hs1 hx0 hx1 hg hgw
  go_wp2_with fail
  refine (l11Bent_any g 0 _ HS1.out (by omega)).mono ?_
  rintro e w2 ⟨v, rfl, ⟨n, P, C, n0, n1, hp, hc, rfl⟩, hE1, hS1⟩
  have HX2 := hid ((HX1.out.toExt' hE1 (by omega)).toExt' (exc_put3 _ w.heap.size n P C) (Nat.le_refl _))
  obtain ⟨⟨r0, r1, r2⟩, rf⟩ := BR1.out.exc hE1 (by omega)
  have rf0 := rf 0
  have rf1 := rf 1
  have rf2 := rf 2
  clear hE1 hS1 rf BR1 HX1 HS1
  go_wp2_with fail
  refine bodyPost_ret (v := boardV n P C) (by simp [results, Tryz.results6, go_sem, r0, r1, r2, rf0, rf1, rf2, boardV]) rfl ⟨n, P, C, n0, n1, hp, hc, rfl, HX2.out⟩
set_option maxHeartbeats 1000000 in
theorem DrawTransposeBoard_any (a : Option Addr) (c : Nat) (l : List UInt8) (w : World) (hr : Rd w a (bytesV l)) (hl : l.length ≤ 1048576) :
    Calls Tryz.prog 18 #[.slice a l.length c] w (DrBd w) := by
  have HR := hid hr
  have hx0 : Ext w (w.alloc (.cells #[.int .i64 0, .string ⟨#[]⟩, .string ⟨#[]⟩] 25)) := (Ext.refl w).alloc _
  clear hr
  go_enter Tryz.func18, Tryz.ntmps18
  go_wp2_with fail
  refine (l00From_any a c l _ (HR.out.ext hx0) hl).mono ?_
  rintro e w1 ⟨rfl, hx1, hs1⟩
  have BR1 := hid ((Bk.new w 25).ext hx1)
  have HX1 := hid (hx0.trans hx1)
  obtain ⟨g, hg⟩ : ∃ g, (w.alloc (.cells #[.int .i64 0, .string ⟨#[]⟩, .string ⟨#[]⟩] 25)).heap.size = g := ⟨_, rfl⟩
  have hgw : g = w.heap.size + 1 := by rw [← hg]; simp
  rw [hg] at hs1
  rw [hg]
  have HS1 := hid hs1
  have hgR : w.heap.size < g := by omega
  clear hs1 hx0 hx1 hg hgw
  go_wp2_with fail
  refine (l11Bent_any g 0 _ HS1.out (by omega)).mono ?_
  rintro e w2 ⟨v, rfl, ⟨n, P, C, n0, n1, hp, hc, rfl⟩, hE1, hS1⟩
  have HX2 := hid ((HX1.out.toExt' hE1 (by omega)).toExt' (exc_put3 _ w.heap.size n P C) (Nat.le_refl _))
  obtain ⟨⟨r0, r1, r2⟩, rf⟩ := BR1.out.exc hE1 (by omega)
  have rf0 := rf 0
  have rf1 := rf 1
  have rf2 := rf 2
  clear hE1 hS1 rf BR1 HX1 HS1
  go_wp2_with fail
  refine bodyPost_ret (v := boardV n P C) (by simp [results, Tryz.results18, go_sem, r0, r1, r2, rf0, rf1, rf2, boardV]) rfl ⟨n, P, C, n0, n1, hp, hc, rfl, HX2.out⟩
end Go.Proofs.YtmohfdfjlgekaaaGreatDoor
