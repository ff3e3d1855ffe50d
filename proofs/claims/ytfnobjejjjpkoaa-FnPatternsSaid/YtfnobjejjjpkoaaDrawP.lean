/- What the law on patterns draws: a pattern and a word. Conditions: at most 2^20 bytes to choose from. -/
import Derived.Test.YtfnobjejjjpkoaaDrawM
import Derived.Test.YtfnobjejjjpkoaaCh11a
namespace Go.Proofs.Ytfnobjejjjpkoaa
set_option linter.unusedVariables false
set_option linter.unusedSimpArgs false
open Go Go.RowKit
theorem bytesV_set0 (l : List UInt8) (k : Nat) (x : UInt8) : (bytesV l).set k (.int .u8 x.toNat) = bytesV (l.set k x) := by
  rw [bytesV, bytesV, List.map_set]
/-- A pattern and a word that are drawn. -/
def RetP2 (w : World) (e : Ending) (w' : World) : Prop := ∃ p y : ByteArray, e = .returned (.tuple #[.string p, .string y]) ∧ p.size ≤ 1000 ∧ y.size ≤ 1000 ∧ Ext w w'
set_option maxRecDepth 100000 in
set_option maxHeartbeats 2000000 in
theorem DrawMatchPattern_any (a : Option Addr) (c : Nat) (l : List UInt8) (w : World) (hr : Rd w a (bytesV l)) (hl : l.length ≤ 1048576) :
    Calls Try.prog 27 #[.slice a l.length c] w (RetP2 w) := by
  have HR := hid hr
  clear hr
  go_enter Try.func27, Try.ntmps27
  go_wp2_with fail
  refine (l00From_any a c l _ HR.out hl).mono ?_
  rintro e w1 ⟨rfl, hx, hS⟩
  obtain ⟨g, hg⟩ : ∃ g, w.heap.size = g := ⟨_, rfl⟩
  have HX1 := hid hx
  rw [hg] at hS ⊢
  have HS1 := hid hS
  have hgw : w.heap.size ≤ g := by omega
  clear hx hS hg
  go_wp2_with fail
  refine (l05Word_any g 0 _ HS1.out (by omega)).mono ?_
  rintro e w2 ⟨v, rfl, ⟨y, hy, rfl⟩, hE2, hS2⟩
  have HX2 := hid (HX1.out.exc hE2 hgw)
  have HS2 := hid hS2
  clear hE2 hS2 HX1 HS1
  go_wp2_with fail
  refine (l10Draw_any g _ _ HS2.out (by omega)).mono ?_
  rintro e w3 ⟨v, rfl, ⟨p, hp, rfl⟩, hE3, hS3⟩
  have HX3 := hid (HX2.out.exc hE3 hgw)
  have HS3 := hid hS3
  clear hE3 hS3 HX2 HS2
  go_wp2_with fail
  refine (one_any g _ 2 _ HS3.out (by omega)).mono ?_
  rintro e w4 ⟨v, rfl, ⟨b, rfl⟩, hE4, hS4⟩
  have HX4 := hid (HX3.out.exc hE4 hgw)
  have HS4 := hid hS4
  have HG := hid hS4.lt
  clear hE4 hS4 HX3 HS3
  cases b
  · go_wp2_with fail
    go_returns
    exact ⟨p, y, rfl, hp, by omega, HX4.out⟩
  by_cases h0 : y.size ≤ 0
  · go_wp2_with fail
    go_returns
    exact ⟨p, y, rfl, hp, by omega, HX4.out⟩
  by_cases h12 : 12 < y.size
  · go_wp2_with fail
    go_returns
    exact ⟨p, y, rfl, hp, by omega, HX4.out⟩
  go_wp2_with (refine wpList_bytes rfl _ 9 32 rfl Try.underlying9 Try.underlying32 Try.underlying5 rfl ?_; intro cp w5 hwr hcap hx hsz1; have HW5 := hid hwr; have HX5 := hid (HX4.out.trans hx); have HS5 := hid (HS4.out.ext hx); clear hwr hcap hx hsz1 HX4 HS4)
  refine (pick_any g _ 4 _ HS5.out (by omega)).mono ?_
  rintro e w6 ⟨v, rfl, ⟨x, hx0, hx1, rfl⟩, hE6, hS6⟩
  obtain ⟨b, hb⟩ : ∃ b, w4.heap.size = b := ⟨_, rfl⟩
  have hgb : g < b := by have := HG.out; omega
  have HB := hid hb
  have hwb : w.heap.size ≤ b := by omega
  have HX6 := hid (HX5.out.exc hE6 hgw)
  have HS6 := hid hS6
  have HW6 : Hid (Wr w6 b (bytesV y.data.toList)) := hid (by
    rw [hb] at HW5
    obtain ⟨h1, h2, h3⟩ := HW5.out
    exact ⟨Nat.lt_of_lt_of_le h1 hE6.size, fun j u hj => hE6.cell (h2 j u hj) (by omega), fun j hj => by rw [hE6.frozen j h1 (by omega)]; exact h3 j hj⟩)
  have HL : Hid (y.data.toList.length = y.size) := hid (by simp)
  clear hE6 hS6 HX5 HS5 HW5 hb
  go_wp2_with fail
  simp only [HB.out]
  go_loopw [8] (fun i wr => ∃ (z : Int) (L : List UInt8), 0 ≤ z ∧ z ≤ x ∧ i = .int .i64 z ∧ Hid (L.length = y.size) ∧ Hid (Ext w wr ∧ Src wr g (48 + 2 + 4 * (x - z).toNat) ∧ Wr wr b (bytesV L))) (fun i _ => (intOf i).toNat)
  case atStart => exact ⟨x, y.data.toList, by omega, by omega, rfl, HL, hid ⟨HX6.out, HS6.out.up (by omega), HW6.out⟩⟩
  case round =>
    clear HX6 HS6 HW6 HL
    obtain ⟨z, L, hz0, hz1, rfl, HL, HW⟩ := hrel
    have hx4 : x ≤ 3 := by omega
    by_cases hlt : 0 < z
    · obtain ⟨hX, hS, hW⟩ := HW.out
      have HX := hid hX
      have HS := hid hS
      have HWr := hid hW
      clear HW hX hS hW
      go_wp2_with fail
      refine (pick_any g _ _ _ HS.out (by omega)).mono ?_
      rintro e w7 ⟨v, rfl, ⟨q, hq0, hq1, rfl⟩, hE7, hS7⟩
      obtain ⟨j, rfl⟩ : ∃ j : Nat, q = (j : Int) := ⟨q.toNat, by omega⟩
      have hj : j < y.size := by omega
      have HX7 := hid (HX.out.exc hE7 hgw)
      have HS7 := hid hS7
      have HW7 : Hid (Wr w7 b (bytesV L)) := hid (by
        obtain ⟨h1, h2, h3⟩ := HWr.out
        exact ⟨Nat.lt_of_lt_of_le h1 hE7.size, fun j u hj => hE7.cell (h2 j u hj) (by omega), fun j hj => by rw [hE7.frozen j h1 (by omega)]; exact h3 j hj⟩)
      clear hE7 hS7 HX HS HWr
      go_wp2_with fail
      refine (text_any g _ (some ⟨w7.heap.size, 0, none⟩) 5 [⟨#[46]⟩, ⟨#[64]⟩, ⟨#[35]⟩, ⟨#[42]⟩, ⟨#[46]⟩] _ (HS7.out.ext ((Ext.refl w7).alloc _)) (by omega) (rd_new rfl _ _) (by decide) (by decide) (fun x e => by cases e; exact Nat.ne_of_gt HS7.out.lt)).mono ?_
      rintro e w8 ⟨v, rfl, ⟨s, hs, rfl⟩, hE8, hS8⟩
      have hs1 : 0 < s.size := by
        have := List.all_eq_true.1 (show ([⟨#[46]⟩, ⟨#[64]⟩, ⟨#[35]⟩, ⟨#[42]⟩, ⟨#[46]⟩] : List ByteArray).all (fun s => decide (1 ≤ s.size)) = true by decide) s hs
        simp only [decide_eq_true_eq] at this
        omega
      have hx7 : Ext w7 (w7.alloc (.cells (([⟨#[46]⟩, ⟨#[64]⟩, ⟨#[35]⟩, ⟨#[42]⟩, ⟨#[46]⟩] : List ByteArray).map Value.string).toArray 9)) := (Ext.refl w7).alloc _
      have HX8 := hid ((HX7.out.trans hx7).exc hE8 hgw)
      have HS8 := hid hS8
      have HW8 : Hid (Wr w8 b (bytesV L)) := hid (by
        obtain ⟨h1, h2, h3⟩ := HW7.out.ext hx7
        exact ⟨Nat.lt_of_lt_of_le h1 hE8.size, fun j u hj => hE8.cell (h2 j u hj) (by omega), fun j hj => by rw [hE8.frozen j h1 (by omega)]; exact h3 j hj⟩)
      obtain ⟨u, hu⟩ : ∃ u, s[0] = u := ⟨_, rfl⟩
      have hjL : j < (bytesV L).length := by rw [bytesV_length, HL.out]; exact hj
      obtain ⟨f1, f2⟩ := HW8.out.fit j hjL
      obtain ⟨v0, hv0⟩ : ∃ v0, (bytesV L)[j] = v0 := ⟨_, rfl⟩
      rw [hv0] at f1
      have HN := HW8.out.set j hjL (.int .u8 u.toNat)
      rw [bytesV_set0] at HN
      have HN2 := hid HN
      clear hv0 HN hE8 hS8 hx7 hs HX7 HS7 HW7
      go_wp2_with fail
      go_roundw
      case rel => exact ⟨z - 1, L.set j u, by omega, by omega, by go_num, hid (by rw [List.length_set]; exact HL.out), hid ⟨HX8.out.setCell hwb _, (HS8.out.exc ((Exc.refl b w8).setCell j _) hgb).up (by omega), HN2.out⟩⟩
      case measure => simp [intOf]; omega
    · go_wp2_with (refine wpList_str rfl _ 32 9 rfl Try.underlying32 Try.underlying5 Try.underlying9 rfl (l := L) HL.out.symm HW.out.2.2.rd ?_)
      go_returns
      refine ⟨_, y, rfl, ?_, by omega, HW.out.1⟩
      show L.toArray.size ≤ 1000
      rw [List.size_toArray, HL.out]
      omega
end Go.Proofs.Ytfnobjejjjpkoaa
