/- What FnLexicons and FnPlaces draw. Conditions: at most 2^20 bytes to draw from. -/
import Derived.Test.YtflpiebiacainaaDoorDrawV
import Derived.Test.YtflpiebiacainaaDoorF6
namespace Go.Proofs.YtflpiebiacainaaDoor
set_option linter.unusedVariables false
set_option linter.unusedSimpArgs false
open Go Go.RowKit
/-- A lexicon that is drawn. -/
def DrLx (most : Int) (w : World) (e : Ending) (w' : World) : Prop := ∃ (a : Option Addr) (c : Nat) (L : List ByteArray), e = .returned (.agg #[.slice a L.length c]) ∧ Rd w' a (strsV L) ∧ (L.length : Int) ≤ most ∧ Rise L ∧ (∀ s ∈ L, s ∈ someL) ∧ Ext w w'
theorem Ext.exc {g : Nat} {w0 w w' : World} (h0 : Ext w0 w) (h : Exc g w w') (hg : w0.heap.size ≤ g) : Ext w0 w' := h0.thenBelow (h.below hg h0.size) (Nat.le_refl _)
set_option maxHeartbeats 1000000 in
theorem A2Lexicon_any (a : Option Addr) (c : Nat) (l : List UInt8) (w : World) (hr : Rd w a (bytesV l)) (hl : l.length ≤ 1048576) :
    Calls Tryd.prog 5 #[.slice a l.length c] w (DrLx 16 w) := by
  have hx0 := (Ext.refl w).alloc (.cells #[.slice none 0 0] 26)
  have HR := hid (hr.ext hx0)
  have L0 : Hid (Lk (w.alloc (.cells #[.slice none 0 0] 26)) w.heap.size (.slice none 0 0)) := hid (Lk.new w _)
  clear hr
  go_enter Tryd.func5, Tryd.ntmps5
  go_wp2_with fail
  refine (l00From_any a c l _ HR.out hl).mono ?_
  rintro e w1 ⟨rfl, hx1, hs1⟩
  have L1 := hid (L0.out.ext hx1)
  have HX1 := hid (hx0.trans hx1)
  obtain ⟨g, hg⟩ : ∃ g, (w.alloc (.cells #[.slice none 0 0] 26)).heap.size = g := ⟨_, rfl⟩
  have hgw : g = w.heap.size + 1 := by rw [← hg]; simp
  rw [hg] at hs1
  rw [hg]
  have HS1 := hid hs1
  have hgR : w.heap.size < g := by omega
  clear hs1 hx0 hx1 hg hgw L0
  go_wp2_with fail
  refine (l05Draw_ok g 0 16 _ HS1.out (by omega) (by omega) (by omega)).mono ?_
  rintro e w2 ⟨v, rfl, ⟨a', c', L, rfl, ho, hn, hri, hso⟩, hE1, hS1⟩
  have HO := hid ho
  have HRI := hid hri
  have HSO := hid hso
  have HX2 := hid (HX1.out.exc hE1 (by omega))
  have L2 := hid (L1.out.exc hE1 (by omega))
  have r0 := L2.out.1
  have rf := L2.out.2 0
  have q0 := (L2.out.set (.slice a' L.length c')).1
  have qf := (L2.out.set (.slice a' L.length c')).2 0
  have hz1 := HX1.out.size
  have hw1 : w.heap.size < w1.heap.size := by have := HS1.out.lt; omega
  clear ho hri hso hE1 hS1 L1 HX1 HS1
  go_wp2_with fail
  refine bodyPost_ret (v := .agg #[.slice a' L.length c']) (by simp [results, Tryd.results5, go_sem, q0, qf]) rfl ⟨a', c', L, rfl, ?_, hn, HRI.out, HSO.out, HX2.out.setCell (Nat.le_refl _) _⟩
  exact (HO.out.exc ((Exc.refl w.heap.size w2).setCell 0 _) (by omega)).rd
theorem A2Word_any (a : Option Addr) (c : Nat) (l : List UInt8) (w : World) (hr : Rd w a (bytesV l)) (hl : l.length ≤ 1048576) :
    Calls Tryd.prog 6 #[.slice a l.length c] w fun e w' => ∃ y ∈ someL, e = .returned (.string y) ∧ Ext w w' := by
  have HR := hid hr
  clear hr
  go_enter Tryd.func6, Tryd.ntmps6
  go_wp2_with fail
  refine (l00From_any a c l _ HR.out hl).mono ?_
  rintro e w1 ⟨rfl, hx1, hs1⟩
  have HX1 := hid hx1
  have HS1 := hid hs1
  clear hx1 hs1
  go_wp2_with fail
  refine (l05Some_any _).mono ?_
  rintro e w2 ⟨a', c', rfl, ho, hx⟩
  have HX2 := hid (HX1.out.trans hx)
  have HS2 := hid (HS1.out.ext hx)
  have HRd := hid ho.rd
  have HNE : Hid (∀ x, a' = some x → x.block ≠ w.heap.size) := hid (fun x e => by
    obtain ⟨g, h1, h2, -⟩ := ho.form (by rw [some_len]; omega)
    rw [h1] at e
    cases e
    have := HS1.out.lt
    show g ≠ w.heap.size
    omega)
  clear hx ho
  go_wp2_with fail
  refine (text_any w.heap.size 0 a' c' someL _ HS2.out (by omega) HRd.out (by rw [some_len]; omega) (by rw [some_len]; omega) HNE.out).mono ?_
  rintro e w3 ⟨v, rfl, ⟨y, hy, rfl⟩, hE, hS⟩
  have HX3 := hid (HX2.out.exc hE (Nat.le_refl _))
  have HY := hid hy
  clear hE hS hy
  go_wp2_with fail
  go_returns
  exact ⟨y, HY.out, rfl, HX3.out⟩
theorem a2Long_any (a b : Option Addr) (c d : Nat) (l m : List UInt8) (w : World) (hl : l.length ≤ maxLen) (hm : m.length ≤ maxLen) : Calls Tryd.prog 4 #[.slice a l.length c, .slice b m.length d] w (Same (.bool (decide (3000 < l.length) || decide (3000 < m.length))) w) := by
  obtain ⟨x, hx⟩ : ∃ x, l.length = x := ⟨_, rfl⟩
  obtain ⟨y, hy⟩ : ∃ y, m.length = y := ⟨_, rfl⟩
  rw [hx] at hl ⊢
  rw [hy] at hm ⊢
  unfold maxLen at hl hm
  clear hx hy
  by_cases h : 3000 < x
  · have h2 : (3000 : Int) < (x : Int) := by omega
    go_enter Tryd.func4, Tryd.ntmps4
    go_wp2_with fail
    go_returns
    exact ⟨ret_bool (by simp [h]), rfl⟩
  · have h2 : ¬ (3000 : Int) < (x : Int) := by omega
    by_cases h3 : 3000 < y
    · have h4 : (3000 : Int) < (y : Int) := by omega
      go_enter Tryd.func4, Tryd.ntmps4
      go_wp2_with fail
      go_returns
      exact ⟨ret_bool (by simp [h, h3]), rfl⟩
    · have h4 : ¬ (3000 : Int) < (y : Int) := by omega
      go_enter Tryd.func4, Tryd.ntmps4
      go_wp2_with fail
      go_returns
      exact ⟨ret_bool (by simp [h, h3]), rfl⟩
set_option maxHeartbeats 400000 in
theorem l05Same_self (a b : Option Addr) (c d : Nat) (l : List ByteArray) (w : World) (h : Rd w a (strsV l)) (h' : Rd w b (strsV l)) (hl : l.length ≤ 1048576) :
    Calls Tryd.prog 25 #[.slice a l.length c, .slice b l.length d] w fun e w' => e = .returned (.bool true) ∧ Dr w w' := by
  have HR := hid h
  have HS := hid h'
  clear h h'
  go_enter Tryd.func25, Tryd.ntmps25
  go_wp2_with fail
  go_loopw [5] (fun i wr => ∃ k : Nat, k ≤ l.length ∧ i = .int .i64 k ∧ Dr w wr) (fun i _ => l.length - (intOf i).toNat)
  case atStart => exact ⟨0, by omega, rfl, Dr.refl _⟩
  case round =>
    obtain ⟨k, hk, rfl, hD⟩ := hrel
    by_cases hlt : k < l.length
    · obtain ⟨b1, o1, rfl, hc⟩ := (HR.out.ext hD.ext).str (by omega)
      obtain ⟨b2, o2, rfl, hd⟩ := (HS.out.ext hD.ext).str (by omega)
      have hck := hc k hlt
      have hdk := hd k hlt
      clear hc hd
      obtain ⟨s, hs⟩ : ∃ s, l[k] = s := ⟨_, rfl⟩
      rw [hs] at hck hdk
      clear hs
      go_wp2_with fail
      go_quiet (fail)
      go_wp2_with fail
      go_roundw
      case rel => exact ⟨k + 1, by omega, by go_num, hD.trans ⟨_, rfl⟩⟩
      case measure => simp [intOf]; omega
    · go_wp2_with fail
      go_returns
      exact ⟨rfl, hD⟩
theorem SameLexicon_self (a b : Option Addr) (c d : Nat) (l : List ByteArray) (w : World) (h : Rd w a (strsV l)) (h' : Rd w b (strsV l)) (hl : l.length ≤ 1048576) :
    Calls Tryd.prog 10 #[.agg #[.slice a l.length c], .agg #[.slice b l.length d]] w (Ret (.bool true) w) := by
  have hx0 := ((Ext.refl w).alloc (.cells #[.slice a l.length c] 26)).alloc (.cells #[.slice b l.length d] 26)
  have HR := hid (h.ext hx0)
  have HS := hid (h'.ext hx0)
  clear h h'
  go_enter Tryd.func10, Tryd.ntmps10
  go_wp2_with fail
  refine (l05Same_self a b c d l _ HR.out HS.out hl).mono ?_
  rintro e w1 ⟨rfl, hD⟩
  have hE := hx0.trans hD.ext
  clear hD
  go_wp2_with fail
  go_returns
  exact ⟨rfl, hE⟩
end Go.Proofs.YtflpiebiacainaaDoor
