/- Hooks: the letters between two parts that make words. Conditions: at most 2^20 words, each of at most 2^20 bytes. -/
import Derived.Test.YtfnobjejjjpkoaaCh10e
import Derived.Test.YtfnobjejjjpkoaaCh05b
import Derived.Test.YtfnobjejjjpkoaaShelfW
namespace Go.Proofs.Ytfnobjejjjpkoaa
set_option linter.unusedVariables false
set_option linter.unusedSimpArgs false
open Go Go.RowKit
theorem bld_below {T e : TypeId} {B b : Nat} {bs : List Value} {w w' : World} (h : Lib.IsBuilderF T e B b bs w) (hx : Ext w w') : Lib.IsBuilderF T e B b bs w' := by
  have k : ∀ p, Lib.BuilderAtF T e B b p bs w → Lib.BuilderAtF T e B b p bs w' := by
    intro p hp
    have hlt := hp.lt
    obtain ⟨h1, v, h2, h3, h4⟩ := hp
    refine ⟨h1, v, by rw [hx.below.block b hlt]; exact h2, ?_, h4⟩
    obtain ⟨g1, g2⟩ := h3
    refine ⟨g1, ?_⟩
    rcases g2 with g2 | ⟨g, cap, cur, fr, hv, hg, hh, r⟩
    · exact .inl g2
    · exact .inr ⟨g, cap, cur, fr, hv, hg, by rw [hx.below.block g (Array.getElem?_eq_some_iff.1 hh).1]; exact hh, r⟩
  rcases h with h | h
  · exact .inl (k _ h)
  · exact .inr (k _ h)
def chS (k : Nat) : ByteArray := ⟨#[UInt8.ofNat (97 + k)]⟩
theorem chS_size (k : Nat) : (chS k).size = 1 := rfl
theorem enc_ch (k : Nat) (h : k < 26) : Utf8.encode (97 + (k : Int)) = chS k := by
  have : ∀ x : Fin 26, Utf8.encode (97 + ((x.val : Nat) : Int)) = chS x.val := by decide +kernel
  exact this ⟨k, h⟩
def hkB (l : List ByteArray) (p q : ByteArray) (k : Nat) : Bool := hasL l (p ++ chS k ++ q)
def hkL (l : List ByteArray) (p q : ByteArray) (m : Nat) : List UInt8 := ((List.range m).filter (hkB l p q)).map fun k => UInt8.ofNat (97 + k)
theorem hkL_succ (l : List ByteArray) (p q : ByteArray) (m : Nat) : hkL l p q (m + 1) = hkL l p q m ++ if hkB l p q m then [UInt8.ofNat (97 + m)] else [] := by
  unfold hkL
  rw [List.range_succ, List.filter_append, List.map_append]
  cases h : hkB l p q m <;> simp [h]
theorem hkL_le (l : List ByteArray) (p q : ByteArray) (m : Nat) : (hkL l p q m).length ≤ m := by
  unfold hkL
  rw [List.length_map]
  have := List.length_filter_le (hkB l p q) (List.range m)
  rw [List.length_range] at this
  exact this
def hookS (l : List ByteArray) (p q : ByteArray) : ByteArray := ⟨(hkL l p q 26).toArray⟩
theorem u8_ch (k : Nat) (h : k < 26) : ((UInt8.ofNat (97 + k)).toNat : Int) = 97 + (k : Int) := by simp; omega
set_option maxRecDepth 100000 in
set_option maxHeartbeats 1000000 in
theorem letters_any (p q : ByteArray) (a : Option Addr) (c : Nat) (l : List ByteArray) (w : World) (h : Rd w a (strsV l)) (hl : l.length ≤ 1048576) (hi : incB l = true) (hp : p.size ≤ 1048576) (hq : q.size ≤ 1048576) :
    Calls Try.prog 84 #[.agg #[.string p, .string q, .slice a l.length c]] w (Ret (.string (hookS l p q)) w) := by
  have HR : Hid (∀ w', Ext w w' → Rd w' a (strsV l)) := hid (fun w' k => h.ext k)
  have HI := hid hi
  have HS := hid (hkL_succ l p q)
  have HLE := hid (hkL_le l p q)
  have HB : Hid (∀ k, hkB l p q k = hasL l (p ++ chS k ++ q)) := hid (fun k => rfl)
  have HF : Hid (hookS l p q = ⟨(hkL l p q 26).toArray⟩) := hid rfl
  clear h hi
  go_enter Try.func84, Try.ntmps84
  go_wp2_with fail
  go_loopw [4] (fun v wr => ∃ (k : Nat) (z : Int), k ≤ 26 ∧ Hid (z = 97 + (k : Int)) ∧ 97 ≤ z ∧ z ≤ 123 ∧ v = .int .u8 z ∧ Hid (Lib.IsBuilderF 100 5 (w.heap.size + 1) (w.heap.size + 1) (Lib.byteCells (hkL l p q k)) wr) ∧ Ext (w.alloc (.cells #[.string p, .string q, .slice a l.length c] 84)) wr) (fun v _ => 123 - (intOf v).toNat)
  case atStart => exact ⟨0, 97, by omega, hid rfl, by omega, by omega, rfl, hid (Lib.IsBuilderF.of (by simpa [hkL, Lib.byteCells] using Lib.fresh_isBuilder 100 5 (w.alloc (.cells #[.string p, .string q, .slice a l.length c] 84)))), (Ext.refl _).alloc _⟩
  case round =>
    obtain ⟨k, z, hk, hz, hz1, hz2, rfl, hb, hx⟩ := hrel
    have hE : Ext w wr := ((Ext.refl w).alloc _).trans hx
    have g0 := hx.cell (b := w.heap.size) (o := 0) (v := .string p) (by simp)
    have g1 := hx.cell (b := w.heap.size) (o := 1) (v := .string q) (by simp)
    have g2 := hx.cell (b := w.heap.size) (o := 2) (v := .slice a l.length c) (by simp)
    have hsz := hx.size
    simp only [World.size_alloc] at hsz
    by_cases hlt : z ≤ 122
    · have hk2 : k < 26 := by have := hz.out; omega
      have he := enc_ch k hk2
      rw [← hz.out] at he
      have hx1 := chS_size k
      have HBk := HB.out k
      have HU := hid (u8_ch k hk2)
      rw [← hz.out] at HU
      obtain ⟨x, hxk⟩ : ∃ x, chS k = x := ⟨_, rfl⟩
      rw [hxk] at he hx1 HBk
      have HB1 := hid HBk
      have hx2 : x.size ≤ 1 := by omega
      clear hxk hx1 HBk
      have w32 : IntKind.i32.wrap z = z := by simp [IntKind.wrap, IntKind.bits, IntKind.signed]; omega
      have w8 : IntKind.u8.wrap (z + 1) = z + 1 := by simp [IntKind.wrap, IntKind.bits, IntKind.signed]; omega
      have HZ1 : Hid (z + 1 = 97 + ((k + 1 : Nat) : Int)) := hid (by have := hz.out; omega)
      go_wp2_with fail
      refine (has_any a c l _ _ (HR.out _ hE) hl HI.out).mono ?_
      rintro e w1 ⟨rfl, hy⟩
      rw [← HB1.out]
      have hb1 := hid (bld_below hb.out hy)
      have hsz1 := hy.size
      cases hh : hkB l p q k
      · have HH := hid hh
        clear hh
        go_wp2_with fail
        go_roundw
        case rel => exact ⟨k + 1, z + 1, by omega, HZ1, by omega, by omega, rfl, hid (by rw [HS.out k, HH.out]; simpa using hb1.out), hx.trans hy⟩
        case measure => simp [intOf]; omega
      · have HH := hid hh
        clear hh
        go_wp2_with fail
        refine (Any.Builder_WriteByte_k Try.laysH167 Try.Builder_Extra_H167 (w.heap.size + 1) (w.heap.size + 1) _ z _ hb1.out (by rw [Lib.byteCells_length]; have := HLE.out k; omega) (by omega)).mono ?_
        rintro e w2 ⟨rfl, hb2, hbel, -⟩
        have HB2 := hid hb2
        clear hb2
        go_wp2_with fail
        go_roundw
        case rel =>
          refine ⟨k + 1, z + 1, by omega, HZ1, by omega, by omega, rfl, hid ?_, (hx.trans hy).thenBelow hbel (by simp)⟩
          rw [HS.out k, HH.out, if_pos rfl, Lib.byteCells, List.map_append]
          have := HB2.out
          rw [← HU.out] at this
          exact .inr this
        case measure => simp [intOf]; omega
    · obtain rfl : k = 26 := by have := hz.out; omega
      go_wp2_with fail
      refine (Any.Builder_String_any_k Try.laysH169 Try.Builder_Extra_H169 (w.heap.size + 1) (w.heap.size + 1) _ _ hb.out (by omega)).mono ?_
      rintro e w2 ⟨rfl, -, hbel, -⟩
      go_wp2_with fail
      go_returns
      exact ⟨by rw [HF.out]; rfl, hE.thenBelow hbel (by omega)⟩
def hooksV (l : List ByteArray) (s p q : ByteArray) : ByteArray := if askC l s = 0 then hookS l p q else ⟨#[]⟩
set_option maxHeartbeats 1000000 in
theorem hooks_any (s p q : ByteArray) (a : Option Addr) (c : Nat) (l : List ByteArray) (w : World) (h : Rd w a (strsV l)) (hl : l.length ≤ 1048576) (hs : ∀ s ∈ l, s.size ≤ 1048576) (hz : s.size ≤ 1048576) (hp : p.size ≤ 1048576) (hq : q.size ≤ 1048576) :
    Calls Try.prog 48 #[lexV a l.length c, .string s, .string p, .string q] w (Ret (.tuple #[.string (hooksV l s p q), .int .i64 (askC l s)]) w) := by
  have HR : Hid (∀ w', Ext w w' → Rd w' a (strsV l)) := hid (fun w' k => h.ext k)
  have HV : Hid (hooksV l s p q = if askC l s = 0 then hookS l p q else ⟨#[]⟩) := hid rfl
  have HC : Hid (askC l s = if lexOk l then if wordOk s then 0 else 7 else 1) := hid rfl
  clear h
  go_enter Try.func48, Try.ntmps48
  go_wp2_with fail
  refine (asked_any a c l s _ (HR.out _ ((Ext.refl w).alloc _)) hl hs hz).mono ?_
  rintro e w1 ⟨rfl, hx⟩
  have b0 := hx.cell (b := w.heap.size) (o := 0) (v := .slice a l.length c) (by simp)
  have hE := ((Ext.refl w).alloc _).trans hx
  clear hx
  by_cases h1 : lexOk l = true
  · have LI := hid (lexOk_inc h1)
    by_cases h2 : wordOk s = true
    · have HZ : Hid (askC l s = 0) := hid (by rw [HC.out, h1, h2]; rfl)
      rw [HZ.out] at HV ⊢
      clear h1 h2
      go_wp2_with fail
      refine (letters_any p q a c l _ (HR.out _ hE) hl LI.out hp hq).mono ?_
      rintro e w2 ⟨rfl, hx⟩
      go_wp2_with fail
      go_returns
      exact ⟨by rw [HV.out, HZ.out]; rfl, hE.trans hx⟩
    · have HZ : Hid (askC l s = 7) := hid (by rw [HC.out, h1]; simp [h2])
      rw [HZ.out] at HV ⊢
      clear h1 h2
      go_wp2_with fail
      go_returns
      exact ⟨by rw [HV.out, HZ.out]; rfl, hE⟩
  · have HZ : Hid (askC l s = 1) := hid (by rw [HC.out]; simp [h1])
    rw [HZ.out] at HV ⊢
    clear h1
    go_wp2_with fail
    go_returns
    exact ⟨by rw [HV.out, HZ.out]; rfl, hE⟩
def noB : ByteArray := ⟨#[]⟩
theorem FrontHooks_any (a : Option Addr) (c : Nat) (l : List ByteArray) (s : ByteArray) (w : World) (h : Rd w a (strsV l)) (hl : l.length ≤ 1048576) (hs : ∀ s ∈ l, s.size ≤ 1048576) (hz : s.size ≤ 1048576) :
    Calls Try.prog 13 #[lexV a l.length c, .string s] w (Ret (.tuple #[.string (hooksV l s noB s), .int .i64 (askC l s)]) w) := by
  have HR := hid (h.ext ((Ext.refl w).alloc (.cells #[.slice a l.length c] 28)))
  clear h
  go_enter Try.func13, Try.ntmps13
  go_wp2_with fail
  refine (hooks_any s noB s a c l _ HR.out hl hs hz (by decide) hz).mono ?_
  rintro e w1 ⟨rfl, hx⟩
  go_wp2_with fail
  go_returns
  exact ⟨rfl, ((Ext.refl w).alloc _).trans hx⟩
theorem BackHooks_any (a : Option Addr) (c : Nat) (l : List ByteArray) (s : ByteArray) (w : World) (h : Rd w a (strsV l)) (hl : l.length ≤ 1048576) (hs : ∀ s ∈ l, s.size ≤ 1048576) (hz : s.size ≤ 1048576) :
    Calls Try.prog 14 #[lexV a l.length c, .string s] w (Ret (.tuple #[.string (hooksV l s s noB), .int .i64 (askC l s)]) w) := by
  have HR := hid (h.ext ((Ext.refl w).alloc (.cells #[.slice a l.length c] 28)))
  clear h
  go_enter Try.func14, Try.ntmps14
  go_wp2_with fail
  refine (hooks_any s s noB a c l _ HR.out hl hs hz hz (by decide)).mono ?_
  rintro e w1 ⟨rfl, hx⟩
  go_wp2_with fail
  go_returns
  exact ⟨rfl, ((Ext.refl w).alloc _).trans hx⟩
end Go.Proofs.Ytfnobjejjjpkoaa
