/- DropsOf, InsertsOf of the program. Conditions: at most 2^20 words, each of at most 2^20 bytes. -/
import Derived.Test.YtfnobjejjjpkoaaCh10h
namespace Go.Proofs.Ytfnobjejjjpkoaa
set_option linter.unusedVariables false
set_option linter.unusedSimpArgs false
open Go Go.RowKit
theorem small_ascii {s : ByteArray} (h : allB smallB s = true) : ∀ k (hk : k < s.size), s[k].toNat < 128 := by
  intro k hk
  unfold allB at h
  rw [List.all_eq_true] at h
  have h' : k < s.data.size := hk
  have := h s[k] (Array.mem_toList_iff.2 (Array.getElem_mem h'))
  simp only [smallB, decide_eq_true_eq] at this
  omega
theorem word_ascii {s : ByteArray} (h : wordOk s = true) : ∀ k (hk : k < s.size), s[k].toNat < 128 := by
  unfold wordOk at h
  rw [Bool.and_eq_true] at h
  exact small_ascii h.2
theorem lex_word {l : List ByteArray} (h : lexOk l = true) : ∀ s ∈ l, wordOk s = true := by
  unfold lexOk at h
  rw [Bool.and_eq_true, Bool.and_eq_true] at h
  intro s hs
  have := List.all_eq_true.1 h.2.2 s hs
  unfold longOk at this
  rw [Bool.and_eq_true] at this
  exact this.2
theorem SelL_drops (l : List ByteArray) (b : Nat) (p : ByteArray) (w0 : World) (h : w0.cell? ⟨b, 0, none⟩ = some (.string p)) (hp : p.size ≤ 1048576) (hs : ∀ s ∈ l, s.size ≤ 1048576) (hw : wordOk p = true) : SelL l 52 ⟨b, 0, none⟩ w0 (fun s => dropB s p) := by
  refine ⟨fun x w => by kernel_rfl, fun s hm w' hx => ?_⟩
  have hc := hx.cell h
  have hz := hs s hm
  have HA := hid (word_ascii hw)
  clear h hs hw
  go_enter Try.func52, Try.ntmps52
  go_wp2_with fail
  refine (dropped_any s p _ hz hp HA.out).mono ?_
  rintro e w2 ⟨rfl, hD⟩
  go_wp2_with fail
  go_returns
  exact ⟨rfl, hD⟩
set_option maxHeartbeats 1000000 in
theorem DropsOf_any (a : Option Addr) (c : Nat) (l : List ByteArray) (p : ByteArray) (w : World) (h : Rd w a (strsV l)) (hl : l.length ≤ 1048576) (hs : ∀ s ∈ l, s.size ≤ 1048576) (hp : p.size ≤ 1048576) :
    Calls Try.prog 16 #[lexV a l.length c, .string p] w (RetW (relL (fun s => dropB s p) l p) (askC l p) w) := by
  have HR : Hid (∀ w', Ext w w' → Rd w' a (strsV l)) := hid (fun w' k => h.ext k)
  have HZ : Hid (wordOk p = true → SelL l 52 ⟨w.heap.size + 1, 0, none⟩ ((w.alloc (.cells #[.slice a l.length c] 28)).alloc (.cells #[.string p] 9)) (fun s => dropB s p)) := hid (fun hw => SelL_drops l _ p _ (by simp) hp hs hw)
  clear h
  go_enter Try.func16, Try.ntmps16
  go_wp2_with fail
  refine (related_any a c l p _ _ _ _ _ (fun _ h2 => HZ.out h2) (Ext.refl _) (HR.out _ (((Ext.refl w).alloc _).alloc _)) hl hs hp).mono ?_
  rintro e w2 ⟨a', c', rfl, hown, hx⟩
  have HOWN := hid hown
  clear hown
  go_wp2_with fail
  go_returns
  exact ⟨a', c', rfl, HOWN.out.mono (by simp; omega), (((Ext.refl w).alloc _).alloc _).trans hx⟩
theorem SelL_inserts (l : List ByteArray) (b : Nat) (p : ByteArray) (w0 : World) (h : w0.cell? ⟨b, 0, none⟩ = some (.string p)) (hp : p.size ≤ 1048576) (hs : ∀ s ∈ l, s.size ≤ 1048576) (hw : lexOk l = true) : SelL l 50 ⟨b, 0, none⟩ w0 (fun s => dropB p s) := by
  refine ⟨fun x w => by kernel_rfl, fun s hm w' hx => ?_⟩
  have hc := hx.cell h
  have hz := hs s hm
  have HA := hid (word_ascii (lex_word hw s hm))
  clear h hs hw
  go_enter Try.func50, Try.ntmps50
  go_wp2_with fail
  refine (dropped_any p s _ hp hz HA.out).mono ?_
  rintro e w2 ⟨rfl, hD⟩
  go_wp2_with fail
  go_returns
  exact ⟨rfl, hD⟩
set_option maxHeartbeats 1000000 in
theorem InsertsOf_any (a : Option Addr) (c : Nat) (l : List ByteArray) (p : ByteArray) (w : World) (h : Rd w a (strsV l)) (hl : l.length ≤ 1048576) (hs : ∀ s ∈ l, s.size ≤ 1048576) (hp : p.size ≤ 1048576) :
    Calls Try.prog 15 #[lexV a l.length c, .string p] w (RetW (relL (fun s => dropB p s) l p) (askC l p) w) := by
  have HR : Hid (∀ w', Ext w w' → Rd w' a (strsV l)) := hid (fun w' k => h.ext k)
  have HZ : Hid (lexOk l = true → SelL l 50 ⟨w.heap.size + 1, 0, none⟩ ((w.alloc (.cells #[.slice a l.length c] 28)).alloc (.cells #[.string p] 9)) (fun s => dropB p s)) := hid (fun hw => SelL_inserts l _ p _ (by simp) hp hs hw)
  clear h
  go_enter Try.func15, Try.ntmps15
  go_wp2_with fail
  refine (related_any a c l p _ _ _ _ _ (fun h1 _ => HZ.out h1) (Ext.refl _) (HR.out _ (((Ext.refl w).alloc _).alloc _)) hl hs hp).mono ?_
  rintro e w2 ⟨a', c', rfl, hown, hx⟩
  have HOWN := hid hown
  clear hown
  go_wp2_with fail
  go_returns
  exact ⟨a', c', rfl, HOWN.out.mono (by simp; omega), (((Ext.refl w).alloc _).alloc _).trans hx⟩
end Go.Proofs.Ytfnobjejjjpkoaa
