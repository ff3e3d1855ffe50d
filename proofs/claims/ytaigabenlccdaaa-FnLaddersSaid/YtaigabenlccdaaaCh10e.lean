/- Words of a lexicon near a word. Conditions: at most 2^20 words, each of at most 2^20 bytes. -/
import Derived.Test.YtaigabenlccdaaaCh10d
namespace Go.Proofs.Ytaigabenlccdaaa
set_option linter.unusedVariables false
set_option linter.unusedSimpArgs false
open Go Go.RowKit
def askC (l : List ByteArray) (p : ByteArray) : Int := if lexOk l then if wordOk p then 0 else 7 else 1
def relL (g : ByteArray → Bool) (l : List ByteArray) (p : ByteArray) : List ByteArray := if lexOk l then if wordOk p then l.filter g else [] else []
theorem relL_le (g : ByteArray → Bool) (l : List ByteArray) (p : ByteArray) (h : l.length ≤ 1048576) : (relL g l p).length ≤ 1048576 := by
  unfold relL
  split
  · split
    · exact Nat.le_trans (List.length_filter_le _ _) h
    · simp
  · simp
theorem asked_any (a : Option Addr) (c : Nat) (l : List ByteArray) (p : ByteArray) (w : World) (h : Rd w a (strsV l)) (hl : l.length ≤ 1048576) (hs : ∀ s ∈ l, s.size ≤ 1048576) (hp : p.size ≤ 1048576) :
    Calls Try.prog 71 #[lexV a l.length c, .string p] w (Ret (.int .i64 (askC l p)) w) := by
  have H : Hid (askC l p = if lexOk l then if wordOk p then 0 else 7 else 1) := hid rfl
  have HR := hid (h.ext ((Ext.refl w).alloc (.cells #[.slice a l.length c] 28)))
  clear h
  go_enter Try.func71, Try.ntmps71
  go_wp2_with fail
  refine (ValidLexicon_any a c l _ HR.out hl hs).mono ?_
  rintro e w1 ⟨rfl, hx⟩
  have hE := ((Ext.refl w).alloc _).trans hx
  clear hx
  cases h1 : lexOk l
  · have L1 := hid h1
    go_wp2_with fail
    go_returns
    exact ⟨ret_int (by rw [H.out, L1.out]; rfl), hE⟩
  · have L1 := hid h1
    go_wp2_with fail
    refine (IsWord_any _ _ hp).mono ?_
    rintro e w2 ⟨rfl, hx⟩
    cases h2 : wordOk p
    · have L2 := hid h2
      go_wp2_with fail
      go_returns
      exact ⟨ret_int (by rw [H.out, L1.out, L2.out]; rfl), hE.trans hx⟩
    · have L2 := hid h2
      go_wp2_with fail
      go_returns
      exact ⟨ret_int (by rw [H.out, L1.out, L2.out]; rfl), hE.trans hx⟩
set_option maxHeartbeats 1000000 in
theorem related_any (a : Option Addr) (c : Nat) (l : List ByteArray) (p : ByteArray) (f : Nat) (q : Addr) (g : ByteArray → Bool) (w0 w : World) (hT : lexOk l = true → wordOk p = true → SelL l f q w0 g) (h0 : Ext w0 w) (h : Rd w a (strsV l)) (hl : l.length ≤ 1048576) (hs : ∀ s ∈ l, s.size ≤ 1048576) (hp : p.size ≤ 1048576) :
    Calls Try.prog 51 #[lexV a l.length c, .string p, .func (.func f) #[] #[.pointer (some q)]] w (RetW (relL g l p) (askC l p) w) := by
  have H1 : Hid (relL g l p = if lexOk l then if wordOk p then l.filter g else [] else []) := hid rfl
  have H2 : Hid (askC l p = if lexOk l then if wordOk p then 0 else 7 else 1) := hid rfl
  have HR : Hid (∀ w', Ext w w' → Rd w' a (strsV l)) := hid (fun w' k => h.ext k)
  have HT := hid hT
  clear h hT
  go_enter Try.func51, Try.ntmps51
  go_wp2_with fail
  refine (asked_any a c l p _ (HR.out _ ((Ext.refl w).alloc _)) hl hs hp).mono ?_
  rintro e w1 ⟨rfl, hx⟩
  have b0 := hx.cell (b := w.heap.size) (o := 0) (v := .slice a l.length c) (by simp)
  have hE := ((Ext.refl w).alloc _).trans hx
  clear hx
  rw [H2.out]
  cases h1 : lexOk l
  · have L1 := hid h1
    simp only [Bool.false_eq_true, if_false]
    go_wp2_with fail
    go_returns
    exact ⟨none, 0, by rw [H1.out, H2.out, L1.out]; rfl, .inl (by rw [H1.out, L1.out]; rfl), hE⟩
  · cases h2 : wordOk p
    · have L1 := hid h1
      have L2 := hid h2
      simp only [Bool.false_eq_true, if_false, if_true]
      go_wp2_with fail
      go_returns
      exact ⟨none, 0, by rw [H1.out, H2.out, L1.out, L2.out]; rfl, .inl (by rw [H1.out, L1.out, L2.out]; rfl), hE⟩
    · have L1 := hid h1
      have L2 := hid h2
      simp only [if_true]
      go_wp2_with fail
      refine (selected_any a c l _ _ _ w0 w1 (HT.out L1.out L2.out) (h0.trans hE) (HR.out _ hE) hl hs).mono ?_
      rintro e w2 ⟨a', c', rfl, hown, hx⟩
      have HOWN := hid hown
      clear hown
      go_wp2_with fail
      go_returns
      refine ⟨a', c', ?_, ?_, hE.trans hx⟩
      · rw [H1.out, H2.out, L1.out, L2.out, strsV_length]; rfl
      · rw [H1.out, L1.out, L2.out]; exact HOWN.out.mono hE.size
theorem SelT_changed (b : Nat) (p : ByteArray) (w0 : World) (h : w0.cell? ⟨b, 0, none⟩ = some (.string p)) (hp : p.size ≤ 1048576) : SelT 52 ⟨b, 0, none⟩ w0 (fun s => nearB p s) := by
  refine ⟨fun x w => by kernel_rfl, fun s w' hx hs => ?_⟩
  have hc := hx.cell h
  clear h
  go_enter Try.func52, Try.ntmps52
  go_wp2_with fail
  refine (changed_any p s _ hp hs).mono ?_
  rintro e w2 ⟨rfl, hD⟩
  go_wp2_with fail
  go_returns
  exact ⟨rfl, hD.ext⟩
set_option maxHeartbeats 1000000 in
theorem ChangesOf_any (a : Option Addr) (c : Nat) (l : List ByteArray) (p : ByteArray) (w : World) (h : Rd w a (strsV l)) (hl : l.length ≤ 1048576) (hs : ∀ s ∈ l, s.size ≤ 1048576) (hp : p.size ≤ 1048576) :
    Calls Try.prog 20 #[lexV a l.length c, .string p] w (RetW (relL (fun s => nearB p s) l p) (askC l p) w) := by
  have HR : Hid (∀ w', Ext w w' → Rd w' a (strsV l)) := hid (fun w' k => h.ext k)
  have HZ : Hid (SelT 52 ⟨w.heap.size + 1, 0, none⟩ ((w.alloc (.cells #[.slice a l.length c] 28)).alloc (.cells #[.string p] 9)) (fun s => nearB p s)) := hid (SelT_changed _ p _ (by simp) hp)
  clear h
  go_enter Try.func20, Try.ntmps20
  go_wp2_with fail
  refine (related_any a c l p _ _ _ _ _ (fun _ _ => HZ.out.toL hs) (Ext.refl _) (HR.out _ (((Ext.refl w).alloc _).alloc _)) hl hs hp).mono ?_
  rintro e w2 ⟨a', c', rfl, hown, hx⟩
  have HOWN := hid hown
  clear hown
  go_wp2_with fail
  go_returns
  exact ⟨a', c', rfl, HOWN.out.mono (by simp; omega), (((Ext.refl w).alloc _).alloc _).trans hx⟩
end Go.Proofs.Ytaigabenlccdaaa
