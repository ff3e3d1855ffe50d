/- Words of a lexicon near a word. Conditions: at most 2^20 words, each of at most 2^20 bytes. -/
import Derived.Test.YtfnobjejjjpkoaaCh10d
namespace Go.Proofs.Ytfnobjejjjpkoaa
set_option linter.unusedVariables false
set_option linter.unusedSimpArgs false
open Go Go.RowKit
def askC (l : List ByteArray) (p : ByteArray) : Int := if lexOk l then if wordOk p then 0 else 7 else 1
def relL (g : ByteArray → Bool) (l : List ByteArray) (p : ByteArray) : List ByteArray := if lexOk l then if wordOk p then l.filter g else [] else []
theorem relL_le (g : ByteArray → Bool) (l : List ByteArray) (p : ByteArray) (h : l.length ≤ 1048576) : (relL g l p).length ≤ 1048576 := by
  unfold relL
  split
  · split
    · exact Nat.le_trans (List.length_filter_le _ _) h
    · simp
  · simp
theorem asked_any (a : Option Addr) (c : Nat) (l : List ByteArray) (p : ByteArray) (w : World) (h : Rd w a (strsV l)) (hl : l.length ≤ 1048576) (hs : ∀ s ∈ l, s.size ≤ 1048576) (hp : p.size ≤ 1048576) :
    Calls Try.prog 83 #[lexV a l.length c, .string p] w (Ret (.int .i64 (askC l p)) w) := by
  have H : Hid (askC l p = if lexOk l then if wordOk p then 0 else 7 else 1) := hid rfl
  have HR := hid (h.ext ((Ext.refl w).alloc (.cells #[.slice a l.length c] 28)))
  clear h
  go_enter Try.func83, Try.ntmps83
  go_wp2_with fail
  refine (ValidLexicon_any a c l _ HR.out hl hs).mono ?_
  rintro e w1 ⟨rfl, hx⟩
  have hE := ((Ext.refl w).alloc _).trans hx
  clear hx
  cases h1 : lexOk l
  · have L1 := hid h1
    go_wp2_with fail
    go_returns
    exact ⟨ret_int (by rw [H.out, L1.out]; rfl), hE⟩
  · have L1 := hid h1
    go_wp2_with fail
    refine (IsWord_any _ _ hp).mono ?_
    rintro e w2 ⟨rfl, hx⟩
    cases h2 : wordOk p
    · have L2 := hid h2
      go_wp2_with fail
      go_returns
      exact ⟨ret_int (by rw [H.out, L1.out, L2.out]; rfl), hE.trans hx⟩
    · have L2 := hid h2
      go_wp2_with fail
      go_returns
      exact ⟨ret_int (by rw [H.out, L1.out, L2.out]; rfl), hE.trans hx⟩
theorem l10Code_any (b o : Nat) (l : List ByteArray) (p : ByteArray) (w : World) (h : LxAt w b o l) (hl : l.length ≤ 1048576) (hs : ∀ s ∈ l, s.size ≤ 1048576) (hp : p.size ≤ 1048576) :
    Calls Try.prog 53 #[.pointer (some ⟨b, o, none⟩), .string p] w fun e w' => e = .returned (.int .i64 (askC l p)) ∧ Dr w w' := by
  have H : Hid (askC l p = if lexOk l then if wordOk p then 0 else 7 else 1) := hid rfl
  go_enter Try.func53, Try.ntmps53
  go_wp2_with fail
  refine (l05Ok_any _ _ l _ h hl hs).mono ?_
  rintro e w1 ⟨rfl, hD⟩
  cases h1 : lexOk l
  · have L1 := hid h1
    go_wp2_with fail
    go_returns
    exact ⟨ret_int (by rw [H.out, L1.out]; rfl), hD⟩
  · have L1 := hid h1
    go_wp2_with fail
    refine (sIsWord_any _ _ hp).mono ?_
    rintro e w2 ⟨rfl, rfl⟩
    cases h2 : wordOk p
    · have L2 := hid h2
      go_wp2_with fail
      go_returns
      exact ⟨ret_int (by rw [H.out, L1.out, L2.out]; rfl), hD⟩
    · have L2 := hid h2
      go_wp2_with fail
      go_returns
      exact ⟨ret_int (by rw [H.out, L1.out, L2.out]; rfl), hD⟩
set_option maxHeartbeats 1000000 in
theorem related_any (a : Option Addr) (c : Nat) (l : List ByteArray) (p : ByteArray) (f : Nat) (q : Addr) (g : ByteArray → Bool) (w0 w : World) (hT : lexOk l = true → wordOk p = true → SelL l f q w0 g) (h0 : Ext w0 w) (h : Rd w a (strsV l)) (hl : l.length ≤ 1048576) (hs : ∀ s ∈ l, s.size ≤ 1048576) (hp : p.size ≤ 1048576) :
    Calls Try.prog 49 #[lexV a l.length c, .string p, .func (.func f) #[] #[.pointer (some q)]] w (RetW (relL g l p) (askC l p) w) := by
  have H1 : Hid (relL g l p = if lexOk l then if wordOk p then l.filter g else [] else []) := hid rfl
  have H2 : Hid (askC l p = if lexOk l then if wordOk p then 0 else 7 else 1) := hid rfl
  have HR : Hid (∀ w', Ext w w' → Rd w' a (strsV l)) := hid (fun w' k => h.ext k)
  have HT := hid hT
  clear h hT
  go_enter Try.func49, Try.ntmps49
  go_wp2_with fail
  refine (asked_any a c l p _ (HR.out _ ((Ext.refl w).alloc _)) hl hs hp).mono ?_
  rintro e w1 ⟨rfl, hx⟩
  have b0 := hx.cell (b := w.heap.size) (o := 0) (v := .slice a l.length c) (by simp)
  have hE := ((Ext.refl w).alloc _).trans hx
  clear hx
  rw [H2.out]
  cases h1 : lexOk l
  · have L1 := hid h1
    simp only [Bool.false_eq_true, if_false]
    go_wp2_with fail
    go_returns
    exact ⟨none, 0, by rw [H1.out, H2.out, L1.out]; rfl, .inl (by rw [H1.out, L1.out]; rfl), hE⟩
  · cases h2 : wordOk p
    · have L1 := hid h1
      have L2 := hid h2
      simp only [Bool.false_eq_true, if_false, if_true]
      go_wp2_with fail
      go_returns
      exact ⟨none, 0, by rw [H1.out, H2.out, L1.out, L2.out]; rfl, .inl (by rw [H1.out, L1.out, L2.out]; rfl), hE⟩
    · have L1 := hid h1
      have L2 := hid h2
      simp only [if_true]
      go_wp2_with fail
      refine (selected_any a c l _ _ _ w0 w1 (HT.out L1.out L2.out) (h0.trans hE) (HR.out _ hE) hl hs).mono ?_
      rintro e w2 ⟨a', c', rfl, hown, hx⟩
      have HOWN := hid hown
      clear hown
      go_wp2_with fail
      go_returns
      refine ⟨a', c', ?_, ?_, hE.trans hx⟩
      · rw [H1.out, H2.out, L1.out, L2.out, strsV_length]; rfl
      · rw [H1.out, L1.out, L2.out]; exact HOWN.out.mono hE.size
end Go.Proofs.Ytfnobjejjjpkoaa
