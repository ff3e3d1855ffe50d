/- The words for which a function returns true. Conditions: at most 2^20 words, each of at most 2^20 bytes. -/
import Derived.Test.YtaigabenlccdaaaCh05a
namespace Go.Proofs.Ytaigabenlccdaaa
set_option linter.unusedVariables false
set_option linter.unusedSimpArgs false
open Go Go.RowKit
/-- A function literal with one captured variable: it answers by g, from the world w0 on. -/
def SelT (f : Nat) (p : Addr) (w0 : World) (g : ByteArray → Bool) : Prop :=
  (∀ (x : Value) (w : World), (callFunc f #[x, .pointer (some p)]).run Try.prog w = .ok (.enter f #[x, .pointer (some p)]) w) ∧
  ∀ (s : ByteArray) (w' : World), Ext w0 w' → s.size ≤ 1048576 → Calls Try.prog f #[.string s, .pointer (some p)] w' (Ret (.bool (g s)) w')
/-- The same for the words of a list alone. -/
def SelL (l : List ByteArray) (f : Nat) (p : Addr) (w0 : World) (g : ByteArray → Bool) : Prop :=
  (∀ (x : Value) (w : World), (callFunc f #[x, .pointer (some p)]).run Try.prog w = .ok (.enter f #[x, .pointer (some p)]) w) ∧
  ∀ s ∈ l, ∀ w' : World, Ext w0 w' → Calls Try.prog f #[.string s, .pointer (some p)] w' (Ret (.bool (g s)) w')
theorem SelT.toL {l : List ByteArray} {f : Nat} {p : Addr} {w0 : World} {g : ByteArray → Bool} (h : SelT f p w0 g) (hs : ∀ s ∈ l, s.size ≤ 1048576) : SelL l f p w0 g :=
  ⟨h.1, fun s hm w' hx => h.2 s w' hx (hs s hm)⟩
theorem filter_snoc (l : List ByteArray) (g : ByteArray → Bool) (k : Nat) (h : k < l.length) : (l.take (k + 1)).filter g = (l.take k).filter g ++ (if g (wAt l k) then [wAt l k] else []) := by
  rw [List.take_succ_eq_append_getElem h, List.filter_append, wAt_eq l k h]
  cases hg : g (wAt l k) <;> simp [hg]
theorem filter_le (l : List ByteArray) (g : ByteArray → Bool) (k : Nat) : ((l.take k).filter g).length ≤ l.length := by
  have h1 := List.length_filter_le g (l.take k)
  have h2 := List.length_take_le k l
  have : (l.take k).length ≤ l.length := by simp; omega
  omega
set_option maxHeartbeats 1000000 in
theorem selected_any (a : Option Addr) (c : Nat) (l : List ByteArray) (f : Nat) (p : Addr) (g : ByteArray → Bool) (w0 w : World) (hT : SelL l f p w0 g) (h0 : Ext w0 w) (h : Rd w a (strsV l)) (hl : l.length ≤ 1048576) (hs : ∀ s ∈ l, s.size ≤ 1048576) :
    Calls Try.prog 72 #[.slice a l.length c, .func (.func f) #[] #[.pointer (some p)]] w (RetL (strsV (l.filter g)) w) := by
  obtain ⟨hcf, hT⟩ := hT
  have HT := hid hT
  have HR : Hid (∀ w', Ext w w' → Rd w' a (strsV l)) := hid (fun w' k => h.ext k)
  have HS : Hid (∀ k, k < l.length → (wAt l k).size ≤ 1048576) := hid (fun k hk => hs _ (wAt_mem l k hk))
  have HF := hid (filter_snoc l g)
  have HLE := hid (filter_le l g)
  clear h hs hT
  go_enter Try.func72, Try.ntmps72
  go_wp2_with fail
  go_loopw [5, 11] (fun v i wr => ∃ (k m cap : Nat) (a' : Option Addr), k ≤ l.length ∧ m ≤ k ∧ i = .int .i64 k ∧ v = .slice a' m cap ∧ Hid (m = ((l.take k).filter g).length) ∧ Own wr (w.heap.size + 1) 9 1 a' m cap (strsV ((l.take k).filter g)) ∧ Ext (w.alloc (.cells #[] 9)) wr) (fun _ i _ => l.length - (intOf i).toNat)
  case atStart => exact ⟨0, 0, 0, some ⟨w.heap.size, 0, none⟩, by omega, by omega, rfl, rfl, hid (by simp), by simpa [strsV] using Own.empty _ _ _ _ _, Ext.refl _⟩
  case round =>
    obtain ⟨k, m, cap, a', hk, hmk, rfl, rfl, hm, hown, hext⟩ := hrel
    have hsz := hext.size
    simp only [World.size_alloc] at hsz
    have hE : Ext w wr := ((Ext.refl w).alloc _).trans hext
    by_cases hlt : k < l.length
    · obtain ⟨b, o, rfl, hc⟩ := (HR.out _ hE).word (by omega)
      have c0 := hc k hlt
      have hz := HS.out k hlt
      have hf := HF.out k hlt
      obtain ⟨s, hs⟩ : ∃ s, wAt l k = s := ⟨_, rfl⟩
      have HM := hid (wAt_mem l k hlt)
      rw [hs] at c0 hz hf HM
      have HFF := hid hf
      obtain ⟨p0, hp0⟩ : ∃ p0, o + k = p0 := ⟨_, rfl⟩
      rw [hp0] at c0
      clear hs hc hf
      have HOWN := hid hown
      clear hown
      go_wp2_with fail
      refine (HT.out s HM.out _ (h0.trans hE)).mono ?_
      rintro e w2 ⟨rfl, hx⟩
      have hown := HOWN.out.ext hx
      have hs2 := hx.size
      cases hg : g s
      · have HG := hid hg
        clear hg
        go_wp2_with fail
        go_roundw
        case rel => exact ⟨k + 1, m, cap, a', by omega, by omega, by go_num, rfl, hid (by rw [HFF.out, HG.out]; simpa using hm.out), by rw [HFF.out, HG.out]; simpa using hown, hext.trans hx⟩
        case measure => simp [intOf]; omega
      · have HG := hid hg
        clear hg
        go_wp2_with (at_builtin; refine wpList_push rfl _ _ 22 rfl El_str rfl [_] rfl rfl (by simp [Value.oneCell']) hown (by omega) (by unfold maxLen; omega) (by omega) ?_; intro a2 c2 w3 hown2 hb2)
        go_roundw
        case rel => exact ⟨k + 1, m + 1, c2, a2, by omega, by omega, by go_num, rfl, hid (by rw [HFF.out, HG.out]; simp [← hm.out]), by rw [HFF.out, HG.out, if_pos rfl, strsV_append]; exact hown2, (hext.trans hx).thenBelow hb2 (by simp)⟩
        case measure => simp [intOf]; omega
    · obtain rfl : k = l.length := by omega
      have HX : Hid (l.take l.length = l) := hid List.take_length
      rw [HX.out] at hm hown
      have HOWN := hid hown
      clear hown
      go_wp2_with fail
      go_returns
      exact ⟨a', cap, by rw [strsV_length, ← hm.out]; rfl, HOWN.out.ownR.mono (by omega), hE⟩
end Go.Proofs.Ytaigabenlccdaaa
