/- Words of a lexicon that match, or are near a word. Conditions: at most 2^20 words, each of at most 2^20 bytes. -/
import Derived.Test.YtfnobjejjjpkoaaSel
import Derived.Test.YtfnobjejjjpkoaaCh10b
namespace Go.Proofs.Ytfnobjejjjpkoaa
set_option linter.unusedVariables false
set_option linter.unusedSimpArgs false
open Go Go.RowKit
/-- A list of the call's own and a code come back. -/
def RetW (l : List ByteArray) (k : Int) (w : World) (e : Ending) (w' : World) : Prop := ∃ a c, e = .returned (.tuple #[.slice a l.length c, .int .i64 k]) ∧ OwnR w' w.heap.size a (strsV l) ∧ Ext w w'
def wmL (l : List ByteArray) (p : ByteArray) : List ByteArray := if lexOk l then if patOk p then l.filter (fun s => matchL p.data.toList s.data.toList) else [] else []
def wmC (l : List ByteArray) (p : ByteArray) : Int := if lexOk l then if patOk p then 0 else 7 else 1
theorem wmL_le (l : List ByteArray) (p : ByteArray) (h : l.length ≤ 1048576) : (wmL l p).length ≤ 1048576 := by
  unfold wmL
  split
  · split
    · exact Nat.le_trans (List.length_filter_le _ _) h
    · simp
  · simp
theorem SelT_match (b : Nat) (p : ByteArray) (w0 : World) (h : w0.cell? ⟨b, 0, none⟩ = some (.string p)) (hp : p.size ≤ 1048576) : SelT 60 ⟨b, 0, none⟩ w0 (fun s => matchL p.data.toList s.data.toList) := by
  refine ⟨fun x w => by kernel_rfl, fun s w' hx hs => ?_⟩
  have hc := hx.cell h
  clear h
  go_enter Try.func60, Try.ntmps60
  go_wp2_with fail
  refine (matchAll_any _ p s _ rfl (by omega)).mono ?_
  rintro e w2 ⟨rfl, hD⟩
  go_wp2_with fail
  go_returns
  exact ⟨rfl, hD.ext⟩
set_option maxHeartbeats 1000000 in
theorem WordsMatching_any (a : Option Addr) (c : Nat) (l : List ByteArray) (p : ByteArray) (w : World) (h : Rd w a (strsV l)) (hl : l.length ≤ 1048576) (hs : ∀ s ∈ l, s.size ≤ 1048576) (hp : p.size ≤ 1048576) :
    Calls Try.prog 25 #[lexV a l.length c, .string p] w (RetW (wmL l p) (wmC l p) w) := by
  have H1 : Hid (wmL l p = if lexOk l then if patOk p then l.filter (fun s => matchL p.data.toList s.data.toList) else [] else []) := hid rfl
  have H2 : Hid (wmC l p = if lexOk l then if patOk p then 0 else 7 else 1) := hid rfl
  have HR : Hid (∀ w', Ext w w' → Rd w' a (strsV l)) := hid (fun w' k => h.ext k)
  clear h
  go_enter Try.func25, Try.ntmps25
  go_wp2_with fail
  refine (ValidLexicon_any a c l _ (HR.out _ (((Ext.refl w).alloc _).alloc _)) hl hs).mono ?_
  rintro e w1 ⟨rfl, hx⟩
  have b0 := hx.cell (b := w.heap.size) (o := 0) (v := .slice a l.length c) (by simp)
  have c0 := hx.cell (b := w.heap.size + 1) (o := 0) (v := .string p) (by simp)
  have hE : Ext w w1 := (((Ext.refl w).alloc _).alloc _).trans hx
  clear hx
  cases h1 : lexOk l
  · have L1 := hid h1
    go_wp2_with fail
    go_returns
    exact ⟨none, 0, by rw [H1.out, H2.out, L1.out]; rfl, .inl (by rw [H1.out, L1.out]; rfl), hE⟩
  · have L1 := hid h1
    go_wp2_with fail
    refine (ValidPattern_any _ _ hp).mono ?_
    rintro e w2 ⟨rfl, rfl⟩
    cases h2 : patOk p
    · have L2 := hid h2
      go_wp2_with fail
      go_returns
      exact ⟨none, 0, by rw [H1.out, H2.out, L1.out, L2.out]; rfl, .inl (by rw [H1.out, L1.out, L2.out]; rfl), hE⟩
    · have L2 := hid h2
      have HZ := hid (SelT_match (w.heap.size + 1) p w1 c0 hp)
      go_wp2_with fail
      refine (selected_any a c l _ _ _ w1 w1 (HZ.out.toL hs) (Ext.refl _) (HR.out _ hE) hl hs).mono ?_
      rintro e w2 ⟨a', c', rfl, hown, hx⟩
      have HOWN := hid hown
      clear hown
      go_wp2_with fail
      go_returns
      refine ⟨a', c', ?_, ?_, hE.trans hx⟩
      · rw [H1.out, H2.out, L1.out, L2.out, strsV_length]; rfl
      · rw [H1.out, L1.out, L2.out]; exact HOWN.out.mono hE.size
set_option maxHeartbeats 1000000 in
theorem sWordsMatching_any (a : Option Addr) (c : Nat) (l : List ByteArray) (p : ByteArray) (w : World) (h : Rd w a (strsV l)) (hl : l.length ≤ 1048576) (hs : ∀ s ∈ l, s.size ≤ 1048576) (hp : p.size ≤ 1048576) :
    Calls Try.prog 26 #[lexV a l.length c, .string p] w (RetW (wmL l p) (wmC l p) w) := by
  have H1 : Hid (wmL l p = if lexOk l then if patOk p then l.filter (fun s => matchL p.data.toList s.data.toList) else [] else []) := hid rfl
  have H2 : Hid (wmC l p = if lexOk l then if patOk p then 0 else 7 else 1) := hid rfl
  have HR : Hid (∀ w', Ext w w' → Rd w' a (strsV l)) := hid (fun w' k => h.ext k)
  have HS : Hid (∀ k, k < l.length → (wAt l k).size ≤ 1048576) := hid (fun k hk => hs _ (wAt_mem l k hk))
  have HLX : Hid (LxAt (w.alloc (.cells #[.slice a l.length c] 28)) w.heap.size 0 l) := hid ⟨a, c, by simp, h.ext ((Ext.refl w).alloc _)⟩
  clear h
  go_enter Try.func26, Try.ntmps26
  go_wp2_with fail
  refine (l05Ok_any _ _ l _ HLX.out hl hs).mono ?_
  rintro e w1 ⟨rfl, hD⟩
  have b0 := hD.ext.cell (b := w.heap.size) (o := 0) (v := .slice a l.length c) (by simp)
  have hE : Ext w w1 := ((Ext.refl w).alloc _).trans hD.ext
  clear hD
  cases h1 : lexOk l
  · have L1 := hid h1
    go_wp2_with fail
    go_returns
    exact ⟨none, 0, by rw [H1.out, H2.out, L1.out]; rfl, .inl (by rw [H1.out, L1.out]; rfl), hE⟩
  · have L1 := hid h1
    go_wp2_with fail
    refine (l10Ok_any _ _ hp).mono ?_
    rintro e w2 ⟨rfl, rfl⟩
    cases h2 : patOk p
    · have L2 := hid h2
      go_wp2_with fail
      go_returns
      exact ⟨none, 0, by rw [H1.out, H2.out, L1.out, L2.out]; rfl, .inl (by rw [H1.out, L1.out, L2.out]; rfl), hE⟩
    · have L2 := hid h2
      clear h1 h2
      obtain ⟨g, hg⟩ : ∃ g : ByteArray → Bool, (fun s : ByteArray => matchL p.data.toList s.data.toList) = g := ⟨_, rfl⟩
      have HG : Hid (∀ s : ByteArray, matchL p.data.toList s.data.toList = g s) := hid (fun s => by rw [← hg])
      rw [hg] at H1
      have HF := hid (filter_snoc l g)
      have HLE := hid (filter_le l g)
      clear hg
      go_wp2_with fail
      go_loopw [6, 7] (fun v i wr => ∃ (k m cap : Nat) (a' : Option Addr), k ≤ l.length ∧ m ≤ k ∧ i = .int .i64 k ∧ v = .slice a' m cap ∧ Hid (m = ((l.take k).filter g).length) ∧ Own wr (w1.heap.size + 1) 9 1 a' m cap (strsV ((l.take k).filter g)) ∧ Ext (w1.alloc (.cells #[] 9)) wr) (fun _ i _ => l.length - (intOf i).toNat)
      case atStart => exact ⟨0, 0, 0, some ⟨w1.heap.size, 0, none⟩, by omega, by omega, rfl, rfl, hid (by simp), by simpa [strsV] using Own.empty _ _ _ _ _, Ext.refl _⟩
      case round =>
        obtain ⟨k, m, cap, a', hk, hmk, rfl, rfl, hm, hown, hext⟩ := hrel
        have hsz := hext.size
        simp only [World.size_alloc] at hsz
        have hE1 : Ext w1 wr := ((Ext.refl w1).alloc _).trans hext
        have hE2 : Ext w wr := hE.trans hE1
        have b1 := hE1.cell b0
        by_cases hlt : k < l.length
        · obtain ⟨b, o, rfl, hc⟩ := (HR.out _ hE2).word (by omega)
          have c0 := hc k hlt
          have hz := HS.out k hlt
          have hf := HF.out k hlt
          obtain ⟨s, hs⟩ : ∃ s, wAt l k = s := ⟨_, rfl⟩
          rw [hs] at c0 hz hf
          have HFF := hid hf
          obtain ⟨p0, hp0⟩ : ∃ p0, o + k = p0 := ⟨_, rfl⟩
          rw [hp0] at c0
          clear hs hc hf b0
          have HOWN := hid hown
          clear hown
          go_wp2_with fail
          refine (l10Match_any _ p s _ rfl (by omega)).mono ?_
          rintro e w2 ⟨rfl, hD⟩
          rw [HG.out s]
          have hx := hD.ext
          have hown := HOWN.out.ext hx
          have hs2 := hx.size
          have b2 := hx.cell b1
          have c2 := hx.cell c0
          clear b1 c0
          cases hg : g s
          · have HG := hid hg
            clear hg
            go_wp2_with fail
            go_roundw
            case rel => exact ⟨k + 1, m, cap, a', by omega, by omega, by go_num, rfl, hid (by rw [HFF.out, HG.out]; simpa using hm.out), by rw [HFF.out, HG.out]; simpa using hown, hext.trans hx⟩
            case measure => simp [intOf]; omega
          · have HG := hid hg
            clear hg
            go_wp2_with (at_builtin; refine wpList_push rfl _ _ 22 rfl El_str rfl [_] rfl rfl (by simp [Value.oneCell']) hown (by omega) (by unfold maxLen; omega) (by omega) ?_; intro a2 c3 w3 hown2 hb2)
            go_roundw
            case rel => exact ⟨k + 1, m + 1, c3, a2, by omega, by omega, by go_num, rfl, hid (by rw [HFF.out, HG.out]; simp [← hm.out]), by rw [HFF.out, HG.out, if_pos rfl, strsV_append]; exact hown2, (hext.trans hx).thenBelow hb2 (by simp)⟩
            case measure => simp [intOf]; omega
        · obtain rfl : k = l.length := by omega
          have HX : Hid (l.take l.length = l) := hid List.take_length
          rw [HX.out] at hm hown
          have HOWN := hid hown
          clear hown
          go_wp2_with fail
          go_returns
          refine ⟨a', cap, ?_, ?_, hE2⟩
          · rw [H1.out, H2.out, L1.out, L2.out, if_pos rfl, if_pos rfl, if_pos rfl, if_pos rfl, ← hm.out]; rfl
          · rw [H1.out, L1.out, L2.out, if_pos rfl, if_pos rfl]; exact HOWN.out.ownR.mono (by have := hE.size; omega)
end Go.Proofs.Ytfnobjejjjpkoaa
