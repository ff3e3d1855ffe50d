/- Words of a lexicon near a word, by the reference. Conditions: at most 2^20 words, each of at most 2^20 bytes. -/
import Derived.Test.YtofgmmgphlfamaaCh10e
namespace Go.Proofs.Ytofgmmgphlfamaa
set_option linter.unusedVariables false
set_option linter.unusedSimpArgs false
open Go Go.RowKit
set_option maxHeartbeats 1000000 in
theorem l10Changes_any (b o : Nat) (l : List ByteArray) (p : ByteArray) (w : World) (h : LxAt w b o l) (hl : l.length ≤ 1048576) (hs : ∀ s ∈ l, s.size ≤ 1048576) (hp : p.size ≤ 1048576) :
    Calls Try.prog 49 #[.pointer (some ⟨b, o, none⟩), .string p] w (RetL (strsV (l.filter (fun s => nearB p s))) w) := by
  obtain ⟨a, c, b0, hrd⟩ := h
  have HR : Hid (∀ w', Ext w w' → Rd w' a (strsV l)) := hid (fun w' k => hrd.ext k)
  have HS : Hid (∀ k, k < l.length → (wAt l k).size ≤ 1048576) := hid (fun k hk => hs _ (wAt_mem l k hk))
  clear hrd
  obtain ⟨g, hg⟩ : ∃ g : ByteArray → Bool, (fun s : ByteArray => nearB p s) = g := ⟨_, rfl⟩
  have HG : Hid (∀ s : ByteArray, nearB s p = g s) := hid (fun s => by rw [← hg, nearB_comm])
  rw [hg]
  have HF := hid (filter_snoc l g)
  have HLE := hid (filter_le l g)
  clear hg
  have hE := Ext.refl w
  go_enter Try.func49, Try.ntmps49
  go_wp2_with fail
  go_loopw [5, 6] (fun v i wr => ∃ (k m cap : Nat) (a' : Option Addr), k ≤ l.length ∧ m ≤ k ∧ i = .int .i64 k ∧ v = .slice a' m cap ∧ Hid (m = ((l.take k).filter g).length) ∧ Own wr (w.heap.size + 1) 9 1 a' m cap (strsV ((l.take k).filter g)) ∧ Ext (w.alloc (.cells #[] 9)) wr) (fun _ i _ => l.length - (intOf i).toNat)
  case atStart => exact ⟨0, 0, 0, some ⟨w.heap.size, 0, none⟩, by omega, by omega, rfl, rfl, hid (by simp), by simpa [strsV] using Own.empty _ _ _ _ _, Ext.refl _⟩
  case round =>
    obtain ⟨k, m, cap, a', hk, hmk, rfl, rfl, hm, hown, hext⟩ := hrel
    have hsz := hext.size
    simp only [World.size_alloc] at hsz
    have hE2 : Ext w wr := ((Ext.refl w).alloc _).trans hext
    have b1 := hE2.cell b0
    by_cases hlt : k < l.length
    · obtain ⟨b', o', rfl, hc⟩ := (HR.out _ hE2).word (by omega)
      have c0 := hc k hlt
      have hz := HS.out k hlt
      have hf := HF.out k hlt
      obtain ⟨s, hs⟩ : ∃ s, wAt l k = s := ⟨_, rfl⟩
      rw [hs] at c0 hz hf
      have HFF := hid hf
      obtain ⟨p0, hp0⟩ : ∃ p0, o' + k = p0 := ⟨_, rfl⟩
      rw [hp0] at c0
      clear hs hc hf b0
      have HOWN := hid hown
      clear hown
      go_wp2_with fail
      refine (l10Near_any s p _ hz hp).mono ?_
      rintro e w2 ⟨rfl, hD⟩
      rw [HG.out s]
      have hx := hD.ext
      have hown := HOWN.out.ext hx
      have hs2 := hx.size
      have b2 := hx.cell b1
      have c2 := hx.cell c0
      clear b1 c0
      cases hg : g s
      · have HG := hid hg
        clear hg
        go_wp2_with fail
        go_roundw
        case rel => exact ⟨k + 1, m, cap, a', by omega, by omega, by go_num, rfl, hid (by rw [HFF.out, HG.out]; simpa using hm.out), by rw [HFF.out, HG.out]; simpa using hown, hext.trans hx⟩
        case measure => simp [intOf]; omega
      · have HG := hid hg
        clear hg
        go_wp2_with (at_builtin; refine wpList_push rfl _ _ 24 rfl El_str rfl [_] rfl rfl (by simp [Value.oneCell']) hown (by omega) (by unfold maxLen; omega) (by omega) ?_; intro a2 c3 w3 hown2 hb2)
        go_roundw
        case rel => exact ⟨k + 1, m + 1, c3, a2, by omega, by omega, by go_num, rfl, hid (by rw [HFF.out, HG.out]; simp [← hm.out]), by rw [HFF.out, HG.out, if_pos rfl, strsV_append]; exact hown2, (hext.trans hx).thenBelow hb2 (by simp)⟩
        case measure => simp [intOf]; omega
    · obtain rfl : k = l.length := by omega
      have HX : Hid (l.take l.length = l) := hid List.take_length
      rw [HX.out] at hm hown
      have HOWN := hid hown
      clear hown
      go_wp2_with fail
      go_returns
      exact ⟨a', cap, by rw [strsV_length, ← hm.out]; rfl, HOWN.out.ownR.mono (by omega), hE2⟩
set_option maxHeartbeats 1000000 in
theorem sChangesOf_any (a : Option Addr) (c : Nat) (l : List ByteArray) (p : ByteArray) (w : World) (h : Rd w a (strsV l)) (hl : l.length ≤ 1048576) (hs : ∀ s ∈ l, s.size ≤ 1048576) (hp : p.size ≤ 1048576) :
    Calls Try.prog 26 #[lexV a l.length c, .string p] w (RetW (relL (fun s => nearB p s) l p) (askC l p) w) := by
  have H1 : Hid (relL (fun s => nearB p s) l p = if lexOk l then if wordOk p then l.filter (fun s => nearB p s) else [] else []) := hid rfl
  have H2 : Hid (askC l p = if lexOk l then if wordOk p then 0 else 7 else 1) := hid rfl
  have HLX : Hid (LxAt (w.alloc (.cells #[.slice a l.length c] 30)) w.heap.size 0 l) := hid ⟨a, c, by simp, h.ext ((Ext.refl w).alloc _)⟩
  clear h
  go_enter Try.func26, Try.ntmps26
  go_wp2_with fail
  refine (l10Code_any _ _ l p _ HLX.out hl hs hp).mono ?_
  rintro e w1 ⟨rfl, hD⟩
  have hE := ((Ext.refl w).alloc _).trans hD.ext
  have HL1 := hid (HLX.out.ext hD.ext)
  clear hD
  rw [H2.out]
  cases h1 : lexOk l
  · have L1 := hid h1
    simp only [Bool.false_eq_true, if_false]
    go_wp2_with fail
    go_returns
    exact ⟨none, 0, by rw [H1.out, H2.out, L1.out]; rfl, .inl (by rw [H1.out, L1.out]; rfl), hE⟩
  · cases h2 : wordOk p
    · have L1 := hid h1
      have L2 := hid h2
      simp only [Bool.false_eq_true, if_false, if_true]
      go_wp2_with fail
      go_returns
      exact ⟨none, 0, by rw [H1.out, H2.out, L1.out, L2.out]; rfl, .inl (by rw [H1.out, L1.out, L2.out]; rfl), hE⟩
    · have L1 := hid h1
      have L2 := hid h2
      simp only [if_true]
      go_wp2_with fail
      refine (l10Changes_any _ _ l p _ HL1.out hl hs hp).mono ?_
      rintro e w2 ⟨a', c', rfl, hown, hx⟩
      have HOWN := hid hown
      clear hown
      go_wp2_with fail
      go_returns
      refine ⟨a', c', ?_, ?_, hE.trans hx⟩
      · rw [H1.out, H2.out, L1.out, L2.out, strsV_length]; rfl
      · rw [H1.out, L1.out, L2.out]; exact HOWN.out.mono hE.size
end Go.Proofs.Ytofgmmgphlfamaa
