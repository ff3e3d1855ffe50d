/- DropsOf, InsertsOf of the reference. Conditions: at most 2^20 words, each of at most 2^20 bytes. -/
import Derived.Test.YtfnobjejjjpkoaaCh10i
namespace Go.Proofs.Ytfnobjejjjpkoaa
set_option linter.unusedVariables false
set_option linter.unusedSimpArgs false
open Go Go.RowKit
set_option maxHeartbeats 1000000 in
theorem sDropsOf_any (a : Option Addr) (c : Nat) (l : List ByteArray) (p : ByteArray) (w : World) (h : Rd w a (strsV l)) (hl : l.length ≤ 1048576) (hs : ∀ s ∈ l, s.size ≤ 1048576) (hp : p.size ≤ 1048576) :
    Calls Try.prog 20 #[lexV a l.length c, .string p] w (RetW (relL (fun s => dropB s p) l p) (askC l p) w) := by
  obtain ⟨g, hg⟩ : ∃ g : ByteArray → Bool, (fun s : ByteArray => dropB s p) = g := ⟨_, rfl⟩
  have HG : Hid (∀ s : ByteArray, (dropB s p) = g s) := hid (fun s => by rw [← hg])
  rw [hg]
  clear hg
  have H1 : Hid (relL g l p = if lexOk l then if wordOk p then l.filter g else [] else []) := hid rfl
  have H2 : Hid (askC l p = if lexOk l then if wordOk p then 0 else 7 else 1) := hid rfl
  have HLX : Hid (LxAt (w.alloc (.cells #[.slice a l.length c] 28)) w.heap.size 0 l) := hid ⟨a, c, by simp, h.ext ((Ext.refl w).alloc _)⟩
  have HR : Hid (∀ w', Ext w w' → Rd w' a (strsV l)) := hid (fun w' k => h.ext k)
  have HS : Hid (∀ k, k < l.length → (wAt l k).size ≤ 1048576) := hid (fun k hk => hs _ (wAt_mem l k hk))
  clear h
  go_enter Try.func20, Try.ntmps20
  go_wp2_with fail
  refine (l10Code_any _ _ l p _ HLX.out hl hs hp).mono ?_
  rintro e w1 ⟨rfl, hD⟩
  have b0 := hD.ext.cell (b := w.heap.size) (o := 0) (v := .slice a l.length c) (by simp)
  have hE := ((Ext.refl w).alloc _).trans hD.ext
  clear hD
  rw [H2.out]
  cases h1 : lexOk l
  · have L1 := hid h1
    simp only [Bool.false_eq_true, if_false]
    go_wp2_with fail
    go_returns
    exact ⟨none, 0, by rw [H1.out, H2.out, L1.out]; rfl, .inl (by rw [H1.out, L1.out]; rfl), hE⟩
  · cases h2 : wordOk p
    · have L1 := hid h1
      have L2 := hid h2
      simp only [Bool.false_eq_true, if_false, if_true]
      go_wp2_with fail
      go_returns
      exact ⟨none, 0, by rw [H1.out, H2.out, L1.out, L2.out]; rfl, .inl (by rw [H1.out, L1.out, L2.out]; rfl), hE⟩
    · have L1 := hid h1
      have L2 := hid h2
      simp only [if_true]
      clear h1 h2
      have HF := hid (filter_snoc l g)
      have HLE := hid (filter_le l g)
      go_wp2_with fail
      go_loopw [7, 8] (fun v i wr => ∃ (k m cap : Nat) (a' : Option Addr), k ≤ l.length ∧ m ≤ k ∧ i = .int .i64 k ∧ v = .slice a' m cap ∧ Hid (m = ((l.take k).filter g).length) ∧ Own wr (w1.heap.size + 1) 9 1 a' m cap (strsV ((l.take k).filter g)) ∧ Ext (w1.alloc (.cells #[] 9)) wr) (fun _ i _ => l.length - (intOf i).toNat)
      case atStart => exact ⟨0, 0, 0, some ⟨w1.heap.size, 0, none⟩, by omega, by omega, rfl, rfl, hid (by simp), by simpa [strsV] using Own.empty _ _ _ _ _, Ext.refl _⟩
      case round =>
        obtain ⟨k, m, cap, a', hk, hmk, rfl, rfl, hm, hown, hext⟩ := hrel
        have hsz := hext.size
        simp only [World.size_alloc] at hsz
        have hE1 : Ext w1 wr := ((Ext.refl w1).alloc _).trans hext
        have hE2 : Ext w wr := hE.trans hE1
        have b1 := hE1.cell b0
        by_cases hlt : k < l.length
        · obtain ⟨b, o, rfl, hc⟩ := (HR.out _ hE2).word (by omega)
          have c0 := hc k hlt
          have hz := HS.out k hlt
          have hf := HF.out k hlt
          obtain ⟨s, hs⟩ : ∃ s, wAt l k = s := ⟨_, rfl⟩
          rw [hs] at c0 hz hf
          have HFF := hid hf
          obtain ⟨p0, hp0⟩ : ∃ p0, o + k = p0 := ⟨_, rfl⟩
          rw [hp0] at c0
          clear hs hc hf b0
          have HOWN := hid hown
          clear hown
          go_wp2_with fail
          refine (l10Less_any s p _ hz hp).mono ?_
          rintro e w2 ⟨rfl, hD⟩
          rw [HG.out s]
          have hx := hD.ext
          have hown := HOWN.out.ext hx
          have hs2 := hx.size
          have b2 := hx.cell b1
          have c2 := hx.cell c0
          clear b1 c0
          cases hg : g s
          · have HG := hid hg
            clear hg
            go_wp2_with fail
            go_roundw
            case rel => exact ⟨k + 1, m, cap, a', by omega, by omega, by go_num, rfl, hid (by rw [HFF.out, HG.out]; simpa using hm.out), by rw [HFF.out, HG.out]; simpa using hown, hext.trans hx⟩
            case measure => simp [intOf]; omega
          · have HG := hid hg
            clear hg
            go_wp2_with (at_builtin; refine wpList_push rfl _ _ 22 rfl El_str rfl [_] rfl rfl (by simp [Value.oneCell']) hown (by omega) (by unfold maxLen; omega) (by omega) ?_; intro a2 c3 w3 hown2 hb2)
            go_roundw
            case rel => exact ⟨k + 1, m + 1, c3, a2, by omega, by omega, by go_num, rfl, hid (by rw [HFF.out, HG.out]; simp [← hm.out]), by rw [HFF.out, HG.out, if_pos rfl, strsV_append]; exact hown2, (hext.trans hx).thenBelow hb2 (by simp)⟩
            case measure => simp [intOf]; omega
        · obtain rfl : k = l.length := by omega
          have HX : Hid (l.take l.length = l) := hid List.take_length
          rw [HX.out] at hm hown
          have HOWN := hid hown
          clear hown
          go_wp2_with fail
          go_returns
          refine ⟨a', cap, ?_, ?_, hE2⟩
          · rw [H1.out, H2.out, L1.out, L2.out, if_pos rfl, if_pos rfl, if_pos rfl, if_pos rfl, ← hm.out]; rfl
          · rw [H1.out, L1.out, L2.out, if_pos rfl, if_pos rfl]; exact HOWN.out.ownR.mono (by have := hE.size; omega)
set_option maxHeartbeats 1000000 in
theorem sInsertsOf_any (a : Option Addr) (c : Nat) (l : List ByteArray) (p : ByteArray) (w : World) (h : Rd w a (strsV l)) (hl : l.length ≤ 1048576) (hs : ∀ s ∈ l, s.size ≤ 1048576) (hp : p.size ≤ 1048576) :
    Calls Try.prog 19 #[lexV a l.length c, .string p] w (RetW (relL (fun s => dropB p s) l p) (askC l p) w) := by
  obtain ⟨g, hg⟩ : ∃ g : ByteArray → Bool, (fun s : ByteArray => dropB p s) = g := ⟨_, rfl⟩
  have HG : Hid (∀ s : ByteArray, (dropB p s) = g s) := hid (fun s => by rw [← hg])
  rw [hg]
  clear hg
  have H1 : Hid (relL g l p = if lexOk l then if wordOk p then l.filter g else [] else []) := hid rfl
  have H2 : Hid (askC l p = if lexOk l then if wordOk p then 0 else 7 else 1) := hid rfl
  have HLX : Hid (LxAt (w.alloc (.cells #[.slice a l.length c] 28)) w.heap.size 0 l) := hid ⟨a, c, by simp, h.ext ((Ext.refl w).alloc _)⟩
  have HR : Hid (∀ w', Ext w w' → Rd w' a (strsV l)) := hid (fun w' k => h.ext k)
  have HS : Hid (∀ k, k < l.length → (wAt l k).size ≤ 1048576) := hid (fun k hk => hs _ (wAt_mem l k hk))
  clear h
  go_enter Try.func19, Try.ntmps19
  go_wp2_with fail
  refine (l10Code_any _ _ l p _ HLX.out hl hs hp).mono ?_
  rintro e w1 ⟨rfl, hD⟩
  have b0 := hD.ext.cell (b := w.heap.size) (o := 0) (v := .slice a l.length c) (by simp)
  have hE := ((Ext.refl w).alloc _).trans hD.ext
  clear hD
  rw [H2.out]
  cases h1 : lexOk l
  · have L1 := hid h1
    simp only [Bool.false_eq_true, if_false]
    go_wp2_with fail
    go_returns
    exact ⟨none, 0, by rw [H1.out, H2.out, L1.out]; rfl, .inl (by rw [H1.out, L1.out]; rfl), hE⟩
  · cases h2 : wordOk p
    · have L1 := hid h1
      have L2 := hid h2
      simp only [Bool.false_eq_true, if_false, if_true]
      go_wp2_with fail
      go_returns
      exact ⟨none, 0, by rw [H1.out, H2.out, L1.out, L2.out]; rfl, .inl (by rw [H1.out, L1.out, L2.out]; rfl), hE⟩
    · have L1 := hid h1
      have L2 := hid h2
      simp only [if_true]
      clear h1 h2
      have HF := hid (filter_snoc l g)
      have HLE := hid (filter_le l g)
      go_wp2_with fail
      go_loopw [7, 8] (fun v i wr => ∃ (k m cap : Nat) (a' : Option Addr), k ≤ l.length ∧ m ≤ k ∧ i = .int .i64 k ∧ v = .slice a' m cap ∧ Hid (m = ((l.take k).filter g).length) ∧ Own wr (w1.heap.size + 1) 9 1 a' m cap (strsV ((l.take k).filter g)) ∧ Ext (w1.alloc (.cells #[] 9)) wr) (fun _ i _ => l.length - (intOf i).toNat)
      case atStart => exact ⟨0, 0, 0, some ⟨w1.heap.size, 0, none⟩, by omega, by omega, rfl, rfl, hid (by simp), by simpa [strsV] using Own.empty _ _ _ _ _, Ext.refl _⟩
      case round =>
        obtain ⟨k, m, cap, a', hk, hmk, rfl, rfl, hm, hown, hext⟩ := hrel
        have hsz := hext.size
        simp only [World.size_alloc] at hsz
        have hE1 : Ext w1 wr := ((Ext.refl w1).alloc _).trans hext
        have hE2 : Ext w wr := hE.trans hE1
        have b1 := hE1.cell b0
        by_cases hlt : k < l.length
        · obtain ⟨b, o, rfl, hc⟩ := (HR.out _ hE2).word (by omega)
          have c0 := hc k hlt
          have hz := HS.out k hlt
          have hf := HF.out k hlt
          obtain ⟨s, hs⟩ : ∃ s, wAt l k = s := ⟨_, rfl⟩
          rw [hs] at c0 hz hf
          have HFF := hid hf
          obtain ⟨p0, hp0⟩ : ∃ p0, o + k = p0 := ⟨_, rfl⟩
          rw [hp0] at c0
          clear hs hc hf b0
          have HOWN := hid hown
          clear hown
          go_wp2_with fail
          refine (l10Less_any p s _ hp hz).mono ?_
          rintro e w2 ⟨rfl, hD⟩
          rw [HG.out s]
          have hx := hD.ext
          have hown := HOWN.out.ext hx
          have hs2 := hx.size
          have b2 := hx.cell b1
          have c2 := hx.cell c0
          clear b1 c0
          cases hg : g s
          · have HG := hid hg
            clear hg
            go_wp2_with fail
            go_roundw
            case rel => exact ⟨k + 1, m, cap, a', by omega, by omega, by go_num, rfl, hid (by rw [HFF.out, HG.out]; simpa using hm.out), by rw [HFF.out, HG.out]; simpa using hown, hext.trans hx⟩
            case measure => simp [intOf]; omega
          · have HG := hid hg
            clear hg
            go_wp2_with (at_builtin; refine wpList_push rfl _ _ 22 rfl El_str rfl [_] rfl rfl (by simp [Value.oneCell']) hown (by omega) (by unfold maxLen; omega) (by omega) ?_; intro a2 c3 w3 hown2 hb2)
            go_roundw
            case rel => exact ⟨k + 1, m + 1, c3, a2, by omega, by omega, by go_num, rfl, hid (by rw [HFF.out, HG.out]; simp [← hm.out]), by rw [HFF.out, HG.out, if_pos rfl, strsV_append]; exact hown2, (hext.trans hx).thenBelow hb2 (by simp)⟩
            case measure => simp [intOf]; omega
        · obtain rfl : k = l.length := by omega
          have HX : Hid (l.take l.length = l) := hid List.take_length
          rw [HX.out] at hm hown
          have HOWN := hid hown
          clear hown
          go_wp2_with fail
          go_returns
          refine ⟨a', cap, ?_, ?_, hE2⟩
          · rw [H1.out, H2.out, L1.out, L2.out, if_pos rfl, if_pos rfl, if_pos rfl, if_pos rfl, ← hm.out]; rfl
          · rw [H1.out, L1.out, L2.out, if_pos rfl, if_pos rfl]; exact HOWN.out.ownR.mono (by have := hE.size; omega)
end Go.Proofs.Ytfnobjejjjpkoaa
