/- MakeLexicon of the reference. Conditions: at most 2^20 bytes and words in all. -/
import Derived.Test.YtflpiebiacainaaCh05i
namespace Go.Proofs.Ytflpiebiacainaa
set_option linter.unusedVariables false
set_option linter.unusedSimpArgs false
open Go Go.RowKit
theorem allL_long {l : List ByteArray} (h : l.all longOk = true) : 2 * l.length ≤ sumL l := by
  induction l with
  | nil => simp [sumL]
  | cons x l ih =>
    simp only [List.all_cons, Bool.and_eq_true] at h
    have h2 : 2 ≤ x.size := by
      have := h.1
      unfold longOk at this
      simp only [Bool.and_eq_true, decide_eq_true_eq] at this
      exact this.1
    have := ih h.2
    simp only [sumL, List.map_cons, List.sum_cons, List.length_cons] at this ⊢
    omega
set_option maxHeartbeats 1000000 in
theorem sMakeLexicon_any (a : Option Addr) (c : Nat) (l : List ByteArray) (w : World) (h : Rd w a (strsV l)) (hl : l.length + sumL l ≤ 1048576) (hs : ∀ s ∈ l, s.size ≤ 1048576) :
    Calls Try.prog 14 #[.slice a l.length c] w (RetA (makX l) (makC l) w) := by
  have HR : Hid (∀ w', Ext w w' → Rd w' a (strsV l)) := hid (fun w' k => h.ext k)
  have HC : Hid (makC l = if l.all longOk then if 200 < (makeL l).length then 5 else 0 else 7) := hid rfl
  have HX : Hid (makX l = if makC l = 0 then makeL l else []) := hid rfl
  have HY := hid (@allL_yes l)
  have HN := hid (@allL_no l)
  have HT := hid (@allL_long l)
  have HS : Hid (∀ k, k < l.length → (wAt l k).size ≤ 1048576) := hid (fun k hk => hs _ (wAt_mem l k hk))
  have HM := hid (fun w' (k : Ext w w') (h9 : l.length ≤ 900000) => l05Make_any a c l w' (h.ext k) h9)
  have hl0 : l.length ≤ 1048576 := by omega
  clear h hs
  go_enter Try.func14, Try.ntmps14
  go_wp2_with fail
  have box0 : LkT (w.alloc (.cells #[.slice none 0 0] 26)) w.heap.size 26 (.slice none 0 0) := LkT.new w _ _
  go_loopw [4] (fun i wr => ∃ k : Nat, k ≤ l.length ∧ i = .int .i64 k ∧ Hid (∀ j, j < k → longOk (wAt l j) = true) ∧ Hid (LkT wr w.heap.size 26 (.slice none 0 0)) ∧ Ext w wr) (fun i _ => l.length - (intOf i).toNat)
  case atStart => exact ⟨0, by omega, rfl, hid (fun j hj => by omega), hid box0, (Ext.refl w).alloc _⟩
  case round =>
    clear box0
    obtain ⟨k, hk, rfl, hall, HB, hE⟩ := hrel
    by_cases hlt : k < l.length
    · obtain ⟨b, o, rfl, hc⟩ := (HR.out _ hE).word (by omega)
      have c0 := hc k hlt
      have hz := HS.out k hlt
      have HNk := hid (HN.out k hlt)
      obtain ⟨s, hs⟩ : ∃ s, wAt l k = s := ⟨_, rfl⟩
      rw [hs] at c0 hz HNk
      have HSS := hid hs
      clear hs hc
      obtain ⟨p0, hp0⟩ : ∃ p0, o + k = p0 := ⟨_, rfl⟩
      rw [hp0] at c0
      go_wp2_with fail
      refine (l05Long_any s _ hz).mono ?_
      rintro e w2 ⟨rfl, hx'⟩
      have hx : Ext wr w2 := hx' ▸ Ext.refl wr
      have HB2 := hid (HB.out.ext hx)
      have hE2 := hE.trans hx
      clear hx hx' c0 hp0
      cases hg : longOk s
      · have HG := hid hg
        have HA : Hid (makC l = 7) := hid (by rw [HC.out, HNk.out hg]; rfl)
        have r0 := HB2.out.cell
        have rf := HB2.out.free 0
        clear hg
        go_wp2_with fail
        refine bodyPost_ret (v := .tuple #[lexV none 0 0, .int .i64 7]) (by simp [results, Try.results14, go_sem, r0, rf]) rfl ⟨none, 0, by rw [HX.out, HA.out]; rfl, by rw [HX.out, HA.out]; exact .inl rfl, hE2.setCell (by simp) _⟩
      · have HG := hid hg
        clear hg
        go_wp2_with fail
        go_roundw
        case rel =>
          refine ⟨k + 1, by omega, by go_num, hid (fun j hj => ?_), HB2, hE2⟩
          · by_cases hjk : j = k
            · subst hjk; rw [HSS.out, HG.out]
            · exact hall.out j (by omega)
        case measure => simp [intOf]; omega
    · obtain rfl : k = l.length := by omega
      have HL := hid (HY.out hall.out)
      have h9 : l.length ≤ 900000 := by have := HT.out HL.out; omega
      go_wp2_with fail
      refine (HM.out _ hE h9).mono ?_
      rintro e w2 ⟨a2, c2, rfl, ho, hx⟩
      have HO := hid ho
      have HB2 := hid (HB.out.ext hx)
      have hE2 := hE.trans hx
      have HSZ := hid hE.size
      clear hx ho
      obtain ⟨z, hz⟩ : ∃ z, (makeL l).length = z := ⟨_, rfl⟩
      rw [hz]
      have HZ := hid hz
      clear hz
      have r0 := HB2.out.cell
      have rf := HB2.out.free 0
      have lt2 := HB2.out.lt
      by_cases hf : 200 < z
      · have HA : Hid (makC l = 5) := hid (by rw [HC.out, HL.out, if_pos rfl, HZ.out, if_pos hf])
        have hfi : (200 : Int) < (z : Int) := by omega
        clear hf
        go_wp2_with fail
        refine bodyPost_ret (v := .tuple #[lexV none 0 0, .int .i64 5]) (by simp [results, Try.results14, go_sem, r0, rf]) rfl ⟨none, 0, by rw [HX.out, HA.out]; rfl, by rw [HX.out, HA.out]; exact .inl rfl, hE2.setCell (by simp) _⟩
      · have HA : Hid (makC l = 0) := hid (by rw [HC.out, HL.out, if_pos rfl, HZ.out, if_neg hf])
        have hfi : ¬ (200 : Int) < (z : Int) := by omega
        have HXL : Hid (makX l = makeL l) := hid (by rw [HX.out, if_pos HA.out])
        clear hf
        go_wp2_with fail
        refine bodyPost_ret (v := .tuple #[lexV a2 z c2, .int .i64 0]) (by simp [results, Try.results14, go_sem, r0, rf]) rfl ⟨a2, c2, by rw [HXL.out, HA.out, HZ.out], ?_, hE2.setCell (by simp) _⟩
        rw [HXL.out]
        rcases HO.out.inR with h | ⟨g, he, h1, h2, hw⟩
        · exact .inl h
        · exact .inr ⟨g, he, by have := HSZ.out; omega, by simpa [World.setCell] using h2, hw.other (by have := HB.out.lt; omega)⟩
end Go.Proofs.Ytflpiebiacainaa
