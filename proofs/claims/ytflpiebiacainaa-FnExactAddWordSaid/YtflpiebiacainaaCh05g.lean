/- AddWord by the reference. Conditions: at most 2^20 words, each of at most 2^20 bytes. -/
import Derived.Test.YtflpiebiacainaaCh05f
namespace Go.Proofs.Ytflpiebiacainaa
set_option linter.unusedVariables false
set_option linter.unusedSimpArgs false
open Go Go.RowKit
set_option maxHeartbeats 1000000 in
theorem sAddWord_any (a : Option Addr) (c : Nat) (l : List ByteArray) (x : ByteArray) (w : World) (h : Rd w a (strsV l)) (hl : l.length ≤ 1048576) (hs : ∀ s ∈ l, s.size ≤ 1048576) (hx : x.size ≤ 1048576) (hlc : l.length ≤ c) :
    Calls Try.prog 7 #[lexV a l.length c, .string x] w (RetA (addL l x) (addC l x) w) := by
  have HR : Hid (∀ w', Ext w w' → Rd w' a (strsV l)) := hid (fun w' k => h.ext k)
  have HV := hid (fun w' (k : LxAt w' w.heap.size 0 l) => l05Ok_any w.heap.size 0 l w' k hl hs)
  have HLX : Hid (LxAt ((w.alloc (.cells #[.slice a l.length c] 26)).alloc (.cells #[.slice none 0 0] 26)) w.heap.size 0 l) := hid ⟨a, c, by simp, h.ext (((Ext.refl w).alloc _).alloc _)⟩
  have HC : Hid (addC l x = if lexOk l then if longOk x then if hasL l x then 4 else if l.length = 200 then 5 else 0 else 7 else 1) := hid rfl
  clear h
  cases hk : lexOk l
  · rw [hk] at HV HC
    clear hk
    go_enter Try.func7, Try.ntmps7
    go_wp2_with fail
    refine (HV.out _ HLX.out).mono ?_
    rintro e w1 ⟨rfl, hD⟩
    have hE := hD.ext
    have r01 := hE.cell (b := w.heap.size + 1) (o := 0) (v := .slice none 0 0) (by simp)
    have b01 := hE.cell (b := w.heap.size) (o := 0) (v := .slice a l.length c) (by simp)
    have rf1 : w1.frozen? ⟨w.heap.size + 1, 0, none⟩ = false := by rw [hE.cells.2 _ _ (by simp)]; simp
    have hE1 := (((Ext.refl w).alloc _).alloc _).trans hE
    clear hE hD
    go_wp2_with fail
    refine bodyPost_ret (v := .tuple #[lexV none 0 0, .int .i64 1]) (by simp [results, Try.results7, go_sem, r01, rf1]) rfl ⟨none, 0, by unfold addL; rw [HC.out]; rfl, by unfold addL; rw [HC.out]; exact .inl rfl, hE1.setCell (by simp) _⟩
  · rw [hk] at HV HC
    have HI := hid (lexOk_inc hk)
    have h200 := lexOk_200 hk
    clear hk
    go_enter Try.func7, Try.ntmps7
    go_wp2_with fail
    refine (HV.out _ HLX.out).mono ?_
    rintro e w1 ⟨rfl, hD⟩
    have hE := hD.ext
    have r01 := hE.cell (b := w.heap.size + 1) (o := 0) (v := .slice none 0 0) (by simp)
    have b01 := hE.cell (b := w.heap.size) (o := 0) (v := .slice a l.length c) (by simp)
    have rf1 : w1.frozen? ⟨w.heap.size + 1, 0, none⟩ = false := by rw [hE.cells.2 _ _ (by simp)]; simp
    have hE1 := (((Ext.refl w).alloc _).alloc _).trans hE
    clear hE hD
    cases hg : longOk x
    · have HG := hid hg
      have HLG := hid (l05Long_any x w1 hx)
      rw [hg] at HLG
      clear hg
      go_wp2_with fail
      refine HLG.out.mono ?_
      rintro e w2 ⟨rfl, rfl⟩
      go_wp2_with fail
      refine bodyPost_ret (v := .tuple #[lexV none 0 0, .int .i64 7]) (by simp [results, Try.results7, go_sem, r01, rf1]) rfl ⟨none, 0, by unfold addL; rw [HC.out, HG.out]; rfl, by unfold addL; rw [HC.out, HG.out]; exact .inl rfl, hE1.setCell (by simp) _⟩
    have HG := hid hg
    have HLG := hid (l05Long_any x w1 hx)
    rw [hg] at HLG
    clear hg
    go_wp2_with fail
    refine HLG.out.mono ?_
    rintro e w2 ⟨rfl, rfl⟩
    have HH0 := hid (l05Has_any a c l x w1 (HR.out _ hE1) hl)
    cases hh : hasL l x
    case true =>
      have HH := hid hh
      rw [hh] at HH0
      clear hh
      go_wp2_with fail
      refine HH0.out.mono ?_
      rintro e w3 ⟨rfl, hD⟩
      have hx3 := hD.ext
      have r03 := hx3.cell r01
      have rf3 : w3.frozen? ⟨w.heap.size + 1, 0, none⟩ = false := by rw [hx3.cells.2 _ _ (World.block_lt_of_cell? _ _ r01)]; exact rf1
      have hE3 := hE1.trans hx3
      clear hx3 hD r01 b01 rf1 hE1
      go_wp2_with fail
      refine bodyPost_ret (v := .tuple #[lexV none 0 0, .int .i64 4]) (by simp [results, Try.results7, go_sem, r03, rf3]) rfl ⟨none, 0, by unfold addL; rw [HC.out, HG.out, HH.out]; rfl, by unfold addL; rw [HC.out, HG.out, HH.out]; exact .inl rfl, hE3.setCell (by simp) _⟩
    have HH := hid hh
    have HIN := hid (insL_new HI.out hh)
    rw [hh] at HH0
    clear hh
    go_wp2_with fail
    refine HH0.out.mono ?_
    rintro e w3 ⟨rfl, hD⟩
    have hx3 := hD.ext
    have r03 := hx3.cell r01
    have b03 := hx3.cell b01
    have rf3 : w3.frozen? ⟨w.heap.size + 1, 0, none⟩ = false := by rw [hx3.cells.2 _ _ (World.block_lt_of_cell? _ _ r01)]; exact rf1
    have hE3 := hE1.trans hx3
    clear hx3 hD r01 b01 rf1 hE1
    by_cases hf : l.length = 200
    · have HF := hid hf
      have hfi : (200 : Int) ≤ (l.length : Int) := by omega
      clear hf
      go_wp2_with fail
      refine bodyPost_ret (v := .tuple #[lexV none 0 0, .int .i64 5]) (by simp [results, Try.results7, go_sem, r03, rf3]) rfl ⟨none, 0, by unfold addL; rw [HC.out, HG.out, HH.out, if_pos HF.out]; rfl, by unfold addL; rw [HC.out, HG.out, HH.out, if_pos HF.out]; exact .inl rfl, hE3.setCell (by simp) _⟩
    have hfi : decide ((200 : Int) ≤ (l.length : Int)) = false := decide_eq_false (by omega)
    have HK : Hid (addC l x = 0) := hid (by rw [HC.out, HG.out, HH.out, if_neg hf]; rfl)
    have HLN : Hid ((inAt l (posL l x) x).length = l.length + 1) := hid (by have := posL_le l x; simp [inAt]; omega)
    clear hf
    go_wp2_with fail
    refine (l03Insert_any a c l x _ (HR.out _ hE3) (by omega) hlc).mono ?_
    rintro e w4 ⟨a6, c6, rfl, hor, hx4⟩
    rw [HIN.out, HLN.out] at hor ⊢
    have hown : Own w4 w3.heap.size 9 1 a6 (l.length + 1) c6 (strsV (inAt l (posL l x) x)) := by
      rcases hor with ⟨_, _, q⟩ | q
      · have := HLN.out; rw [q] at this; omega
      · exact q
    have r04 := hx4.cell r03
    have rf4 : w4.frozen? ⟨w.heap.size + 1, 0, none⟩ = false := by rw [hx4.cells.2 _ _ (World.block_lt_of_cell? _ _ r03)]; exact rf3
    have lt3 := World.block_lt_of_cell? _ _ r03
    have hX := hE3.trans hx4
    have HA : Hid (addL l x = inAt l (posL l x) x) := hid (by unfold addL; rw [if_pos HK.out])
    have HO := hid hown.inR
    clear hor hown hx4 r03 b03 rf3
    go_wp2_with fail
    refine bodyPost_ret (v := .tuple #[lexV a6 (l.length + 1) c6, .int .i64 0]) (by simp [results, Try.results7, go_sem, r04, rf4]) rfl ⟨a6, c6, by rw [HA.out, HK.out, HLN.out], ?_, hX.setCell (by simp) _⟩
    rw [HA.out]
    rcases HO.out with h | ⟨g, rfl, h1, h2, hw⟩
    · exact .inl h
    · exact .inr ⟨g, rfl, by have := hE3.size; omega, by simpa [World.setCell] using h2, hw.other (by omega)⟩
end Go.Proofs.Ytflpiebiacainaa
