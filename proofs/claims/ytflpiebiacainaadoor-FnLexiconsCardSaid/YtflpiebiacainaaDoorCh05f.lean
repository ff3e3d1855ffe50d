/- AddWord by the program. Conditions: at most 2^20 words, each of at most 2^20 bytes. -/
import Derived.Test.YtflpiebiacainaaDoorCh05e
namespace Go.Proofs.YtflpiebiacainaaDoor
set_option linter.unusedVariables false
set_option linter.unusedSimpArgs false
open Go Go.RowKit
def addC (l : List ByteArray) (x : ByteArray) : Int := if lexOk l then if longOk x then if hasL l x then 4 else if l.length = 200 then 5 else 0 else 7 else 1
def addL (l : List ByteArray) (x : ByteArray) : List ByteArray := if addC l x = 0 then inAt l (posL l x) x else []
theorem addL_le (l : List ByteArray) (x : ByteArray) (hl : l.length ≤ 1048576) : (addL l x).length ≤ 1048576 := by
  unfold addL
  split
  · rename_i h
    have h2 : l.length ≤ 200 := by
      cases hk : lexOk l
      · simp [addC, hk] at h
      · exact lexOk_200 hk
    have := posL_le l x
    simp [inAt]
    omega
  · simp
/-- A lexicon of the call's own and a code. -/
def RetA (L : List ByteArray) (k : Int) (w : World) (e : Ending) (w' : World) : Prop := ∃ a c, e = .returned (.tuple #[lexV a L.length c, .int .i64 k]) ∧ InR w.heap.size w'.heap.size w' a (strsV L) ∧ Ext w w'
set_option maxHeartbeats 1000000 in
theorem AddWord_any (a : Option Addr) (c : Nat) (l : List ByteArray) (x : ByteArray) (w : World) (h : Rd w a (strsV l)) (hl : l.length ≤ 1048576) (hs : ∀ s ∈ l, s.size ≤ 1048576) (hx : x.size ≤ 1048576) :
    Calls Tryd.prog 11 #[lexV a l.length c, .string x] w (RetA (addL l x) (addC l x) w) := by
  have HR : Hid (∀ w', Ext w w' → Rd w' a (strsV l)) := hid (fun w' k => h.ext k)
  have HV := hid (fun w' (k : Ext w w') => ValidLexicon_any a c l w' (h.ext k) hl hs)
  have HC : Hid (addC l x = if lexOk l then if longOk x then if hasL l x then 4 else if l.length = 200 then 5 else 0 else 7 else 1) := hid rfl
  clear h
  cases hk : lexOk l
  · rw [hk] at HV HC
    have HA : Hid (addL l x = []) := hid (by unfold addL; rw [HC.out]; rfl)
    clear hk
    go_enter Tryd.func11, Tryd.ntmps11
    go_wp2_with fail
    refine (HV.out _ (((Ext.refl w).alloc _).alloc _)).mono ?_
    rintro e w1 ⟨rfl, hE⟩
    have r0 := hE.cell (b := w.heap.size + 1) (o := 0) (v := .slice none 0 0) (by simp)
    have rf : w1.frozen? ⟨w.heap.size + 1, 0, none⟩ = false := by rw [hE.cells.2 _ _ (by simp)]; simp
    have hE1 := (((Ext.refl w).alloc _).alloc _).trans hE
    clear hE
    go_wp2_with fail
    refine bodyPost_ret (v := .tuple #[lexV none 0 0, .int .i64 1]) (by simp [results, Tryd.results11, go_sem, r0, rf]) rfl ⟨none, 0, by rw [HA.out, HC.out]; rfl, by rw [HA.out]; exact .inl rfl, hE1.setCell (by simp) _⟩
  · rw [hk] at HV HC
    have HI := hid (lexOk_inc hk)
    have h200 := lexOk_200 hk
    clear hk
    go_enter Tryd.func11, Tryd.ntmps11
    go_wp2_with fail
    refine (HV.out _ (((Ext.refl w).alloc _).alloc _)).mono ?_
    rintro e w1 ⟨rfl, hE⟩
    have r01 := hE.cell (b := w.heap.size + 1) (o := 0) (v := .slice none 0 0) (by simp)
    have b01 := hE.cell (b := w.heap.size) (o := 0) (v := .slice a l.length c) (by simp)
    have rf1 : w1.frozen? ⟨w.heap.size + 1, 0, none⟩ = false := by rw [hE.cells.2 _ _ (by simp)]; simp
    have hE1 := (((Ext.refl w).alloc _).alloc _).trans hE
    clear hE
    go_wp2_with fail
    refine (isLong_any x _ hx).mono ?_
    rintro e w2 ⟨rfl, hx2⟩
    have r02 := hx2.cell r01
    have b02 := hx2.cell b01
    have rf2 : w2.frozen? ⟨w.heap.size + 1, 0, none⟩ = false := by rw [hx2.cells.2 _ _ (World.block_lt_of_cell? _ _ r01)]; exact rf1
    have hE2 := hE1.trans hx2
    clear hx2 r01 b01 rf1 hE1
    cases hg : longOk x
    · have HG := hid hg
      clear hg
      go_wp2_with fail
      refine bodyPost_ret (v := .tuple #[lexV none 0 0, .int .i64 7]) (by simp [results, Tryd.results11, go_sem, r02, rf2]) rfl ⟨none, 0, by unfold addL; rw [HC.out, HG.out]; rfl, by unfold addL; rw [HC.out, HG.out]; exact .inl rfl, hE2.setCell (by simp) _⟩
    have HG := hid hg
    clear hg
    go_wp2_with fail
    refine (has_any a c l x _ (HR.out _ hE2) hl HI.out).mono ?_
    rintro e w3 ⟨rfl, hx3⟩
    have r03 := hx3.cell r02
    have b03 := hx3.cell b02
    have rf3 : w3.frozen? ⟨w.heap.size + 1, 0, none⟩ = false := by rw [hx3.cells.2 _ _ (World.block_lt_of_cell? _ _ r02)]; exact rf2
    have hE3 := hE2.trans hx3
    clear hx3 r02 b02 rf2 hE2
    cases hh : hasL l x
    case true =>
      have HH := hid hh
      clear hh
      go_wp2_with fail
      refine bodyPost_ret (v := .tuple #[lexV none 0 0, .int .i64 4]) (by simp [results, Tryd.results11, go_sem, r03, rf3]) rfl ⟨none, 0, by unfold addL; rw [HC.out, HG.out, HH.out]; rfl, by unfold addL; rw [HC.out, HG.out, HH.out]; exact .inl rfl, hE3.setCell (by simp) _⟩
    have HH := hid hh
    clear hh
    by_cases hf : l.length = 200
    · have HF := hid hf
      have hfi : ((l.length : Int) == 200) = true := by simp [hf]
      clear hf
      go_wp2_with fail
      refine bodyPost_ret (v := .tuple #[lexV none 0 0, .int .i64 5]) (by simp [results, Tryd.results11, go_sem, r03, rf3]) rfl ⟨none, 0, by unfold addL; rw [HC.out, HG.out, HH.out, if_pos HF.out]; rfl, by unfold addL; rw [HC.out, HG.out, HH.out, if_pos HF.out]; exact .inl rfl, hE3.setCell (by simp) _⟩
    have hfi : ((l.length : Int) == 200) = false := by simp; omega
    go_wp2_with fail
    refine (BinarySearch_any a c l x _ (HR.out _ hE3) hl HI.out).mono ?_
    rintro e w4 ⟨rfl, hD⟩
    have hx4 := hD.ext
    have r04 := hx4.cell r03
    have b04 := hx4.cell b03
    have rf4 : w4.frozen? ⟨w.heap.size + 1, 0, none⟩ = false := by rw [hx4.cells.2 _ _ (World.block_lt_of_cell? _ _ r03)]; exact rf3
    have hE4 := hE3.trans hx4
    clear hx4 hD r03 b03 rf3 hE3
    go_wp2_with fail
    refine (Clone_any a c l _ (HR.out _ hE4) hl).mono ?_
    rintro e w5 ⟨a', c', rfl, ho, hx5⟩
    have r05 := hx5.cell r04
    have rf5 : w5.frozen? ⟨w.heap.size + 1, 0, none⟩ = false := by rw [hx5.cells.2 _ _ (World.block_lt_of_cell? _ _ r04)]; exact rf4
    have hE5 := hE4.trans hx5
    have HO := hid ho
    have hs5 : w4.heap.size ≤ w5.heap.size := hx5.size
    have lt4 := World.block_lt_of_cell? _ _ r04
    clear hx5 r04 b04 rf4 ho
    go_wp2_with fail
    have HK : Hid (addC l x = 0) := hid (by rw [HC.out, HG.out, HH.out, if_neg hf]; rfl)
    have hE6 : Ext w5 (w5.alloc (.cells #[.string x] 9)) := (Ext.refl w5).alloc _
    have hsh : (w5.alloc (.cells #[.string x] 9)).shape? w5.heap.size = some (9, 1) := by
      simp only [World.shape?, World.alloc, Array.getElem?_push_size]; rfl
    refine (Insert_one a' c' l (posL l x) x w5.heap.size 1 w4.heap.size w5 _ HO.out hE6 (Nat.le_refl _) (by simp; omega) hl (posL_le l x) (by simp) _ _ hsh (fun o => by simp)).mono ?_
    rintro e w6 ⟨a6, c6, rfl, hin, hb6⟩
    have r06 : w6.cell? ⟨w.heap.size + 1, 0, none⟩ = some (.slice none 0 0) := by rw [Below.cell hb6 (p := ⟨w.heap.size + 1, 0, none⟩) lt4]; exact hE6.cell r05
    have rf6 : w6.frozen? ⟨w.heap.size + 1, 0, none⟩ = false := by
      rw [Below.frozen hb6 (p := ⟨w.heap.size + 1, 0, none⟩) lt4, hE6.cells.2 _ _ (World.block_lt_of_cell? _ _ r05)]; exact rf5
    have hX6 : Ext w w6 := (hE5.trans hE6).thenBelow hb6 hE4.size
    have HA : Hid (addL l x = inAt l (posL l x) x) := hid (by unfold addL; rw [if_pos HK.out])
    have HLN : Hid ((inAt l (posL l x) x).length = l.length + 1) := hid (by have := posL_le l x; simp [inAt]; omega)
    have HIN := hid hin
    clear r05 rf5 hE5 hE6 hb6 hin
    go_wp2_with fail
    refine bodyPost_ret (v := .tuple #[lexV a6 (l.length + 1) c6, .int .i64 0]) (by simp [results, Tryd.results11, go_sem, r06, rf6]) rfl ⟨a6, c6, by rw [HA.out, HK.out, HLN.out], ?_, hX6.setCell (by simp) _⟩
    rw [HA.out]
    rcases HIN.out with h | ⟨g, rfl, h1, h2, hw⟩
    · exact .inl h
    · exact .inr ⟨g, rfl, by have := hE4.size; omega, by simpa [World.setCell] using h2, hw.other (by omega)⟩
end Go.Proofs.YtflpiebiacainaaDoor
