/- Lexicons in memory: what the laws' own functions on them compute. -/
import Derived.Test.YtlnccdbmchjhlaaDoorMg3
namespace Go.Proofs.YtlnccdbmchjhlaaDoor
set_option linter.unusedVariables false
set_option linter.unusedSimpArgs false
open Go Go.RowKit
abbrev lexV (a : Option Addr) (n c : Nat) : Value := .agg #[.slice a n c]
def szX (L : Int) (l : List ByteArray) : Int := if szL L l < 0 then -1 else szL L l
theorem szX_ok {L : Int} {l : List ByteArray} (h0 : 0 ≤ L) (h : ¬ szX L l < 0) : (l.length : Int) + sumL l ≤ L ∧ szX L l = L - l.length - sumL l := by
  unfold szX at *
  split at h
  · omega
  · rename_i hn
    rw [if_neg hn]
    exact szL_ok h0 hn
theorem Wr.other {w : World} {g b o : Nat} {xs : List Value} {u : Value} (h : Wr w g xs) (hb : b ≠ g) : Wr (w.setCell ⟨b, o, none⟩ u) g xs :=
  ⟨by simpa [World.setCell] using h.1, fun j v hj => by rw [World.cell?_setCell_other _ _ _ _ (by intro e; exact hb (congrArg Addr.block e))]; exact h.2.1 j v hj, fun j hj => by simpa using h.2.2 j hj⟩
set_option maxHeartbeats 400000 in
theorem szLexicon_any (a : Option Addr) (c : Nat) (l : List ByteArray) (L : Int) (w : World) (h : Rd w a (strsV l)) (hl : l.length ≤ maxLen) (hs : ∀ s ∈ l, s.size ≤ maxLen) (h0 : 0 ≤ L) (h1 : L ≤ 1048576) :
    Calls Tryd.prog 5 #[lexV a l.length c, .int .i64 L] w (Ret (.int .i64 (szX L l)) w) := by
  have HR := hid (h.ext ((Ext.refl w).alloc (.cells #[.slice a l.length c] 24)))
  clear h
  go_enter Tryd.func5, Tryd.ntmps5
  go_wp2_with fail
  refine (szStringS_any a c l L _ HR.out hl hs h0 h1).mono ?_
  rintro e w1 ⟨rfl, rfl⟩
  by_cases hn : szL L l < 0
  · have HN : Hid (szX L l = -1) := hid (if_pos hn)
    go_wp2_with fail
    go_returns
    exact ⟨ret_int HN.out.symm, (Ext.refl w).alloc _⟩
  · have HN : Hid (szX L l = szL L l) := hid (if_neg hn)
    go_wp2_with fail
    go_returns
    exact ⟨ret_int HN.out.symm, (Ext.refl w).alloc _⟩
/-- A lexicon comes back, whose row is the call's own. -/
def RetX (l : List ByteArray) (w : World) (e : Ending) (w' : World) : Prop := ∃ a c, e = .returned (lexV a l.length c) ∧ OwnR w' w.heap.size a (strsV l) ∧ Ext w w'
set_option maxHeartbeats 400000 in
theorem toLexicon_any (a : Option Addr) (c : Nat) (l : List ByteArray) (w : World) (h : Rd w a (strsV l)) (hl : l.length ≤ 1048576) :
    Calls Tryd.prog 7 #[lexV a l.length c] w (RetX l w) := by
  have HR : Hid (∀ w', Ext w w' → Rd w' a (strsV l)) := hid (fun w' k => h.ext k)
  clear h
  go_enter Tryd.func7, Tryd.ntmps7
  go_wp2_with fail
  refine (toStringS_any a c l _ (HR.out _ ((((Ext.refl w).alloc _).alloc _).alloc _)) hl).mono ?_
  rintro e w1 ⟨a', c', rfl, hown, hx⟩
  rw [strsV_length]
  have r0 := hx.cell (b := w.heap.size + 1) (o := 0) (v := .slice none 0 0) (by go_cell)
  have r1 := hx.cell (b := w.heap.size + 2) (o := 0) (v := .slice none 0 0) (by go_cell)
  have rf : ∀ j, w1.frozen? ⟨w.heap.size + 1, j, none⟩ = false := fun j => by rw [hx.cells.2 _ _ (by simp only [World.size_alloc]; omega)]; go_cell
  have rg : ∀ j, w1.frozen? ⟨w.heap.size + 2, j, none⟩ = false := fun j => by rw [hx.cells.2 _ _ (by simp only [World.size_alloc]; omega)]; go_cell
  have hE : Ext w w1 := ((((Ext.refl w).alloc _).alloc _).alloc _).trans hx
  have hs := hx.size
  simp only [World.size_alloc] at hs hown
  have HO := hid hown
  clear hx hown
  go_wp2_with fail
  refine bodyPost_ret (v := lexV a' l.length c') (by simp [results, Tryd.results7, go_sem, r0, r1, rf, rg]) rfl ⟨a', c', rfl, ?_, (hE.setCell (by simp only [World.size_alloc]; omega) _).setCell (by simp only [World.size_alloc]; omega) _⟩
  rcases HO.out with h | ⟨g, rfl, hg, hw⟩
  · exact .inl h
  · refine .inr ⟨g, rfl, by omega, ?_⟩
    exact (hw.other (by omega)).other (by omega)
set_option maxHeartbeats 400000 in
theorem eqLexicon_self (a b : Option Addr) (c d : Nat) (l : List ByteArray) (w : World) (h : Rd w a (strsV l)) (h' : Rd w b (strsV l)) (hl : l.length ≤ 1048576) :
    Calls Tryd.prog 10 #[lexV a l.length c, lexV b l.length d] w (Ret (.bool true) w) := by
  have HR : Hid (∀ w', Ext w w' → Rd w' a (strsV l)) := hid (fun w' k => h.ext k)
  have HS : Hid (∀ w', Ext w w' → Rd w' b (strsV l)) := hid (fun w' k => h'.ext k)
  clear h h'
  go_enter Tryd.func10, Tryd.ntmps10
  go_wp2_with fail
  refine (eqStringS_self a b c d l _ (HR.out _ (((Ext.refl w).alloc _).alloc _)) (HS.out _ (((Ext.refl w).alloc _).alloc _)) hl).mono ?_
  rintro e w1 ⟨rfl, hD⟩
  go_wp2_with fail
  go_returns
  exact ⟨rfl, (((Ext.refl w).alloc _).alloc _).trans hD.ext⟩
end Go.Proofs.YtlnccdbmchjhlaaDoor
