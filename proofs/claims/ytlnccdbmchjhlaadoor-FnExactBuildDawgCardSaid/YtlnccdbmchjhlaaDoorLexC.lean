/- A lexicon copied by the laws' own functions, with the room of its list. Conditions: at most 2^20 words. -/
import Derived.Test.YtlnccdbmchjhlaaDoorLex
namespace Go.Proofs.YtlnccdbmchjhlaaDoor
set_option linter.unusedVariables false
set_option linter.unusedSimpArgs false
open Go Go.RowKit
set_option maxHeartbeats 400000 in
theorem toStringS_cap (a : Option Addr) (c : Nat) (l : List ByteArray) (w : World) (h : Rd w a (strsV l)) (hl : l.length ≤ 1048576) :
    Calls Tryd.prog 20 #[.slice a l.length c] w (fun e w' => ∃ a, e = .returned (.slice a l.length l.length) ∧ OwnR w' w.heap.size a (strsV l) ∧ Ext w w') := by
  have HR := hid h
  clear h
  go_enter Tryd.func20, Tryd.ntmps20
  go_wp2_with (refine wpList_make1 rfl _ _ 22 rfl El_str rfl l.length rfl rfl rfl rfl (by omega) (by unfold maxLen; omega) ?_; intro wm hwr _ hx)
  go_loopw [4] (fun i wr => ∃ k : Nat, k ≤ l.length ∧ i = .int .i64 k ∧ Wr wr w.heap.size ((List.range l.length).map fun j => if j < k then .string (l.getD j ⟨#[]⟩) else .string ⟨#[]⟩) ∧ Ext w wr) (fun i _ => l.length - (intOf i).toNat)
  case atStart => exact ⟨0, by omega, rfl, by simpa [List.map_const'] using hwr, hx⟩
  case round =>
    clear hwr hx
    obtain ⟨k, hk, rfl, hwr, hx⟩ := hrel
    by_cases hlt : k < l.length
    · obtain ⟨b, o, rfl, hc⟩ := (HR.out.ext hx).str (by omega)
      have hck := hc k hlt
      have HS := hid (show (Value.string (l.getD k ⟨#[]⟩)) = .string l[k] by rw [List.getD_eq_getElem?_getD, List.getElem?_eq_getElem hlt]; rfl)
      have HW := hid (hwr.set k (by simpa using hlt) (.string (l.getD k ⟨#[]⟩)))
      obtain ⟨f1, f2⟩ := hwr.fit k (by simpa using hlt)
      clear hwr hc
      obtain ⟨s, hs⟩ : ∃ s, l[k] = s := ⟨_, rfl⟩
      rw [hs] at hck HS
      clear hs
      go_wp2_with fail
      go_roundw
      case rel =>
        refine ⟨k + 1, by omega, by go_num, ?_, hx.setCell (by simp) _⟩
        have e := set_map_range l.length k (fun j => .string (l.getD j ⟨#[]⟩)) (.string ⟨#[]⟩) hlt
        have := HW.out
        rw [e, HS.out] at this
        exact this
      case measure => simp [intOf]; omega
    · obtain rfl : k = l.length := by omega
      have HW := hid hwr
      clear hwr
      go_wp2_with fail
      go_returns
      refine ⟨some ⟨w.heap.size, 0, none⟩, rfl, ?_, hx⟩
      have e : (List.range l.length).map (fun j => if j < l.length then Value.string (l.getD j ⟨#[]⟩) else .string ⟨#[]⟩) = strsV l := by
        apply List.ext_getElem
        · simp [strsV]
        · intro j h1 h2
          simp at h1
          simp [strsV, h1]
      have := HW.out
      rw [e] at this
      exact .inr ⟨_, rfl, Nat.le_refl _, this⟩
set_option maxHeartbeats 400000 in
theorem toLexicon_cap (a : Option Addr) (c : Nat) (l : List ByteArray) (w : World) (h : Rd w a (strsV l)) (hl : l.length ≤ 1048576) :
    Calls Tryd.prog 7 #[lexV a l.length c] w (fun e w' => ∃ a, e = .returned (lexV a l.length l.length) ∧ OwnR w' w.heap.size a (strsV l) ∧ Ext w w') := by
  have HR : Hid (∀ w', Ext w w' → Rd w' a (strsV l)) := hid (fun w' k => h.ext k)
  clear h
  go_enter Tryd.func7, Tryd.ntmps7
  go_wp2_with fail
  refine (toStringS_cap a c l _ (HR.out _ ((((Ext.refl w).alloc _).alloc _).alloc _)) hl).mono ?_
  rintro e w1 ⟨a', rfl, hown, hx⟩
  have r0 := hx.cell (b := w.heap.size + 1) (o := 0) (v := .slice none 0 0) (by go_cell)
  have r1 := hx.cell (b := w.heap.size + 2) (o := 0) (v := .slice none 0 0) (by go_cell)
  have rf : ∀ j, w1.frozen? ⟨w.heap.size + 1, j, none⟩ = false := fun j => by rw [hx.cells.2 _ _ (by simp only [World.size_alloc]; omega)]; go_cell
  have rg : ∀ j, w1.frozen? ⟨w.heap.size + 2, j, none⟩ = false := fun j => by rw [hx.cells.2 _ _ (by simp only [World.size_alloc]; omega)]; go_cell
  have hE : Ext w w1 := ((((Ext.refl w).alloc _).alloc _).alloc _).trans hx
  have hs := hx.size
  simp only [World.size_alloc] at hs hown
  have HO := hid hown
  clear hx hown
  go_wp2_with fail
  refine bodyPost_ret (v := lexV a' l.length l.length) (by simp [results, Tryd.results7, go_sem, r0, r1, rf, rg]) rfl ⟨a', rfl, ?_, (hE.setCell (by simp only [World.size_alloc]; omega) _).setCell (by simp only [World.size_alloc]; omega) _⟩
  rcases HO.out with h | ⟨g, rfl, hg, hw⟩
  · exact .inl h
  · refine .inr ⟨g, rfl, by omega, ?_⟩
    exact (hw.other (by omega)).other (by omega)
end Go.Proofs.YtlnccdbmchjhlaaDoor
