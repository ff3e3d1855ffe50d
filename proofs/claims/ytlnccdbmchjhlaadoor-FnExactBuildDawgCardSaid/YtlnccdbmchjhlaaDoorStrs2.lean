/- Lists of strings in memory: marks. Conditions: at most 2^20 elements. -/
import Derived.Test.YtlnccdbmchjhlaaDoorStrs
namespace Go.Proofs.YtlnccdbmchjhlaaDoor
set_option linter.unusedVariables false
set_option linter.unusedSimpArgs false
open Go Go.RowKit
theorem mixed_start (l : List ByteArray) (k : Nat) : ((List.range l.length).map fun q => if q < 0 then Value.string (markTx (k + q)) else .string (l.getD q ⟨#[]⟩)) = strsV l := by
  apply List.ext_getElem
  · simp [strsV]
  · intro j h1 h2
    simp at h1
    simp [strsV, h1]
theorem mixed_end (l : List ByteArray) (k : Nat) : ((List.range l.length).map fun q => if q < l.length then Value.string (markTx (k + q)) else .string (l.getD q ⟨#[]⟩)) = strsV (marksL l.length k) := by
  apply List.ext_getElem
  · simp [strsV, marksL]
  · intro j h1 h2
    simp at h1
    simp [strsV, marksL, h1]
set_option maxHeartbeats 400000 in
theorem markStringS_nil (a : Option Addr) (c k : Nat) (w : World) : Calls Tryd.prog 26 #[.slice a 0 c, .int .i64 k] w (Same (.int .i64 k) w) := by
  go_enter Tryd.func26, Tryd.ntmps26
  go_wp2_with fail
  go_loop [1, 5] (fun t i => t = .int .i64 k ∧ i = .int .i64 0) (fun _ i => 0)
  case atStart => exact ⟨rfl, rfl⟩
  case round =>
    obtain ⟨rfl, rfl⟩ := hrel
    go_wp2_with fail
    go_returns
    exact ⟨rfl, rfl⟩
set_option maxHeartbeats 400000 in
theorem markStringS_any (g : Nat) (c : Nat) (l : List ByteArray) (k : Nat) (w : World) (h : Wr w g (strsV l)) (hl : l.length ≤ 1048576) (hk1 : 1 ≤ k) (hk2 : k ≤ 2000000) :
    Calls Tryd.prog 26 #[.slice (some ⟨g, 0, none⟩) l.length c, .int .i64 k] w fun e w' => e = .returned (.int .i64 ((k + l.length : Nat) : Int)) ∧ Wr w' g (strsV (marksL l.length k)) ∧ Exc g w w' := by
  have HS := hid (mixed_start l k)
  have HE := hid (mixed_end l k)
  rw [← HS.out] at h
  have hg := h.1
  have HW := hid h
  clear h
  go_enter Tryd.func26, Tryd.ntmps26
  go_wp2_with fail
  go_loopw [1, 5] (fun t i wr => ∃ j : Nat, j ≤ l.length ∧ i = .int .i64 j ∧ t = .int .i64 ((k + j : Nat) : Int) ∧ Hid (Wr wr g ((List.range l.length).map fun q => if q < j then Value.string (markTx (k + q)) else .string (l.getD q ⟨#[]⟩))) ∧ Exc g w wr) (fun _ i _ => l.length - (intOf i).toNat)
  case atStart => exact ⟨0, by omega, rfl, rfl, HW, Exc.refl _ _⟩
  case round =>
    clear HW HS
    obtain ⟨j, hj, rfl, rfl, hwr, hx⟩ := hrel
    by_cases hlt : j < l.length
    · go_wp2_with fail
      refine (markText_any (k + j) _ (by omega) (by omega)).mono ?_
      rintro e w1 ⟨rfl, hy⟩
      have hw1 := hwr.out.ext hy
      have HZ := hid (hw1.set j (by simpa using hlt) (.string (markTx (k + j))))
      obtain ⟨f1, f2⟩ := hw1.fit j (by simpa using hlt)
      clear hw1
      go_wp2_with fail
      go_roundw
      case rel =>
        refine ⟨j + 1, by omega, by go_num, by go_num, hid ?_, (hx.ext hy).setCell _ _⟩
        have e := set_map_range2 l.length j (fun q => .string (markTx (k + q))) (fun q => .string (l.getD q ⟨#[]⟩)) hlt
        have := HZ.out
        rw [e] at this
        exact this
      case measure => simp [intOf]; omega
    · obtain rfl : j = l.length := by omega
      rw [HE.out] at hwr
      go_wp2_with fail
      go_returns
      exact ⟨rfl, hwr.out, hx⟩
end Go.Proofs.YtlnccdbmchjhlaaDoor
