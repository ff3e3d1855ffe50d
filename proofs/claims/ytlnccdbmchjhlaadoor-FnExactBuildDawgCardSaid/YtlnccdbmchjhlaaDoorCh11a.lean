/- Boards: what the small functions on bytes, sizes and squares return. Conditions stand at each. -/
import Derived.Test.YtlnccdbmchjhlaaDoorBytes
import Derived.Test.YtlnccdbmchjhlaaDoorShelf
namespace Go.Proofs.YtlnccdbmchjhlaaDoor
set_option linter.unusedVariables false
set_option linter.unusedSimpArgs false
open Go Go.RowKit

def bAt (s : ByteArray) (i : Nat) : UInt8 := s.data.toList.getD i 0
theorem bAt_eq (s : ByteArray) (i : Nat) (h : i < s.size) : s[i] = bAt s i := by
  have h' : i < s.data.size := h
  unfold bAt
  rw [List.getD_eq_getElem?_getD, Array.getElem?_toList, Array.getElem?_eq_getElem h']
  rfl

def smallB (c : Int) : Bool := decide (97 ≤ c ∧ c ≤ 122)
def capB (c : Int) : Bool := decide (65 ≤ c ∧ c ≤ 90)
def cellB (c : Int) : Bool := decide (c = 46) || smallB c || capB c
def premB (c : Int) : Bool := decide (c = 46 ∨ c = 50 ∨ c = 51 ∨ c = 100 ∨ c = 116)
def inB (x lo hi : Int) : Bool := decide (lo ≤ x ∧ x ≤ hi)

theorem El_u8 : El Tryd.prog 82 5 (.int .u8 0) 1 1 := by
  obtain ⟨i, h1, h2, h3, h4⟩ := info_parts (show (Tryd.prog.info? 5).map (fun i => (i.zero, i.size, i.bytes)) = some (some (.int .u8 0), 1, 1) by kernel_rfl)
  exact ⟨Tryd.underlying82, ⟨i, h1, h2, h3, h4⟩, rfl, by decide⟩

set_option maxHeartbeats 400000 in
theorem small_any (c : Int) (w : World) : Calls Tryd.prog 75 #[.int .u8 c] w (Same (.bool (smallB c)) w) := by
  have H : Hid (smallB c = decide (97 ≤ c ∧ c ≤ 122)) := hid rfl
  go_enter Tryd.func75, Tryd.ntmps75
  go_wp2
  all_goals (go_returns; refine ⟨?_, rfl⟩; rw [H.out]; simp; try omega)
set_option maxHeartbeats 400000 in
theorem l01Small_any (c : Int) (w : World) : Calls Tryd.prog 58 #[.int .u8 c] w (Same (.bool (smallB c)) w) := by
  have H : Hid (smallB c = decide (97 ≤ c ∧ c ≤ 122)) := hid rfl
  go_enter Tryd.func58, Tryd.ntmps58
  go_wp2
  all_goals (go_returns; refine ⟨?_, rfl⟩; rw [H.out]; simp; try omega)
set_option maxHeartbeats 400000 in
theorem l00In_any (a b c : Int) (w : World) : Calls Tryd.prog 59 #[.int .i64 a, .int .i64 b, .int .i64 c] w (Same (.bool (inB a b c)) w) := by
  have H : Hid (inB a b c = decide (b ≤ a ∧ a ≤ c)) := hid rfl
  go_enter Tryd.func59, Tryd.ntmps59
  go_wp2
  all_goals (go_returns; refine ⟨?_, rfl⟩; rw [H.out]; simp; try omega)
def allB (g : Int → Bool) (s : ByteArray) : Bool := s.data.toList.all fun x => g x.toNat
theorem allB_no (g : Int → Bool) (s : ByteArray) (k : Nat) (h : k < s.size) (hg : g (s[k].toNat : Int) = false) : allB g s = false := by
  unfold allB
  rw [List.all_eq_false]
  exact ⟨s[k], by have : k < s.data.size := h; exact Array.mem_toList_iff.2 (Array.getElem_mem this), by simpa using hg⟩
theorem allB_yes (g : Int → Bool) (s : ByteArray) (h : ∀ k (hk : k < s.size), g (s[k].toNat : Int) = true) : allB g s = true := by
  unfold allB
  rw [List.all_eq_true]
  intro x hx
  obtain ⟨k, hk, rfl⟩ := Array.mem_iff_getElem.1 (Array.mem_toList_iff.1 hx)
  exact h k hk
end Go.Proofs.YtlnccdbmchjhlaaDoor
