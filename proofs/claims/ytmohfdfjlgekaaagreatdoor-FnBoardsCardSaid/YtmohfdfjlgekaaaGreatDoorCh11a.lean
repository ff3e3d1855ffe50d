/- Boards: what the small functions on bytes, sizes and squares return. Conditions stand at each. -/
import Derived.Test.YtmohfdfjlgekaaaGreatDoorBytes
import Derived.Test.YtmohfdfjlgekaaaGreatDoorShelf
namespace Go.Proofs.YtmohfdfjlgekaaaGreatDoor
set_option linter.unusedVariables false
set_option linter.unusedSimpArgs false
open Go Go.RowKit

def bAt (s : ByteArray) (i : Nat) : UInt8 := s.data.toList.getD i 0
theorem bAt_eq (s : ByteArray) (i : Nat) (h : i < s.size) : s[i] = bAt s i := by
  have h' : i < s.data.size := h
  unfold bAt
  rw [List.getD_eq_getElem?_getD, Array.getElem?_toList, Array.getElem?_eq_getElem h']
  rfl

def smallB (c : Int) : Bool := decide (97 ≤ c ∧ c ≤ 122)
def capB (c : Int) : Bool := decide (65 ≤ c ∧ c ≤ 90)
def cellB (c : Int) : Bool := decide (c = 46) || smallB c || capB c
def premB (c : Int) : Bool := decide (c = 46 ∨ c = 50 ∨ c = 51 ∨ c = 100 ∨ c = 116)
def inB (x lo hi : Int) : Bool := decide (lo ≤ x ∧ x ≤ hi)

theorem El_u8 : El Tryz.prog 22 5 (.int .u8 0) 1 1 := by
  obtain ⟨i, h1, h2, h3, h4⟩ := info_parts (show (Tryz.prog.info? 5).map (fun i => (i.zero, i.size, i.bytes)) = some (some (.int .u8 0), 1, 1) by kernel_rfl)
  exact ⟨Tryz.underlying22, ⟨i, h1, h2, h3, h4⟩, rfl, by decide⟩

set_option maxHeartbeats 400000 in
theorem small_any (c : Int) (w : World) : Calls Tryz.prog 98 #[.int .u8 c] w (Same (.bool (smallB c)) w) := by
  have H : Hid (smallB c = decide (97 ≤ c ∧ c ≤ 122)) := hid rfl
  go_enter Tryz.func98, Tryz.ntmps98
  go_wp2
  all_goals (go_returns; refine ⟨?_, rfl⟩; rw [H.out]; simp; try omega)
set_option maxHeartbeats 400000 in
theorem l01Small_any (c : Int) (w : World) : Calls Tryz.prog 106 #[.int .u8 c] w (Same (.bool (smallB c)) w) := by
  have H : Hid (smallB c = decide (97 ≤ c ∧ c ≤ 122)) := hid rfl
  go_enter Tryz.func106, Tryz.ntmps106
  go_wp2
  all_goals (go_returns; refine ⟨?_, rfl⟩; rw [H.out]; simp; try omega)
set_option maxHeartbeats 400000 in
theorem capital_any (c : Int) (w : World) : Calls Tryz.prog 76 #[.int .u8 c] w (Same (.bool (capB c)) w) := by
  have H : Hid (capB c = decide (65 ≤ c ∧ c ≤ 90)) := hid rfl
  go_enter Tryz.func76, Tryz.ntmps76
  go_wp2
  all_goals (go_returns; refine ⟨?_, rfl⟩; rw [H.out]; simp; try omega)
set_option maxHeartbeats 400000 in
theorem l03Capital_any (c : Int) (w : World) : Calls Tryz.prog 79 #[.int .u8 c] w (Same (.bool (capB c)) w) := by
  have H : Hid (capB c = decide (65 ≤ c ∧ c ≤ 90)) := hid rfl
  go_enter Tryz.func79, Tryz.ntmps79
  go_wp2
  all_goals (go_returns; refine ⟨?_, rfl⟩; rw [H.out]; simp; try omega)
set_option maxHeartbeats 400000 in
theorem within_any (a b c : Int) (w : World) : Calls Tryz.prog 62 #[.int .i64 a, .int .i64 b, .int .i64 c] w (Same (.bool (inB a b c)) w) := by
  have H : Hid (inB a b c = decide (b ≤ a ∧ a ≤ c)) := hid rfl
  go_enter Tryz.func62, Tryz.ntmps62
  go_wp2
  all_goals (go_returns; refine ⟨?_, rfl⟩; rw [H.out]; simp; try omega)
set_option maxHeartbeats 400000 in
theorem l00In_any (a b c : Int) (w : World) : Calls Tryz.prog 96 #[.int .i64 a, .int .i64 b, .int .i64 c] w (Same (.bool (inB a b c)) w) := by
  have H : Hid (inB a b c = decide (b ≤ a ∧ a ≤ c)) := hid rfl
  go_enter Tryz.func96, Tryz.ntmps96
  go_wp2
  all_goals (go_returns; refine ⟨?_, rfl⟩; rw [H.out]; simp; try omega)
set_option maxHeartbeats 400000 in
theorem sizeOk_any (a : Int) (w : World) : Calls Tryz.prog 51 #[.int .i64 a] w (Same (.bool (inB a 5 15)) w) := by
  go_enter Tryz.func51, Tryz.ntmps51
  go_wp2_with (go_at_call 62; refine (within_any _ _ _ _).mono ?_; rintro e w' ⟨rfl, rfl⟩)
  go_returns
  exact ⟨rfl, rfl⟩
set_option maxHeartbeats 400000 in
theorem l11Size_any (a : Int) (w : World) : Calls Tryz.prog 58 #[.int .i64 a] w (Same (.bool (inB a 5 15)) w) := by
  go_enter Tryz.func58, Tryz.ntmps58
  go_wp2_with (go_at_call 96; refine (l00In_any _ _ _ _).mono ?_; rintro e w' ⟨rfl, rfl⟩)
  go_returns
  exact ⟨rfl, rfl⟩
set_option maxHeartbeats 400000 in
theorem cellOk_any (c : Int) (w : World) : Calls Tryz.prog 61 #[.int .u8 c] w (Same (.bool (cellB c)) w) := by
  have H : Hid (cellB c = (decide (c = 46) || smallB c || capB c)) := hid rfl
  go_enter Tryz.func61, Tryz.ntmps61
  go_wp2_with (first | (go_at_call 98; refine (small_any _ _).mono ?_; rintro e w' ⟨rfl, rfl⟩) | (go_at_call 76; refine (capital_any _ _).mono ?_; rintro e w' ⟨rfl, rfl⟩))
  all_goals (go_returns; refine ⟨?_, rfl⟩; rw [H.out]; simp [*])
set_option maxHeartbeats 400000 in
theorem l11Cell_any (c : Int) (w : World) : Calls Tryz.prog 70 #[.int .u8 c] w (Same (.bool (cellB c)) w) := by
  have H : Hid (cellB c = (decide (c = 46) || smallB c || capB c)) := hid rfl
  go_enter Tryz.func70, Tryz.ntmps70
  go_wp2_with (first | (go_at_call 106; refine (l01Small_any _ _).mono ?_; rintro e w' ⟨rfl, rfl⟩) | (go_at_call 79; refine (l03Capital_any _ _).mono ?_; rintro e w' ⟨rfl, rfl⟩))
  all_goals (go_returns; refine ⟨?_, rfl⟩; rw [H.out]; simp [*])
set_option maxHeartbeats 400000 in
theorem l11Premium_any (c : Int) (w : World) : Calls Tryz.prog 71 #[.int .u8 c] w (Same (.bool (premB c)) w) := by
  have H : Hid (premB c = decide (c = 46 ∨ c = 50 ∨ c = 51 ∨ c = 100 ∨ c = 116)) := hid rfl
  go_enter Tryz.func71, Tryz.ntmps71
  go_wp2
  all_goals (go_returns; exact ⟨ret_bool (by rw [H.out, Bool.eq_iff_iff]; simp [*]), rfl⟩)
theorem prem_index (c : Int) (h0 : 0 ≤ c) (h1 : c < 256) : decide (0 ≤ Lib.indexByte [50, 51, 100, 116, 46] c.toNat.toUInt8) = premB c := by
  have : ∀ x : Fin 256, decide (0 ≤ Lib.indexByte [50, 51, 100, 116, 46] (x.val : Int).toNat.toUInt8) = premB (x.val : Int) := by decide +kernel
  have h := this ⟨c.toNat, by omega⟩
  have e : ((c.toNat : Nat) : Int) = c := Int.toNat_of_nonneg h0
  simp only [e] at h
  exact h
set_option maxHeartbeats 400000 in
theorem premiumOk_any (c : Int) (w : World) (h0 : 0 ≤ c) (h1 : c < 256) : Calls Tryz.prog 60 #[.int .u8 c] w (Same (.bool (premB c)) w) := by
  have H := hid (prem_index c h0 h1)
  go_enter Tryz.func60, Tryz.ntmps60
  go_wp2_with (go_at_call 97; refine (Tryz.strings_IndexByte _ _ _).mono ?_; rintro e w' ⟨rfl, rfl⟩)
  go_returns
  exact ⟨by rw [← H.out]; rfl, rfl⟩
def allB (g : Int → Bool) (s : ByteArray) : Bool := s.data.toList.all fun x => g x.toNat
theorem allB_no (g : Int → Bool) (s : ByteArray) (k : Nat) (h : k < s.size) (hg : g (s[k].toNat : Int) = false) : allB g s = false := by
  unfold allB
  rw [List.all_eq_false]
  exact ⟨s[k], by have : k < s.data.size := h; exact Array.mem_toList_iff.2 (Array.getElem_mem this), by simpa using hg⟩
theorem allB_yes (g : Int → Bool) (s : ByteArray) (h : ∀ k (hk : k < s.size), g (s[k].toNat : Int) = true) : allB g s = true := by
  unfold allB
  rw [List.all_eq_true]
  intro x hx
  obtain ⟨k, hk, rfl⟩ := Array.mem_iff_getElem.1 (Array.mem_toList_iff.1 hx)
  exact h k hk
/-- A test handed in: it answers by g, at bytes. -/
def Tests (f : Nat) (g : Int → Bool) : Prop := (∀ (x : Value) (w : World), (callFunc f #[x]).run Tryz.prog w = .ok (.enter f #[x]) w) ∧
  ∀ (c : Int) (w : World), 0 ≤ c → c < 256 → Calls Tryz.prog f #[.int .u8 c] w (Same (.bool (g c)) w)
theorem Tests_premiumOk : Tests 60 premB := ⟨fun x w => by kernel_rfl, fun c w h0 h1 => premiumOk_any c w h0 h1⟩
theorem Tests_cellOk : Tests 61 cellB := ⟨fun x w => by kernel_rfl, fun c w _ _ => cellOk_any c w⟩
set_option maxHeartbeats 400000 in
theorem allBytes_any (f : Nat) (g : Int → Bool) (hf : Tests f g) (s : ByteArray) (w : World) (hs : s.size ≤ 1048576) :
    Calls Tryz.prog 59 #[.string s, .func (.func f) #[] #[]] w (Same (.bool (allB g s)) w) := by
  obtain ⟨hcf, hf⟩ := hf
  have HF := hid hf
  clear hf
  have HN := hid (allB_no g s)
  have HY := hid (allB_yes g s)
  go_enter Tryz.func59, Tryz.ntmps59
  go_wp2_with fail
  go_loop [5] (fun i => ∃ k : Nat, k ≤ s.size ∧ i = .int .i64 k ∧ Hid (∀ j (hj : j < s.size), j < k → g (s[j].toNat : Int) = true)) (fun i => s.size - (intOf i).toNat)
  case atStart => exact ⟨0, by omega, rfl, hid (fun j _ h => by omega)⟩
  case round =>
    obtain ⟨k, hk, rfl, hall⟩ := hrel
    by_cases hlt : k < s.size
    · go_wp2_with fail
      refine (HF.out _ _ ?_ ?_).mono ?_
      · omega
      · have := s[k].toNat_lt; omega
      rintro e w' ⟨rfl, rfl⟩
      cases hg : g (s[k].toNat : Int)
      · have HG := hid hg
        go_wp2_with fail
        go_returns
        exact ⟨ret_bool (HN.out k hlt HG.out).symm, rfl⟩
      · have HG := hid hg
        clear hg
        go_wp2_with fail
        go_round
        case rel => exact ⟨k + 1, by omega, by go_num, hid (fun j hj h => by
          by_cases hjk : j = k
          · subst hjk; exact HG.out
          · exact hall.out j hj (by omega))⟩
        case measure => simp [intOf]; omega
    · go_wp2_with fail
      go_returns
      exact ⟨ret_bool (HY.out (fun j hj => hall.out j hj (by omega))).symm, rfl⟩
end Go.Proofs.YtmohfdfjlgekaaaGreatDoor
