/- Several texts in one: Ch11a, Ch01. Conditions: see each. -/
import Derived.Test.YtabljchbchjjcaaGreatDoorMg1
import Derived.Test.YtabljchbchjjcaaGreatDoorShelf
section
namespace Go.Proofs.YtabljchbchjjcaaGreatDoor
set_option linter.unusedVariables false
set_option linter.unusedSimpArgs false
open Go Go.RowKit

def bAt (s : ByteArray) (i : Nat) : UInt8 := s.data.toList.getD i 0
theorem bAt_eq (s : ByteArray) (i : Nat) (h : i < s.size) : s[i] = bAt s i := by
  have h' : i < s.data.size := h
  unfold bAt
  rw [List.getD_eq_getElem?_getD, Array.getElem?_toList, Array.getElem?_eq_getElem h']
  rfl

def smallB (c : Int) : Bool := decide (97 ≤ c ∧ c ≤ 122)
def capB (c : Int) : Bool := decide (65 ≤ c ∧ c ≤ 90)
def cellB (c : Int) : Bool := decide (c = 46) || smallB c || capB c
def premB (c : Int) : Bool := decide (c = 46 ∨ c = 50 ∨ c = 51 ∨ c = 100 ∨ c = 116)
def inB (x lo hi : Int) : Bool := decide (lo ≤ x ∧ x ≤ hi)

theorem El_u8 : El Tryz.prog 22 5 (.int .u8 0) 1 1 := by
  obtain ⟨i, h1, h2, h3, h4⟩ := info_parts (show (Tryz.prog.info? 5).map (fun i => (i.zero, i.size, i.bytes)) = some (some (.int .u8 0), 1, 1) by kernel_rfl)
  exact ⟨Tryz.underlying22, ⟨i, h1, h2, h3, h4⟩, rfl, by decide⟩

set_option maxHeartbeats 400000 in
theorem small_any (c : Int) (w : World) : Calls Tryz.prog 63 #[.int .u8 c] w (Same (.bool (smallB c)) w) := by
  have H : Hid (smallB c = decide (97 ≤ c ∧ c ≤ 122)) := hid rfl
  go_enter Tryz.func63, Tryz.ntmps63
  go_wp2
  all_goals (go_returns; refine ⟨?_, rfl⟩; rw [H.out]; simp; try omega)
set_option maxHeartbeats 400000 in
theorem l01Small_any (c : Int) (w : World) : Calls Tryz.prog 66 #[.int .u8 c] w (Same (.bool (smallB c)) w) := by
  have H : Hid (smallB c = decide (97 ≤ c ∧ c ≤ 122)) := hid rfl
  go_enter Tryz.func66, Tryz.ntmps66
  go_wp2
  all_goals (go_returns; refine ⟨?_, rfl⟩; rw [H.out]; simp; try omega)
set_option maxHeartbeats 400000 in
theorem within_any (a b c : Int) (w : World) : Calls Tryz.prog 72 #[.int .i64 a, .int .i64 b, .int .i64 c] w (Same (.bool (inB a b c)) w) := by
  have H : Hid (inB a b c = decide (b ≤ a ∧ a ≤ c)) := hid rfl
  go_enter Tryz.func72, Tryz.ntmps72
  go_wp2
  all_goals (go_returns; refine ⟨?_, rfl⟩; rw [H.out]; simp; try omega)
set_option maxHeartbeats 400000 in
theorem l00In_any (a b c : Int) (w : World) : Calls Tryz.prog 67 #[.int .i64 a, .int .i64 b, .int .i64 c] w (Same (.bool (inB a b c)) w) := by
  have H : Hid (inB a b c = decide (b ≤ a ∧ a ≤ c)) := hid rfl
  go_enter Tryz.func67, Tryz.ntmps67
  go_wp2
  all_goals (go_returns; refine ⟨?_, rfl⟩; rw [H.out]; simp; try omega)
def allB (g : Int → Bool) (s : ByteArray) : Bool := s.data.toList.all fun x => g x.toNat
theorem allB_no (g : Int → Bool) (s : ByteArray) (k : Nat) (h : k < s.size) (hg : g (s[k].toNat : Int) = false) : allB g s = false := by
  unfold allB
  rw [List.all_eq_false]
  exact ⟨s[k], by have : k < s.data.size := h; exact Array.mem_toList_iff.2 (Array.getElem_mem this), by simpa using hg⟩
theorem allB_yes (g : Int → Bool) (s : ByteArray) (h : ∀ k (hk : k < s.size), g (s[k].toNat : Int) = true) : allB g s = true := by
  unfold allB
  rw [List.all_eq_true]
  intro x hx
  obtain ⟨k, hk, rfl⟩ := Array.mem_iff_getElem.1 (Array.mem_toList_iff.1 hx)
  exact h k hk
end Go.Proofs.YtabljchbchjjcaaGreatDoor
end
section
namespace Go.Proofs.YtabljchbchjjcaaGreatDoor
set_option linter.unusedVariables false
set_option linter.unusedSimpArgs false
open Go Go.RowKit

def wordOk (s : ByteArray) : Bool := decide (1 ≤ s.size ∧ s.size ≤ 12) && allB smallB s
def longOk (s : ByteArray) : Bool := decide (2 ≤ s.size) && wordOk s
theorem bytesV_at (s : ByteArray) (k : Nat) (h : k < s.size) : (bytesV s.data.toList)[k]? = some (.int .u8 s[k].toNat) := by
  have h' : k < s.data.size := h
  rw [bytesV_get, Array.getElem?_toList, Array.getElem?_eq_getElem h']
  rfl
set_option maxHeartbeats 400000 in
theorem onlySmall_any (s : ByteArray) (w : World) (hs : s.size ≤ 1048576) : Calls Tryz.prog 41 #[.string s] w (Ret (.bool (allB smallB s)) w) := by
  have HN := hid (allB_no smallB s)
  have HY := hid (allB_yes smallB s)
  go_enter Tryz.func41, Tryz.ntmps41
  go_wp2_with (refine wpList_bytes rfl _ 9 22 rfl Tryz.underlying9 Tryz.underlying22 Tryz.underlying5 rfl ?_; intro cp w1 hwr hcap hx hsz1)
  have HC : Hid (∀ k (h : k < s.size), w1.cell? ⟨w.heap.size, k, none⟩ = some (.int .u8 s[k].toNat)) := hid (fun k h => hwr.2.1 k _ (bytesV_at s k h))
  clear hwr hsz1
  go_loopw [8] (fun i wr => ∃ k : Nat, k ≤ s.size ∧ i = .int .i64 k ∧ Hid (∀ j (hj : j < s.size), j < k → smallB (s[j].toNat : Int) = true) ∧ wr = w1) (fun i _ => s.size - (intOf i).toNat)
  case atStart => exact ⟨0, by omega, rfl, hid (fun j _ h => by omega), rfl⟩
  case round =>
    obtain ⟨k, hk, rfl, hall, rfl⟩ := hrel
    by_cases hlt : k < s.size
    · have hc := HC.out k hlt
      obtain ⟨x, hxk⟩ : ∃ x, s[k] = x := ⟨_, rfl⟩
      rw [hxk] at hc
      have HX := hid hxk
      clear hxk
      cases hg : smallB (x.toNat : Int)
      · have HG := hid hg
        go_wp2_with (go_at_call 63; refine (small_any _ _).mono ?_; rintro e w' ⟨rfl, rfl⟩; rw [hg])
        go_returns
        exact ⟨ret_bool (HN.out k hlt (by rw [HX.out]; exact HG.out)).symm, hx⟩
      · have HG := hid hg
        go_wp2_with (go_at_call 63; refine (small_any _ _).mono ?_; rintro e w' ⟨rfl, rfl⟩; rw [hg])
        clear hg
        go_roundw
        case rel => exact ⟨k + 1, by omega, by go_num, hid (fun j hj h => by
          by_cases hjk : j = k
          · subst hjk; rw [HX.out]; exact HG.out
          · exact hall.out j hj (by omega)), trivial⟩
        case measure => simp [intOf]; omega
    · go_wp2_with fail
      go_returns
      exact ⟨ret_bool (HY.out (fun j hj => hall.out j hj (by omega))).symm, hx⟩
set_option maxHeartbeats 400000 in
theorem IsWord_any (s : ByteArray) (w : World) (hs : s.size ≤ 1048576) : Calls Tryz.prog 23 #[.string s] w (Ret (.bool (wordOk s)) w) := by
  have H : Hid (wordOk s = (decide (1 ≤ s.size ∧ s.size ≤ 12) && allB smallB s)) := hid rfl
  by_cases h1 : 1 ≤ s.size ∧ s.size ≤ 12
  · obtain ⟨h1, h2⟩ := h1
    go_enter Tryz.func23, Tryz.ntmps23
    go_wp2_with fail
    refine (onlySmall_any _ _ hs).mono ?_
    rintro e w1 ⟨rfl, hx⟩
    go_wp2_with fail
    go_returns
    exact ⟨ret_bool (by rw [H.out]; simp [h1, h2]), hx⟩
  · have HN := hid h1
    by_cases h2 : 1 ≤ s.size
    · have h3 : ¬ s.size ≤ 12 := by omega
      clear h1
      go_enter Tryz.func23, Tryz.ntmps23
      go_wp2_with fail
      go_returns
      exact ⟨ret_bool (by rw [H.out, decide_eq_false HN.out]; rfl), Ext.refl _⟩
    · clear h1
      go_enter Tryz.func23, Tryz.ntmps23
      go_wp2_with fail
      go_returns
      exact ⟨ret_bool (by rw [H.out, decide_eq_false HN.out]; rfl), Ext.refl _⟩
set_option maxHeartbeats 400000 in
theorem sIsWord_any (s : ByteArray) (w : World) (hs : s.size ≤ 1048576) : Calls Tryz.prog 48 #[.string s] w (Same (.bool (wordOk s)) w) := by
  have H : Hid (wordOk s = (decide (1 ≤ s.size ∧ s.size ≤ 12) && allB smallB s)) := hid rfl
  have HN := hid (allB_no smallB s)
  have HY := hid (allB_yes smallB s)
  have HI : Hid (inB s.size 1 12 = decide (1 ≤ s.size ∧ s.size ≤ 12)) := hid (by unfold inB; rw [decide_eq_decide]; omega)
  go_enter Tryz.func48, Tryz.ntmps48
  go_wp2_with fail
  go_loop [3] (fun i => ∃ k : Nat, k ≤ s.size ∧ i = .int .i64 k ∧ Hid (∀ j (hj : j < s.size), j < k → smallB (s[j].toNat : Int) = true)) (fun i => s.size - (intOf i).toNat)
  case atStart => exact ⟨0, by omega, rfl, hid (fun j _ h => by omega)⟩
  case round =>
    obtain ⟨k, hk, rfl, hall⟩ := hrel
    by_cases hlt : k < s.size
    · cases hg : smallB (s[k].toNat : Int)
      · have HG := hid hg
        go_wp2_with (go_at_call 66; refine (l01Small_any _ _).mono ?_; rintro e w' ⟨rfl, rfl⟩; rw [hg])
        go_returns
        exact ⟨ret_bool (by rw [H.out, HN.out k hlt HG.out, Bool.and_false]), rfl⟩
      · have HG := hid hg
        go_wp2_with (go_at_call 66; refine (l01Small_any _ _).mono ?_; rintro e w' ⟨rfl, rfl⟩; rw [hg])
        clear hg
        go_round
        case rel => exact ⟨k + 1, by omega, by go_num, hid (fun j hj h => by
          by_cases hjk : j = k
          · subst hjk; exact HG.out
          · exact hall.out j hj (by omega))⟩
        case measure => simp [intOf]; omega
    · go_wp2_with fail
      refine (l00In_any _ _ _ _).mono ?_
      rintro e w1 ⟨rfl, rfl⟩
      go_wp2_with fail
      go_returns
      exact ⟨ret_bool (by rw [H.out, HY.out (fun j hj => hall.out j hj (by omega)), Bool.and_true, HI.out]), rfl⟩
theorem isLong_any (s : ByteArray) (w : World) (hs : s.size ≤ 1048576) : Calls Tryz.prog 61 #[.string s] w (Ret (.bool (longOk s)) w) := by
  have H : Hid (longOk s = (decide (2 ≤ s.size) && wordOk s)) := hid rfl
  by_cases h2 : 2 ≤ s.size
  · go_enter Tryz.func61, Tryz.ntmps61
    go_wp2_with fail
    refine (IsWord_any _ _ hs).mono ?_
    rintro e w1 ⟨rfl, hx⟩
    go_wp2_with fail
    go_returns
    exact ⟨ret_bool (by rw [H.out]; simp [h2]), hx⟩
  · go_enter Tryz.func61, Tryz.ntmps61
    go_wp2_with fail
    go_returns
    exact ⟨ret_bool (by rw [H.out, decide_eq_false (by omega)]; rfl), Ext.refl _⟩
theorem l05Long_any (s : ByteArray) (w : World) (hs : s.size ≤ 1048576) : Calls Tryz.prog 29 #[.string s] w (Same (.bool (longOk s)) w) := by
  have H : Hid (longOk s = (decide (2 ≤ s.size) && wordOk s)) := hid rfl
  by_cases h2 : 2 ≤ s.size
  · go_enter Tryz.func29, Tryz.ntmps29
    go_wp2_with fail
    refine (sIsWord_any _ _ hs).mono ?_
    rintro e w1 ⟨rfl, rfl⟩
    go_wp2_with fail
    go_returns
    exact ⟨ret_bool (by rw [H.out]; simp [h2]), rfl⟩
  · go_enter Tryz.func29, Tryz.ntmps29
    go_wp2_with fail
    go_returns
    exact ⟨ret_bool (by rw [H.out, decide_eq_false (by omega)]; rfl), rfl⟩
end Go.Proofs.YtabljchbchjjcaaGreatDoor
end
