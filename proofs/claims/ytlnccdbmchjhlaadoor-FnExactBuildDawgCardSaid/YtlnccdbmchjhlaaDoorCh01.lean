/- Words. Conditions stand at each. -/
import Derived.Test.YtlnccdbmchjhlaaDoorCh11a
namespace Go.Proofs.YtlnccdbmchjhlaaDoor
set_option linter.unusedVariables false
set_option linter.unusedSimpArgs false
open Go Go.RowKit

def wordOk (s : ByteArray) : Bool := decide (1 ≤ s.size ∧ s.size ≤ 12) && allB smallB s
def longOk (s : ByteArray) : Bool := decide (2 ≤ s.size) && wordOk s
theorem bytesV_at (s : ByteArray) (k : Nat) (h : k < s.size) : (bytesV s.data.toList)[k]? = some (.int .u8 s[k].toNat) := by
  have h' : k < s.data.size := h
  rw [bytesV_get, Array.getElem?_toList, Array.getElem?_eq_getElem h']
  rfl
set_option maxHeartbeats 400000 in
theorem onlySmall_any (s : ByteArray) (w : World) (hs : s.size ≤ 1048576) : Calls Tryd.prog 60 #[.string s] w (Ret (.bool (allB smallB s)) w) := by
  have HN := hid (allB_no smallB s)
  have HY := hid (allB_yes smallB s)
  go_enter Tryd.func60, Tryd.ntmps60
  go_wp2_with (refine wpList_bytes rfl _ 9 82 rfl Tryd.underlying9 Tryd.underlying82 Tryd.underlying5 rfl ?_; intro cp w1 hwr hcap hx hsz1)
  have HC : Hid (∀ k (h : k < s.size), w1.cell? ⟨w.heap.size, k, none⟩ = some (.int .u8 s[k].toNat)) := hid (fun k h => hwr.2.1 k _ (bytesV_at s k h))
  clear hwr hsz1
  go_loopw [8] (fun i wr => ∃ k : Nat, k ≤ s.size ∧ i = .int .i64 k ∧ Hid (∀ j (hj : j < s.size), j < k → smallB (s[j].toNat : Int) = true) ∧ wr = w1) (fun i _ => s.size - (intOf i).toNat)
  case atStart => exact ⟨0, by omega, rfl, hid (fun j _ h => by omega), rfl⟩
  case round =>
    obtain ⟨k, hk, rfl, hall, rfl⟩ := hrel
    by_cases hlt : k < s.size
    · have hc := HC.out k hlt
      obtain ⟨x, hxk⟩ : ∃ x, s[k] = x := ⟨_, rfl⟩
      rw [hxk] at hc
      have HX := hid hxk
      clear hxk
      cases hg : smallB (x.toNat : Int)
      · have HG := hid hg
        go_wp2_with (go_at_call 75; refine (small_any _ _).mono ?_; rintro e w' ⟨rfl, rfl⟩; rw [hg])
        go_returns
        exact ⟨ret_bool (HN.out k hlt (by rw [HX.out]; exact HG.out)).symm, hx⟩
      · have HG := hid hg
        go_wp2_with (go_at_call 75; refine (small_any _ _).mono ?_; rintro e w' ⟨rfl, rfl⟩; rw [hg])
        clear hg
        go_roundw
        case rel => exact ⟨k + 1, by omega, by go_num, hid (fun j hj h => by
          by_cases hjk : j = k
          · subst hjk; rw [HX.out]; exact HG.out
          · exact hall.out j hj (by omega)), trivial⟩
        case measure => simp [intOf]; omega
    · go_wp2_with fail
      go_returns
      exact ⟨ret_bool (HY.out (fun j hj => hall.out j hj (by omega))).symm, hx⟩
set_option maxHeartbeats 400000 in
theorem IsWord_any (s : ByteArray) (w : World) (hs : s.size ≤ 1048576) : Calls Tryd.prog 47 #[.string s] w (Ret (.bool (wordOk s)) w) := by
  have H : Hid (wordOk s = (decide (1 ≤ s.size ∧ s.size ≤ 12) && allB smallB s)) := hid rfl
  by_cases h1 : 1 ≤ s.size ∧ s.size ≤ 12
  · obtain ⟨h1, h2⟩ := h1
    go_enter Tryd.func47, Tryd.ntmps47
    go_wp2_with fail
    refine (onlySmall_any _ _ hs).mono ?_
    rintro e w1 ⟨rfl, hx⟩
    go_wp2_with fail
    go_returns
    exact ⟨ret_bool (by rw [H.out]; simp [h1, h2]), hx⟩
  · have HN := hid h1
    by_cases h2 : 1 ≤ s.size
    · have h3 : ¬ s.size ≤ 12 := by omega
      clear h1
      go_enter Tryd.func47, Tryd.ntmps47
      go_wp2_with fail
      go_returns
      exact ⟨ret_bool (by rw [H.out, decide_eq_false HN.out]; rfl), Ext.refl _⟩
    · clear h1
      go_enter Tryd.func47, Tryd.ntmps47
      go_wp2_with fail
      go_returns
      exact ⟨ret_bool (by rw [H.out, decide_eq_false HN.out]; rfl), Ext.refl _⟩
set_option maxHeartbeats 400000 in
theorem sIsWord_any (s : ByteArray) (w : World) (hs : s.size ≤ 1048576) : Calls Tryd.prog 45 #[.string s] w (Same (.bool (wordOk s)) w) := by
  have H : Hid (wordOk s = (decide (1 ≤ s.size ∧ s.size ≤ 12) && allB smallB s)) := hid rfl
  have HN := hid (allB_no smallB s)
  have HY := hid (allB_yes smallB s)
  have HI : Hid (inB s.size 1 12 = decide (1 ≤ s.size ∧ s.size ≤ 12)) := hid (by unfold inB; rw [decide_eq_decide]; omega)
  go_enter Tryd.func45, Tryd.ntmps45
  go_wp2_with fail
  go_loop [3] (fun i => ∃ k : Nat, k ≤ s.size ∧ i = .int .i64 k ∧ Hid (∀ j (hj : j < s.size), j < k → smallB (s[j].toNat : Int) = true)) (fun i => s.size - (intOf i).toNat)
  case atStart => exact ⟨0, by omega, rfl, hid (fun j _ h => by omega)⟩
  case round =>
    obtain ⟨k, hk, rfl, hall⟩ := hrel
    by_cases hlt : k < s.size
    · cases hg : smallB (s[k].toNat : Int)
      · have HG := hid hg
        go_wp2_with (go_at_call 58; refine (l01Small_any _ _).mono ?_; rintro e w' ⟨rfl, rfl⟩; rw [hg])
        go_returns
        exact ⟨ret_bool (by rw [H.out, HN.out k hlt HG.out, Bool.and_false]), rfl⟩
      · have HG := hid hg
        go_wp2_with (go_at_call 58; refine (l01Small_any _ _).mono ?_; rintro e w' ⟨rfl, rfl⟩; rw [hg])
        clear hg
        go_round
        case rel => exact ⟨k + 1, by omega, by go_num, hid (fun j hj h => by
          by_cases hjk : j = k
          · subst hjk; exact HG.out
          · exact hall.out j hj (by omega))⟩
        case measure => simp [intOf]; omega
    · go_wp2_with fail
      refine (l00In_any _ _ _ _).mono ?_
      rintro e w1 ⟨rfl, rfl⟩
      go_wp2_with fail
      go_returns
      exact ⟨ret_bool (by rw [H.out, HY.out (fun j hj => hall.out j hj (by omega)), Bool.and_true, HI.out]), rfl⟩
theorem isLong_any (s : ByteArray) (w : World) (hs : s.size ≤ 1048576) : Calls Tryd.prog 34 #[.string s] w (Ret (.bool (longOk s)) w) := by
  have H : Hid (longOk s = (decide (2 ≤ s.size) && wordOk s)) := hid rfl
  by_cases h2 : 2 ≤ s.size
  · go_enter Tryd.func34, Tryd.ntmps34
    go_wp2_with fail
    refine (IsWord_any _ _ hs).mono ?_
    rintro e w1 ⟨rfl, hx⟩
    go_wp2_with fail
    go_returns
    exact ⟨ret_bool (by rw [H.out]; simp [h2]), hx⟩
  · go_enter Tryd.func34, Tryd.ntmps34
    go_wp2_with fail
    go_returns
    exact ⟨ret_bool (by rw [H.out, decide_eq_false (by omega)]; rfl), Ext.refl _⟩
theorem l05Long_any (s : ByteArray) (w : World) (hs : s.size ≤ 1048576) : Calls Tryd.prog 30 #[.string s] w (Same (.bool (longOk s)) w) := by
  have H : Hid (longOk s = (decide (2 ≤ s.size) && wordOk s)) := hid rfl
  by_cases h2 : 2 ≤ s.size
  · go_enter Tryd.func30, Tryd.ntmps30
    go_wp2_with fail
    refine (sIsWord_any _ _ hs).mono ?_
    rintro e w1 ⟨rfl, rfl⟩
    go_wp2_with fail
    go_returns
    exact ⟨ret_bool (by rw [H.out]; simp [h2]), rfl⟩
  · go_enter Tryd.func30, Tryd.ntmps30
    go_wp2_with fail
    go_returns
    exact ⟨ret_bool (by rw [H.out, decide_eq_false (by omega)]; rfl), rfl⟩
end Go.Proofs.YtlnccdbmchjhlaaDoor
