/- Words that are near one another. Conditions: at most 2^20 bytes. -/
import Derived.Test.YtaigabenlccdaaaMg5
namespace Go.Proofs.Ytaigabenlccdaaa
set_option linter.unusedVariables false
set_option linter.unusedSimpArgs false
open Go Go.RowKit
def diffN (a b : ByteArray) : Nat → Nat
  | 0 => 0
  | k + 1 => diffN a b k + (if bAt a k = bAt b k then 0 else 1)
def nearB (a b : ByteArray) : Bool := decide (a.size = b.size) && decide (diffN a b a.size = 1)
theorem diffN_comm (a b : ByteArray) (k : Nat) : diffN a b k = diffN b a k := by
  induction k with
  | zero => rfl
  | succ k ih => rw [diffN, diffN, ih]; simp only [eq_comm]
theorem nearB_comm (a b : ByteArray) : nearB a b = nearB b a := by
  unfold nearB
  by_cases h : a.size = b.size
  · rw [h, diffN_comm]
  · rw [decide_eq_false h, decide_eq_false (p := b.size = a.size) (fun e => h e.symm)]; rfl
theorem diffN_le (a b : ByteArray) (k : Nat) : diffN a b k ≤ k := by
  induction k with
  | zero => exact Nat.le_refl _
  | succ k ih => rw [diffN]; split <;> omega
theorem byte_ne {a b : ByteArray} {k : Nat} (h1 : k < a.size) (h2 : k < b.size) : (a[k].toNat : Int) = (b[k].toNat : Int) ↔ bAt a k = bAt b k := by
  rw [bAt_eq a k h1, bAt_eq b k h2, ← UInt8.toNat_inj]
  omega
set_option maxHeartbeats 1000000 in
theorem l10Near_any (a b : ByteArray) (w : World) (ha : a.size ≤ 1048576) (hb : b.size ≤ 1048576) :
    Calls Try.prog 28 #[.string a, .string b] w fun e w' => e = .returned (.bool (nearB a b)) ∧ Dr w w' := by
  have H : Hid (nearB a b = (decide (a.size = b.size) && decide (diffN a b a.size = 1))) := hid rfl
  have HL := hid (diffN_le a b)
  have HS : Hid (∀ k, diffN a b (k + 1) = diffN a b k + (if bAt a k = bAt b k then 0 else 1)) := hid (fun k => rfl)
  by_cases hs : a.size = b.size
  · have HE := hid hs
    have hsi : (a.size : Int) = (b.size : Int) := by omega
    go_enter Try.func28, Try.ntmps28
    go_wp2_with fail
    go_loopw [5, 6] (fun t i wr => ∃ k n : Nat, k ≤ a.size ∧ n ≤ k ∧ i = .int .i64 k ∧ t = .int .i64 n ∧ Hid (n = diffN a b k) ∧ Dr w wr) (fun _ i _ => a.size - (intOf i).toNat)
    case atStart => exact ⟨0, 0, by omega, by omega, rfl, rfl, hid rfl, Dr.refl _⟩
    case round =>
      obtain ⟨k, n, hk, hnk, rfl, rfl, hn, hD⟩ := hrel
      by_cases hlt : k < a.size
      · have hltb : k < b.size := by omega
        have HBN := hid (byte_ne hlt hltb)
        have HK := hid (HS.out k)
        by_cases hxy : (a[k].toNat : Int) = (b[k].toNat : Int)
        · have HQ := hid (HBN.out.1 hxy)
          have hxy' : ((a[k].toNat : Int) == (b[k].toNat : Int)) = true := by simpa using hxy
          clear hs hsi
          go_wp2_with fail
          go_quiet (fail)
          go_wp2_with fail
          go_roundw
          case rel => exact ⟨k + 1, n, by omega, by omega, by go_num, rfl, hid (by rw [HK.out, if_pos HQ.out, ← hn.out]; rfl), hD.trans ⟨_, rfl⟩⟩
          case measure => simp [intOf]; omega
        · have HQ := hid (fun e => hxy (HBN.out.2 e))
          have hxy' : ((a[k].toNat : Int) == (b[k].toNat : Int)) = false := by simpa using hxy
          have hxn : ((a[k].toNat : Int) != (b[k].toNat : Int)) = true := by simpa using hxy
          clear hs hsi
          go_wp2_with fail
          go_quiet (fail)
          go_wp2_with fail
          go_roundw
          case rel => exact ⟨k + 1, n + 1, by omega, by omega, by go_num, by go_num, hid (by rw [HK.out, if_neg HQ.out, ← hn.out]), hD.trans ⟨_, rfl⟩⟩
          case measure => simp [intOf]; omega
      · obtain rfl : k = a.size := by omega
        go_wp2_with fail
        go_returns
        refine ⟨ret_bool ?_, hD⟩
        rw [H.out, ← hn.out, decide_eq_true HE.out, Bool.true_and, Bool.eq_iff_iff]
        simp
        omega
  · have hsi : ¬ (a.size : Int) = (b.size : Int) := by omega
    go_enter Try.func28, Try.ntmps28
    go_wp2_with fail
    go_returns
    exact ⟨ret_bool (by rw [H.out, decide_eq_false (by omega)]; rfl), Dr.refl _⟩
set_option maxHeartbeats 1000000 in
theorem changed_any (a b : ByteArray) (w : World) (ha : a.size ≤ 1048576) (hb : b.size ≤ 1048576) :
    Calls Try.prog 33 #[.string a, .string b] w fun e w' => e = .returned (.bool (nearB a b)) ∧ Dr w w' := by
  have H : Hid (nearB a b = (decide (a.size = b.size) && decide (diffN a b a.size = 1))) := hid rfl
  have HL := hid (diffN_le a b)
  have HS : Hid (∀ k, diffN a b (k + 1) = diffN a b k + (if bAt a k = bAt b k then 0 else 1)) := hid (fun k => rfl)
  by_cases hs : a.size = b.size
  · have HE := hid hs
    have hsi : (a.size : Int) = (b.size : Int) := by omega
    go_enter Try.func33, Try.ntmps33
    go_wp2_with fail
    go_loopw [5, 6] (fun t i wr => ∃ k n : Nat, k ≤ a.size ∧ n ≤ k ∧ i = .int .i64 k ∧ t = .int .i64 n ∧ Hid (n = diffN a b k) ∧ Dr w wr) (fun _ i _ => a.size - (intOf i).toNat)
    case atStart => exact ⟨0, 0, by omega, by omega, rfl, rfl, hid rfl, Dr.refl _⟩
    case round =>
      obtain ⟨k, n, hk, hnk, rfl, rfl, hn, hD⟩ := hrel
      by_cases hlt : k < a.size
      · have hltb : k < b.size := by omega
        have HBN := hid (byte_ne hlt hltb)
        have HK := hid (HS.out k)
        by_cases hxy : (a[k].toNat : Int) = (b[k].toNat : Int)
        · have HQ := hid (HBN.out.1 hxy)
          have hxy' : ((a[k].toNat : Int) == (b[k].toNat : Int)) = true := by simpa using hxy
          have hse : ((a.size : Int) == (b.size : Int)) = true := by simpa using hsi
          clear hs hsi
          go_wp2_with fail
          go_quiet (fail)
          go_wp2_with fail
          go_roundw
          case rel => exact ⟨k + 1, n, by omega, by omega, by go_num, rfl, hid (by rw [HK.out, if_pos HQ.out, ← hn.out]; rfl), hD.trans ⟨_, rfl⟩⟩
          case measure => simp [intOf]; omega
        · have HQ := hid (fun e => hxy (HBN.out.2 e))
          have hxy' : ((a[k].toNat : Int) == (b[k].toNat : Int)) = false := by simpa using hxy
          have hxn : ((a[k].toNat : Int) != (b[k].toNat : Int)) = true := by simpa using hxy
          have hse : ((a.size : Int) == (b.size : Int)) = true := by simpa using hsi
          clear hs hsi
          go_wp2_with fail
          go_quiet (fail)
          go_wp2_with fail
          go_roundw
          case rel => exact ⟨k + 1, n + 1, by omega, by omega, by go_num, by go_num, hid (by rw [HK.out, if_neg HQ.out, ← hn.out]), hD.trans ⟨_, rfl⟩⟩
          case measure => simp [intOf]; omega
      · obtain rfl : k = a.size := by omega
        go_wp2_with fail
        go_returns
        refine ⟨ret_bool ?_, hD⟩
        rw [H.out, ← hn.out, decide_eq_true HE.out, Bool.true_and, Bool.eq_iff_iff]
        simp
        omega
  · have hsi : ¬ (a.size : Int) = (b.size : Int) := by omega
    have hsb : ((a.size : Int) == (b.size : Int)) = false := by simpa using hsi
    have HZ : Hid (nearB a b = false) := hid (by rw [H.out, decide_eq_false hs]; rfl)
    go_enter Try.func33, Try.ntmps33
    go_wp2_with fail
    go_loop [5, 6] (fun t i => t = .int .i64 0 ∧ i = .int .i64 0) (fun _ i => 0)
    case atStart => exact ⟨rfl, rfl⟩
    case round =>
      obtain ⟨rfl, rfl⟩ := hrel
      by_cases h0 : 0 < a.size
      · go_wp2_with fail
        go_returns
        exact ⟨ret_bool HZ.out.symm, Dr.refl _⟩
      · go_wp2_with fail
        go_returns
        exact ⟨ret_bool HZ.out.symm, Dr.refl _⟩
end Go.Proofs.Ytaigabenlccdaaa
