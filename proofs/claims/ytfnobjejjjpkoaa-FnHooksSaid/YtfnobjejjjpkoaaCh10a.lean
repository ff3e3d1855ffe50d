/- Patterns. Conditions stand at each. -/
import Derived.Test.YtfnobjejjjpkoaaCh01
namespace Go.Proofs.Ytfnobjejjjpkoaa
set_option linter.unusedVariables false
set_option linter.unusedSimpArgs false
open Go Go.RowKit

def markB (c : Int) : Bool := decide (c = 46 ∨ c = 64 ∨ c = 35 ∨ c = 42)
def patB (c : Int) : Bool := smallB c || markB c
def patOk (s : ByteArray) : Bool := allB patB s && (decide (1 ≤ s.size ∧ s.size ≤ 12) && decide (Lib.countByte s.data.toList 42 ≤ 3))
theorem mark_index (x : UInt8) : decide (0 ≤ Lib.indexByte [46, 64, 35, 42] x) = markB x.toNat := by
  have : ∀ x : Fin 256, decide (0 ≤ Lib.indexByte [46, 64, 35, 42] (UInt8.ofNat x.val)) = markB (x.val : Int) := by decide +kernel
  have h := this ⟨x.toNat, x.toNat_lt⟩
  simpa using h
theorem extract_one (s : ByteArray) (k : Nat) (h : k < s.size) : s.extract k (k + 1) = ⟨#[s[k]]⟩ := by
  have h' : k < s.data.size := h
  apply ByteArray.ext
  rw [ByteArray.data_extract]
  apply Array.ext
  · simp; omega
  · intro i h1 h2
    simp at h2
    subst h2
    simp
    rfl
set_option maxHeartbeats 400000 in
theorem ValidPattern_any (s : ByteArray) (w : World) (hs : s.size ≤ 1048576) : Calls Try.prog 28 #[.string s] w (Same (.bool (patOk s)) w) := by
  have H : Hid (patOk s = (allB patB s && (decide (1 ≤ s.size ∧ s.size ≤ 12) && decide (Lib.countByte s.data.toList 42 ≤ 3)))) := hid rfl
  have HN := hid (allB_no patB s)
  have HY := hid (allB_yes patB s)
  have HM := hid mark_index
  have HX := hid (extract_one s)
  go_enter Try.func28, Try.ntmps28
  go_wp2_with fail
  go_loop [3] (fun i => ∃ k : Nat, k ≤ s.size ∧ i = .int .i64 k ∧ Hid (∀ j (hj : j < s.size), j < k → patB (s[j].toNat : Int) = true)) (fun i => s.size - (intOf i).toNat)
  case atStart => exact ⟨0, by omega, rfl, hid (fun j _ h => by omega)⟩
  case round =>
    obtain ⟨k, hk, rfl, hall⟩ := hrel
    by_cases hlt : k < s.size
    · have HB : Hid (patB (s[k].toNat : Int) = (smallB (s[k].toNat : Int) || markB (s[k].toNat : Int))) := hid rfl
      cases hg : smallB (s[k].toNat : Int)
      · cases hm : markB (s[k].toNat : Int)
        · have HG := hid hg
          have HZ := hid hm
          go_wp2_with (first | (go_at_call 68; refine (small_any _ _).mono ?_; rintro e w' ⟨rfl, rfl⟩; rw [hg]) | (go_at_call 69; rw [HX.out k hlt]; refine (Try.strings_Contains_one ⟨#[46, 64, 35, 42]⟩ _ _).mono ?_; rintro e w' ⟨rfl, rfl⟩; rw [HM.out, hm]))
          go_returns
          exact ⟨ret_bool (by rw [H.out, HN.out k hlt (by rw [HB.out, HG.out, HZ.out]; rfl), Bool.false_and]), rfl⟩
        · have HG := hid hg
          have HZ := hid hm
          go_wp2_with (first | (go_at_call 68; refine (small_any _ _).mono ?_; rintro e w' ⟨rfl, rfl⟩; rw [hg]) | (go_at_call 69; rw [HX.out k hlt]; refine (Try.strings_Contains_one ⟨#[46, 64, 35, 42]⟩ _ _).mono ?_; rintro e w' ⟨rfl, rfl⟩; rw [HM.out, hm]))
          clear hg hm
          go_round
          case rel => exact ⟨k + 1, by omega, by go_num, hid (fun j hj h => by
            by_cases hjk : j = k
            · subst hjk; rw [HB.out, HZ.out, Bool.or_true]
            · exact hall.out j hj (by omega))⟩
          case measure => simp [intOf]; omega
      · have HG := hid hg
        go_wp2_with (go_at_call 68; refine (small_any _ _).mono ?_; rintro e w' ⟨rfl, rfl⟩; rw [hg])
        clear hg
        go_round
        case rel => exact ⟨k + 1, by omega, by go_num, hid (fun j hj h => by
          by_cases hjk : j = k
          · subst hjk; rw [HB.out, HG.out, Bool.true_or]
          · exact hall.out j hj (by omega))⟩
        case measure => simp [intOf]; omega
    · have HA := hid (HY.out (fun j hj => hall.out j hj (by omega)))
      clear hall
      by_cases h1 : 1 ≤ s.size
      · by_cases h2 : s.size ≤ 12
        · go_wp2_with fail
          refine (Try.strings_Count_one _ _ _).mono ?_
          rintro e w' ⟨rfl, rfl⟩
          go_wp2_with fail
          go_returns
          refine ⟨ret_bool ?_, rfl⟩
          rw [H.out, HA.out]
          simp [h1, h2]
          omega
        · go_wp2_with fail
          go_returns
          refine ⟨ret_bool ?_, rfl⟩
          rw [H.out, HA.out, decide_eq_false (p := 1 ≤ s.size ∧ s.size ≤ 12) (by omega)]
          rfl
      · go_wp2_with fail
        go_returns
        refine ⟨ret_bool ?_, rfl⟩
        rw [H.out, HA.out, decide_eq_false (p := 1 ≤ s.size ∧ s.size ≤ 12) (by omega)]
        rfl
theorem count_take (l : List UInt8) (x : UInt8) (k : Nat) (h : k < l.length) : (l.take (k + 1)).count x = (l.take k).count x + (if l[k] = x then 1 else 0) := by
  rw [List.take_succ_eq_append_getElem h, List.count_append]
  simp [List.count_cons, List.count_nil]
theorem count_all (l : List UInt8) (x : UInt8) (k : Nat) (h : l.length ≤ k) : (l.take k).count x = l.count x := by rw [List.take_of_length_le h]
set_option maxHeartbeats 1000000 in
theorem l10Ok_any (s : ByteArray) (w : World) (hs : s.size ≤ 1048576) : Calls Try.prog 62 #[.string s] w (Same (.bool (patOk s)) w) := by
  have H : Hid (patOk s = (allB patB s && (decide (1 ≤ s.size ∧ s.size ≤ 12) && decide (Lib.countByte s.data.toList 42 ≤ 3)))) := hid rfl
  have HI : Hid (inB s.size 1 12 = decide (1 ≤ s.size ∧ s.size ≤ 12)) := hid (by unfold inB; rw [decide_eq_decide]; omega)
  have HN := hid (allB_no patB s)
  have HY := hid (allB_yes patB s)
  have HC : Hid (∀ k (h : k < s.size), (s.data.toList.take (k + 1)).count 42 = (s.data.toList.take k).count 42 + (if s[k] = 42 then 1 else 0)) := hid (fun k h => count_take s.data.toList 42 k (by simpa using h))
  have HE : Hid ((s.data.toList.take s.size).count 42 = Lib.countByte s.data.toList 42) := hid (count_all _ _ _ (by simp))
  have HL : Hid (∀ k, (s.data.toList.take k).count 42 ≤ k) := hid (fun k => Nat.le_trans List.count_le_length (by simp; omega))
  go_enter Try.func62, Try.ntmps62
  go_wp2_with fail
  go_loop [3, 4] (fun t i => ∃ k c : Nat, k ≤ s.size ∧ i = .int .i64 k ∧ t = .int .i64 c ∧ Hid (c = (s.data.toList.take k).count 42) ∧ c ≤ k ∧ Hid (∀ j (hj : j < s.size), j < k → patB (s[j].toNat : Int) = true)) (fun _ i => s.size - (intOf i).toNat)
  case atStart => exact ⟨0, 0, by omega, rfl, rfl, hid (by simp), by omega, hid (fun j _ h => by omega)⟩
  case round =>
    obtain ⟨k, c, hk, rfl, rfl, hcc, hck, hall⟩ := hrel
    by_cases hlt : k < s.size
    · have HB : Hid (patB (s[k].toNat : Int) = (smallB (s[k].toNat : Int) || markB (s[k].toNat : Int))) := hid rfl
      have HM : Hid (markB (s[k].toNat : Int) = decide ((s[k].toNat : Int) = 46 ∨ (s[k].toNat : Int) = 64 ∨ (s[k].toNat : Int) = 35 ∨ (s[k].toNat : Int) = 42)) := hid rfl
      have HQ := hid (HC.out k hlt)
      have H42 : Hid (s[k] = 42 ↔ (s[k].toNat : Int) = 42) := hid (by rw [← UInt8.toNat_inj]; simp; omega)
      obtain ⟨x, hx⟩ : ∃ x : Int, (s[k].toNat : Int) = x := ⟨_, rfl⟩
      rw [hx] at HB HM H42
      have HX := hid hx
      by_cases h42 : x = 42
      · subst h42
        go_wp2_with fail
        go_round
        case rel => exact ⟨k + 1, c + 1, by omega, by go_num, by go_num, hid (by rw [HQ.out, if_pos (H42.out.2 rfl), ← hcc.out]), by omega, hid (fun j hj h => by
          by_cases hjk : j = k
          · subst hjk; rw [HX.out, HB.out, HM.out]; simp
          · exact hall.out j hj (by omega))⟩
        case measure => simp [intOf]; omega
      · cases hp : patB x
        · have HP := hid hp
          have hg : smallB x = false := by rw [HB.out] at hp; simp at hp; exact hp.1
          have hm : markB x = false := by rw [HB.out] at hp; simp at hp; exact hp.2
          rw [HM.out] at hm
          simp at hm
          obtain ⟨m1, m2, m3, m4⟩ := hm
          have m1' : (x != 46) = true := by simpa using m1
          have m2' : (x != 64) = true := by simpa using m2
          have m3' : (x != 35) = true := by simpa using m3
          clear hp
          go_wp2_with (go_at_call 90; refine (l01Small_any _ _).mono ?_; rintro e w' ⟨rfl, rfl⟩; rw [hg])
          go_returns
          exact ⟨ret_bool (by rw [H.out, HN.out k hlt (by rw [HX.out]; exact HP.out), Bool.false_and]), rfl⟩
        · have HP := hid hp
          have HO : Hid (smallB x = true ∨ x = 46 ∨ x = 64 ∨ x = 35) := hid (by
            rw [HB.out, HM.out] at hp
            simp at hp
            rcases hp with h | h | h | h | h
            · exact .inl h
            · exact .inr (.inl h)
            · exact .inr (.inr (.inl h))
            · exact .inr (.inr (.inr h))
            · exact absurd h h42)
          clear hp
          have HR : Hid (c = (s.data.toList.take (k + 1)).count 42) := hid (by rw [HQ.out, if_neg (fun e => h42 (H42.out.1 e)), ← hcc.out]; rfl)
          have HA : Hid (∀ j (hj : j < s.size), j < k + 1 → patB (s[j].toNat : Int) = true) := hid (fun j hj h => by
            by_cases hjk : j = k
            · subst hjk; rw [HX.out]; exact HP.out
            · exact hall.out j hj (by omega))
          cases hg : smallB x
          · have hz : x = 46 ∨ x = 64 ∨ x = 35 := by
              rcases HO.out with h | h
              · rw [hg] at h; cases h
              · exact h
            rcases hz with rfl | rfl | rfl
            all_goals
              go_wp2_with (go_at_call 90; refine (l01Small_any _ _).mono ?_; rintro e w' ⟨rfl, rfl⟩; rw [hg])
              clear hg
              go_round
              case rel => exact ⟨k + 1, c, by omega, by go_num, rfl, HR, by omega, HA⟩
              case measure => simp [intOf]; omega
          · go_wp2_with (go_at_call 90; refine (l01Small_any _ _).mono ?_; rintro e w' ⟨rfl, rfl⟩; rw [hg])
            clear hg
            go_round
            case rel => exact ⟨k + 1, c, by omega, by go_num, rfl, HR, by omega, HA⟩
            case measure => simp [intOf]; omega
    · obtain rfl : k = s.size := by omega
      have HA := hid (HY.out (fun j hj => hall.out j hj (by omega)))
      have HW : Hid (c = Lib.countByte s.data.toList 42) := hid (hcc.out.trans HE.out)
      clear hall
      go_wp2_with (go_at_call 91; refine (l00In_any _ _ _ _).mono ?_; rintro e w' ⟨rfl, rfl⟩)
      all_goals (go_returns; refine ⟨ret_bool ?_, rfl⟩; rw [H.out, HA.out, ← HI.out, ← HW.out]; simp_all; try omega)
theorem sValidPattern_any (s : ByteArray) (w : World) (hs : s.size ≤ 1048576) : Calls Try.prog 29 #[.string s] w (Same (.bool (patOk s)) w) := by
  go_enter Try.func29, Try.ntmps29
  go_wp2_with fail
  refine (l10Ok_any _ _ hs).mono ?_
  rintro e w1 ⟨rfl, rfl⟩
  go_wp2_with fail
  go_returns
  exact ⟨rfl, rfl⟩
end Go.Proofs.Ytfnobjejjjpkoaa
