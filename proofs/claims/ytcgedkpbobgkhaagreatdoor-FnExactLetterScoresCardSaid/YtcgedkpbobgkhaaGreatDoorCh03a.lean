/- Words that are placed. Conditions: at most 2^20 bytes; the library's tables as their initialisers lay them. -/
import Derived.Test.YtcgedkpbobgkhaaGreatDoorLow
namespace Go.Proofs.YtcgedkpbobgkhaaGreatDoor
set_option linter.unusedVariables false
set_option linter.unusedSimpArgs false
open Go Go.RowKit
/-- The library's tables lie as they were laid. -/
def Tabs (w : World) : Prop := Lib.CaseVar (Tryz.laysH159_ren.g 13) Lib.caseA w ∧ Lib.Utf8Tabs (Tryz.laysH159_ren.g 3) (Tryz.laysH159_ren.g 4) w
theorem Tabs.ext {w w' : World} (h : Tabs w) (k : Ext w w') : Tabs w' := by
  obtain ⟨⟨R, oR, cap, h1, h2⟩, h3, h4⟩ := h
  refine ⟨⟨R, oR, cap, k.cell h1, fun i hi => ?_⟩, fun c hc => k.cell (h3 c hc), fun i hi => ⟨k.cell (h4 i hi).1, k.cell (h4 i hi).2⟩⟩
  obtain ⟨a, b, c, d, e⟩ := h2 i hi
  exact ⟨k.cell a, k.cell b, k.cell c, k.cell d, k.cell e⟩
theorem enc_le (r : Int) : (Lib.encodeRune r).length ≤ 4 := by
  unfold Lib.encodeRune Lib.encodeRuneZ
  rw [List.length_map]
  repeat' split
  all_goals simp
theorem low_len : ∀ (n : Nat) (l : List UInt8), l.length ≤ n → (Lib.toLowerD l).length ≤ 4 * l.length
  | 0, l, hn => by
    have : l = [] := List.eq_nil_of_length_eq_zero (by omega)
    subst this
    simp [Lib.toLowerD, Lib.mapD, Lib.mapGoD]
  | n + 1, [], _ => by simp [Lib.toLowerD, Lib.mapD, Lib.mapGoD]
  | n + 1, b :: t, hn => by
    have hne : b :: t ≠ [] := by simp
    have st := Lib.mapD_step Lib.toLowerU (b :: t) hne
    change Lib.toLowerD (b :: t) = _ ++ Lib.toLowerD ((b :: t).drop (Lib.decodeL (b :: t)).2) at st
    have w1 := Lib.decodeL_width (b :: t)
    have w2 := Lib.decodeL_le (b :: t) hne
    have hl : ((b :: t).drop (Lib.decodeL (b :: t)).2).length = (b :: t).length - (Lib.decodeL (b :: t)).2 := List.length_drop
    have ih := low_len n ((b :: t).drop (Lib.decodeL (b :: t)).2) (by omega)
    rw [st, List.length_append]
    have he := enc_le (Lib.toLowerU ((Lib.decodeL (b :: t)).1 : Int))
    split
    · omega
    · simp only [List.length_nil]
      omega
theorem lowS_size (s : ByteArray) (h : s.size ≤ 1048576) : (lowS s).size ≤ 4194304 := by
  have h1 : (lowS s).size = (Lib.toLowerD s.data.toList).length := by
    show (Lib.toLowerD s.data.toList).toArray.size = _
    rw [List.size_toArray]
  have h2 : s.size = s.data.toList.length := by rw [Array.length_toList]; rfl
  have := low_len _ s.data.toList (Nat.le_refl _)
  omega
theorem IsWord_big (s : ByteArray) (w : World) (hs : s.size ≤ 4194304) : Calls Tryz.prog 76 #[.string s] w (Ret (.bool (wordOk s)) w) := by
  by_cases h : s.size ≤ 1048576
  · exact IsWord_any s w h
  · have H : Hid (wordOk s = false) := hid (by unfold wordOk; rw [decide_eq_false (by omega)]; rfl)
    have h1 : 1 ≤ s.size := by omega
    have h2 : ¬ s.size ≤ 12 := by omega
    clear h
    go_enter Tryz.func76, Tryz.ntmps76
    go_wp2_with fail
    go_returns
    exact ⟨ret_bool H.out.symm, Ext.refl _⟩
theorem ToLower_any (s : ByteArray) (w : World) (hs : s.size ≤ 1048576) (hT : Tabs w) : Calls Tryz.prog 77 #[.string s] w (Ret (.string (lowS s)) w) :=
  Any.strings_ToLower_any Tryz.laysH159 Tryz.Builder_Extra_H159 s w (by omega) hT.1 hT.2
set_option maxHeartbeats 400000 in
theorem isPlaced_any (s : ByteArray) (w : World) (hs : s.size ≤ 1048576) (hT : Tabs w) : Calls Tryz.prog 72 #[.string s] w (Ret (.bool (decide (1 ≤ s.size ∧ s.size ≤ 12) && allB letterB s)) w) := by
  have HP := hid (placed_eq s)
  have HZ := lowS_size s hs
  have HT : Hid (∀ w', Ext w w' → Tabs w') := hid (fun w' k => hT.ext k)
  clear hT
  obtain ⟨x, hx⟩ : ∃ x, lowS s = x := ⟨_, rfl⟩
  have HL : Hid (∀ w', Ext w w' → Calls Tryz.prog 77 #[.string s] w' (Ret (.string x) w')) := hid (fun w' k => by rw [← hx]; exact ToLower_any s w' hs (HT.out w' k))
  rw [hx] at HP HZ
  clear hx HT
  go_enter Tryz.func72, Tryz.ntmps72
  go_wp2_with fail
  refine (HL.out _ (Ext.refl w)).mono ?_
  rintro e w1 ⟨rfl, hx1⟩
  go_wp2_with fail
  refine (IsWord_big x _ HZ).mono ?_
  rintro e w2 ⟨rfl, hx2⟩
  have hE := hx1.trans hx2
  cases hw : wordOk x
  · have HW := hid hw
    clear hw
    go_wp2_with fail
    go_returns
    exact ⟨ret_bool (by rw [← HP.out, HW.out]; rfl), hE⟩
  · have HW := hid hw
    clear hw
    go_wp2_with fail
    refine (HL.out _ hE).mono ?_
    rintro e w3 ⟨rfl, hx3⟩
    go_wp2_with fail
    go_returns
    refine ⟨ret_bool ?_, hE.trans hx3⟩
    rw [← HP.out, HW.out, Bool.true_and]
    first | rfl | (rw [Bool.eq_iff_iff]; simp; omega)
theorem mainB_eq (s : ByteArray) (h : 2 ≤ s.size) : mainB s = (decide (1 ≤ s.size ∧ s.size ≤ 12) && allB letterB s) := by
  unfold mainB
  congr 1
  rw [decide_eq_decide]
  omega
theorem mainB_no (s : ByteArray) (h : ¬ 2 ≤ s.size) : mainB s = false := by
  unfold mainB
  rw [decide_eq_false (by omega)]
  rfl
theorem isMain_any (s : ByteArray) (w : World) (hs : s.size ≤ 1048576) (hT : Tabs w) : Calls Tryz.prog 60 #[.string s] w (Ret (.bool (mainB s)) w) := by
  by_cases h2 : 2 ≤ s.size
  · have H := hid (mainB_eq s h2)
    have HT := hid hT
    clear hT
    go_enter Tryz.func60, Tryz.ntmps60
    go_wp2_with fail
    refine (isPlaced_any s _ hs HT.out).mono ?_
    rintro e w1 ⟨rfl, hx⟩
    rw [← H.out]
    go_wp2_with fail
    go_returns
    exact ⟨rfl, hx⟩
  · have H := hid (mainB_no s h2)
    clear hT
    go_enter Tryz.func60, Tryz.ntmps60
    go_wp2_with fail
    go_returns
    exact ⟨ret_bool H.out.symm, Ext.refl _⟩
set_option maxHeartbeats 1000000 in
theorem l03Placed_any (s : ByteArray) (w : World) (hs : s.size ≤ 1048576) : Calls Tryz.prog 47 #[.string s] w (Same (.bool (decide (1 ≤ s.size ∧ s.size ≤ 12) && allB letterB s)) w) := by
  have HN := hid (allB_no letterB s)
  have HY := hid (allB_yes letterB s)
  have HI : Hid (inB s.size 1 12 = decide (1 ≤ s.size ∧ s.size ≤ 12)) := hid (by unfold inB; rw [decide_eq_decide]; omega)
  have HL : Hid (∀ c, letterB c = (smallB c || capB c)) := hid (fun c => rfl)
  go_enter Tryz.func47, Tryz.ntmps47
  go_wp2_with fail
  go_loop [3] (fun i => ∃ k : Nat, k ≤ s.size ∧ i = .int .i64 k ∧ Hid (∀ j (hj : j < s.size), j < k → letterB (s[j].toNat : Int) = true)) (fun i => s.size - (intOf i).toNat)
  case atStart => exact ⟨0, by omega, rfl, hid (fun j _ h => by omega)⟩
  case round =>
    obtain ⟨k, hk, rfl, hall⟩ := hrel
    by_cases hlt : k < s.size
    · cases hg : smallB (s[k].toNat : Int)
      · cases hc : capB (s[k].toNat : Int)
        · have HG : Hid (letterB (s[k].toNat : Int) = false) := hid (by rw [HL.out, hg, hc]; rfl)
          go_wp2_with (first | (go_at_call 26; refine (l01Small_any _ _).mono ?_; rintro e w' ⟨rfl, rfl⟩; rw [hg]) | (go_at_call 67; refine (l03Capital_any _ _).mono ?_; rintro e w' ⟨rfl, rfl⟩; rw [hc]))
          go_returns
          exact ⟨ret_bool (by rw [HN.out k hlt HG.out, Bool.and_false]), rfl⟩
        · have HG : Hid (letterB (s[k].toNat : Int) = true) := hid (by rw [HL.out, hg, hc]; rfl)
          go_wp2_with (first | (go_at_call 26; refine (l01Small_any _ _).mono ?_; rintro e w' ⟨rfl, rfl⟩; rw [hg]) | (go_at_call 67; refine (l03Capital_any _ _).mono ?_; rintro e w' ⟨rfl, rfl⟩; rw [hc]))
          clear hg hc
          go_round
          case rel => exact ⟨k + 1, by omega, by go_num, hid (fun j hj h => by
            by_cases hjk : j = k
            · subst hjk; exact HG.out
            · exact hall.out j hj (by omega))⟩
          case measure => simp [intOf]; omega
      · have HG : Hid (letterB (s[k].toNat : Int) = true) := hid (by rw [HL.out, hg]; rfl)
        go_wp2_with (go_at_call 26; refine (l01Small_any _ _).mono ?_; rintro e w' ⟨rfl, rfl⟩; rw [hg])
        clear hg
        go_round
        case rel => exact ⟨k + 1, by omega, by go_num, hid (fun j hj h => by
          by_cases hjk : j = k
          · subst hjk; exact HG.out
          · exact hall.out j hj (by omega))⟩
        case measure => simp [intOf]; omega
    · go_wp2_with fail
      refine (l00In_any _ _ _ _).mono ?_
      rintro e w1 ⟨rfl, rfl⟩
      go_wp2_with fail
      go_returns
      exact ⟨ret_bool (by rw [HY.out (fun j hj => hall.out j hj (by omega)), Bool.and_true, HI.out]), rfl⟩
theorem l12Word_any (s : ByteArray) (w : World) (hs : s.size ≤ 1048576) : Calls Tryz.prog 28 #[.string s] w (Same (.bool (mainB s)) w) := by
  by_cases h2 : 2 ≤ s.size
  · have H := hid (mainB_eq s h2)
    go_enter Tryz.func28, Tryz.ntmps28
    go_wp2_with fail
    refine (l03Placed_any s _ hs).mono ?_
    rintro e w1 ⟨rfl, rfl⟩
    rw [← H.out]
    go_wp2_with fail
    go_returns
    exact ⟨rfl, rfl⟩
  · have H := hid (mainB_no s h2)
    go_enter Tryz.func28, Tryz.ntmps28
    go_wp2_with fail
    go_returns
    exact ⟨ret_bool H.out.symm, rfl⟩
end Go.Proofs.YtcgedkpbobgkhaaGreatDoor
