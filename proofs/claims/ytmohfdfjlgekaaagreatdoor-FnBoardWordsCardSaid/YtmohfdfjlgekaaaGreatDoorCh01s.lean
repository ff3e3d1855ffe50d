/- Texts cut at a byte, by both. Conditions: at most 2^20 bytes. -/
import Derived.Test.YtmohfdfjlgekaaaGreatDoorSplL
import Derived.Test.YtmohfdfjlgekaaaGreatDoorMg1
namespace Go.Proofs.YtmohfdfjlgekaaaGreatDoor
set_option linter.unusedVariables false
set_option linter.unusedSimpArgs false
open Go Go.RowKit
set_option maxHeartbeats 1000000 in
theorem l01Split_c (c : UInt8) (s : ByteArray) (w : World) (hs : s.size ≤ 1048576) : Calls Tryz.prog 56 #[.string s, .int .u8 c.toNat] w (RetStrs (splitC c s) w) := by
  have HLE := hid (cutC_le c s)
  have HST : Hid (∀ k (hk : k < s.size), cutC c s (k + 1) = if s[k] = c then ((cutC c s k).1 ++ [s.extract (cutC c s k).2 k], k + 1) else cutC c s k) := hid (fun k hk => by rw [bAt_eq s k hk]; rfl)
  have HSP : Hid (splitC c s = (cutC c s s.size).1 ++ [s.extract (cutC c s s.size).2 s.size]) := hid rfl
  have HSL := hid (splitC_length c s)
  go_enter Tryz.func56, Tryz.ntmps56
  go_wp2_with fail
  go_loopw [5, 6, 7] (fun v f i wr => ∃ (k m p cap : Nat) (a' : Option Addr), k ≤ s.size ∧ m ≤ k ∧ p ≤ k ∧ i = .int .i64 k ∧ f = .int .i64 p ∧ v = .slice a' m cap ∧ Hid (m = (cutC c s k).1.length) ∧ Hid (p = (cutC c s k).2) ∧ Hid (Own wr w.heap.size 9 1 a' m cap (strsV (cutC c s k).1)) ∧ Ext w wr) (fun _ _ i _ => s.size - (intOf i).toNat)
  case atStart => exact ⟨0, 0, 0, 0, some ⟨w.heap.size, 0, none⟩, by omega, by omega, by omega, rfl, rfl, rfl, hid rfl, hid rfl, hid (Own.empty _ _ _ _ _), (Ext.refl _).alloc _⟩
  case round =>
    obtain ⟨k, m, p, cap, a', hk, hmk, hpk, rfl, rfl, rfl, hm, hp, hown, hx⟩ := hrel
    have hsz := hx.size
    by_cases hlt : k < s.size
    · have HT1 := hid (HST.out k hlt)
      obtain ⟨u, hu⟩ : ∃ u, s[k] = u := ⟨_, rfl⟩
      have HU := hid hu
      rw [hu] at HT1
      by_cases h62 : u = c
      · subst h62
        have h62' : s[k].toNat = u.toNat := by rw [hu]
        have hown2 := hown.out
        have HP : Hid (s.extract p k = s.extract (cutC u s k).2 k) := hid (by rw [hp.out])
        go_wp2_with (at_builtin; refine wpList_push rfl _ _ 27 rfl El_str rfl [_] rfl rfl (by simp [Value.oneCell']) hown2 (by omega) (by unfold maxLen; omega) (by omega) ?_; intro a2 c3 w3 hown3 hb2; have HO := hid hown3; clear hown3 hown2)
        go_roundw
        case rel => exact ⟨k + 1, m + 1, k + 1, c3, a2, by omega, by omega, by omega, by go_num, by go_num, rfl, hid (by rw [HT1.out, if_pos rfl]; simp [← hm.out]), hid (by rw [HT1.out, if_pos rfl]), hid (by rw [HT1.out, if_pos rfl, strsV_append, ← HP.out]; exact HO.out), hx.thenBelow hb2 (by omega)⟩
        case measure => simp [intOf]; omega
      · have q62 : ((u.toNat : Int) == (c.toNat : Int)) = false := by
          rw [beq_eq_false_iff_ne]
          intro e
          exact h62 (UInt8.toNat_inj.1 (by omega))
        go_wp2_with fail
        go_roundw
        case rel => exact ⟨k + 1, m, p, cap, a', by omega, by omega, by omega, by go_num, rfl, rfl, hid (by rw [HT1.out, if_neg h62]; exact hm.out), hid (by rw [HT1.out, if_neg h62]; exact hp.out), hid (by rw [HT1.out, if_neg h62]; exact hown.out), hx⟩
        case measure => simp [intOf]; omega
    · obtain rfl : k = s.size := by omega
      have hown2 := hown.out
      have HP : Hid (s.extract p s.size = s.extract (cutC c s s.size).2 s.size) := hid (by rw [hp.out])
      go_wp2_with (at_builtin; refine wpList_push rfl _ _ 27 rfl El_str rfl [_] rfl rfl (by simp [Value.oneCell']) hown2 (by omega) (by unfold maxLen; omega) (by omega) ?_; intro a2 c3 w3 hown3 hb2; have HO := hid hown3; clear hown3 hown2)
      go_returns
      exact ⟨a2, c3, by rw [HSL.out, ← hm.out]; rfl, by rw [HSL.out, ← hm.out, HSP.out, strsV_append, ← HP.out]; exact HO.out, hx.thenBelow hb2 (by omega)⟩
end Go.Proofs.YtmohfdfjlgekaaaGreatDoor
