/- What the laws' own small functions compute: is it too long, are two lists the same, is it in a list. Conditions: at most 2^20 words. -/
import Derived.Test.YtmohfdfjlgekaaaGreatDoorMg8
import Derived.Test.YtmohfdfjlgekaaaGreatDoorBytes
namespace Go.Proofs.YtmohfdfjlgekaaaGreatDoor
set_option linter.unusedVariables false
set_option linter.unusedSimpArgs false
open Go Go.RowKit
theorem f6big_any (a : Option Addr) (c : Nat) (l : List UInt8) (w : World) (hl : l.length ≤ maxLen) : Calls Tryz.prog 5 #[.slice a l.length c] w (Same (.bool (decide (4096 < l.length))) w) := by
  obtain ⟨m, hm⟩ : ∃ m, l.length = m := ⟨_, rfl⟩
  rw [hm] at hl ⊢
  unfold maxLen at hl
  clear hm
  by_cases h : 4096 < m
  · have h2 : (4096 : Int) < (m : Int) := by omega
    go_enter Tryz.func5, Tryz.ntmps5
    go_wp2_with fail
    go_returns
    exact ⟨ret_bool (by simp [h]), rfl⟩
  · have h2 : ¬ (4096 : Int) < (m : Int) := by omega
    go_enter Tryz.func5, Tryz.ntmps5
    go_wp2_with fail
    go_returns
    exact ⟨ret_bool (by simp [h]), rfl⟩
set_option maxHeartbeats 400000 in
theorem f6same_self (a b : Option Addr) (c d : Nat) (l : List ByteArray) (w : World) (h : Rd w a (strsV l)) (h' : Rd w b (strsV l)) (hl : l.length ≤ 1048576) :
    Calls Tryz.prog 11 #[.slice a l.length c, .slice b l.length d] w (Ret (.bool true) w) := by
  have HR := hid h
  have HS := hid h'
  clear h h'
  go_enter Tryz.func11, Tryz.ntmps11
  go_wp2_with fail
  go_loopw [5] (fun i wr => ∃ k : Nat, k ≤ l.length ∧ i = .int .i64 k ∧ Dr w wr) (fun i _ => l.length - (intOf i).toNat)
  case atStart => exact ⟨0, by omega, rfl, Dr.refl _⟩
  case round =>
    obtain ⟨k, hk, rfl, hD⟩ := hrel
    by_cases hlt : k < l.length
    · obtain ⟨b1, o1, rfl, hc⟩ := (HR.out.ext hD.ext).str (by omega)
      obtain ⟨b2, o2, rfl, hd⟩ := (HS.out.ext hD.ext).str (by omega)
      have hck := hc k hlt
      have hdk := hd k hlt
      clear hc hd
      obtain ⟨s, hs⟩ : ∃ s, l[k] = s := ⟨_, rfl⟩
      rw [hs] at hck hdk
      clear hs
      go_wp2_with fail
      go_quiet (fail)
      go_wp2_with fail
      go_roundw
      case rel => exact ⟨k + 1, by omega, by go_num, hD.trans ⟨_, rfl⟩⟩
      case measure => simp [intOf]; omega
    · go_wp2_with fail
      go_returns
      exact ⟨rfl, hD.ext⟩
/-- Whether a word is in a list. -/
def inL (l : List ByteArray) (s : ByteArray) : Bool := l.any fun x => x.toList == s.toList
theorem inL_iff {l : List ByteArray} {s : ByteArray} : inL l s = true ↔ s ∈ l := by
  unfold inL
  rw [List.any_eq_true]
  constructor
  · rintro ⟨x, hx, h⟩
    have : x = s := by
      rw [beq_iff_eq, ByteArray.toList_eq, ByteArray.toList_eq] at h
      exact ByteArray.ext (Array.toList_inj.1 h)
    rw [← this]
    exact hx
  · exact fun h => ⟨s, h, by simp⟩
theorem inL_yes {l : List ByteArray} {s : ByteArray} (k : Nat) (h : k < l.length) (he : ((wAt l k).toList == s.toList) = true) : inL l s = true := by
  unfold inL
  rw [List.any_eq_true]
  exact ⟨_, wAt_mem l k h, he⟩
theorem inL_no {l : List ByteArray} {s : ByteArray} (h : ∀ k, k < l.length → ((wAt l k).toList == s.toList) = false) : inL l s = false := by
  unfold inL
  rw [List.any_eq_false]
  intro x hx
  obtain ⟨i, hi, rfl⟩ := List.getElem_of_mem hx
  rw [wAt_eq l i hi, h i hi]
  decide
set_option maxHeartbeats 400000 in
theorem f6has_any (a : Option Addr) (c : Nat) (l : List ByteArray) (s : ByteArray) (w : World) (h : Rd w a (strsV l)) (hl : l.length ≤ 1048576) :
    Calls Tryz.prog 17 #[.slice a l.length c, .string s] w (Ret (.bool (inL l s)) w) := by
  have HR := hid h
  have HY := hid (@inL_yes l s)
  have HN := hid (@inL_no l s)
  clear h
  go_enter Tryz.func17, Tryz.ntmps17
  go_wp2_with fail
  go_loopw [5] (fun i wr => ∃ k : Nat, k ≤ l.length ∧ i = .int .i64 k ∧ Hid (∀ j, j < k → j < l.length → ((wAt l j).toList == s.toList) = false) ∧ wr = w) (fun i _ => l.length - (intOf i).toNat)
  case atStart => exact ⟨0, by omega, rfl, hid (fun j h _ => by omega), rfl⟩
  case round =>
    obtain ⟨k, hk, rfl, hall, rfl⟩ := hrel
    by_cases hlt : k < l.length
    · obtain ⟨b1, o1, rfl, hc⟩ := HR.out.word (by omega)
      have c0 := hc k hlt
      obtain ⟨x, hx⟩ : ∃ x, wAt l k = x := ⟨_, rfl⟩
      rw [hx] at c0
      have HX := hid hx
      obtain ⟨p0, hp0⟩ : ∃ p0, o1 + k = p0 := ⟨_, rfl⟩
      rw [hp0] at c0
      clear hc hx
      cases hq : (x.toList == s.toList)
      · have HQ := hid hq
        go_wp2_with fail
        go_roundw
        case rel => exact ⟨k + 1, by omega, by go_num, hid (fun j hj hjl => by
          by_cases hjk : j = k
          · subst hjk; rw [HX.out]; exact HQ.out
          · exact hall.out j (by omega) hjl), trivial⟩
        case measure => simp [intOf]; omega
      · have HQ := hid hq
        go_wp2_with fail
        go_returns
        exact ⟨ret_bool (HY.out k hlt (by rw [HX.out]; exact HQ.out)).symm, Ext.refl _⟩
    · have HZ := hid (HN.out (fun j hj => hall.out j (by omega) hj))
      go_wp2_with fail
      go_returns
      exact ⟨ret_bool HZ.out.symm, Ext.refl _⟩
end Go.Proofs.YtmohfdfjlgekaaaGreatDoor
