/- Lists of whole numbers in memory: what the laws' own functions on them compute. Conditions: at most 2^20 elements. -/
import Derived.Test.YtcgedkpbobgkhaaGreatDoorStrs
namespace Go.Proofs.YtcgedkpbobgkhaaGreatDoor
set_option linter.unusedVariables false
set_option linter.unusedSimpArgs false
open Go Go.RowKit
def intsV (l : List Int) : List Value := l.map fun z => .int .i64 z
theorem intsV_length (l : List Int) : (intsV l).length = l.length := by simp [intsV]
theorem intsV_get (l : List Int) (k : Nat) (h : k < l.length) : (intsV l)[k]? = some (.int .i64 l[k]) := by simp [intsV, h]
theorem Rd.int {w : World} {a : Option Addr} {l : List Int} (h : Rd w a (intsV l)) (hn : 0 < l.length) : ∃ b o, a = some ⟨b, o, none⟩ ∧ ∀ k (hk : k < l.length), w.cell? ⟨b, o + k, none⟩ = some (.int .i64 l[k]) := by
  obtain ⟨b, o, ha, hc⟩ := h.at (by rw [intsV_length]; exact hn)
  exact ⟨b, o, ha, fun k hk => hc k _ (intsV_get l k hk)⟩
theorem El_int64 : El Tryz.prog 22 2 (.int .i64 0) 1 8 := by
  obtain ⟨i, h1, h2, h3, h4⟩ := info_parts (show (Tryz.prog.info? 2).map (fun i => (i.zero, i.size, i.bytes)) = some (some (.int .i64 0), 1, 8) by kernel_rfl)
  exact ⟨Tryz.underlying22, ⟨i, h1, h2, h3, h4⟩, rfl, by decide⟩
set_option maxHeartbeats 400000 in
theorem toInt64S_any (a : Option Addr) (c : Nat) (l : List Int) (w : World) (h : Rd w a (intsV l)) (hl : l.length ≤ 1048576) :
    Calls Tryz.prog 22 #[.slice a l.length c] w (RetL (intsV l) w) := by
  have HR := hid h
  clear h
  go_enter Tryz.func22, Tryz.ntmps22
  go_wp2_with (refine wpList_make1 rfl _ _ 22 rfl El_int64 rfl l.length rfl rfl rfl rfl (by omega) (by unfold maxLen; omega) ?_; intro wm hwr _ hx)
  go_loopw [4] (fun i wr => ∃ k : Nat, k ≤ l.length ∧ i = .int .i64 k ∧ Wr wr w.heap.size ((List.range l.length).map fun j => if j < k then .int .i64 (l.getD j 0) else .int .i64 0) ∧ Ext w wr) (fun i _ => l.length - (intOf i).toNat)
  case atStart => exact ⟨0, by omega, rfl, by simpa [List.map_const'] using hwr, hx⟩
  case round =>
    clear hwr hx
    obtain ⟨k, hk, rfl, hwr, hx⟩ := hrel
    by_cases hlt : k < l.length
    · obtain ⟨b, o, rfl, hc⟩ := (HR.out.ext hx).int (by omega)
      have hck := hc k hlt
      have HS := hid (show (Value.int .i64 (l.getD k 0)) = .int .i64 l[k] by rw [List.getD_eq_getElem?_getD, List.getElem?_eq_getElem hlt]; rfl)
      have HW := hid (hwr.set k (by simpa using hlt) (.int .i64 (l.getD k 0)))
      obtain ⟨f1, f2⟩ := hwr.fit k (by simpa using hlt)
      clear hwr hc
      obtain ⟨s, hs⟩ : ∃ s, l[k] = s := ⟨_, rfl⟩
      rw [hs] at hck HS
      clear hs
      go_wp2_with fail
      go_roundw
      case rel =>
        refine ⟨k + 1, by omega, by go_num, ?_, hx.setCell (by simp) _⟩
        have e := set_map_range l.length k (fun j => .int .i64 (l.getD j 0)) (.int .i64 0) hlt
        have := HW.out
        rw [e, HS.out] at this
        exact this
      case measure => simp [intOf]; omega
    · obtain rfl : k = l.length := by omega
      have HW := hid hwr
      clear hwr
      go_wp2_with fail
      go_returns
      refine ⟨some ⟨w.heap.size, 0, none⟩, l.length, by rw [intsV_length]; rfl, ?_, hx⟩
      have e : (List.range l.length).map (fun j => if j < l.length then Value.int .i64 (l.getD j 0) else .int .i64 0) = intsV l := by
        apply List.ext_getElem
        · simp [intsV]
        · intro j h1 h2
          simp at h1
          simp [intsV, h1]
      have := HW.out
      rw [e] at this
      exact .inr ⟨_, rfl, Nat.le_refl _, this⟩
def szN (L : Int) (l : List Int) : Int := if L < l.length then -1 else L - l.length
theorem szInt64S_any (a : Option Addr) (c : Nat) (l : List Int) (L : Int) (w : World) (hl : l.length ≤ maxLen) (h0 : 0 ≤ L) (h1 : L ≤ 1048576) :
    Calls Tryz.prog 17 #[.slice a l.length c, .int .i64 L] w (Same (.int .i64 (szN L l)) w) := by
  unfold maxLen at hl
  by_cases hn : L < l.length
  · have h2 : L - l.length < 0 := by omega
    have HN : Hid (szN L l = -1) := hid (if_pos hn)
    go_enter Tryz.func17, Tryz.ntmps17
    go_wp2_with fail
    go_returns
    exact ⟨ret_int HN.out.symm, rfl⟩
  · have h2 : ¬ L - l.length < 0 := by omega
    have HN : Hid (szN L l = L - l.length) := hid (if_neg hn)
    go_enter Tryz.func17, Tryz.ntmps17
    go_wp2_with fail
    go_returns
    exact ⟨ret_int HN.out.symm, rfl⟩
set_option maxHeartbeats 400000 in
theorem eqInt64S_self (a b : Option Addr) (c d : Nat) (l : List Int) (w : World) (h : Rd w a (intsV l)) (h' : Rd w b (intsV l)) (hl : l.length ≤ 1048576) :
    Calls Tryz.prog 12 #[.slice a l.length c, .slice b l.length d] w fun e w' => e = .returned (.bool true) ∧ Dr w w' := by
  have HR := hid h
  have HS := hid h'
  clear h h'
  go_enter Tryz.func12, Tryz.ntmps12
  go_wp2_with fail
  go_loopw [5] (fun i wr => ∃ k : Nat, k ≤ l.length ∧ i = .int .i64 k ∧ Dr w wr) (fun i _ => l.length - (intOf i).toNat)
  case atStart => exact ⟨0, by omega, rfl, Dr.refl _⟩
  case round =>
    obtain ⟨k, hk, rfl, hD⟩ := hrel
    by_cases hlt : k < l.length
    · obtain ⟨b1, o1, rfl, hc⟩ := (HR.out.ext hD.ext).int (by omega)
      obtain ⟨b2, o2, rfl, hd⟩ := (HS.out.ext hD.ext).int (by omega)
      have hck := hc k hlt
      have hdk := hd k hlt
      clear hc hd
      obtain ⟨s, hs⟩ : ∃ s, l[k] = s := ⟨_, rfl⟩
      rw [hs] at hck hdk
      clear hs
      go_wp2_with fail
      go_quiet (fail)
      go_wp2_with fail
      go_roundw
      case rel => exact ⟨k + 1, by omega, by go_num, hD.trans ⟨_, rfl⟩⟩
      case measure => simp [intOf]; omega
    · go_wp2_with fail
      go_returns
      exact ⟨rfl, hD⟩
end Go.Proofs.YtcgedkpbobgkhaaGreatDoor
