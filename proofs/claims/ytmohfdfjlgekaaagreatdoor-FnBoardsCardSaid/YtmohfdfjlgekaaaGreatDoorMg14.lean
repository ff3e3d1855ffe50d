/- Several texts in one: Strs2, Lex, Ch01, Ch05a, F6. Conditions: see each. -/
import Derived.Test.YtmohfdfjlgekaaaGreatDoorMg5
import Derived.Test.YtmohfdfjlgekaaaGreatDoorCh11a
import Derived.Sort.Walk0
import Derived.Test.YtmohfdfjlgekaaaGreatDoorBytes
section
namespace Go.Proofs.YtmohfdfjlgekaaaGreatDoor
set_option linter.unusedVariables false
set_option linter.unusedSimpArgs false
open Go Go.RowKit
theorem mixed_start (l : List ByteArray) (k : Nat) : ((List.range l.length).map fun q => if q < 0 then Value.string (markTx (k + q)) else .string (l.getD q ⟨#[]⟩)) = strsV l := by
  apply List.ext_getElem
  · simp [strsV]
  · intro j h1 h2
    simp at h1
    simp [strsV, h1]
theorem mixed_end (l : List ByteArray) (k : Nat) : ((List.range l.length).map fun q => if q < l.length then Value.string (markTx (k + q)) else .string (l.getD q ⟨#[]⟩)) = strsV (marksL l.length k) := by
  apply List.ext_getElem
  · simp [strsV, marksL]
  · intro j h1 h2
    simp at h1
    simp [strsV, marksL, h1]
end Go.Proofs.YtmohfdfjlgekaaaGreatDoor
end
section
namespace Go.Proofs.YtmohfdfjlgekaaaGreatDoor
set_option linter.unusedVariables false
set_option linter.unusedSimpArgs false
open Go Go.RowKit
abbrev lexV (a : Option Addr) (n c : Nat) : Value := .agg #[.slice a n c]
def szX (L : Int) (l : List ByteArray) : Int := if szL L l < 0 then -1 else szL L l
theorem szX_ok {L : Int} {l : List ByteArray} (h0 : 0 ≤ L) (h : ¬ szX L l < 0) : (l.length : Int) + sumL l ≤ L ∧ szX L l = L - l.length - sumL l := by
  unfold szX at *
  split at h
  · omega
  · rename_i hn
    rw [if_neg hn]
    exact szL_ok h0 hn
theorem Wr.other {w : World} {g b o : Nat} {xs : List Value} {u : Value} (h : Wr w g xs) (hb : b ≠ g) : Wr (w.setCell ⟨b, o, none⟩ u) g xs :=
  ⟨by simpa [World.setCell] using h.1, fun j v hj => by rw [World.cell?_setCell_other _ _ _ _ (by intro e; exact hb (congrArg Addr.block e))]; exact h.2.1 j v hj, fun j hj => by simpa using h.2.2 j hj⟩
/-- A lexicon comes back, whose row is the call's own. -/
def RetX (l : List ByteArray) (w : World) (e : Ending) (w' : World) : Prop := ∃ a c, e = .returned (lexV a l.length c) ∧ OwnR w' w.heap.size a (strsV l) ∧ Ext w w'
end Go.Proofs.YtmohfdfjlgekaaaGreatDoor
end
section
namespace Go.Proofs.YtmohfdfjlgekaaaGreatDoor
set_option linter.unusedVariables false
set_option linter.unusedSimpArgs false
open Go Go.RowKit

def wordOk (s : ByteArray) : Bool := decide (1 ≤ s.size ∧ s.size ≤ 12) && allB smallB s
def longOk (s : ByteArray) : Bool := decide (2 ≤ s.size) && wordOk s
theorem bytesV_at (s : ByteArray) (k : Nat) (h : k < s.size) : (bytesV s.data.toList)[k]? = some (.int .u8 s[k].toNat) := by
  have h' : k < s.data.size := h
  rw [bytesV_get, Array.getElem?_toList, Array.getElem?_eq_getElem h']
  rfl
end Go.Proofs.YtmohfdfjlgekaaaGreatDoor
end
section
namespace Go.Proofs.YtmohfdfjlgekaaaGreatDoor
set_option linter.unusedVariables false
set_option linter.unusedSimpArgs false
open Go Go.RowKit

/-- The word with a number. -/
def wAt (l : List ByteArray) (k : Nat) : ByteArray := l.getD k ⟨#[]⟩
theorem wAt_eq (l : List ByteArray) (k : Nat) (h : k < l.length) : l[k] = wAt l k := by simp [wAt, List.getD_eq_getElem?_getD, h]
theorem wAt_mem (l : List ByteArray) (k : Nat) (h : k < l.length) : wAt l k ∈ l := by rw [← wAt_eq l k h]; exact List.getElem_mem h
def lessB (p q : ByteArray) : Bool := Op.bytesLess p.toList q.toList
theorem less_not {p q : ByteArray} (h : Op.bytesLess p.toList q.toList = true) : Op.bytesLess q.toList p.toList = false ∧ (q.toList == p.toList) = false := by
  rw [Go.Proofs.bytesLess_eq, decide_eq_true_eq] at h
  refine ⟨?_, ?_⟩
  · rw [Go.Proofs.bytesLess_eq, decide_eq_false_iff_not]
    exact List.lt_asymm h
  · rw [beq_eq_false_iff_ne]
    intro e
    rw [e] at h
    exact List.lt_irrefl _ h
theorem less_or {p q : ByteArray} (h : Op.bytesLess p.toList q.toList = false) : (Op.bytesLess q.toList p.toList || q.toList == p.toList) = true := by
  rw [Go.Proofs.bytesLess_eq, decide_eq_false_iff_not] at h
  rw [Go.Proofs.bytesLess_eq, Bool.or_eq_true, decide_eq_true_eq, beq_iff_eq]
  rcases List.le_iff_lt_or_eq.1 (List.not_lt.1 h) with h | h
  · exact .inl h
  · exact .inr h
def incB (l : List ByteArray) : Bool := (List.range (l.length - 1)).all fun i => lessB (wAt l i) (wAt l (i + 1))
def lexOk (l : List ByteArray) : Bool := decide (l.length ≤ 200) && (incB l && l.all longOk)
theorem incB_yes {l : List ByteArray} (h : ∀ i, i + 1 < l.length → lessB (wAt l i) (wAt l (i + 1)) = true) : incB l = true := by
  unfold incB
  rw [List.all_eq_true]
  intro i hi
  exact h i (by have := List.mem_range.1 hi; omega)
theorem incB_no {l : List ByteArray} (i : Nat) (hi : i + 1 < l.length) (h : lessB (wAt l i) (wAt l (i + 1)) = false) : incB l = false := by
  unfold incB
  rw [List.all_eq_false]
  exact ⟨i, List.mem_range.2 (by omega), by simp [h]⟩
theorem allL_no {l : List ByteArray} (i : Nat) (hi : i < l.length) (h : longOk (wAt l i) = false) : l.all longOk = false := by
  rw [List.all_eq_false]
  exact ⟨wAt l i, wAt_mem l i hi, by simp [h]⟩
theorem allL_yes {l : List ByteArray} (h : ∀ i, i < l.length → longOk (wAt l i) = true) : l.all longOk = true := by
  rw [List.all_eq_true]
  intro x hx
  obtain ⟨i, hi, rfl⟩ := List.getElem_of_mem hx
  rw [wAt_eq l i hi]
  exact h i hi
/-- The cells, each by its word. -/
theorem Rd.word {w : World} {a : Option Addr} {l : List ByteArray} (h : Rd w a (strsV l)) (hn : 0 < l.length) : ∃ b o, a = some ⟨b, o, none⟩ ∧ ∀ k, k < l.length → w.cell? ⟨b, o + k, none⟩ = some (.string (wAt l k)) := by
  obtain ⟨b, o, ha, hc⟩ := h.str hn
  exact ⟨b, o, ha, fun k hk => by rw [hc k hk, wAt_eq l k hk]⟩

/-- A lexicon lies there. -/
def LxAt (w : World) (b o : Nat) (l : List ByteArray) : Prop := ∃ a c, w.cell? ⟨b, o, none⟩ = some (.slice a l.length c) ∧ Rd w a (strsV l)
theorem LxAt.ext {w w' : World} {b o : Nat} {l : List ByteArray} (h : LxAt w b o l) (k : Ext w w') : LxAt w' b o l := by
  obtain ⟨a, c, h1, h2⟩ := h
  exact ⟨a, c, k.cell h1, h2.ext k⟩
end Go.Proofs.YtmohfdfjlgekaaaGreatDoor
end
section
namespace Go.Proofs.YtmohfdfjlgekaaaGreatDoor
set_option linter.unusedVariables false
set_option linter.unusedSimpArgs false
open Go Go.RowKit
theorem f6big_any (a : Option Addr) (c : Nat) (l : List UInt8) (w : World) (hl : l.length ≤ maxLen) : Calls Tryz.prog 5 #[.slice a l.length c] w (Same (.bool (decide (4096 < l.length))) w) := by
  obtain ⟨m, hm⟩ : ∃ m, l.length = m := ⟨_, rfl⟩
  rw [hm] at hl ⊢
  unfold maxLen at hl
  clear hm
  by_cases h : 4096 < m
  · have h2 : (4096 : Int) < (m : Int) := by omega
    go_enter Tryz.func5, Tryz.ntmps5
    go_wp2_with fail
    go_returns
    exact ⟨ret_bool (by simp [h]), rfl⟩
  · have h2 : ¬ (4096 : Int) < (m : Int) := by omega
    go_enter Tryz.func5, Tryz.ntmps5
    go_wp2_with fail
    go_returns
    exact ⟨ret_bool (by simp [h]), rfl⟩
set_option maxHeartbeats 400000 in
theorem f6same_self (a b : Option Addr) (c d : Nat) (l : List ByteArray) (w : World) (h : Rd w a (strsV l)) (h' : Rd w b (strsV l)) (hl : l.length ≤ 1048576) :
    Calls Tryz.prog 11 #[.slice a l.length c, .slice b l.length d] w (Ret (.bool true) w) := by
  have HR := hid h
  have HS := hid h'
  clear h h'
  go_enter Tryz.func11, Tryz.ntmps11
  go_wp2_with fail
  go_loopw [5] (fun i wr => ∃ k : Nat, k ≤ l.length ∧ i = .int .i64 k ∧ Dr w wr) (fun i _ => l.length - (intOf i).toNat)
  case atStart => exact ⟨0, by omega, rfl, Dr.refl _⟩
  case round =>
    obtain ⟨k, hk, rfl, hD⟩ := hrel
    by_cases hlt : k < l.length
    · obtain ⟨b1, o1, rfl, hc⟩ := (HR.out.ext hD.ext).str (by omega)
      obtain ⟨b2, o2, rfl, hd⟩ := (HS.out.ext hD.ext).str (by omega)
      have hck := hc k hlt
      have hdk := hd k hlt
      clear hc hd
      obtain ⟨s, hs⟩ : ∃ s, l[k] = s := ⟨_, rfl⟩
      rw [hs] at hck hdk
      clear hs
      go_wp2_with fail
      go_quiet (fail)
      go_wp2_with fail
      go_roundw
      case rel => exact ⟨k + 1, by omega, by go_num, hD.trans ⟨_, rfl⟩⟩
      case measure => simp [intOf]; omega
    · go_wp2_with fail
      go_returns
      exact ⟨rfl, hD.ext⟩
/-- Whether a word is in a list. -/
def inL (l : List ByteArray) (s : ByteArray) : Bool := l.any fun x => x.toList == s.toList
theorem inL_iff {l : List ByteArray} {s : ByteArray} : inL l s = true ↔ s ∈ l := by
  unfold inL
  rw [List.any_eq_true]
  constructor
  · rintro ⟨x, hx, h⟩
    have : x = s := by
      rw [beq_iff_eq, ByteArray.toList_eq, ByteArray.toList_eq] at h
      exact ByteArray.ext (Array.toList_inj.1 h)
    rw [← this]
    exact hx
  · exact fun h => ⟨s, h, by simp⟩
theorem inL_yes {l : List ByteArray} {s : ByteArray} (k : Nat) (h : k < l.length) (he : ((wAt l k).toList == s.toList) = true) : inL l s = true := by
  unfold inL
  rw [List.any_eq_true]
  exact ⟨_, wAt_mem l k h, he⟩
theorem inL_no {l : List ByteArray} {s : ByteArray} (h : ∀ k, k < l.length → ((wAt l k).toList == s.toList) = false) : inL l s = false := by
  unfold inL
  rw [List.any_eq_false]
  intro x hx
  obtain ⟨i, hi, rfl⟩ := List.getElem_of_mem hx
  rw [wAt_eq l i hi, h i hi]
  decide
set_option maxHeartbeats 400000 in
theorem f6has_any (a : Option Addr) (c : Nat) (l : List ByteArray) (s : ByteArray) (w : World) (h : Rd w a (strsV l)) (hl : l.length ≤ 1048576) :
    Calls Tryz.prog 17 #[.slice a l.length c, .string s] w (Ret (.bool (inL l s)) w) := by
  have HR := hid h
  have HY := hid (@inL_yes l s)
  have HN := hid (@inL_no l s)
  clear h
  go_enter Tryz.func17, Tryz.ntmps17
  go_wp2_with fail
  go_loopw [5] (fun i wr => ∃ k : Nat, k ≤ l.length ∧ i = .int .i64 k ∧ Hid (∀ j, j < k → j < l.length → ((wAt l j).toList == s.toList) = false) ∧ wr = w) (fun i _ => l.length - (intOf i).toNat)
  case atStart => exact ⟨0, by omega, rfl, hid (fun j h _ => by omega), rfl⟩
  case round =>
    obtain ⟨k, hk, rfl, hall, rfl⟩ := hrel
    by_cases hlt : k < l.length
    · obtain ⟨b1, o1, rfl, hc⟩ := HR.out.word (by omega)
      have c0 := hc k hlt
      obtain ⟨x, hx⟩ : ∃ x, wAt l k = x := ⟨_, rfl⟩
      rw [hx] at c0
      have HX := hid hx
      obtain ⟨p0, hp0⟩ : ∃ p0, o1 + k = p0 := ⟨_, rfl⟩
      rw [hp0] at c0
      clear hc hx
      cases hq : (x.toList == s.toList)
      · have HQ := hid hq
        go_wp2_with fail
        go_roundw
        case rel => exact ⟨k + 1, by omega, by go_num, hid (fun j hj hjl => by
          by_cases hjk : j = k
          · subst hjk; rw [HX.out]; exact HQ.out
          · exact hall.out j (by omega) hjl), trivial⟩
        case measure => simp [intOf]; omega
      · have HQ := hid hq
        go_wp2_with fail
        go_returns
        exact ⟨ret_bool (HY.out k hlt (by rw [HX.out]; exact HQ.out)).symm, Ext.refl _⟩
    · have HZ := hid (HN.out (fun j hj => hall.out j (by omega) hj))
      go_wp2_with fail
      go_returns
      exact ⟨ret_bool HZ.out.symm, Ext.refl _⟩
end Go.Proofs.YtmohfdfjlgekaaaGreatDoor
end
