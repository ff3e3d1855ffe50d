/- Boards: transposed boards, a board with another cell, rows. Conditions stand at each. -/
import Derived.Test.YtmohfdfjlgekaaaGreatDoorMg1
namespace Go.Proofs.YtmohfdfjlgekaaaGreatDoor
set_option linter.unusedVariables false
set_option linter.unusedSimpArgs false
open Go Go.RowKit

def turnCol (n : Nat) (s : ByteArray) (c k : Nat) : List UInt8 := (List.range k).map fun r => bAt s (r * n + c)
def turnL (n : Nat) (s : ByteArray) (c : Nat) : List UInt8 := (List.range c).flatMap fun c => turnCol n s c n
theorem turnCol_succ (n : Nat) (s : ByteArray) (c k : Nat) : turnCol n s c (k + 1) = turnCol n s c k ++ [bAt s (k * n + c)] := by simp [turnCol, List.range_succ]
theorem turnL_succ (n : Nat) (s : ByteArray) (c : Nat) : turnL n s (c + 1) = turnL n s c ++ turnCol n s c n := by simp [turnL, List.range_succ]
theorem turnCol_length (n : Nat) (s : ByteArray) (c k : Nat) : (turnCol n s c k).length = k := by simp [turnCol]
theorem turnL_length (n : Nat) (s : ByteArray) (c : Nat) : (turnL n s c).length = c * n := by
  induction c with
  | zero => simp [turnL]
  | succ c ih => rw [turnL_succ, List.length_append, ih, turnCol_length, Nat.add_mul, Nat.one_mul]

set_option maxHeartbeats 1000000 in
theorem l11Turn_any (n : Nat) (s : ByteArray) (w : World) (h : s.size = n * n) (h1 : 5 ≤ n) (h2 : n ≤ 15) :
    Calls Tryz.prog 72 #[.int .i64 n, .string s] w (Ret (.string ⟨(turnL n s n).toArray⟩) w) := by
  have hn2 : n * n ≤ 15 * 15 := Nat.mul_le_mul h2 h2
  have hs225 : s.size ≤ 225 := by omega
  have H := hid h
  clear h
  go_enter Tryz.func72, Tryz.ntmps72
  go_wp2_with fail
  go_loopw [5, 6] (fun v i wr => ∃ (c cap : Nat) (a : Option Addr), c ≤ n ∧ i = .int .i64 c ∧ v = .slice a (c * n) cap ∧ Own wr (w.heap.size + 1) 5 1 a (c * n) cap (bytesV (turnL n s c)) ∧ Ext (w.alloc (.cells #[] 5)) wr) (fun _ i _ => n - (intOf i).toNat)
  case atStart => exact ⟨0, 0, some ⟨w.heap.size, 0, none⟩, by omega, rfl, by simp, by simpa [turnL, bytesV] using Own.empty _ _ _ _ _, Ext.refl _⟩
  case round =>
    obtain ⟨c, cap, a, hc, rfl, rfl, hown, hext⟩ := hrel
    have hsz := hext.size
    rw [World.size_alloc] at hsz
    by_cases hlt : c < n
    · go_wp2_with fail
      go_loopw [5, 7] (fun v i wr => ∃ (k cap : Nat) (a : Option Addr), k ≤ n ∧ i = .int .i64 k ∧ v = .slice a (c * n + k) cap ∧ Own wr (w.heap.size + 1) 5 1 a (c * n + k) cap (bytesV (turnL n s c ++ turnCol n s c k)) ∧ Ext (w.alloc (.cells #[] 5)) wr) (fun _ i _ => n - (intOf i).toNat)
      case atStart => exact ⟨0, cap, a, by omega, rfl, rfl, by simpa [turnCol] using hown, hext⟩
      case round =>
        clear hown hext hsz
        obtain ⟨k, cap, a, hk, rfl, rfl, hown, hext⟩ := hrel
        have hsz := hext.size
        rw [World.size_alloc] at hsz
        by_cases hlk : k < n
        · have hb : k * n + c < s.size := by
            rw [H.out]
            have : (k + 1) * n ≤ n * n := Nat.mul_le_mul_right n (by omega)
            rw [Nat.add_mul, Nat.one_mul] at this
            omega
          have hcn : c * n ≤ n * n := Nat.mul_le_mul_right n hc
          have hi1 : (0 : Int) ≤ (k : Int) * n + c := by
            have : (0 : Int) ≤ (k : Int) * n := Int.mul_nonneg (by omega) (by omega)
            omega
          have hi2 : (k : Int) * n + c < s.size := by
            rw [← Int.natCast_mul, ← Int.natCast_add]
            omega
          go_wp2_with (at_builtin; refine wpList_push rfl _ _ 22 rfl El_u8 rfl [_] rfl rfl (by simp [Value.oneCell']) hown (by omega) (by unfold maxLen; omega) (by omega) ?_; intro a' c' w' hown' hb')
          refine ⟨⟨k + 1, c', a', by omega, by go_num, rfl, ?_, ?_⟩, by simp [intOf]; omega⟩
          · rw [turnCol_succ, ← List.append_assoc, bytesV_append _ [_]]
            rw [show s[k * n + c] = bAt s (k * n + c) from bAt_eq s _ hb] at hown'
            exact hown'
          · exact hext.thenBelow hb' (by simp)
        · obtain rfl : k = n := by omega
          go_wp2_with fail
          refine ⟨⟨c + 1, cap, a, by omega, by go_num, by rw [Nat.add_mul, Nat.one_mul], ?_, hext⟩, by simp [intOf]; omega⟩
          rw [turnL_succ, Nat.add_mul, Nat.one_mul]
          exact hown
    · obtain rfl : c = n := by omega
      go_wp2_with (refine wpList_str rfl _ 22 9 rfl Tryz.underlying22 Tryz.underlying5 Tryz.underlying9 rfl (turnL_length _ _ _).symm hown.rd ?_)
      go_returns
      exact ⟨rfl, ((Ext.refl w).alloc _).trans hext⟩

def turnS (n : Nat) (s : ByteArray) : ByteArray := ⟨(turnL n s n).toArray⟩

/-- The k-th byte of the transposed ones. -/
theorem turnL_get (n : Nat) (s : ByteArray) (c r : Nat) (hc : c < n) (hr : r < n) : ∀ m, c < m → (turnL n s m).getD (c * n + r) 0 = bAt s (r * n + c)
  | 0, h => by omega
  | m + 1, h => by
    rw [turnL_succ]
    by_cases hm : c < m
    · have hlt : c * n + r < (turnL n s m).length := by
        rw [turnL_length]
        have : (c + 1) * n ≤ m * n := Nat.mul_le_mul_right n (by omega)
        rw [Nat.add_mul, Nat.one_mul] at this
        omega
      rw [List.getD_eq_getElem?_getD, List.getElem?_append_left hlt, ← List.getD_eq_getElem?_getD]
      exact turnL_get n s c r hc hr m hm
    · have : c = m := by omega
      subst this
      rw [List.getD_eq_getElem?_getD, List.getElem?_append_right (by rw [turnL_length]; omega), turnL_length, Nat.add_sub_cancel_left]
      simp [turnCol, hr]

/-- The transposed bytes by their places: s[(k % n) * n + k / n]. -/
theorem turnL_eq (n : Nat) (s : ByteArray) (h : 0 < n) : turnL n s n = (List.range (n * n)).map fun k => bAt s (k % n * n + k / n) := by
  apply List.ext_getElem
  · rw [turnL_length]; simp
  · intro k h1 h2
    rw [turnL_length] at h1
    have hc : k / n < n := Nat.div_lt_of_lt_mul h1
    have hr : k % n < n := Nat.mod_lt _ h
    have := turnL_get n s (k / n) (k % n) hc hr n hc
    rw [show k / n * n + k % n = k by rw [Nat.mul_comm]; exact Nat.div_add_mod k n] at this
    rw [List.getD_eq_getElem?_getD, List.getElem?_eq_getElem (by rw [turnL_length]; exact h1)] at this
    simpa using this

set_option maxHeartbeats 1000000 in
theorem transposed_any (n : Nat) (s : ByteArray) (w : World) (h : s.size = n * n) (h1 : 5 ≤ n) (h2 : n ≤ 15) :
    Calls Tryz.prog 67 #[.string s, .int .i64 n] w (Ret (.string (turnS n s)) w) := by
  have hn2 : n * n ≤ 15 * 15 := Nat.mul_le_mul h2 h2
  have hs225 : s.size ≤ 225 := by omega
  have H := hid h
  clear h
  have HG := hid (fun k (hk : k < n * n) => (⟨Nat.div_lt_of_lt_mul hk, Nat.mod_lt k (show 0 < n by omega)⟩ : k / n < n ∧ k % n < n))
  go_enter Tryz.func67, Tryz.ntmps67
  go_wp2_with (refine wpList_make1 rfl _ _ 22 rfl El_u8 rfl s.size rfl rfl rfl rfl (by omega) (by unfold maxLen; omega) ?_; intro wm hwr _ hx)
  go_loopw [14] (fun i wr => ∃ k : Nat, k ≤ s.size ∧ i = .int .i64 k ∧ Wr wr w.heap.size ((List.range s.size).map fun j => if j < k then .int .u8 (bAt s (j % n * n + j / n)).toNat else .int .u8 0) ∧ Ext w wr) (fun i _ => s.size - (intOf i).toNat)
  case atStart => exact ⟨0, by omega, rfl, by simpa [List.map_const'] using hwr, hx⟩
  case round =>
    clear hwr hx
    obtain ⟨k, hk, rfl, hwr, hx⟩ := hrel
    by_cases hlt : k < s.size
    · obtain ⟨g1, g2⟩ := HG.out k (by have := H.out; omega)
      have HW := hid (hwr.set k (by simpa using hlt) (.int .u8 (bAt s (k % n * n + k / n)).toNat))
      obtain ⟨f1, f2⟩ := hwr.fit k (by simpa using hlt)
      clear hwr
      have eq1 : (k : Int) / (n : Int) = ((k / n : Nat) : Int) := (Int.natCast_ediv k n).symm
      have eq2 : (k : Int) % (n : Int) = ((k % n : Nat) : Int) := (Int.natCast_emod k n).symm
      obtain ⟨q, hq⟩ : ∃ q, k / n = q := ⟨_, rfl⟩
      obtain ⟨r, hr⟩ : ∃ r, k % n = r := ⟨_, rfl⟩
      rw [hq] at g1 HW eq1
      rw [hr] at g2 HW eq2
      have HK := hid (And.intro hr hq)
      clear hr hq
      have hb : r * n + q < s.size := by
        rw [H.out]
        have : (r + 1) * n ≤ n * n := Nat.mul_le_mul_right n (by omega)
        rw [Nat.add_mul, Nat.one_mul] at this
        omega
      have z1 : (1 : Int) ≤ (n : Int) := by omega
      have z2 : (0 : Int) ≤ (r : Int) * n := Int.mul_nonneg (by omega) (by omega)
      have z3 : (r : Int) * n + q < s.size := by rw [← Int.natCast_mul, ← Int.natCast_add]; omega
      have z4 : (r : Int) * n ≤ 225 := by omega
      have HB := hid (bAt_eq s (r * n + q) hb)
      go_wp2_with fail
      go_quiet (fail)
      go_wp2_with fail
      go_roundw
      case rel =>
        refine ⟨k + 1, by omega, by go_num, ?_, hx.drewN _ |>.setCell (by simp) _⟩
        rw [HB.out]
        have e := set_map_range s.size k (fun j => .int .u8 (bAt s (j % n * n + j / n)).toNat) (.int .u8 0) hlt
        rw [HK.out.1, HK.out.2] at e
        have := HW.out
        rw [e] at this
        exact this.heap rfl
      case measure => simp [intOf]; omega
    · go_wp2_with (refine wpList_str rfl _ 22 9 rfl Tryz.underlying22 Tryz.underlying5 Tryz.underlying9 rfl (l := turnL n s n) (by rw [turnL_length, H.out]) ?_ ?_)
      · rw [turnL_eq n s (by omega), ← H.out]
        have e : bytesV ((List.range s.size).map fun k => bAt s (k % n * n + k / n)) = (List.range s.size).map fun j => if j < k then Value.int .u8 (bAt s (j % n * n + j / n)).toNat else .int .u8 0 := by
          rw [bytesV, List.map_map]
          apply List.map_congr_left
          intro j hj
          rw [if_pos (by have := List.mem_range.1 hj; omega)]
          rfl
        rw [e]
        exact hwr.rd
      · go_wp2_with fail
        go_returns
        exact ⟨rfl, hx⟩
end Go.Proofs.YtmohfdfjlgekaaaGreatDoor
