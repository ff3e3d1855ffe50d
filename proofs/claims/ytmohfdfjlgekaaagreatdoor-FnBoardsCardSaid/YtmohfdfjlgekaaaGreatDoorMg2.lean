/- Several texts in one: StrV, Ch11f. Conditions: see each. -/
import Derived.Test.YtmohfdfjlgekaaaGreatDoorBytes
import Derived.Test.YtmohfdfjlgekaaaGreatDoorCh11e
section
namespace Go.Proofs.YtmohfdfjlgekaaaGreatDoor
set_option linter.unusedVariables false
set_option linter.unusedSimpArgs false
open Go Go.RowKit
theorem El_str : El Tryz.prog 27 9 (.string ⟨#[]⟩) 1 16 := by
  obtain ⟨i, h1, h2, h3, h4⟩ := info_parts (show (Tryz.prog.info? 9).map (fun i => (i.zero, i.size, i.bytes)) = some (some (.string ⟨#[]⟩), 1, 16) by kernel_rfl)
  exact ⟨Tryz.underlying27, ⟨i, h1, h2, h3, h4⟩, rfl, by decide⟩
def strsV (l : List ByteArray) : List Value := l.map Value.string
theorem strsV_length (l : List ByteArray) : (strsV l).length = l.length := by simp [strsV]
theorem strsV_append (l r : List ByteArray) : strsV (l ++ r) = strsV l ++ strsV r := by simp [strsV]
end Go.Proofs.YtmohfdfjlgekaaaGreatDoor
end
section
namespace Go.Proofs.YtmohfdfjlgekaaaGreatDoor
set_option linter.unusedVariables false
set_option linter.unusedSimpArgs false
open Go Go.RowKit


/-- A slice of the call's own comes back, which reads as these strings. -/
def RetStrs (l : List ByteArray) (w : World) (e : Ending) (w' : World) : Prop := ∃ a c, e = .returned (.slice a l.length c) ∧ Own w' w.heap.size 9 1 a l.length c (strsV l) ∧ Ext w w'

def rowAt (n : Nat) (s : ByteArray) (k : Nat) : ByteArray := s.extract (k * n) (k * n + n)
def rowsL (n : Nat) (s : ByteArray) (k : Nat) : List ByteArray := (List.range k).map (rowAt n s)
theorem rowsL_succ (n : Nat) (s : ByteArray) (k : Nat) : rowsL n s (k + 1) = rowsL n s k ++ [rowAt n s k] := by simp [rowsL, List.range_succ]
theorem rowsL_length (n : Nat) (s : ByteArray) (k : Nat) : (rowsL n s k).length = k := by simp [rowsL]

set_option maxHeartbeats 1000000 in
theorem rows_any (n : Nat) (p c s : ByteArray) (w : World) (hs : s.size = n * n) (h1 : 5 ≤ n) (h2 : n ≤ 15) :
    Calls Tryz.prog 30 #[boardV n p c, .string s] w (RetStrs (rowsL n s n) w) := by
  have hn2 : n * n ≤ 15 * 15 := Nat.mul_le_mul h2 h2
  have hs225 : s.size ≤ 225 := by omega
  have H := hid hs
  clear hs
  unfold boardV
  go_enter Tryz.func30, Tryz.ntmps30
  go_wp2_with fail
  go_loopw [5, 6] (fun v i wr => ∃ (k cap : Nat) (a : Option Addr), k ≤ n ∧ i = .int .i64 k ∧ v = .slice a k cap ∧ Own wr (w.heap.size + 2) 9 1 a k cap (strsV (rowsL n s k)) ∧ Ext ((w.alloc (.cells #[.int .i64 n, .string p, .string c] 25)).alloc (.cells #[] 9)) wr) (fun _ i _ => n - (intOf i).toNat)
  case atStart => exact ⟨0, 0, some ⟨w.heap.size + 1, 0, none⟩, by omega, rfl, rfl, Own.empty _ _ _ _ _, Ext.refl _⟩
  case round =>
    obtain ⟨k, cap, a, hk, rfl, rfl, hown, hext⟩ := hrel
    have hsz := hext.size
    simp only [World.size_alloc] at hsz
    have b0 := hext.cell (b := w.heap.size) (o := 0) (v := .int .i64 n) (by simp)
    by_cases hlt : k < n
    · have hb1 : k * n + n ≤ s.size := by
        rw [H.out]
        have : (k + 1) * n ≤ n * n := Nat.mul_le_mul_right n (by omega)
        rw [Nat.add_mul, Nat.one_mul] at this
        omega
      have z1 : (0 : Int) ≤ (k : Int) * n := Int.mul_nonneg (by omega) (by omega)
      have z2 : (k : Int) * n + n ≤ s.size := by rw [← Int.natCast_mul, ← Int.natCast_add]; omega
      have z3 : ((k : Int) + 1) * n = (k : Int) * n + n := by rw [Int.add_mul, Int.one_mul]
      go_wp2_with (at_builtin; refine wpList_push rfl _ _ 27 rfl El_str rfl [_] rfl rfl (by simp [Value.oneCell']) hown (by omega) (by unfold maxLen; omega) (by omega) ?_; intro a' c' w' hown' hb')
      refine ⟨⟨k + 1, c', a', by omega, by go_num, rfl, ?_, hext.thenBelow hb' (by simp)⟩, by simp [intOf]; omega⟩
      rw [rowsL_succ, strsV_append]
      exact hown'
    · obtain rfl : k = n := by omega
      go_wp2_with fail
      go_returns
      refine ⟨a, cap, ?_, ?_, (((Ext.refl w).alloc _).alloc _).trans hext⟩
      · rw [rowsL_length]; rfl
      · rw [rowsL_length]; exact hown.mono (by omega)
set_option maxHeartbeats 400000 in
theorem l11Line_any (b o : Nat) (n : Nat) (p c : ByteArray) (k : Nat) (w : World) (hB : BdAt w b o n p c) (h1 : 5 ≤ n) (h2 : n ≤ 15) (hc : c.size = n * n) (hk : k < n) :
    Calls Tryz.prog 73 #[.pointer (some ⟨b, o, none⟩), .int .i64 k] w fun e w' => e = .returned (.string (rowAt n c k)) ∧ Dr w w' := by
  obtain ⟨c0, c1, c2⟩ := hB
  have hn2 : n * n ≤ 15 * 15 := Nat.mul_le_mul h2 h2
  have hb1 : k * n + n ≤ c.size := by
    rw [hc]
    have : (k + 1) * n ≤ n * n := Nat.mul_le_mul_right n (by omega)
    rw [Nat.add_mul, Nat.one_mul] at this
    omega
  have z1 : (0 : Int) ≤ (k : Int) * n := Int.mul_nonneg (by omega) (by omega)
  have z2 : (k : Int) * n + n ≤ c.size := by rw [← Int.natCast_mul, ← Int.natCast_add]; omega
  have z3 : ((k : Int) + 1) * n = (k : Int) * n + n := by rw [Int.add_mul, Int.one_mul]
  have z4 : c.size ≤ 225 := by omega
  have q1 : IntKind.i64.wrap ((k : Int) * n) = (k : Int) * n := IntWalk.i64_in _ (by omega)
  have q2 : IntKind.i64.wrap ((k : Int) * n + n) = (k : Int) * n + n := IntWalk.i64_in _ (by omega)
  have q3 : IntKind.i64.wrap ((k : Int) + 1) = (k : Int) + 1 := IntWalk.i64_in _ (by omega)
  clear hc
  go_enter Tryz.func73, Tryz.ntmps73
  go_wp2_with fail
  go_quiet (fail)
  go_wp2_with fail
  go_returns
  exact ⟨rfl, _, rfl⟩

def noS : ByteArray := ⟨#[]⟩
def cellAtR (n : Int) (p c : ByteArray) (i j : Int) : Int := if okB n p c then sqAt n c i j else 0
def premAtR (n : Int) (p c : ByteArray) (i j : Int) : Int := if okB n p c then sqAt n p i j else 0
def setCellV (n : Int) (p c : ByteArray) (i j x : Int) : Value :=
  if okB n p c then if inRC n i j then if cellB x then .tuple #[boardV n p (setS c (i * n + j).toNat x), .int .i64 0] else .tuple #[boardV 0 noS noS, .int .i64 7] else .tuple #[boardV 0 noS noS, .int .i64 2] else .tuple #[boardV 0 noS noS, .int .i64 1]
def transV (n : Int) (p c : ByteArray) : Value := if okB n p c then .tuple #[boardV n (turnS n.toNat p) (turnS n.toNat c), .int .i64 0] else .tuple #[boardV 0 noS noS, .int .i64 1]

theorem nat_of {n : Int} (h : 5 ≤ n) : ∃ m : Nat, n = m := ⟨n.toNat, by omega⟩

end Go.Proofs.YtmohfdfjlgekaaaGreatDoor
end
