/- The squares of a play are on the board; the premium of a square, by the reference. Conditions stand at each. -/
import Derived.Test.YtcgedkpbobgkhaaGreatDoorCh12f
namespace Go.Proofs.YtcgedkpbobgkhaaGreatDoor
set_option linter.unusedVariables false
set_option linter.unusedSimpArgs false
open Go Go.RowKit
theorem playB_true {n : Int} {cs : ByteArray} {r c : Int} {d : Bool} {s : ByteArray} (h : playB n cs r c d s = true) : mainB s = true ∧ inRC n r c = true ∧ (if d then r else c) + (s.size : Int) ≤ n := by
  unfold playB at h
  simp only [Bool.and_eq_true, decide_eq_true_eq] at h
  exact ⟨h.1, h.2.1, h.2.2.1⟩
theorem sq_in {n r c : Int} {d : Bool} {m : Nat} (hr : inRC n r c = true) (hl : (if d then r else c) + (m : Int) ≤ n) (i : Nat) (hi : i < m) : inRC n (sqR r d i) (sqC c d i) = true := by
  have := plAt_in hr hl i hi
  cases d <;> exact this
set_option maxHeartbeats 400000 in
theorem l13Premium_any (b o : Nat) (n : Int) (p c : ByteArray) (i j : Int) (w : World) (hB : BdAt w b o n p c) (h1 : 5 ≤ n) (h2 : n ≤ 15) (hp : (p.size : Int) = n * n) (hr : inRC n i j = true) :
    Calls Tryz.prog 51 #[.pointer (some ⟨b, o, none⟩), .int .i64 i, .int .i64 j] w fun e w' => e = .returned (.int .u8 (sqAt n p i j)) ∧ Dr w w' := by
  obtain ⟨e1, e2, e3, e4, e5⟩ := sq_index h1 h2 hp hr
  obtain ⟨a1, a2, a3, a4⟩ := inRC_true hr
  have HZ := hid (sqAt_in hr e5)
  have q1 : IntKind.i64.wrap (i * n) = i * n := IntWalk.i64_in _ (by omega)
  have q2 : IntKind.i64.wrap (i * n + j) = i * n + j := IntWalk.i64_in _ (by omega)
  clear hp hr
  obtain ⟨c0, c1, c2⟩ := hB
  go_enter Tryz.func51, Tryz.ntmps51
  go_wp2_with fail
  go_quiet (fail)
  go_wp2_with fail
  go_returns
  exact ⟨ret_int HZ.out, _, rfl⟩
theorem Rd.one {w : World} {g : Nat} {v : Value} (h : w.cell? ⟨g, 0, none⟩ = some v) : Rd w (some ⟨g, 0, none⟩) [v] := fun j u hj => by
  obtain rfl : j = 0 := by
    have := (List.getElem?_eq_some_iff.mp hj).1
    simp at this
    omega
  simp at hj
  exact ⟨g, 0, rfl, by rw [← hj]; exact h⟩
end Go.Proofs.YtcgedkpbobgkhaaGreatDoor
