/- Whether a letter lies on a square, by both. Conditions stand at each. -/
import Derived.Test.YtcgedkpbobgkhaaGreatDoorCh12b
namespace Go.Proofs.YtcgedkpbobgkhaaGreatDoor
set_option linter.unusedVariables false
set_option linter.unusedSimpArgs false
open Go Go.RowKit
set_option maxHeartbeats 400000 in
theorem letter_any (n : Int) (p c : ByteArray) (i j : Int) (w : World) (h1 : 5 ≤ n) (h2 : n ≤ 15) (hc : (c.size : Int) = n * n) :
    Calls Tryz.prog 64 #[boardV n p c, .int .i64 i, .int .i64 j] w (Ret (.bool (letB (sqAt n c i j))) w) := by
  have HC := hid (fun w => cell_any n p c i j w h1 h2 hc)
  clear hc
  obtain ⟨x, hx⟩ : ∃ x, sqAt n c i j = x := ⟨_, rfl⟩
  rw [hx] at HC ⊢
  clear hx
  have HL : Hid (letB x = (decide (x ≠ 0) && decide (x ≠ 46))) := hid rfl
  by_cases a0 : x = 0
  · subst a0
    go_enter Tryz.func64, Tryz.ntmps64
    go_wp2_with fail
    refine (HC.out _).mono ?_
    rintro e w1 ⟨rfl, hx⟩
    go_wp2_with fail
    go_returns
    exact ⟨rfl, ((Ext.refl w).alloc _).trans hx⟩
  · by_cases a1 : x = 46
    · subst a1
      go_enter Tryz.func64, Tryz.ntmps64
      go_wp2_with fail
      refine (HC.out _).mono ?_
      rintro e w1 ⟨rfl, hx⟩
      go_wp2_with fail
      go_returns
      exact ⟨rfl, ((Ext.refl w).alloc _).trans hx⟩
    · have q0 : (x != 0) = true := by simpa using a0
      have q1 : (x != 46) = true := by simpa using a1
      have A := hid (And.intro a0 a1)
      clear a0 a1
      go_enter Tryz.func64, Tryz.ntmps64
      go_wp2_with fail
      refine (HC.out _).mono ?_
      rintro e w1 ⟨rfl, hx⟩
      go_wp2_with fail
      go_returns
      exact ⟨ret_bool (by rw [HL.out]; simp [A.out.1, A.out.2]), ((Ext.refl w).alloc _).trans hx⟩
set_option maxHeartbeats 400000 in
theorem l11Full_any (b o : Nat) (n : Int) (p c : ByteArray) (i j : Int) (w : World) (hB : BdAt w b o n p c) (h1 : 5 ≤ n) (h2 : n ≤ 15) (hc : (c.size : Int) = n * n) :
    Calls Tryz.prog 49 #[.pointer (some ⟨b, o, none⟩), .int .i64 i, .int .i64 j] w fun e w' => e = .returned (.bool (inRC n i j && decide (sqAt n c i j ≠ 46))) ∧ Dr w w' := by
  have HB := hid hB
  have HC := hid hc
  clear hB hc
  go_enter Tryz.func49, Tryz.ntmps49
  go_wp2_with fail
  refine (l11In_any b o n p c i j _ HB.out h1 h2).mono ?_
  rintro e w1 ⟨rfl, rfl⟩
  cases hr : inRC n i j
  · have HR := hid hr
    clear hr
    go_wp2_with fail
    go_returns
    exact ⟨ret_bool (by rw [HR.out]; rfl), Dr.refl _⟩
  · have HR := hid hr
    clear hr
    go_wp2_with fail
    refine (l11At_any b o n p c i j _ HB.out h1 h2 HC.out HR.out).mono ?_
    rintro e w1 ⟨rfl, hD⟩
    obtain ⟨x, hx⟩ : ∃ x, sqAt n c i j = x := ⟨_, rfl⟩
    rw [hx]
    go_wp2_with fail
    go_returns
    exact ⟨ret_bool (by rw [HR.out]; simp [hx]; rfl), hD⟩
end Go.Proofs.YtcgedkpbobgkhaaGreatDoor
