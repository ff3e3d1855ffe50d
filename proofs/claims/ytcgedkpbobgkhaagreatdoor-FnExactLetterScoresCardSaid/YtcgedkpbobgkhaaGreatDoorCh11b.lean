/- Boards: valid boards, squares, transposed boards. Conditions stand at each. -/
import Derived.Test.YtcgedkpbobgkhaaGreatDoorCh11a
namespace Go.Proofs.YtcgedkpbobgkhaaGreatDoor
set_option linter.unusedVariables false
set_option linter.unusedSimpArgs false
open Go Go.RowKit

abbrev boardV (n : Int) (p c : ByteArray) : Value := .agg #[.int .i64 n, .string p, .string c]
/-- A board lies at an address. -/
def BdAt (w : World) (b o : Nat) (n : Int) (p c : ByteArray) : Prop := w.cell? ⟨b, o, none⟩ = some (.int .i64 n) ∧ w.cell? ⟨b, o + 1, none⟩ = some (.string p) ∧ w.cell? ⟨b, o + 2, none⟩ = some (.string c)
theorem BdAt.ext {w w' : World} {b o : Nat} {n : Int} {p c : ByteArray} (h : BdAt w b o n p c) (k : Ext w w') : BdAt w' b o n p c := ⟨k.cell h.1, k.cell h.2.1, k.cell h.2.2⟩

def okB (n : Int) (p c : ByteArray) : Bool := inB n 5 15 && (decide ((p.size : Int) = n * n) && (decide ((c.size : Int) = n * n) && (allB premB p && allB cellB c)))

theorem wrap_sq {n : Int} (h1 : 5 ≤ n) (h2 : n ≤ 15) : IntKind.i64.wrap (n * n) = n * n := by
  apply IntWalk.i64_in
  have : n * n ≤ 15 * 15 := Int.mul_le_mul h2 h2 (by omega) (by omega)
  have : 0 ≤ n * n := Int.mul_nonneg (by omega) (by omega)
  omega
theorem sq_le {n : Int} (h1 : 5 ≤ n) (h2 : n ≤ 15) : 0 ≤ n * n ∧ n * n ≤ 225 := by
  have : n * n ≤ 15 * 15 := Int.mul_le_mul h2 h2 (by omega) (by omega)
  have : 0 ≤ n * n := Int.mul_nonneg (by omega) (by omega)
  omega
theorem inB_true {x lo hi : Int} (h : inB x lo hi = true) : lo ≤ x ∧ x ≤ hi := by simpa [inB] using h

set_option maxHeartbeats 1000000 in
theorem l11Ok_any (b o : Nat) (n : Int) (p c : ByteArray) (w : World) (hB : BdAt w b o n p c) (hp : p.size ≤ 1048576) (_hc : c.size ≤ 1048576) :
    Calls Tryz.prog 27 #[.pointer (some ⟨b, o, none⟩)] w fun e w' => e = .returned (.bool (okB n p c)) ∧ Dr w w' := by
  have H : Hid (okB n p c = (inB n 5 15 && (decide ((p.size : Int) = n * n) && (decide ((c.size : Int) = n * n) && (allB premB p && allB cellB c))))) := hid rfl
  obtain ⟨h0, h1, h2⟩ := hB
  cases hs : inB n 5 15
  · go_enter Tryz.func27, Tryz.ntmps27
    go_wp2_with fail
    go_quiet ((go_at_call 44; exact Calls.quiet_of_same ((l11Size_any _ _).mono fun _ _ h => ⟨h.1, h.2.symm⟩)))
    go_wp2_with fail
    go_returns
    exact ⟨ret_bool (by rw [H.out, hs]; rfl), _, rfl⟩
  · obtain ⟨hb1, hb2⟩ := inB_true hs
    have hm := wrap_sq hb1 hb2
    have HS := sq_le hb1 hb2
    by_cases hq : (p.size : Int) = n * n
    · by_cases hr : (c.size : Int) = n * n
      · have hq' : ((p.size : Int) != n * n) = false := by simp [hq]
        have hr' : ((c.size : Int) != n * n) = false := by simp [hr]
        have e1 : p.size = c.size := by omega
        have HQ := hid hq
        have HR := hid hr
        have E1 := hid e1
        have HN := hid (allB_no cellB c)
        have HNp := hid (allB_no premB p)
        have HY := hid (allB_yes cellB c)
        have HYp := hid (allB_yes premB p)
        clear hq hr e1
        go_enter Tryz.func27, Tryz.ntmps27
        go_wp2_with fail
        go_quiet ((go_at_call 44; exact Calls.quiet_of_same ((l11Size_any _ _).mono fun _ _ h => ⟨h.1, h.2.symm⟩)))
        go_wp2_with fail
        have Hs := hid hs
        clear hs
        go_loop [3] (fun i => ∃ k : Nat, k ≤ c.size ∧ i = .int .i64 k ∧ Hid (∀ j (hj : j < c.size) (hj' : j < p.size), j < k → cellB (c[j].toNat : Int) = true ∧ premB (p[j].toNat : Int) = true)) (fun i => c.size - (intOf i).toNat)
        case atStart => exact ⟨0, Nat.zero_le _, rfl, hid (fun j _ _ h => by omega)⟩
        case round =>
          obtain ⟨k, hk, rfl, hall⟩ := hrel
          by_cases hlt : k < c.size
          · have hlp : k < p.size := by have := E1.out; omega
            cases hcb : cellB (c[k].toNat : Int)
            · have HC := hid hcb
              go_wp2_with (first | (go_at_call 45; refine (l11Cell_any _ _).mono ?_; rintro e w' ⟨rfl, rfl⟩) | (go_at_call 46; refine (l11Premium_any _ _).mono ?_; rintro e w' ⟨rfl, rfl⟩))
              go_returns
              exact ⟨ret_bool (by rw [H.out, HN.out k hlt HC.out]; simp), _, rfl⟩
            · have HC := hid hcb
              cases hpb : premB (p[k].toNat : Int)
              · have HP := hid hpb
                go_wp2_with (first | (go_at_call 45; refine (l11Cell_any _ _).mono ?_; rintro e w' ⟨rfl, rfl⟩) | (go_at_call 46; refine (l11Premium_any _ _).mono ?_; rintro e w' ⟨rfl, rfl⟩))
                go_returns
                exact ⟨ret_bool (by rw [H.out, HNp.out k hlp HP.out]; simp), _, rfl⟩
              · have HP := hid hpb
                go_wp2_with (first | (go_at_call 45; refine (l11Cell_any _ _).mono ?_; rintro e w' ⟨rfl, rfl⟩) | (go_at_call 46; refine (l11Premium_any _ _).mono ?_; rintro e w' ⟨rfl, rfl⟩))
                clear hcb hpb
                go_round
                case rel => exact ⟨k + 1, by omega, by go_num, hid (fun j hj hj' h => by
                  by_cases hjk : j = k
                  · subst hjk; exact ⟨HC.out, HP.out⟩
                  · exact hall.out j hj hj' (by omega))⟩
                case measure => simp [intOf]; omega
          · go_wp2_with fail
            go_returns
            exact ⟨ret_bool (by
              rw [H.out, Hs.out, HY.out (fun j hj => (hall.out j hj (by have := E1.out; omega) (by omega)).1), HYp.out (fun j hj => (hall.out j (by have := E1.out; omega) hj (by have := E1.out; omega)).2)]
              simp [HQ.out, HR.out]), _, rfl⟩
      · have hq' : ((p.size : Int) != n * n) = false := by simp [hq]
        have hr' : ((c.size : Int) != n * n) = true := by simp [hr]
        have HQ := hid hq
        have HR := hid hr
        clear hq hr
        go_enter Tryz.func27, Tryz.ntmps27
        go_wp2_with fail
        go_quiet ((go_at_call 44; exact Calls.quiet_of_same ((l11Size_any _ _).mono fun _ _ h => ⟨h.1, h.2.symm⟩)))
        go_wp2_with fail
        go_returns
        exact ⟨ret_bool (by rw [H.out]; simp [HR.out]), _, rfl⟩
    · have hq' : ((p.size : Int) != n * n) = true := by simp [hq]
      have HQ := hid hq
      clear hq
      go_enter Tryz.func27, Tryz.ntmps27
      go_wp2_with fail
      go_quiet ((go_at_call 44; exact Calls.quiet_of_same ((l11Size_any _ _).mono fun _ _ h => ⟨h.1, h.2.symm⟩)))
      go_wp2_with fail
      go_returns
      exact ⟨ret_bool (by rw [H.out]; simp [HQ.out]), _, rfl⟩

set_option maxHeartbeats 1000000 in
theorem ValidBoard_any (n : Int) (p c : ByteArray) (w : World) (hp : p.size ≤ 1048576) (hc : c.size ≤ 1048576) :
    Calls Tryz.prog 36 #[boardV n p c] w (Ret (.bool (okB n p c)) w) := by
  have H : Hid (okB n p c = (inB n 5 15 && (decide ((p.size : Int) = n * n) && (decide ((c.size : Int) = n * n) && (allB premB p && allB cellB c))))) := hid rfl
  unfold boardV
  cases hs : inB n 5 15
  · go_enter Tryz.func36, Tryz.ntmps36
    go_wp2_with (go_at_call 55; refine (sizeOk_any _ _).mono ?_; rintro e w' ⟨rfl, rfl⟩)
    go_returns
    exact ⟨ret_bool (by rw [H.out, hs]; rfl), (Ext.refl w).alloc _⟩
  · obtain ⟨hb1, hb2⟩ := inB_true hs
    have hm := wrap_sq hb1 hb2
    have HS := sq_le hb1 hb2
    by_cases hq : (p.size : Int) = n * n
    · by_cases hr : (c.size : Int) = n * n
      · have hq' : ((p.size : Int) != n * n) = false := by simp [hq]
        have hr' : ((c.size : Int) != (p.size : Int)) = false := by simp [hr, hq]
        have HQ := hid hq
        have HR := hid hr
        clear hq hr
        go_enter Tryz.func36, Tryz.ntmps36
        go_wp2_with (go_at_call 55; refine (sizeOk_any _ _).mono ?_; rintro e w' ⟨rfl, rfl⟩)
        refine (allBytes_any _ premB Tests_premiumOk _ _ hp).mono ?_
        rintro e w' ⟨rfl, rfl⟩
        cases hpb : allB premB p
        · have HP := hid hpb
          go_wp2_with fail
          go_returns
          exact ⟨ret_bool (by rw [H.out, HP.out]; simp), (Ext.refl w).alloc _⟩
        · have HP := hid hpb
          go_wp2_with fail
          refine (allBytes_any _ cellB Tests_cellOk _ _ hc).mono ?_
          rintro e w' ⟨rfl, rfl⟩
          go_wp2_with fail
          go_returns
          exact ⟨ret_bool (by rw [H.out, HP.out, hs]; simp [HQ.out, HR.out]), (Ext.refl w).alloc _⟩
      · have hq' : ((p.size : Int) != n * n) = false := by simp [hq]
        have hr' : ((c.size : Int) != (p.size : Int)) = true := by rw [bne_iff_ne]; omega
        have HR := hid hr
        clear hq hr
        go_enter Tryz.func36, Tryz.ntmps36
        go_wp2_with (go_at_call 55; refine (sizeOk_any _ _).mono ?_; rintro e w' ⟨rfl, rfl⟩)
        go_returns
        exact ⟨ret_bool (by rw [H.out]; simp [HR.out]), (Ext.refl w).alloc _⟩
    · have hq' : ((p.size : Int) != n * n) = true := by simp [hq]
      have HQ := hid hq
      clear hq
      go_enter Tryz.func36, Tryz.ntmps36
      go_wp2_with (go_at_call 55; refine (sizeOk_any _ _).mono ?_; rintro e w' ⟨rfl, rfl⟩)
      go_returns
      exact ⟨ret_bool (by rw [H.out]; simp [HQ.out]), (Ext.refl w).alloc _⟩
end Go.Proofs.YtcgedkpbobgkhaaGreatDoor
