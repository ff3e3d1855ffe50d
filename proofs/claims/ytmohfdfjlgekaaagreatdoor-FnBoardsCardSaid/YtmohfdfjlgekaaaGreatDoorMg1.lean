/- Several texts in one: Ch11b, Ch11c. Conditions: see each. -/
import Derived.Test.YtmohfdfjlgekaaaGreatDoorCh11a
section
namespace Go.Proofs.YtmohfdfjlgekaaaGreatDoor
set_option linter.unusedVariables false
set_option linter.unusedSimpArgs false
open Go Go.RowKit

abbrev boardV (n : Int) (p c : ByteArray) : Value := .agg #[.int .i64 n, .string p, .string c]
/-- A board lies at an address. -/
def BdAt (w : World) (b o : Nat) (n : Int) (p c : ByteArray) : Prop := w.cell? ⟨b, o, none⟩ = some (.int .i64 n) ∧ w.cell? ⟨b, o + 1, none⟩ = some (.string p) ∧ w.cell? ⟨b, o + 2, none⟩ = some (.string c)
theorem BdAt.ext {w w' : World} {b o : Nat} {n : Int} {p c : ByteArray} (h : BdAt w b o n p c) (k : Ext w w') : BdAt w' b o n p c := ⟨k.cell h.1, k.cell h.2.1, k.cell h.2.2⟩

def okB (n : Int) (p c : ByteArray) : Bool := inB n 5 15 && (decide ((p.size : Int) = n * n) && (decide ((c.size : Int) = n * n) && (allB premB p && allB cellB c)))

theorem wrap_sq {n : Int} (h1 : 5 ≤ n) (h2 : n ≤ 15) : IntKind.i64.wrap (n * n) = n * n := by
  apply IntWalk.i64_in
  have : n * n ≤ 15 * 15 := Int.mul_le_mul h2 h2 (by omega) (by omega)
  have : 0 ≤ n * n := Int.mul_nonneg (by omega) (by omega)
  omega
theorem sq_le {n : Int} (h1 : 5 ≤ n) (h2 : n ≤ 15) : 0 ≤ n * n ∧ n * n ≤ 225 := by
  have : n * n ≤ 15 * 15 := Int.mul_le_mul h2 h2 (by omega) (by omega)
  have : 0 ≤ n * n := Int.mul_nonneg (by omega) (by omega)
  omega
theorem inB_true {x lo hi : Int} (h : inB x lo hi = true) : lo ≤ x ∧ x ≤ hi := by simpa [inB] using h

set_option maxHeartbeats 1000000 in
theorem l11Ok_any (b o : Nat) (n : Int) (p c : ByteArray) (w : World) (hB : BdAt w b o n p c) (hp : p.size ≤ 1048576) (_hc : c.size ≤ 1048576) :
    Calls Tryz.prog 33 #[.pointer (some ⟨b, o, none⟩)] w fun e w' => e = .returned (.bool (okB n p c)) ∧ Dr w w' := by
  have H : Hid (okB n p c = (inB n 5 15 && (decide ((p.size : Int) = n * n) && (decide ((c.size : Int) = n * n) && (allB premB p && allB cellB c))))) := hid rfl
  obtain ⟨h0, h1, h2⟩ := hB
  cases hs : inB n 5 15
  · go_enter Tryz.func33, Tryz.ntmps33
    go_wp2_with fail
    go_quiet ((go_at_call 58; exact Calls.quiet_of_same ((l11Size_any _ _).mono fun _ _ h => ⟨h.1, h.2.symm⟩)))
    go_wp2_with fail
    go_returns
    exact ⟨ret_bool (by rw [H.out, hs]; rfl), _, rfl⟩
  · obtain ⟨hb1, hb2⟩ := inB_true hs
    have hm := wrap_sq hb1 hb2
    have HS := sq_le hb1 hb2
    by_cases hq : (p.size : Int) = n * n
    · by_cases hr : (c.size : Int) = n * n
      · have hq' : ((p.size : Int) != n * n) = false := by simp [hq]
        have hr' : ((c.size : Int) != n * n) = false := by simp [hr]
        have e1 : p.size = c.size := by omega
        have HQ := hid hq
        have HR := hid hr
        have E1 := hid e1
        have HN := hid (allB_no cellB c)
        have HNp := hid (allB_no premB p)
        have HY := hid (allB_yes cellB c)
        have HYp := hid (allB_yes premB p)
        clear hq hr e1
        go_enter Tryz.func33, Tryz.ntmps33
        go_wp2_with fail
        go_quiet ((go_at_call 58; exact Calls.quiet_of_same ((l11Size_any _ _).mono fun _ _ h => ⟨h.1, h.2.symm⟩)))
        go_wp2_with fail
        have Hs := hid hs
        clear hs
        go_loop [3] (fun i => ∃ k : Nat, k ≤ c.size ∧ i = .int .i64 k ∧ Hid (∀ j (hj : j < c.size) (hj' : j < p.size), j < k → cellB (c[j].toNat : Int) = true ∧ premB (p[j].toNat : Int) = true)) (fun i => c.size - (intOf i).toNat)
        case atStart => exact ⟨0, Nat.zero_le _, rfl, hid (fun j _ _ h => by omega)⟩
        case round =>
          obtain ⟨k, hk, rfl, hall⟩ := hrel
          by_cases hlt : k < c.size
          · have hlp : k < p.size := by have := E1.out; omega
            cases hcb : cellB (c[k].toNat : Int)
            · have HC := hid hcb
              go_wp2_with (first | (go_at_call 70; refine (l11Cell_any _ _).mono ?_; rintro e w' ⟨rfl, rfl⟩) | (go_at_call 71; refine (l11Premium_any _ _).mono ?_; rintro e w' ⟨rfl, rfl⟩))
              go_returns
              exact ⟨ret_bool (by rw [H.out, HN.out k hlt HC.out]; simp), _, rfl⟩
            · have HC := hid hcb
              cases hpb : premB (p[k].toNat : Int)
              · have HP := hid hpb
                go_wp2_with (first | (go_at_call 70; refine (l11Cell_any _ _).mono ?_; rintro e w' ⟨rfl, rfl⟩) | (go_at_call 71; refine (l11Premium_any _ _).mono ?_; rintro e w' ⟨rfl, rfl⟩))
                go_returns
                exact ⟨ret_bool (by rw [H.out, HNp.out k hlp HP.out]; simp), _, rfl⟩
              · have HP := hid hpb
                go_wp2_with (first | (go_at_call 70; refine (l11Cell_any _ _).mono ?_; rintro e w' ⟨rfl, rfl⟩) | (go_at_call 71; refine (l11Premium_any _ _).mono ?_; rintro e w' ⟨rfl, rfl⟩))
                clear hcb hpb
                go_round
                case rel => exact ⟨k + 1, by omega, by go_num, hid (fun j hj hj' h => by
                  by_cases hjk : j = k
                  · subst hjk; exact ⟨HC.out, HP.out⟩
                  · exact hall.out j hj hj' (by omega))⟩
                case measure => simp [intOf]; omega
          · go_wp2_with fail
            go_returns
            exact ⟨ret_bool (by
              rw [H.out, Hs.out, HY.out (fun j hj => (hall.out j hj (by have := E1.out; omega) (by omega)).1), HYp.out (fun j hj => (hall.out j (by have := E1.out; omega) hj (by have := E1.out; omega)).2)]
              simp [HQ.out, HR.out]), _, rfl⟩
      · have hq' : ((p.size : Int) != n * n) = false := by simp [hq]
        have hr' : ((c.size : Int) != n * n) = true := by simp [hr]
        have HQ := hid hq
        have HR := hid hr
        clear hq hr
        go_enter Tryz.func33, Tryz.ntmps33
        go_wp2_with fail
        go_quiet ((go_at_call 58; exact Calls.quiet_of_same ((l11Size_any _ _).mono fun _ _ h => ⟨h.1, h.2.symm⟩)))
        go_wp2_with fail
        go_returns
        exact ⟨ret_bool (by rw [H.out]; simp [HR.out]), _, rfl⟩
    · have hq' : ((p.size : Int) != n * n) = true := by simp [hq]
      have HQ := hid hq
      clear hq
      go_enter Tryz.func33, Tryz.ntmps33
      go_wp2_with fail
      go_quiet ((go_at_call 58; exact Calls.quiet_of_same ((l11Size_any _ _).mono fun _ _ h => ⟨h.1, h.2.symm⟩)))
      go_wp2_with fail
      go_returns
      exact ⟨ret_bool (by rw [H.out]; simp [HQ.out]), _, rfl⟩

set_option maxHeartbeats 1000000 in
theorem ValidBoard_any (n : Int) (p c : ByteArray) (w : World) (hp : p.size ≤ 1048576) (hc : c.size ≤ 1048576) :
    Calls Tryz.prog 25 #[boardV n p c] w (Ret (.bool (okB n p c)) w) := by
  have H : Hid (okB n p c = (inB n 5 15 && (decide ((p.size : Int) = n * n) && (decide ((c.size : Int) = n * n) && (allB premB p && allB cellB c))))) := hid rfl
  unfold boardV
  cases hs : inB n 5 15
  · go_enter Tryz.func25, Tryz.ntmps25
    go_wp2_with (go_at_call 51; refine (sizeOk_any _ _).mono ?_; rintro e w' ⟨rfl, rfl⟩)
    go_returns
    exact ⟨ret_bool (by rw [H.out, hs]; rfl), (Ext.refl w).alloc _⟩
  · obtain ⟨hb1, hb2⟩ := inB_true hs
    have hm := wrap_sq hb1 hb2
    have HS := sq_le hb1 hb2
    by_cases hq : (p.size : Int) = n * n
    · by_cases hr : (c.size : Int) = n * n
      · have hq' : ((p.size : Int) != n * n) = false := by simp [hq]
        have hr' : ((c.size : Int) != (p.size : Int)) = false := by simp [hr, hq]
        have HQ := hid hq
        have HR := hid hr
        clear hq hr
        go_enter Tryz.func25, Tryz.ntmps25
        go_wp2_with (go_at_call 51; refine (sizeOk_any _ _).mono ?_; rintro e w' ⟨rfl, rfl⟩)
        refine (allBytes_any _ premB Tests_premiumOk _ _ hp).mono ?_
        rintro e w' ⟨rfl, rfl⟩
        cases hpb : allB premB p
        · have HP := hid hpb
          go_wp2_with fail
          go_returns
          exact ⟨ret_bool (by rw [H.out, HP.out]; simp), (Ext.refl w).alloc _⟩
        · have HP := hid hpb
          go_wp2_with fail
          refine (allBytes_any _ cellB Tests_cellOk _ _ hc).mono ?_
          rintro e w' ⟨rfl, rfl⟩
          go_wp2_with fail
          go_returns
          exact ⟨ret_bool (by rw [H.out, HP.out, hs]; simp [HQ.out, HR.out]), (Ext.refl w).alloc _⟩
      · have hq' : ((p.size : Int) != n * n) = false := by simp [hq]
        have hr' : ((c.size : Int) != (p.size : Int)) = true := by rw [bne_iff_ne]; omega
        have HR := hid hr
        clear hq hr
        go_enter Tryz.func25, Tryz.ntmps25
        go_wp2_with (go_at_call 51; refine (sizeOk_any _ _).mono ?_; rintro e w' ⟨rfl, rfl⟩)
        go_returns
        exact ⟨ret_bool (by rw [H.out]; simp [HR.out]), (Ext.refl w).alloc _⟩
    · have hq' : ((p.size : Int) != n * n) = true := by simp [hq]
      have HQ := hid hq
      clear hq
      go_enter Tryz.func25, Tryz.ntmps25
      go_wp2_with (go_at_call 51; refine (sizeOk_any _ _).mono ?_; rintro e w' ⟨rfl, rfl⟩)
      go_returns
      exact ⟨ret_bool (by rw [H.out]; simp [HQ.out]), (Ext.refl w).alloc _⟩
end Go.Proofs.YtmohfdfjlgekaaaGreatDoor
end
section
namespace Go.Proofs.YtmohfdfjlgekaaaGreatDoor
set_option linter.unusedVariables false
set_option linter.unusedSimpArgs false
open Go Go.RowKit

def inRC (n r c : Int) : Bool := inB r 0 (n - 1) && inB c 0 (n - 1)
theorem inRC_true {n r c : Int} (h : inRC n r c = true) : 0 ≤ r ∧ r < n ∧ 0 ≤ c ∧ c < n := by
  simp only [inRC, inB, Bool.and_eq_true, decide_eq_true_eq] at h; omega
/-- A square's place among the cells. -/
theorem sq_index {n r c : Int} {s : ByteArray} (h1 : 5 ≤ n) (h2 : n ≤ 15) (hs : (s.size : Int) = n * n) (hr : inRC n r c = true) :
    0 ≤ r * n ∧ r * n ≤ 210 ∧ 0 ≤ r * n + c ∧ r * n + c < s.size ∧ (r * n + c).toNat < s.size := by
  obtain ⟨a, b, c1, d⟩ := inRC_true hr
  have e1 : 0 ≤ r * n := Int.mul_nonneg a (by omega)
  have e2 : r * n ≤ 14 * 15 := Int.mul_le_mul (by omega) h2 (by omega) (by omega)
  have e3 : (r + 1) * n ≤ n * n := Int.mul_le_mul_of_nonneg_right (by omega) (by omega)
  rw [Int.add_mul, Int.one_mul] at e3
  omega

set_option maxHeartbeats 400000 in
theorem inside_any (n : Int) (p c : ByteArray) (i j : Int) (w : World) (h1 : 5 ≤ n) (h2 : n ≤ 15) :
    Calls Tryz.prog 109 #[boardV n p c, .int .i64 i, .int .i64 j] w (Ret (.bool (inRC n i j)) w) := by
  have H : Hid (inRC n i j = (inB i 0 (n - 1) && inB j 0 (n - 1))) := hid rfl
  unfold boardV
  go_enter Tryz.func109, Tryz.ntmps109
  go_wp2_with (go_at_call 62; refine (within_any _ _ _ _).mono ?_; rintro e w' ⟨rfl, rfl⟩)
  all_goals (go_returns; exact ⟨ret_bool (by rw [H.out]; simp [*]), (Ext.refl w).alloc _⟩)
set_option maxHeartbeats 400000 in
theorem l11In_any (b o : Nat) (n : Int) (p c : ByteArray) (i j : Int) (w : World) (hB : BdAt w b o n p c) (h1 : 5 ≤ n) (h2 : n ≤ 15) :
    Calls Tryz.prog 110 #[.pointer (some ⟨b, o, none⟩), .int .i64 i, .int .i64 j] w (Same (.bool (inRC n i j)) w) := by
  have H : Hid (inRC n i j = (inB i 0 (n - 1) && inB j 0 (n - 1))) := hid rfl
  obtain ⟨c0, c1, c2⟩ := hB
  go_enter Tryz.func110, Tryz.ntmps110
  go_wp2_with (go_at_call 96; refine (l00In_any _ _ _ _).mono ?_; rintro e w' ⟨rfl, rfl⟩)
  all_goals (go_returns; exact ⟨ret_bool (by rw [H.out]; simp [*]), rfl⟩)

/-- The byte of a square; 0 outside. -/
def sqAt (n : Int) (s : ByteArray) (r c : Int) : Int := if inRC n r c then (bAt s (r * n + c).toNat).toNat else 0
theorem sqAt_in {n r c : Int} {s : ByteArray} (hr : inRC n r c = true) (hl : (r * n + c).toNat < s.size) : (s[(r * n + c).toNat].toNat : Int) = sqAt n s r c := by
  rw [sqAt, if_pos hr, bAt_eq s _ hl]

set_option maxHeartbeats 400000 in
theorem cell_any (n : Int) (p c : ByteArray) (i j : Int) (w : World) (h1 : 5 ≤ n) (h2 : n ≤ 15) (hc : (c.size : Int) = n * n) :
    Calls Tryz.prog 81 #[boardV n p c, .int .i64 i, .int .i64 j] w (Ret (.int .u8 (sqAt n c i j)) w) := by
  cases hr : inRC n i j
  · have HZ : Hid (sqAt n c i j = 0) := hid (by simp [sqAt, hr])
    clear hc
    unfold boardV
    go_enter Tryz.func81, Tryz.ntmps81
    go_wp2_with fail
    refine (inside_any n p c i j _ h1 h2).mono ?_
    rintro e w1 ⟨rfl, hx⟩
    rw [hr]
    go_wp2_with fail
    go_returns
    exact ⟨ret_int HZ.out.symm, ((Ext.refl w).alloc _).trans hx⟩
  · obtain ⟨e1, e2, e3, e4, e5⟩ := sq_index h1 h2 hc hr
    obtain ⟨a1, a2, a3, a4⟩ := inRC_true hr
    have HZ := hid (sqAt_in hr e5)
    have HR := hid hr
    clear hc hr
    unfold boardV
    go_enter Tryz.func81, Tryz.ntmps81
    go_wp2_with fail
    refine (inside_any n p c i j _ h1 h2).mono ?_
    rintro e w1 ⟨rfl, hx⟩
    rw [HR.out]
    obtain ⟨xc, xf⟩ := hx.cells
    go_wp2_with fail
    go_returns
    exact ⟨ret_int HZ.out, ((Ext.refl w).alloc _).trans hx⟩
set_option maxHeartbeats 400000 in
theorem l11At_any (b o : Nat) (n : Int) (p c : ByteArray) (i j : Int) (w : World) (hB : BdAt w b o n p c) (h1 : 5 ≤ n) (h2 : n ≤ 15) (hc : (c.size : Int) = n * n) (hr : inRC n i j = true) :
    Calls Tryz.prog 111 #[.pointer (some ⟨b, o, none⟩), .int .i64 i, .int .i64 j] w fun e w' => e = .returned (.int .u8 (sqAt n c i j)) ∧ Dr w w' := by
  obtain ⟨e1, e2, e3, e4, e5⟩ := sq_index h1 h2 hc hr
  obtain ⟨a1, a2, a3, a4⟩ := inRC_true hr
  have HZ := hid (sqAt_in hr e5)
  have q1 : IntKind.i64.wrap (i * n) = i * n := IntWalk.i64_in _ (by omega)
  have q2 : IntKind.i64.wrap (i * n + j) = i * n + j := IntWalk.i64_in _ (by omega)
  clear hc hr
  obtain ⟨c0, c1, c2⟩ := hB
  go_enter Tryz.func111, Tryz.ntmps111
  go_wp2_with fail
  go_quiet (fail)
  go_wp2_with fail
  go_returns
  exact ⟨ret_int HZ.out, _, rfl⟩
end Go.Proofs.YtmohfdfjlgekaaaGreatDoor
end
