/- Letters laid on a board that is drawn. Conditions: a size from 5 to 15, rows and columns up to 100, a short word. -/
import Derived.Test.YtmohfdfjlgekaaaGreatDoorCh11k
import Derived.Test.YtmohfdfjlgekaaaGreatDoorSrc
import Derived.Test.YtmohfdfjlgekaaaGreatDoorMg10
namespace Go.Proofs.YtmohfdfjlgekaaaGreatDoor
set_option linter.unusedVariables false
set_option linter.unusedSimpArgs false
open Go Go.RowKit
/-- A board of a right size, whatever stands on it. -/
structure Bsz (n : Int) (p c : ByteArray) : Prop where
  lo : 5 ≤ n
  hi : n ≤ 15
  p : (p.size : Int) = n * n
  c : (c.size : Int) = n * n
def Laid (n : Int) (p : ByteArray) (w : World) (e : Ending) (w' : World) : Prop := ∃ c, (c.size : Int) = n * n ∧ e = .returned (boardV n p c) ∧ Ext w w'
theorem flow_laid {P : Program} {f : FuncId} {args : Array Value} {w : World} {n : Int} {p : ByteArray} (h : Calls P f args w (Laid n p w)) : flowUpon P Ext w (fun v _ => ∃ q : ByteArray, (q.size : Int) = n * n ∧ v = .agg #[.int .i64 n, .string p, .string q]) (.ok (.enter f args) w) :=
  ⟨Ext.refl w, h.mono fun _ _ ⟨c, hc, he, hx⟩ => ⟨_, he, hx, c, hc, rfl⟩⟩
theorem setS_len (s : ByteArray) (k : Nat) (x : Int) : (setS s k x).size = s.size := by
  show (s.data.toList.set k _).toArray.size = s.data.size
  simp
set_option maxHeartbeats 2000000 in
theorem l11Lay_any (n : Int) (p cs : ByteArray) (r c : Int) (d : Bool) (s : ByteArray) (w : World) (hb : Bsz n p cs) (hr0 : 0 ≤ r) (hr1 : r ≤ 100) (hc0 : 0 ≤ c) (hc1 : c ≤ 100) (hs : s.size ≤ 100) :
    Calls Tryz.prog 93 #[boardV n p cs, .int .i64 r, .int .i64 c, .bool d, .string s] w (Laid n p w) := by
  obtain ⟨h1, h2, h3, h4⟩ := hb
  have HP := hid h3
  have HC0 := hid h4
  clear h3 h4
  go_enter Tryz.func93, Tryz.ntmps93
  go_wp2_with fail
  go_loopw [11] (fun i wr => ∃ (k : Nat) (q : ByteArray), k ≤ s.size ∧ i = .int .i64 (k : Int) ∧ Hid ((q.size : Int) = n * n) ∧ BdAt wr w.heap.size 0 n p q ∧ (∀ j, wr.frozen? ⟨w.heap.size, j, none⟩ = false) ∧ BdAt wr (w.heap.size + 1) 0 0 ⟨#[]⟩ ⟨#[]⟩ ∧ (∀ j, wr.frozen? ⟨w.heap.size + 1, j, none⟩ = false) ∧ Ext w wr) (fun i _ => s.size - (intOf i).toNat)
  case atStart => exact ⟨0, cs, by omega, rfl, HC0, ⟨by go_cell, by go_cell, by go_cell⟩, fun j => by go_cell, ⟨by go_cell, by go_cell, by go_cell⟩, fun j => by go_cell, ((Ext.refl w).alloc _).alloc _⟩
  case round =>
    obtain ⟨k, q, hk, rfl, HQ, hB, hf, hB1, hf1, hE⟩ := hrel
    by_cases hlt : k < s.size
    · have HB := hid hB
      have HF := hid hf
      have HB1 := hid hB1
      have HF1 := hid hf1
      have HE := hid hE
      obtain ⟨X1, hX1⟩ : ∃ X : Int, c + (k : Int) = X := ⟨_, rfl⟩
      obtain ⟨X2, hX2⟩ : ∃ X : Int, r + (k : Int) = X := ⟨_, rfl⟩
      have q1 : IntKind.i64.wrap (c + (k : Int)) = X1 := by rw [hX1]; exact IntWalk.i64_in _ (by omega)
      have q2 : IntKind.i64.wrap (r + (k : Int)) = X2 := by rw [hX2]; exact IntWalk.i64_in _ (by omega)
      have q3 : c + (k : Int) = X1 := hX1
      have q4 : r + (k : Int) = X2 := hX2
      obtain ⟨u, hu⟩ : ∃ u, s[k] = u := ⟨_, rfl⟩
      have hub : u.toNat < 256 := u.toNat_lt
      have HI := hid (fun i j m => l11In_any w.heap.size 0 n p q i j (wr.drewN m) (hB.ext ((Ext.refl _).drewN m)) h1 h2)
      have HA := hid (fun i j m (hr : inRC n i j = true) => l11At_any w.heap.size 0 n p q i j (wr.drewN m) (hB.ext ((Ext.refl _).drewN m)) h1 h2 HQ.out hr)
      have HSE := hid (fun i j m (hr : inRC n i j = true) => l11Set_any w.heap.size 0 n p q i j u.toNat (wr.drewN m) (hB.ext ((Ext.refl _).drewN m)) h1 h2 HQ.out hr (by omega) (by omega))
      obtain ⟨R, hR⟩ : ∃ R : Int, (if d then X2 else r) = R := ⟨_, rfl⟩
      obtain ⟨C, hC⟩ : ∃ C : Int, (if d then c else X1) = C := ⟨_, rfl⟩
      have hR9 : 0 ≤ R ∧ R ≤ 300 := by rw [← hR]; split <;> omega
      have hC9 : 0 ≤ C ∧ C ≤ 300 := by rw [← hC]; split <;> omega
      obtain ⟨hR0, hR1⟩ := hR9
      obtain ⟨hC0, hC1⟩ := hC9
      clear hf hf1 hB1 hE hB hX1 hX2
      have HOLD : Hid (∀ m, (∃ (k' : Nat) (q' : ByteArray), k' ≤ s.size ∧ Value.int .i64 ((k : Int) + 1) = .int .i64 (k' : Int) ∧ Hid ((q'.size : Int) = n * n) ∧ BdAt (wr.drewN m) w.heap.size 0 n p q' ∧ (∀ j, (wr.drewN m).frozen? ⟨w.heap.size, j, none⟩ = false) ∧ BdAt (wr.drewN m) (w.heap.size + 1) 0 0 ⟨#[]⟩ ⟨#[]⟩ ∧ (∀ j, (wr.drewN m).frozen? ⟨w.heap.size + 1, j, none⟩ = false) ∧ Ext w (wr.drewN m))) := hid (fun m =>
        ⟨k + 1, q, by omega, by go_num, HQ, HB.out.ext ((Ext.refl _).drewN m), fun j => by simpa using HF.out j, HB1.out.ext ((Ext.refl _).drewN m), fun j => by simpa using HF1.out j, HE.out.drewN m⟩)
      cases d
      all_goals
        simp at hR hC
        have hR' := hR.symm
        have hC' := hC.symm
        subst hR' hC'
        cases hin : inRC n R C
        · have HIN := hid (HI.out R C)
          rw [hin] at HIN
          clear hin
          go_wp2_with fail
          go_quiet ((go_at_call 110; exact Calls.quiet_of_same ((HIN.out _).mono fun _ _ h => ⟨h.1, h.2.symm⟩)))
          go_wp2_with fail
          exact ⟨HOLD.out _, by simp [intOf]; omega⟩
        · have HIN := hid (HI.out R C)
          rw [hin] at HIN
          have HAT := hid (fun m => HA.out R C m hin)
          have HST : Hid (∀ m, Calls Tryz.prog 119 #[.pointer (some ⟨w.heap.size, 0, none⟩), .int .i64 R, .int .i64 C, .int .u8 u.toNat] (wr.drewN m) (Ret (.agg #[.int .i64 n, .string p, .string (setS q (R * n + C).toNat u.toNat)]) (wr.drewN m))) := hid (fun m => HSE.out R C m hin)
          obtain ⟨A, hA⟩ : ∃ A, sqAt n q R C = A := ⟨_, rfl⟩
          rw [hA] at HAT
          clear hin hA
          have HPUT : Hid (∀ m w1, Ext (wr.drewN m) w1 → PutB w.heap.size n p (setS q (R * n + C).toNat u.toNat) (.pointer (some ⟨w.heap.size, 0, none⟩)) w1 (((w1.setCell ⟨w.heap.size, 0, none⟩ (.int .i64 n)).setCell ⟨w.heap.size, 1, none⟩ (.string p)).setCell ⟨w.heap.size, 2, none⟩ (.string (setS q (R * n + C).toNat u.toNat)))) := hid (fun m w1 hx => by
            have hx2 := ((Ext.refl wr).drewN m).trans hx
            obtain ⟨b0, b1, b2⟩ := HB.out.ext hx2
            exact putB_of (Nat.le_refl _) (World.block_lt_of_cell? _ _ b0) b0 b1 b2 (fun j => by rw [hx2.cells.2 _ _ (World.block_lt_of_cell? _ _ HB.out.1)]; exact HF.out j))
          have HFC : Hid (∀ m w1, Ext (wr.drewN m) w1 → w1.cell? ⟨w.heap.size, 0, none⟩ = some (.int .i64 n) ∧ w1.cell? ⟨w.heap.size, 1, none⟩ = some (.string p) ∧ w1.cell? ⟨w.heap.size, 2, none⟩ = some (.string q) ∧ (∀ j, w1.frozen? ⟨w.heap.size, j, none⟩ = false)) := hid (fun m w1 hx => by
            have hx2 := ((Ext.refl wr).drewN m).trans hx
            obtain ⟨b0, b1, b2⟩ := HB.out.ext hx2
            exact ⟨b0, b1, b2, fun j => by rw [hx2.cells.2 _ _ (World.block_lt_of_cell? _ _ HB.out.1)]; exact HF.out j⟩)
          have HNEW : Hid (∀ m w1, Ext (wr.drewN m) w1 → ∀ W, (((w1.setCell ⟨w.heap.size, 0, none⟩ (.int .i64 n)).setCell ⟨w.heap.size, 1, none⟩ (.string p)).setCell ⟨w.heap.size, 2, none⟩ (.string (setS q (R * n + C).toNat u.toNat))) = W → (∃ (k' : Nat) (q' : ByteArray), k' ≤ s.size ∧ Value.int .i64 ((k : Int) + 1) = .int .i64 (k' : Int) ∧ Hid ((q'.size : Int) = n * n) ∧ BdAt W w.heap.size 0 n p q' ∧ (∀ j, W.frozen? ⟨w.heap.size, j, none⟩ = false) ∧ BdAt W (w.heap.size + 1) 0 0 ⟨#[]⟩ ⟨#[]⟩ ∧ (∀ j, W.frozen? ⟨w.heap.size + 1, j, none⟩ = false) ∧ Ext w W)) := hid (fun m w1 hx W hW => by
            have hx2 := ((Ext.refl wr).drewN m).trans hx
            have hp := HPUT.out m w1 hx
            obtain ⟨g, hg, _, _, hexc, c0, c1, c2, cf⟩ := hp
            simp only [Value.pointer.injEq, Option.some.injEq, Addr.mk.injEq, and_true] at hg
            subst hg
            obtain ⟨u0, u1, u2⟩ := HB1.out.ext hx2
            have hl1 : w.heap.size + 1 < w1.heap.size := World.block_lt_of_cell? _ _ u0
            subst hW
            exact ⟨k + 1, _, by omega, by go_num, hid (by rw [setS_len]; exact HQ.out), ⟨c0, c1, c2⟩, cf, ⟨hexc.cell u0 (by omega), hexc.cell u1 (by omega), hexc.cell u2 (by omega)⟩, fun j => by rw [hexc.frozen j (show w.heap.size + 1 < w1.heap.size by omega) (by omega), hx2.cells.2 _ _ (World.block_lt_of_cell? _ _ HB1.out.1)]; exact HF1.out j, (((HE.out.trans hx2).setCell (Nat.le_refl _) _).setCell (Nat.le_refl _) _).setCell (Nat.le_refl _) _⟩)
          clear HPUT HI HA HSE
          by_cases h46 : A = 46
          · subst h46
            go_wp2_with fail
            go_quiet (first | (go_at_call 110; exact Calls.quiet_of_same ((HIN.out _).mono fun _ _ h => ⟨h.1, h.2.symm⟩)) | (go_at_call 111; exact Calls.quiet_of ((HAT.out _).mono fun _ _ h => h)))
            go_wp2_with fail
            refine (HST.out _).mono ?_
            rintro e w3 ⟨rfl, hx3⟩
            obtain ⟨f0, f1, f2, ff⟩ := HFC.out _ _ hx3
            have ff0 := ff 0
            have ff1 := ff 1
            have ff2 := ff 2
            have HN3 := hid (HNEW.out _ _ hx3 _ rfl)
            obtain ⟨Z, hZ⟩ : ∃ Z, setS q (R * n + C).toNat u.toNat = Z := ⟨_, rfl⟩
            rw [hZ] at HN3 ⊢
            clear hZ ff hx3
            go_wp2_with fail
            go_roundw
            case rel => exact HN3.out
            case measure => simp [intOf]; omega
          · have hq46 : (A == 46) = false := by simpa using h46
            by_cases hAu : A = (u.toNat : Int)
            · subst hAu
              go_wp2_with fail
              go_quiet (first | (go_at_call 110; exact Calls.quiet_of_same ((HIN.out _).mono fun _ _ h => ⟨h.1, h.2.symm⟩)) | (go_at_call 111; exact Calls.quiet_of ((HAT.out _).mono fun _ _ h => h)))
              go_wp2_with fail
              refine (HST.out _).mono ?_
              rintro e w3 ⟨rfl, hx3⟩
              obtain ⟨f0, f1, f2, ff⟩ := HFC.out _ _ hx3
              have ff0 := ff 0
              have ff1 := ff 1
              have ff2 := ff 2
              have HN3 := hid (HNEW.out _ _ hx3 _ rfl)
              obtain ⟨Z, hZ⟩ : ∃ Z, setS q (R * n + C).toNat u.toNat = Z := ⟨_, rfl⟩
              rw [hZ] at HN3 ⊢
              clear hZ ff hx3
              go_wp2_with fail
              go_roundw
              case rel => exact HN3.out
              case measure => simp [intOf]; omega
            · have hqu : (A == (u.toNat : Int)) = false := by simpa using hAu
              go_wp2_with fail
              go_quiet (first | (go_at_call 110; exact Calls.quiet_of_same ((HIN.out _).mono fun _ _ h => ⟨h.1, h.2.symm⟩)) | (go_at_call 111; exact Calls.quiet_of ((HAT.out _).mono fun _ _ h => h)))
              go_wp2_with fail
              exact ⟨HOLD.out _, by simp [intOf]; omega⟩
    · have f0 := hf1 0
      have f1 := hf1 1
      have f2 := hf1 2
      obtain ⟨b0, b1, b2⟩ := hB
      obtain ⟨u0, u1, u2⟩ := hB1
      have HE := hid hE
      clear hf hf1 hE
      go_wp2_with fail
      refine bodyPost_ret (v := boardV n p q) (by simp [results, Tryz.results93, go_sem, u0, u1, u2, f0, f1, f2, boardV]) rfl ⟨q, HQ.out, rfl, ((HE.out.setCell (by simp) _).setCell (by simp) _).setCell (by simp) _⟩
end Go.Proofs.YtmohfdfjlgekaaaGreatDoor
