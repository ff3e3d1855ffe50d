/- The squares that hang together with one, as the reference marks them. Conditions: a valid board; marks in a row of its own. -/
import Derived.Test.YtmohfdfjlgekaaaGreatDoorMg8
import Derived.Test.YtmohfdfjlgekaaaGreatDoorCh15a
namespace Go.Proofs.YtmohfdfjlgekaaaGreatDoor
set_option linter.unusedVariables false
set_option linter.unusedSimpArgs false
open Go Go.RowKit
abbrev letF (n : Int) (cs : ByteArray) (r c : Int) : Bool := letB (sqAt n cs r c)
theorem letF_in {n : Int} {cs : ByteArray} {r c : Int} (h : letF n cs r c = true) : inRC n r c = true := by
  cases hq : inRC n r c
  · have : sqAt n cs r c = 0 := sqAt_out hq
    simp [letF, this, letB] at h
  · rfl
/-- A fuel that is enough leaves one more where a letter is marked anew. -/
theorem fuel_go {N f i : Nat} {S : Nat → Bool} (h : N - cnt N S ≤ f) (hi : i < N) (hs : S i = false) : ∃ f', f = f' + 1 ∧ N - cnt N (upd S i) ≤ f' := by
  have h1 := cnt_upd hi hs
  have h2 := cnt_le N (upd S i)
  exact ⟨f - 1, by omega, by omega⟩
theorem fuel_vis {N f f' : Nat} {n : Int} {L : Int → Int → Bool} {S : Nat → Bool} {r c : Int} (h : N - cnt N S ≤ f) : N - cnt N (vis n L f' S r c) ≤ f := by
  have := vis_cnt (n := n) (L := L) f' N S r c
  omega
set_option maxHeartbeats 4000000 in
theorem l11Reach_any (b o g N : Nat) (n : Int) (p cs : ByteArray) (w0 : World) (hB : BdAt w0 b o n p cs) (h1 : 5 ≤ n) (h2 : n ≤ 15) (hc : (cs.size : Int) = n * n) (ha : allB cellB cs = true) (hN : (N : Int) = n * n) (hg : w0.heap.size ≤ g) (f : Nat) :
    ∀ (S : Nat → Bool) (r c : Int) (w : World), Ext w0 w → Bs w g n n S → N - cnt N S ≤ f → -1 ≤ r → r ≤ n → -1 ≤ c → c ≤ n →
      Calls Tryz.prog 45 #[.pointer (some ⟨b, o, none⟩), .slice (some ⟨g, 0, none⟩) N N, .int .i64 r, .int .i64 c] w fun e w' => e = .returned (.tuple #[]) ∧ Ext w0 w' ∧ Bs w' g n n (vis n (letF n cs) f S r c) := by
  induction f using Nat.strongRecOn with
  | _ f IH0 =>
    have IH := hid IH0
    clear IH0
    intro S r c w hx hS hf r0 r1 c0 c1
    have HF := hid (l11Full_any b o n p cs r c w (hB.ext hx) h1 h2 hc)
    rw [full_eq h1 h2 hc ha r c] at HF
    obtain ⟨B0, B1, B2⟩ := hB.ext hx
    cases hL : letB (sqAt n cs r c)
    · rw [hL] at HF
      have HV : Hid (vis n (letF n cs) f S r c = S) := hid (vis_stop (by simp [letF, hL]))
      have HS := hid hS
      have HX := hid hx
      clear hL hS hx hf ha hc hB
      go_enter Tryz.func45, Tryz.ntmps45
      go_wp2_with fail
      refine HF.out.mono ?_
      rintro e w1 ⟨rfl, hD⟩
      have hE := Dr.ext hD
      go_wp2_with fail
      go_returns
      exact ⟨rfl, HX.out.trans hE, by rw [HV.out]; exact HS.out.ext hE⟩
    · rw [hL] at HF
      have hin := letF_in hL
      obtain ⟨q1, q2, q3, q4, q5⟩ := sq_index h1 h2 hc hin
      obtain ⟨i0, i1, i2, i3⟩ := inRC_true hin
      have hcell := (hS.2 r c hin).1
      have hfro := (hS.2 r c hin).2
      have HM : Hid (mixN n r c = (r * n + c).toNat) := hid rfl
      have hixN : mixN n r c < N := by rw [HM.out]; omega
      have w1q : IntKind.i64.wrap (r * n) = r * n := IntWalk.i64_in _ (by omega)
      have w2q : IntKind.i64.wrap (r * n + c) = r * n + c := IntWalk.i64_in _ (by omega)
      have hNs : r * n + c < (N : Int) := by omega
      cases hs : S (mixN n r c)
      · obtain ⟨f', rfl, hf'⟩ := fuel_go hf hixN hs
        have HV := hid (vis_go (n := n) (L := letF n cs) (f := f') hL hs)
        rw [hs, HM.out] at hcell
        rw [HM.out] at hfro
        have HS := hid (fun m => (hS.ext ((Ext.refl w).drewN m)).set (Int.le_refl n) hin)
        rw [HM.out] at HS
        have HX := hid hx
        have HB := hid hB
        have HF2 := hid hf'
        have HS0 := hid hS.1
        have HL := hid hL
        have hgN : w0.heap.size ≤ g := hg
        clear hL hs hS hx hf ha hc hB hf'
        go_enter Tryz.func45, Tryz.ntmps45
        go_wp2_with fail
        refine HF.out.mono ?_
        rintro e w1 ⟨rfl, hD⟩
        obtain ⟨m, rfl⟩ := hD
        go_wp2_with fail
        with_reducible refine Calls.mono (IH.out f' (by omega) (upd S (mixN n r c)) (r - 1) c _ ((HX.out.drewN m).setCell hgN _) (by rw [HM.out]; exact HS.out m) HF2.out (by omega) (by omega) (by omega) (by omega)) ?_
        rintro e w2 ⟨rfl, hx2, hS2⟩
        have HX2 := hid hx2
        have HS2 := hid hS2
        clear hx2 hS2
        go_wp2_with fail
        with_reducible refine Calls.mono (IH.out f' (by omega) _ (r + 1) c _ HX2.out HS2.out (fuel_vis HF2.out) (by omega) (by omega) (by omega) (by omega)) ?_
        rintro e w3 ⟨rfl, hx3, hS3⟩
        have HX3 := hid hx3
        have HS3 := hid hS3
        clear hx3 hS3
        go_wp2_with fail
        with_reducible refine Calls.mono (IH.out f' (by omega) _ r (c - 1) _ HX3.out HS3.out (fuel_vis (fuel_vis HF2.out)) (by omega) (by omega) (by omega) (by omega)) ?_
        rintro e w4 ⟨rfl, hx4, hS4⟩
        have HX4 := hid hx4
        have HS4 := hid hS4
        clear hx4 hS4
        go_wp2_with fail
        with_reducible refine Calls.mono (IH.out f' (by omega) _ r (c + 1) _ HX4.out HS4.out (fuel_vis (fuel_vis (fuel_vis HF2.out))) (by omega) (by omega) (by omega) (by omega)) ?_
        rintro e w5 ⟨rfl, hx5, hS5⟩
        have HX5 := hid hx5
        have HS5 := hid hS5
        clear hx5 hS5
        go_wp2_with fail
        go_returns
        exact ⟨rfl, HX5.out, by rw [HV.out]; exact HS5.out⟩
      · have HV : Hid (vis n (letF n cs) f S r c = S) := hid (vis_stop (by simp [hs]))
        rw [hs, HM.out] at hcell
        rw [HM.out] at hfro
        have HS := hid hS
        have HX := hid hx
        clear hL hs hS hx hf ha hc hB
        go_enter Tryz.func45, Tryz.ntmps45
        go_wp2_with fail
        refine HF.out.mono ?_
        rintro e w1 ⟨rfl, hD⟩
        have hE := Dr.ext hD
        replace hcell := hE.cell hcell
        replace B0 := hE.cell B0
        replace B1 := hE.cell B1
        replace B2 := hE.cell B2
        go_wp2_with fail
        go_returns
        exact ⟨rfl, HX.out.trans hE, by rw [HV.out]; exact HS.out.ext hE⟩
end Go.Proofs.YtmohfdfjlgekaaaGreatDoor
