/- The squares that hang together with one, as the function value of impl.IsJoined marks them. Conditions: a valid board; marks, count and function value in the call's own blocks. -/
import Derived.Test.YtmohfdfjlgekaaaGreatDoorCh15b
namespace Go.Proofs.YtmohfdfjlgekaaaGreatDoor
set_option linter.unusedVariables false
set_option linter.unusedSimpArgs false
open Go Go.RowKit
structure Jn (w : World) (g h v : Nat) (FV : Value) (n : Int) (N : Nat) (S : Nat → Bool) : Prop where
  bs : Bs w g 15 n S
  num : w.cell? ⟨h, 0, none⟩ = some (.int .i64 (cnt N S : Nat))
  free : w.frozen? ⟨h, 0, none⟩ = false
  fn : w.cell? ⟨v, 0, none⟩ = some FV
theorem Jn.ext {w w' : World} {g h v : Nat} {FV : Value} {n : Int} {N : Nat} {S : Nat → Bool} (j : Jn w g h v FV n N S) (k : Ext w w') : Jn w' g h v FV n N S :=
  ⟨j.bs.ext k, k.cell j.num, by rw [Below.frozen k (p := ⟨h, 0, none⟩) (World.block_lt_of_cell? _ _ j.num)]; exact j.free, k.cell j.fn⟩
theorem Jn.mark {w : World} {g h v : Nat} {FV : Value} {n : Int} {N : Nat} {S : Nat → Bool} (j : Jn w g h v FV n N S) (hn : n ≤ 15) (hgh : g ≠ h) (hgv : g ≠ v) (hhv : h ≠ v) {r c : Int} (hr : inRC n r c = true) (hi : mixN n r c < N) (hs : S (mixN n r c) = false) :
    Jn ((w.setCell ⟨g, mixN 15 r c, none⟩ (.bool true)).setCell ⟨h, 0, none⟩ (.int .i64 ((cnt N S : Nat) + 1))) g h v FV n N (upd S (mixN n r c)) := by
  obtain ⟨j1, j2, j3, j4⟩ := j
  have e2 : (w.setCell ⟨g, mixN 15 r c, none⟩ (.bool true)).cell? ⟨h, 0, none⟩ = some (.int .i64 (cnt N S : Nat)) := by
    rw [World.cell?_setCell_other _ _ _ _ (fun q => by simp at q <;> omega)]; exact j2
  refine ⟨(j1.set hn hr).other (Ne.symm hgh), ?_, by simpa using j3, ?_⟩
  · rw [World.cell?_setCell_same _ _ _ e2, cnt_upd hi hs]
    simp
  · rw [World.cell?_setCell_other _ _ _ _ (fun q => by simp at q <;> omega), World.cell?_setCell_other _ _ _ _ (fun q => by simp at q <;> omega)]
    exact j4
abbrev visV (b g h v : Nat) : Value := .func (.func 41) #[] #[.pointer (some ⟨b, 0, none⟩), .pointer (some ⟨g, 0, none⟩), .pointer (some ⟨h, 0, none⟩), .pointer (some ⟨v, 0, none⟩)]
set_option maxHeartbeats 4000000 in
theorem visit_any (b g h v N : Nat) (n : Int) (p cs : ByteArray) (w0 : World) (hB : BdAt w0 b 0 n p cs) (h1 : 5 ≤ n) (h2 : n ≤ 15) (hc : (cs.size : Int) = n * n) (ha : allB cellB cs = true) (hN : (N : Int) = n * n) (hg : w0.heap.size ≤ g) (hh : w0.heap.size ≤ h) (hgh : g ≠ h) (hgv : g ≠ v) (hhv : h ≠ v) (f : Nat) :
    ∀ (S : Nat → Bool) (r c : Int) (w : World), Ext w0 w → Jn w g h v (visV b g h v) n N S → N - cnt N S ≤ f → -1 ≤ r → r ≤ n → -1 ≤ c → c ≤ n →
      Calls Tryz.prog 41 #[.int .i64 r, .int .i64 c, .pointer (some ⟨b, 0, none⟩), .pointer (some ⟨g, 0, none⟩), .pointer (some ⟨h, 0, none⟩), .pointer (some ⟨v, 0, none⟩)] w fun e w' => e = .returned (.tuple #[]) ∧ Ext w0 w' ∧ Jn w' g h v (visV b g h v) n N (vis n (letF n cs) f S r c) := by
  induction f using Nat.strongRecOn with
  | _ f IH0 =>
    have IH := hid IH0
    clear IH0
    intro S r c w hx hJ hf r0 r1 c0 c1
    have HF := hid (letter_any n p cs r c w h1 h2 hc)
    obtain ⟨B0, B1, B2⟩ := hB.ext hx
    cases hL : letB (sqAt n cs r c)
    · rw [hL] at HF
      have HV : Hid (vis n (letF n cs) f S r c = S) := hid (vis_stop (by simp [letF, hL]))
      have HJ := hid hJ
      have HX := hid hx
      clear hL hJ hx hf ha hc hB
      go_enter Tryz.func41, Tryz.ntmps41
      go_wp2_with fail
      refine HF.out.mono ?_
      rintro e w1 ⟨rfl, hE⟩
      go_wp2_with fail
      go_returns
      exact ⟨rfl, HX.out.trans hE, by rw [HV.out]; exact HJ.out.ext hE⟩
    · rw [hL] at HF
      have hin := letF_in hL
      obtain ⟨q1, q2, q3, q4, q5⟩ := sq_index h1 h2 hc hin
      obtain ⟨i0, i1, i2, i3⟩ := inRC_true hin
      have hcell := (hJ.bs.2 r c hin).1
      have hfro := (hJ.bs.2 r c hin).2
      have hnum := hJ.num
      have hfn := hJ.fn
      have hfree := hJ.free
      have HM : Hid (mixN n r c = (r * n + c).toNat) := hid rfl
      have hixN : mixN n r c < N := by rw [HM.out]; omega
      have hcntN := cnt_le N S
      have hN225 : N ≤ 225 := by have := (sq_le h1 h2).2; omega
      obtain ⟨R, rfl⟩ := Int.eq_ofNat_of_zero_le i0
      obtain ⟨C, rfl⟩ := Int.eq_ofNat_of_zero_le i2
      have HM5 : Hid (mixN 15 (R : Int) (C : Int) = R * 15 + C) := hid (by unfold mixN; omega)
      rw [HM5.out] at hcell hfro
      cases hs : S (mixN n R C)
      · obtain ⟨f', rfl, hf'⟩ := fuel_go hf hixN hs
        have HV := hid (vis_go (n := n) (L := letF n cs) (f := f') hL hs)
        rw [hs] at hcell
        have HJ := hid (fun w' (k : Ext w w') => (hJ.ext k).mark h2 hgh hgv hhv hin hixN hs)
        rw [HM5.out] at HJ
        have HX := hid hx
        have HF2 := hid hf'
        clear hL hs hJ hx hf ha hc hB hf'
        go_enter Tryz.func41, Tryz.ntmps41
        go_wp2_with fail
        refine HF.out.mono ?_
        rintro e w1 ⟨rfl, hE⟩
        have lt0 := World.block_lt_of_cell? _ _ hcell
        have lt1 := World.block_lt_of_cell? _ _ hnum
        obtain ⟨xc, xf⟩ := hE.cells
        replace hfro := (xf _ (R * 15 + C) lt0).trans hfro
        replace hfree := (xf _ 0 lt1).trans hfree
        replace hcell := hE.cell hcell
        replace hnum := hE.cell hnum
        replace hfn := hE.cell hfn
        have hnum2 : (w1.setCell ⟨g, R * 15 + C, none⟩ (.bool true)).cell? ⟨h, 0, none⟩ = some (.int .i64 (cnt N S : Nat)) := by
          rw [World.cell?_setCell_other _ _ _ _ (fun q => by simp at q <;> omega)]; exact hnum
        have hwr : IntKind.i64.wrap (((cnt N S : Nat) : Int) + 1) = ((cnt N S : Nat) : Int) + 1 := IntWalk.i64_in _ (by omega)
        have HE := hid (((HX.out.trans hE).setCell (p := ⟨g, R * 15 + C, none⟩) hg (.bool true)).setCell (p := ⟨h, 0, none⟩) hh (.int .i64 (((cnt N S : Nat) : Int) + 1)))
        have HJ1 := hid (HJ.out _ hE)
        have hfn1 := HJ1.out.fn
        clear xc xf
        go_wp2_with fail
        with_reducible refine Calls.mono (IH.out f' (by omega) (upd S (mixN n R C)) (R - 1) C _ HE.out HJ1.out HF2.out (by omega) (by omega) (by omega) (by omega)) ?_
        rintro e w2 ⟨rfl, hx2, hJ2⟩
        have HX2 := hid hx2
        have HJ2 := hid hJ2
        have fn2 := hJ2.fn
        clear hx2 hJ2
        go_wp2_with fail
        with_reducible refine Calls.mono (IH.out f' (by omega) _ (R + 1) C _ HX2.out HJ2.out (fuel_vis HF2.out) (by omega) (by omega) (by omega) (by omega)) ?_
        rintro e w3 ⟨rfl, hx3, hJ3⟩
        have HX3 := hid hx3
        have HJ3 := hid hJ3
        have fn3 := hJ3.fn
        clear hx3 hJ3
        go_wp2_with fail
        with_reducible refine Calls.mono (IH.out f' (by omega) _ R (C - 1) _ HX3.out HJ3.out (fuel_vis (fuel_vis HF2.out)) (by omega) (by omega) (by omega) (by omega)) ?_
        rintro e w4 ⟨rfl, hx4, hJ4⟩
        have HX4 := hid hx4
        have HJ4 := hid hJ4
        have fn4 := hJ4.fn
        clear hx4 hJ4
        go_wp2_with fail
        with_reducible refine Calls.mono (IH.out f' (by omega) _ R (C + 1) _ HX4.out HJ4.out (fuel_vis (fuel_vis (fuel_vis HF2.out))) (by omega) (by omega) (by omega) (by omega)) ?_
        rintro e w5 ⟨rfl, hx5, hJ5⟩
        have HX5 := hid hx5
        have HJ5 := hid hJ5
        have fn5 := hJ5.fn
        clear hx5 hJ5
        go_wp2_with fail
        go_returns
        exact ⟨rfl, HX5.out, by rw [HV.out]; exact HJ5.out⟩
      · have HV : Hid (vis n (letF n cs) f S R C = S) := hid (vis_stop (by simp [hs]))
        rw [hs] at hcell
        have HJ := hid hJ
        have HX := hid hx
        clear hL hs hJ hx hf ha hc hB
        go_enter Tryz.func41, Tryz.ntmps41
        go_wp2_with fail
        refine HF.out.mono ?_
        rintro e w1 ⟨rfl, hE⟩
        replace hcell := hE.cell hcell
        go_wp2_with fail
        go_returns
        exact ⟨rfl, HX.out.trans hE, by rw [HV.out]; exact HJ.out.ext hE⟩
end Go.Proofs.YtmohfdfjlgekaaaGreatDoor
