/- Plays that are valid: ValidPlay, by both. Conditions: at most 2^20 bytes; the library's tables as they were laid. -/
import Derived.Test.YtcgedkpbobgkhaaGreatDoorCh12d
import Derived.Test.YtcgedkpbobgkhaaGreatDoorCh12e
namespace Go.Proofs.YtcgedkpbobgkhaaGreatDoor
set_option linter.unusedVariables false
set_option linter.unusedSimpArgs false
open Go Go.RowKit
theorem okB_parts {n : Int} {p c : ByteArray} (h : okB n p c = true) : allB premB p = true ∧ allB cellB c = true := by
  simp only [okB, Bool.and_eq_true] at h
  exact h.2.2.2
theorem full_flat (d : Bool) (n : Nat) (cs : ByteArray) (r c i : Int) (h1 : 5 ≤ n) (h2 : n ≤ 15) (hs : cs.size = n * n) (ha : allB cellB cs = true) : fullB n (flatS d n cs) (flatR d r c) (flatC d r c + i) = letB (plAt n cs r c d i) := by
  have hs' : (cs.size : Int) = (n : Int) * n := by rw [hs, Int.natCast_mul]
  unfold fullB
  rw [flat_at]
  cases d
  · exact full_eq (by omega) (by omega) hs' ha _ _
  · rw [show inRC (n : Int) (flatR true r c) (flatC true r c + i) = inRC n (r + i) c from inRC_comm _ _ _]
    exact full_eq (by omega) (by omega) hs' ha _ _
theorem fits_play (d : Bool) (n : Nat) (cs : ByteArray) (r c : Int) (s : ByteArray) (h1 : 5 ≤ n) (h2 : n ≤ 15) (hs : cs.size = n * n) (ha : allB cellB cs = true) (hm : mainB s = true) : fitsF n (flatS d n cs) (flatR d r c) (flatC d r c) s = playB n cs r c d s := by
  unfold fitsF playB
  rw [hm, Bool.true_and, flat_in, show flatC d r c - 1 = flatC d r c + (-1) from rfl, full_flat d n cs r c (-1) h1 h2 hs ha, full_flat d n cs r c s.size h1 h2 hs ha, flat_lim]
  congr 5
  rw [← flat_lim]
  have : (fun i : Nat => sqAt n (flatS d n cs) (flatR d r c) (flatC d r c + (i : Nat))) = fun i : Nat => plAt n cs r c d i := by
    funext i
    exact flat_at d n cs r c i
  rw [this]
set_option maxHeartbeats 1000000 in
theorem l12Ok_any (b o : Nat) (n : Int) (p cs : ByteArray) (r c : Int) (d : Bool) (s : ByteArray) (w : World) (hB : BdAt w b o n p cs) (hp : p.size ≤ 1048576) (hc : cs.size ≤ 1048576) (hs : s.size ≤ 1048576) :
    Calls Tryz.prog 19 #[.pointer (some ⟨b, o, none⟩), playV r c d s] w (Ret (.bool (okP n p cs r c d s)) w) := by
  have H : Hid (okP n p cs r c d s = (okB n p cs && playB n cs r c d s)) := hid rfl
  have HP : Hid (mainB s = false → playB n cs r c d s = false) := hid (fun h => by unfold playB; rw [h]; rfl)
  have HB := hid hB
  clear hB
  have hE : Ext w (w.alloc (.cells #[.int .i64 r, .int .i64 c, .bool d, .string s] 38)) := (Ext.refl w).alloc _
  go_enter Tryz.func19, Tryz.ntmps19
  go_wp2_with fail
  refine (l11Ok_any b o n p cs _ (HB.out.ext hE) hp hc).mono ?_
  rintro e w1 ⟨rfl, hD⟩
  have a0 := hD.ext.cell (b := w.heap.size) (o := 0) (v := .int .i64 r) (by simp)
  have a1 := hD.ext.cell (b := w.heap.size) (o := 1) (v := .int .i64 c) (by simp)
  have a2 := hD.ext.cell (b := w.heap.size) (o := 2) (v := .bool d) (by simp)
  have a3 := hD.ext.cell (b := w.heap.size) (o := 3) (v := .string s) (by simp)
  replace hE := hE.trans hD.ext
  clear hD
  cases hk : okB n p cs
  · have HK := hid hk
    clear hk
    go_wp2_with fail
    go_returns
    exact ⟨ret_bool (by rw [H.out, HK.out]; rfl), hE⟩
  · have HK := hid hk
    obtain ⟨h1, h2, h3, h4⟩ := okB_true hk
    have HA := hid (okB_parts hk)
    obtain ⟨m, rfl⟩ := nat_of h1
    have H3 : Hid (p.size = m * m) := hid (by rw [← Int.natCast_mul] at h3; omega)
    have H4 : Hid (cs.size = m * m) := hid (by rw [← Int.natCast_mul] at h4; omega)
    clear hk h3 h4
    go_wp2_with fail
    refine (l12Word_any s _ hs).mono ?_
    rintro e w2 ⟨rfl, rfl⟩
    cases hm : mainB s
    · have HM := hid hm
      clear hm
      go_wp2_with fail
      go_returns
      exact ⟨ret_bool (by rw [H.out, HP.out HM.out, Bool.and_false]), hE⟩
    · have HM := hid hm
      obtain ⟨m1, m2, -⟩ := mainB_true hm
      clear hm
      go_wp2_with fail
      refine (l12Flat_any b o m p cs r c d s _ (HB.out.ext hE) H3.out H4.out (by omega) (by omega)).mono ?_
      rintro e w2 ⟨he, hx⟩
      unfold flatV at he
      subst he
      have HF := hid (fits_play d m cs r c s (by omega) (by omega) H4.out HA.out.2 HM.out)
      have HZ := hid (flatS_size d m cs H4.out)
      obtain ⟨P2, hP2⟩ : ∃ P2, flatS d m p = P2 := ⟨_, rfl⟩
      obtain ⟨C2, hC2⟩ : ∃ C2, flatS d m cs = C2 := ⟨_, rfl⟩
      obtain ⟨R1, hR1⟩ : ∃ R1, flatR d r c = R1 := ⟨_, rfl⟩
      obtain ⟨C1, hC1⟩ : ∃ C1, flatC d r c = C1 := ⟨_, rfl⟩
      rw [hP2, hC2, hR1, hC1]
      rw [hC2, hR1, hC1] at HF
      rw [hC2] at HZ
      clear hP2 hC2 hR1 hC1
      have hE2 := hE.trans hx
      go_wp2_with fail
      refine (l12Fits_any w2.heap.size 0 m P2 C2 R1 C1 s _ ⟨by go_cell, by go_cell, by go_cell⟩ h1 h2 (by rw [HZ.out, Int.natCast_mul]) m1 m2).mono ?_
      rintro e w3 ⟨rfl, hy⟩
      go_wp2_with fail
      go_returns
      exact ⟨ret_bool (by rw [H.out, HK.out, HF.out]; rfl), hE2.trans ((((Ext.refl w2).alloc _).alloc _).trans hy)⟩
end Go.Proofs.YtcgedkpbobgkhaaGreatDoor
