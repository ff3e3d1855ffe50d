/- Lists of strings in memory: marks. Conditions: at most 2^20 elements. -/
import Derived.Test.YtmohfdfjlgekaaaDoorStrs
namespace Go.Proofs.YtmohfdfjlgekaaaDoor
set_option linter.unusedVariables false
set_option linter.unusedSimpArgs false
open Go Go.RowKit
theorem mixed_start (l : List ByteArray) (k : Nat) : ((List.range l.length).map fun q => if q < 0 then Value.string (markTx (k + q)) else .string (l.getD q ⟨#[]⟩)) = strsV l := by
  apply List.ext_getElem
  · simp [strsV]
  · intro j h1 h2
    simp at h1
    simp [strsV, h1]
theorem mixed_end (l : List ByteArray) (k : Nat) : ((List.range l.length).map fun q => if q < l.length then Value.string (markTx (k + q)) else .string (l.getD q ⟨#[]⟩)) = strsV (marksL l.length k) := by
  apply List.ext_getElem
  · simp [strsV, marksL]
  · intro j h1 h2
    simp at h1
    simp [strsV, marksL, h1]
set_option maxHeartbeats 400000 in
theorem markStringS_nil (a : Option Addr) (c k : Nat) (w : World) : Calls Tryd.prog 10 #[.slice a 0 c, .int .i64 k] w (Same (.int .i64 k) w) := by
  go_enter Tryd.func10, Tryd.ntmps10
  go_wp2_with fail
  go_loop [1, 5] (fun t i => t = .int .i64 k ∧ i = .int .i64 0) (fun _ i => 0)
  case atStart => exact ⟨rfl, rfl⟩
  case round =>
    obtain ⟨rfl, rfl⟩ := hrel
    go_wp2_with fail
    go_returns
    exact ⟨rfl, rfl⟩
set_option maxHeartbeats 400000 in
theorem markStringS_any (g : Nat) (c : Nat) (l : List ByteArray) (k : Nat) (w : World) (h : Wr w g (strsV l)) (hl : l.length ≤ 1048576) (hk1 : 1 ≤ k) (hk2 : k ≤ 2000000) :
    Calls Tryd.prog 10 #[.slice (some ⟨g, 0, none⟩) l.length c, .int .i64 k] w fun e w' => e = .returned (.int .i64 ((k + l.length : Nat) : Int)) ∧ Wr w' g (strsV (marksL l.length k)) ∧ Exc g w w' := by
  have HS := hid (mixed_start l k)
  have HE := hid (mixed_end l k)
  rw [← HS.out] at h
  have hg := h.1
  have HW := hid h
  clear h
  go_enter Tryd.func10, Tryd.ntmps10
  go_wp2_with fail
  go_loopw [1, 5] (fun t i wr => ∃ j : Nat, j ≤ l.length ∧ i = .int .i64 j ∧ t = .int .i64 ((k + j : Nat) : Int) ∧ Hid (Wr wr g ((List.range l.length).map fun q => if q < j then Value.string (markTx (k + q)) else .string (l.getD q ⟨#[]⟩))) ∧ Exc g w wr) (fun _ i _ => l.length - (intOf i).toNat)
  case atStart => exact ⟨0, by omega, rfl, rfl, HW, Exc.refl _ _⟩
  case round =>
    clear HW HS
    obtain ⟨j, hj, rfl, rfl, hwr, hx⟩ := hrel
    by_cases hlt : j < l.length
    · go_wp2_with fail
      refine (markText_any (k + j) _ (by omega) (by omega)).mono ?_
      rintro e w1 ⟨rfl, hy⟩
      have hw1 := hwr.out.ext hy
      have HZ := hid (hw1.set j (by simpa using hlt) (.string (markTx (k + j))))
      obtain ⟨f1, f2⟩ := hw1.fit j (by simpa using hlt)
      clear hw1
      go_wp2_with fail
      go_roundw
      case rel =>
        refine ⟨j + 1, by omega, by go_num, by go_num, hid ?_, (hx.ext hy).setCell _ _⟩
        have e := set_map_range2 l.length j (fun q => .string (markTx (k + q))) (fun q => .string (l.getD q ⟨#[]⟩)) hlt
        have := HZ.out
        rw [e] at this
        exact this
      case measure => simp [intOf]; omega
    · obtain rfl : j = l.length := by omega
      rw [HE.out] at hwr
      go_wp2_with fail
      go_returns
      exact ⟨rfl, hwr.out, hx⟩
set_option maxHeartbeats 1000000 in
theorem heldStringS_any (a : Option Addr) (c n k : Nat) (w : World) (h : Rd w a (strsV (marksL n k))) (hl : n ≤ 1048576) (hk1 : 1 ≤ k) (hk2 : k ≤ 2000000) :
    Calls Tryd.prog 11 #[.slice a n c, .int .i64 k] w (Ret (.int .i64 ((k + n : Nat) : Int)) w) := by
  have HR := hid h
  clear h
  go_enter Tryd.func11, Tryd.ntmps11
  go_wp2_with fail
  go_loopw [1, 5] (fun t i wr => ∃ j : Nat, j ≤ n ∧ i = .int .i64 j ∧ t = .int .i64 ((k + j : Nat) : Int) ∧ Ext w wr) (fun _ i _ => n - (intOf i).toNat)
  case atStart => exact ⟨0, by omega, rfl, rfl, Ext.refl _⟩
  case round =>
    obtain ⟨j, hj, rfl, rfl, hx⟩ := hrel
    by_cases hlt : j < n
    · obtain ⟨b, o, rfl, hc⟩ := (HR.out.ext hx).str (by rw [marksL_length]; omega)
      have hck := hc j (by rw [marksL_length]; exact hlt)
      have e : (marksL n k)[j]'(by rw [marksL_length]; exact hlt) = markTx (k + j) := by simp [marksL]
      rw [e] at hck
      clear hc e
      obtain ⟨q, hq⟩ : ∃ q, o + j = q := ⟨_, rfl⟩
      rw [hq] at hck
      go_wp2_with fail
      refine wp_region_flow_at (C := Ext) 6 [fun v _ => v = .slice (some ⟨b, o, none⟩) n c, fun v _ => v = .int .i64 j, fun v _ => v = .pointer (some ⟨b, q, none⟩), fun v _ => v = .string (markTx (k + j)), fun v _ => v = .int .i64 ((k + j : Nat) : Int), fun v _ => v = .string (markTx (k + j))]
        [[(0, none)], [(5, none)], [(12, some 0), (13, some 1)], [(14, some 2)], [(1, none)], [(16, some 4)]] (by kernel_rfl) (by kernel_rfl) Ext.refl (fun _ _ _ => Ext.trans) ?_ ?_ ?_
      · intro F hF
        simp only [List.mem_cons, List.not_mem_nil, or_false] at hF
        rcases hF with rfl | rfl | rfl | rfl | rfl | rfl <;> exact fun _ _ _ h _ => h
      · refine ⟨?_, ?_, ?_, ?_, ?_, ?_, trivial⟩
        · rintro ρ w1 hw hcst hfn hk
          clear hw
          simp only [known, List.getD_cons_zero, List.getD_cons_succ, Nat.reduceAdd] at hk
          simp only [List.getD_cons_zero, List.getD_cons_succ, Nat.reduceAdd, flowAt]
          go_simp
          exact ⟨Ext.refl _, by first | rfl | trivial⟩
        · rintro ρ w1 hw hcst hfn hk
          clear hw
          simp only [known, List.getD_cons_zero, List.getD_cons_succ, Nat.reduceAdd] at hk
          simp only [List.getD_cons_zero, List.getD_cons_succ, Nat.reduceAdd, flowAt]
          go_simp
          exact ⟨Ext.refl _, by first | rfl | trivial⟩
        · rintro ρ w1 hw hcst hfn hk
          simp only [known, List.getD_cons_zero, List.getD_cons_succ, Nat.reduceAdd] at hk
          simp only [List.getD_cons_zero, List.getD_cons_succ, Nat.reduceAdd, flowAt]
          go_simp
          exact ⟨Ext.refl _, by first | rfl | rw [hq]⟩
        · rintro ρ w1 hw hcst hfn hk
          have c0 := hw.cell (b := b) (o := q) (v := .string (markTx (k + j))) (by first | (simp [*]; done) | (simp [*, go_sem]; done) | go_cell)
          clear hw
          simp only [known, List.getD_cons_zero, List.getD_cons_succ, Nat.reduceAdd] at hk
          simp only [List.getD_cons_zero, List.getD_cons_succ, Nat.reduceAdd, flowAt]
          go_simp
          exact ⟨Ext.refl _, by first | rfl | trivial⟩
        · rintro ρ w1 hw hcst hfn hk
          clear hw
          simp only [known, List.getD_cons_zero, List.getD_cons_succ, Nat.reduceAdd] at hk
          simp only [List.getD_cons_zero, List.getD_cons_succ, Nat.reduceAdd, flowAt]
          go_simp
          exact ⟨Ext.refl _, by first | rfl | trivial⟩
        · rintro ρ w1 hw hcst hfn hk
          simp only [known, List.getD_cons_zero, List.getD_cons_succ, Nat.reduceAdd] at hk
          simp only [List.getD_cons_zero, List.getD_cons_succ, Nat.reduceAdd, flowAt]
          go_simp
          exact flow_ret (markText_any _ _ (by omega) (by omega))
      intro vs w1 hw hf
      simp only [flowFacts, Nat.reduceAdd] at hf
      obtain ⟨e0, e1, e2, e3, e4, e5, -⟩ := hf
      simp only [List.take_succ_cons, List.take_zero, List.drop_succ_cons, List.drop_zero, putAll, Act.put, Nat.reduceAdd, List.setIfInBounds_toArray, List.set_cons_zero, List.set_cons_succ, e0, e1, e2, e3, e4, e5]
      clear e0 e1 e2 e3 e4 e5
      have hx2 := hx.trans ((Ext.refl _).drew.trans hw)
      clear hw
      go_wp2_with fail
      go_roundw
      case rel => exact ⟨j + 1, by omega, by go_num, by go_num, hx2⟩
      case measure => simp [intOf]; omega
    · obtain rfl : j = n := by omega
      go_wp2_with fail
      go_returns
      exact ⟨rfl, hx⟩
end Go.Proofs.YtmohfdfjlgekaaaDoor
