/- WordOfForm, by the reference. Conditions: at most 2^20 bytes. -/
import Derived.Test.YtbgmpecifjdepaaCh09c
namespace Go.Proofs.Ytbgmpecifjdepaa
set_option linter.unusedVariables false
set_option linter.unusedSimpArgs false
open Go Go.RowKit
theorem wordOk_no {x : ByteArray} {k : Nat} (hk : k < x.size) (h : bAt x k = 62) : wordOk x = false := by
  have : allB smallB x = false := allB_no smallB x k hk (by rw [bAt_eq x k hk, h]; rfl)
  unfold wordOk
  rw [this, Bool.and_false]
theorem bAt_right (a b : ByteArray) (k : Nat) (h : k < b.size) : bAt (a ++ b) (a.size + k) = bAt b k := by
  unfold bAt
  rw [appL, List.getD_eq_getElem?_getD, List.getD_eq_getElem?_getD, List.getElem?_append_right (by rw [lenL]; omega), lenL, Nat.add_sub_cancel_left]
theorem bAt_extract (s : ByteArray) (i k : Nat) (h : i + k < s.size) : bAt (s.extract i s.size) k = bAt s (i + k) := by
  unfold bAt
  rw [Go.Lib.extract_to_end, List.getD_eq_getElem?_getD, List.getD_eq_getElem?_getD, List.getElem?_drop]
theorem cut_at {s : ByteArray} {j : Nat} (h : posS s = j) : cutB s = s.extract 0 j ∧ cutE s = s.extract (j + 1) s.size := by
  unfold cutB cutE
  rw [h, if_pos (by omega), if_pos (by omega), Int.toNat_natCast]
  exact ⟨rfl, rfl⟩
theorem cut_no {s : ByteArray} (h : posS s = -1) : cutB s = s ∧ cutE s = ⟨#[]⟩ := by
  unfold cutB cutE
  rw [h, if_neg (by omega), if_neg (by omega)]
  exact ⟨rfl, rfl⟩
theorem okF_many {s : ByteArray} {j p : Nat} (h : posS s = j) (hp : j < p) (hs : p < s.size) (h62 : bAt s p = 62) : okF s = false := by
  have : wordOk (wordF s) = false := by
    unfold wordF
    obtain ⟨e1, e2⟩ := cut_at h
    have hk : p - (j + 1) < (cutE s).size := by rw [e2, ByteArray.size_extract]; omega
    refine wordOk_no (k := (revS (cutB s)).size + (p - (j + 1))) (by rw [ByteArray.size_append]; omega) ?_
    rw [bAt_right _ _ _ hk, e2, bAt_extract _ _ _ (by omega), show j + 1 + (p - (j + 1)) = p by omega]
    exact h62
  unfold okF
  rw [this, Bool.and_false]
theorem form_one (s : ByteArray) : formS (revS s) s.size = s := by
  unfold formS
  rw [if_pos (revS_size s).symm, revS_revS]
theorem form_two {B E : ByteArray} (h : 0 < E.size) : formS (revS B ++ E) B.size = (B ++ ⟨#[62]⟩) ++ E := by
  unfold formS
  have hl := app_left (revS B) E
  have hr := app_right (revS B) E
  rw [revS_size] at hl hr
  rw [if_neg (by rw [ByteArray.size_append, revS_size]; omega), hl, hr, revS_revS]
theorem form_end {B : ByteArray} : formS (revS B ++ ⟨#[]⟩) B.size = B := by
  rw [app_nil, form_one]
def l09V (s : ByteArray) : Value := if okF s then .tuple #[.string (wordF s), .int .i64 (cutB s).size, .bool true] else .tuple #[.string ⟨#[]⟩, .int .i64 0, .bool false]
set_option maxHeartbeats 2000000 in
theorem l09Word_any (s : ByteArray) (w : World) (hs : s.size ≤ 1048576) : Calls Try.prog 24 #[.string s] w (Ret (l09V s) w) := by
  have H : Hid (l09V s = if okF s then .tuple #[.string (wordF s), .int .i64 (cutB s).size, .bool true] else .tuple #[.string ⟨#[]⟩, .int .i64 0, .bool false]) := hid rfl
  have HO : Hid (okF s = (decide (0 < (cutB s).size) && (decide (posS s < 0) || decide (0 < (cutE s).size)) && wordOk (wordF s))) := hid rfl
  have HS := hid (l01Split_any s w hs)
  rcases split_cases s with ⟨h1, h2⟩ | ⟨j, h1, h2, h3, h4⟩ | ⟨h0, j, p, h1, h2, h3, h4⟩
  · obtain ⟨e1, e2⟩ := cut_no h1
    have HWF : Hid (wordF s = revS s) := hid (by unfold wordF; rw [e1, e2, app_nil])
    rw [h2] at HS
    rw [e1, HWF.out] at H
    rw [e1, HWF.out, h1] at HO
    have HFM := hid (form_one s)
    have hz := revS_size s
    have HBK := hid (fun w => l08Back_any s w hs)
    obtain ⟨W, hW⟩ : ∃ W, revS s = W := ⟨_, rfl⟩
    rw [hW] at H HO HFM HBK hz
    have HIW := hid (fun w => sIsWord_any W w (by omega))
    have HFW := hid (fun w => l09Form_any W s.size w (by omega) (by omega))
    rw [HFM.out] at HFW
    clear e1 e2 h1 h2 hW
    go_enter Try.func24, Try.ntmps24
    go_wp2_with fail
    refine HS.out.mono ?_
    rintro e w1 ⟨a, c, rfl, hrd, hx⟩
    obtain ⟨b, o, rfl, hc⟩ := hrd.at (by simp [strsV])
    have t0 : w1.cell? ⟨b, o, none⟩ = some (.string s) := hc 0 _ rfl
    clear hc hrd HS
    go_wp2_with fail
    refine (HBK.out _).mono ?_
    rintro e w2 ⟨rfl, hx2⟩
    replace hx := hx.trans hx2
    clear hx2 t0 HBK
    by_cases hs0 : s.size = 0
    · have HF : Hid (okF s = false) := hid (by rw [HO.out, decide_eq_false (by omega)]; rfl)
      rw [HF.out] at H
      go_wp2_with fail
      go_returns
      exact ⟨by rw [H.out]; rfl, hx⟩
    · rw [decide_eq_true (show 0 < s.size by omega)] at HO
      cases hw : wordOk W
      · have HF : Hid (okF s = false) := hid (by rw [HO.out, hw]; rfl)
        have HW0 := hid (fun w => by have := HIW.out w; rw [hw] at this; exact this)
        rw [HF.out] at H
        clear hw HO
        go_wp2_with fail
        refine (HW0.out _).mono ?_
        rintro e w3 ⟨rfl, rfl⟩
        go_wp2_with fail
        go_returns
        exact ⟨by rw [H.out]; rfl, hx⟩
      · have HF : Hid (okF s = true) := hid (by rw [HO.out, hw]; rfl)
        have HW0 := hid (fun w => by have := HIW.out w; rw [hw] at this; exact this)
        rw [HF.out] at H
        clear hw HO
        go_wp2_with fail
        refine (HW0.out _).mono ?_
        rintro e w3 ⟨rfl, rfl⟩
        go_wp2_with fail
        refine (HFW.out _).mono ?_
        rintro e w4 ⟨rfl, hx4⟩
        go_wp2_with fail
        go_returns
        exact ⟨by rw [H.out]; rfl, hx.trans hx4⟩
  · obtain ⟨e1, e2⟩ := cut_at h1
    have HWH := hid (whole h2 h3)
    rw [h4] at HS
    rw [← e1, ← e2] at HS HWH
    have HWF : Hid (wordF s = revS (cutB s) ++ cutE s) := hid rfl
    have hbs : (cutB s).size < s.size := by rw [e1, ByteArray.size_extract]; omega
    have hbe : (cutB s).size + (cutE s).size ≤ s.size := by rw [e1, e2, ByteArray.size_extract, ByteArray.size_extract]; omega
    rw [HWF.out] at H
    rw [HWF.out, decide_eq_false (show ¬ posS s < 0 by omega), Bool.false_or] at HO
    obtain ⟨B, hB⟩ : ∃ B, cutB s = B := ⟨_, rfl⟩
    obtain ⟨E, hE⟩ : ∃ E, cutE s = E := ⟨_, rfl⟩
    rw [hB] at HS HWH HO H hbs hbe
    rw [hE] at HS HWH HO H hbe
    have HFM : Hid (0 < E.size → formS (revS B ++ E) B.size = s) := hid (fun h => by rw [form_two h]; exact HWH.out)
    have HFN : Hid (E = ⟨#[]⟩ → formS (revS B ++ E) B.size = B) := hid (fun h => by rw [h]; exact form_end)
    have HBK := hid (fun w => l08Back_any B w (by omega))
    have sR : (revS B).size = B.size := revS_size B
    obtain ⟨R, hR⟩ : ∃ R, revS B = R := ⟨_, rfl⟩
    rw [hR] at H HO HFM HFN HBK sR
    obtain ⟨W, hW⟩ : ∃ W, R ++ E = W := ⟨_, rfl⟩
    have hWz : W.size = B.size + E.size := by rw [← hW, ByteArray.size_append, sR]
    rw [hW] at H HO HFM HFN
    have HIW := hid (fun w => sIsWord_any W w (by omega))
    have HFW := hid (fun w => l09Form_any W B.size w (by omega) (by omega))
    have HWE := hid hW
    clear e1 e2 h1 h2 h3 h4 hW hB hE hR HWF
    go_enter Try.func24, Try.ntmps24
    go_wp2_with fail
    refine HS.out.mono ?_
    rintro e w1 ⟨a, c, rfl, hrd, hx⟩
    obtain ⟨b, o, rfl, hc⟩ := hrd.at (by simp [strsV])
    have t0 : w1.cell? ⟨b, o, none⟩ = some (.string B) := hc 0 _ rfl
    have t1 : w1.cell? ⟨b, o + 1, none⟩ = some (.string E) := hc 1 _ rfl
    clear hc hrd HS
    go_wp2_with fail
    refine (HBK.out _).mono ?_
    rintro e w2 ⟨rfl, hx2⟩
    replace hx := hx.trans hx2
    replace t0 := hx2.cell t0
    replace t1 := hx2.cell t1
    clear hx2 HBK
    by_cases hs0 : B.size = 0
    · have HF : Hid (okF s = false) := hid (by rw [HO.out, decide_eq_false (by omega)]; rfl)
      rw [HF.out] at H
      go_wp2_with fail
      go_returns
      exact ⟨by rw [H.out]; rfl, hx⟩
    · rw [decide_eq_true (show 0 < B.size by omega), Bool.true_and] at HO
      cases hw : wordOk W
      · have HF : Hid (okF s = false) := hid (by rw [HO.out, hw, Bool.and_false])
        have HW0 := hid (fun w => by have := HIW.out w; rw [hw] at this; exact this)
        rw [HF.out] at H
        clear hw HO
        go_wp2_with fail
        rw [HWE.out]
        refine (HW0.out _).mono ?_
        rintro e w3 ⟨rfl, rfl⟩
        go_wp2_with fail
        go_returns
        exact ⟨by rw [H.out]; rfl, hx⟩
      · have HW0 := hid (fun w => by have := HIW.out w; rw [hw] at this; exact this)
        by_cases he : E.size = 0
        · have HF : Hid (okF s = false) := hid (by rw [HO.out, decide_eq_false (by omega), Bool.false_and])
          rw [HF.out] at H
          rw [HFN.out (nil_of he)] at HFW
          have hne : (B.toList == s.toList) = false := by
            rw [toList_beq, decide_eq_false]
            intro e
            rw [e] at hbs
            exact Nat.lt_irrefl _ hbs
          clear hw HO he
          go_wp2_with fail
          rw [HWE.out]
          refine (HW0.out _).mono ?_
          rintro e w3 ⟨rfl, rfl⟩
          go_wp2_with fail
          refine (HFW.out _).mono ?_
          rintro e w4 ⟨rfl, hx4⟩
          go_wp2_with fail
          go_returns
          exact ⟨by rw [H.out]; rfl, hx.trans hx4⟩
        · have HF : Hid (okF s = true) := hid (by rw [HO.out, hw, decide_eq_true (by omega)]; rfl)
          rw [HF.out] at H
          rw [HFM.out (by omega)] at HFW
          clear hw HO he
          go_wp2_with fail
          rw [HWE.out]
          refine (HW0.out _).mono ?_
          rintro e w3 ⟨rfl, rfl⟩
          go_wp2_with fail
          refine (HFW.out _).mono ?_
          rintro e w4 ⟨rfl, hx4⟩
          go_wp2_with fail
          go_returns
          exact ⟨by rw [H.out]; rfl, hx.trans hx4⟩
  · have HF : Hid (okF s = false) := hid (okF_many h1 h2 h3 h4)
    rw [HF.out] at H
    have hl := splitL_length s
    have hl2 := (cutS_le s s.size).2
    obtain ⟨l, hll⟩ : ∃ l, splitL s = l := ⟨_, rfl⟩
    rw [hll] at HS h0 hl
    clear h1 h2 h3 h4 hll HO
    obtain ⟨m, hm⟩ : ∃ m, l.length = m := ⟨_, rfl⟩
    obtain ⟨q, hq⟩ : ∃ q, (cutS s s.size).1.length = q := ⟨_, rfl⟩
    rw [hq] at hl hl2
    go_enter Try.func24, Try.ntmps24
    go_wp2_with fail
    refine HS.out.mono ?_
    rintro e w1 ⟨a, c, rfl, hrd, hx⟩
    rw [hm]
    rw [hm] at h0 hl
    clear hrd HS
    go_wp2_with fail
    go_returns
    exact ⟨by rw [H.out]; rfl, hx⟩
theorem sWordOfForm_any (s : ByteArray) (w : World) (hs : s.size ≤ 1048576) : Calls Try.prog 11 #[.string s] w (Ret (wofV s) w) := by
  have H : Hid (wofV s = if okF s then .tuple #[.string (wordF s), .int .i64 (cutB s).size, .int .i64 0] else .tuple #[.string ⟨#[]⟩, .int .i64 0, .int .i64 7]) := hid rfl
  have HC := hid (l09Word_any s w hs)
  unfold l09V at HC
  cases hk : okF s
  · rw [hk] at H HC
    clear hk
    go_enter Try.func11, Try.ntmps11
    go_wp2_with fail
    refine HC.out.mono ?_
    rintro e w1 ⟨rfl, hx⟩
    go_wp2_with fail
    go_returns
    exact ⟨by rw [H.out]; rfl, hx⟩
  · rw [hk] at H HC
    clear hk
    go_enter Try.func11, Try.ntmps11
    go_wp2_with fail
    refine HC.out.mono ?_
    rintro e w1 ⟨rfl, hx⟩
    go_wp2_with fail
    go_returns
    exact ⟨by rw [H.out]; rfl, hx⟩
end Go.Proofs.Ytbgmpecifjdepaa
