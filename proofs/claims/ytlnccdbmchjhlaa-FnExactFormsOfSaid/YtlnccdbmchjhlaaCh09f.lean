/- FormsOf, by both. Conditions: at most 2^20 bytes. -/
import Derived.Test.YtlnccdbmchjhlaaCh09e
namespace Go.Proofs.Ytlnccdbmchjhlaa
set_option linter.unusedVariables false
set_option linter.unusedSimpArgs false
open Go Go.RowKit
theorem ownR_row {w : World} {B : Nat} {e : TypeId} {v : Value} {n : Nat} {xs : List Value} (h : w.ownsRow B e 1 v n xs) (hn : 0 < n) : ∃ a c, v = .slice a n c ∧ OwnR w B a xs := by
  have h0 := h
  rcases h.2 with ⟨_, h1⟩ | ⟨g, cap, cur, hv, hg, hh, r⟩
  · omega
  · subst hv
    exact ⟨_, cap, rfl, .inr ⟨g, rfl, hg, Wr.of h0⟩⟩
set_option maxHeartbeats 400000 in
theorem Collect_any (Bn : Nat) (x : ByteArray) (hx : x.size ≤ 1048576) (w : World) (hb : w.cell? ⟨Bn, 0, none⟩ = some (.string x)) :
    Calls Try.prog 18 #[.func (.func 32) #[] #[.pointer (some ⟨Bn, 0, none⟩)]] w fun e w' => ∃ v, e = .returned v ∧ w'.ownsRow w.heap.size 9 1 v x.size (strsV (formL x x.size)) ∧ Ext w w' := by
  have H := hid (AppendSeq_any Bn x hx w hb)
  clear hb
  go_enter Try.func18, Try.ntmps18
  go_wp2_with fail
  refine H.out.mono ?_
  rintro e w1 ⟨v, rfl, ho, hE⟩
  go_wp2_with fail
  go_returns
  exact ⟨v, rfl, ho, hE⟩
set_option maxHeartbeats 1000000 in
theorem FormsOf_any (x : ByteArray) (w : World) (hx : x.size ≤ 1048576) : Calls Try.prog 6 #[.string x] w (RetF (fosL x) (fosC x) w) := by
  have H1 : Hid (fosL x = if wordOk x then formL x x.size else []) := hid rfl
  have H2 : Hid (fosC x = if wordOk x then 0 else 7) := hid rfl
  have HLE := hid (formL_length x)
  have HW := hid (fun w => IsWord_any x w hx)
  cases hk : wordOk x
  · rw [hk] at H1 H2 HW
    clear hk
    go_enter Try.func6, Try.ntmps6
    go_wp2_with fail
    refine (HW.out _).mono ?_
    rintro e w1 ⟨rfl, hE⟩
    go_wp2_with fail
    go_returns
    exact ⟨none, 0, by rw [H1.out, H2.out]; rfl, .inl (by rw [H1.out]; rfl), hE⟩
  · have hpos : 0 < x.size := by
      unfold wordOk at hk
      simp only [Bool.and_eq_true, decide_eq_true_eq] at hk
      omega
    rw [hk] at H1 H2 HW
    have H3 : Hid (fosL x = formL x x.size) := hid H1.out
    have H4 : Hid (fosC x = 0) := hid H2.out
    clear hk H1 H2
    go_enter Try.func6, Try.ntmps6
    go_wp2_with fail
    refine (HW.out _).mono ?_
    rintro e w1 ⟨rfl, hE⟩
    go_wp2_with fail
    refine (forms_any x _).mono ?_
    rintro e w2 ⟨rfl, hw2⟩
    have hE2 : Ext w1 w2 := by rw [hw2]; exact (Ext.refl _).alloc _
    have HC := hid (Collect_any w1.heap.size x hx w2 (by rw [hw2]; simp))
    have hsz := hE2.size
    clear hw2
    go_wp2_with fail
    refine HC.out.mono ?_
    rintro e w3 ⟨v, rfl, ho, hE3⟩
    obtain ⟨a, c, rfl, hO⟩ := ownR_row ho hpos
    have HO := hid hO
    have hsz2 := hE.size
    clear ho hO
    go_wp2_with fail
    go_returns
    exact ⟨a, c, by rw [H3.out, H4.out, HLE.out]; rfl, by rw [H3.out]; exact HO.out.mono (by omega), (hE.trans hE2).trans hE3⟩
set_option maxHeartbeats 1000000 in
theorem sFormsOf_any (x : ByteArray) (w : World) (hx : x.size ≤ 1048576) : Calls Try.prog 5 #[.string x] w (RetF (fosL x) (fosC x) w) := by
  have H1 : Hid (fosL x = if wordOk x then formL x x.size else []) := hid rfl
  have H2 : Hid (fosC x = if wordOk x then 0 else 7) := hid rfl
  have HLE := hid (formL_length x)
  have HSU := hid (formL_succ x)
  have HW := hid (fun w => sIsWord_any x w hx)
  cases hk : wordOk x
  · rw [hk] at H1 H2 HW
    clear hk
    go_enter Try.func5, Try.ntmps5
    go_wp2_with fail
    refine (HW.out _).mono ?_
    rintro e w1 ⟨rfl, he⟩
    have hE : Ext w w1 := he ▸ Ext.refl w
    clear he
    go_wp2_with fail
    go_returns
    exact ⟨none, 0, by rw [H1.out, H2.out]; rfl, .inl (by rw [H1.out]; rfl), hE⟩
  · rw [hk] at H1 H2 HW
    have H3 : Hid (fosL x = formL x x.size) := hid H1.out
    have H4 : Hid (fosC x = 0) := hid H2.out
    have HF := hid (fun k w hk => l09Form_any x k w hx hk)
    clear hk H1 H2
    go_enter Try.func5, Try.ntmps5
    go_wp2_with fail
    refine (HW.out _).mono ?_
    rintro e w1 ⟨rfl, he⟩
    have hE : Ext w w1 := he ▸ Ext.refl w
    clear he
    have hsz1 := hE.size
    go_wp2_with fail
    go_loopw [4, 5] (fun v i wr => ∃ (k j cap : Nat) (a : Option Addr), k + 1 = j ∧ k ≤ x.size ∧ v = .slice a k cap ∧ i = .int .i64 (j : Int) ∧ Own wr (w1.heap.size + 1) 9 1 a k cap (strsV (formL x k)) ∧ Ext (w1.alloc (.cells #[] 9)) wr) (fun _ i _ => x.size + 1 - (intOf i).toNat)
    case atStart => exact ⟨0, 1, 0, some ⟨w1.heap.size, 0, none⟩, rfl, by omega, rfl, rfl, by simpa [strsV, formL] using Own.empty _ _ _ _ _, Ext.refl _⟩
    case round =>
      obtain ⟨k, j, cap, a, hkj, hk, rfl, rfl, hown, hext⟩ := hrel
      have hsz := hext.size
      simp only [World.size_alloc] at hsz
      by_cases hlt : j ≤ x.size
      · have HS := hid (HSU.out k)
        rw [hkj] at HS
        have HFk := hid (fun w => HF.out j w hlt)
        obtain ⟨R, hR⟩ : ∃ R, formS x j = R := ⟨_, rfl⟩
        rw [hR] at HS HFk
        clear hR
        have HOWN := hid hown
        clear hown
        go_wp2_with fail
        refine (HFk.out _).mono ?_
        rintro e w2 ⟨rfl, hx2⟩
        have hown := HOWN.out.ext hx2
        have hs2 := hx2.size
        go_wp2_with (at_builtin; refine wpList_push rfl _ _ 22 rfl El_str rfl [_] rfl rfl (by simp [Value.oneCell']) hown (by omega) (by unfold maxLen; omega) (by omega) ?_; intro a2 c2 w3 hown2 hb2; have HO := hid hown2; clear hown2 hown)
        go_roundw
        case rel => exact ⟨k + 1, j + 1, c2, a2, by omega, by omega, by rw [hkj], by go_num, by rw [hkj, HS.out, strsV_append, ← hkj]; exact HO.out, (hext.trans hx2).thenBelow hb2 (by simp)⟩
        case measure => simp [intOf]; omega
      · obtain rfl : k = x.size := by omega
        have HO := hid hown
        clear hown
        go_wp2_with fail
        go_returns
        exact ⟨a, cap, by rw [H3.out, H4.out, HLE.out]; rfl, by rw [H3.out]; exact HO.out.ownR.mono (by omega), (hE.alloc _).trans hext⟩
end Go.Proofs.Ytlnccdbmchjhlaa
