/- A form cut at its sign, by both. Conditions: at most 2^20 bytes. -/
import Derived.Test.YtbgmpecifjdepaaCh09a
import Derived.Test.YtbgmpecifjdepaaShelf
import Derived.Test.YtbgmpecifjdepaaStrV
import Derived.Lib.IndexLaws
namespace Go.Proofs.Ytbgmpecifjdepaa
set_option linter.unusedVariables false
set_option linter.unusedSimpArgs false
open Go Go.RowKit
def posS (s : ByteArray) : Int := Go.Lib.indexByte s.data.toList 62
def cutB (s : ByteArray) : ByteArray := if 0 ≤ posS s then s.extract 0 (posS s).toNat else s
def cutE (s : ByteArray) : ByteArray := if 0 ≤ posS s then s.extract ((posS s).toNat + 1) s.size else ⟨#[]⟩
theorem at_some {s : ByteArray} {k : Nat} (h : k < s.size) : s.data.toList[k]? = some (bAt s k) := by
  rw [Array.getElem?_toList, ← bAt_eq s k h]
  exact Array.getElem?_eq_getElem h
theorem posS_cases (s : ByteArray) : (posS s = -1 ∧ ∀ k, k < s.size → bAt s k ≠ 62) ∨ ∃ j : Nat, posS s = j ∧ j < s.size ∧ bAt s j = 62 ∧ ∀ k, k < j → bAt s k ≠ 62 := by
  have hge := Go.Lib.indexByte_ge s.data.toList 62
  by_cases h : posS s = -1
  · refine .inl ⟨h, fun k hk hb => ?_⟩
    exact Go.Lib.indexByte_none h k (by rw [at_some hk, hb])
  · obtain ⟨j, hj⟩ : ∃ j : Nat, posS s = j := ⟨(posS s).toNat, by unfold posS at h ⊢; omega⟩
    obtain ⟨h1, h2⟩ := Go.Lib.indexByte_some (show Go.Lib.indexByte s.data.toList 62 = (j : Int) from hj)
    have hjs : j < s.size := by
      have := (List.getElem?_eq_some_iff.1 h1).1
      simpa using this
    refine .inr ⟨j, hj, hjs, ?_, fun k hk hb => h2 k hk (by rw [at_some (by omega), hb])⟩
    rw [at_some hjs] at h1
    simpa using h1
/-- Pieces between signs, and where the next one begins. -/
def cutS (s : ByteArray) : Nat → List ByteArray × Nat
  | 0 => ([], 0)
  | k + 1 => if bAt s k = 62 then ((cutS s k).1 ++ [s.extract (cutS s k).2 k], k + 1) else cutS s k
theorem cutS_le (s : ByteArray) (k : Nat) : (cutS s k).2 ≤ k ∧ (cutS s k).1.length ≤ k := by
  induction k with
  | zero => simp [cutS]
  | succ k ih =>
    unfold cutS
    split
    · simp; omega
    · omega
theorem cutS_none (s : ByteArray) (k : Nat) (h : ∀ i, i < k → bAt s i ≠ 62) : cutS s k = ([], 0) := by
  induction k with
  | zero => rfl
  | succ k ih =>
    unfold cutS
    rw [if_neg (h k (by omega))]
    exact ih fun i hi => h i (by omega)
theorem cutS_one (s : ByteArray) (j m : Nat) (h0 : ∀ i, i < j → bAt s i ≠ 62) (h1 : bAt s j = 62) (h : ∀ i, j < i → i < j + 1 + m → bAt s i ≠ 62) : cutS s (j + 1 + m) = ([s.extract 0 j], j + 1) := by
  induction m with
  | zero =>
    show cutS s (j + 1) = _
    unfold cutS
    rw [if_pos h1, cutS_none s j h0]
    rfl
  | succ m ih =>
    show cutS s (j + 1 + m + 1) = _
    unfold cutS
    rw [if_neg (h _ (by omega) (by omega))]
    exact ih fun i hi hk => h i hi (by omega)
theorem cutS_mono (s : ByteArray) (k m : Nat) : (cutS s k).1.length ≤ (cutS s (k + m)).1.length := by
  induction m with
  | zero => exact Nat.le_refl _
  | succ m ih =>
    refine Nat.le_trans ih ?_
    show _ ≤ (cutS s (k + m + 1)).1.length
    rw [cutS]
    split
    · simp
    · exact Nat.le_refl _
theorem cutS_step (s : ByteArray) (k : Nat) (h : bAt s k = 62) : (cutS s (k + 1)).1.length = (cutS s k).1.length + 1 := by
  rw [cutS, if_pos h]
  simp
def splitL (s : ByteArray) : List ByteArray := (cutS s s.size).1 ++ [s.extract (cutS s s.size).2 s.size]
theorem splitL_length (s : ByteArray) : (splitL s).length = (cutS s s.size).1.length + 1 := by simp [splitL]
theorem extract_whole (s : ByteArray) : s.extract 0 s.size = s := by simp
theorem split_cases (s : ByteArray) : (posS s = -1 ∧ splitL s = [s]) ∨ (∃ j : Nat, posS s = j ∧ j < s.size ∧ bAt s j = 62 ∧ splitL s = [s.extract 0 j, s.extract (j + 1) s.size]) ∨ (2 < (splitL s).length ∧ ∃ j p : Nat, posS s = j ∧ j < p ∧ p < s.size ∧ bAt s p = 62) := by
  rcases posS_cases s with ⟨h1, h2⟩ | ⟨j, h1, h2, h3, h4⟩
  · refine .inl ⟨h1, ?_⟩
    unfold splitL
    rw [cutS_none s _ h2, extract_whole]
    rfl
  · by_cases hp : ∃ p, j < p ∧ p < s.size ∧ bAt s p = 62
    · obtain ⟨p, p1, p2, p3⟩ := hp
      refine .inr (.inr ⟨?_, j, p, h1, p1, p2, p3⟩)
      rw [splitL_length]
      have a1 := cutS_step s j h3
      have a2 := cutS_mono s (j + 1) (p - (j + 1))
      rw [show j + 1 + (p - (j + 1)) = p by omega] at a2
      have a3 := cutS_step s p p3
      have a4 := cutS_mono s (p + 1) (s.size - (p + 1))
      rw [show p + 1 + (s.size - (p + 1)) = s.size by omega] at a4
      omega
    · refine .inr (.inl ⟨j, h1, h2, h3, ?_⟩)
      unfold splitL
      have e := cutS_one s j (s.size - (j + 1)) h4 h3 (fun i hi hk hb => hp ⟨i, hi, by omega, hb⟩)
      rw [show j + 1 + (s.size - (j + 1)) = s.size by omega] at e
      rw [e]
      rfl
set_option maxHeartbeats 1000000 in
theorem cut_any (s : ByteArray) (w : World) (hs : s.size ≤ 1048576) : Calls Try.prog 40 #[.string s, .string ⟨#[62]⟩] w (Ret (.tuple #[.string (cutB s), .string (cutE s), .bool (decide (0 ≤ posS s))]) w) := by
  have HB : Hid (cutB s = if 0 ≤ posS s then s.extract 0 (posS s).toNat else s) := hid rfl
  have HE : Hid (cutE s = if 0 ≤ posS s then s.extract ((posS s).toNat + 1) s.size else ⟨#[]⟩) := hid rfl
  have HI := hid (Try.stringslite_Index_one s 62 w)
  change Hid (Calls Try.prog _ _ w fun e w' => e = .returned (.int .i64 (posS s)) ∧ w' = w) at HI
  rcases posS_cases s with ⟨h1, h2⟩ | ⟨j, h1, h2, h3, h4⟩
  · rw [h1] at HI HB HE
    rw [h1, HB.out, HE.out]
    clear h1 h2 HB HE
    go_enter Try.func40, Try.ntmps40
    go_wp2_with fail
    refine HI.out.mono ?_
    rintro e w1 ⟨rfl, rfl⟩
    go_wp2_with fail
    go_returns
    exact ⟨rfl, Ext.refl _⟩
  · rw [h1] at HI HB HE
    rw [h1]
    rw [if_pos (by omega), Int.toNat_natCast] at HB HE
    clear h1 h3 h4
    obtain ⟨B, hB⟩ : ∃ B, cutB s = B := ⟨_, rfl⟩
    obtain ⟨E, hE⟩ : ∃ E, cutE s = E := ⟨_, rfl⟩
    rw [hB] at HB ⊢
    rw [hE] at HE ⊢
    clear hB hE
    go_enter Try.func40, Try.ntmps40
    go_wp2_with fail
    refine HI.out.mono ?_
    rintro e w1 ⟨rfl, rfl⟩
    go_wp2_with fail
    go_quiet (fail)
    go_wp2_with fail
    go_returns
    exact ⟨by rw [HB.out, HE.out, decide_eq_true (by omega)]; rfl, (Ext.refl _).drewN _⟩
theorem sCut_any (s : ByteArray) (w : World) (hs : s.size ≤ 1048576) : Calls Try.prog 25 #[.string s, .string ⟨#[62]⟩] w (Ret (.tuple #[.string (cutB s), .string (cutE s), .bool (decide (0 ≤ posS s))]) w) := by
  have HC := hid (cut_any s w hs)
  go_enter Try.func25, Try.ntmps25
  go_wp2_with fail
  refine HC.out.mono ?_
  rintro e w1 ⟨rfl, hx⟩
  go_wp2_with fail
  go_returns
  exact ⟨rfl, hx⟩
def RetP (l : List ByteArray) (w : World) (e : Ending) (w' : World) : Prop := ∃ a c, e = .returned (.slice a l.length c) ∧ Rd w' a (strsV l) ∧ Ext w w'
set_option maxHeartbeats 1000000 in
theorem l01Split_any (s : ByteArray) (w : World) (hs : s.size ≤ 1048576) : Calls Try.prog 39 #[.string s, .int .u8 62] w (RetP (splitL s) w) := by
  have HLE := hid (cutS_le s)
  have HST : Hid (∀ k (hk : k < s.size), cutS s (k + 1) = if s[k] = 62 then ((cutS s k).1 ++ [s.extract (cutS s k).2 k], k + 1) else cutS s k) := hid (fun k hk => by rw [bAt_eq s k hk]; rfl)
  have HSP : Hid (splitL s = (cutS s s.size).1 ++ [s.extract (cutS s s.size).2 s.size]) := hid rfl
  have HSL := hid (splitL_length s)
  go_enter Try.func39, Try.ntmps39
  go_wp2_with fail
  go_loopw [5, 6, 7] (fun v f i wr => ∃ (k m p cap : Nat) (a' : Option Addr), k ≤ s.size ∧ m ≤ k ∧ p ≤ k ∧ i = .int .i64 k ∧ f = .int .i64 p ∧ v = .slice a' m cap ∧ Hid (m = (cutS s k).1.length) ∧ Hid (p = (cutS s k).2) ∧ Hid (Own wr w.heap.size 9 1 a' m cap (strsV (cutS s k).1)) ∧ Ext w wr) (fun _ _ i _ => s.size - (intOf i).toNat)
  case atStart => exact ⟨0, 0, 0, 0, some ⟨w.heap.size, 0, none⟩, by omega, by omega, by omega, rfl, rfl, rfl, hid rfl, hid rfl, hid (Own.empty _ _ _ _ _), (Ext.refl _).alloc _⟩
  case round =>
    obtain ⟨k, m, p, cap, a', hk, hmk, hpk, rfl, rfl, rfl, hm, hp, hown, hx⟩ := hrel
    have hsz := hx.size
    by_cases hlt : k < s.size
    · have HT1 := hid (HST.out k hlt)
      obtain ⟨u, hu⟩ : ∃ u, s[k] = u := ⟨_, rfl⟩
      have HU := hid hu
      rw [hu] at HT1
      by_cases h62 : u = 62
      · subst h62
        have h62' : s[k].toNat = 62 := by rw [hu]; rfl
        have hown2 := hown.out
        have HP : Hid (s.extract p k = s.extract (cutS s k).2 k) := hid (by rw [hp.out])
        go_wp2_with (at_builtin; refine wpList_push rfl _ _ 22 rfl El_str rfl [_] rfl rfl (by simp [Value.oneCell']) hown2 (by omega) (by unfold maxLen; omega) (by omega) ?_; intro a2 c3 w3 hown3 hb2; have HO := hid hown3; clear hown3 hown2)
        go_roundw
        case rel => exact ⟨k + 1, m + 1, k + 1, c3, a2, by omega, by omega, by omega, by go_num, by go_num, rfl, hid (by rw [HT1.out, if_pos rfl]; simp [← hm.out]), hid (by rw [HT1.out, if_pos rfl]), hid (by rw [HT1.out, if_pos rfl, strsV_append, ← HP.out]; exact HO.out), hx.thenBelow hb2 (by omega)⟩
        case measure => simp [intOf]; omega
      · have q62 : ((u.toNat : Int) == 62) = false := by
          rw [beq_eq_false_iff_ne]
          intro e
          exact h62 (UInt8.toNat_inj.1 (by show u.toNat = 62; omega))
        go_wp2_with fail
        go_roundw
        case rel => exact ⟨k + 1, m, p, cap, a', by omega, by omega, by omega, by go_num, rfl, rfl, hid (by rw [HT1.out, if_neg h62]; exact hm.out), hid (by rw [HT1.out, if_neg h62]; exact hp.out), hid (by rw [HT1.out, if_neg h62]; exact hown.out), hx⟩
        case measure => simp [intOf]; omega
    · obtain rfl : k = s.size := by omega
      have hown2 := hown.out
      have HP : Hid (s.extract p s.size = s.extract (cutS s s.size).2 s.size) := hid (by rw [hp.out])
      go_wp2_with (at_builtin; refine wpList_push rfl _ _ 22 rfl El_str rfl [_] rfl rfl (by simp [Value.oneCell']) hown2 (by omega) (by unfold maxLen; omega) (by omega) ?_; intro a2 c3 w3 hown3 hb2; have HO := hid hown3; clear hown3 hown2)
      go_returns
      exact ⟨a2, c3, by rw [HSL.out, ← hm.out]; rfl, by rw [HSP.out, strsV_append, ← HP.out]; exact HO.out.rd, hx.thenBelow hb2 (by omega)⟩
end Go.Proofs.Ytbgmpecifjdepaa
