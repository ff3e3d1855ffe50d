/- Patterns: matching. Conditions stand at each. -/
import Derived.Test.YtfnobjejjjpkoaaCh10a
namespace Go.Proofs.Ytfnobjejjjpkoaa
set_option linter.unusedVariables false
set_option linter.unusedSimpArgs false
open Go Go.RowKit

def vowB (c : Int) : Bool := decide (c = 97 ∨ c = 101 ∨ c = 105 ∨ c = 111 ∨ c = 117)
def letB (p c : Int) : Bool := if p = 46 then true else if p = 64 then vowB c else if p = 35 then !vowB c else decide (p = c)
theorem vow_index (c : Int) (h0 : 0 ≤ c) (h1 : c < 256) : decide (0 ≤ Lib.indexByte [97, 101, 105, 111, 117] c.toNat.toUInt8) = vowB c := by
  have : ∀ x : Fin 256, decide (0 ≤ Lib.indexByte [97, 101, 105, 111, 117] (x.val : Int).toNat.toUInt8) = vowB (x.val : Int) := by decide +kernel
  have h := this ⟨c.toNat, by omega⟩
  have e : ((c.toNat : Nat) : Int) = c := Int.toNat_of_nonneg h0
  simp only [e] at h
  exact h
set_option maxHeartbeats 400000 in
theorem letterMatches_any (p c : Int) (w : World) (h0 : 0 ≤ c) (h1 : c < 256) : Calls Try.prog 89 #[.int .u8 p, .int .u8 c] w (Same (.bool (letB p c)) w) := by
  have H : Hid (letB p c = if p = 46 then true else if p = 64 then vowB c else if p = 35 then !vowB c else decide (p = c)) := hid rfl
  have HV := hid (vow_index c h0 h1)
  go_enter Try.func89, Try.ntmps89
  go_wp2_with (go_at_call 108; refine (Try.strings_IndexByte _ _ _).mono ?_; rintro e w' ⟨rfl, rfl⟩; rw [show (⟨#[97, 101, 105, 111, 117]⟩ : ByteArray).data.toList = [97, 101, 105, 111, 117] from rfl])
  all_goals (go_returns; refine ⟨ret_bool ?_, rfl⟩; rw [H.out, ← HV.out]; simp_all; try rfl)
theorem l10Vowel_any (c : Int) (w : World) : Calls Try.prog 109 #[.int .u8 c] w (Same (.bool (vowB c)) w) := by
  have H : Hid (vowB c = decide (c = 97 ∨ c = 101 ∨ c = 105 ∨ c = 111 ∨ c = 117)) := hid rfl
  go_enter Try.func109, Try.ntmps109
  go_wp2_with fail
  all_goals (go_returns; exact ⟨ret_bool (by rw [H.out, Bool.eq_iff_iff]; simp [*]), rfl⟩)
theorem l10Byte_any (p c : Int) (w : World) (h0 : 0 ≤ c) (h1 : c < 256) : Calls Try.prog 92 #[.int .u8 p, .int .u8 c] w (Same (.bool (letB p c)) w) := by
  have H : Hid (letB p c = if p = 46 then true else if p = 64 then vowB c else if p = 35 then !vowB c else decide (p = c)) := hid rfl
  go_enter Try.func92, Try.ntmps92
  go_wp2_with (go_at_call 109; refine (l10Vowel_any _ _).mono ?_; rintro e w' ⟨rfl, rfl⟩)
  all_goals (go_returns; refine ⟨ret_bool ?_, rfl⟩; rw [H.out]; simp_all; try rfl)

def matchL : List UInt8 → List UInt8 → Bool
  | [], w => w.isEmpty
  | p :: ps, [] => decide ((p.toNat : Int) = 42) && matchL ps []
  | p :: ps, c :: cs => if (p.toNat : Int) = 42 then matchL ps (c :: cs) || matchL (p :: ps) cs else letB p.toNat c.toNat && matchL ps cs
termination_by p w => p.length + w.length
theorem tail_of (s : ByteArray) (a : UInt8) (l : List UInt8) (h : s.data.toList = a :: l) : (s.extract 1 s.size).data.toList = l ∧ (∃ h0 : 0 < s.size, s[0] = a) ∧ s.size = l.length + 1 := by
  have h1 := Lib.extract_to_end s 1
  rw [h] at h1
  have hs : s.size = l.length + 1 := by
    have : s.data.toList.length = l.length + 1 := by rw [h]; rfl
    simpa using this
  refine ⟨h1, ⟨by omega, ?_⟩, hs⟩
  have h0 : 0 < s.data.size := by show 0 < s.size; omega
  show s.data[0] = a
  have : s.data.toList[0]? = some a := by rw [h]; rfl
  rw [Array.getElem?_toList, Array.getElem?_eq_getElem h0] at this
  exact Option.some.inj this

set_option maxHeartbeats 4000000 in
theorem matchAll_any : ∀ (n : Nat) (p s : ByteArray) (w : World), p.size + s.size = n → n ≤ 4000000 → Calls Try.prog 61 #[.string p, .string s] w (fun e w' => e = .returned (.bool (matchL p.data.toList s.data.toList)) ∧ Dr w w')
  := by
    intro n
    induction n using Nat.strongRecOn with | ind n ih => ?_
    intro p s w hn hb
    have IH : Hid (∀ (u v : ByteArray) (w : World), u.size + v.size < n → Calls Try.prog 61 #[.string u, .string v] w (fun e w' => e = .returned (.bool (matchL u.data.toList v.data.toList)) ∧ Dr w w')) :=
      hid (fun u v w h => ih (u.size + v.size) h u v w rfl (by omega))
    clear ih
    cases hp : p.data.toList with
    | nil =>
      have e1 : p.toList.isEmpty = true := by rw [Lib.toList_data, hp]; rfl
      have HS : Hid (matchL [] s.data.toList = s.toList.isEmpty) := hid (by rw [Lib.toList_data, matchL])
      clear hp IH
      go_enter Try.func61, Try.ntmps61
      go_wp2_with fail
      go_returns
      exact ⟨ret_bool HS.out.symm, Dr.refl _⟩
    | cons a ps =>
      have e1 : p.toList.isEmpty = false := by rw [Lib.toList_data, hp]; rfl
      obtain ⟨t1, ⟨t2, t3⟩, t4⟩ := tail_of p a ps hp
      obtain ⟨p', hp'⟩ : ∃ p', p.extract 1 p.size = p' := ⟨_, rfl⟩
      rw [hp'] at t1
      have T1 := hid t1
      have HP := hid hp
      have t5 : p'.size = ps.length := by rw [Lib.size_eq, t1]
      have T5 := hid t5
      have T4 := hid t4
      clear hp t1 t5 t4
      cases hs : s.data.toList with
      | nil =>
        have e2 : s.toList.isEmpty = true := by rw [Lib.toList_data, hs]; rfl
        have HS := hid hs
        have s0 : s.size = 0 := by rw [Lib.size_eq, hs]; rfl
        clear hs
        by_cases h42 : (a.toNat : Int) = 42
        · have HM : Hid (matchL (a :: ps) [] = matchL ps []) := hid (by rw [matchL]; simp [h42])
          have HC := hid (fun w => IH.out p' s w (by rw [T5.out]; have := T4.out; omega))
          simp only [T1.out, HS.out] at HC
          clear IH
          cases hm : matchL ps []
          all_goals
            simp only [hm] at HC HM
            have HM := hid hm
            clear hm
            go_enter Try.func61, Try.ntmps61
            go_wp2_with (go_at_call 61; refine (HC.out _).mono ?_; rintro e w1 ⟨rfl, hD⟩)
            go_returns
            exact ⟨ret_bool (by rw [matchL]; simp [h42, HM.out]), hD⟩
        · have HM : Hid (matchL (a :: ps) [] = false) := hid (by rw [matchL]; simp [h42])
          clear IH
          go_enter Try.func61, Try.ntmps61
          go_wp2_with fail
          go_quiet (fail)
          go_wp2_with fail
          go_returns
          exact ⟨ret_bool HM.out.symm, _, rfl⟩
      | cons c cs =>
        have e2 : s.toList.isEmpty = false := by rw [Lib.toList_data, hs]; rfl
        obtain ⟨r1, ⟨r2, r3⟩, r4⟩ := tail_of s c cs hs
        obtain ⟨s', hs'⟩ : ∃ s', s.extract 1 s.size = s' := ⟨_, rfl⟩
        rw [hs'] at r1
        have R1 := hid r1
        have HS := hid hs
        have r5 : s'.size = cs.length := by rw [Lib.size_eq, r1]
        have R5 := hid r5
        have R4 := hid r4
        clear hs r1 r5 r4
        by_cases h42 : (a.toNat : Int) = 42
        · have HM : Hid (matchL (a :: ps) (c :: cs) = (matchL ps (c :: cs) || matchL (a :: ps) cs)) := hid (by rw [matchL, if_pos h42])
          have HC := hid (fun w => IH.out p' s w (by rw [T5.out]; have := T4.out; omega))
          simp only [T1.out, HS.out] at HC
          have HD := hid (fun w => IH.out p s' w (by rw [R5.out]; have := R4.out; omega))
          simp only [R1.out, HP.out] at HD
          clear IH
          cases hm : matchL ps (c :: cs)
          · rw [hm] at HC
            rw [hm] at HM
            clear hm
            go_enter Try.func61, Try.ntmps61
            go_wp2_with (go_at_call 61; first | (with_reducible refine Calls.mono (HC.out _) ?_; rintro e w1 ⟨rfl, hD⟩) | (with_reducible refine Calls.mono (HD.out _) ?_; rintro e w2 ⟨rfl, hD'⟩))
            go_returns
            exact ⟨ret_bool (by rw [HM.out]; simp), hD.trans hD'⟩
          · rw [hm] at HC
            rw [hm] at HM
            clear hm
            go_enter Try.func61, Try.ntmps61
            go_wp2_with (go_at_call 61; refine (HC.out _).mono ?_; rintro e w1 ⟨rfl, hD⟩)
            go_returns
            exact ⟨ret_bool (by rw [HM.out]; simp), hD⟩
        · have HM : Hid (matchL (a :: ps) (c :: cs) = (letB a.toNat c.toNat && matchL ps cs)) := hid (by rw [matchL, if_neg h42])
          have HC := hid (fun w => IH.out p' s' w (by rw [T5.out, R5.out]; have := T4.out; have := R4.out; omega))
          simp only [T1.out, R1.out] at HC
          have HL := hid (fun w => letterMatches_any a.toNat c.toNat w (by omega) (by have := c.toNat_lt; omega))
          clear IH
          cases hl : letB a.toNat c.toNat
          all_goals
            simp only [hl] at HL HM
            clear hl
            go_enter Try.func61, Try.ntmps61
            go_wp2_with fail
            go_quiet (first | (go_at_call 89; exact Calls.quiet_of_same ((HL.out _).mono fun _ _ h => ⟨h.1, h.2.symm⟩)) | (go_at_call 61; exact Calls.quiet_of (HC.out _)))
            go_wp2_with fail
            go_returns
            exact ⟨ret_bool (by rw [HM.out]; simp), _, rfl⟩
set_option maxHeartbeats 4000000 in
theorem l10Match_any : ∀ (n : Nat) (p s : ByteArray) (w : World), p.size + s.size = n → n ≤ 4000000 → Calls Try.prog 63 #[.string p, .string s] w (fun e w' => e = .returned (.bool (matchL p.data.toList s.data.toList)) ∧ Dr w w')
  := by
    intro n
    induction n using Nat.strongRecOn with | ind n ih => ?_
    intro p s w hn hb
    have IH : Hid (∀ (u v : ByteArray) (w : World), u.size + v.size < n → Calls Try.prog 63 #[.string u, .string v] w (fun e w' => e = .returned (.bool (matchL u.data.toList v.data.toList)) ∧ Dr w w')) :=
      hid (fun u v w h => ih (u.size + v.size) h u v w rfl (by omega))
    clear ih
    cases hp : p.data.toList with
    | nil =>
      have e1 : p.toList.isEmpty = true := by rw [Lib.toList_data, hp]; rfl
      have HS : Hid (matchL [] s.data.toList = s.toList.isEmpty) := hid (by rw [Lib.toList_data, matchL])
      clear hp IH
      go_enter Try.func63, Try.ntmps63
      go_wp2_with fail
      go_returns
      exact ⟨ret_bool HS.out.symm, Dr.refl _⟩
    | cons a ps =>
      have e1 : p.toList.isEmpty = false := by rw [Lib.toList_data, hp]; rfl
      obtain ⟨t1, ⟨t2, t3⟩, t4⟩ := tail_of p a ps hp
      obtain ⟨p', hp'⟩ : ∃ p', p.extract 1 p.size = p' := ⟨_, rfl⟩
      rw [hp'] at t1
      have T1 := hid t1
      have HP := hid hp
      have t5 : p'.size = ps.length := by rw [Lib.size_eq, t1]
      have T5 := hid t5
      have T4 := hid t4
      clear hp t1 t5 t4
      cases hs : s.data.toList with
      | nil =>
        have e2 : s.toList.isEmpty = true := by rw [Lib.toList_data, hs]; rfl
        have HS := hid hs
        have s0 : s.size = 0 := by rw [Lib.size_eq, hs]; rfl
        clear hs
        by_cases h42 : (a.toNat : Int) = 42
        · have HM : Hid (matchL (a :: ps) [] = matchL ps []) := hid (by rw [matchL]; simp [h42])
          have HC := hid (fun w => IH.out p' s w (by rw [T5.out]; have := T4.out; omega))
          simp only [T1.out, HS.out] at HC
          clear IH
          cases hm : matchL ps []
          all_goals
            simp only [hm] at HC HM
            have HM := hid hm
            clear hm
            go_enter Try.func63, Try.ntmps63
            go_wp2_with (go_at_call 63; refine (HC.out _).mono ?_; rintro e w1 ⟨rfl, hD⟩)
            go_returns
            exact ⟨ret_bool (by rw [matchL]; simp [h42, HM.out]), hD⟩
        · have HM : Hid (matchL (a :: ps) [] = false) := hid (by rw [matchL]; simp [h42])
          clear IH
          go_enter Try.func63, Try.ntmps63
          go_wp2_with fail
          go_quiet (fail)
          go_wp2_with fail
          go_returns
          exact ⟨ret_bool HM.out.symm, _, rfl⟩
      | cons c cs =>
        have e2 : s.toList.isEmpty = false := by rw [Lib.toList_data, hs]; rfl
        obtain ⟨r1, ⟨r2, r3⟩, r4⟩ := tail_of s c cs hs
        obtain ⟨s', hs'⟩ : ∃ s', s.extract 1 s.size = s' := ⟨_, rfl⟩
        rw [hs'] at r1
        have R1 := hid r1
        have HS := hid hs
        have r5 : s'.size = cs.length := by rw [Lib.size_eq, r1]
        have R5 := hid r5
        have R4 := hid r4
        clear hs r1 r5 r4
        by_cases h42 : (a.toNat : Int) = 42
        · have HM : Hid (matchL (a :: ps) (c :: cs) = (matchL ps (c :: cs) || matchL (a :: ps) cs)) := hid (by rw [matchL, if_pos h42])
          have HC := hid (fun w => IH.out p' s w (by rw [T5.out]; have := T4.out; omega))
          simp only [T1.out, HS.out] at HC
          have HD := hid (fun w => IH.out p s' w (by rw [R5.out]; have := R4.out; omega))
          simp only [R1.out, HP.out] at HD
          clear IH
          cases hm : matchL ps (c :: cs)
          · rw [hm] at HC
            rw [hm] at HM
            clear hm
            go_enter Try.func63, Try.ntmps63
            go_wp2_with (go_at_call 63; first | (with_reducible refine Calls.mono (HC.out _) ?_; rintro e w1 ⟨rfl, hD⟩) | (with_reducible refine Calls.mono (HD.out _) ?_; rintro e w2 ⟨rfl, hD'⟩))
            go_returns
            exact ⟨ret_bool (by rw [HM.out]; simp), hD.trans hD'⟩
          · rw [hm] at HC
            rw [hm] at HM
            clear hm
            go_enter Try.func63, Try.ntmps63
            go_wp2_with (go_at_call 63; refine (HC.out _).mono ?_; rintro e w1 ⟨rfl, hD⟩)
            go_returns
            exact ⟨ret_bool (by rw [HM.out]; simp), hD⟩
        · have HM : Hid (matchL (a :: ps) (c :: cs) = (letB a.toNat c.toNat && matchL ps cs)) := hid (by rw [matchL, if_neg h42])
          have HC := hid (fun w => IH.out p' s' w (by rw [T5.out, R5.out]; have := T4.out; have := R4.out; omega))
          simp only [T1.out, R1.out] at HC
          have HL := hid (fun w => l10Byte_any a.toNat c.toNat w (by omega) (by have := c.toNat_lt; omega))
          clear IH
          cases hl : letB a.toNat c.toNat
          all_goals
            simp only [hl] at HL HM
            clear hl
            go_enter Try.func63, Try.ntmps63
            go_wp2_with fail
            go_quiet (first | (go_at_call 92; exact Calls.quiet_of_same ((HL.out _).mono fun _ _ h => ⟨h.1, h.2.symm⟩)) | (go_at_call 63; exact Calls.quiet_of (HC.out _)))
            go_wp2_with fail
            go_returns
            exact ⟨ret_bool (by rw [HM.out]; simp), _, rfl⟩
def mpOk (p s : ByteArray) : Bool := patOk p && (wordOk s && matchL p.data.toList s.data.toList)
theorem MatchPattern_any (p s : ByteArray) (w : World) (hp : p.size ≤ 1048576) (hs : s.size ≤ 1048576) : Calls Try.prog 30 #[.string p, .string s] w (Ret (.bool (mpOk p s)) w) := by
  have H : Hid (mpOk p s = (patOk p && (wordOk s && matchL p.data.toList s.data.toList))) := hid rfl
  go_enter Try.func30, Try.ntmps30
  go_wp2_with fail
  refine (ValidPattern_any _ _ hp).mono ?_
  rintro e w1 ⟨rfl, rfl⟩
  cases h1 : patOk p
  · have H1 := hid h1
    go_wp2_with fail
    go_returns
    exact ⟨ret_bool (by rw [H.out, H1.out]; rfl), Ext.refl _⟩
  · have H1 := hid h1
    go_wp2_with fail
    refine (IsWord_any _ _ hs).mono ?_
    rintro e w1 ⟨rfl, hx⟩
    cases h2 : wordOk s
    · have H2 := hid h2
      go_wp2_with fail
      go_returns
      exact ⟨ret_bool (by rw [H.out, H1.out, H2.out]; rfl), hx⟩
    · have H2 := hid h2
      go_wp2_with fail
      refine (matchAll_any _ p s _ rfl (by omega)).mono ?_
      rintro e w2 ⟨rfl, hD⟩
      go_wp2_with fail
      go_returns
      exact ⟨ret_bool (by rw [H.out, H1.out, H2.out]; rfl), hx.trans hD.ext⟩
theorem sMatchPattern_any (p s : ByteArray) (w : World) (hp : p.size ≤ 1048576) (hs : s.size ≤ 1048576) : Calls Try.prog 31 #[.string p, .string s] w (Ret (.bool (mpOk p s)) w) := by
  have H : Hid (mpOk p s = (patOk p && (wordOk s && matchL p.data.toList s.data.toList))) := hid rfl
  go_enter Try.func31, Try.ntmps31
  go_wp2_with fail
  refine (l10Ok_any _ _ hp).mono ?_
  rintro e w1 ⟨rfl, rfl⟩
  cases h1 : patOk p
  · have H1 := hid h1
    go_wp2_with fail
    go_returns
    exact ⟨ret_bool (by rw [H.out, H1.out]; rfl), Ext.refl _⟩
  · have H1 := hid h1
    go_wp2_with fail
    refine (sIsWord_any _ _ hs).mono ?_
    rintro e w1 ⟨rfl, rfl⟩
    cases h2 : wordOk s
    · have H2 := hid h2
      go_wp2_with fail
      go_returns
      exact ⟨ret_bool (by rw [H.out, H1.out, H2.out]; rfl), Ext.refl _⟩
    · have H2 := hid h2
      go_wp2_with fail
      refine (l10Match_any _ p s _ rfl (by omega)).mono ?_
      rintro e w2 ⟨rfl, hD⟩
      go_wp2_with fail
      go_returns
      exact ⟨ret_bool (by rw [H.out, H1.out, H2.out]; rfl), hD.ext⟩
end Go.Proofs.Ytfnobjejjjpkoaa
